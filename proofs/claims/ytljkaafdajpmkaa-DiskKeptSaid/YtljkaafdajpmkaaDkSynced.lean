/- DiskSynced, walked. -/
import Derived.Test.YtljkaafdajpmkaaDkAwake
namespace Go.Proofs.Ytljkaafdajpmkaa
open Go.RowKit
set_option linter.unusedVariables false

/-- Power is on, no cut is armed, and F lies there. -/
structure Calm (F : Files) (S : DiskS) : Prop where
  down : S.down = false
  left : S.left = 0
  lies : S.lies = F
theorem Calm.wait {F : Files} {S : DiskS} (h : Calm F S) (e : Eff) : Calm F (S.wait e).2 := by
  unfold DiskS.wait
  have hf : (S.waitTo e).fails = (false, S.waitTo e) := by
    unfold DiskS.fails
    have : (S.waitTo e).left = 0 := h.left
    rw [if_pos this]
  split
  · exact h
  · rw [hf]
    exact ⟨h.down, h.left, h.lies⟩
theorem Calm.act {F : Files} {S : DiskS} (h : Calm F S) (a : Act) (h1 : 1 ≤ a.kind) (h3 : a.kind ≤ 3) : Calm F (S.act a).2 := by
  unfold DiskS.act
  split
  · show Calm F (S.write _ _).2
    unfold DiskS.write
    repeat' split
    all_goals first | exact h | exact h.wait _
  · split
    · show Calm F (S.rename _ _).2
      unfold DiskS.rename
      repeat' split
      all_goals first | exact h | exact h.wait _
    · split
      · show Calm F (S.remove _).2
        unfold DiskS.remove
        repeat' split
        all_goals first | exact h | exact h.wait _
      · omega
theorem Calm.fresh (room : Int) : Calm [] (DiskS.fresh room) := ⟨rfl, rfl, rfl⟩
/-- Behind a sync. -/
structure Synced (F : Files) (S : DiskS) : Prop extends Calm F S where
  seen : S.seen = F
  waits : S.waits = []
theorem Calm.sync {F : Files} {S : DiskS} (h : Calm F S) : S.sync.1 = 0 ∧ Synced S.seen S.sync.2 := by
  have hf : S.fails = (false, S) := by
    unfold DiskS.fails
    rw [if_pos h.left]
  unfold DiskS.sync
  rw [h.down, hf]
  simp only [if_false, Bool.false_eq_true]
  refine ⟨trivial, ⟨⟨h.down, h.left, rfl⟩, rfl, rfl⟩⟩
theorem kept_zero : ∀ (ws : List Eff) (F : Files), keptDo F ws 0 = F
  | [], F => rfl
  | e :: ws, F => by
    unfold keptDo
    exact kept_zero ws F
/-- A sync at which power fails, and nothing is kept. -/
theorem Calm.lost {F : Files} {S : DiskS} (h : Calm F S) : (S.armed2 1 0).sync.1 = 8 ∧ Synced F (S.armed2 1 0).sync.2.started := by
  have ha : S.armed2 1 0 = { S with left := 1, keep := 0 } := rfl
  have hf : ({ S with left := 1, keep := 0 } : DiskS).fails = (true, { S with left := 0, keep := 0 }) := rfl
  have hd : ({ S with left := 1, keep := 0 } : DiskS).down = false := h.down
  rw [ha]
  unfold DiskS.sync
  rw [hf, hd]
  simp only [if_true, if_false, Bool.false_eq_true]
  refine ⟨trivial, ⟨⟨rfl, rfl, ?_⟩, ?_, rfl⟩⟩
  · show keptDo S.lies _ 0 = F
    rw [kept_zero, h.lies]
  · show keptDo S.lies _ 0 = F
    rw [kept_zero, h.lies]
theorem Synced.list_eq {F : Files} {S T : DiskS} (h : Synced F S) (h2 : Synced F T) (p : ByteArray) : S.list p = T.list p := by
  have : S.shows p = T.shows p := by
    funext k
    unfold DiskS.shows
    rw [h.down, h2.down]
  unfold DiskS.list
  rw [this, h.seen, h2.seen]
theorem Synced.taken_eq {F : Files} {S T : DiskS} (h : Synced F S) (h2 : Synced F T) : S.taken = T.taken := by
  unfold DiskS.taken
  rw [h.down, h2.down, h.seen, h2.seen]
theorem mget_of_mem {F : Files} {x : ByteArray} (h : x ∈ F.map (·.1)) : ∃ t, mget F x = some t := by
  cases hg : mget F x with
  | some t => exact ⟨t, rfl⟩
  | none =>
    obtain ⟨p, hp, rfl⟩ := List.mem_map.1 h
    exact absurd rfl ((mget_none_iff F p.1).1 hg p hp)
theorem Synced.read {F : Files} {S : DiskS} (h : Synced F S) {x t : ByteArray} (hx : mget F x = some t) : S.read x = (t, 0) := by
  unfold DiskS.read
  rw [h.down, h.seen, hx]
  rfl
theorem list_mem {S : DiskS} {p x : ByteArray} (h : x ∈ S.list p) : x ∈ S.seen.map (·.1) := by
  unfold DiskS.list at h
  rw [sortKeys_mem] at h
  exact (List.mem_filter.1 h).1

/-- The blocks of a disk. -/
def blocksOf (g b1 b2 : Nat) (A : Option Addr) : List Nat := g :: b1 :: b2 :: (match A with
  | some a => [a.block]
  | none => [])
/-- A disk that nobody writes to, at the blocks L. -/
def CIn (w W : World) (L : List Nat) (g : Nat) (S : DiskS) : Prop := ∃ b1 b2 A c, DSt w W [] g b1 b2 A c S ∧ L = blocksOf g b1 b2 A
theorem CIn.din {w W : World} {L : List Nat} {g : Nat} {S : DiskS} (h : CIn w W L g S) : DIn w W [] g S := by
  obtain ⟨b1, b2, A, c, h, _⟩ := h
  exact ⟨b1, b2, A, c, h⟩
theorem ArgAt.keep {W W' : World} {A : Option Addr} {cells : List Value} (h : ArgAt W A cells) (hs : W.heap.size ≤ W'.heap.size) (hk : ∀ k, A = some ⟨k, 0, none⟩ → W'.heap[k]? = W.heap[k]?) : ArgAt W' A cells := fun j u hu => by
  obtain ⟨g, hA, hg, hc⟩ := h j u hu
  exact ⟨g, hA, by omega, (World.cell?_of_block (w := W) (hk g hA)).trans hc⟩
theorem CIn.keep {w W W' : World} {L : List Nat} {g : Nat} {S : DiskS} (h : CIn w W L g S) (hk : KeepB L W W') (ho : Only [] w W') : CIn w W' L g S := by
  obtain ⟨b1, b2, A, c, h, rfl⟩ := h
  refine ⟨b1, b2, A, c, ⟨⟨(hk.2 g (by simp [blocksOf])).trans h.at_.blk, h.at_.lies.keep (hk.2 b1 (by simp [blocksOf])), h.at_.seen.keep (hk.2 b2 (by simp [blocksOf])), h.at_.ne,
    h.at_.waits.keep hk.1 (fun k hA => hk.2 k (by simp [blocksOf, hA])), h.at_.cap, h.at_.apart, h.at_.nil⟩, ho, h.lo, by simp⟩, rfl⟩
def CopyIn (w W : World) (K : List Nat) (g : Nat) (S : DiskS) (e : Ending) (W' : World) : Prop :=
  ∃ gc L, e = .returned (.pointer (some ⟨gc, 0, none⟩)) ∧ DIn w W' (L ++ K) g S ∧ CIn w W' L gc S ∧ KeepB K W W'
theorem copy_in {w W : World} {K : List Nat} {g n : Nat} {S : DiskS} (hs : Sound n S) (hn : n ≤ 90000) (h : DIn w W K g S) :
    Calls Try.prog 33 #[.pointer (some ⟨g, 0, none⟩)] W (CopyIn w W K g S) := by
  obtain ⟨b1, b2, A, c, hd⟩ := h
  have h : DIn w W K g S := ⟨b1, b2, A, c, hd⟩
  refine (copy_any g b1 b2 A c S W hd.at_ (by have := hs.lies; have := szs_len S.waits; omega)).mono fun e W' hp => ?_
  obtain ⟨gc, d1, d2, B, cc, he, hat, ho, z0, z1, z2, z3⟩ := hp
  have hz := h.only.size
  refine ⟨gc, blocksOf gc d1 d2 B, he, h.more ho (fun k hk => ?_), ⟨d1, d2, B, cc, ⟨hat, h.only.trans ho (by simp), ⟨by omega, by omega⟩, by simp⟩, rfl⟩, h.keepB ho⟩
  have l0 := hat.lt
  have l1 := hat.lies.lt
  have l2 := hat.seen.lt
  simp only [blocksOf, List.mem_cons] at hk
  rcases hk with rfl | rfl | rfl | hk
  · omega
  · omega
  · omega
  · cases hw : S.waits with
    | nil => rw [(hat.nil hw).1] at hk; cases hk
    | cons e0 ws =>
      obtain ⟨kk, hkk, hlt, _⟩ := hat.waits 0 (.int .i64 e0.kind) (by rw [hw]; rfl)
      subst hkk
      obtain rfl : k = kk := by simpa using hk
      exact ⟨z3 k rfl, hlt⟩
end Go.Proofs.Ytljkaafdajpmkaa
