/- A disk behind its pointer, in a law; how large it may grow. -/
import Derived.Test.YtljkaafdajpmkaaDkCopy
namespace Go.Proofs.Ytljkaafdajpmkaa
open Go.RowKit
set_option linter.unusedVariables false

/-- How many files there are, and what they take. -/
def wt : Files → Nat
  | [] => 0
  | p :: l => 1 + p.1.size + p.2.size + wt l
def Eff.sz (e : Eff) : Nat := 1 + e.path.size + e.text.size
def szs : List Eff → Nat
  | [] => 0
  | e :: l => e.sz + szs l
theorem szs_append (a b : List Eff) : szs (a ++ b) = szs a + szs b := by
  induction a with
  | nil => simp [szs]
  | cons e a ih => simp only [List.cons_append, szs, ih]; omega
theorem szs_len (l : List Eff) : l.length ≤ szs l := by
  induction l with
  | nil => simp [szs]
  | cons e l ih => simp only [List.length_cons, szs, Eff.sz]; omega
theorem took_wt (l : Files) : tookOf l + l.length = wt l := by
  induction l with
  | nil => rfl
  | cons p l ih => simp only [tookOf, wt, List.length_cons]; omega
theorem wt_mem {l : Files} {q : ByteArray × ByteArray} (h : q ∈ l) : q.1.size + q.2.size ≤ wt l := by
  induction l with
  | nil => cases h
  | cons p l ih =>
    simp only [wt]
    cases h with
    | head => omega
    | tail _ h => have := ih h; omega
theorem wt_put (l : Files) (k v : ByteArray) : wt (mput l k v) ≤ wt l + 1 + k.size + v.size := by
  induction l with
  | nil => simp [wt, mput]
  | cons p l ih =>
    unfold mput
    split
    · simp only [wt]; omega
    · simp only [wt]; omega
theorem wt_del (l : Files) (k : ByteArray) : wt (mdel l k) ≤ wt l := by
  induction l with
  | nil => simp [wt, mdel]
  | cons p l ih =>
    unfold mdel
    split
    · simp only [wt]; omega
    · simp only [wt]; omega
theorem wt_del_at {l : Files} {k x : ByteArray} (h : mget l k = some x) : wt (mdel l k) + 1 + k.size + x.size ≤ wt l := by
  induction l with
  | nil => simp [mget] at h
  | cons p l ih =>
    unfold mget at h
    unfold mdel
    split at h
    · rename_i hk
      injection h with h
      subst hk h
      simp only [if_true, wt]
      omega
    · rename_i hk
      rw [if_neg hk]
      have := ih h
      simp only [wt]
      omega
theorem wt_do (l : Files) (e : Eff) : wt (effDo l e) ≤ wt l + e.sz := by
  unfold effDo Eff.sz
  split
  · have := wt_put l e.path e.text; omega
  · split
    · split
      · rename_i x hx
        have h1 := wt_del_at hx
        have h2 := wt_put (mdel l e.path) e.text x
        omega
      · omega
    · split
      · have := wt_del l e.path; omega
      · omega
theorem wt_kept : ∀ (ws : List Eff) (l : Files) (k : Nat), wt (keptDo l ws k) ≤ wt l + szs ws
  | [], l, k => by simp [keptDo, szs]
  | e :: ws, l, k => by
    unfold keptDo
    have h := wt_kept ws (if k % 2 = 1 then effDo l e else l) (k / 2)
    have h2 := wt_do l e
    simp only [szs]
    split
    · rename_i hk; rw [if_pos hk] at h; omega
    · rename_i hk; rw [if_neg hk] at h; omega
theorem szs_take (l : List Eff) (k : Nat) : szs (l.take k) ≤ szs l := by
  have := szs_append (l.take k) (l.drop k)
  rw [List.take_append_drop] at this
  omega

/-- What a disk may hold, so that no call of it can run over. -/
structure Sound (n : Nat) (S : DiskS) : Prop where
  left : 0 ≤ S.left ∧ S.left ≤ 9223372036854775807
  keep : 0 ≤ S.keep ∧ S.keep < 18446744073709551616
  lies : wt S.lies + szs S.waits ≤ n
  seen : wt S.seen ≤ n
section
variable {n : Nat} {S : DiskS}
theorem Sound.le {m : Nat} (h : Sound n S) (hn : n ≤ m) : Sound m S := ⟨h.left, h.keep, Nat.le_trans h.lies hn, Nat.le_trans h.seen hn⟩
theorem Sound.fit (h : Sound n S) (hn : n ≤ 900000) : S.Fit := ⟨h.left, h.keep, by have := h.lies; have := szs_len S.waits; omega⟩
theorem Sound.took (h : Sound n S) (hn : n ≤ 900000) : tookOf S.seen ≤ 4611686018427387904 := by have := h.seen; have := took_wt S.seen; omega
theorem Sound.len (h : Sound n S) (hn : n ≤ 900000) : S.seen.length ≤ 100000000 := by have := h.seen; have := took_wt S.seen; omega
theorem Sound.mem (h : Sound n S) (hn : n ≤ 90000) {q : ByteArray × ByteArray} (hq : q ∈ S.seen) : q.1.size ≤ maxLen := by have := h.seen; have := wt_mem hq; unfold maxLen; omega
theorem Sound.fresh (room : Int) : Sound 0 (DiskS.fresh room) := ⟨by simp [DiskS.fresh], by simp [DiskS.fresh], by simp [DiskS.fresh, wt, szs], by simp [DiskS.fresh, wt]⟩
theorem Sound.failed (h : Sound n S) : Sound n S.failed := by
  have h1 := wt_kept (S.waits.take 64) S.lies S.keep.toNat
  have h2 := szs_take S.waits 64
  have h3 := h.lies
  refine ⟨by simp [DiskS.failed], by simp [DiskS.failed], ?_, ?_⟩
  · show wt (keptDo _ _ _) + 0 ≤ n
    omega
  · show wt (keptDo _ _ _) ≤ n
    omega
theorem Sound.fails (h : Sound n S) : Sound n S.fails.2 := by
  unfold DiskS.fails
  split
  · exact h
  · rename_i h0
    exact ⟨⟨by have := h.left; show (0 : Int) ≤ S.left - 1; omega, by have := h.left; show S.left - 1 ≤ _; omega⟩, h.keep, h.lies, h.seen⟩
theorem Sound.waitTo (h : Sound n S) (e : Eff) : Sound (n + e.sz) (S.waitTo e) := by
  refine ⟨h.left, h.keep, ?_, ?_⟩
  · show wt S.lies + szs (S.waits ++ [e]) ≤ _
    have := h.lies
    rw [szs_append]
    simp only [szs]
    omega
  · show wt (effDo S.seen e) ≤ _
    have := wt_do S.seen e
    have := h.seen
    omega
theorem Sound.wait (h : Sound n S) (e : Eff) : Sound (n + e.sz) (S.wait e).2 := by
  unfold DiskS.wait
  split
  · exact h.le (by omega)
  · split
    · exact (h.waitTo e).fails.failed
    · exact (h.waitTo e).fails
theorem Sound.write (h : Sound n S) (p t : ByteArray) : Sound (n + (1 + p.size + t.size)) (S.write p t).2 := by
  unfold DiskS.write
  split
  · exact h.le (by omega)
  · split
    · exact (h.wait ⟨0, p, t⟩).le (by simp only [Eff.sz]; omega)
    · exact h.le (by omega)
theorem Sound.rename (h : Sound n S) (p t : ByteArray) : Sound (n + (1 + p.size + t.size)) (S.rename p t).2 := by
  unfold DiskS.rename
  split
  · exact h.le (by omega)
  · split
    · split
      · exact (h.wait ⟨1, p, t⟩).le (by simp only [Eff.sz]; omega)
      · exact h.le (by omega)
    · exact h.le (by omega)
theorem Sound.remove (h : Sound n S) (p : ByteArray) : Sound (n + (1 + p.size)) (S.remove p).2 := by
  unfold DiskS.remove
  split
  · exact h.le (by omega)
  · split
    · exact (h.wait ⟨2, p, ⟨#[]⟩⟩).le (by have : (⟨#[]⟩ : ByteArray).size = 0 := rfl; simp only [Eff.sz]; omega)
    · exact h.le (by omega)
theorem Sound.sync (h : Sound n S) : Sound n S.sync.2 := by
  unfold DiskS.sync
  split
  · exact h
  · split
    · exact h.fails.failed
    · have hf := h.fails
      exact ⟨hf.left, hf.keep, by have := hf.seen; show wt S.fails.2.seen + 0 ≤ n; omega, hf.seen⟩
theorem Sound.armed (h : Sound n S) {k m : Int} (hk : k ≤ 9223372036854775807) (hm : 0 ≤ m ∧ m < 18446744073709551616) : Sound n (S.armed2 k m) := by
  unfold DiskS.armed2
  split
  · exact ⟨by simp, by simp, h.lies, h.seen⟩
  · exact ⟨by simp only; omega, hm, h.lies, h.seen⟩
theorem Sound.started (h : Sound n S) : Sound n S.started := ⟨h.left, h.keep, h.lies, h.seen⟩
end

/-- The blocks K are as they were. -/
def KeepB (K : List Nat) (W W' : World) : Prop := W.heap.size ≤ W'.heap.size ∧ ∀ k ∈ K, W'.heap[k]? = W.heap[k]?
/-- A disk that was made behind the world w; the blocks K are none of its. -/
structure DSt (w W : World) (K : List Nat) (g b1 b2 : Nat) (A : Option Addr) (c : Nat) (S : DiskS) : Prop where
  at_ : DiskAt W g b1 b2 A c S
  only : Only [] w W
  lo : w.heap.size ≤ g ∧ w.heap.size ≤ b1
  kept : ∀ k ∈ K, k < W.heap.size ∧ k ≠ g ∧ k ≠ b1 ∧ k ≠ b2 ∧ A ≠ some ⟨k, 0, none⟩
def DIn (w W : World) (K : List Nat) (g : Nat) (S : DiskS) : Prop := ∃ b1 b2 A c, DSt w W K g b1 b2 A c S
section
variable {w W W' : World} {K : List Nat} {g : Nat} {S : DiskS}
theorem DIn.only (h : DIn w W K g S) : Only [] w W := by obtain ⟨_, _, _, _, h⟩ := h; exact h.only
theorem DIn.quiet (h : DIn w W K g S) (ho : Only [] W W') : DIn w W' K g S := by
  obtain ⟨b1, b2, A, c, h⟩ := h
  exact ⟨b1, b2, A, c, h.at_.only ho (by simp) (by simp) (by simp) (by simp), h.only.trans ho (by simp), h.lo, fun k hk => ⟨Nat.lt_of_lt_of_le (h.kept k hk).1 ho.size, (h.kept k hk).2⟩⟩
/-- A block that is no part of the disk is written. -/
theorem DIn.beside (h : DIn w W K g S) (ho : Only K W W') (hK : ∀ k ∈ K, w.heap.size ≤ k) : DIn w W' K g S := by
  obtain ⟨b1, b2, A, c, h⟩ := h
  refine ⟨b1, b2, A, c, h.at_.only ho (fun hk => (h.kept _ hk).2.1 rfl) (fun hk => (h.kept _ hk).2.2.1 rfl) (fun hk => (h.kept _ hk).2.2.2.1 rfl) (fun k hA hk => (h.kept _ hk).2.2.2.2 hA), h.only.trans ho (fun t ht hl => by have := hK t ht; omega), h.lo, fun k hk => ⟨Nat.lt_of_lt_of_le (h.kept k hk).1 ho.size, (h.kept k hk).2⟩⟩
/-- One more block is kept: one that is newer than the disk. -/
theorem DIn.more (h : DIn w W K g S) (ho : Only [] W W') {L : List Nat} (hL : ∀ k ∈ L, W.heap.size ≤ k ∧ k < W'.heap.size) : DIn w W' (L ++ K) g S := by
  obtain ⟨b1, b2, A, c, h⟩ := h
  have l1 := h.at_.lt
  have l2 := h.at_.lies.lt
  have l3 := h.at_.seen.lt
  refine ⟨b1, b2, A, c, h.at_.only ho (by simp) (by simp) (by simp) (by simp), h.only.trans ho (by simp), h.lo, fun k hk => ?_⟩
  rcases List.mem_append.1 hk with hk | hk
  · obtain ⟨h1, h2⟩ := hL k hk
    refine ⟨h2, by omega, by omega, by omega, fun hA => ?_⟩
    cases hw : S.waits with
    | nil => rw [(h.at_.nil hw).1] at hA; cases hA
    | cons e0 ws =>
      obtain ⟨kk, hkk, hlt, _⟩ := h.at_.waits 0 (.int .i64 e0.kind) (by rw [hw]; rfl)
      rw [hA] at hkk
      cases hkk
      omega
  · exact ⟨Nat.lt_of_lt_of_le (h.kept k hk).1 ho.size, (h.kept k hk).2⟩
theorem DIn.posted {b1 b2 : Nat} {A : Option Addr} {c : Nat} {S' : DiskS} (h : DSt w W K g b1 b2 A c S) (hp : DiskPost W g b1 b2 A S' W') : DIn w W' K g S' ∧ KeepB K W W' := by
  obtain ⟨b1', b2', A', c', hd, ho, h1, h2, h3⟩ := hp
  have hz := h.only.size
  refine ⟨⟨b1', b2', A', c', hd, h.only.trans ho (fun t ht hl => ?_), ⟨h.lo.1, ?_⟩, fun k hk => ?_⟩, ho.size, fun k hk => ?_⟩
  · have := h.lo
    simp at ht
    omega
  · have := h.lo
    omega
  · obtain ⟨k1, k2, k3, k4, k5⟩ := h.kept k hk
    refine ⟨Nat.lt_of_lt_of_le k1 ho.size, k2, by omega, by omega, fun hA => ?_⟩
    rcases h3 k hA with h3 | h3
    · exact k5 h3
    · omega
  · obtain ⟨k1, k2, k3, k4, k5⟩ := h.kept k hk
    exact ho.block k k1 (by simp; exact ⟨k2, k3⟩)

def InPost (w W : World) (K : List Nat) (g : Nat) (r : Int × DiskS) (e : Ending) (W' : World) : Prop := e = .returned (.int .i64 r.1) ∧ DIn w W' K g r.2 ∧ KeepB K W W'
theorem in_of {b1 b2 : Nat} {A : Option Addr} {c : Nat} {r : Int × DiskS} {f : Nat} {args : Array Value} (h : DSt w W K g b1 b2 A c S) (hc : Calls Try.prog f args W (CallPost W g b1 b2 A r)) : Calls Try.prog f args W (InPost w W K g r) :=
  hc.mono fun _ _ hp => ⟨hp.1, DIn.posted h hp.2⟩
variable {n : Nat} (hs : Sound n S) (hn : n ≤ 90000) (h : DIn w W K g S)
include hs hn h
theorem write_in (p t : ByteArray) (hp : p.size ≤ 90000) (ht : t.size ≤ 90000) : Calls Try.prog 51 #[.pointer (some ⟨g, 0, none⟩), .string p, .string t] W (InPost w W K g (S.write p t)) := by
  obtain ⟨b1, b2, A, c, h⟩ := h
  refine in_of h (write_any g b1 b2 A c S W h.at_ (hs.fit (by omega)) p t (by unfold maxLen; omega) ?_)
  have h1 := wt_do S.seen ⟨0, p, t⟩
  have h2 := took_wt (effDo S.seen ⟨0, p, t⟩)
  have h3 := hs.seen
  simp only [Eff.sz] at h1
  omega
theorem rename_in (p t : ByteArray) (hp : p.size ≤ 90000) (ht : t.size ≤ 90000) : Calls Try.prog 52 #[.pointer (some ⟨g, 0, none⟩), .string p, .string t] W (InPost w W K g (S.rename p t)) := by
  obtain ⟨b1, b2, A, c, h⟩ := h
  refine in_of h (rename_any g b1 b2 A c S W h.at_ (hs.fit (by omega)) p t (by unfold maxLen; omega) ?_)
  have h1 := wt_do S.seen ⟨1, p, t⟩
  have h2 := took_wt (effDo S.seen ⟨1, p, t⟩)
  have h3 := hs.seen
  simp only [Eff.sz] at h1
  omega
theorem remove_in (p : ByteArray) (hp : p.size ≤ 90000) : Calls Try.prog 53 #[.pointer (some ⟨g, 0, none⟩), .string p] W (InPost w W K g (S.remove p)) := by
  obtain ⟨b1, b2, A, c, h⟩ := h
  refine in_of h (remove_any g b1 b2 A c S W h.at_ (hs.fit (by omega)) p ?_)
  have h1 := wt_do S.seen ⟨2, p, ⟨#[]⟩⟩
  have h2 := took_wt (effDo S.seen ⟨2, p, ⟨#[]⟩⟩)
  have h3 := hs.seen
  have h4 : (⟨#[]⟩ : ByteArray).size = 0 := rfl
  simp only [Eff.sz] at h1
  omega
theorem sync_in : Calls Try.prog 28 #[.pointer (some ⟨g, 0, none⟩)] W (InPost w W K g S.sync) := by
  obtain ⟨b1, b2, A, c, h⟩ := h
  exact in_of h (sync_any g b1 b2 A c S W h.at_ (hs.fit (by omega)))
theorem taken_in : Calls Try.prog 27 #[.pointer (some ⟨g, 0, none⟩)] W (IntPost W S.taken) := by
  obtain ⟨b1, b2, A, c, h⟩ := h
  exact disk_taken_any g b1 b2 A c S W h.at_ (hs.took (by omega))
theorem list_in (p : ByteArray) (hp : p.size ≤ 90000) : Calls Try.prog 29 #[.pointer (some ⟨g, 0, none⟩), .string p] W (ListPost W (S.list p)) := by
  obtain ⟨b1, b2, A, c, h⟩ := h
  exact list_any g b1 b2 A c S p W h.at_ (by unfold maxLen; omega) (fun q hq => hs.mem hn hq) (by have := hs.seen; have := took_wt S.seen; omega)
omit hs hn
theorem read_in (p : ByteArray) : Calls Try.prog 30 #[.pointer (some ⟨g, 0, none⟩), .string p] W (ReadPost (S.read p) W) := by
  obtain ⟨b1, b2, A, c, h⟩ := h
  exact read_any g b1 b2 A c S W h.at_ p
theorem down_in : Calls Try.prog 25 #[.pointer (some ⟨g, 0, none⟩)] W fun e w' => e = .returned (.bool S.down) ∧ w' = W := by
  obtain ⟨b1, b2, A, c, h⟩ := h
  exact down_any g b1 b2 A c S W h.at_
theorem waiting_in : Calls Try.prog 26 #[.pointer (some ⟨g, 0, none⟩)] W fun e w' => e = .returned (.int .i64 S.waits.length) ∧ w' = W := by
  obtain ⟨b1, b2, A, c, h⟩ := h
  exact waiting_any g b1 b2 A c S W h.at_
def VoidPost (w W : World) (K : List Nat) (g : Nat) (S' : DiskS) (e : Ending) (W' : World) : Prop := e = .returned (.tuple #[]) ∧ DIn w W' K g S' ∧ KeepB K W W'
theorem arm_in (k m : Int) : Calls Try.prog 31 #[.pointer (some ⟨g, 0, none⟩), .agg #[.int .i64 k, .int .u64 m]] W (VoidPost w W K g (S.armed2 k m)) := by
  obtain ⟨b1, b2, A, c, h⟩ := h
  exact (arm_any g b1 b2 A c S k m W h.at_).mono fun _ _ hp => ⟨hp.1, DIn.posted h ⟨b1, b2, A, c, hp.2.1, hp.2.2.mono (by simp), .inl rfl, .inl rfl, fun k hk => .inl hk⟩⟩
theorem start_in : Calls Try.prog 32 #[.pointer (some ⟨g, 0, none⟩)] W (VoidPost w W K g S.started) := by
  obtain ⟨b1, b2, A, c, h⟩ := h
  exact (start_any g b1 b2 A c S W h.at_).mono fun _ _ hp => ⟨hp.1, DIn.posted h ⟨b1, b2, A, c, hp.2.1, hp.2.2.mono (by simp), .inl rfl, .inl rfl, fun k hk => .inl hk⟩⟩
end
/-- A new disk. -/
def NewIn (room : Int) (w : World) (e : Ending) (w' : World) : Prop :=
  ∃ g, e = .returned (.tuple #[.pointer (some ⟨g, 0, none⟩), .int .i64 0]) ∧ DIn w w' [] g (DiskS.fresh room) ∧ w.heap.size ≤ g
theorem new_in (room : Int) (w : World) (h0 : 0 ≤ room) (h1 : room ≤ 16777216) : Calls Try.prog 14 #[.int .i64 room] w (NewIn room w) := by
  refine (new_any room w).mono fun e w' hp => ?_
  unfold NewPost at hp
  rw [if_neg (by omega)] at hp
  obtain ⟨g, b1, b2, he, hd, ho, hg, hb1, hb2⟩ := hp
  exact ⟨g, he, ⟨b1, b2, none, 0, hd, ho, ⟨hg, hb1⟩, by simp⟩, hg⟩
theorem new_bad (room : Int) (w : World) (h : room < 0 ∨ 16777216 < room) : Calls Try.prog 14 #[.int .i64 room] w fun e w' => e = .returned (.tuple #[.pointer none, .int .i64 1]) ∧ w' = w := by
  refine (new_any room w).mono fun e w' hp => ?_
  unfold NewPost at hp
  rw [if_pos h] at hp
  exact hp
end Go.Proofs.Ytljkaafdajpmkaa
