/- DiskPlays: the disk and the reference's, side by side. -/
import Derived.Test.YtljkaafdajpmkaaFkSt
import Derived.Test.YtljkaafdajpmkaaRkSim
import Derived.Test.YtljkaafdajpmkaaDkAwake
namespace Go.Proofs.Ytljkaafdajpmkaa
open Go.RowKit
set_option linter.unusedVariables false

/-- An act on the reference's disk. -/
def RefS.act (M : RefS) (a : Act) : RefS :=
  if a.kind = 1 ∨ a.kind = 2 ∨ a.kind = 3 then (M.doing ⟨a.kind, a.path, a.text⟩).1 else
  if a.kind = 4 then M.sync.1 else
  if a.kind = 5 then M.armed a.at_ a.keep else
  if a.kind = 6 then { M with down := false } else M
theorem RSim.act {M : RefS} {S : DiskS} (h : RSim M S) (a : Act) : RSim (M.act a) (S.act a).2 := by
  unfold RefS.act DiskS.act
  by_cases h1 : a.kind = 1
  · simp only [h1, true_or, if_true]
    exact (h.write a.path a.text).2
  · by_cases h2 : a.kind = 2
    · simp only [h2, true_or, or_true, if_true]
      exact (h.rename a.path a.text).2
    · by_cases h3 : a.kind = 3
      · simp only [h3, or_true, if_true]
        exact (h.remove a.path a.text).2
      · simp only [h1, h2, h3, or_false, if_false]
        by_cases h4 : a.kind = 4
        · simp only [h4, if_true]
          exact h.sync.2
        · by_cases h5 : a.kind = 5
          · simp only [h5, if_true]
            exact h.armed _ _
          · by_cases h6 : a.kind = 6
            · simp only [h6, if_true]
              exact h.started
            · simp only [h4, h5, h6, if_false]
              split
              · exact h
              · split <;> exact h
structure PSt (w W : World) (g mb : Nat) (A : Option Addr) (c : Nat) (B : Option Addr) (d : Nat) (M : RefS) (S : DiskS) (n : Nat) : Prop where
  din : FIn w W [] g S
  box : BoxAt W mb A c B d M
  lo : w.heap.size ≤ mb
  sim : RSim M S
  sound : Sound n S
  keep : 0 ≤ M.keep ∧ M.keep < 18446744073709551616
  room : M.room ≤ 9223372036854775807
def PSome (w W : World) (g mb : Nat) (S : DiskS) (n : Nat) : Prop := ∃ M A c B d, PSt w W g mb A c B d M S n
section
variable {w W W' : World} {g mb n : Nat} {A B A' B' : Option Addr} {c d c' d' : Nat} {M M' : RefS} {S S' : DiskS}
theorem PSt.quiet (h : PSt w W g mb A c B d M S n) (ho : Only [] W W') : PSt w W' g mb A c B d M S n := ⟨h.din.quiet ho, h.box.only (S := []) ho, h.lo, h.sim, h.sound, h.keep, h.room⟩
theorem PSt.len (h : PSt w W g mb A c B d M S n) : M.lies.length + M.rows.length ≤ n := by
  have h1 := h.sim.lies.len
  have h2 := h.sim.rows.len
  have h3 := h.sound.lies
  have h4 := took_wt S.lies
  have h5 := szs_len S.waits
  omega
/-- The blocks that an act on the disk leaves alone. -/
theorem PSt.frame (h : PSt w W g mb A c B d M S n) (X : List Nat) (hX : ∀ k ∈ X, ∃ v, W.cell? ⟨k, 1, none⟩ = some v ∧ ∀ m, v ≠ .map m) : ∃ K, FIn w W K g S ∧ (∀ k ∈ X, k ∈ K) ∧ ∀ W', KeepB K W W' → BoxAt W' mb A c B d M := by
  obtain ⟨KA, hKA, hA⟩ : ∃ KA : List Nat, (∀ k ∈ KA, ∃ v, W.cell? ⟨k, 1, none⟩ = some v ∧ ∀ m, v ≠ .map m) ∧ ∀ W', KeepB KA W W' → ArgAt W' A (fcells M.lies) := by
    cases hl : M.lies with
    | nil => exact ⟨[], by simp, fun W' _ => ArgAt.nil _ _⟩
    | cons p l =>
      have hb := h.box.ref.lies
      rw [hl] at hb
      obtain ⟨ga, rfl, hga, hc⟩ := hb 1 (.string p.2) rfl
      refine ⟨[ga], fun k hk => ?_, fun W' hk j u hu => ?_⟩
      · obtain rfl : k = ga := by simpa using hk
        exact ⟨_, hc, fun m e => by cases e⟩
      · obtain ⟨g', e, _, hc'⟩ := hb j u hu
        cases e
        exact ⟨ga, rfl, Nat.lt_of_lt_of_le hga hk.1, (World.cell?_of_block (w := W) (hk.2 ga (by simp))).trans hc'⟩
  obtain ⟨KB, hKB, hB⟩ : ∃ KB : List Nat, (∀ k ∈ KB, ∃ v, W.cell? ⟨k, 1, none⟩ = some v ∧ ∀ m, v ≠ .map m) ∧ ∀ W', KeepB KB W W' → ArgAt W' B (effCells M.rows) := by
    cases hl : M.rows with
    | nil => exact ⟨[], by simp, fun W' _ => ArgAt.nil _ _⟩
    | cons p l =>
      have hb := h.box.ref.rows
      rw [hl] at hb
      obtain ⟨ga, rfl, hga, hc⟩ := hb 1 (.string p.path) rfl
      refine ⟨[ga], fun k hk => ?_, fun W' hk j u hu => ?_⟩
      · obtain rfl : k = ga := by simpa using hk
        exact ⟨_, hc, fun m e => by cases e⟩
      · obtain ⟨g', e, _, hc'⟩ := hb j u hu
        cases e
        exact ⟨ga, rfl, Nat.lt_of_lt_of_le hga hk.1, (World.cell?_of_block (w := W) (hk.2 ga (by simp))).trans hc'⟩
  refine ⟨mb :: (X ++ (KA ++ KB)), h.din.frame (fun k hk => ?_), (fun k hk => by simp [hk]), fun W' hk => ⟨(hk.2 mb (by simp)).trans h.box.blk, hA W' ⟨hk.1, fun k h => hk.2 k (by simp [h])⟩, hB W' ⟨hk.1, fun k h => hk.2 k (by simp [h])⟩⟩⟩
  rcases List.mem_cons.1 hk with rfl | hk
  · exact ⟨_, h.box.cell.2.1, fun m e => by cases e⟩
  · rcases List.mem_append.1 hk with hk | hk
    · exact hX k hk
    · rcases List.mem_append.1 hk with hk | hk
      · exact hKA k hk
      · exact hKB k hk
/-- The reference's disk is written. -/
theorem put_box (h : BoxAt W mb A c B d M) (hr : RefAt W A' B' M') :
    BoxAt (((((((W.setCell ⟨mb, 0, none⟩ (.int .i64 M'.room)).setCell ⟨mb, 1, none⟩ (.slice A' M'.lies.length c')).setCell ⟨mb, 2, none⟩ (.slice B' M'.rows.length d')).setCell ⟨mb, 3, none⟩ (.bool M'.down)).setCell ⟨mb, 4, none⟩ (.int .i64 M'.at_)).setCell ⟨mb, 5, none⟩ (.int .u64 M'.keep)).setCell ⟨mb, 6, none⟩ (.int .i64 M'.left)) mb A' c' B' d' M' ∧
    Only [mb] W (((((((W.setCell ⟨mb, 0, none⟩ (.int .i64 M'.room)).setCell ⟨mb, 1, none⟩ (.slice A' M'.lies.length c')).setCell ⟨mb, 2, none⟩ (.slice B' M'.rows.length d')).setCell ⟨mb, 3, none⟩ (.bool M'.down)).setCell ⟨mb, 4, none⟩ (.int .i64 M'.at_)).setCell ⟨mb, 5, none⟩ (.int .u64 M'.keep)).setCell ⟨mb, 6, none⟩ (.int .i64 M'.left)) := by
  have ho : Only [mb] W (((((((W.setCell ⟨mb, 0, none⟩ (.int .i64 M'.room)).setCell ⟨mb, 1, none⟩ (.slice A' M'.lies.length c')).setCell ⟨mb, 2, none⟩ (.slice B' M'.rows.length d')).setCell ⟨mb, 3, none⟩ (.bool M'.down)).setCell ⟨mb, 4, none⟩ (.int .i64 M'.at_)).setCell ⟨mb, 5, none⟩ (.int .u64 M'.keep)).setCell ⟨mb, 6, none⟩ (.int .i64 M'.left)) :=
    (((((((Only.refl [mb] W).setCell (.inl (by simp)) _).setCell (.inl (by simp)) _).setCell (.inl (by simp)) _).setCell (.inl (by simp)) _).setCell (.inl (by simp)) _).setCell (.inl (by simp)) _).setCell (.inl (by simp)) _
  refine ⟨⟨?_, h.past ho hr⟩, ho⟩
  have := h.blk
  simp [World.setCell, Array.getElem?_modify, this, RefS.cells]
theorem FIn.wrote (h : FIn w W [] g S) (hb : BoxAt W mb A c B d M) (hlo : w.heap.size ≤ mb) (ho : Only [mb] W W') : FIn w W' [] g S :=
  h.beside ho hlo hb.cell.2.1 (fun m e => by cases e) (fun s e => by cases e)
theorem FIn.less {K : List Nat} (h : FIn w W K g S) : FIn w W [] g S := by
  obtain ⟨b1, b2, A, c, h⟩ := h
  exact ⟨b1, b2, A, c, h.at_, h.only, h.lo, by simp⟩
end
/-- How much the files may take behind an effect. -/
theorem RSim.took_done {M : RefS} {S : DiskS} (h : RSim M S) {n : Nat} (hs : Sound n S) {r e : Eff} (he : Alike r e) : tookOf (rDone (rSeen M.lies M.rows) r) ≤ n + e.sz := by
  have h1 := (h.seen.doing he).took
  have h2 := took_wt (effDo S.seen e)
  have h3 := wt_do S.seen e
  have h4 := hs.seen
  omega
theorem RefS.call_keep (M : RefS) : M.call.1.keep = M.keep ∧ M.call.1.room = M.room := by
  unfold RefS.call
  split
  · exact ⟨rfl, rfl⟩
  · split <;> exact ⟨rfl, rfl⟩
theorem RefS.act_keep (M : RefS) (a : Act) : ((M.act a).keep = M.keep ∨ (M.act a).keep = a.keep) ∧ (M.act a).room = M.room := by
  unfold RefS.act
  split
  · unfold RefS.doing
    split
    · have := (M.more ⟨a.kind, a.path, a.text⟩).call_keep
      exact ⟨.inl this.1, this.2⟩
    · exact ⟨.inl rfl, rfl⟩
  · split
    · unfold RefS.sync
      split
      · exact ⟨.inl rfl, rfl⟩
      · have := M.call_keep
        split
        · exact ⟨.inl this.1, this.2⟩
        · exact ⟨.inl this.1, this.2⟩
    · split
      · exact ⟨.inr rfl, rfl⟩
      · split <;> exact ⟨.inl rfl, rfl⟩
theorem act_cells {W w13 : World} {ba : Nat} {k at_ keep : Int} {p t : ByteArray} (hB : w13.heap[ba]? = some (.cells #[.int .i64 k, .string p, .string t, .int .i64 at_, .int .u64 keep] 39)) (ho : W.heap[ba]? = w13.heap[ba]?) :
    W.cell? ⟨ba, 0, none⟩ = some (.int .i64 k) ∧ W.cell? ⟨ba, 1, none⟩ = some (.string p) ∧ W.cell? ⟨ba, 2, none⟩ = some (.string t) ∧ W.cell? ⟨ba, 3, none⟩ = some (.int .i64 at_) ∧ W.cell? ⟨ba, 4, none⟩ = some (.int .u64 keep) := by
  have h := ho.trans hB
  exact ⟨by simp [World.cell?, h], by simp [World.cell?, h], by simp [World.cell?, h], by simp [World.cell?, h], by simp [World.cell?, h]⟩
/-- Behind the switch of a round. -/
def RoundSt (w : World) (g mb : Nat) (r : (ByteArray × List ByteArray × Int) × DiskS) (n : Nat) (A1 : Option Addr) (v14 v15 v16 : Value) (W : World) : Prop :=
  v14 = .string r.1.1 ∧ v15 = .int .i64 r.1.2.2 ∧ (∃ Aw cw, v16 = .slice Aw r.1.2.1.length cw ∧ ArgAt W Aw (r.1.2.1.map Value.string)) ∧ ArgAt W A1 (r.1.2.1.map Value.string) ∧ PSome w W g mb r.2 n
/-- The disk has turned, the reference's not yet. -/
structure MidSt (w W : World) (g mb xb : Nat) (A : Option Addr) (c : Nat) (B : Option Addr) (d : Nat) (M : RefS) (S S' : DiskS) (n : Nat) (a : Act) : Prop where
  din : FIn w W [] g S'
  box : BoxAt W mb A c B d M
  lo : w.heap.size ≤ mb
  copy : W.heap[xb]? = some (.cells #[.int .i64 a.kind, .string a.path, .string a.text, .int .i64 a.at_, .int .u64 a.keep] 39)
theorem MidSt.quiet {w W W' : World} {g mb xb n : Nat} {A B : Option Addr} {c d : Nat} {M : RefS} {S S' : DiskS} {a : Act} (h : MidSt w W g mb xb A c B d M S S' n a) (ho : Only [] W W') : MidSt w W' g mb xb A c B d M S S' n a :=
  ⟨h.din.quiet ho, h.box.only (S := []) ho, h.lo, (ho.block xb (Array.getElem?_eq_some_iff.1 h.copy).1 (by simp)).trans h.copy⟩
end Go.Proofs.Ytljkaafdajpmkaa
