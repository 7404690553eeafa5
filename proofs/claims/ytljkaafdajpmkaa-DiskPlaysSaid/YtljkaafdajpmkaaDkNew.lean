/- The disk: New, Arm. -/
import Derived.Test.YtljkaafdajpmkaaDkOps2
namespace Go.Proofs.Ytljkaafdajpmkaa
open Go.RowKit
set_option linter.unusedVariables false

def DiskS.fresh (room : Int) : DiskS := ⟨room, [], [], [], false, 0, 0⟩
def NewPost (room : Int) (w : World) (e : Ending) (w' : World) : Prop :=
  if room < 0 ∨ 16777216 < room then e = .returned (.tuple #[.pointer none, .int .i64 1]) ∧ w' = w else
  ∃ g b1 b2, e = .returned (.tuple #[.pointer (some ⟨g, 0, none⟩), .int .i64 0]) ∧ DiskAt w' g b1 b2 none 0 (DiskS.fresh room) ∧ Only [] w w' ∧ w.heap.size ≤ g ∧ w.heap.size ≤ b1 ∧ w.heap.size ≤ b2
set_option maxHeartbeats 1000000 in
set_option maxRecDepth 100000 in
theorem new_any (room : Int) (w : World) : Calls Try.prog 14 #[.int .i64 room] w (NewPost room w) := by
  have hmm := @run_makeMap Try.prog
  by_cases h0 : room < 0
  · go_enter Try.func14, Try.ntmps14
    go_wp2
    go_ret2
    unfold NewPost
    rw [if_pos (.inl h0)]
    exact ⟨rfl, rfl⟩
  · have d0 : decide (room < 0) = false := by simpa using h0
    by_cases h1 : 16777216 < room
    · go_enter Try.func14, Try.ntmps14
      go_wp2
      go_ret2
      unfold NewPost
      rw [if_pos (.inr h1)]
      exact ⟨rfl, rfl⟩
    · have d1 : decide (16777216 < room) = false := by simpa using h1
      go_enter Try.func14, Try.ntmps14
      go_wp2
      go_ret2
      unfold NewPost
      rw [if_neg (by rintro (h | h) <;> omega)]
      refine ⟨w.heap.size + 2, w.heap.size, w.heap.size + 1, rfl, ⟨?_, ?_, ?_, by omega, ArgAt.nil _ _, Nat.le_refl _, (fun k hk => by cases hk), (fun _ => ⟨rfl, rfl⟩)⟩, (((Only.refl _ _).alloc _).alloc _).alloc _, by omega, by omega, by omega⟩
      · show (((w.heap.push _).push _).push _)[_]? = _
        rw [Array.getElem?_push, if_pos (by simp)]
        rfl
      · exact ((MapAt.made Value.string w).alloc _).alloc _
      · have hq := (MapAt.made Value.string (w.alloc (.map #[] 0))).alloc (.cells (DiskS.cells (DiskS.fresh room) w.heap.size (w.heap.size + 1) none 0) 105)
        have e : (w.alloc (.map #[] 0)).heap.size = w.heap.size + 1 := by simp
        rw [e] at hq
        exact hq
def DiskS.armed2 (S : DiskS) (k m : Int) : DiskS := if k < 1 then { S with left := 0, keep := 0 } else { S with left := k, keep := m }
theorem DiskAt.rearm {w : World} {g b1 b2 : Nat} {A : Option Addr} {c : Nat} {S : DiskS} (h : DiskAt w g b1 b2 A c S) (k m : Int) :
    DiskAt ((w.setCell ⟨g, 5, none⟩ (.int .i64 k)).setCell ⟨g, 6, none⟩ (.int .u64 m)) g b1 b2 A c { S with left := k, keep := m } := by
  have h1 := h.set (S' := { S with left := k }) 5 (.int .i64 k) (by simp [DiskS.cells])
  exact h1.set (S' := { S with left := k, keep := m }) 6 (.int .u64 m) (by simp [DiskS.cells])
set_option maxHeartbeats 1000000 in
set_option maxRecDepth 100000 in
theorem arm_any (g b1 b2 : Nat) (A : Option Addr) (c : Nat) (S : DiskS) (k m : Int) (w : World) (h : DiskAt w g b1 b2 A c S) :
    Calls Try.prog 31 #[.pointer (some ⟨g, 0, none⟩), .agg #[.int .i64 k, .int .u64 m]] w fun e w' => e = .returned (.tuple #[]) ∧ DiskAt w' g b1 b2 A c (S.armed2 k m) ∧ Only [g] w w' := by
  have hB := h.only ((Only.refl [] w).alloc (.cells #[.int .i64 k, .int .u64 m] 33)) (by simp) (by simp) (by simp) (by simp)
  have c5 := hB.c5
  have c6 := hB.c6
  have f5 := hB.frozen 5
  have f6 := hB.frozen 6
  have hg := h.lt
  have q0 : (w.alloc (.cells #[.int .i64 k, .int .u64 m] 33)).cell? ⟨w.heap.size, 0, none⟩ = some (.int .i64 k) := by simp [World.cell?_alloc_new]
  have q1 : (w.alloc (.cells #[.int .i64 k, .int .u64 m] 33)).cell? ⟨w.heap.size, 1, none⟩ = some (.int .u64 m) := by simp [World.cell?_alloc_new]
  have hne : w.heap.size ≠ g := by omega
  have ho : Only [g] w (w.alloc (.cells #[.int .i64 k, .int .u64 m] 33)) := (Only.refl _ _).alloc _
  have HB := hide hB
  clear h hB
  go_enter Try.func31, Try.ntmps31
  go_upto_region 1 with fail
  generalize w.alloc (.cells #[.int .i64 k, .int .u64 m] 33) = wB at *
  generalize w.heap.size = bx at *
  have hgB := HB.out.lt
  have hne' : g ≠ bx := hne.symm
  by_cases hk : k < 1
  · have hfin := hide ((HB.out.rearm k m).rearm 0 0)
    have hoF := hide (((((Only.refl [g] wB).setCell (p := ⟨g, 5, none⟩) (.inl (by simp)) (.int .i64 k)).setCell (p := ⟨g, 6, none⟩) (.inl (by simp)) (.int .u64 m)).setCell (p := ⟨g, 5, none⟩) (.inl (by simp)) (.int .i64 0)).setCell (p := ⟨g, 6, none⟩) (.inl (by simp)) (.int .u64 0))
    have hr : S.armed2 k m = { S with left := 0, keep := 0 } := by simp [DiskS.armed2, hk]
    have HRr := hide hr
    clear hr
    go_wp2
    go_end0
    exact ⟨rfl, (by rw [HRr.out]; exact hfin.out), ho.trans hoF.out (fun t h _ => h)⟩
  · have hd : decide (k < 1) = false := by simpa using hk
    have hfin := hide (HB.out.rearm k m)
    have hoF := hide (((Only.refl [g] wB).setCell (p := ⟨g, 5, none⟩) (.inl (by simp)) (.int .i64 k)).setCell (p := ⟨g, 6, none⟩) (.inl (by simp)) (.int .u64 m))
    have hr : S.armed2 k m = { S with left := k, keep := m } := by simp [DiskS.armed2, hk]
    have HRr := hide hr
    clear hr
    go_wp2
    go_end0
    exact ⟨rfl, (by rw [HRr.out]; exact hfin.out), ho.trans hoF.out (fun t h _ => h)⟩
end Go.Proofs.Ytljkaafdajpmkaa
