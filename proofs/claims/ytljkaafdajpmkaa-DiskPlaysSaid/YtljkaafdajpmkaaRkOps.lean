/- The reference's disk: new, armed. -/
import Derived.Test.YtljkaafdajpmkaaRkRef
namespace Go.Proofs.Ytljkaafdajpmkaa
open Go.RowKit
set_option linter.unusedVariables false

def RefS.fresh (room : Int) : RefS := ⟨room, [], [], false, 0, 0, 0⟩
def RNewPost (room : Int) (w : World) (e : Ending) (w' : World) : Prop :=
  e = .returned (.tuple #[.agg #[.int .i64 room, .slice none 0 0, .slice none 0 0, .bool false, .int .i64 0, .int .u64 0, .int .i64 0], .bool (decide (0 ≤ room) && decide (room ≤ 16777216))]) ∧ Only [] w w'
set_option maxHeartbeats 2000000 in
set_option maxRecDepth 100000 in
theorem rnew_any (room : Int) (w : World) : Calls Try.prog 15 #[.int .i64 room] w (RNewPost room w) := by
  obtain ⟨b, hb⟩ : ∃ b, b = (decide (0 ≤ room) && decide (room ≤ 16777216)) := ⟨_, rfl⟩
  unfold RNewPost
  rw [← hb]
  have HB := hide hb
  clear hb
  by_cases h0 : 0 ≤ room
  · by_cases h1 : room ≤ 16777216
    · have hb : b = true := by rw [HB.out]; simp [h0, h1]
      have HBb := hide hb
      clear hb HB
      go_enter Try.func15, Try.ntmps15
      go_wp2
      refine bodyPost_ret (v := .tuple #[.agg #[.int .i64 room, .slice none 0 0, .slice none 0 0, .bool false, .int .i64 0, .int .u64 0, .int .i64 0], .bool true]) (by simp [results, Try.results15, go_sem]) rfl ?_
      rw [HBb.out]
      exact ⟨rfl, (Only.refl _ _).alloc _⟩
    · have d1 : decide (room ≤ 16777216) = false := by simpa using h1
      have hb : b = false := by rw [HB.out]; simp [h1]
      have HBb := hide hb
      clear hb HB h1
      go_enter Try.func15, Try.ntmps15
      go_wp2
      refine bodyPost_ret (v := .tuple #[.agg #[.int .i64 room, .slice none 0 0, .slice none 0 0, .bool false, .int .i64 0, .int .u64 0, .int .i64 0], .bool false]) (by simp [results, Try.results15, go_sem]) rfl ?_
      rw [HBb.out]
      exact ⟨rfl, (Only.refl _ _).alloc _⟩
  · have d0 : decide (0 ≤ room) = false := by simpa using h0
    have hb : b = false := by rw [HB.out]; simp [h0]
    have HBb := hide hb
    clear hb HB h0
    go_enter Try.func15, Try.ntmps15
    go_wp2
    refine bodyPost_ret (v := .tuple #[.agg #[.int .i64 room, .slice none 0 0, .slice none 0 0, .bool false, .int .i64 0, .int .u64 0, .int .i64 0], .bool false]) (by simp [results, Try.results15, go_sem]) rfl ?_
    rw [HBb.out]
    exact ⟨rfl, (Only.refl _ _).alloc _⟩
theorem rpath_any (s : ByteArray) (w : World) (hs : s.size ≤ 9223372036854775807) : Calls Try.prog 54 #[.string s] w fun e w' => e = .returned (.bool (pathOk s)) ∧ w' = w := by
  obtain ⟨b, hb⟩ : ∃ b, b = pathOk s := ⟨_, rfl⟩
  rw [← hb]
  unfold pathOk at hb
  have HB := hide hb
  clear hb
  by_cases h0 : (1 : Int) ≤ s.size
  · by_cases h1 : (s.size : Int) ≤ 255
    · have hb : b = true := by rw [HB.out]; simp; omega
      subst hb
      clear HB
      go_enter Try.func54, Try.ntmps54
      go_wp2
      go_ret
      exact ⟨rfl, rfl⟩
    · have d1 : decide ((s.size : Int) ≤ 255) = false := by simpa using h1
      have hb : b = false := by rw [HB.out]; simp; omega
      subst hb
      clear HB
      go_enter Try.func54, Try.ntmps54
      go_wp2
      go_ret
      exact ⟨rfl, rfl⟩
  · have d0 : decide ((1 : Int) ≤ s.size) = false := by simpa using h0
    have hb : b = false := by rw [HB.out]; simp; omega
    subst hb
    clear HB
    go_enter Try.func54, Try.ntmps54
    go_wp2
    go_ret
    exact ⟨rfl, rfl⟩
def RefS.armed (M : RefS) (k m : Int) : RefS := { M with at_ := k, keep := m, left := if k < 1 then 0 else k }
/-- What a call that leaves the reference's disk answers. -/
def RefVal (M : RefS) (A : Option Addr) (c : Nat) (B : Option Addr) (d : Nat) : Value := .agg #[.int .i64 M.room, .slice A M.lies.length c, .slice B M.rows.length d, .bool M.down, .int .i64 M.at_, .int .u64 M.keep, .int .i64 M.left]
set_option maxHeartbeats 2000000 in
set_option maxRecDepth 100000 in
theorem rarm_any (M : RefS) (A : Option Addr) (c : Nat) (B : Option Addr) (d : Nat) (k m : Int) (w : World) :
    Calls Try.prog 19 #[.agg #[.int .i64 M.room, .slice A M.lies.length c, .slice B M.rows.length d, .bool M.down, .int .i64 M.at_, .int .u64 M.keep, .int .i64 M.left], .agg #[.int .i64 k, .int .u64 m]] w
      fun e w' => e = .returned (RefVal (M.armed k m) A c B d) ∧ Only [] w w' := by
  obtain ⟨room, lies, rows, dn, at_, kp, lf⟩ := M
  simp only
  by_cases h : k < 1
  · have hm : (RefS.armed ⟨room, lies, rows, dn, at_, kp, lf⟩ k m) = ⟨room, lies, rows, dn, k, m, 0⟩ := by simp [RefS.armed, h]
    rw [hm]
    clear hm
    go_enter Try.func19, Try.ntmps19
    go_wp2
    refine bodyPost_ret (v := .agg #[.int .i64 room, .slice A lies.length c, .slice B rows.length d, .bool dn, .int .i64 k, .int .u64 m, .int .i64 0]) (by simp [results, Try.results19, go_sem]) rfl ?_
    exact ⟨rfl, (((Only.refl _ _).alloc _).alloc _).alloc _⟩
  · have d0 : decide (k < 1) = false := by simpa using h
    have hm : (RefS.armed ⟨room, lies, rows, dn, at_, kp, lf⟩ k m) = ⟨room, lies, rows, dn, k, m, k⟩ := by simp [RefS.armed, h]
    rw [hm]
    clear hm
    go_enter Try.func19, Try.ntmps19
    go_wp2
    refine bodyPost_ret (v := .agg #[.int .i64 room, .slice A lies.length c, .slice B rows.length d, .bool dn, .int .i64 k, .int .u64 m, .int .i64 k]) (by simp [results, Try.results19, go_sem]) rfl ?_
    exact ⟨rfl, (((Only.refl _ _).alloc _).alloc _).alloc _⟩
end Go.Proofs.Ytljkaafdajpmkaa
