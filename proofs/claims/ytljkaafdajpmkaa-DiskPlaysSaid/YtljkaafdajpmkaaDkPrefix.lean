/- strings.HasPrefix. -/
import Derived.Test.YtljkaafdajpmkaaDkNew
namespace Go.Proofs.Ytljkaafdajpmkaa
open Go.RowKit
set_option linter.unusedVariables false

def hasPre (s p : ByteArray) : Bool := decide (p.size ≤ s.size) && decide (s.extract 0 p.size = p)
theorem pre_any (s p : ByteArray) (w : World) (hs : s.size ≤ maxLen) (hp : p.size ≤ maxLen) : Calls Try.prog 88 #[.string s, .string p] w fun e w' => e = .returned (.bool (hasPre s p)) ∧ w' = w := by
  unfold maxLen at hs hp
  by_cases h0 : (p.size : Int) ≤ s.size
  · by_cases hq : s.extract 0 p.size = p
    · have hr : hasPre s p = true := by
        have : p.size ≤ s.size := by omega
        simp [hasPre, hq, this]
      rw [hr]
      have hb : ((s.extract 0 p.size).toList == p.toList) = true := by rw [hq]; exact beq_self_eq_true _
      have HQ := hide hq
      clear hq hr
      go_enter Try.func88, Try.ntmps88
      go_wp2
      go_ret
      exact ⟨rfl, rfl⟩
    · have hr : hasPre s p = false := by simp [hasPre, hq]
      rw [hr]
      have hb : ((s.extract 0 p.size).toList == p.toList) = false := by
        cases hb : ((s.extract 0 p.size).toList == p.toList)
        · rfl
        · exact absurd (bytes_ext (eq_of_beq hb)) hq
      have HQ := hide hq
      clear hq hr
      go_enter Try.func88, Try.ntmps88
      go_wp2
      go_ret
      exact ⟨rfl, rfl⟩
  · have hr : hasPre s p = false := by
      have : ¬ p.size ≤ s.size := by omega
      simp [hasPre, this]
    rw [hr]
    have hd : decide ((p.size : Int) ≤ s.size) = false := by simpa using h0
    clear hr
    go_enter Try.func88, Try.ntmps88
    go_wp2
    go_ret
    exact ⟨rfl, rfl⟩
theorem prefix_any (s p : ByteArray) (w : World) (hs : s.size ≤ maxLen) (hp : p.size ≤ maxLen) : Calls Try.prog 61 #[.string s, .string p] w fun e w' => e = .returned (.bool (hasPre s p)) ∧ w' = w := by
  have h := hide (fun W => pre_any s p W hs hp)
  go_enter Try.func61, Try.ntmps61
  go_wp2_with (go_at_call 88; refine (h.out _).mono ?_; rintro e w1 ⟨rfl, rfl⟩)
  go_ret
  exact ⟨rfl, rfl⟩
end Go.Proofs.Ytljkaafdajpmkaa
