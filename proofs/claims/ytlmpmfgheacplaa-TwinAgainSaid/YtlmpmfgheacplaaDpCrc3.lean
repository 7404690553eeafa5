/- crc.Seal, crc.Open. -/
import Derived.Test.YtlmpmfgheacplaaDpCrc2
import Derived.Lib.ConvBytes
import Derived.Laws.Concat
namespace Go.Proofs.Ytlmpmfgheacplaa
open Go.RowKit
set_option linter.unusedVariables false

set_option maxHeartbeats 1000000 in
theorem conv4 (w : World) (a b c d : Int) : (convert 61 9 (.slice (some ⟨w.heap.size, 0, none⟩) 4 4)).run Try.prog (w.alloc (.cells #[.int .u8 a, .int .u8 b, .int .u8 c, .int .u8 d] 5)) =
    .ok (.string ⟨#[UInt8.ofNat a.toNat, UInt8.ofNat b.toNat, UInt8.ofNat c.toNat, UInt8.ofNat d.toNat]⟩) (w.alloc (.cells #[.int .u8 a, .int .u8 b, .int .u8 c, .int .u8 d] 5)) := by
  have := run_convert_bytes_arg (P := Try.prog) (w := w.alloc (.cells #[.int .u8 a, .int .u8 b, .int .u8 c, .int .u8 d] 5)) 61 5 Try.underlying61 Try.underlying5 w.heap.size 0 4 4 [a, b, c, d] rfl
  exact this (fun i hi => by
    obtain rfl | rfl | rfl | rfl : i = 0 ∨ i = 1 ∨ i = 2 ∨ i = 3 := by omega
    all_goals simp [World.cell?_alloc_new]) _ Try.underlying9
set_option maxRecDepth 100000 in
theorem seal_any (s : ByteArray) (w : World) (hs : s.size ≤ 140737488355328) : Calls Try.prog 24 #[.string s] w fun e w' => e = .returned (.string (sealOf s)) ∧ Only [] w w' := by
  go_enter Try.func24, Try.ntmps24
  go_wp2_with (go_at_call 32; refine (sum_one _ _ s _ (by simp) (by simp) (by unfold maxLen; omega)).mono ?_; rintro e w1 ⟨rfl, ho1⟩; have hcv := conv4 w1)
  go_ret
  exact ⟨rfl, ((Only.refl _ _).alloc _).trans (ho1.alloc _) (by simp)⟩

theorem sealOf_size (s : ByteArray) : (sealOf s).size = s.size + 4 := by
  unfold sealOf
  rw [ByteArray.size_append]
  rfl
/-- What Open answers. -/
def openOf (s : ByteArray) : ByteArray × Int :=
  if s.size < 4 then (⟨#[]⟩, 2) else if sealOf (s.extract 0 (s.size - 4)) = s then (s.extract 0 (s.size - 4), 0) else (⟨#[]⟩, 14)

set_option maxRecDepth 100000 in
theorem open_any (s : ByteArray) (w : World) (hs : s.size ≤ 140737488355328) : Calls Try.prog 25 #[.string s] w fun e w' => e = .returned (.tuple #[.string (openOf s).1, .int .i64 (openOf s).2]) ∧ Only [] w w' := by
  by_cases h : s.size < 4
  · have hn : (s.size : Int) - 4 < 0 := by omega
    have hr := hide (show openOf s = (⟨#[]⟩, 2) by simp [openOf, h])
    go_enter Try.func25, Try.ntmps25
    go_wp2
    go_ret2
    exact ⟨by rw [hr.out]; rfl, Only.refl _ _⟩
  · obtain ⟨n, hn⟩ : ∃ n, s.size = n + 4 := ⟨s.size - 4, by omega⟩
    have hN := hide hn
    have h1 : (4 : Int) ≤ s.size := by omega
    have hsz : (s.extract 0 n).size ≤ 140737488355328 := by rw [ByteArray.size_extract]; omega
    by_cases hq : sealOf (s.extract 0 n) = s
    · have hr := hide (show openOf s = (s.extract 0 n, 0) by simp [openOf, h, hn, hq])
      have HQ := hide hq
      clear hq
      go_enter Try.func25, Try.ntmps25
      go_wp2_with (go_at_call 24; refine (seal_any _ _ hsz).mono ?_; rw [HQ.out]; rintro e w1 ⟨rfl, ho1⟩)
      go_ret2
      exact ⟨by rw [hr.out]; rfl, ho1⟩
    · have hr := hide (show openOf s = (⟨#[]⟩, 14) by simp [openOf, h, hn, hq])
      generalize ht : sealOf (s.extract 0 n) = t at *
      have HQ := hide ht
      have hne : (t.toList == s.toList) = false := by
        cases hb : (t.toList == s.toList)
        · rfl
        · exact absurd (bytes_ext (eq_of_beq hb)) hq
      clear ht
      go_enter Try.func25, Try.ntmps25
      go_wp2_with (go_at_call 24; refine (seal_any _ _ hsz).mono ?_; rw [HQ.out]; rintro e w1 ⟨rfl, ho1⟩)
      go_ret2
      exact ⟨by rw [hr.out]; rfl, ho1⟩
end Go.Proofs.Ytlmpmfgheacplaa
