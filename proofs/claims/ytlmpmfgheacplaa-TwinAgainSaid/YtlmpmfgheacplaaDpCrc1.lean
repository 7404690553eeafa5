/- crc.table, crc.More, crc.Sum, crc.Seal, crc.Open. -/
import Derived.Test.YtlmpmfgheacplaaDpCrc0
import Derived.Test.YtlmpmfgheacplaaDpMap
import Derived.Test.YtlmpmfgheacplaaProg
import Derived.WalkKit
import Derived.WalkSpells
import Derived.WalkLawsBesides
import Derived.BigRegion
import Derived.BigQuiet
import Derived.Deep.QuietTactic
import Derived.Deep.RegionHeld3
import Derived.Deep.DeepCutAuto
import Derived.Laws.BitsAllLaws
namespace Go.Proofs.Ytlmpmfgheacplaa
open Go.RowKit
set_option linter.unusedVariables false

theorem step_bits (x : Nat) (h : x < 4294967296) : bits BinOp.xor IntKind.u32 ((x : Int) / 2) (bits BinOp.and IntKind.u32 3988292384 (-bits BinOp.and IntKind.u32 (x : Int) 1 % 4294967296)) = ((crcStep x : Nat) : Int) := by
  have e1 : bits BinOp.and IntKind.u32 (x : Int) 1 = ((x % 2 : Nat) : Int) := by
    have := u32_and_nat x 1 h (by omega)
    rw [Nat.and_one_is_mod] at this
    exact this
  have e2 : bits BinOp.and IntKind.u32 3988292384 (-((x % 2 : Nat) : Int) % 4294967296) = (((if x % 2 = 1 then 3988292384 else 0) : Nat) : Int) := by
    rcases Nat.mod_two_eq_zero_or_one x with hx | hx
    · rw [hx]
      exact (u32_and_nat 3988292384 0 (by omega) (by omega)).trans (by simp)
    · rw [hx]
      exact (u32_and_nat 3988292384 4294967295 (by omega) (by omega)).trans (by decide)
  rw [e1, e2]
  have e3 : ((x : Int) / 2) = ((x / 2 : Nat) : Int) := by omega
  rw [e3, u32_xor_nat (x / 2) _ (by omega) (by split <;> omega)]
  unfold crcStep
  rw [Nat.shiftRight_eq_div_pow]

def tabCells (k : Nat) : Array Value := (List.map (fun j : Nat => Value.int .u32 ((if j < k then crcSteps 8 j else 0 : Nat) : Int)) (List.range 256)).toArray
theorem tabCells_at (k j : Nat) (h : j < 256) : (tabCells k)[j]? = some (.int .u32 ((if j < k then crcSteps 8 j else 0 : Nat) : Int)) := by
  unfold tabCells
  rw [List.getElem?_toArray, List.getElem?_map, List.getElem?_range h]
  rfl
theorem tabCells_set (k : Nat) (h : k < 256) : (tabCells k).setIfInBounds k (.int .u32 ((crcSteps 8 k : Nat) : Int)) = tabCells (k + 1) := by
  apply Array.ext_getElem?
  intro j
  rw [Array.getElem?_setIfInBounds]
  have hs : (tabCells k).size = 256 := by simp [tabCells]
  by_cases hj : j < 256
  · rw [tabCells_at (k + 1) j hj]
    by_cases he : k = j
    · subst he
      simp [hs, h]
    · rw [if_neg he, tabCells_at k j hj]
      by_cases h1 : j < k
      · simp [h1, show j < k + 1 by omega]
      · simp [h1, show ¬ j < k + 1 by omega]
  · have h1 : (tabCells k)[j]? = none := Array.getElem?_eq_none (by omega)
    have h2 : (tabCells (k + 1))[j]? = none := Array.getElem?_eq_none (by simp [tabCells]; omega)
    rw [if_neg (by omega), h1, h2]
theorem alloc_tab0 (w : World) : (Instr.alloc 95 true (.tuple #[])).run Try.prog w = .ok (.pointer (some ⟨w.heap.size, 0, none⟩)) (w.alloc (.cells (tabCells 0) 95)) := by kernel_rfl
theorem alloc_tab (o : Oper) (ho : o.op = .alloc 95) (ρ : Operand → Value) (w : World) : (execOp ρ o).run Try.prog w = .ok (.value (.pointer (some ⟨w.heap.size, 0, none⟩))) (w.alloc (.cells (tabCells 0) 95)) := by
  unfold execOp
  rw [ho]
  simp only [Sem.run_bind, Sem.run_pure, alloc_tab0, Result.andThen_ok]
set_option maxHeartbeats 1000000 in
set_option maxRecDepth 100000 in
theorem table_any (w : World) : Calls Try.prog 41 #[] w fun e w' => e = .returned (.pointer (some ⟨w.heap.size, 0, none⟩)) ∧ w'.heap[w.heap.size]? = some (.cells (tabCells 256) 95 (0, 0)) ∧ Only [] w w' := by
  go_enter Try.func41, Try.ntmps41
  go_wp2_with (refine wpList_to rfl (some 1) rfl _ _ (alloc_tab _ rfl _ w) ?_)
  go_loopw [4] (fun v4 W => ∃ k : Nat, k ≤ 256 ∧ v4 = .int .i64 k ∧ W.heap[w.heap.size]? = some (.cells (tabCells k) 95 (0, 0)) ∧ Only [] w W) (fun v4 _ => (256 - intOf v4).toNat)
  case atStart => exact ⟨0, by omega, rfl, (MapKept.heap_alloc w _).1, (Only.refl _ _).alloc _⟩
  case round =>
    obtain ⟨k, hk, rfl, hB, ho⟩ := hrel
    by_cases hlt : k < 256
    · go_wp2
      go_loop [3, 9] (fun v3 v9 => ∃ j : Nat, j ≤ 8 ∧ v9 = .int .i64 j ∧ v3 = .int .u32 ((crcSteps j k : Nat) : Int)) (fun _ v9 => (8 - intOf v9).toNat)
      case atStart => exact ⟨0, by omega, rfl, rfl⟩
      case round =>
        obtain ⟨j, hj, rfl, rfl⟩ := hrel
        by_cases hjl : j < 8
        · have hb := crcSteps_lt j (x := k) (by omega)
          have hst := hide (step_bits _ hb)
          go_wp2
          go_round
          case rel => exact ⟨j + 1, by omega, by go_num, by rw [hst.out]; rfl⟩
          case measure => simp [intOf]; omega
        · obtain rfl : j = 8 := by omega
          have hc : wr.cell? ⟨w.heap.size, k, none⟩ = some (.int .u32 0) := by
            simp [World.cell?, hB, tabCells_at k k hlt]
          have hf : wr.frozen? ⟨w.heap.size, k, none⟩ = false := by simp [World.frozen?, hB]
          have HB := hide hB
          clear hB
          go_wp2
          go_roundw
          case rel =>
            refine ⟨k + 1, by omega, by go_num, ?_, ho.setCell (.inr (by simp)) _⟩
            rw [← tabCells_set k hlt]
            simp [World.setCell, Array.getElem?_modify, HB.out]
          case measure => simp [intOf]; omega
    · obtain rfl : k = 256 := by omega
      have HB := hide hB
      clear hB
      go_wp2
      go_ret
      exact ⟨rfl, HB.out, ho⟩
end Go.Proofs.Ytlmpmfgheacplaa
