/- crc.More, crc.Sum, crc.Seal, crc.Open. -/
import Derived.Test.YtlmpmfgheacplaaDpCrc1
namespace Go.Proofs.Ytlmpmfgheacplaa
open Go.RowKit
set_option linter.unusedVariables false

theorem take_snoc (s : ByteArray) (k : Nat) (h : k < s.size) : s.data.toList.take (k + 1) = s.data.toList.take k ++ [s[k]] := by
  rw [List.take_succ_eq_append_getElem (by simpa using h)]; rfl
theorem crcFold_snoc (x : Nat) (l : List UInt8) (c : UInt8) : crcFold x (l ++ [c]) = crcByte (crcFold x l) c := by simp [crcFold]

theorem flip_bits (x : Nat) (h : x < 4294967296) : bits BinOp.xor IntKind.u32 IntKind.u32.max (x : Int) = ((4294967295 - x : Nat) : Int) := by
  have e : IntKind.u32.max = ((4294967295 : Nat) : Int) := by decide
  rw [e, u32_xor_nat 4294967295 x (by omega) h]
  congr 1
  have h1 : (BitVec.allOnes 32 ^^^ BitVec.ofNat 32 x).toNat = 4294967295 ^^^ x := by
    rw [BitVec.toNat_xor, BitVec.toNat_allOnes, BitVec.toNat_ofNat, Nat.mod_eq_of_lt (by omega)]
  rw [← h1, BitVec.xor_comm, BitVec.xor_allOnes, BitVec.toNat_not, BitVec.toNat_ofNat, Nat.mod_eq_of_lt (by omega)]
theorem byte_bits (x : Nat) (c : UInt8) : bits BinOp.xor IntKind.u8 ((x : Int) % 256) (c.toNat : Int) = (((x % 256) ^^^ c.toNat : Nat) : Int) := by
  have hc : c.toNat < 256 := c.toNat_lt
  exact u8_xor_nat (x % 256) c.toNat (by omega) (by omega)
theorem byte_lt (x : Nat) (c : UInt8) : (x % 256) ^^^ c.toNat < 256 := by
  have hc : c.toNat < 256 := c.toNat_lt
  exact Nat.xor_lt_two_pow (n := 8) (by omega) (by omega)

set_option maxHeartbeats 1000000 in
set_option maxRecDepth 100000 in
theorem more_any (sum : Nat) (s : ByteArray) (w : World) (h : sum < 4294967296) (hs : s.size ≤ maxLen) : Calls Try.prog 37 #[.int .u32 (sum : Int), .string s] w fun e w' => e = .returned (.int .u32 ((crcMore sum s.data.toList : Nat) : Int)) ∧ Only [] w w' := by
  unfold maxLen at hs
  have HFl := hide (flip_bits sum h)
  go_enter Try.func37, Try.ntmps37
  go_wp2_with (go_at_call 41; refine (table_any _).mono ?_; rintro e w1 ⟨rfl, hB1, ho1⟩)
  go_loopw [6, 13] (fun v6 v13 W => ∃ k : Nat, k ≤ s.size ∧ v13 = .int .i64 k ∧ v6 = .int .u32 ((crcFold (4294967295 - sum) (s.data.toList.take k) : Nat) : Int) ∧ W.heap[w.heap.size]? = some (.cells (tabCells 256) 95 (0, 0)) ∧ Only [] w W) (fun _ v13 _ => (s.size - intOf v13).toNat)
  case atStart => exact ⟨0, by omega, rfl, by rw [HFl.out]; rfl, hB1, ho1⟩
  case round =>
    obtain ⟨k, hk, rfl, rfl, hB, ho⟩ := hrel
    have hx := crcFold_lt (s.data.toList.take k) (x := 4294967295 - sum) (by omega)
    have hsn : ∀ hlt : k < s.size, crcFold (4294967295 - sum) (s.data.toList.take (k + 1)) = crcByte (crcFold (4294967295 - sum) (s.data.toList.take k)) s[k] := fun hlt => by rw [take_snoc s k hlt, crcFold_snoc]
    generalize hxe : crcFold (4294967295 - sum) (s.data.toList.take k) = x at *
    have HX := hide hxe
    have HK := hide hsn
    clear hxe hsn
    by_cases hlt : k < s.size
    · have hc : wr.cell? ⟨w.heap.size, (x % 256) ^^^ (s[k]).toNat, none⟩ = some (.int .u32 ((crcSteps 8 ((x % 256) ^^^ (s[k]).toNat) : Nat) : Int)) := by
        simp only [World.cell?, hB]
        rw [if_neg (by simp), tabCells_at 256 _ (byte_lt x _), if_pos (byte_lt x _)]
      have hbl := byte_lt x s[k]
      have HB := hide hB
      clear hB
      have hq := byte_bits x s[k]
      go_wp2
      go_quiet (fail)
      go_wp2
      go_roundw
      case rel =>
        refine ⟨k + 1, by omega, by go_num, ?_, HB.out, ho.drewN _⟩
        rw [HK.out hlt]
        have e : (x : Int) / (256 : Int) = ((x >>> 8 : Nat) : Int) := by rw [Nat.shiftRight_eq_div_pow]; omega
        rw [e, u32_xor_nat _ _ (crcSteps_lt 8 (by omega)) (by rw [Nat.shiftRight_eq_div_pow]; omega)]
        rfl
      case measure => simp [intOf]; omega
    · obtain rfl : k = s.size := by omega
      have HB := hide hB
      have hf := hide (flip_bits x hx)
      have hl : s.data.toList.length = s.size := by rw [Array.length_toList]; rfl
      have hr : crcMore sum s.data.toList = 4294967295 - x := by
        unfold crcMore
        rw [← HX.out, List.take_of_length_le (by omega)]
      have HR := hide hr
      clear hB hr hl
      go_wp2
      go_ret
      exact ⟨by rw [HR.out, ← hf.out]; rfl, ho⟩

/-- Seal's four bytes behind a text. -/
def crcTail (l : List UInt8) : ByteArray := ⟨#[UInt8.ofNat (crcOf l / 16777216 % 256), UInt8.ofNat (crcOf l / 65536 % 256), UInt8.ofNat (crcOf l / 256 % 256), UInt8.ofNat (crcOf l % 256)]⟩
def sealOf (s : ByteArray) : ByteArray := s ++ crcTail s.data.toList

set_option maxHeartbeats 1000000 in
/-- Sum of one text. -/
theorem sum_one (a : Addr) (c : Nat) (s : ByteArray) (w : World) (hc : w.cell? a = some (.string s)) (ha : a.block < w.heap.size) (hs : s.size ≤ maxLen) :
    Calls Try.prog 32 #[.slice (some a) 1 c] w fun e w' => e = .returned (.int .u32 ((crcOf s.data.toList : Nat) : Int)) ∧ Only [] w w' := by
  go_enter Try.func32, Try.ntmps32
  go_wp2
  refine wp_loop_rounds 2 ?_
  rw [rounds_succ]
  go_wp2_with (go_at_call 37; refine (more_any 0 s _ (by omega) hs).mono ?_; rintro e w1 ⟨rfl, ho1⟩)
  rw [rounds_succ]
  go_wp2
  go_ret
  exact ⟨rfl, ho1⟩
end Go.Proofs.Ytlmpmfgheacplaa
