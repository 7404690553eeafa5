/- DiskKept: behind a failure each file has a text that it had at the last sync, or that was written to it behind; what nobody touched is as it was: true at every input.
No condition: whatever acts and whatever cut come in. -/
import Derived.Test.YtljkaafdajpmkaaRows
import Derived.Test.YtljkaafdajpmkaaDkKeptW
import Derived.Test.YtljkaafdajpmkaaDkOpen
import Derived.WalkKit
import Derived.ProofKit
import Derived.OpenShut
import Derived.ShutString
import Derived.ChangeOld
import Derived.Below
import Derived.SizedLaws
import Derived.KernelRfl
namespace Go.Proofs.Ytljkaafdajpmkaa.diskKept
open Go.ChangeShapes Go.WideShapes Go.ChangeAt Go.RowKit
set_option linter.unusedVariables false

theorem own : ownKnob Try.prog.godebug = none := by kernel_rfl
theorem laidOut : laidOutB Try.prog = true := by kernel_rfl
set_option maxRecDepth 100000 in
theorem lifted (os : Os) (started : os.Started) (H : Type) (enc : TypeId × Value → H) :
    ReturnsInHanded {} Try.checked os 4 .any (Rows.diskKeptSpec.pre6 enc Try.prog Try.f4 Rows.diskKeptRow.domain false) (Rows.diskKeptSpec.post enc Try.prog Try.f4 false true false false) := by
  refine returnsInHanded_of_change_sized (C := Try.checked) own started (by kernel_rfl) Try.func4
    (ChangeSpec.witness6 (enc := enc) (C := Try.checked) false ⟨#[], #[.slice none 0 0, .slice none 0 0, .agg #[.int .i64 0, .int .u64 0]], []⟩ 8 (by kernel_rfl) (by kernel_rfl) (by kernel_rfl) (by kernel_rfl)) ?_
  intro W base args ds gs before hval0 hW hcnd hsz0 _
  have hval : ∀ (j : Nat) t v, Try.f4.params[j]? = some t → args[j]? = some v → Value.okWide Try.prog W .any base t v := hval0
  have hW' := hW
  obtain ⟨p, q, hA0, hV, rfl, hfz, hnd⟩ := hW
  have hA : DataW.TrodAll enc Try.prog W 0 (fun _ => true) true Try.f4.params.toList args.toList ds p := hA0
  rw [Try.params4] at hA hval
  obtain ⟨v0, vs0, d0, ds0, p0, q0, hargs, rfl, rfl, h0, r0⟩ := trodAll_cons hA
  obtain ⟨v1, vs1, d1, ds1, p1, q1, hargs1, rfl, rfl, h1, r1⟩ := trodAll_cons r0
  obtain ⟨v2, vs2, d2, ds2, p2, q2, hargs2, rfl, rfl, h2, r2⟩ := trodAll_cons r1
  obtain ⟨rfl, rfl, rfl⟩ := trodAll_nil r2
  obtain rfl : args = #[v0, v1, v2] := by cases args; simp_all
  obtain ⟨rfl, rfl⟩ := trodVars_none hV
  obtain ⟨a0, len0, cap0, rfl⟩ := okWide_slice Try.underlying22 (hval 0 22 v0 rfl rfl)
  obtain ⟨a1, len1, cap1, rfl⟩ := okWide_slice Try.underlying22 (hval 1 22 v1 rfl rfl)
  obtain ⟨cs2, rfl, hcs2⟩ := okWide_struct Try.underlying33 (hval 2 33 v2 rfl rfl)
  have k2 := h2
  have lt2 : ∀ x ∈ p2, x.block < W.heap.size := by obtain ⟨m, hm⟩ := k2; exact DataW.trod_lt m _ _ _ hm
  obtain ⟨kk, kp, hcs, hkk, hkp0, hkp1⟩ : ∃ k m : Int, cs2 = #[.int .i64 k, .int .u64 m] ∧ k ≤ 9223372036854775807 ∧ 0 ≤ m ∧ m < 18446744073709551616 := by
    obtain ⟨fuel, hf⟩ := h2
    obtain ⟨k, m, h1, h2, h3⟩ := open_cut hf
    exact ⟨k, m, Array.toList_inj.1 (by simpa [Value.cells] using h1), h2, h3⟩
  subst hcs
  have k0 := h0
  have k1 := h1
  have lt0 : ∀ x ∈ p0, x.block < W.heap.size := by obtain ⟨m, hm⟩ := k0; exact DataW.trod_lt m _ _ _ hm
  have lt1 : ∀ x ∈ p1, x.block < W.heap.size := by obtain ⟨m, hm⟩ := k1; exact DataW.trod_lt m _ _ _ hm
  have w0 : ∀ n ∈ d0.weights Try.prog 22, n ≤ reachBytes := fun n hn => by
    have := List.all_eq_true.1 hsz0 n (DataW.weights_mem_each (j := 0) (t := 22) (d := d0) rfl rfl n hn)
    simpa using this
  have w1 : ∀ n ∈ d1.weights Try.prog 22, n ≤ reachBytes := fun n hn => by
    have := List.all_eq_true.1 hsz0 n (DataW.weights_mem_each (j := 1) (t := 22) (d := d1) rfl rfl n hn)
    simpa using this
  obtain ⟨l, hl, hlc, hcm, hs, hacts⟩ : ∃ l : List Act, l.length = len0 ∧ len0 ≤ cap0 ∧ cap0 ≤ maxLen ∧ (∀ x ∈ l, x.Is) ∧ ActsAt W a0 l := by
    obtain ⟨fuel, hf⟩ := h0
    exact open_acts hf w0
  obtain ⟨m, hm, hmc, hdm, hs1, hacts1⟩ : ∃ l : List Act, l.length = len1 ∧ len1 ≤ cap1 ∧ cap1 ≤ maxLen ∧ (∀ x ∈ l, x.Is) ∧ ActsAt W a1 l := by
    obtain ⟨fuel, hf⟩ := h1
    exact open_acts hf w1
  clear hA0 hval0 hsz0 w0 w1
  subst hl hm
  refine (kept_any l m a0 a1 cap0 cap1 kk kp W hlc hcm hmc hdm hs hs1 hacts hacts1 hkk ⟨hkp0, hkp1⟩).mono fun e W' ⟨he, ho⟩ => ?_
  subst he
  have bel : Below W.heap.size W W' := ho.below (Nat.le_refl _) (by simp)
  exact ⟨_, rfl, _, _, _, [], _, [], hW', trodAll_mk1 (shut_bool Try.underlying4 _), (trodAll_cons_mk (Below.trod laidOut (by kernel_rfl) (of_decide_eq_true (by kernel_rfl)) k0 bel lt0) (trodAll_cons_mk (Below.trod laidOut (by kernel_rfl) (of_decide_eq_true (by kernel_rfl)) k1 bel lt1) (trodAll_cons_mk (Below.trod laidOut (by kernel_rfl) (of_decide_eq_true (by kernel_rfl)) k2 bel lt2) trodAll_mk0))), rfl, bel.frame _, fun h => by cases h⟩
theorem over : Rows.diskKeptRow.holds Try.pinned (OpenSpec.ofChange Rows.diskKeptSpec) :=
  OpenClaim.holds_of_wide 4 Try.f4 rfl rfl rfl rfl rfl rfl rfl ⟨rfl, rfl, rfl, rfl, rfl⟩ rfl rfl rfl rfl rfl (by kernel_rfl) Try.func4 (by kernel_rfl)
    (of_decide_eq_true (by kernel_rfl)) (by unfold Func.isWrapper; first | (rw [if_pos (by decide +kernel)]; kernel_rfl) | (rw [if_neg (by decide +kernel)]; exact ⟨rfl, rfl⟩))
    (fun os started H enc _ => lifted os started H enc)
theorem proved : Rows.DiskKeptSaid := over
#print axioms proved
end Go.Proofs.Ytljkaafdajpmkaa.diskKept
namespace Go.Proofs.Ytljkaafdajpmkaa
/-- The row, under a short name, for the claim. -/
theorem diskKept_holds : Rows.DiskKeptSaid := diskKept.proved
end Go.Proofs.Ytljkaafdajpmkaa
