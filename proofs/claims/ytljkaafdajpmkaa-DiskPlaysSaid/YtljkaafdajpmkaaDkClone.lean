/- slices.Clone of the effects that wait. -/
import Derived.Test.YtljkaafdajpmkaaDkList
import Derived.Lib.SliceRun
namespace Go.Proofs.Ytljkaafdajpmkaa
open Go.RowKit
set_option linter.unusedVariables false

def CloneEffPost (w : World) (l : List Eff) (e : Ending) (w' : World) : Prop :=
  ∃ A c, e = .returned (.slice A l.length c) ∧ l.length ≤ c ∧ ArgAt w' A (effCells l) ∧ (∀ k, A = some ⟨k, 0, none⟩ → w.heap.size ≤ k) ∧ (l = [] → A = none ∧ c = 0) ∧ Only [] w w'
set_option maxHeartbeats 2000000 in
set_option maxRecDepth 100000 in
theorem clone_eff_any (A : Option Addr) (c : Nat) (l : List Eff) (w : World) (ha : ArgAt w A (effCells l)) (hn : l.length ≤ 1000000) (hnil : l = [] → A = none ∧ c = 0) (hc : l.length ≤ c) :
    Calls Try.prog 63 #[.slice A l.length c] w (CloneEffPost w l) := by
  have hq := fun (W : World) (a : Option Addr) (n c : Nat) => Lib.run_eql_slice_nil (P := Try.prog) W 103 _ a n c 0 0 Try.underlying103
  cases hl : l with
  | nil =>
    obtain ⟨rfl, rfl⟩ := hnil hl
    subst hl
    go_enter Try.func63, Try.ntmps63
    go_wp2
    go_ret
    exact ⟨none, 0, rfl, Nat.le_refl _, ArgAt.nil _ _, (fun k hk => by cases hk), fun _ => ⟨rfl, rfl⟩, Only.refl _ _⟩
  | cons e0 l0 =>
    obtain ⟨k, rfl, hk, _⟩ := ha 0 (.int .i64 e0.kind) (by rw [hl]; rfl)
    rw [← hl]
    have HL := hide hl
    clear hl hnil
    go_enter Try.func63, Try.ntmps63
    have hoA : Only [] w (w.alloc (.cells #[] 116)) := (Only.refl [] w).alloc _
    have hA := ha.only hoA (by simp)
    have hnews : ∀ j u, (effCells l)[j]? = some u → (w.alloc (.cells #[] 116)).cell? ⟨k, j, none⟩ = some u := fun j u hu => by
      obtain ⟨k', h1, _, h2⟩ := hA j u hu
      cases h1
      exact h2
    have h1c : ∀ u ∈ effCells l, u.oneCell' = true := by
      intro u hu
      obtain ⟨f, _, hf⟩ := List.mem_flatMap.1 hu
      simp [Eff.cells] at hf
      rcases hf with rfl | rfl | rfl <;> rfl
    have HN := hide hnews
    clear hA hnews ha
    go_wp2_with (at_builtin; refine wpList_app rfl _ _ 103 rfl Try.underlying103 infoEff rfl (by omega) rfl (World.ownsRow_lit w #[] 0 (Nat.le_refl _) (by decide) rfl) k l.length c (effCells l) rfl (effCells_len l) HN.out h1c (by omega) (by unfold maxLen; omega) (by simp) ?_; intro v' w3 hown3 ho3 _)
    obtain ⟨A', c', rfl, hc', hcells⟩ := own_form hown3
    have hO3 := hoA.trans ho3 (fun t ht hl => by have := (own_lt (World.ownsRow_lit (base := w.heap.size) (e := 116) (size := 3) w #[] 0 (Nat.le_refl _) (by decide) rfl) ht).1; omega)
    have HC := hide hcells
    clear hcells hown3
    go_wp2
    go_ret
    rw [Nat.zero_add] at *
    refine ⟨A', c', rfl, by omega, fun j u hu => ?_, fun kk hkk => ?_, fun hl => ?_, hO3⟩
    · obtain ⟨g, h1, _, h2, h3⟩ := HC.out j u (by simpa using hu)
      exact ⟨g, h1, h2, h3⟩
    · obtain ⟨g, h1, hb, _⟩ := HC.out 0 (.int .i64 e0.kind) (by rw [HL.out]; rfl)
      rw [hkk] at h1
      cases h1
      exact hb
    · rw [HL.out] at hl
      cases hl
end Go.Proofs.Ytljkaafdajpmkaa
