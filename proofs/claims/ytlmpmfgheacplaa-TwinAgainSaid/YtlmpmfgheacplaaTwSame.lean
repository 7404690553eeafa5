/- ref14.Same of equal lists. -/
import Derived.Test.YtlmpmfgheacplaaTwPrint
namespace Go.Proofs.Ytlmpmfgheacplaa
open Go.RowKit
set_option linter.unusedVariables false

theorem ArgAt.of_own {w : World} {base n : Nat} {A : Option Addr} {c : Nat} {xs : List Value} {e : TypeId} {size : Nat} (h : w.ownsRow base e size (.slice A n c) n xs) : n ≤ c ∧ ArgAt w A xs := by
  obtain ⟨A', c', hv, hc, hcells⟩ := own_form h
  cases hv
  exact ⟨hc, fun j u hu => by
    obtain ⟨g, h1, _, h2, h3⟩ := hcells j u hu
    exact ⟨g, h1, h2, h3⟩⟩
set_option maxHeartbeats 1000000 in
set_option maxRecDepth 100000 in
theorem same_any (l : List Row) (A B : Option Addr) (c d : Nat) (w : World) (hl : l.length ≤ 8192) (ha : ArgAt w A (rowsCells l)) (hb : ArgAt w B (rowsCells l)) :
    Calls Try.prog 13 #[.slice A l.length c, .slice B l.length d] w fun e w' => e = .returned (.bool true) ∧ Only [] w w' := by
  go_enter Try.func13, Try.ntmps13
  go_wp2
  go_loopw [5] (fun v5 W => ∃ j : Nat, j ≤ l.length ∧ v5 = .int .i64 j ∧ Only [] w W) (fun v5 _ => (l.length - intOf v5).toNat)
  case atStart => exact ⟨0, by omega, rfl, Only.refl _ _⟩
  case round =>
    obtain ⟨j, hj, rfl, hO⟩ := hrel
    by_cases hlt : j < l.length
    · obtain ⟨r, hr⟩ : ∃ r, l[j]? = some r := ⟨_, List.getElem?_eq_getElem hlt⟩
      obtain ⟨ga, rfl, hga, hc0⟩ := ha _ _ (rowsCells_at hr).1
      obtain ⟨_, e1, _, hc1⟩ := ha _ _ (rowsCells_at hr).2.1
      obtain rfl : ga = _ := by injection e1 with e1; injection e1
      obtain ⟨_, e2, _, hc2⟩ := ha _ _ (rowsCells_at hr).2.2
      obtain rfl : ga = _ := by injection e2 with e2; injection e2
      obtain ⟨gb, rfl, hgb, hd0⟩ := hb _ _ (rowsCells_at hr).1
      obtain ⟨_, e3, _, hd1⟩ := hb _ _ (rowsCells_at hr).2.1
      obtain rfl : gb = _ := by injection e3 with e3; injection e3
      obtain ⟨_, e4, _, hd2⟩ := hb _ _ (rowsCells_at hr).2.2
      obtain rfl : gb = _ := by injection e4 with e4; injection e4
      have k0 := (hO.cell (p := ⟨ga, j * 3, none⟩) hga (by simp)).trans hc0
      have k1 := (hO.cell (p := ⟨ga, j * 3 + 1, none⟩) hga (by simp)).trans hc1
      have k2 := (hO.cell (p := ⟨ga, j * 3 + 2, none⟩) hga (by simp)).trans hc2
      have q0 := (hO.cell (p := ⟨gb, j * 3, none⟩) hgb (by simp)).trans hd0
      have q1 := (hO.cell (p := ⟨gb, j * 3 + 1, none⟩) hgb (by simp)).trans hd1
      have q2 := (hO.cell (p := ⟨gb, j * 3 + 2, none⟩) hgb (by simp)).trans hd2
      clear hc0 hc1 hc2 hd0 hd1 hd2
      go_upto_region 6 with fail
      go_cut [25] (fun v25 W => v25 = .bool false ∧ Only [] w W)
      case first =>
        go_region
        all_goals
          go_wp2
          go_meet
          exact ⟨rfl, hO.drew⟩
      case rest =>
      obtain ⟨rfl, hO2⟩ := hcut
      go_wp2
      go_roundw
      case rel => exact ⟨j + 1, by omega, by go_num, hO2⟩
      case measure => simp [intOf]; omega
    · obtain rfl : j = l.length := by omega
      go_wp2
      go_ret
      exact ⟨rfl, hO⟩
end Go.Proofs.Ytlmpmfgheacplaa
