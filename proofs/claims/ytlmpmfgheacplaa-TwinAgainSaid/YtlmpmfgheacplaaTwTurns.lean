/- TwinTurns, walked. -/
import Derived.Test.YtlmpmfgheacplaaTwTurnsPlain
import Derived.Test.YtlmpmfgheacplaaTwActs
import Derived.Test.YtlmpmfgheacplaaTwAwake
namespace Go.Proofs.Ytlmpmfgheacplaa
open Go.RowKit
set_option linter.unusedVariables false

/-- What a law that is true at whatever input leaves behind. -/
def TruePost (w : World) (e : Ending) (w' : World) : Prop := e = .returned (.bool true) ∧ Only [] w w'
structure lawSt (w W : World) (g b1 b2 : Nat) (m : List Row) : Prop where
  good : Good m
  tab : TabL W g b1 b2 m
  only : Only [] w W
  hg : w.heap.size ≤ g ∧ w.heap.size ≤ b1 ∧ w.heap.size ≤ b2
section
variable {w W W' : World} {g b1 b2 : Nat} {m m' : List Row}
theorem lawSt.quiet (h : lawSt w W g b1 b2 m) (ho : Only [] W W') : lawSt w W' g b1 b2 m := ⟨h.good, h.tab.only ho (by simp) (by simp) (by simp), h.only.trans ho (by simp), h.hg⟩
theorem lawSt.added (h : lawSt w W g b1 b2 m) (hm : Good m') (ht : TabL W' g b1 b2 m') (ho : Only [b1, b2] W W') : lawSt w W' g b1 b2 m' := ⟨hm, ht, h.only.trans ho (fun t ht hl => by have := h.hg; simp at ht; omega), h.hg⟩
end

theorem row_far {w W : World} {A : Option Addr} {L : List Row} (h : ArgAt w A (rowsCells L)) {j : Nat} {r : Row} (hj : L[j]? = some r) (ho : Only [] w W) :
    ∃ g, A = some ⟨g, 0, none⟩ ∧ W.cell? ⟨g, j * 3, none⟩ = some (.string r.wide) ∧ W.cell? ⟨g, j * 3 + 1, none⟩ = some (.string r.narrow) ∧ W.cell? ⟨g, j * 3 + 2, none⟩ = some (.int .i64 r.kind) := by
  have h' := h.only ho (by simp)
  obtain ⟨g, hA, _, h0⟩ := h' _ _ (rowsCells_at hj).1
  obtain ⟨g1, hA1, _, h1⟩ := h' _ _ (rowsCells_at hj).2.1
  obtain ⟨g2, hA2, _, h2⟩ := h' _ _ (rowsCells_at hj).2.2
  subst hA
  cases hA1
  cases hA2
  exact ⟨g, rfl, h0, h1, h2⟩
theorem acts_far {w W : World} {g b1 b2 : Nat} {m : List Row} {l : List Act} {ga off : Nat} (h : lawSt w W g b1 b2 m) (ha : ActsAt w (some ⟨ga, off, none⟩) l) {j : Nat} {a : Act} (hj : l[j]? = some a) {W' : World} (ho : Only [b1, b2] W W') :
    W'.cell? ⟨ga, off + j * 5, none⟩ = some (.int .i64 a.kind) ∧ W'.cell? ⟨ga, off + j * 5 + 1, none⟩ = some (.string a.row.wide) ∧ W'.cell? ⟨ga, off + j * 5 + 2, none⟩ = some (.string a.row.narrow) ∧
    W'.cell? ⟨ga, off + j * 5 + 3, none⟩ = some (.int .i64 a.row.kind) ∧ W'.cell? ⟨ga, off + j * 5 + 4, none⟩ = some (.string a.id) := by
  obtain ⟨_, _, hA, hg, h0, h1, h2, h3, h4⟩ := ha j a hj
  cases hA
  have hw : Only [] w W' := h.only.trans ho (fun t ht hl => by have := h.hg; simp at ht; omega)
  exact ⟨(hw.cell (p := ⟨ga, off + j * 5, none⟩) hg (by simp)).trans h0, (hw.cell (p := ⟨ga, off + j * 5 + 1, none⟩) hg (by simp)).trans h1, (hw.cell (p := ⟨ga, off + j * 5 + 2, none⟩) hg (by simp)).trans h2,
    (hw.cell (p := ⟨ga, off + j * 5 + 3, none⟩) hg (by simp)).trans h3, (hw.cell (p := ⟨ga, off + j * 5 + 4, none⟩) hg (by simp)).trans h4⟩
set_option maxHeartbeats 4000000 in
set_option maxRecDepth 100000 in
theorem turns_any (l : List Act) (A : Option Addr) (c : Nat) (w : World) (hc : l.length ≤ c) (hm : c ≤ maxLen) (hs : ∀ a ∈ l, a.id.size ≤ maxLen ∧ a.row.wide.size ≤ maxLen ∧ a.row.narrow.size ≤ maxLen) (ha : ActsAt w A l) :
    Calls Try.prog 3 #[.slice A l.length c] w (TruePost w) := by
  have hfew := hide (fun W (h : ActsAt W A l) => few_any l A c W hc hm hs h)
  have hlm : l.length ≤ maxLen := Nat.le_trans hc hm
  unfold maxLen at hlm
  clear hm hs
  go_enter Try.func3, Try.ntmps3
  go_upto_region 3 with (go_at_call 6; refine (awake_any _).mono ?_; rintro e w1 ⟨rfl, ho1⟩)
  go_upto_region 5 with (go_at_call 7; refine (hfew.out _ (ha.only ho1)).mono ?_; rintro e w1' ⟨b, rfl, hyes, rfl⟩; cases b)
  · go_ret
    exact ⟨rfl, ho1⟩
  have hY := hide (hyes (by first | rfl | trivial))
  clear hyes hfew
  go_wp2_with (go_at_call 8; refine (new_list _).mono ?_; rintro e w2 ⟨g, b1, b2, rfl, hT, ho2, hg, hb1, hb2⟩)
  have hz1 := ho1.size
  have hst : lawSt w w2 g b1 b2 [] := ⟨Good.nil, hT, ho1.trans ho2 (by simp), by omega, by omega, by omega⟩
  have HST := hide hst
  clear hst hT ho1 ho2 hg hb1 hb2
  go_loopw [4] (fun v4 W => ∃ j : Nat, j ≤ l.length ∧ v4 = .int .i64 j ∧ ∃ m, lawSt w W g b1 b2 m) (fun v4 _ => (l.length - intOf v4).toNat)
  case atStart => exact ⟨0, by omega, rfl, _, HST.out⟩
  case round =>
    clear HST
    obtain ⟨j, hj, rfl, m, hst⟩ := hrel
    by_cases hlt : j < l.length
    · obtain ⟨a, hr⟩ : ∃ a, l[j]? = some a := ⟨_, List.getElem?_eq_getElem hlt⟩
      obtain ⟨ga, off, rfl, hga, k0, k1, k2, k3, k4⟩ := ha.only hst.only j a hr
      obtain ⟨_, s1, s2, s3⟩ := hY.out j a hr
      obtain ⟨c', m', hcm⟩ : ∃ c' m', addL m a.row = (c', m') := ⟨_, _, rfl⟩
      have hgood : Good m' := by have := addL_good hst.good a.row; rw [hcm] at this; exact this
      have hadd := hide (add_eq hcm (by unfold maxLen; omega) (by unfold maxLen; omega) _ hst.tab)
      have HST := hide hst
      have HA := hide ha
      have HJ := hide hcm
      have HF := hide (fun (W : World) (h : Only [b1, b2] wr W) => acts_far hst ha hr h)
      clear hst ha hr hcm s1 s2 s3
      by_cases hc0 : c' = 0
      · subst hc0
        have hoth := hide (other_wide hgood (by have := add_zero HST.out.good (r := a.row) (by rw [HJ.out]); rw [HJ.out] at this; exact this))
        go_wp2_with (first
          | (go_at_call 10; refine (other_eq hoth.out _ hT4.out).mono ?_; rintro e w5 ⟨rfl, ho5⟩; obtain ⟨p0, p1, p2, p3, p4⟩ := HF.out _ (ho4.out.trans ho5 (by simp)))
          | (go_at_call 9; refine hadd.out.mono ?_; rintro e w4 ⟨rfl, hT, ho⟩; have hT4 := hide hT; have ho4 := hide ho; obtain ⟨p0, p1, p2, p3, p4⟩ := HF.out _ ho; clear hT ho))
        go_roundw
        case rel => exact ⟨j + 1, by omega, by go_num, m', (HST.out.added hgood hT4.out ho4.out).quiet ho5⟩
        case measure => simp [intOf]; omega
      · have e0 : decide (c' = 0) = false := by simpa using hc0
        by_cases hc10 : c' = 10
        · subst hc10
          clear hc0 e0
          obtain ⟨hm', hor⟩ := add_ten (m := m) (r := a.row) (by rw [HJ.out])
          rw [HJ.out] at hm'
          simp only at hm'
          subst hm'
          obtain ⟨x1, y1, z1, h1⟩ : ∃ x y z, otherOf (rowsMap m') (backMap m') a.row.wide = (x, y, z) := ⟨_, _, _, rfl⟩
          obtain ⟨x2, y2, z2, h2⟩ : ∃ x y z, otherOf (rowsMap m') (backMap m') a.row.narrow = (x, y, z) := ⟨_, _, _, rfl⟩
          rw [h1, h2] at hor
          simp only at hor
          have H1 := hide h1
          have H2 := hide h2
          clear h1 h2
          have hz : (!z1 && !z2) = false := by rcases hor with rfl | rfl <;> simp
          clear hor
          cases z1 with
          | false =>
            have hz2 : z2 = true := by simpa using hz
            subst hz2
            clear hz
            go_wp2_with (first
              | (go_at_call 10; refine (other_eq H2.out _ (hT4.out.only ho5 (by simp) (by simp) (by simp))).mono ?_; rintro e w6 ⟨rfl, ho6⟩)
              | (go_at_call 10; refine (other_eq H1.out _ hT4.out).mono ?_; rintro e w5 ⟨rfl, ho5⟩; obtain ⟨p0, p1, p2, p3, p4⟩ := HF.out _ (ho4.out.trans ho5 (by simp)))
              | (go_at_call 9; refine hadd.out.mono ?_; rintro e w4 ⟨rfl, hT, ho⟩; have hT4 := hide hT; have ho4 := hide ho; obtain ⟨p0, p1, p2, p3, p4⟩ := HF.out _ ho; clear hT ho))
            go_roundw
            case rel => exact ⟨j + 1, by omega, by go_num, m', ((HST.out.added hgood hT4.out ho4.out).quiet ho5).quiet ho6⟩
            case measure => simp [intOf]; omega
          | true =>
            clear hz
            go_wp2_with (first
              | (go_at_call 10; refine (other_eq H2.out _ (hT4.out.only ho5 (by simp) (by simp) (by simp))).mono ?_; rintro e w6 ⟨rfl, ho6⟩)
              | (go_at_call 10; refine (other_eq H1.out _ hT4.out).mono ?_; rintro e w5 ⟨rfl, ho5⟩; obtain ⟨p0, p1, p2, p3, p4⟩ := HF.out _ (ho4.out.trans ho5 (by simp)))
              | (go_at_call 9; refine hadd.out.mono ?_; rintro e w4 ⟨rfl, hT, ho⟩; have hT4 := hide hT; have ho4 := hide ho; obtain ⟨p0, p1, p2, p3, p4⟩ := HF.out _ ho; clear hT ho))
            go_roundw
            case rel => exact ⟨j + 1, by omega, by go_num, m', ((HST.out.added hgood hT4.out ho4.out).quiet ho5).quiet ho6⟩
            case measure => simp [intOf]; omega
        · have e10 : decide (c' = 10) = false := by simpa using hc10
          go_wp2_with (go_at_call 9; refine hadd.out.mono ?_; rintro e w4 ⟨rfl, hT, ho⟩; have hT4 := hide hT; have ho4 := hide ho; clear hT ho)
          go_roundw
          case rel => exact ⟨j + 1, by omega, by go_num, m', HST.out.added hgood hT4.out ho4.out⟩
          case measure => simp [intOf]; omega
    · obtain rfl : j = l.length := by omega
      have HR := hide (rows_eq rfl rfl hst.good _ hst.tab)
      have HST := hide hst
      have hml := hst.good.len
      clear hst ha
      go_wp2_with (go_at_call 11; refine HR.out.mono ?_; rintro e w3 ⟨A3, c3, rfl, hc3, ha3, _, ho3⟩)
      have HS3 := hide (HST.out.quiet ho3)
      clear HR HST
      have hrise := sortRows_rising m HS3.out.good.wide
      have hmem := fun r => sortRows_mem m HS3.out.good.wide r
      have hlen := sortRows_length m
      have HS4 := hide hrise
      have HS5 := hide hmem
      have HA3 := hide ha3
      clear hrise hmem ha3
      generalize sortRows m = L at *
      rw [← hlen] at hc3 hml ⊢
      have HLn := hide hlen
      clear hlen
      go_loopw [16] (fun v16 W => ∃ i : Nat, i ≤ L.length ∧ v16 = .int .i64 i ∧ Only [] w3 W) (fun v16 _ => (L.length - intOf v16).toNat)
      case atStart => exact ⟨0, by omega, rfl, Only.refl _ _⟩
      case round =>
        obtain ⟨i, hi, rfl, hO⟩ := hrel
        by_cases hil : i < L.length
        · obtain ⟨r, hr⟩ : ∃ r, L[i]? = some r := ⟨_, List.getElem?_eq_getElem hil⟩
          have hrm := (HS5.out r).1 (List.mem_of_getElem? hr)
          have HO1 := hide (other_wide HS3.out.good hrm)
          have HO2 := hide (other_narrow HS3.out.good hrm)
          have HF := hide (fun (j : Nat) (q : Row) (hq : L[j]? = some q) (W : World) (h : Only [] w3 W) => row_far HA3.out hq h)
          obtain ⟨ga, hA, k0, k1, k2⟩ := HF.out i r hr _ hO
          subst hA
          have HST := hide (HS3.out.quiet hO)
          have HRr := hide hr
          have HO := hide hO
          clear hrm hr hO
          go_upto_region 25 with (first
            | (go_at_call 10; refine (other_eq HO2.out _ (hS5.out.tab)).mono ?_; rintro e w6 ⟨rfl, ho6⟩; have hS6 := hide (hS5.out.quiet ho6); have hO6 := hide (hO5.out.trans ho6 (by simp)); clear ho6)
            | (go_at_call 10; refine (other_eq HO1.out _ HST.out.tab).mono ?_; rintro e w5 ⟨rfl, ho5⟩; have hS5 := hide (HST.out.quiet ho5); have hO5 := hide (HO.out.trans ho5 (by simp)); clear ho5))
          obtain ⟨_, e1, p0, p1, p2⟩ := HF.out i r HRr.out _ hO6.out
          cases e1
          go_cut [173] (fun v173 W => v173 = .bool false ∧ Only [] w3 W)
          case first =>
            cases i with
            | zero =>
              go_region
              all_goals
                go_wp2
                go_meet
                exact ⟨rfl, hO6.out.drew⟩
            | succ i' =>
              obtain ⟨q, hq⟩ : ∃ q, L[i']? = some q := ⟨_, List.getElem?_eq_getElem (by omega)⟩
              obtain ⟨_, e2, t0, t1, t2⟩ := HF.out i' q hq _ hO6.out
              cases e2
              have hlq := leq_false (pair_lt HS4.out hq HRr.out)
              have hwr : IntKind.i64.wrap (i' : Int) = i' := IntWalk.i64_in _ (by omega)
              have hj0 : (0 : Int) ≤ i' := by omega
              have hj1 : (i' : Int) < L.length := by omega
              go_region
              all_goals
                go_wp2
                go_meet
                exact ⟨rfl, hO6.out.drew⟩
          case rest =>
          obtain ⟨rfl, hO7⟩ := hcut
          go_wp2
          go_roundw
          case rel => exact ⟨i + 1, by omega, by go_num, hO7⟩
          case measure => simp [intOf]; omega
        · obtain rfl : i = L.length := by omega
          have HST := hide (HS3.out.quiet hO)
          have hlr : (rowsMap m).length = L.length := by simp [rowsMap, HLn.out]
          go_wp2_with (go_at_call 12; refine (len_any _ _ _ _ _ _ HST.out.tab).mono ?_; rw [hlr]; rintro e w6 ⟨rfl, rfl⟩)
          go_ret
          exact ⟨rfl, HST.out.only⟩
end Go.Proofs.Ytlmpmfgheacplaa
