/- TwinAgain, walked. -/
import Derived.Test.YtlmpmfgheacplaaTwAgainPlain
import Derived.Test.YtlmpmfgheacplaaTwTurns
namespace Go.Proofs.Ytlmpmfgheacplaa
open Go.RowKit
set_option linter.unusedVariables false

/-- Another table, untouched by what the first one does. -/
theorem lawSt.beside {w W W' : World} {b1 b2 h c1 c2 : Nat} {m : List Row} (hs : lawSt w W h c1 c2 m) (hw : Only [] w W') (ho : Only [b1, b2] W W') (n0 : h ≠ b1 ∧ h ≠ b2) (n1 : c1 ≠ b1 ∧ c1 ≠ b2) (n2 : c2 ≠ b1 ∧ c2 ≠ b2) : lawSt w W' h c1 c2 m :=
  ⟨hs.good, hs.tab.only ho (by simp; exact n0) (by simp; exact n1) (by simp; exact n2), hw, hs.hg⟩
/-- The two tables, and whether nothing was refused. -/
structure bothSt (w W : World) (g b1 b2 h c1 c2 : Nat) (ma mb : List Row) : Prop where
  a : lawSt w W g b1 b2 ma
  b : lawSt w W h c1 c2 mb
  apart : g ≠ c1 ∧ g ≠ c2 ∧ b1 ≠ c1 ∧ b1 ≠ c2 ∧ b2 ≠ c1 ∧ b2 ≠ c2 ∧ h ≠ b1 ∧ h ≠ b2
section
variable {w W W' : World} {g b1 b2 h c1 c2 : Nat} {ma mb m' : List Row}
theorem bothSt.quiet (s : bothSt w W g b1 b2 h c1 c2 ma mb) (ho : Only [] W W') : bothSt w W' g b1 b2 h c1 c2 ma mb := ⟨s.a.quiet ho, s.b.quiet ho, s.apart⟩
theorem bothSt.addA (s : bothSt w W g b1 b2 h c1 c2 ma mb) (hm : Good m') (ht : TabL W' g b1 b2 m') (ho : Only [b1, b2] W W') : bothSt w W' g b1 b2 h c1 c2 m' mb := by
  obtain ⟨a1, a2, a3, a4, a5, a6, a7, a8⟩ := s.apart
  have hA := s.a.added hm ht ho
  exact ⟨hA, s.b.beside hA.only ho ⟨a7, a8⟩ ⟨a3.symm, a5.symm⟩ ⟨a4.symm, a6.symm⟩, s.apart⟩
theorem bothSt.addB (s : bothSt w W g b1 b2 h c1 c2 ma mb) (hm : Good m') (ht : TabL W' h c1 c2 m') (ho : Only [c1, c2] W W') : bothSt w W' g b1 b2 h c1 c2 ma m' := by
  obtain ⟨a1, a2, a3, a4, a5, a6, a7, a8⟩ := s.apart
  have hB := s.b.added hm ht ho
  exact ⟨s.a.beside hB.only ho ⟨a1, a2⟩ ⟨a3, a4⟩ ⟨a5, a6⟩, hB, s.apart⟩
end
theorem acts_near {w W : World} {l : List Act} {A : Option Addr} (ha : ActsAt w A l) (ho : Only [] w W) {j : Nat} {a : Act} (hj : l[j]? = some a) :
    ∃ ga off, A = some ⟨ga, off, none⟩ ∧ W.cell? ⟨ga, off + j * 5 + 1, none⟩ = some (.string a.row.wide) ∧ W.cell? ⟨ga, off + j * 5 + 2, none⟩ = some (.string a.row.narrow) ∧ W.cell? ⟨ga, off + j * 5 + 3, none⟩ = some (.int .i64 a.row.kind) := by
  obtain ⟨ga, off, hA, _, _, h1, h2, h3, _⟩ := ha.only ho j a hj
  exact ⟨ga, off, hA, h1, h2, h3⟩

def rowsIn (l : List Act) : List Row := l.map (·.row)
theorem rowsIn_at {l : List Act} {j : Nat} {a : Act} (h : l[j]? = some a) : (rowsIn l)[j]? = some a.row := by simp [rowsIn, h]
theorem rowsIn_len (l : List Act) : (rowsIn l).length = l.length := by simp [rowsIn]

set_option maxHeartbeats 4000000 in
set_option maxRecDepth 100000 in
theorem again_any (l : List Act) (A : Option Addr) (c : Nat) (w : World) (hc : l.length ≤ c) (hm : c ≤ maxLen) (hs : ∀ a ∈ l, a.id.size ≤ maxLen ∧ a.row.wide.size ≤ maxLen ∧ a.row.narrow.size ≤ maxLen) (ha : ActsAt w A l) :
    Calls Try.prog 4 #[.slice A l.length c] w (TruePost w) := by
  have hfew := hide (fun W (h : ActsAt W A l) => few_any l A c W hc hm hs h)
  have hlm : l.length ≤ maxLen := Nat.le_trans hc hm
  unfold maxLen at hlm
  clear hm hs
  go_enter Try.func4, Try.ntmps4
  go_upto_region 3 with (go_at_call 6; refine (awake_any _).mono ?_; rintro e w1 ⟨rfl, ho1⟩)
  go_upto_region 5 with (go_at_call 7; refine (hfew.out _ (ha.only ho1)).mono ?_; rintro e w1' ⟨b, rfl, hyes, rfl⟩; cases b)
  · go_ret
    exact ⟨rfl, ho1⟩
  have hY := hide (hyes (by first | rfl | trivial))
  have hl150 := hY.out.len
  clear hyes hfew
  have hz1 := ho1.size
  go_wp2_with (first
    | (go_at_call 8; refine (new_list w2).mono ?_; rintro e w3 ⟨h, c1, c2, rfl, hT', ho3, hh, hc1, hc2⟩)
    | (go_at_call 8; refine (new_list _).mono ?_; rintro e w2 ⟨g, b1, b2, rfl, hT, ho2, hg, hb1, hb2⟩))
  have hz2 := ho2.size
  have e1 := hT.lt
  have e2 := hT.rowsAt.lt
  have e3 := hT.backAt.lt
  have hst : bothSt w w3 g b1 b2 h c1 c2 [] [] := ⟨⟨Good.nil, hT.only ho3 (by simp) (by simp) (by simp), (ho1.trans ho2 (by simp)).trans ho3 (by simp), by omega, by omega, by omega⟩,
    ⟨Good.nil, hT', (ho1.trans ho2 (by simp)).trans ho3 (by simp), by omega, by omega, by omega⟩, by omega⟩
  have HST := hide hst
  clear hst hT hT' ho1 ho2 ho3 hg hb1 hb2 hh hc1 hc2 e1 e2 e3
  go_loopw [5, 6] (fun v5 v6 W => ∃ (j : Nat) (all : Bool), j ≤ l.length ∧ v5 = .bool all ∧ v6 = .int .i64 j ∧ ∃ ma, bothSt w W g b1 b2 h c1 c2 ma [] ∧ ma.length ≤ j ∧ (all = true → ∀ q, q ∈ ma ↔ q ∈ (rowsIn l).take j)) (fun _ v6 _ => (l.length - intOf v6).toNat)
  case atStart => exact ⟨0, true, by omega, rfl, rfl, [], HST.out, by simp, by simp⟩
  case round =>
    clear HST
    obtain ⟨j, all, hj, rfl, rfl, ma, hst, hml, hall⟩ := hrel
    by_cases hlt : j < l.length
    · obtain ⟨a, hr⟩ : ∃ a, l[j]? = some a := ⟨_, List.getElem?_eq_getElem hlt⟩
      obtain ⟨ga, off, rfl, k1, k2, k3⟩ := acts_near ha hst.a.only hr
      obtain ⟨_, s1, s2, s3⟩ := hY.out j a hr
      obtain ⟨c', m', hcm⟩ : ∃ c' m', addL ma a.row = (c', m') := ⟨_, _, rfl⟩
      have hgood : Good m' := by have := addL_good hst.a.good a.row; rw [hcm] at this; exact this
      have hlen' : m'.length ≤ ma.length + 1 := by have := addL_length ma a.row; rw [hcm] at this; exact this
      have hadd := hide (add_eq hcm (by unfold maxLen; omega) (by unfold maxLen; omega) _ hst.a.tab)
      have hmem := hide (fun (h0 : c' = 0) q => by have := addL_mem hst.a.good (r := a.row) (by rw [hcm]; exact h0) q; rw [hcm] at this; exact this)
      have HST := hide hst
      have HALL := hide hall
      have HA := hide ha
      have HR := hide hr
      clear hst ha hr hcm s1 s2 s3 hall
      by_cases hc0 : c' = 0
      · subst hc0
        cases all
        all_goals
          go_wp2_with (go_at_call 9; refine hadd.out.mono ?_; rintro e w4 ⟨rfl, hT, ho⟩; have hT4 := hide hT; have ho4 := hide ho; clear hT ho)
          go_roundw
          case rel => exact ⟨j + 1, _, by omega, rfl, by go_num, m', HST.out.addA hgood hT4.out ho4.out, by omega, fun h0 q => by rw [hmem.out (by trivial) q, take_mem (rowsIn_at HR.out) q, HALL.out (by first | trivial | cases h0) q]⟩
          case measure => simp [intOf]; omega
      · have e0 : decide (c' = 0) = false := by simpa using hc0
        go_wp2_with (go_at_call 9; refine hadd.out.mono ?_; rintro e w4 ⟨rfl, hT, ho⟩; have hT4 := hide hT; have ho4 := hide ho; clear hT ho)
        go_roundw
        case rel => exact ⟨j + 1, _, by omega, rfl, by go_num, m', HST.out.addA hgood hT4.out ho4.out, by omega, (fun h0 => by cases h0)⟩
        case measure => simp [intOf]; omega
    · obtain rfl : j = l.length := by omega
      have HA := hide ha
      have HALL := hide hall
      have HST := hide hst
      clear ha hall hst
      have hrl := rowsIn_len l
      go_wp2
      go_loopw [7] (fun v7 W => ∃ i : Nat, i ≤ l.length ∧ v7 = .int .i64 ((i : Int) - 1) ∧ ∃ mb, bothSt w W g b1 b2 h c1 c2 ma mb ∧ mb.length + i ≤ l.length ∧ (all = true → ∀ q, q ∈ mb ↔ q ∈ (rowsIn l).drop i)) (fun v7 _ => (intOf v7 + 1).toNat)
      case atStart => exact ⟨l.length, Nat.le_refl _, by go_num, [], HST.out, by simp, fun _ q => by rw [List.drop_of_length_le (by omega)]⟩
      case round =>
        clear HST
        obtain ⟨i, hi, rfl, mb, hst, hmbl, hbll⟩ := hrel
        cases i with
        | succ i =>
          obtain ⟨a, hr⟩ : ∃ a, l[i]? = some a := ⟨_, List.getElem?_eq_getElem (by omega)⟩
          obtain ⟨ga, off, rfl, k1, k2, k3⟩ := acts_near HA.out hst.b.only hr
          obtain ⟨_, s1, s2, s3⟩ := hY.out i a hr
          obtain ⟨c', m', hcm⟩ : ∃ c' m', addL mb a.row = (c', m') := ⟨_, _, rfl⟩
          have hgood : Good m' := by have := addL_good hst.b.good a.row; rw [hcm] at this; exact this
          have hlen' : m'.length ≤ mb.length + 1 := by have := addL_length mb a.row; rw [hcm] at this; exact this
          have hadd := hide (add_eq hcm (by unfold maxLen; omega) (by unfold maxLen; omega) _ hst.b.tab)
          have hmem := hide (fun (h0 : all = true) q => show q ∈ m' ↔ q ∈ (rowsIn l).drop i by
            have hsub : ∀ q ∈ mb, q ∈ ma := fun q hq => (HALL.out h0 q).2 (by rw [List.take_of_length_le (by omega)]; exact List.mem_of_mem_drop ((hbll h0 q).1 hq))
            have hin : a.row ∈ ma := (HALL.out h0 a.row).2 (by rw [List.take_of_length_le (by omega)]; exact List.mem_of_getElem? (rowsIn_at hr))
            have hz := add_sub hst.a.good hst.b.good hsub hin (by omega)
            have := addL_mem hst.b.good hz q
            rw [hcm] at this
            rw [this, drop_mem (rowsIn_at hr) q, hbll h0 q])
          have HST := hide hst
          have HR := hide hr
          have e1 : ((i + 1 : Nat) : Int) - 1 = i := by omega
          clear hst hr hcm s1 s2 s3 hbll
          rw [e1]
          go_wp2_with (go_at_call 9; refine hadd.out.mono ?_; rintro e w4 ⟨rfl, hT, ho⟩; have hT4 := hide hT; have ho4 := hide ho; clear hT ho)
          go_roundw
          case rel => exact ⟨i, by omega, by go_num, m', HST.out.addB hgood hT4.out ho4.out, by omega, hmem.out⟩
          case measure => first | (simp [intOf]; done) | (simp [intOf]; omega)
        | zero =>
          have e1 : ((0 : Nat) : Int) - 1 = -1 := by omega
          rw [e1]
          have HBL := hide (fun (h0 : all = true) q => by have := hbll h0 q; rw [List.drop_zero] at this; exact this)
          have HST := hide hst
          clear hst hbll
          go_upto_region 15 with fail
          go_cut [60] (fun v60 W => v60 = .bool false ∧ Only [] wr W)
          case first =>
            cases all with
            | false =>
              go_wp2
              go_meet
              exact ⟨rfl, Only.refl _ _⟩
            | true =>
              have hsame : sortRows mb = sortRows ma := sort_same HST.out.b.good HST.out.a.good (fun q => by
                rw [HBL.out (by trivial) q, HALL.out (by trivial) q, List.take_of_length_le (by omega)])
              have hla := sortRows_length ma
              have hlb := sortRows_length mb
              rw [hsame] at hlb
              have hle := HST.out.a.good.len
              have HRa := hide (rows_eq (m := sortRows ma) (n := (sortRows ma).length) rfl hla.symm HST.out.a.good _ HST.out.a.tab)
              have HRb := hide (fun (W : World) (ho : Only [] wr W) => rows_eq (m := sortRows ma) (n := (sortRows ma).length) hsame hlb.symm HST.out.b.good W (HST.out.b.quiet ho).tab)
              have HSm := hide (fun A B c d W ha hb => same_any (sortRows ma) A B c d W (by omega) ha hb)
              clear hsame hla hlb
              generalize sortRows ma = L at *
              go_wp2_with (first
                | (go_at_call 13; refine (HSm.out _ _ _ _ _ (ha5.out.only ho6 (by simp)) ha6.out).mono ?_; rintro e w7 ⟨rfl, ho7⟩)
                | (go_at_call 11; refine (HRb.out _ ho5).mono ?_; rintro e w6 ⟨A6, c6, rfl, _, ha, _, ho6⟩; have ha6 := hide ha; clear ha)
                | (go_at_call 11; refine HRa.out.mono ?_; rintro e w5 ⟨A5, c5, rfl, _, ha, _, ho5⟩; have ha5 := hide ha; clear ha))
              go_meet
              exact ⟨rfl, (ho5.trans ho6 (by simp)).trans ho7 (by simp)⟩
          case rest =>
          obtain ⟨rfl, hO15⟩ := hcut
          have HS2 := hide (HST.out.quiet hO15)
          have hgood := HS2.out.a.good
          have hla := sortRows_length ma
          have hle := hgood.len
          have hok := sort_ok hgood
          have HRa := hide (fun (W : World) (ho : Only [] wc W) => rows_eq (m := sortRows ma) (n := (sortRows ma).length) rfl hla.symm hgood W (HS2.out.a.quiet ho).tab)
          have HP := hide (fun A c W hc ha => print_any (sortRows ma) hok A c W hc ha)
          have HQ := hide (fun W => parse_eq hok (n := (sortRows ma).length) rfl W)
          have HSm := hide (fun A B c d W ha hb => same_any (sortRows ma) A B c d W (by omega) ha hb)
          have HM := hide (fun q => sortRows_mem ma hgood.wide q)
          have HG := hide hgood
          have HSS := hide (fun (m : List Row) (hm : Good m) (h : ∀ q, q ∈ m ↔ q ∈ ma) => sort_same hm hgood h)
          have hml2 : (sortRows ma).length ≤ 150 := by omega
          have HLA := hide hla
          clear HST HBL HALL hok hgood hla hle
          generalize sortRows ma = L at *
          go_wp2_with (first
            | (go_at_call 8; refine (new_list _).mono ?_; rintro e w8 ⟨k, d1, d2, rfl, hT, ho8, hk, hd1, hd2⟩)
            | (go_at_call 15; refine (HQ.out _).mono ?_; rintro e w7 ⟨A7, c7, rfl, _, ha, _, ho7⟩; have ha7 := hide ha; clear ha)
            | (go_at_call 14; refine (HP.out _ _ _ hc5 ha5.out).mono ?_; rintro e w6 ⟨rfl, ho6⟩)
            | (go_at_call 11; refine (HRa.out _ (Only.refl _ _)).mono ?_; rintro e w5 ⟨A5, c5, rfl, hc5, ha, _, ho5⟩; have ha5 := hide ha; clear ha))
          have hz7 := ho7.size
          have hz6 := ho6.size
          have hz5 := ho5.size
          have hO7 : Only [] wc w7 := (ho5.trans ho6 (by simp)).trans ho7 (by simp)
          have HSa := HS2.out.a.quiet hO7
          have f1 := HSa.tab.lt
          have f2 := HSa.tab.rowsAt.lt
          have f3 := HSa.tab.backAt.lt
          have hst : bothSt w w8 k d1 d2 g b1 b2 [] ma := ⟨⟨Good.nil, hT, HSa.only.trans ho8 (by simp), by have := HSa.only.size; omega⟩, HSa.quiet ho8, by omega⟩
          have HST := hide (⟨hst, ho8, hk, hd1, hd2⟩ : bothSt w w8 k d1 d2 g b1 b2 [] ma ∧ Only [] w7 w8 ∧ w7.heap.size ≤ k ∧ w7.heap.size ≤ d1 ∧ w7.heap.size ≤ d2)
          clear hst HSa hO7 hT ho8 hk f1 f2 f3 HRa HP HQ hz5 hz6 hz7
          go_loopw [13] (fun v13 W => ∃ i : Nat, i ≤ L.length ∧ v13 = .int .i64 ((i : Int) - 1) ∧ ∃ mc, bothSt w W k d1 d2 g b1 b2 mc ma ∧ Only [] w7 W ∧ mc.length + i ≤ L.length ∧ (∀ q, q ∈ mc ↔ q ∈ L.drop i)) (fun v13 _ => (intOf v13 + 1).toNat)
          case atStart => exact ⟨L.length, Nat.le_refl _, by go_num, [], HST.out.1, HST.out.2.1, by simp, fun q => by rw [List.drop_of_length_le (by omega)]⟩
          case round =>
            obtain ⟨i, hi, rfl, mc, hst, hO, hmcl, hcl⟩ := hrel
            cases i with
            | succ i =>
              obtain ⟨r, hr⟩ : ∃ r, L[i]? = some r := ⟨_, List.getElem?_eq_getElem (by omega)⟩
              have hrm : r ∈ ma := (HM.out r).1 (List.mem_of_getElem? hr)
              obtain ⟨ga, hA7, k0, k1, k2⟩ := row_far ha7.out hr hO
              subst hA7
              have hsub : ∀ q ∈ mc, q ∈ ma := fun q hq => (HM.out q).1 (List.mem_of_mem_drop ((hcl q).1 hq))
              have hz := add_sub hst.b.good hst.a.good hsub hrm (by omega)
              obtain ⟨m', hcm⟩ : ∃ m', addL mc r = (0, m') := ⟨(addL mc r).2, by rw [← hz]⟩
              have hgood : Good m' := by have := addL_good hst.a.good r; rw [hcm] at this; exact this
              have hlen' : m'.length ≤ mc.length + 1 := by have := addL_length mc r; rw [hcm] at this; exact this
              have hrs := right_sizes (hst.b.good.right r hrm)
              have hadd := hide (add_eq hcm (by unfold maxLen; omega) (by unfold maxLen; omega) _ hst.a.tab)
              have hmem := hide (fun q => show q ∈ m' ↔ q ∈ L.drop i by
                have := addL_mem hst.a.good hz q
                rw [hcm] at this
                rw [this, drop_mem hr q, hcl q])
              have HSX := hide hst
              have HO := hide hO
              have e1 : ((i + 1 : Nat) : Int) - 1 = i := by omega
              clear hst hr hcm hcl hsub hz hrm hrs hO
              rw [e1]
              go_wp2_with (go_at_call 9; refine hadd.out.mono ?_; rintro e w9 ⟨rfl, hT, ho⟩; have hT4 := hide hT; have ho4 := hide ho; clear hT ho)
              go_roundw
              case rel => exact ⟨i, by omega, by go_num, m', HSX.out.addA hgood hT4.out ho4.out, HO.out.trans ho4.out (fun t ht hl => by have := HST.out.2.2; simp at ht; omega), by omega, hmem.out⟩
              case measure => first | (simp [intOf]; done) | (simp [intOf]; omega)
            | zero =>
              have e1 : ((0 : Nat) : Int) - 1 = -1 := by omega
              rw [e1]
              have hsame : sortRows mc = L := HSS.out mc hst.a.good (fun q => by rw [hcl q, List.drop_zero]; exact HM.out q)
              have hlb := sortRows_length mc
              rw [hsame] at hlb
              have HRc := hide (rows_eq (m := L) (n := L.length) hsame hlb.symm hst.a.good _ hst.a.tab)
              have hsa : sortRows ma = L := HSS.out ma hst.b.good (fun q => Iff.rfl)
              have hla := HLA.out
              have HRa := hide (fun (W : World) (ho : Only [] wr W) => rows_eq (m := L) (n := L.length) hsa hla.symm hst.b.good W (hst.b.quiet ho).tab)
              have HSX := hide hst
              clear hst hsame hlb hsa hla hcl hO
              go_wp2_with (first
                | (go_at_call 13; refine (HSm.out _ _ _ _ _ (hb5.out.only ho6' (by simp)) hb6.out).mono ?_; rintro e w9 ⟨rfl, ho9⟩)
                | (go_at_call 11; refine (HRa.out _ ho5').mono ?_; rintro e w6' ⟨A6, c6, rfl, _, ha, _, ho6'⟩; have hb6 := hide ha; clear ha)
                | (go_at_call 11; refine HRc.out.mono ?_; rintro e w5' ⟨B5, e5, rfl, _, ha, _, ho5'⟩; have hb5 := hide ha; clear ha))
              go_ret
              exact ⟨rfl, ((HSX.out.a.only.trans ho5' (by simp)).trans ho6' (by simp)).trans ho9 (by simp)⟩
end Go.Proofs.Ytlmpmfgheacplaa
