/- awake: the answers that the document fixes. -/
import Derived.Test.YtlmpmfgheacplaaTwParse
import Derived.Test.YtlmpmfgheacplaaTwSame
import Derived.Deep.RegionWith
namespace Go.Proofs.Ytlmpmfgheacplaa
open Go.RowKit
set_option linter.unusedVariables false

def w32 : ByteArray := ⟨#[48, 49, 50, 51, 52, 53, 54, 55, 56, 57, 48, 49, 50, 51, 52, 53, 54, 55, 56, 57, 48, 49, 50, 51, 52, 53, 54, 55, 56, 57, 48, 49]⟩
def n20 : ByteArray := ⟨#[48, 49, 50, 51, 52, 53, 54, 55, 56, 57, 48, 49, 50, 51, 52, 53, 54, 55, 56, 57]⟩
def rowA : Row := ⟨w32, n20, 2⟩
def rowB : Row := ⟨w32, n20, 1⟩
theorem rowA_right : rowA.right = true := by decide
theorem rowB_right : rowB.right = true := by decide
theorem addA0 : addL [] rowA = (0, [rowA]) := by
  have h := rowA_right
  simp [addL, addCode, addNew, rowsMap, backMap, mget, h]
theorem addA1 : addL [rowA] rowA = (0, [rowA]) := by
  have h := rowA_right
  simp [addL, addCode, addNew, rowsMap, backMap, mget, h]
theorem addB1 : addL [rowA] rowB = (10, [rowA]) := by
  have h := rowB_right
  have e : rowA.wide = rowB.wide := rfl
  have e2 : rowA.narrow = rowB.narrow := rfl
  have k : ¬ rowA.kind = rowB.kind := by decide
  simp [addL, addCode, addNew, rowsMap, backMap, mget, h, e, e2, k]
theorem addZ (l : List Row) : addL l Row.zero = (3, l) := by
  have h : Row.zero.right = false := by decide
  simp [addL, addCode, addNew, h]
theorem w_ne_n : ¬ w32 = n20 := fun e => absurd (congrArg ByteArray.size e) (by decide)
theorem other_w : otherOf (rowsMap [rowA]) (backMap [rowA]) w32 = (n20, 2, true) := by
  have h := w_ne_n
  have h' : ¬ n20 = w32 := fun e => h e.symm
  simp [otherOf, rowsMap, backMap, mget, rowA, h']
theorem other_n : otherOf (rowsMap [rowA]) (backMap [rowA]) n20 = (w32, 2, true) := by
  simp [otherOf, rowsMap, backMap, mget, rowA]
theorem goodA : Good [rowA] := by
  refine ⟨by simp, ?_, by simp, by simp⟩
  intro r hr
  obtain rfl : r = rowA := by simpa using hr
  exact rowA_right
theorem okA : PrintOk [rowA] := ⟨by simp, goodA.right, by simp, by simp⟩
theorem sortA : sortRows [rowA] = [rowA] := by
  refine rows_ext (sortRows_rising _ (by simp)) (by simp) (fun r => ?_)
  rw [sortRows_mem _ (by simp)]
theorem printedA_size : (printed [rowA]).size = 61 := by
  unfold printed
  rw [sealOf_size]
  show (printBody [rowA]).toArray.size + 4 = 61
  rw [List.size_toArray, body_len goodA.right]
  rfl

theorem add_eq {l l' : List Row} {r : Row} {c : Int} (h : addL l r = (c, l')) (hw : r.wide.size ≤ maxLen) (hn : r.narrow.size ≤ maxLen) {g b1 b2 : Nat} (w : World) (ht : TabL w g b1 b2 l) :
    Calls Try.prog 9 #[.pointer (some ⟨g, 0, none⟩), .agg #[.string r.wide, .string r.narrow, .int .i64 r.kind]] w fun e w' => e = .returned (.int .i64 c) ∧ TabL w' g b1 b2 l' ∧ Only [b1, b2] w w' := by
  refine (add_list r g b1 b2 _ w ht hw hn).mono ?_
  rintro e w' ⟨he, ht, ho⟩
  rw [h] at he ht
  exact ⟨he, ht, ho⟩
theorem sizeW : w32.size ≤ maxLen := by decide
theorem sizeN : n20.size ≤ maxLen := by decide
theorem other_eq {l : List Row} {id x : ByteArray} {k : Int} {ok : Bool} (h : otherOf (rowsMap l) (backMap l) id = (x, k, ok)) {g b1 b2 : Nat} (w : World) (ht : TabL w g b1 b2 l) :
    Calls Try.prog 10 #[.pointer (some ⟨g, 0, none⟩), .string id] w fun e w' => e = .returned (.tuple #[.string x, .int .i64 k, .bool ok]) ∧ Only [] w w' := by
  refine (other_any id g b1 b2 _ _ w ht).mono ?_
  rintro e w' ⟨he, ho⟩
  rw [h] at he
  exact ⟨he, ho⟩
theorem rows_eq {l m : List Row} {n : Nat} (h : sortRows l = m) (hn : l.length = n) (hg : Good l) {g b1 b2 : Nat} (w : World) (ht : TabL w g b1 b2 l) :
    Calls Try.prog 11 #[.pointer (some ⟨g, 0, none⟩)] w fun e w' => ∃ A c, e = .returned (.slice A n c) ∧ n ≤ c ∧ ArgAt w' A (rowsCells m) ∧ w'.ownsRow w.heap.size 30 3 (.slice A n c) n (rowsCells m) ∧ Only [] w w' := by
  refine (rows_list g b1 b2 l w ht hg).mono ?_
  rintro e w' ⟨v, rfl, ho, h1⟩
  rw [h, hn] at ho
  obtain ⟨A, c, rfl, hc, hcells⟩ := own_form ho
  exact ⟨A, c, rfl, hc, fun j u hu => by obtain ⟨g, h1, _, h2, h3⟩ := hcells j u hu; exact ⟨g, h1, h2, h3⟩, ho, h1⟩
theorem parse_eq {l : List Row} {n : Nat} (hl : PrintOk l) (hn : l.length = n) (w : World) :
    Calls Try.prog 15 #[.string (printed l)] w fun e w' => ∃ A c, e = .returned (.tuple #[.slice A n c, .int .i64 0]) ∧ n ≤ c ∧ ArgAt w' A (rowsCells l) ∧ w'.ownsRow w.heap.size 30 3 (.slice A n c) n (rowsCells l) ∧ Only [] w w' := by
  refine (parse_any l hl w).mono ?_
  rintro e w' ⟨v, rfl, ho, h1⟩
  rw [hn] at ho
  obtain ⟨A, c, rfl, hc, hcells⟩ := own_form ho
  exact ⟨A, c, rfl, hc, fun j u hu => by obtain ⟨g, h1, _, h2, h3⟩ := hcells j u hu; exact ⟨g, h1, h2, h3⟩, ho, h1⟩
/-- The table and the row's box. -/
structure awSt (w W : World) (g b1 b2 bx : Nat) (l : List Row) : Prop where
  tab : TabL W g b1 b2 l
  only : Only [] w W
  hg : w.heap.size ≤ g ∧ w.heap.size ≤ b1 ∧ w.heap.size ≤ b2 ∧ w.heap.size ≤ bx
  lt : bx < W.heap.size
  blk : W.heap[bx]? = some (.cells #[.string w32, .string n20, .int .i64 2] 30 (0, 0))
section
variable {w W W' : World} {g b1 b2 bx : Nat} {l l' : List Row}
theorem awSt.cells (h : awSt w W g b1 b2 bx l) : W.cell? ⟨bx, 0, none⟩ = some (.string w32) ∧ W.cell? ⟨bx, 1, none⟩ = some (.string n20) ∧ W.cell? ⟨bx, 2, none⟩ = some (.int .i64 2) := by simp [World.cell?, h.blk]
theorem awSt.added (h : awSt w W g b1 b2 bx l) (ht : TabL W' g b1 b2 l') (ho : Only [b1, b2] W W') : awSt w W' g b1 b2 bx l' := by
  have e1 : b1 ≠ bx := h.tab.rowsAt.ne_cells h.blk
  have e2 : b2 ≠ bx := h.tab.backAt.ne_cells h.blk
  exact ⟨ht, h.only.trans ho (fun t ht hl => by have := h.hg; simp at ht; omega), h.hg, Nat.lt_of_lt_of_le h.lt ho.size, (ho.block bx h.lt (by simp; exact ⟨e1.symm, e2.symm⟩)).trans h.blk⟩
theorem awSt.quiet (h : awSt w W g b1 b2 bx l) (ho : Only [] W W') : awSt w W' g b1 b2 bx l :=
  ⟨h.tab.only ho (by simp) (by simp) (by simp), h.only.trans ho (by simp), h.hg, Nat.lt_of_lt_of_le h.lt ho.size, (ho.block bx h.lt (by simp)).trans h.blk⟩
theorem awSt.drew (h : awSt w W g b1 b2 bx l) : awSt w W.drew g b1 b2 bx l := h.quiet (Only.refl _ _).drew
end

set_option maxHeartbeats 4000000 in
set_option maxRecDepth 100000 in
theorem awake_any (w : World) : Calls Try.prog 6 #[] w fun e w' => e = .returned (.bool true) ∧ Only [] w w' := by
  have hwl : w32 = ⟨#[48, 49, 50, 51, 52, 53, 54, 55, 56, 57, 48, 49, 50, 51, 52, 53, 54, 55, 56, 57, 48, 49, 50, 51, 52, 53, 54, 55, 56, 57, 48, 49]⟩ := rfl
  have hnl : n20 = ⟨#[48, 49, 50, 51, 52, 53, 54, 55, 56, 57, 48, 49, 50, 51, 52, 53, 54, 55, 56, 57]⟩ := rfl
  go_enter Try.func6, Try.ntmps6
  rw [← hwl, ← hnl]
  clear hwl hnl
  go_upto_region 5 with (go_at_call 8; refine (new_list _).mono ?_; rintro e w1 ⟨g, b1, b2, rfl, hT, ho1, hg, hb1, hb2⟩)
  have hst : awSt w (w1.alloc (.cells #[.string w32, .string n20, .int .i64 2] 30)) g b1 b2 w1.heap.size [] :=
    ⟨hT.only ((Only.refl [] w1).alloc _) (by simp) (by simp) (by simp), ho1.alloc _, ⟨hg, hb1, hb2, ho1.size⟩, by simp, heap_alloc_new w1 _⟩
  have HST := hide hst
  clear hst hT ho1 hg hb1 hb2
  generalize w1.alloc (.cells #[.string w32, .string n20, .int .i64 2] 30) = wB at *
  generalize w1.heap.size = bx at *
  have HC0 := hide (fun W hW => add_eq (g := g) (b1 := b1) (b2 := b2) addA0 sizeW sizeN W hW)
  have HC1 := hide (fun W hW => add_eq (g := g) (b1 := b1) (b2 := b2) addA1 sizeW sizeN W hW)
  have HC2 := hide (fun W hW => add_eq (g := g) (b1 := b1) (b2 := b2) addB1 sizeW sizeN W hW)
  have HC3 := hide (fun W hW => add_eq (g := g) (b1 := b1) (b2 := b2) (addZ [rowA]) (by decide) (by decide) W hW)
  obtain ⟨q0, q1, q2⟩ := HST.out.cells
  go_cut [3, 4] (fun v3 v4 W => v3 = .int .i64 0 ∧ v4 = .int .i64 0 ∧ awSt w W g b1 b2 bx [rowA])
  case first =>
    go_region_with (first
      | (go_at_call 9; refine (HC1.out _ hT2).mono ?_; rintro e w3 ⟨rfl, hT3, ho3⟩; have hS3 := hide (hS2.out.added hT3 ho3))
      | (go_at_call 9; refine (HC0.out _ HST.out.drew.tab).mono ?_; rintro e w2 ⟨rfl, hT2, ho2⟩; have hS2 := hide (HST.out.drew.added hT2 ho2); obtain ⟨p0, p1, p2⟩ := hS2.out.cells))
    all_goals
      go_wp2
      go_meet
      exact ⟨rfl, rfl, hS3.out⟩
  case rest =>
  obtain ⟨rfl, rfl, hS⟩ := hcut
  clear HST q0 q1 q2
  have HO1 := hide (fun W hW => other_eq (g := g) (b1 := b1) (b2 := b2) other_w W hW)
  have HO2 := hide (fun W hW => other_eq (g := g) (b1 := b1) (b2 := b2) other_n W hW)
  have HR := hide (fun W hW => rows_eq (g := g) (b1 := b1) (b2 := b2) sortA (n := 1) rfl goodA W hW)
  have HP := hide (fun A c W hc ha => print_any [rowA] okA A c W hc ha)
  have HQ := hide (fun W => parse_eq okA (n := 1) rfl W)
  have hps := printedA_size
  generalize printed [rowA] = s at *
  have HPS := hide hps
  clear hps
  have hS0 := hide hS
  clear hS
  go_upto_region 11 with (first
    | (go_at_call 15; refine (HQ.out _).mono ?_; rintro e w9 ⟨A2, c2, rfl, hc2, ha2, hown9, ho9⟩; have hS9 := hide (hS8.out.quiet ho9); have hA2 := hide ha2; clear ha2 hown9 hc2)
    | (go_at_call 14; refine (HP.out _ _ _ hc1 hA1.out).mono ?_; rintro e w8 ⟨rfl, ho8⟩; have hS8 := hide (hS7.out.quiet ho8))
    | (go_at_call 11; refine (HR.out _ hS6.out.tab).mono ?_; rintro e w7 ⟨A1, c1, rfl, hc1, ha1, hown7, ho7⟩; have hS7 := hide (hS6.out.quiet ho7); have hA1 := hide ha1; clear ha1 hown7)
    | (go_at_call 10; refine (HO2.out _ hS5.out.tab).mono ?_; rintro e w6 ⟨rfl, ho6⟩; have hS6 := hide (hS5.out.quiet ho6))
    | (go_at_call 10; refine (HO1.out _ hS4.out.tab).mono ?_; rintro e w5 ⟨rfl, ho5⟩; have hS5 := hide (hS4.out.quiet ho5))
    | (go_at_call 9; refine (HC2.out _ hS0.out.tab).mono ?_; rintro e w4 ⟨rfl, hT4, ho4⟩; have hS4 := hide (hS0.out.added hT4 ho4)))
  simp only [List.append_eq, List.cons_append, List.nil_append]
  have hA : rowsCells [rowA] = [.string w32, .string n20, .int .i64 2] := rfl
  rw [hA] at hA2
  clear hA
  obtain ⟨ga, rfl, hga, hc0⟩ := hA2.out 0 _ rfl
  obtain ⟨_, e1, _, hc1⟩ := hA2.out 1 _ rfl
  obtain rfl : ga = _ := by injection e1 with e1; injection e1
  obtain ⟨_, e2, _, hc2⟩ := hA2.out 2 _ rfl
  obtain rfl : ga = _ := by injection e2 with e2; injection e2
  obtain ⟨q0, q1, q2⟩ := hS9.out.cells
  have hSd := hide hS9.out.drew
  have HL := hide (fun W hW => len_any g b1 b2 (rowsMap [rowA]) (backMap [rowA]) W hW)
  have hps := HPS.out
  obtain ⟨_, _, _, hbk, _⟩ := Go.Sort.cells_of_cell? hc0
  have n1 := hS9.out.tab.rowsAt.ne_cells hbk
  have n2 := hS9.out.tab.backAt.ne_cells hbk
  have HF := hide (fun (w11 : World) (ht : TabL w11 g b1 b2 [rowA]) (ho : Only [b1, b2] w9.drew w11) => (hSd.out.added ht ho))
  have HK := hide (fun (w11 : World) (ht : TabL w11 g b1 b2 [rowA]) (ho : Only [b1, b2] w9.drew w11) => show w11.cell? ⟨bx, 0, none⟩ = some (.string w32) ∧ w11.cell? ⟨bx, 1, none⟩ = some (.string n20) ∧ w11.cell? ⟨bx, 2, none⟩ = some (.int .i64 2) ∧
      w11.cell? ⟨ga, 0, none⟩ = some (.string w32) ∧ w11.cell? ⟨ga, 1, none⟩ = some (.string n20) ∧ w11.cell? ⟨ga, 2, none⟩ = some (.int .i64 2) from
    ⟨(hSd.out.added ht ho).cells.1, (hSd.out.added ht ho).cells.2.1, (hSd.out.added ht ho).cells.2.2, (ho.cell (p := ⟨ga, 0, none⟩) hga (by simp; exact ⟨n1.symm, n2.symm⟩)).trans hc0,
      (ho.cell (p := ⟨ga, 1, none⟩) hga (by simp; exact ⟨n1.symm, n2.symm⟩)).trans hc1, (ho.cell (p := ⟨ga, 2, none⟩) hga (by simp; exact ⟨n1.symm, n2.symm⟩)).trans hc2⟩)
  clear HC0 HC1 HC2 HO1 HO2 HR HP HQ hA2 hbk n1 n2
  go_region_held3 (fun W' => W'.cell? ⟨bx, 0, none⟩ = some (.string w32) ∧ W'.cell? ⟨bx, 1, none⟩ = some (.string n20) ∧ W'.cell? ⟨bx, 2, none⟩ = some (.int .i64 2) ∧
      W'.cell? ⟨ga, 0, none⟩ = some (.string w32) ∧ W'.cell? ⟨ga, 1, none⟩ = some (.string n20) ∧ W'.cell? ⟨ga, 2, none⟩ = some (.int .i64 2))
    (first
      | go_keep
      | exact hk11.out)
    (first
      | (go_at_call 12; refine (HL.out _ hSd.out.tab).mono ?_; rintro e w10 ⟨rfl, rfl⟩)
      | (go_at_call 9; refine (HC3.out _ hSd.out.tab).mono ?_; rintro e w11 ⟨rfl, hT11, ho11⟩; have hk11 := hide (HK.out _ hT11 ho11)))
  go_wp2
  go_ret
  exact ⟨rfl, (HF.out _ hT11 ho11).only⟩
end Go.Proofs.Ytlmpmfgheacplaa
