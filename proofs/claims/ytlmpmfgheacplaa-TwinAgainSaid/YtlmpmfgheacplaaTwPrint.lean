/- twin.Print of rows that rise. -/
import Derived.Test.YtlmpmfgheacplaaTwPlain
import Derived.Test.YtlmpmfgheacplaaDpCrc3
import Derived.Test.YtlmpmfgheacplaaDpBytes
import Derived.Deep.RegionHeld3
import Derived.Deep.RegionWith
import Derived.Sort.Row
import Derived.IntWalk
namespace Go.Proofs.Ytlmpmfgheacplaa
open Go.RowKit
set_option linter.unusedVariables false

theorem TabL.drew {w : World} {g b1 b2 : Nat} {l : List Row} (h : TabL w g b1 b2 l) : TabL w.drew g b1 b2 l := h.only (Only.refl [] w).drew (by simp) (by simp) (by simp)
/-- A slice whose cells lie at the head of a block. -/
def ArgAt (w : World) (A : Option Addr) (cells : List Value) : Prop := ∀ j u, cells[j]? = some u → ∃ g, A = some ⟨g, 0, none⟩ ∧ g < w.heap.size ∧ w.cell? ⟨g, j, none⟩ = some u
theorem ArgAt.only {w w' : World} {A : Option Addr} {cells : List Value} {S : List Nat} (h : ArgAt w A cells) (ho : Only S w w') (hS : ∀ g, A = some ⟨g, 0, none⟩ → g ∉ S) : ArgAt w' A cells := fun j u hu => by
  obtain ⟨g, hA, hg, hc⟩ := h j u hu
  exact ⟨g, hA, Nat.lt_of_lt_of_le hg ho.size, (ho.cell (p := ⟨g, j, none⟩) hg (hS g hA)).trans hc⟩

structure PrintOk (l : List Row) : Prop where
  len : l.length ≤ 8192
  right : ∀ r ∈ l, r.right = true
  wide : (l.map (·.wide)).Pairwise blt
  narrow : (l.map (·.narrow)).Nodup
theorem PrintOk.good {l : List Row} (h : PrintOk l) : Good l := ⟨h.len, h.right, h.wide.imp fun hb => blt_ne hb, h.narrow⟩
theorem addL_next {l : List Row} (h : Good l) {j : Nat} {r : Row} (hj : l[j]? = some r) : addL (l.take j) r = (0, l.take (j + 1)) := by
  have hjl : j < l.length := (List.getElem?_eq_some_iff.1 hj).1
  have hs : l.take (j + 1) = l.take j ++ [r] := by rw [List.take_add_one, hj]; rfl
  have hg : ∀ q ∈ l.take j, q.wide ≠ r.wide ∧ q.narrow ≠ r.narrow := by
    intro q hq
    obtain ⟨i, hi, hq⟩ := List.getElem_of_mem hq
    rw [List.length_take] at hi
    rw [List.getElem_take] at hq
    have hi' : i < l.length := by omega
    have hr : l[j] = r := by rw [List.getElem?_eq_getElem hjl] at hj; exact Option.some.inj hj
    subst hq hr
    have hne : i ≠ j := by omega
    constructor
    · intro he
      exact hne ((List.getElem_inj (h₀ := by simpa using hi') (h₁ := by simpa using hjl) h.wide).1 (by simpa using he))
    · intro he
      exact hne ((List.getElem_inj (h₀ := by simpa using hi') (h₁ := by simpa using hjl) h.narrow).1 (by simpa using he))
  have h1 : mget (rowsMap (l.take j)) r.wide = none := (rows_none _ _).2 fun q hq => (hg q hq).1
  have h2 : mget (backMap (l.take j)) r.narrow = none := (back_none _ _).2 fun q hq => (hg q hq).2
  have h3 := h.right r (List.mem_of_getElem? hj)
  have h4 : (rowsMap (l.take j)).length < 8192 := by simp [rowsMap]; have := h.len; omega
  have hn : addNew (rowsMap (l.take j)) (backMap (l.take j)) r = true := by simp [addNew, h1, h2, h3, h4]
  have hc : addCode (rowsMap (l.take j)) (backMap (l.take j)) r = 0 := by
    unfold addCode
    rw [if_neg (by simp [h3]), if_neg (by simp [h1]), if_neg (by simp [h1, h2]), if_neg (by omega)]
  unfold addL
  rw [hc, if_pos hn, hs]

def rowBytes (r : Row) : List UInt8 := UInt8.ofNat r.kind.toNat :: (r.wide.data.toList ++ r.narrow.data.toList)
def lenBytes (n : Nat) : List UInt8 := [UInt8.ofNat (n / 16777216), UInt8.ofNat (n / 65536), UInt8.ofNat (n / 256), UInt8.ofNat n]
def printBody (l : List Row) : List UInt8 := lenBytes l.length ++ l.flatMap rowBytes
def printed (l : List Row) : ByteArray := sealOf ⟨(printBody l).toArray⟩

theorem rowsCells_at {l : List Row} {j : Nat} {r : Row} (hj : l[j]? = some r) : (rowsCells l)[j * 3]? = some (.string r.wide) ∧ (rowsCells l)[j * 3 + 1]? = some (.string r.narrow) ∧ (rowsCells l)[j * 3 + 2]? = some (.int .i64 r.kind) := by
  induction l generalizing j with
  | nil => simp at hj
  | cons q l ih =>
    have hc : rowsCells (q :: l) = q.cells ++ rowsCells l := rfl
    cases j with
    | zero =>
      obtain rfl : q = r := by simpa using hj
      rw [hc]
      simp [Row.cells]
    | succ j =>
      have := ih (j := j) (by simpa using hj)
      rw [hc, List.getElem?_append_right (by simp [Row.cells]; omega), List.getElem?_append_right (by simp [Row.cells]; omega), List.getElem?_append_right (by simp [Row.cells]; omega)]
      have e1 : (j + 1) * 3 - q.cells.length = j * 3 := by simp [Row.cells]; omega
      have e2 : (j + 1) * 3 + 1 - q.cells.length = j * 3 + 1 := by simp [Row.cells]; omega
      have e3 : (j + 1) * 3 + 2 - q.cells.length = j * 3 + 2 := by simp [Row.cells]; omega
      rw [e1, e2, e3]
      exact this
theorem info5 : (Try.prog.info? 5).map (fun i => (i.zero, i.size, i.bytes)) = some (some (.int .u8 0), 1, 1) := by kernel_rfl
theorem byte_of (n : Nat) : bcells [UInt8.ofNat n] = [.int .u8 ((n % 256 : Nat) : Int)] := by simp [bcells]

theorem cells3 {W : World} {bx : Nat} {r : Row} (h : W.heap[bx]? = some (.cells #[.string r.wide, .string r.narrow, .int .i64 r.kind] 30 (0, 0))) :
    W.cell? ⟨bx, 0, none⟩ = some (.string r.wide) ∧ W.cell? ⟨bx, 1, none⟩ = some (.string r.narrow) ∧ W.cell? ⟨bx, 2, none⟩ = some (.int .i64 r.kind) := by simp [World.cell?, h]
structure ownSt (w W : World) (A : Option Addr) (l : List Row) (g b1 b2 : Nat) (v : Value) (j : Nat) : Prop where
  own : W.ownsRow w.heap.size 5 1 v (4 + 53 * j) (bcells (lenBytes l.length ++ (l.take j).flatMap rowBytes))
  tab : TabL W g b1 b2 (l.take j)
  only : Only [] w W
  hg : w.heap.size ≤ g
  h1 : w.heap.size ≤ b1
  h2 : w.heap.size ≤ b2
theorem add_step {l : List Row} (h : Good l) {j : Nat} {r : Row} (hj : l[j]? = some r) {g b1 b2 : Nat} (w : World) (ht : TabL w g b1 b2 (l.take j)) :
    Calls Try.prog 9 #[.pointer (some ⟨g, 0, none⟩), .agg #[.string r.wide, .string r.narrow, .int .i64 r.kind]] w fun e w' => e = .returned (.int .i64 0) ∧ TabL w' g b1 b2 (l.take (j + 1)) ∧ Only [b1, b2] w w' := by
  have hs := right_sizes (h.right r (List.mem_of_getElem? hj))
  refine (add_list r g b1 b2 _ w ht (by unfold maxLen; omega) (by unfold maxLen; omega)).mono ?_
  rintro e w' ⟨he, ht, ho⟩
  rw [addL_next h hj] at he ht
  exact ⟨he, ht, ho⟩
/-- Inside a round: the row lies in a box of its own. -/
structure boxSt (w W : World) (bx : Nat) (r : Row) (l : List Row) (g b1 b2 : Nat) (v : Value) (j k : Nat) : Prop where
  own : W.ownsRow w.heap.size 5 1 v (4 + 53 * j) (bcells (lenBytes l.length ++ (l.take j).flatMap rowBytes))
  tab : TabL W g b1 b2 (l.take k)
  only : Only [] w W
  lt : w.heap.size ≤ bx ∧ bx < W.heap.size
  blk : W.heap[bx]? = some (.cells #[.string r.wide, .string r.narrow, .int .i64 r.kind] 30 (0, 0))
section
variable {w W W' : World} {bx : Nat} {r : Row} {l : List Row} {g b1 b2 : Nat} {v : Value} {j k : Nat}
theorem boxSt.c0 (h : boxSt w W bx r l g b1 b2 v j k) : W.cell? ⟨bx, 0, none⟩ = some (.string r.wide) := by simp [World.cell?, h.blk]
theorem boxSt.c1 (h : boxSt w W bx r l g b1 b2 v j k) : W.cell? ⟨bx, 1, none⟩ = some (.string r.narrow) := by simp [World.cell?, h.blk]
theorem boxSt.c2 (h : boxSt w W bx r l g b1 b2 v j k) : W.cell? ⟨bx, 2, none⟩ = some (.int .i64 r.kind) := by simp [World.cell?, h.blk]
theorem ownSt.box {A : Option Addr} (h : ownSt w W A l g b1 b2 v j) (r : Row) :
    boxSt w (W.alloc (.cells #[.string r.wide, .string r.narrow, .int .i64 r.kind] 30)) W.heap.size r l g b1 b2 v j j where
  own := h.own.alloc _
  tab := h.tab.only ((Only.refl [] W).alloc _) (by simp) (by simp) (by simp)
  only := h.only.alloc _
  lt := ⟨h.only.size, by simp⟩
  blk := heap_alloc_new W _
/-- Add has come and gone. -/
theorem boxSt.added (h : boxSt w W bx r l g b1 b2 v j k) (hg : w.heap.size ≤ b1 ∧ w.heap.size ≤ b2) {k' : Nat} (ht : TabL W' g b1 b2 (l.take k')) (ho : Only [b1, b2] W W') :
    boxSt w W' bx r l g b1 b2 v j k' := by
  have e1 : b1 ≠ bx := h.tab.rowsAt.ne_cells h.blk
  have e2 : b2 ≠ bx := h.tab.backAt.ne_cells h.blk
  exact ⟨own_only h.own ho (fun b hb hm => by
      rcases List.mem_cons.1 hm with rfl | hm
      · exact own_ne_map h.own h.tab.rowsAt hb
      · obtain rfl : b = b2 := by simpa using hm
        exact own_ne_map h.own h.tab.backAt hb), ht, h.only.trans ho (fun t ht hl => by simp at ht; omega), ⟨h.lt.1, Nat.lt_of_lt_of_le h.lt.2 ho.size⟩,
    (ho.block bx h.lt.2 (by simp; exact ⟨e1.symm, e2.symm⟩)).trans h.blk⟩
/-- The row's bytes stand behind the others. -/
theorem boxSt.next {A : Option Addr} (h : boxSt w W bx r l g b1 b2 v j (j + 1)) (hr : l[j]? = some r) (hg : w.heap.size ≤ g ∧ w.heap.size ≤ b1 ∧ w.heap.size ≤ b2) {v1 v2 v3 : Value} {w0 w1 w2 w3 : World}
    (h0 : Only [] W w0) (h1 : Only v.ownBlock.toList w0 w1) (h2 : Only v1.ownBlock.toList w1 w2) (h3 : Only v2.ownBlock.toList w2 w3) (o1 : w1.ownsRow w.heap.size 5 1 v1 (4 + 53 * j + 1) (bcells (lenBytes l.length ++ (l.take j).flatMap rowBytes ++ [UInt8.ofNat r.kind.toNat])))
    (o2 : w2.ownsRow w.heap.size 5 1 v2 (4 + 53 * j + 1 + r.wide.size) (bcells (lenBytes l.length ++ (l.take j).flatMap rowBytes ++ [UInt8.ofNat r.kind.toNat] ++ r.wide.data.toList)))
    (o3 : w3.ownsRow w.heap.size 5 1 v3 (4 + 53 * j + 1 + r.wide.size + r.narrow.size) (bcells (lenBytes l.length ++ (l.take j).flatMap rowBytes ++ [UInt8.ofNat r.kind.toNat] ++ r.wide.data.toList ++ r.narrow.data.toList)))
    (hs : r.wide.size = 32 ∧ r.narrow.size = 20) : ownSt w w3 A l g b1 b2 v3 (j + 1) := by
  have hg1 : ∀ b ∈ v.ownBlock.toList, w.heap.size ≤ b := fun b hb => (own_lt h.own hb).1
  have hg2 : ∀ b ∈ v1.ownBlock.toList, w.heap.size ≤ b := fun b hb => (own_lt o1 hb).1
  have hg3 : ∀ b ∈ v2.ownBlock.toList, w.heap.size ≤ b := fun b hb => (own_lt o2 hb).1
  have hb0 := (h0.block _ (Array.getElem?_eq_some_iff.1 h.tab.cells).1 (by simp)).trans h.tab.cells
  have t0 := h.tab.only h0 (by simp) (by simp) (by simp)
  have t1 := t0.only h1 (own_ne_type (own_only h.own h0 (by simp)) t0.cells (by decide)) (own_ne_map (own_only h.own h0 (by simp)) t0.rowsAt) (own_ne_map (own_only h.own h0 (by simp)) t0.backAt)
  have t2 := t1.only h2 (own_ne_type o1 t1.cells (by decide)) (own_ne_map o1 t1.rowsAt) (own_ne_map o1 t1.backAt)
  have t3 := t2.only h3 (own_ne_type o2 t2.cells (by decide)) (own_ne_map o2 t2.rowsAt) (own_ne_map o2 t2.backAt)
  refine ⟨?_, t3, (((h.only.trans h0 (by simp)).trans h1 (fun t ht hl => absurd (hg1 t ht) (by omega))).trans h2 (fun t ht hl => absurd (hg2 t ht) (by omega))).trans h3 (fun t ht hl => absurd (hg3 t ht) (by omega)), hg.1, hg.2.1, hg.2.2⟩
  have e : lenBytes l.length ++ (l.take (j + 1)).flatMap rowBytes = lenBytes l.length ++ (l.take j).flatMap rowBytes ++ [UInt8.ofNat r.kind.toNat] ++ r.wide.data.toList ++ r.narrow.data.toList := by
    rw [List.take_add_one, hr]
    simp [rowBytes]
  rw [e]
  have : 4 + 53 * (j + 1) = 4 + 53 * j + 1 + r.wide.size + r.narrow.size := by omega
  rw [this]
  exact o3
end
theorem pair_lt {l : List Row} (h : (l.map (·.wide)).Pairwise blt) {j : Nat} {q r : Row} (hq : l[j]? = some q) (hr : l[j + 1]? = some r) : blt q.wide r.wide := by
  rw [List.pairwise_iff_getElem] at h
  obtain ⟨h1, rfl⟩ := List.getElem?_eq_some_iff.1 hq
  obtain ⟨h2, rfl⟩ := List.getElem?_eq_some_iff.1 hr
  have := h j (j + 1) (by simpa using h1) (by simpa using h2) (by omega)
  simpa using this
set_option maxHeartbeats 2000000 in
set_option maxRecDepth 100000 in
theorem print_any (l : List Row) (hl : PrintOk l) (A : Option Addr) (c : Nat) (w : World) (hc : l.length ≤ c) (ha : ArgAt w A (rowsCells l)) :
    Calls Try.prog 14 #[.slice A l.length c] w fun e w' => e = .returned (.tuple #[.string (printed l), .int .i64 0]) ∧ Only [] w w' := by
  have hlen := hl.len
  have HP := hide hl.good
  go_enter Try.func14, Try.ntmps14
  go_upto_region 5 with fail
  have hb0 : bcells (lenBytes l.length) = [.int .u8 (l.length / 16777216), .int .u8 (l.length / 65536), .int .u8 (l.length / 256), .int .u8 (l.length % 256)] := by
    simp [bcells, lenBytes]
    omega
  have hown0 : (w.alloc (.cells #[.int .u8 (l.length / 16777216), .int .u8 (l.length / 65536), .int .u8 (l.length / 256), .int .u8 (l.length % 256)] 5)).ownsRow w.heap.size 5 1 (.slice (some ⟨w.heap.size, 0, none⟩) 4 4) 4 (bcells (lenBytes l.length)) := by
    rw [hb0]
    exact World.ownsRow_lit w _ 4 (Nat.le_refl _) (by decide) rfl
  have ho0 : Only [] w (w.alloc (.cells #[.int .u8 (l.length / 16777216), .int .u8 (l.length / 65536), .int .u8 (l.length / 256), .int .u8 (l.length % 256)] 5)) := (Only.refl [] w).alloc _
  generalize w.alloc (.cells #[.int .u8 (l.length / 16777216), .int .u8 (l.length / 65536), .int .u8 (l.length / 256), .int .u8 (l.length % 256)] 5) = w0 at *
  clear hb0
  go_wp2_with (go_at_call 8; refine (new_list _).mono ?_; rintro e w1 ⟨g, b1, b2, rfl, hT, ho1, hg, hb1, hb2⟩)
  have hO1 := ho0.trans ho1 (by simp)
  have hown1 := own_only hown0 ho1 (by simp)
  have ha1 := ha.only hO1 (by simp)
  have hs0 := ho0.size
  have hst : ownSt w w1 A l g b1 b2 (.slice (some ⟨w.heap.size, 0, none⟩) 4 4) 0 := ⟨by simpa using hown1, hT, hO1, by omega, by omega, by omega⟩
  have HST := hide hst
  clear hst hown1 hT hO1 ho1 hown0 ho0 ha1 hg hb1 hb2
  go_loopw [5, 29] (fun v5 v29 W => ∃ j : Nat, j ≤ l.length ∧ v29 = .int .i64 j ∧ ownSt w W A l g b1 b2 v5 j) (fun _ v29 _ => (l.length - intOf v29).toNat)
  case atStart => exact ⟨0, by omega, rfl, HST.out⟩
  case round =>
    clear HST
    obtain ⟨j, hj, rfl, hrel⟩ := hrel
    by_cases hlt : j < l.length
    · obtain ⟨r, hr⟩ : ∃ r, l[j]? = some r := ⟨_, List.getElem?_eq_getElem hlt⟩
      have HR := hide hrel
      obtain ⟨hown, hT, hO, hg, hb1, hb2⟩ := hrel
      obtain ⟨ga, rfl, hga, hc0⟩ := ha _ _ (rowsCells_at hr).1
      obtain ⟨_, e1, _, hc1⟩ := ha _ _ (rowsCells_at hr).2.1
      obtain rfl : ga = _ := by injection e1 with e1; injection e1
      obtain ⟨_, e2, _, hc2⟩ := ha _ _ (rowsCells_at hr).2.2
      obtain rfl : ga = _ := by injection e2 with e2; injection e2
      have k0 := (hO.cell (p := ⟨ga, j * 3, none⟩) hga (by simp)).trans hc0
      have k1 := (hO.cell (p := ⟨ga, j * 3 + 1, none⟩) hga (by simp)).trans hc1
      have k2 := (hO.cell (p := ⟨ga, j * 3 + 2, none⟩) hga (by simp)).trans hc2
      clear hc0 hc1 hc2
      have HA := hide (fun W (hW : TabL W g b1 b2 (l.take j)) => add_step HP.out hr W hW)
      go_upto_region 9 with fail
      have HB := hide (HR.out.box r)
      have hbx := hO.size
      clear hown hT hO k0 k1 k2 HR
      generalize wr.alloc (.cells #[.string r.wide, .string r.narrow, .int .i64 r.kind] 30) = wB at *
      generalize wr.heap.size = bx at *
      have hTB := HB.out.tab
      have q0 := HB.out.c0
      have q1 := HB.out.c1
      have q2 := HB.out.c2
      go_cut [52] (fun v52 W => v52 = .bool false ∧ boxSt w W bx r l g b1 b2 u5 j (j + 1))
      case first =>
        cases j with
        | zero =>
          have hCall := hide (HA.out _ hTB.drew)
          refine wp_region_any (by kernel_rfl) ?_
          change wpAny _ _ _ _ _ _ _ (World.drew _)
          refine wpAny_take (i := 0) (v := ?v0) rfl (by kernel_rfl) (by kernel_rfl) (by kernel_rfl) (fun _ _ _ h => h) (Or.inl ⟨by kernel_rfl, ?hy0⟩) ?rest0
          case hy0 => (intro w; go_simp; try (with_reducible rfl))
          simp only [Act.put, List.setIfInBounds_toArray, List.set_cons_zero, List.set_cons_succ, List.getElem_toArray, List.getElem_cons_succ, List.getElem_cons_zero]
          refine wpAny_ready (rs := [1]) (by kernel_rfl) (by simp) ?_
          refine AllReady.cons rfl (fun K hK => ?_) AllReady.nil
          go_simp
          refine hK _ _ ?_
          clear hK K
          refine wpAny_ready (rs := [2]) (by kernel_rfl) (by simp) ?_
          refine AllReady.cons rfl (fun K hK => ?_) AllReady.nil
          go_simp
          go_wp2_with (go_at_call 9; refine hCall.out.mono ?_; rintro e w2 ⟨rfl, hT2, ho2⟩)
          refine wpAny_take (i := 3) (v := ?v3) rfl (by kernel_rfl) (by kernel_rfl) (by kernel_rfl) (fun _ _ _ h => h) (Or.inl ⟨by kernel_rfl, ?hy3⟩) ?rest3
          case hy3 => (intro w; go_simp; try (with_reducible rfl))
          simp only [Act.put, List.setIfInBounds_toArray, List.set_cons_zero, List.set_cons_succ, List.getElem_toArray, List.getElem_cons_succ, List.getElem_cons_zero]
          refine wpAny_take (i := 4) (v := ?v4) rfl (by kernel_rfl) (by kernel_rfl) (by kernel_rfl) (fun _ _ _ h => h) (Or.inl ⟨by kernel_rfl, ?hy4⟩) ?rest4
          case hy4 => (intro w; go_simp; try (with_reducible rfl))
          simp only [Act.put, List.setIfInBounds_toArray, List.set_cons_zero, List.set_cons_succ, List.getElem_toArray, List.getElem_cons_succ, List.getElem_cons_zero]
          refine wpAny_take (i := 5) (v := ?v5) rfl (by kernel_rfl) (by kernel_rfl) (by kernel_rfl) (fun _ _ _ h => h) (Or.inl ⟨by kernel_rfl, ?hy5⟩) ?rest5
          case hy5 => (intro w; go_simp; try (with_reducible rfl))
          simp only [Act.put, List.setIfInBounds_toArray, List.set_cons_zero, List.set_cons_succ, List.getElem_toArray, List.getElem_cons_succ, List.getElem_cons_zero]
          refine wpAny_take (i := 6) (v := ?v6) rfl (by kernel_rfl) (by kernel_rfl) (by kernel_rfl) (fun _ _ _ h => h) (Or.inl ⟨by kernel_rfl, ?hy6⟩) ?rest6
          case hy6 => (intro w; go_simp; try (with_reducible rfl))
          simp only [Act.put, List.setIfInBounds_toArray, List.set_cons_zero, List.set_cons_succ, List.getElem_toArray, List.getElem_cons_succ, List.getElem_cons_zero]
          refine wpAny_take (i := 7) (v := ?v7) rfl (by kernel_rfl) (by kernel_rfl) (by kernel_rfl) (fun _ _ _ h => h) (Or.inl ⟨by kernel_rfl, ?hy7⟩) ?rest7
          case hy7 => (intro w; go_simp; try (with_reducible rfl))
          simp only [Act.put, List.setIfInBounds_toArray, List.set_cons_zero, List.set_cons_succ, List.getElem_toArray, List.getElem_cons_succ, List.getElem_cons_zero]
          refine wpAny_take (i := 8) (v := undef) rfl (by kernel_rfl) (by kernel_rfl) (by kernel_rfl) (fun _ _ _ h => h) (Or.inr ⟨by kernel_rfl, rfl⟩) ?_
          simp only [Act.put, List.setIfInBounds_toArray, List.set_cons_zero, List.set_cons_succ, List.getElem_toArray, List.getElem_cons_succ, List.getElem_cons_zero]
          refine wpAny_take (i := 9) (v := undef) rfl (by kernel_rfl) (by kernel_rfl) (by kernel_rfl) (fun _ _ _ h => h) (Or.inr ⟨by kernel_rfl, rfl⟩) ?_
          simp only [Act.put, List.setIfInBounds_toArray, List.set_cons_zero, List.set_cons_succ, List.getElem_toArray, List.getElem_cons_succ, List.getElem_cons_zero]
          refine wpAny_take (i := 10) (v := undef) rfl (by kernel_rfl) (by kernel_rfl) (by kernel_rfl) (fun _ _ _ h => h) (Or.inr ⟨by kernel_rfl, rfl⟩) ?_
          simp only [Act.put, List.setIfInBounds_toArray, List.set_cons_zero, List.set_cons_succ, List.getElem_toArray, List.getElem_cons_succ, List.getElem_cons_zero]
          refine wpAny_take (i := 11) (v := undef) rfl (by kernel_rfl) (by kernel_rfl) (by kernel_rfl) (fun _ _ _ h => h) (Or.inr ⟨by kernel_rfl, rfl⟩) ?_
          simp only [Act.put, List.setIfInBounds_toArray, List.set_cons_zero, List.set_cons_succ, List.getElem_toArray, List.getElem_cons_succ, List.getElem_cons_zero]
          refine wpAny_take (i := 12) (v := undef) rfl (by kernel_rfl) (by kernel_rfl) (by kernel_rfl) (fun _ _ _ h => h) (Or.inr ⟨by kernel_rfl, rfl⟩) ?_
          simp only [Act.put, List.setIfInBounds_toArray, List.set_cons_zero, List.set_cons_succ, List.getElem_toArray, List.getElem_cons_succ, List.getElem_cons_zero]
          refine wpAny_take (i := 13) (v := undef) rfl (by kernel_rfl) (by kernel_rfl) (by kernel_rfl) (fun _ _ _ h => h) (Or.inr ⟨by kernel_rfl, rfl⟩) ?_
          simp only [Act.put, List.setIfInBounds_toArray, List.set_cons_zero, List.set_cons_succ, List.getElem_toArray, List.getElem_cons_succ, List.getElem_cons_zero]
          refine wpAny_take (i := 14) (v := undef) rfl (by kernel_rfl) (by kernel_rfl) (by kernel_rfl) (fun _ _ _ h => h) (Or.inr ⟨by kernel_rfl, rfl⟩) ?_
          simp only [Act.put, List.setIfInBounds_toArray, List.set_cons_zero, List.set_cons_succ, List.getElem_toArray, List.getElem_cons_succ, List.getElem_cons_zero]
          refine wpAny_take (i := 15) (v := undef) rfl (by kernel_rfl) (by kernel_rfl) (by kernel_rfl) (fun _ _ _ h => h) (Or.inr ⟨by kernel_rfl, rfl⟩) ?_
          simp only [Act.put, List.setIfInBounds_toArray, List.set_cons_zero, List.set_cons_succ, List.getElem_toArray, List.getElem_cons_succ, List.getElem_cons_zero]
          refine wpAny_take (i := 16) (v := undef) rfl (by kernel_rfl) (by kernel_rfl) (by kernel_rfl) (fun _ _ _ h => h) (Or.inr ⟨by kernel_rfl, rfl⟩) ?_
          simp only [Act.put, List.setIfInBounds_toArray, List.set_cons_zero, List.set_cons_succ, List.getElem_toArray, List.getElem_cons_succ, List.getElem_cons_zero]
          refine wpAny_take (i := 17) (v := ?v17) rfl (by kernel_rfl) (by kernel_rfl) (by kernel_rfl) (fun _ _ _ h => h) (Or.inl ⟨by kernel_rfl, ?hy17⟩) ?rest17
          case hy17 => (intro w; go_simp; try (with_reducible rfl))
          simp only [Act.put, List.setIfInBounds_toArray, List.set_cons_zero, List.set_cons_succ, List.getElem_toArray, List.getElem_cons_succ, List.getElem_cons_zero]
          refine wpAny_take (i := 18) (v := ?v18) rfl (by kernel_rfl) (by kernel_rfl) (by kernel_rfl) (fun _ _ _ h => h) (Or.inl ⟨by kernel_rfl, ?hy18⟩) ?rest18
          case hy18 => (intro w; go_simp; try (with_reducible rfl))
          simp only [Act.put, List.setIfInBounds_toArray, List.set_cons_zero, List.set_cons_succ, List.getElem_toArray, List.getElem_cons_succ, List.getElem_cons_zero]
          refine wpAny_done (by kernel_rfl) ?_ _
          go_wp2
          go_meet
          exact ⟨rfl, HB.out.added ⟨hb1, hb2⟩ hT2 ((Only.refl [b1, b2] wB).drew.trans ho2 (fun t h _ => h))⟩
        | succ j' =>
          have hCall := hide (HA.out _ hTB.drew)
          obtain ⟨q, hq⟩ : ∃ q, l[j']? = some q := ⟨_, List.getElem?_eq_getElem (by omega)⟩
          obtain ⟨_, e1, hga', hc3⟩ := ha _ _ (rowsCells_at hq).1
          obtain rfl : ga = _ := by injection e1 with e1; injection e1
          have hlq := leq_false (pair_lt hl.wide hq hr)
          have HQ := hide (fun (W : World) (ho : Only [] w W) => (ho.cell (p := ⟨ga, j' * 3, none⟩) hga (by simp)).trans hc3)
          have hwr : IntKind.i64.wrap (j' : Int) = j' := IntWalk.i64_in _ (by omega)
          have hj0 : (0 : Int) ≤ j' := by omega
          have hj1 : (j' : Int) < l.length := by omega
          clear hc3
          refine wp_region_any (by kernel_rfl) ?_
          change wpAny _ _ _ _ _ _ _ (World.drew _)
          refine wpAny_take (i := 0) (v := ?vb0) rfl (by kernel_rfl) (by kernel_rfl) (by kernel_rfl) (fun _ _ _ h => h) (Or.inl ⟨by kernel_rfl, ?hyb0⟩) ?restb0
          case hyb0 => (intro w; go_simp; try (with_reducible rfl))
          simp only [Act.put, List.setIfInBounds_toArray, List.set_cons_zero, List.set_cons_succ, List.getElem_toArray, List.getElem_cons_succ, List.getElem_cons_zero]
          refine wpAny_ready (rs := [1]) (by kernel_rfl) (by simp) ?_
          refine AllReady.cons rfl (fun K hK => ?_) AllReady.nil
          go_simp
          refine hK _ _ ?_
          clear hK K
          refine wpAny_ready (rs := [2]) (by kernel_rfl) (by simp) ?_
          refine AllReady.cons rfl (fun K hK => ?_) AllReady.nil
          go_simp
          go_wp2_with (go_at_call 9; refine hCall.out.mono ?_; rintro e w2 ⟨rfl, hT2, ho2⟩; have hB2 := hide (HB.out.added ⟨hb1, hb2⟩ hT2 ((Only.refl [b1, b2] wB).drew.trans ho2 (fun t h _ => h))); have p0 := hB2.out.c0; have p1 := HQ.out _ hB2.out.only)
          refine wpAny_take (i := 3) (v := ?vb3) rfl (by kernel_rfl) (by kernel_rfl) (by kernel_rfl) (fun _ _ _ h => h) (Or.inl ⟨by kernel_rfl, ?hyb3⟩) ?restb3
          case hyb3 => (intro w; go_simp; try (with_reducible rfl))
          simp only [Act.put, List.setIfInBounds_toArray, List.set_cons_zero, List.set_cons_succ, List.getElem_toArray, List.getElem_cons_succ, List.getElem_cons_zero]
          refine wpAny_take (i := 4) (v := ?vb4) rfl (by kernel_rfl) (by kernel_rfl) (by kernel_rfl) (fun _ _ _ h => h) (Or.inl ⟨by kernel_rfl, ?hyb4⟩) ?restb4
          case hyb4 => (intro w; go_simp; try (with_reducible rfl))
          simp only [Act.put, List.setIfInBounds_toArray, List.set_cons_zero, List.set_cons_succ, List.getElem_toArray, List.getElem_cons_succ, List.getElem_cons_zero]
          refine wpAny_take (i := 5) (v := ?vb5) rfl (by kernel_rfl) (by kernel_rfl) (by kernel_rfl) (fun _ _ _ h => h) (Or.inl ⟨by kernel_rfl, ?hyb5⟩) ?restb5
          case hyb5 => (intro w; go_simp; try (with_reducible rfl))
          simp only [Act.put, List.setIfInBounds_toArray, List.set_cons_zero, List.set_cons_succ, List.getElem_toArray, List.getElem_cons_succ, List.getElem_cons_zero]
          refine wpAny_take (i := 6) (v := ?vb6) rfl (by kernel_rfl) (by kernel_rfl) (by kernel_rfl) (fun _ _ _ h => h) (Or.inl ⟨by kernel_rfl, ?hyb6⟩) ?restb6
          case hyb6 => (intro w; go_simp; try (with_reducible rfl))
          simp only [Act.put, List.setIfInBounds_toArray, List.set_cons_zero, List.set_cons_succ, List.getElem_toArray, List.getElem_cons_succ, List.getElem_cons_zero]
          refine wpAny_take (i := 7) (v := ?vb7) rfl (by kernel_rfl) (by kernel_rfl) (by kernel_rfl) (fun _ _ _ h => h) (Or.inl ⟨by kernel_rfl, ?hyb7⟩) ?restb7
          case hyb7 => (intro w; go_simp; try (with_reducible rfl))
          simp only [Act.put, List.setIfInBounds_toArray, List.set_cons_zero, List.set_cons_succ, List.getElem_toArray, List.getElem_cons_succ, List.getElem_cons_zero]
          refine wpAny_take (i := 8) (v := ?vb8) rfl (by kernel_rfl) (by kernel_rfl) (by kernel_rfl) (fun _ _ _ h => h) (Or.inl ⟨by kernel_rfl, ?hyb8⟩) ?restb8
          case hyb8 => (intro w; go_simp; try (with_reducible rfl))
          simp only [Act.put, List.setIfInBounds_toArray, List.set_cons_zero, List.set_cons_succ, List.getElem_toArray, List.getElem_cons_succ, List.getElem_cons_zero]
          refine wpAny_take (i := 10) (v := ?vb10) rfl (by kernel_rfl) (by kernel_rfl) (by kernel_rfl) (fun _ _ _ h => h) (Or.inl ⟨by kernel_rfl, ?hyb10⟩) ?restb10
          case hyb10 => (intro w; go_simp; try (with_reducible rfl))
          simp only [Act.put, List.setIfInBounds_toArray, List.set_cons_zero, List.set_cons_succ, List.getElem_toArray, List.getElem_cons_succ, List.getElem_cons_zero]
          refine wpAny_take (i := 11) (v := ?vb11) rfl (by kernel_rfl) (by kernel_rfl) (by kernel_rfl) (fun _ _ _ h => h) (Or.inl ⟨by kernel_rfl, ?hyb11⟩) ?restb11
          case hyb11 => (intro w; go_simp; try (with_reducible rfl))
          simp only [Act.put, List.setIfInBounds_toArray, List.set_cons_zero, List.set_cons_succ, List.getElem_toArray, List.getElem_cons_succ, List.getElem_cons_zero]
          refine wpAny_take (i := 12) (v := ?vb12) rfl (by kernel_rfl) (by kernel_rfl) (by kernel_rfl) (fun _ _ _ h => h) (Or.inl ⟨by kernel_rfl, ?hyb12⟩) ?restb12
          case hyb12 => (intro w; go_simp; try (with_reducible rfl))
          simp only [Act.put, List.setIfInBounds_toArray, List.set_cons_zero, List.set_cons_succ, List.getElem_toArray, List.getElem_cons_succ, List.getElem_cons_zero]
          refine wpAny_take (i := 13) (v := ?vb13) rfl (by kernel_rfl) (by kernel_rfl) (by kernel_rfl) (fun _ _ _ h => h) (Or.inl ⟨by kernel_rfl, ?hyb13⟩) ?restb13
          case hyb13 => (intro w; go_simp; try (with_reducible rfl))
          simp only [Act.put, List.setIfInBounds_toArray, List.set_cons_zero, List.set_cons_succ, List.getElem_toArray, List.getElem_cons_succ, List.getElem_cons_zero]
          refine wpAny_take (i := 14) (v := ?vb14) rfl (by kernel_rfl) (by kernel_rfl) (by kernel_rfl) (fun _ _ _ h => h) (Or.inl ⟨by kernel_rfl, ?hyb14⟩) ?restb14
          case hyb14 => (intro w; go_simp; try (with_reducible rfl))
          simp only [Act.put, List.setIfInBounds_toArray, List.set_cons_zero, List.set_cons_succ, List.getElem_toArray, List.getElem_cons_succ, List.getElem_cons_zero]
          refine wpAny_ready (rs := [9, 15]) (by kernel_rfl) (by simp) ?_
          refine AllReady.cons rfl (fun K hK => ?_) (AllReady.cons rfl (fun K hK => ?_) AllReady.nil)
          · go_simp
            refine hK _ _ ?_
            clear hK K
            refine wpAny_ready (rs := [15]) (by kernel_rfl) (by simp) ?_
            refine AllReady.cons rfl (fun K hK => ?_) AllReady.nil
            go_simp
            refine hK _ _ ?_
            clear hK K
            refine wpAny_take (i := 16) (v := ?vc916) rfl (by kernel_rfl) (by kernel_rfl) (by kernel_rfl) (fun _ _ _ h => h) (Or.inl ⟨by kernel_rfl, ?hyc916⟩) ?restc916
            case hyc916 => (intro w; go_simp; try (with_reducible rfl))
            simp only [Act.put, List.setIfInBounds_toArray, List.set_cons_zero, List.set_cons_succ, List.getElem_toArray, List.getElem_cons_succ, List.getElem_cons_zero]
            refine wpAny_take (i := 17) (v := ?vc917) rfl (by kernel_rfl) (by kernel_rfl) (by kernel_rfl) (fun _ _ _ h => h) (Or.inl ⟨by kernel_rfl, ?hyc917⟩) ?restc917
            case hyc917 => (intro w; go_simp; try (with_reducible rfl))
            simp only [Act.put, List.setIfInBounds_toArray, List.set_cons_zero, List.set_cons_succ, List.getElem_toArray, List.getElem_cons_succ, List.getElem_cons_zero]
            refine wpAny_take (i := 18) (v := ?vc918) rfl (by kernel_rfl) (by kernel_rfl) (by kernel_rfl) (fun _ _ _ h => h) (Or.inl ⟨by kernel_rfl, ?hyc918⟩) ?restc918
            case hyc918 => (intro w; go_simp; try (with_reducible rfl))
            simp only [Act.put, List.setIfInBounds_toArray, List.set_cons_zero, List.set_cons_succ, List.getElem_toArray, List.getElem_cons_succ, List.getElem_cons_zero]
            refine wpAny_done (by kernel_rfl) ?_ _
            go_wp2
            go_meet
            exact ⟨rfl, hB2.out⟩
          · go_simp
            refine hK _ _ ?_
            clear hK K
            refine wpAny_ready (rs := [9]) (by kernel_rfl) (by simp) ?_
            refine AllReady.cons rfl (fun K hK => ?_) AllReady.nil
            go_simp
            refine hK _ _ ?_
            clear hK K
            refine wpAny_take (i := 16) (v := ?vc1516) rfl (by kernel_rfl) (by kernel_rfl) (by kernel_rfl) (fun _ _ _ h => h) (Or.inl ⟨by kernel_rfl, ?hyc1516⟩) ?restc1516
            case hyc1516 => (intro w; go_simp; try (with_reducible rfl))
            simp only [Act.put, List.setIfInBounds_toArray, List.set_cons_zero, List.set_cons_succ, List.getElem_toArray, List.getElem_cons_succ, List.getElem_cons_zero]
            refine wpAny_take (i := 17) (v := ?vc1517) rfl (by kernel_rfl) (by kernel_rfl) (by kernel_rfl) (fun _ _ _ h => h) (Or.inl ⟨by kernel_rfl, ?hyc1517⟩) ?restc1517
            case hyc1517 => (intro w; go_simp; try (with_reducible rfl))
            simp only [Act.put, List.setIfInBounds_toArray, List.set_cons_zero, List.set_cons_succ, List.getElem_toArray, List.getElem_cons_succ, List.getElem_cons_zero]
            refine wpAny_take (i := 18) (v := ?vc1518) rfl (by kernel_rfl) (by kernel_rfl) (by kernel_rfl) (fun _ _ _ h => h) (Or.inl ⟨by kernel_rfl, ?hyc1518⟩) ?restc1518
            case hyc1518 => (intro w; go_simp; try (with_reducible rfl))
            simp only [Act.put, List.setIfInBounds_toArray, List.set_cons_zero, List.set_cons_succ, List.getElem_toArray, List.getElem_cons_succ, List.getElem_cons_zero]
            refine wpAny_done (by kernel_rfl) ?_ _
            go_wp2
            go_meet
            exact ⟨rfl, hB2.out⟩
      case rest =>
      obtain ⟨rfl, hB2⟩ := hcut
      clear HB hTB q0 q1 q2 HA
      go_upto_region 11 with fail
      have hsz := right_sizes (hl.right r (List.mem_of_getElem? hr))
      have hkw : IntKind.u8.wrap r.kind = r.kind := IntWalk.u8_in _ (by omega)
      have hown := hB2.own
      have q0 := hB2.c0
      have q1 := hB2.c1
      have q2 := hB2.c2
      have hlt2 := hB2.lt
      have hszw := hB2.only.size
      have hblk := hB2.blk
      have HB := hide hB2
      have HBk := hide hblk
      clear hB2 hblk
      have hkb : (r.kind : Int) = ((UInt8.ofNat r.kind.toNat).toNat : Int) := by simp; omega
      have hnb := hide (fun (W : World) => (show (W.alloc (.cells #[.int .u8 r.kind] 5)).cell? ⟨W.heap.size, 0, none⟩ = some (.int .u8 ((UInt8.ofNat r.kind.toNat).toNat : Int)) by rw [← hkb]; simp [World.cell?_alloc_new]))
      have HK := hide hkb
      clear hkb
      have hbA := hide ((((((Only.refl [] wc).alloc (.cells #[.int .u8 r.kind] 5)).drew).block bx hlt2.2 (by simp)).trans HBk.out))
      have hoA := (hown.alloc (.cells #[.int .u8 r.kind] 5)).drew
      have hltA : bx < (wc.alloc (.cells #[.int .u8 r.kind] 5)).drew.heap.size := by simp; omega
      go_region_held3 (fun W' => W'.cell? ⟨bx, 0, none⟩ = some (.string r.wide) ∧ W'.cell? ⟨bx, 1, none⟩ = some (.string r.narrow) ∧ W'.cell? ⟨bx, 2, none⟩ = some (.int .i64 r.kind))
          (first
            | go_keep
            | exact cells3 kb3.out
            | exact cells3 kb2.out
            | exact cells3 kb1.out)
          (first
            | (refine step_app_byte (P := Try.prog) (v := u5) (base := w.heap.size) (e := 5) rfl _ _ 61 rfl Try.underlying61 info5 rfl hoA _ 1 (UInt8.ofNat r.kind.toNat) rfl (hnb.out _) (by omega) (by simp; omega) ?_
               intro v1 w1 hown1 ho1
               have kb1 := hide ((ho1.block bx hltA (own_ne_type hoA hbA.out (by decide))).trans hbA.out)
               have hz1 : wc.heap.size + 1 ≤ w1.heap.size := by simpa using ho1.size)
            | (refine step_app_str (P := Try.prog) (v := v1) (base := w.heap.size) (e := 5) rfl _ _ 61 9 rfl Try.underlying61 Try.underlying9 info5 rfl hown1 r.wide rfl (by omega) (by omega) ?_
               intro v2 w2 hown2 ho2
               have kb2 := hide ((ho2.block bx (by omega) (own_ne_type hown1 kb1.out (by decide))).trans kb1.out)
               have hz2 := ho2.size)
            | (refine step_app_str (P := Try.prog) (v := v2) (base := w.heap.size) (e := 5) rfl _ _ 61 9 rfl Try.underlying61 Try.underlying9 info5 rfl hown2 r.narrow rfl (by omega) (by omega) ?_
               intro v3 w3 hown3 ho3
               have kb3 := hide ((ho3.block bx (by omega) (own_ne_type hown2 kb2.out (by decide))).trans kb2.out)))
      go_wp2
      go_roundw
      case rel => exact ⟨j + 1, by omega, by go_num, HB.out.next hr ⟨hg, hb1, hb2⟩ (((Only.refl [] wc).alloc _).drew) ho1 ho2 ho3 hown1 hown2 hown3 ⟨hsz.1, hsz.2.1⟩⟩
      case measure => simp [intOf]; omega
    · obtain rfl : j = l.length := by omega
      obtain ⟨hown, hT, hO, hg, hb1, hb2⟩ := hrel
      rw [List.take_length] at hown
      have hcv := conv_own (P := Try.prog) (dst := 9) Try.underlying61 Try.underlying5 Try.underlying9 hown
      have hsize : (⟨(lenBytes l.length ++ l.flatMap rowBytes).toArray⟩ : ByteArray).size ≤ 140737488355328 := by
        have := hown.1
        rw [bcells_length] at this
        show (List.toArray _).size ≤ _
        rw [List.size_toArray, this]
        omega
      have hfin : sealOf ⟨(lenBytes l.length ++ l.flatMap rowBytes).toArray⟩ = printed l := rfl
      generalize (⟨(lenBytes l.length ++ l.flatMap rowBytes).toArray⟩ : ByteArray) = body at *
      have HF := hide hfin
      clear hfin hown hT HP
      go_wp2_with (go_at_call 24; refine (seal_any _ _ hsize).mono ?_; rw [HF.out]; rintro e w2 ⟨rfl, ho2⟩)
      go_ret2
      exact ⟨rfl, hO.trans ho2 (by simp)⟩
end Go.Proofs.Ytlmpmfgheacplaa
