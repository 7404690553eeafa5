/- The translation table: Rows. -/
import Derived.Test.YtlmpmfgheacplaaTwNew
import Derived.Test.YtlmpmfgheacplaaTwAll
import Derived.Test.YtlmpmfgheacplaaDpOwn
namespace Go.Proofs.Ytlmpmfgheacplaa
open Go.RowKit Go.Maps
set_option linter.unusedVariables false

def Row.cells (r : Row) : List Value := [.string r.wide, .string r.narrow, .int .i64 r.kind]
def rowsCells (l : List Row) : List Value := l.flatMap Row.cells
/-- A table's rows, by rising Wide. -/
def rowsOf (rows : List (ByteArray × Row)) : List Row := (sortKeys (rows.map (·.1))).map fun k => (mget rows k).getD Row.zero
def RowsPost (w : World) (rows : List (ByteArray × Row)) (e : Ending) (w' : World) : Prop :=
  ∃ v, e = .returned v ∧ w'.ownsRow w.heap.size 30 3 v rows.length (rowsCells (rowsOf rows)) ∧ Only [] w w'
theorem infoRow : (Try.prog.info? 30).map (fun i => (i.zero, i.size, i.bytes)) = some (some (.agg #[.string ⟨#[]⟩, .string ⟨#[]⟩, .int .i64 0]), 3, 40) := by kernel_rfl

theorem rowsCells_snoc (l : List Row) (r : Row) : rowsCells (l ++ [r]) = rowsCells l ++ r.cells := by simp [rowsCells]
theorem rowsCells_length (l : List Row) : (rowsCells l).length = l.length * 3 := by
  induction l with
  | nil => rfl
  | cons r l ih => simp [rowsCells, Row.cells] at ih ⊢; omega
theorem row_cells_one (r : Row) : ∀ u ∈ r.cells, u.oneCell' = true := by simp [Row.cells, Value.oneCell']
theorem erase_perm {α : Type} : ∀ (l : List α) (i : Nat) (p : α), l[i]? = some p → (p :: l.eraseIdx i).Perm l
  | [], i, p, h => by simp at h
  | x :: l, 0, p, h => by
    obtain rfl : x = p := by simpa using h
    exact List.Perm.refl _
  | x :: l, i + 1, p, h => (List.Perm.swap x p _).trans ((erase_perm l i p (by simpa using h)).cons x)
theorem gath_step {s : List ByteArray} {rest rows : List (ByteArray × Row)} {i : Nat} {k : ByteArray} {v : Row} (hnd : (rows.map (·.1)).Nodup) (hP : (s ++ rest.map (·.1)).Perm (rows.map (·.1))) (hp : rest[i]? = some (k, v)) :
    memB s k = false ∧ ((s ++ [k]) ++ (rest.eraseIdx i).map (·.1)).Perm (rows.map (·.1)) ∧ (rest.eraseIdx i).length < rest.length := by
  have hi : i < rest.length := (List.getElem?_eq_some_iff.1 hp).1
  have hpe := erase_perm rest i (k, v) hp
  have hm := hpe.map (·.1)
  refine ⟨?_, ?_, ?_⟩
  · cases hb : memB s k
    · rfl
    · have h1 := (memB_iff s k).1 hb
      have h2 : k ∈ rest.map (·.1) := List.mem_map.2 ⟨(k, v), List.mem_of_getElem? hp, rfl⟩
      have hn := hP.nodup_iff.2 hnd
      exact absurd rfl ((List.nodup_append.1 hn).2.2 k h1 k h2)
  · refine List.Perm.trans ?_ hP
    rw [List.append_assoc]
    exact List.Perm.append_left s hm
  · rw [List.length_eraseIdx]
    simp [hi]
    omega

/-- The first loop's relation. -/
def Gath (w W : World) (g b1 b2 : Nat) (rows : List (ByteArray × Row)) (back : List (ByteArray × ByteArray)) (r B : Nat) (rest : List (ByteArray × Row)) (ob : Option Nat) (s : List ByteArray) : Prop :=
  RangeAt Row.enc W b1 r rows rest ∧ SeenAt W B ob s ∧ (s ++ rest.map (·.1)).Perm (rows.map (·.1)) ∧ Only [] w W ∧ TabAt W g b1 b2 rows back ∧ (∀ b, ob = some b → w.heap.size ≤ b) ∧ w.heap.size ≤ B ∧ w.heap.size ≤ r ∧ B ≠ r ∧ w.heap.size + 2 ≤ W.heap.size

set_option maxHeartbeats 1000000 in
set_option maxRecDepth 100000 in
theorem rows_any (g b1 b2 : Nat) (rows : List (ByteArray × Row)) (back : List (ByteArray × ByteArray)) (w : World) (h : TabAt w g b1 b2 rows back) (hlen : rows.length ≤ 8192) (hkeys : ∀ p ∈ rows, p.1.size ≤ maxLen) :
    Calls Try.prog 11 #[.pointer (some ⟨g, 0, none⟩)] w (RowsPost w rows) := by
  have c0 := h.cell0
  have hg := h.lt
  have hb1 := h.rowsAt.lt
  have hb2 := h.backAt.lt
  have h0nd := h.rowsAt.nodup
  have hgb := h.rowsAt.ne_cells h.cells
  have hgb2 := h.backAt.ne_cells h.cells
  go_enter Try.func11, Try.ntmps11
  go_wp2_with (at_range; refine wpList_range_map rfl _ _ rfl Try.underlying48 (h.rowsAt.alloc (.cells #[.map none] 56)) rfl ?_; intro w0 hr0 ho0 hs0)
  go_frame
  have hsz0 : w0.heap.size = w.heap.size + 2 := by simpa using hs0
  have HZ0 := hide hsz0
  clear hsz0 hs0
  have ho00 : Only [] w w0 := ((Only.refl [] w).alloc _).trans ho0 (by simp)
  have hnew : SeenAt w0 w.heap.size none [] := ⟨(ho0.block _ (by simp) (by simp)).trans (MapKept.heap_alloc w _).1, rfl⟩
  have hT0 := h.only ho00 (by simp) (by simp) (by simp)
  have hre : (w.alloc (.cells #[.map none] 56)).heap.size = w.heap.size + 1 := by simp
  generalize (w.alloc (.cells #[.map none] 56)).heap.size = r at *
  have hst : Gath w w0 g b1 b2 rows back r w.heap.size rows none [] := ⟨hr0, hnew, by simp, ho00, hT0, by simp, by omega, by omega, by omega, by have := HZ0.out; omega⟩
  have HST := hide hst
  clear hst hr0 hnew hT0 ho0 ho00 h c0 hre
  go_loopw [14] (fun _ W => ∃ rest ob s, Gath w W g b1 b2 rows back r w.heap.size rest ob s) (fun _ W => W.rangeLeft b1 r)
  case atStart => exact ⟨_, _, _, HST.out⟩
  case round =>
    clear HST
    obtain ⟨rest, ob, s, hrel⟩ := hrel
    have HR := hide hrel
    obtain ⟨hR, hS, hP, hO, hT, hob, hB, hrl, hne, hsz⟩ := hrel
    clear hP hT hob
    go_wp2_with (at_next; refine wpList_next_map rfl _ rfl hR rfl ?_ ?_)
    · intro hrest
      subst hrest
      obtain ⟨_, _, hP, hO, hT, hob, _, _, _, hsz'⟩ := HR.out
      have hP' : s.Perm (rows.map (·.1)) := by simpa using hP
      have hsl : s.length = rows.length := by have := hP'.length_eq; simpa using this
      have hall := hide (all_any w.heap.size ob s wr hS (by omega) (fun k hk => by
        obtain ⟨p, hp, rfl⟩ := List.mem_map.1 (hP'.mem_iff.1 hk)
        exact hkeys p hp))
      have HP := hide hP'
      have HT := hide hT
      have HS := hide hsl
      clear hR hP hP' hT hsl
      go_wp2_with (go_at_call 23; refine hall.out.mono ?_; rintro e w2 ⟨v, rfl, hown, ho2⟩; obtain ⟨A, c, rfl, hlc, hcell⟩ := own_form hown)
      have hT2 := HT.out.only ho2 (by simp) (by simp) (by simp)
      have hg2 : w.heap.size ≤ wr.heap.size := hO.size
      have hO2 := hO.trans ho2 (by simp)
      have HL := hide (rfl : (sortKeys s).map (fun k => (mget rows k).getD Row.zero) = (sortKeys s).map (fun k => (mget rows k).getD Row.zero))
      have hLl : ((sortKeys s).map (fun k => (mget rows k).getD Row.zero)).length = s.length := by simp [sortKeys_length]
      have hLat : ∀ (j : Nat) (k : ByteArray), (sortKeys s)[j]? = some k → ((sortKeys s).map (fun k => (mget rows k).getD Row.zero))[j]? = some ((mget rows k).getD Row.zero) := fun j k hj => by rw [List.getElem?_map, hj]; rfl
      have hfin : rowsOf rows = (sortKeys s).map (fun k => (mget rows k).getD Row.zero) := by
        unfold rowsOf
        rw [sortKeys_perm HP.out]
      generalize (sortKeys s).map (fun k => (mget rows k).getD Row.zero) = L at *
      have HF := hide hfin
      have HLl := hide hLl
      clear HL hfin hLl hown hob hO
      go_loopw [5, 21] (fun v5 v21 W => ∃ j : Nat, j ≤ s.length ∧ v21 = .int .i64 j ∧ W.ownsRow w2.heap.size 30 3 v5 j (rowsCells (L.take j)) ∧ Only [] w2 W) (fun _ v21 _ => (s.length - intOf v21).toNat)
      case atStart => exact ⟨0, by omega, rfl, World.ownsRow_nil _ _ _ _, Only.refl _ _⟩
      case round =>
        obtain ⟨j, hj, rfl, hown, hO3⟩ := hrel
        have hT3 := hT2.only hO3 (by simp) (by simp) (by simp)
        have c0 := hT3.cell0
        by_cases hlt : j < s.length
        · have hkj : (sortKeys s)[j]? = some ((sortKeys s)[j]'(by rw [sortKeys_length]; exact hlt)) := List.getElem?_eq_getElem _
          generalize (sortKeys s)[j]'(by rw [sortKeys_length]; exact hlt) = k at hkj
          have hLj := hLat j k hkj
          obtain ⟨gk, rfl, hgk1, hgk2, hck⟩ := hcell j (.string k) (by rw [List.getElem?_map, hkj]; rfl)
          have hck3 := (hO3.cell (p := ⟨gk, j, none⟩) hgk2 (by simp)).trans hck
          have hlk := hT3.rowsAt.look1 (P := Try.prog) Try.underlying48 Try.underlying9 Row.zero (zero30 _) k
          generalize (mget rows k).getD Row.zero = y at *
          unfold Row.enc at hlk
          have HT3 := hide hT3
          have HLj := hide hLj
          have hg3 := hT3.lt
          have hw3 := hO3.size
          have hjb : j < 8192 := by have := HS.out; omega
          clear hcell hck hkj hLj hLat hT3 hT2
          go_wp2_with (at_builtin; refine wpList_app rfl _ _ _ rfl Try.underlying35 infoRow rfl (by omega) rfl (hown.alloc _) wr.heap.size 1 1 y.cells rfl rfl ?_ (row_cells_one y) (by omega) (by unfold maxLen; omega) (by simp; omega) ?_)
          · intro q u hu
            have hq : q < 3 := by have := (List.getElem?_eq_some_iff.1 hu).1; simpa [Row.cells] using this
            obtain rfl | rfl | rfl : q = 0 ∨ q = 1 ∨ q = 2 := by omega
            all_goals
              simp [Row.cells] at hu
              subst hu
              simp [World.cell?_alloc_new]
          · intro v' w3 hown3 ho3 _
            have hs3 : (L.take (j + 1)) = L.take j ++ [y] := by
              rw [List.take_add_one, HLj.out]
              rfl
            have hown4 : w3.ownsRow w2.heap.size 30 3 v' (j + 1) (rowsCells (L.take (j + 1))) := by
              rw [hs3, rowsCells_snoc]
              exact hown3
            have hO4 : Only [] w2 w3 := (hO3.alloc _).trans ho3 (fun t ht hl => by have := (own_lt hown ht).1; omega)
            have HO4 := hide hown4
            clear hs3 hown3 hown4
            go_wp2
            go_roundw
            case rel => exact ⟨j + 1, by omega, by go_num, HO4.out, hO4⟩
            case measure => simp [intOf]; omega
        · obtain rfl : j = s.length := by omega
          have hr : wr.ownsRow w.heap.size 30 3 u5 rows.length (rowsCells (rowsOf rows)) := by
            rw [HF.out, ← HS.out]
            rw [List.take_of_length_le (by rw [HLl.out]; omega)] at hown
            exact own_base hown (Nat.le_trans hg2 ho2.size)
          have HR' := hide hr
          clear hr hown
          go_wp2
          go_ret
          exact ⟨_, rfl, HR'.out, hO2.trans hO3 (by simp)⟩
    · intro i k v w1 hp hR1 ho1 hs1 hen
      have hS1 := hS.only ho1 (by simpa using hne) (fun b hb => by
        subst hb
        simpa using (hR.ne_map hS.2).symm)
      have HS1 := hide hs1
      clear hs1
      go_wp2_with (go_at_call 22; refine (seen_add _ _ _ _ _ hS1).mono ?_; rintro e w2 ⟨ob2, rfl, hS2, ho2, hob2⟩)
      obtain ⟨_, _, hP, hO, hT, hob, _, _, _, hsz'⟩ := HR.out
      obtain ⟨hk1, hk2, hk3⟩ := gath_step h0nd hP hp
      have HK := hide hk1
      clear hk1
      go_roundw
      case rel =>
        rw [HK.out] at hS2
        have hlow : ∀ x, x < w.heap.size → x ∉ w.heap.size :: ob.toList := by
          intro x hx hm
          rcases List.mem_cons.1 hm with rfl | hm
          · omega
          · have := hob x (by simpa using hm)
            omega
        have hge := hO.size
        have hO2 : Only [] w w2 := (hO.trans ho1 (fun t ht hl => by simp at ht; omega)).trans ho2 (fun t ht hl => absurd ht (hlow t hl))
        have hrn : r ∉ w.heap.size :: ob.toList := by
          intro hm
          rcases List.mem_cons.1 hm with he | hm
          · exact hne he.symm
          · cases ob with
            | none => simp at hm
            | some b =>
              have : r = b := by simpa using hm
              subst this
              exact hR.ne_map hS.2 rfl
        refine ⟨rest.eraseIdx i, ob2, s ++ [k], hR1.only ho2 (hlow b1 hb1) hrn, hS2, hk2, hO2, ?_, ?_, hB, hrl, hne, ?_⟩
        · exact (hT.only ho1 (by simp; omega) (by simp; omega) (by simp; omega)).only ho2 (hlow g hg) (hlow b1 hb1) (hlow b2 hb2)
        · intro b hb
          rcases hob2 with rfl | ⟨b', _, rfl, hb'⟩
          · exact hob b hb
          · cases hb
            have := HS1.out
            omega
        · have := ho2.size
          have := HS1.out
          omega
      case measure =>
        have hlow : b1 ∉ w.heap.size :: ob.toList := by
          intro hm
          rcases List.mem_cons.1 hm with rfl | hm
          · omega
          · have := hob b1 (by simpa using hm)
            omega
        have hrn : r ∉ w.heap.size :: ob.toList := by
          intro hm
          rcases List.mem_cons.1 hm with he | hm
          · exact hne he.symm
          · cases ob with
            | none => simp at hm
            | some b =>
              have : r = b := by simpa using hm
              subst this
              exact hR.ne_map hS.2 rfl
        rw [(hR1.only ho2 hlow hrn).left, hR.left]
        exact hk3
end Go.Proofs.Ytlmpmfgheacplaa
