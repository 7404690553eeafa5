/- twin.Parse of what was printed. -/
import Derived.Test.YtlmpmfgheacplaaTwPrint
import Derived.Deep.RegionLaw
namespace Go.Proofs.Ytlmpmfgheacplaa
open Go.RowKit
set_option linter.unusedVariables false

theorem bytes_eq {a b : ByteArray} (h : a.data.toList = b.data.toList) : a = b := bytes_ext' h
theorem extract_list (a : ByteArray) (i j : Nat) : (a.extract i j).data.toList = (a.data.toList.drop i).take (j - i) := by
  simp [ByteArray.data_extract, List.extract_eq_take_drop]
theorem append_list (a b : ByteArray) : (a ++ b).data.toList = a.data.toList ++ b.data.toList := by simp
theorem openOf_seal (b : ByteArray) : openOf (sealOf b) = (b, 0) := by
  have hs := sealOf_size b
  have he : (sealOf b).extract 0 ((sealOf b).size - 4) = b := by
    apply bytes_eq
    rw [extract_list, hs]
    unfold sealOf
    rw [append_list]
    have : b.size + 4 - 4 - 0 = b.data.toList.length := by rw [data_len]; omega
    rw [this]
    simp
  unfold openOf
  rw [if_neg (by omega), he, if_pos rfl]

theorem rowBytes_len {r : Row} (h : r.right = true) : (rowBytes r).length = 53 := by
  have := right_sizes h
  unfold rowBytes
  simp only [List.length_cons, List.length_append, data_len]
  omega
theorem flat_len {l : List Row} (h : ∀ r ∈ l, r.right = true) : (l.flatMap rowBytes).length = 53 * l.length := by
  induction l with
  | nil => rfl
  | cons r l ih =>
    rw [List.flatMap_cons, List.length_append, rowBytes_len (h r (by simp)), ih (fun q hq => h q (by simp [hq])), List.length_cons]
    omega
theorem flat_drop {l : List Row} (h : ∀ r ∈ l, r.right = true) (k : Nat) : (l.flatMap rowBytes).drop (53 * k) = (l.drop k).flatMap rowBytes := by
  induction l generalizing k with
  | nil => simp
  | cons r l ih =>
    cases k with
    | zero => simp
    | succ k =>
      have hl := rowBytes_len (h r (by simp))
      rw [List.flatMap_cons, List.drop_succ_cons, ← ih (fun q hq => h q (by simp [hq])) k, show 53 * (k + 1) = (rowBytes r).length + 53 * k by omega, ← List.drop_drop, List.drop_left]
theorem body_len {l : List Row} (h : ∀ r ∈ l, r.right = true) : (printBody l).length = 4 + 53 * l.length := by
  unfold printBody
  rw [List.length_append, flat_len h]
  rfl
theorem body_at {l : List Row} (h : ∀ r ∈ l, r.right = true) {k : Nat} {r : Row} (hr : l[k]? = some r) :
    (⟨(printBody l).toArray⟩ : ByteArray).extract (4 + 53 * k) (4 + 53 * k + 53) = ⟨(rowBytes r).toArray⟩ := by
  apply bytes_eq
  rw [extract_list]
  show ((printBody l).drop (4 + 53 * k)).take _ = rowBytes r
  have e : 4 + 53 * k + 53 - (4 + 53 * k) = 53 := by omega
  rw [e]
  unfold printBody
  rw [← List.drop_drop, show (lenBytes l.length ++ l.flatMap rowBytes).drop 4 = l.flatMap rowBytes from rfl, flat_drop h]
  obtain ⟨hk, rfl⟩ := List.getElem?_eq_some_iff.1 hr
  rw [List.drop_eq_getElem_cons hk, List.flatMap_cons, List.take_append_of_le_length (by rw [rowBytes_len (h _ (List.getElem_mem hk))]; omega)]
  exact List.take_of_length_le (by rw [rowBytes_len (h _ (List.getElem_mem hk))]; omega)
theorem row_size {r : Row} (h : r.right = true) : (⟨(rowBytes r).toArray⟩ : ByteArray).size = 53 := by
  show (rowBytes r).toArray.size = 53
  rw [List.size_toArray, rowBytes_len h]
theorem row_wide {r : Row} (h : r.right = true) : (⟨(rowBytes r).toArray⟩ : ByteArray).extract 1 33 = r.wide := by
  apply bytes_eq
  rw [extract_list]
  show ((rowBytes r).drop 1).take 32 = _
  have hs := (right_sizes h).1
  unfold rowBytes
  rw [List.drop_succ_cons, List.drop_zero, List.take_append_of_le_length (by rw [data_len]; omega)]
  exact List.take_of_length_le (by rw [data_len]; omega)
theorem row_narrow {r : Row} (h : r.right = true) : (⟨(rowBytes r).toArray⟩ : ByteArray).extract 33 53 = r.narrow := by
  apply bytes_eq
  rw [extract_list]
  show ((rowBytes r).drop 33).take 20 = _
  have hs := right_sizes h
  unfold rowBytes
  rw [List.drop_succ_cons, show 32 = r.wide.data.toList.length by rw [data_len]; omega, List.drop_left]
  exact List.take_of_length_le (by rw [data_len]; omega)

def ParsePost (l : List Row) (w : World) (e : Ending) (w' : World) : Prop :=
  ∃ v, e = .returned (.tuple #[v, .int .i64 0]) ∧ w'.ownsRow w.heap.size 30 3 v l.length (rowsCells l) ∧ Only [] w w'
set_option maxHeartbeats 2000000 in
set_option maxRecDepth 100000 in
theorem parse_any (l : List Row) (hl : PrintOk l) (w : World) : Calls Try.prog 15 #[.string (printed l)] w (ParsePost l w) := by
  have hlen := hl.len
  have hop : openOf (printed l) = (⟨(printBody l).toArray⟩, 0) := openOf_seal _
  have hbs : (⟨(printBody l).toArray⟩ : ByteArray).size = 4 + 53 * l.length := by
    show (printBody l).toArray.size = _
    rw [List.size_toArray, body_len hl.right]
  have hps : (printed l).size ≤ 140737488355328 := by
    unfold printed
    rw [sealOf_size, hbs]
    omega
  have HAt := hide (fun k r => body_at (k := k) (r := r) hl.right)
  have hpr := hide (fun A c w hc ha => print_any l hl A c w hc ha)
  generalize (⟨(printBody l).toArray⟩ : ByteArray) = body at *
  generalize printed l = s at *
  have HO := hide hop
  have HB := hide hbs
  clear hop
  go_enter Try.func15, Try.ntmps15
  go_wp2_with (go_at_call 25; refine (open_any _ _ hps).mono ?_; rw [HO.out]; rintro e w1 ⟨rfl, ho1⟩)
  go_loopw [6, 7] (fun v6 v7 W => ∃ k i : Nat, k ≤ l.length ∧ i = 4 + 53 * k ∧ v7 = .int .i64 i ∧ W.ownsRow w1.heap.size 30 3 v6 k (rowsCells (l.take k)) ∧ Only [] w1 W) (fun _ v7 _ => (4 + 53 * l.length - intOf v7).toNat)
  case atStart => exact ⟨0, 4, by omega, rfl, rfl, World.ownsRow_nil _ _ _ _, Only.refl _ _⟩
  case round =>
    obtain ⟨k, i, hk, hi, rfl, hown, hO⟩ := hrel
    obtain ⟨A, c, rfl, hkc, hcells⟩ := own_form hown
    by_cases hlt : k < l.length
    · obtain ⟨r, hr⟩ : ∃ r, l[k]? = some r := ⟨_, List.getElem?_eq_getElem hlt⟩
      have hrr := hl.right r (List.mem_of_getElem? hr)
      have hx := HAt.out k r hr
      have hxs := row_size hrr
      have hxw := row_wide hrr
      have hxn := row_narrow hrr
      go_upto_region 9 with fail
      rw [hx]
      have hsz := right_sizes hrr
      have hkb : ((UInt8.ofNat r.kind.toNat).toNat : Int) = r.kind := by simp; omega
      have hx0 : ∀ h, (((⟨(rowBytes r).toArray⟩ : ByteArray)[0]'h).toNat : Int) = r.kind := fun h => hkb
      have hkw : IntKind.i64.wrap r.kind = r.kind := IntWalk.i64_in _ (by omega)
      clear hkb
      clear hx
      generalize (⟨(rowBytes r).toArray⟩ : ByteArray) = x at *
      have hnews : ∀ j u, r.cells[j]? = some u → (wr.alloc (.cells #[.string r.wide, .string r.narrow, .int .i64 r.kind] 30)).drew.cell? ⟨wr.heap.size, j, none⟩ = some u := by
        intro q u hu
        have hq : q < 3 := by have := (List.getElem?_eq_some_iff.1 hu).1; simpa [Row.cells] using this
        obtain rfl | rfl | rfl : q = 0 ∨ q = 1 ∨ q = 2 := by omega
        all_goals
          simp [Row.cells] at hu
          subst hu
          simp [World.cell?_alloc_new]
      have hoA := (hown.alloc (.cells #[.string r.wide, .string r.narrow, .int .i64 r.kind] 30)).drew
      have hlw := hO.size
      clear hcells
      go_region_law (first
        | (refine step_app (P := Try.prog) (v := .slice A k c) (base := w1.heap.size) (e := 30) rfl _ _ 35 rfl Try.underlying35 infoRow rfl (by omega) rfl hoA _ 1 1 r.cells rfl rfl hnews (row_cells_one r) (by omega) (by unfold maxLen; omega) (by simp; omega) ?_; intro v' w' h1' h2')
        | fail)
      have hT : rowsCells (l.take (k + 1)) = rowsCells (l.take k) ++ r.cells := by rw [← rowsCells_snoc, List.take_add_one, hr]; rfl
      rw [← hT] at h1'
      have hO' := (hO.alloc (.cells #[.string r.wide, .string r.narrow, .int .i64 r.kind] 30)).drew.trans h2' (fun t ht hl => absurd (own_lt hown ht).1 (by omega))
      clear hT hx0
      go_wp2
      go_roundw
      case rel => exact ⟨k + 1, i + 53, by omega, by omega, by subst hi; go_num, h1', hO'⟩
      case measure => simp [intOf]; omega
    · obtain rfl : k = l.length := by omega
      rw [List.take_length] at hown
      have hc14 := hide (hpr.out A c wr hkc (fun j u hu => by
        rw [List.take_length] at hcells
        obtain ⟨g, h1, _, h2, h3⟩ := hcells j u hu
        exact ⟨g, h1, h2, h3⟩))
      clear hcells
      have hsz := ho1.size
      go_wp2_with (go_at_call 14; refine hc14.out.mono ?_; rintro e w2 ⟨rfl, ho2⟩)
      go_ret2
      exact ⟨_, rfl, own_base (own_only hown ho2 (by simp)) hsz, (ho1.trans hO (by simp)).trans ho2 (by simp)⟩
end Go.Proofs.Ytlmpmfgheacplaa
