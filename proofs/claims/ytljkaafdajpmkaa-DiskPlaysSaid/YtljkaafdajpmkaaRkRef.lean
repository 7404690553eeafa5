/- The reference's disk: what is seen; a call comes. -/
import Derived.Test.YtljkaafdajpmkaaRkSeen
namespace Go.Proofs.Ytljkaafdajpmkaa
open Go.RowKit
set_option linter.unusedVariables false

def rSeen (l : Files) (rows : List Eff) : Files := rows.foldl rDone l
theorem rSeen_snoc (l : Files) {rows : List Eff} {j : Nat} {e : Eff} (h : rows[j]? = some e) : rSeen l (rows.take (j + 1)) = rDone (rSeen l (rows.take j)) e := by
  rw [List.take_add_one, h]
  simp [rSeen]
theorem rSeen_len : ∀ (rows : List Eff) (l : Files), (rSeen l rows).length ≤ l.length + rows.length
  | [], l => by simp [rSeen]
  | e :: rows, l => by
    have h1 := rSeen_len rows (rDone l e)
    have h2 := rDone_len l e
    show (rSeen (rDone l e) rows).length ≤ _
    rw [List.length_cons]
    omega
/-- The reference's disk. -/
structure RefS where
  room : Int
  lies : Files
  rows : List Eff
  down : Bool
  at_ : Int
  keep : Int
  left : Int
def RefS.cells (M : RefS) (A : Option Addr) (c : Nat) (B : Option Addr) (d : Nat) : Array Value :=
  #[.int .i64 M.room, .slice A M.lies.length c, .slice B M.rows.length d, .bool M.down, .int .i64 M.at_, .int .u64 M.keep, .int .i64 M.left]
structure RefAt (w : World) (A : Option Addr) (B : Option Addr) (M : RefS) : Prop where
  lies : ArgAt w A (fcells M.lies)
  rows : ArgAt w B (effCells M.rows)
theorem RefAt.only {w w' : World} {A B : Option Addr} {M : RefS} (h : RefAt w A B M) (ho : Only [] w w') : RefAt w' A B M := ⟨h.lies.only ho (by simp), h.rows.only ho (by simp)⟩
theorem eff_row {w : World} {A : Option Addr} {rows : List Eff} (h : ArgAt w A (effCells rows)) {j : Nat} {e : Eff} (hj : rows[j]? = some e) : ∃ g, A = some ⟨g, 0, none⟩ ∧ g < w.heap.size ∧
    w.cell? ⟨g, j * 3, none⟩ = some (.int .i64 e.kind) ∧ w.cell? ⟨g, j * 3 + 1, none⟩ = some (.string e.path) ∧ w.cell? ⟨g, j * 3 + 2, none⟩ = some (.string e.text) := by
  obtain ⟨g, rfl, hg, h0⟩ := h _ _ (effCells_at hj).1
  obtain ⟨_, e1, _, h1⟩ := h _ _ (effCells_at hj).2.1
  cases e1
  obtain ⟨_, e2, _, h2⟩ := h _ _ (effCells_at hj).2.2
  cases e2
  exact ⟨g, rfl, hg, h0, h1, h2⟩
set_option maxHeartbeats 4000000 in
set_option maxRecDepth 100000 in
theorem seen_any (M : RefS) (A : Option Addr) (c : Nat) (B : Option Addr) (d : Nat) (w : World) (hl : M.lies.length + M.rows.length ≤ 800000) (ha : RefAt w A B M) :
    Calls Try.prog 21 #[.agg #[.int .i64 M.room, .slice A M.lies.length c, .slice B M.rows.length d, .bool M.down, .int .i64 M.at_, .int .u64 M.keep, .int .i64 M.left]] w (FilesIn w (rSeen M.lies M.rows)) := by
  obtain ⟨room, lies, rows, dn, at_, kp, lf⟩ := M
  obtain ⟨ha1, ha2⟩ := ha
  simp only at hl ha1 ha2 ⊢
  have hoB : Only [] w (w.alloc (.cells #[.int .i64 room, .slice A lies.length c, .slice B rows.length d, .bool dn, .int .i64 at_, .int .u64 kp, .int .i64 lf] 35)) := (Only.refl [] w).alloc _
  have hbk := heap_alloc_new w (.cells #[.int .i64 room, .slice A lies.length c, .slice B rows.length d, .bool dn, .int .i64 at_, .int .u64 kp, .int .i64 lf] 35)
  have hlb : w.heap.size < (w.alloc (.cells #[.int .i64 room, .slice A lies.length c, .slice B rows.length d, .bool dn, .int .i64 at_, .int .u64 kp, .int .i64 lf] 35)).heap.size := by simp
  have HA1 := hide (ha1.only hoB (by simp))
  have HA2 := hide (ha2.only hoB (by simp))
  obtain ⟨r, hr⟩ : ∃ r, r = rSeen lies rows := ⟨_, rfl⟩
  rw [← hr]
  have HR := hide hr
  clear hr ha1 ha2
  go_enter Try.func21, Try.ntmps21
  go_upto_region 1 with fail
  generalize w.alloc (.cells #[.int .i64 room, .slice A lies.length c, .slice B rows.length d, .bool dn, .int .i64 at_, .int .u64 kp, .int .i64 lf] 35) = wB at *
  generalize w.heap.size = bx at *
  have q1 : wB.cell? ⟨bx, 1, none⟩ = some (.slice A lies.length c) := by simp [World.cell?, hbk]
  have q2 : wB.cell? ⟨bx, 2, none⟩ = some (.slice B rows.length d) := by simp [World.cell?, hbk]
  have HBX := hide (fun W (ho : Only [] wB W) => show W.cell? ⟨bx, 1, none⟩ = some (.slice A lies.length c) ∧ W.cell? ⟨bx, 2, none⟩ = some (.slice B rows.length d) from
    ⟨(ho.cell (p := ⟨bx, 1, none⟩) hlb (by simp)).trans q1, (ho.cell (p := ⟨bx, 2, none⟩) hlb (by simp)).trans q2⟩)
  have HOB := hide hoB
  clear hbk hoB
  go_wp2
  go_loopw [3, 4] (fun v3 v4 W => ∃ (j : Nat) (A3 : Option Addr) (c3 : Nat), j ≤ rows.length ∧ v4 = .int .i64 j ∧ v3 = .slice A3 (rSeen lies (rows.take j)).length c3 ∧ ArgAt W A3 (fcells (rSeen lies (rows.take j))) ∧ Only [] wB W) (fun _ v4 _ => (rows.length - intOf v4).toNat)
  case atStart => exact ⟨0, A, c, by omega, rfl, rfl, HA1.out, Only.refl _ _⟩
  case round =>
    clear q1 q2
    obtain ⟨j, A3, c3, hj, rfl, rfl, ha3, hO⟩ := hrel
    obtain ⟨q1, q2⟩ := HBX.out _ hO
    have hsl : (rSeen lies (rows.take j)).length ≤ 800000 := by have := rSeen_len (rows.take j) lies; have : (rows.take j).length ≤ rows.length := List.length_take_le' _ _; omega
    by_cases hlt : j < rows.length
    · obtain ⟨e, he⟩ : ∃ e, rows[j]? = some e := ⟨_, List.getElem?_eq_getElem hlt⟩
      have hsn := hide (rSeen_snoc lies he)
      obtain ⟨gb, rfl, hgb, k0, k1, k2⟩ := eff_row (HA2.out.only hO (by simp)) he
      have HD := hide (done_any _ e A3 c3 wr (by omega) ha3)
      have HO := hide hO
      clear he ha3 hO hsl
      generalize rSeen lies (rows.take j) = s at *
      go_wp2_with (go_at_call 55; refine HD.out.mono ?_; rintro e w5 ⟨A5, c5, rfl, ha5, ho5⟩)
      go_roundw
      case rel => exact ⟨j + 1, A5, c5, by omega, by go_num, by rw [hsn.out], by rw [hsn.out]; exact ha5, HO.out.trans ho5 (by simp)⟩
      case measure => simp [intOf]; omega
    · obtain rfl : j = rows.length := by omega
      rw [List.take_length, ← HR.out] at ha3 ⊢
      go_wp2
      go_ret
      exact ⟨A3, c3, rfl, ha3, HOB.out.trans hO (by simp)⟩
end Go.Proofs.Ytljkaafdajpmkaa
