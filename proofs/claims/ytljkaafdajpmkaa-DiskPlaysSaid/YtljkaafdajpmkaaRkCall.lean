/- The reference's disk: an effect, or a sync, comes. -/
import Derived.Test.YtljkaafdajpmkaaRkOps
namespace Go.Proofs.Ytljkaafdajpmkaa
open Go.RowKit
set_option linter.unusedVariables false

def keptR : Files → List Eff → Nat → Files
  | l, [], _ => l
  | l, e :: ws, k => keptR (if k % 2 = 1 then rDone l e else l) ws (k / 2)
theorem keptR_step {l : Files} {ws : List Eff} {k i : Nat} {e : Eff} (h : ws[i]? = some e) :
    keptR l (ws.drop i) (k / 2 ^ i) = keptR (if k / 2 ^ i % 2 = 1 then rDone l e else l) (ws.drop (i + 1)) (k / 2 ^ (i + 1)) := by
  obtain ⟨hi, rfl⟩ := List.getElem?_eq_some_iff.1 h
  rw [List.drop_eq_getElem_cons hi, keptR, Nat.div_div_eq_div_mul, ← Nat.pow_succ]
def RefS.call (M : RefS) : RefS × Bool :=
  if M.left = 0 then (M, false) else
  if 0 < M.left - 1 then ({ M with left := M.left - 1 }, false) else
  ({ M with lies := keptR M.lies (M.rows.take 64) M.keep.toNat, rows := [], down := true, left := M.left - 1 }, true)
def RCallPost (r : RefS × Bool) (w : World) (e : Ending) (w' : World) : Prop :=
  ∃ A c B d, e = .returned (.tuple #[.agg #[.int .i64 r.1.room, .slice A r.1.lies.length c, .slice B r.1.rows.length d, .bool r.1.down, .int .i64 r.1.at_, .int .u64 r.1.keep, .int .i64 r.1.left], .bool r.2]) ∧ RefAt w' A B r.1 ∧ Only [] w w'
theorem ArgAt.aside {w w' : World} {A : Option Addr} {cells : List Value} {S : List Nat} (h : ArgAt w A cells) (ho : Only S w w') (hS : ∀ g, A = some ⟨g, 0, none⟩ → cells ≠ [] → g ∉ S) : ArgAt w' A cells := fun j u hu => by
  obtain ⟨g, hA, hg, hc⟩ := h j u hu
  exact ⟨g, hA, Nat.lt_of_lt_of_le hg ho.size, (ho.cell (p := ⟨g, j, none⟩) hg (hS g hA (fun e => by rw [e] at hu; simp at hu))).trans hc⟩
/-- The box in which the reference's disk lies. -/
structure BoxAt (W : World) (bx : Nat) (A : Option Addr) (c : Nat) (B : Option Addr) (d : Nat) (M : RefS) : Prop where
  blk : W.heap[bx]? = some (.cells (M.cells A c B d) 35 (0, 0))
  ref : RefAt W A B M
section
variable {W W' : World} {bx : Nat} {A B : Option Addr} {c d : Nat} {M : RefS}
theorem BoxAt.cell (h : BoxAt W bx A c B d M) : W.cell? ⟨bx, 0, none⟩ = some (.int .i64 M.room) ∧ W.cell? ⟨bx, 1, none⟩ = some (.slice A M.lies.length c) ∧ W.cell? ⟨bx, 2, none⟩ = some (.slice B M.rows.length d) ∧ W.cell? ⟨bx, 3, none⟩ = some (.bool M.down) ∧
    W.cell? ⟨bx, 4, none⟩ = some (.int .i64 M.at_) ∧ W.cell? ⟨bx, 5, none⟩ = some (.int .u64 M.keep) ∧ W.cell? ⟨bx, 6, none⟩ = some (.int .i64 M.left) := by
  have hb := h.blk
  exact ⟨by simp [World.cell?, hb, RefS.cells], by simp [World.cell?, hb, RefS.cells], by simp [World.cell?, hb, RefS.cells], by simp [World.cell?, hb, RefS.cells], by simp [World.cell?, hb, RefS.cells], by simp [World.cell?, hb, RefS.cells], by simp [World.cell?, hb, RefS.cells]⟩
theorem BoxAt.free (h : BoxAt W bx A c B d M) (j : Nat) : W.frozen? ⟨bx, j, none⟩ = false := by simp [World.frozen?, h.blk]
theorem BoxAt.lt (h : BoxAt W bx A c B d M) : bx < W.heap.size := (Array.getElem?_eq_some_iff.1 h.blk).1
theorem BoxAt.only {S : List Nat} (h : BoxAt W bx A c B d M) (ho : Only [] W W') : BoxAt W' bx A c B d M := ⟨(ho.block bx h.lt (by simp)).trans h.blk, h.ref.only ho⟩
theorem BoxAt.ne_files {A' : Option Addr} {l : Files} (h : BoxAt W bx A c B d M) (ha : ArgAt W A' (fcells l)) : ∀ k, A' = some ⟨k, 0, none⟩ → fcells l ≠ [] → k ∉ [bx] := by
  rintro k rfl hne hk
  obtain rfl : k = bx := by simpa using hk
  cases l with
  | nil => exact hne rfl
  | cons p l =>
    obtain ⟨g, e, _, hc⟩ := ha 1 (.string p.2) rfl
    cases e
    have := h.cell.2.1
    rw [hc] at this
    cases this
theorem BoxAt.ne_rows {B' : Option Addr} {l : List Eff} (h : BoxAt W bx A c B d M) (ha : ArgAt W B' (effCells l)) : ∀ k, B' = some ⟨k, 0, none⟩ → effCells l ≠ [] → k ∉ [bx] := by
  rintro k rfl hne hk
  obtain rfl : k = bx := by simpa using hk
  cases l with
  | nil => exact hne rfl
  | cons e l =>
    obtain ⟨g, e1, _, hc⟩ := ha 1 (.string e.path) rfl
    cases e1
    have := h.cell.2.1
    rw [hc] at this
    cases this
/-- One of the box's cells is stored to. -/
theorem BoxAt.set (h : BoxAt W bx A c B d M) {A' B' : Option Addr} {c' d' : Nat} {M' : RefS} (j : Nat) (u : Value) (hc : (M.cells A c B d).set! j u = M'.cells A' c' B' d') (hl : ArgAt W A' (fcells M'.lies)) (hr : ArgAt W B' (effCells M'.rows)) :
    BoxAt (W.setCell ⟨bx, j, none⟩ u) bx A' c' B' d' M' ∧ Only [bx] W (W.setCell ⟨bx, j, none⟩ u) := by
  have ho : Only [bx] W (W.setCell ⟨bx, j, none⟩ u) := (Only.refl _ _).setCell (.inl (by simp)) _
  refine ⟨⟨?_, ArgAt.aside hl ho (h.ne_files hl), ArgAt.aside hr ho (h.ne_rows hr)⟩, ho⟩
  have := h.blk
  simp [World.setCell, Array.getElem?_modify, this]
  rw [← hc]
  simp [Array.set!_eq_setIfInBounds]
end
set_option maxHeartbeats 4000000 in
set_option maxRecDepth 100000 in
theorem rcall_any (M : RefS) (A : Option Addr) (c : Nat) (B : Option Addr) (d : Nat) (w : World) (hl : M.lies.length + M.rows.length ≤ 800000) (hk : 0 ≤ M.keep) (hk2 : M.keep < 18446744073709551616) (h0 : 0 ≤ M.left) (h1 : M.left ≤ 9223372036854775807) (ha : RefAt w A B M) :
    Calls Try.prog 56 #[.agg #[.int .i64 M.room, .slice A M.lies.length c, .slice B M.rows.length d, .bool M.down, .int .i64 M.at_, .int .u64 M.keep, .int .i64 M.left]] w (RCallPost M.call w) := by
  obtain ⟨room, lies, rows, dn, at_, kp, lf⟩ := M
  obtain ⟨r, hr⟩ : ∃ r, r = RefS.call ⟨room, lies, rows, dn, at_, kp, lf⟩ := ⟨_, rfl⟩
  rw [← hr]
  unfold RefS.call at hr
  simp only at hl h0 h1 hk hk2 hr ⊢
  have HR := hide hr
  clear hr
  have HA := hide ha
  clear ha
  by_cases hz : lf = 0
  · subst hz
    have hr := HR.out
    rw [if_pos rfl] at hr
    have HRr := hide hr
    clear hr HR
    go_enter Try.func56, Try.ntmps56
    go_wp2
    refine bodyPost_ret (v := .tuple #[.agg #[.int .i64 room, .slice A lies.length c, .slice B rows.length d, .bool dn, .int .i64 at_, .int .u64 kp, .int .i64 0], .bool false]) (by simp [results, Try.results56, go_sem]) rfl ?_
    rw [HRr.out]
    exact ⟨A, c, B, d, rfl, HA.out.only (((Only.refl _ _).alloc _).alloc _), ((Only.refl _ _).alloc _).alloc _⟩
  · have d0 : (lf == 0) = false := by simpa using hz
    by_cases hp : 0 < lf - 1
    · have hr := HR.out
      rw [if_neg hz, if_pos hp] at hr
      have HRr := hide hr
      clear hr HR hz
      go_enter Try.func56, Try.ntmps56
      go_wp2
      refine bodyPost_ret (v := .tuple #[.agg #[.int .i64 room, .slice A lies.length c, .slice B rows.length d, .bool dn, .int .i64 at_, .int .u64 kp, .int .i64 (lf - 1)], .bool false]) (by simp [results, Try.results56, go_sem]) rfl ?_
      rw [HRr.out]
      exact ⟨A, c, B, d, rfl, ⟨HA.out.lies.only (((Only.refl [] _).alloc _).alloc _) (by simp), HA.out.rows.only (((Only.refl [] _).alloc _).alloc _) (by simp)⟩, ((Only.refl _ _).alloc _).alloc _⟩
    · have hr := HR.out
      rw [if_neg hz, if_neg hp] at hr
      have HRr := hide hr
      obtain rfl : lf = 1 := by omega
      clear hr HR hz hp d0
      go_enter Try.func56, Try.ntmps56
      go_upto_region 6 with fail
      have hoB : Only [] w ((w.alloc (.cells #[.int .i64 room, .slice A lies.length c, .slice B rows.length d, .bool dn, .int .i64 at_, .int .u64 kp, .int .i64 0] 35)).alloc (.cells #[.int .i64 0, .slice none 0 0, .slice none 0 0, .bool false, .int .i64 0, .int .u64 0, .int .i64 0] 35)) := ((Only.refl [] w).alloc _).alloc _
      have htn := two_new w (.cells #[.int .i64 room, .slice A lies.length c, .slice B rows.length d, .bool dn, .int .i64 at_, .int .u64 kp, .int .i64 0] 35) (.cells #[.int .i64 0, .slice none 0 0, .slice none 0 0, .bool false, .int .i64 0, .int .u64 0, .int .i64 0] 35)
      have hlb : w.heap.size + 1 < ((w.alloc (.cells #[.int .i64 room, .slice A lies.length c, .slice B rows.length d, .bool dn, .int .i64 at_, .int .u64 kp, .int .i64 0] 35)).alloc (.cells #[.int .i64 0, .slice none 0 0, .slice none 0 0, .bool false, .int .i64 0, .int .u64 0, .int .i64 0] 35)).heap.size := by simp
      have HA2 := hide (HA.out.only hoB)
      have HBox : Hid (BoxAt ((w.alloc (.cells #[.int .i64 room, .slice A lies.length c, .slice B rows.length d, .bool dn, .int .i64 at_, .int .u64 kp, .int .i64 0] 35)).alloc (.cells #[.int .i64 0, .slice none 0 0, .slice none 0 0, .bool false, .int .i64 0, .int .u64 0, .int .i64 0] 35)) w.heap.size A c B d ⟨room, lies, rows, dn, at_, kp, 0⟩) := hide ⟨htn.1, ⟨HA2.out.lies, HA2.out.rows⟩⟩
      have HBy := hide htn.2
      have HOB := hide hoB
      have HSz : Hid (w.heap.size + 1 < ((w.alloc (.cells #[.int .i64 room, .slice A lies.length c, .slice B rows.length d, .bool dn, .int .i64 at_, .int .u64 kp, .int .i64 0] 35)).alloc (.cells #[.int .i64 0, .slice none 0 0, .slice none 0 0, .bool false, .int .i64 0, .int .u64 0, .int .i64 0] 35)).heap.size) := hide hlb
      have HNe : Hid (w.heap.size + 1 ≠ w.heap.size) := hide (by omega)
      have HLow : Hid (w.heap.size ≤ w.heap.size) := hide (Nat.le_refl _)
      have HLow2 : Hid (w.heap.size ≤ w.heap.size + 1) := hide (by omega)
      clear htn hoB hlb
      generalize (w.alloc (.cells #[.int .i64 room, .slice A lies.length c, .slice B rows.length d, .bool dn, .int .i64 at_, .int .u64 kp, .int .i64 0] 35)).alloc (.cells #[.int .i64 0, .slice none 0 0, .slice none 0 0, .bool false, .int .i64 0, .int .u64 0, .int .i64 0] 35) = w2 at *
      obtain ⟨yb, hyb⟩ : ∃ y, y = w.heap.size + 1 := ⟨_, rfl⟩
      rw [← hyb] at HBy HSz HNe HLow2 ⊢
      obtain ⟨bx, hbx⟩ : ∃ b, b = w.heap.size := ⟨_, rfl⟩
      have HLowB : Hid (w.heap.size ≤ bx) := hide (by omega)
      rw [← hbx] at HBox HNe ⊢
      clear hyb hbx HLow
      have HBylt := HSz
      have hkd : ∃ F, keptR lies (rows.take 64) kp.toNat = F := ⟨_, rfl⟩
      obtain ⟨F, hF⟩ := hkd
      have hst : keptR lies ((rows.take 64).drop 0) (kp.toNat / 2 ^ 0) = F := by simpa using hF
      have HST := hide hst
      have HF := hide hF
      clear hst hF
      have hN64 : (rows.take 64).length ≤ 64 := by rw [List.length_take]; omega
      go_wp2
      go_loopw [4] (fun v4 W => ∃ (i : Nat) (L : Files) (A3 : Option Addr) (c3 : Nat), i ≤ (rows.take 64).length ∧ v4 = .int .i64 i ∧ BoxAt W bx A3 c3 B d ⟨room, L, rows, dn, at_, kp, 0⟩ ∧ L.length ≤ lies.length + i ∧ keptR L ((rows.take 64).drop i) (kp.toNat / 2 ^ i) = F ∧ Only [bx] w2 W) (fun v4 _ => ((rows.take 64).length - intOf v4).toNat)
      case atStart => exact ⟨0, lies, A, c, by omega, rfl, HBox.out, by omega, HST.out, Only.refl _ _⟩
      case round =>
        clear HST HBox
        obtain ⟨i, L, A3, c3, hi, rfl, hB, hL, hFl, hOw⟩ := hrel
        have HB := hide hB
        have HOw := hide hOw
        obtain ⟨c0, c1, c2, cc3, c4, c5, c6⟩ := hB.cell
        have hk64 : (rows.take 64).length = min 64 rows.length := List.length_take
        have HK64 := hide hk64
        by_cases hlt : i < (rows.take 64).length
        · obtain ⟨e, he'⟩ : ∃ e, (rows.take 64)[i]? = some e := ⟨_, List.getElem?_eq_getElem hlt⟩
          have he : rows[i]? = some e := by
            rw [List.getElem?_take] at he'
            split at he'
            · exact he'
            · cases he'
          rw [keptR_step he'] at hFl
          obtain ⟨gb, rfl, hgb, k0, k1, k2⟩ := eff_row hB.ref.rows he
          have hx1 : i < rows.length := by omega
          have hi0 : (0 : Int) ≤ i := by omega
          have hi1 : (i : Int) < 64 := by omega
          have HD := hide (done_any L e A3 c3 wr.drew (by omega) (hB.ref.lies.only (Only.refl [] wr).drew (by simp)))
          have hLd := rDone_len L e
          have HLd := hide hLd
          have hbit := bit_at kp i hk hk2
          clear he he' hB hOw hk64 hLd HK64
          rcases (show kp.toNat / 2 ^ i % 2 = 1 ∨ kp.toNat / 2 ^ i % 2 = 0 by omega) with hb | hb
          · rw [hb] at hbit hFl
            simp only [if_true] at hFl
            have HFL := hide hFl
            have HL := hide hL
            clear hFl hb hL
            go_upto_region 10 with fail
            go_region_with (go_at_call 55; refine HD.out.mono ?_; rintro x w5 ⟨A5, c5, rfl, ha5, ho5⟩; have hB5 := HB.out.only (S := []) ((Only.refl [] wr).drew.trans ho5 (by simp)); have g1 := hB5.cell.2.1; have fr1 := hB5.free 1)
            all_goals
              have hs1 := hB5.set (A' := A5) (B' := some ⟨gb, 0, none⟩) (c' := c5) (d' := d) (M' := ⟨room, rDone L e, rows, dn, at_, kp, 0⟩) 1 (.slice A5 (rDone L e).length c5) (by simp [RefS.cells]) ha5 hB5.ref.rows
              have HS1 := hide hs1
              clear hs1 hbit
              go_wp2
              go_roundw
              case rel => exact ⟨i + 1, rDone L e, A5, c5, by omega, by go_num, HS1.out.1, by have := HLd.out; have := HL.out; omega, HFL.out, HOw.out.trans (((Only.refl [bx] wr).drew.trans ho5 (by simp)).trans HS1.out.2 (fun t h _ => h)) (fun t h _ => h)⟩
              case measure => simp [intOf]; omega
          · rw [hb] at hbit hFl
            simp only [Nat.zero_ne_one, if_false] at hFl
            have HFL := hide hFl
            have HL := hide hL
            clear hFl hb hL
            go_wp2
            go_roundw
            case rel => exact ⟨i + 1, L, A3, c3, by omega, by go_num, HB.out, by have := HL.out; omega, HFL.out, HOw.out⟩
            case measure => simp [intOf]; omega
        · have hFl' : F = L := by
            rw [List.drop_of_length_le (by omega)] at hFl
            exact hFl.symm
          have HFl := hide hFl'
          clear hFl hFl' hB hOw hL
          by_cases hx : i < rows.length
          · have hx2 : ¬ (i : Int) < 64 := by omega
            have d2 : decide ((i : Int) < 64) = false := by simpa using hx2
            clear hlt hN64
            go_upto_region 11 with fail
            have hs1 := HB.out.set (A' := A3) (B' := none) (c' := c3) (d' := 0) (M' := ⟨room, L, [], dn, at_, kp, 0⟩) 2 (.slice none 0 0) (by simp [RefS.cells]) HB.out.ref.lies (ArgAt.nil _ _)
            have hs2 := hs1.1.set (A' := A3) (B' := none) (c' := c3) (d' := 0) (M' := ⟨room, L, [], true, at_, kp, 0⟩) 3 (.bool true) (by simp [RefS.cells]) hs1.1.ref.lies (ArgAt.nil _ _)
            have f2 := HB.out.free 2
            have f3 := hs1.1.free 3
            have c3' := hs1.1.cell.2.2.2.1
            have HF2 := hide hs2.1
            have HOL := hide (HOw.out.trans (hs1.2.trans hs2.2 (fun t h _ => h)) (fun t h _ => h))
            clear hs1 hs2 hk64
            go_upto_region 13 with fail
            clear c0 c1 c2 cc3 c4 c5 c6 f2 f3 c3'
            generalize (wr.setCell ⟨bx, 2, none⟩ (.slice none 0 0)).setCell ⟨bx, 3, none⟩ (.bool true) = wf at *
            obtain ⟨c0, c1, c2, cc3, c4, c5, c6⟩ := HF2.out.cell
            have hbyw := (HOL.out.block yb HBylt.out (by simp; exact HNe.out)).trans HBy.out
            have z0 : wf.cell? ⟨yb, 0, none⟩ = some (.int .i64 0) := by simp [World.cell?, hbyw]
            have z1 : wf.cell? ⟨yb, 1, none⟩ = some (.slice none 0 0) := by simp [World.cell?, hbyw]
            have z2 : wf.cell? ⟨yb, 2, none⟩ = some (.slice none 0 0) := by simp [World.cell?, hbyw]
            have z3 : wf.cell? ⟨yb, 3, none⟩ = some (.bool false) := by simp [World.cell?, hbyw]
            have z4 : wf.cell? ⟨yb, 4, none⟩ = some (.int .i64 0) := by simp [World.cell?, hbyw]
            have z5 : wf.cell? ⟨yb, 5, none⟩ = some (.int .u64 0) := by simp [World.cell?, hbyw]
            have z6 : wf.cell? ⟨yb, 6, none⟩ = some (.int .i64 0) := by simp [World.cell?, hbyw]
            have fz : ∀ i, wf.frozen? ⟨yb, i, none⟩ = false := fun i => by simp [World.frozen?, hbyw]
            have f0 := fz 0
            have f1 := fz 1
            have f2 := fz 2
            have f3 := fz 3
            have f4 := fz 4
            have f5 := fz 5
            have f6 := fz 6
            have HBW := hide hbyw
            clear hbyw fz
            go_wp2
            have hBY : BoxAt wf yb none 0 none 0 ⟨0, [], [], false, 0, 0, 0⟩ := ⟨HBW.out, ArgAt.nil _ _, ArgAt.nil _ _⟩
            have hoZ : Only [yb] wf (((((((wf.setCell ⟨yb, 0, none⟩ (.int .i64 room)).setCell ⟨yb, 1, none⟩ (.slice A3 L.length c3)).setCell ⟨yb, 2, none⟩ (.slice none 0 0)).setCell ⟨yb, 3, none⟩ (.bool true)).setCell ⟨yb, 4, none⟩ (.int .i64 at_)).setCell ⟨yb, 5, none⟩ (.int .u64 kp)).setCell ⟨yb, 6, none⟩ (.int .i64 0)) :=
              (((((((Only.refl [yb] wf).setCell (.inl (by simp)) _).setCell (.inl (by simp)) _).setCell (.inl (by simp)) _).setCell (.inl (by simp)) _).setCell (.inl (by simp)) _).setCell (.inl (by simp)) _).setCell (.inl (by simp)) _
            have hbz : (((((((wf.setCell ⟨yb, 0, none⟩ (.int .i64 room)).setCell ⟨yb, 1, none⟩ (.slice A3 L.length c3)).setCell ⟨yb, 2, none⟩ (.slice none 0 0)).setCell ⟨yb, 3, none⟩ (.bool true)).setCell ⟨yb, 4, none⟩ (.int .i64 at_)).setCell ⟨yb, 5, none⟩ (.int .u64 kp)).setCell ⟨yb, 6, none⟩ (.int .i64 0)).heap[yb]? =
                some (.cells #[.int .i64 room, .slice A3 L.length c3, .slice none 0 0, .bool true, .int .i64 at_, .int .u64 kp, .int .i64 0] 35 (0, 0)) := by
              have := HBW.out
              simp [World.setCell, Array.getElem?_modify, this]
            have hal := ArgAt.aside HF2.out.ref.lies hoZ (hBY.ne_files HF2.out.ref.lies)
            generalize ((((((wf.setCell ⟨yb, 0, none⟩ (.int .i64 room)).setCell ⟨yb, 1, none⟩ (.slice A3 L.length c3)).setCell ⟨yb, 2, none⟩ (.slice none 0 0)).setCell ⟨yb, 3, none⟩ (.bool true)).setCell ⟨yb, 4, none⟩ (.int .i64 at_)).setCell ⟨yb, 5, none⟩ (.int .u64 kp)).setCell ⟨yb, 6, none⟩ (.int .i64 0) = wz at *
            have r0 : wz.cell? ⟨yb, 0, none⟩ = some (.int .i64 room) := by simp [World.cell?, hbz]
            have r1 : wz.cell? ⟨yb, 1, none⟩ = some (.slice A3 L.length c3) := by simp [World.cell?, hbz]
            have r2 : wz.cell? ⟨yb, 2, none⟩ = some (.slice none 0 0) := by simp [World.cell?, hbz]
            have r3 : wz.cell? ⟨yb, 3, none⟩ = some (.bool true) := by simp [World.cell?, hbz]
            have r4 : wz.cell? ⟨yb, 4, none⟩ = some (.int .i64 at_) := by simp [World.cell?, hbz]
            have r5 : wz.cell? ⟨yb, 5, none⟩ = some (.int .u64 kp) := by simp [World.cell?, hbz]
            have r6 : wz.cell? ⟨yb, 6, none⟩ = some (.int .i64 0) := by simp [World.cell?, hbz]
            refine bodyPost_ret (v := .tuple #[.agg #[.int .i64 room, .slice A3 L.length c3, .slice none 0 0, .bool true, .int .i64 at_, .int .u64 kp, .int .i64 0], .bool true]) (by simp [results, Try.results56, go_sem, r0, r1, r2, r3, r4, r5, r6]) rfl ?_
            have hkL : keptR lies (rows.take 64) kp.toNat = L := by rw [HF.out, HFl.out]
            rw [HRr.out, hkL]
            exact ⟨A3, c3, none, 0, rfl, ⟨hal, ArgAt.nil _ _⟩, (HOB.out.trans HOL.out (fun t ht hl => by have := HLowB.out; simp at ht; omega)).trans hoZ (fun t ht hl => by have := HLow2.out; simp at ht; omega)⟩
          · have hx1 : ¬ (i : Int) < rows.length := by omega
            have d1 : decide (i < rows.length) = false := by simpa using hx
            clear hlt hN64
            go_upto_region 11 with fail
            have hs1 := HB.out.set (A' := A3) (B' := none) (c' := c3) (d' := 0) (M' := ⟨room, L, [], dn, at_, kp, 0⟩) 2 (.slice none 0 0) (by simp [RefS.cells]) HB.out.ref.lies (ArgAt.nil _ _)
            have hs2 := hs1.1.set (A' := A3) (B' := none) (c' := c3) (d' := 0) (M' := ⟨room, L, [], true, at_, kp, 0⟩) 3 (.bool true) (by simp [RefS.cells]) hs1.1.ref.lies (ArgAt.nil _ _)
            have f2 := HB.out.free 2
            have f3 := hs1.1.free 3
            have c3' := hs1.1.cell.2.2.2.1
            have HF2 := hide hs2.1
            have HOL := hide (HOw.out.trans (hs1.2.trans hs2.2 (fun t h _ => h)) (fun t h _ => h))
            clear hs1 hs2 hk64
            go_upto_region 13 with fail
            clear c0 c1 c2 cc3 c4 c5 c6 f2 f3 c3'
            generalize (wr.setCell ⟨bx, 2, none⟩ (.slice none 0 0)).setCell ⟨bx, 3, none⟩ (.bool true) = wf at *
            obtain ⟨c0, c1, c2, cc3, c4, c5, c6⟩ := HF2.out.cell
            have hbyw := (HOL.out.block yb HBylt.out (by simp; exact HNe.out)).trans HBy.out
            have z0 : wf.cell? ⟨yb, 0, none⟩ = some (.int .i64 0) := by simp [World.cell?, hbyw]
            have z1 : wf.cell? ⟨yb, 1, none⟩ = some (.slice none 0 0) := by simp [World.cell?, hbyw]
            have z2 : wf.cell? ⟨yb, 2, none⟩ = some (.slice none 0 0) := by simp [World.cell?, hbyw]
            have z3 : wf.cell? ⟨yb, 3, none⟩ = some (.bool false) := by simp [World.cell?, hbyw]
            have z4 : wf.cell? ⟨yb, 4, none⟩ = some (.int .i64 0) := by simp [World.cell?, hbyw]
            have z5 : wf.cell? ⟨yb, 5, none⟩ = some (.int .u64 0) := by simp [World.cell?, hbyw]
            have z6 : wf.cell? ⟨yb, 6, none⟩ = some (.int .i64 0) := by simp [World.cell?, hbyw]
            have fz : ∀ i, wf.frozen? ⟨yb, i, none⟩ = false := fun i => by simp [World.frozen?, hbyw]
            have f0 := fz 0
            have f1 := fz 1
            have f2 := fz 2
            have f3 := fz 3
            have f4 := fz 4
            have f5 := fz 5
            have f6 := fz 6
            have HBW := hide hbyw
            clear hbyw fz
            go_wp2
            have hBY : BoxAt wf yb none 0 none 0 ⟨0, [], [], false, 0, 0, 0⟩ := ⟨HBW.out, ArgAt.nil _ _, ArgAt.nil _ _⟩
            have hoZ : Only [yb] wf (((((((wf.setCell ⟨yb, 0, none⟩ (.int .i64 room)).setCell ⟨yb, 1, none⟩ (.slice A3 L.length c3)).setCell ⟨yb, 2, none⟩ (.slice none 0 0)).setCell ⟨yb, 3, none⟩ (.bool true)).setCell ⟨yb, 4, none⟩ (.int .i64 at_)).setCell ⟨yb, 5, none⟩ (.int .u64 kp)).setCell ⟨yb, 6, none⟩ (.int .i64 0)) :=
              (((((((Only.refl [yb] wf).setCell (.inl (by simp)) _).setCell (.inl (by simp)) _).setCell (.inl (by simp)) _).setCell (.inl (by simp)) _).setCell (.inl (by simp)) _).setCell (.inl (by simp)) _).setCell (.inl (by simp)) _
            have hbz : (((((((wf.setCell ⟨yb, 0, none⟩ (.int .i64 room)).setCell ⟨yb, 1, none⟩ (.slice A3 L.length c3)).setCell ⟨yb, 2, none⟩ (.slice none 0 0)).setCell ⟨yb, 3, none⟩ (.bool true)).setCell ⟨yb, 4, none⟩ (.int .i64 at_)).setCell ⟨yb, 5, none⟩ (.int .u64 kp)).setCell ⟨yb, 6, none⟩ (.int .i64 0)).heap[yb]? =
                some (.cells #[.int .i64 room, .slice A3 L.length c3, .slice none 0 0, .bool true, .int .i64 at_, .int .u64 kp, .int .i64 0] 35 (0, 0)) := by
              have := HBW.out
              simp [World.setCell, Array.getElem?_modify, this]
            have hal := ArgAt.aside HF2.out.ref.lies hoZ (hBY.ne_files HF2.out.ref.lies)
            generalize ((((((wf.setCell ⟨yb, 0, none⟩ (.int .i64 room)).setCell ⟨yb, 1, none⟩ (.slice A3 L.length c3)).setCell ⟨yb, 2, none⟩ (.slice none 0 0)).setCell ⟨yb, 3, none⟩ (.bool true)).setCell ⟨yb, 4, none⟩ (.int .i64 at_)).setCell ⟨yb, 5, none⟩ (.int .u64 kp)).setCell ⟨yb, 6, none⟩ (.int .i64 0) = wz at *
            have r0 : wz.cell? ⟨yb, 0, none⟩ = some (.int .i64 room) := by simp [World.cell?, hbz]
            have r1 : wz.cell? ⟨yb, 1, none⟩ = some (.slice A3 L.length c3) := by simp [World.cell?, hbz]
            have r2 : wz.cell? ⟨yb, 2, none⟩ = some (.slice none 0 0) := by simp [World.cell?, hbz]
            have r3 : wz.cell? ⟨yb, 3, none⟩ = some (.bool true) := by simp [World.cell?, hbz]
            have r4 : wz.cell? ⟨yb, 4, none⟩ = some (.int .i64 at_) := by simp [World.cell?, hbz]
            have r5 : wz.cell? ⟨yb, 5, none⟩ = some (.int .u64 kp) := by simp [World.cell?, hbz]
            have r6 : wz.cell? ⟨yb, 6, none⟩ = some (.int .i64 0) := by simp [World.cell?, hbz]
            refine bodyPost_ret (v := .tuple #[.agg #[.int .i64 room, .slice A3 L.length c3, .slice none 0 0, .bool true, .int .i64 at_, .int .u64 kp, .int .i64 0], .bool true]) (by simp [results, Try.results56, go_sem, r0, r1, r2, r3, r4, r5, r6]) rfl ?_
            have hkL : keptR lies (rows.take 64) kp.toNat = L := by rw [HF.out, HFl.out]
            rw [HRr.out, hkL]
            exact ⟨A3, c3, none, 0, rfl, ⟨hal, ArgAt.nil _ _⟩, (HOB.out.trans HOL.out (fun t ht hl => by have := HLowB.out; simp at ht; omega)).trans hoZ (fun t ht hl => by have := HLow2.out; simp at ht; omega)⟩
end Go.Proofs.Ytljkaafdajpmkaa
