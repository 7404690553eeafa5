/- The reference's disk: a sync. -/
import Derived.Test.YtljkaafdajpmkaaRkCall
namespace Go.Proofs.Ytljkaafdajpmkaa
open Go.RowKit
set_option linter.unusedVariables false

theorem put_ref {wf : World} {yb : Nat} (hb : wf.heap[yb]? = some (.cells #[.int .i64 0, .slice none 0 0, .slice none 0 0, .bool false, .int .i64 0, .int .u64 0, .int .i64 0] 35 (0, 0))) (v0 v1 v2 v3 v4 v5 v6 : Value) :
    (((((((wf.setCell ⟨yb, 0, none⟩ v0).setCell ⟨yb, 1, none⟩ v1).setCell ⟨yb, 2, none⟩ v2).setCell ⟨yb, 3, none⟩ v3).setCell ⟨yb, 4, none⟩ v4).setCell ⟨yb, 5, none⟩ v5).setCell ⟨yb, 6, none⟩ v6).heap[yb]? = some (.cells #[v0, v1, v2, v3, v4, v5, v6] 35 (0, 0)) ∧
    Only [yb] wf (((((((wf.setCell ⟨yb, 0, none⟩ v0).setCell ⟨yb, 1, none⟩ v1).setCell ⟨yb, 2, none⟩ v2).setCell ⟨yb, 3, none⟩ v3).setCell ⟨yb, 4, none⟩ v4).setCell ⟨yb, 5, none⟩ v5).setCell ⟨yb, 6, none⟩ v6) :=
  ⟨by simp [World.setCell, Array.getElem?_modify, hb], (((((((Only.refl [yb] wf).setCell (.inl (by simp)) _).setCell (.inl (by simp)) _).setCell (.inl (by simp)) _).setCell (.inl (by simp)) _).setCell (.inl (by simp)) _).setCell (.inl (by simp)) _).setCell (.inl (by simp)) _⟩
structure SevenCells (wz : World) (yb : Nat) (v0 v1 v2 v3 v4 v5 v6 : Value) : Prop where
  r0 : wz.cell? ⟨yb, 0, none⟩ = some v0
  r1 : wz.cell? ⟨yb, 1, none⟩ = some v1
  r2 : wz.cell? ⟨yb, 2, none⟩ = some v2
  r3 : wz.cell? ⟨yb, 3, none⟩ = some v3
  r4 : wz.cell? ⟨yb, 4, none⟩ = some v4
  r5 : wz.cell? ⟨yb, 5, none⟩ = some v5
  r6 : wz.cell? ⟨yb, 6, none⟩ = some v6
theorem seven_of {wz : World} {yb : Nat} {v0 v1 v2 v3 v4 v5 v6 : Value} (h : wz.heap[yb]? = some (.cells #[v0, v1, v2, v3, v4, v5, v6] 35 (0, 0))) : SevenCells wz yb v0 v1 v2 v3 v4 v5 v6 :=
  ⟨by simp [World.cell?, h], by simp [World.cell?, h], by simp [World.cell?, h], by simp [World.cell?, h], by simp [World.cell?, h], by simp [World.cell?, h], by simp [World.cell?, h]⟩
theorem zero_box {W : World} {yb : Nat} (hb : W.heap[yb]? = some (.cells #[.int .i64 0, .slice none 0 0, .slice none 0 0, .bool false, .int .i64 0, .int .u64 0, .int .i64 0] 35 (0, 0))) : BoxAt W yb none 0 none 0 ⟨0, [], [], false, 0, 0, 0⟩ := ⟨hb, ArgAt.nil _ _, ArgAt.nil _ _⟩
/-- The disk's parts stay where they are while a box is written. -/
theorem BoxAt.past {W W' : World} {yb : Nat} {A B A' B' : Option Addr} {c d : Nat} {M M' : RefS} (h : BoxAt W yb A c B d M) (ho : Only [yb] W W') (hr : RefAt W A' B' M') : RefAt W' A' B' M' :=
  ⟨ArgAt.aside hr.lies ho (h.ne_files hr.lies), ArgAt.aside hr.rows ho (h.ne_rows hr.rows)⟩
def ROpPost (r : RefS × Int) (w : World) (e : Ending) (w' : World) : Prop :=
  ∃ A c B d, e = .returned (.tuple #[.agg #[.int .i64 r.1.room, .slice A r.1.lies.length c, .slice B r.1.rows.length d, .bool r.1.down, .int .i64 r.1.at_, .int .u64 r.1.keep, .int .i64 r.1.left], .int .i64 r.2]) ∧ RefAt w' A B r.1 ∧ Only [] w w'
def RefS.sync (M : RefS) : RefS × Int :=
  if M.down then (M, 8) else if M.call.2 then (M.call.1, 8) else ({ M.call.1 with lies := rSeen M.lies M.rows, rows := [] }, 0)
set_option maxHeartbeats 4000000 in
set_option maxRecDepth 100000 in
theorem rsync_any (M : RefS) (A : Option Addr) (c : Nat) (B : Option Addr) (d : Nat) (w : World) (hl : M.lies.length + M.rows.length ≤ 800000) (hk : 0 ≤ M.keep) (hk2 : M.keep < 18446744073709551616) (h0 : 0 ≤ M.left) (h1 : M.left ≤ 9223372036854775807) (ha : RefAt w A B M) :
    Calls Try.prog 18 #[.agg #[.int .i64 M.room, .slice A M.lies.length c, .slice B M.rows.length d, .bool M.down, .int .i64 M.at_, .int .u64 M.keep, .int .i64 M.left]] w (ROpPost M.sync w) := by
  obtain ⟨r, hr⟩ : ∃ r, r = RefS.sync M := ⟨_, rfl⟩
  rw [← hr]
  unfold RefS.sync at hr
  have HA := hide ha
  clear ha
  obtain ⟨b, f, hbf⟩ : ∃ b f, M.call = (b, f) := ⟨_, _, rfl⟩
  rw [hbf] at hr
  have hcall := hide (fun W (h : RefAt W A B M) => rcall_any M A c B d W hl hk hk2 h0 h1 h)
  have hseen := hide (fun W (h : RefAt W A B M) => seen_any M A c B d W hl h)
  rw [hbf] at hcall
  obtain ⟨F, hF⟩ : ∃ F, rSeen M.lies M.rows = F := ⟨_, rfl⟩
  rw [hF] at hr hseen
  clear hbf hF
  obtain ⟨room, lies, rows, dn, at_, kp, lf⟩ := M
  simp only at hl h0 h1 hk hk2 hr ⊢
  simp only at hcall hseen
  have HR := hide hr
  clear hr hl hk hk2 h0 h1
  cases dn with
  | true =>
    have hr := HR.out
    rw [if_pos rfl] at hr
    have HRr := hide hr
    clear hr HR
    go_enter Try.func18, Try.ntmps18
    go_wp2
    refine bodyPost_ret (v := .tuple #[.agg #[.int .i64 room, .slice A lies.length c, .slice B rows.length d, .bool true, .int .i64 at_, .int .u64 kp, .int .i64 lf], .int .i64 8]) (by simp [results, Try.results18, go_sem]) rfl ?_
    rw [HRr.out]
    exact ⟨A, c, B, d, rfl, HA.out.only (((Only.refl _ _).alloc _).alloc _), ((Only.refl _ _).alloc _).alloc _⟩
  | false =>
    have hr := HR.out
    simp only [Bool.false_eq_true, if_false] at hr
    have HR1 := hide hr
    clear hr HR
    go_enter Try.func18, Try.ntmps18
    go_upto_region 3 with fail
    have hoB : Only [] w ((w.alloc (.cells #[.int .i64 room, .slice A lies.length c, .slice B rows.length d, .bool false, .int .i64 at_, .int .u64 kp, .int .i64 lf] 35)).alloc (.cells #[.int .i64 0, .slice none 0 0, .slice none 0 0, .bool false, .int .i64 0, .int .u64 0, .int .i64 0] 35)) := ((Only.refl [] w).alloc _).alloc _
    have htn := two_new w (.cells #[.int .i64 room, .slice A lies.length c, .slice B rows.length d, .bool false, .int .i64 at_, .int .u64 kp, .int .i64 lf] 35) (.cells #[.int .i64 0, .slice none 0 0, .slice none 0 0, .bool false, .int .i64 0, .int .u64 0, .int .i64 0] 35)
    have hlb : w.heap.size + 1 < ((w.alloc (.cells #[.int .i64 room, .slice A lies.length c, .slice B rows.length d, .bool false, .int .i64 at_, .int .u64 kp, .int .i64 lf] 35)).alloc (.cells #[.int .i64 0, .slice none 0 0, .slice none 0 0, .bool false, .int .i64 0, .int .u64 0, .int .i64 0] 35)).heap.size := by simp
    have HA2 := hide (HA.out.only hoB)
    have HBox : Hid (BoxAt ((w.alloc (.cells #[.int .i64 room, .slice A lies.length c, .slice B rows.length d, .bool false, .int .i64 at_, .int .u64 kp, .int .i64 lf] 35)).alloc (.cells #[.int .i64 0, .slice none 0 0, .slice none 0 0, .bool false, .int .i64 0, .int .u64 0, .int .i64 0] 35)) w.heap.size A c B d ⟨room, lies, rows, false, at_, kp, lf⟩) := hide ⟨htn.1, HA2.out⟩
    have HBy := hide htn.2
    have HOB := hide hoB
    have HSz : Hid (w.heap.size + 1 < ((w.alloc (.cells #[.int .i64 room, .slice A lies.length c, .slice B rows.length d, .bool false, .int .i64 at_, .int .u64 kp, .int .i64 lf] 35)).alloc (.cells #[.int .i64 0, .slice none 0 0, .slice none 0 0, .bool false, .int .i64 0, .int .u64 0, .int .i64 0] 35)).heap.size) := hide hlb
    have HLow2 : Hid (w.heap.size ≤ w.heap.size + 1) := hide (by omega)
    clear htn hoB hlb
    generalize (w.alloc (.cells #[.int .i64 room, .slice A lies.length c, .slice B rows.length d, .bool false, .int .i64 at_, .int .u64 kp, .int .i64 lf] 35)).alloc (.cells #[.int .i64 0, .slice none 0 0, .slice none 0 0, .bool false, .int .i64 0, .int .u64 0, .int .i64 0] 35) = w2 at *
    obtain ⟨yb, hyb⟩ : ∃ y, y = w.heap.size + 1 := ⟨_, rfl⟩
    rw [← hyb] at HBy HSz HLow2 ⊢
    obtain ⟨bx, hbx⟩ : ∃ b, b = w.heap.size := ⟨_, rfl⟩
    rw [← hbx] at HBox ⊢
    clear hyb hbx
    obtain ⟨c0, c1, c2, cc3, c4, c5, c6⟩ := HBox.out.cell
    go_upto_region 4 with (go_at_call 56; refine (hcall.out _ HA2.out).mono ?_; rintro e w3 ⟨A3, c3, B3, d3, rfl, hr3, ho3⟩)
    obtain ⟨room3, lies3, rows3, dn3, at3, kp3, lf3⟩ := b
    simp only at hr3 ⊢
    have hoA := (Only.refl [] w3).alloc (.cells #[.int .i64 room3, .slice A3 lies3.length c3, .slice B3 rows3.length d3, .bool dn3, .int .i64 at3, .int .u64 kp3, .int .i64 lf3] 35)
    have HTb : Hid (BoxAt _ w3.heap.size A3 c3 B3 d3 ⟨room3, lies3, rows3, dn3, at3, kp3, lf3⟩) := hide ⟨heap_alloc_new w3 (.cells #[.int .i64 room3, .slice A3 lies3.length c3, .slice B3 rows3.length d3, .bool dn3, .int .i64 at3, .int .u64 kp3, .int .i64 lf3] 35), hr3.only hoA⟩
    have HO4 := hide (ho3.trans hoA (by simp))
    have HB4 := hide (HBox.out.only (S := []) HO4.out)
    have HY4 := hide ((HO4.out.block yb HSz.out (by simp)).trans HBy.out)
    have HOW4 := hide (HOB.out.trans HO4.out (by simp))
    have HYt : Hid (¬ yb = w3.heap.size) := hide (by have := HSz.out; have := ho3.size; omega)
    have HTl : Hid (w.heap.size ≤ w3.heap.size) := hide (HOB.out.trans ho3 (by simp)).size
    clear hoA hr3 ho3 c0 c1 c2 cc3 c4 c5 c6
    generalize w3.alloc (.cells #[.int .i64 room3, .slice A3 lies3.length c3, .slice B3 rows3.length d3, .bool dn3, .int .i64 at3, .int .u64 kp3, .int .i64 lf3] 35) = w4 at *
    generalize w3.heap.size = tb at *
    cases f with
    | true =>
      have hr := HR1.out
      rw [if_pos rfl] at hr
      have HRr := hide hr
      clear hr HR1
      obtain ⟨c0, c1, c2, cc3, c4, c5, c6⟩ := HTb.out.cell
      have z0 : w4.cell? ⟨yb, 0, none⟩ = some (.int .i64 0) := (zero_box HY4.out).cell.1
      have z1 : w4.cell? ⟨yb, 1, none⟩ = some (.slice none 0 0) := (zero_box HY4.out).cell.2.1
      have z2 : w4.cell? ⟨yb, 2, none⟩ = some (.slice none 0 0) := (zero_box HY4.out).cell.2.2.1
      have z3 : w4.cell? ⟨yb, 3, none⟩ = some (.bool false) := (zero_box HY4.out).cell.2.2.2.1
      have z4 : w4.cell? ⟨yb, 4, none⟩ = some (.int .i64 0) := (zero_box HY4.out).cell.2.2.2.2.1
      have z5 : w4.cell? ⟨yb, 5, none⟩ = some (.int .u64 0) := (zero_box HY4.out).cell.2.2.2.2.2.1
      have z6 : w4.cell? ⟨yb, 6, none⟩ = some (.int .i64 0) := (zero_box HY4.out).cell.2.2.2.2.2.2
      have fz0 := (zero_box HY4.out).free 0
      have fz1 := (zero_box HY4.out).free 1
      have fz2 := (zero_box HY4.out).free 2
      have fz3 := (zero_box HY4.out).free 3
      have fz4 := (zero_box HY4.out).free 4
      have fz5 := (zero_box HY4.out).free 5
      have fz6 := (zero_box HY4.out).free 6
      have hpz := put_ref HY4.out (.int .i64 room3) (.slice A3 lies3.length c3) (.slice B3 rows3.length d3) (.bool dn3) (.int .i64 at3) (.int .u64 kp3) (.int .i64 lf3)
      have hrz := (zero_box HY4.out).past hpz.2 HTb.out.ref
      have hoz : Only [] w _ := HOW4.out.trans hpz.2 (fun t ht hl => by have := HLow2.out; simp at ht; omega)
      have HRZ := hide hrz
      have HOZ := hide hoz
      have hsv := seven_of hpz.1
      clear hpz hrz hoz
      go_wp2
      generalize (((((((w4).setCell ⟨yb, 0, none⟩ (.int .i64 room3)).setCell ⟨yb, 1, none⟩ (.slice A3 lies3.length c3)).setCell ⟨yb, 2, none⟩ (.slice B3 rows3.length d3)).setCell ⟨yb, 3, none⟩ (.bool dn3)).setCell ⟨yb, 4, none⟩ (.int .i64 at3)).setCell ⟨yb, 5, none⟩ (.int .u64 kp3)).setCell ⟨yb, 6, none⟩ (.int .i64 lf3) = wz at *
      obtain ⟨r0, r1, r2, r3, r4, r5, r6⟩ := hsv
      refine bodyPost_ret (v := .tuple #[.agg #[.int .i64 room3, .slice A3 lies3.length c3, .slice B3 rows3.length d3, .bool dn3, .int .i64 at3, .int .u64 kp3, .int .i64 lf3], .int .i64 8]) (by simp [results, Try.results18, go_sem, r0, r1, r2, r3, r4, r5, r6]) rfl ?_
      rw [HRr.out]
      exact ⟨A3, c3, B3, d3, rfl, HRZ.out, HOZ.out⟩
    | false =>
      have hr := HR1.out
      simp only [Bool.false_eq_true, if_false] at hr
      have HRr := hide hr
      clear hr HR1
      obtain ⟨c0, c1, c2, cc3, c4, c5, c6⟩ := HB4.out.cell
      have HS := hide (hseen.out _ HB4.out.ref)
      go_upto_region 7 with (go_at_call 21; refine HS.out.mono ?_; rintro e w5 ⟨A5, c5', rfl, ha5, ho5⟩; have HT5 := hide (HTb.out.only (S := []) ho5); have g1 := HT5.out.cell.2.1; have fr1 := HT5.out.free 1)
      have hs1 := HT5.out.set (A' := A5) (B' := B3) (c' := c5') (d' := d3) (M' := ⟨room3, F, rows3, dn3, at3, kp3, lf3⟩) 1 (.slice A5 F.length c5') (by simp [RefS.cells]) ha5 HT5.out.ref.rows
      have hs2 := hs1.1.set (A' := A5) (B' := none) (c' := c5') (d' := 0) (M' := ⟨room3, F, [], dn3, at3, kp3, lf3⟩) 2 (.slice none 0 0) (by simp [RefS.cells]) hs1.1.ref.lies (ArgAt.nil _ _)
      have g2 := hs1.1.cell.2.2.1
      have fr2 := hs1.1.free 2
      have HS2 := hide hs2.1
      have hot : Only [tb] w5 _ := hs1.2.trans hs2.2 (fun t h _ => h)
      have HOT := hide hot
      have hyt := HYt.out
      have HO5 := hide ho5
      clear hs1 hs2 hot c0 c1 c2 cc3 c4 c5 c6 g1 fr1 ho5 ha5
      go_upto_region 8 with fail
      clear g2 fr2
      generalize (w5.setCell ⟨tb, 1, none⟩ (.slice A5 F.length c5')).setCell ⟨tb, 2, none⟩ (.slice none 0 0) = wf at *
      have HYf := hide ((HOT.out.block yb (Nat.lt_of_lt_of_le (zero_box HY4.out).lt HO5.out.size) (by simpa using hyt)).trans ((HO5.out.block yb (zero_box HY4.out).lt (by simp)).trans HY4.out))
      have HOf := hide ((HOW4.out.trans HO5.out (by simp)).trans HOT.out (fun t ht hl => by have := HTl.out; simp at ht; omega))
      obtain ⟨c0, c1, c2, cc3, c4, c5, c6⟩ := HS2.out.cell
      clear hyt
      have z0 : wf.cell? ⟨yb, 0, none⟩ = some (.int .i64 0) := (zero_box HYf.out).cell.1
      have z1 : wf.cell? ⟨yb, 1, none⟩ = some (.slice none 0 0) := (zero_box HYf.out).cell.2.1
      have z2 : wf.cell? ⟨yb, 2, none⟩ = some (.slice none 0 0) := (zero_box HYf.out).cell.2.2.1
      have z3 : wf.cell? ⟨yb, 3, none⟩ = some (.bool false) := (zero_box HYf.out).cell.2.2.2.1
      have z4 : wf.cell? ⟨yb, 4, none⟩ = some (.int .i64 0) := (zero_box HYf.out).cell.2.2.2.2.1
      have z5 : wf.cell? ⟨yb, 5, none⟩ = some (.int .u64 0) := (zero_box HYf.out).cell.2.2.2.2.2.1
      have z6 : wf.cell? ⟨yb, 6, none⟩ = some (.int .i64 0) := (zero_box HYf.out).cell.2.2.2.2.2.2
      have fz0 := (zero_box HYf.out).free 0
      have fz1 := (zero_box HYf.out).free 1
      have fz2 := (zero_box HYf.out).free 2
      have fz3 := (zero_box HYf.out).free 3
      have fz4 := (zero_box HYf.out).free 4
      have fz5 := (zero_box HYf.out).free 5
      have fz6 := (zero_box HYf.out).free 6
      have hpz := put_ref HYf.out (.int .i64 room3) (.slice A5 F.length c5') (.slice none 0 0) (.bool dn3) (.int .i64 at3) (.int .u64 kp3) (.int .i64 lf3)
      have hrz := (zero_box HYf.out).past hpz.2 HS2.out.ref
      have hoz : Only [] w _ := HOf.out.trans hpz.2 (fun t ht hl => by have := HLow2.out; simp at ht; omega)
      have HRZ := hide hrz
      have HOZ := hide hoz
      have hsv := seven_of hpz.1
      clear hpz hrz hoz
      go_wp2
      generalize (((((((wf).setCell ⟨yb, 0, none⟩ (.int .i64 room3)).setCell ⟨yb, 1, none⟩ (.slice A5 F.length c5')).setCell ⟨yb, 2, none⟩ (.slice none 0 0)).setCell ⟨yb, 3, none⟩ (.bool dn3)).setCell ⟨yb, 4, none⟩ (.int .i64 at3)).setCell ⟨yb, 5, none⟩ (.int .u64 kp3)).setCell ⟨yb, 6, none⟩ (.int .i64 lf3) = wz at *
      obtain ⟨r0, r1, r2, r3, r4, r5, r6⟩ := hsv
      refine bodyPost_ret (v := .tuple #[.agg #[.int .i64 room3, .slice A5 F.length c5', .slice none 0 0, .bool dn3, .int .i64 at3, .int .u64 kp3, .int .i64 lf3], .int .i64 0]) (by simp [results, Try.results18, go_sem, r0, r1, r2, r3, r4, r5, r6]) rfl ?_
      rw [HRr.out]
      exact ⟨A5, c5', none, 0, rfl, HRZ.out, HOZ.out⟩
end Go.Proofs.Ytljkaafdajpmkaa
