/- The reference's disk: an effect comes. -/
import Derived.Test.YtljkaafdajpmkaaRkSync
import Derived.Deep.RegionLawGrows
namespace Go.Proofs.Ytljkaafdajpmkaa
open Go.RowKit
set_option linter.unusedVariables false

theorem three_new (w : World) (o1 o2 o3 : Obj) : (((w.alloc o1).alloc o2).alloc o3).heap[w.heap.size]? = some o1 ∧ (((w.alloc o1).alloc o2).alloc o3).heap[w.heap.size + 1]? = some o2 ∧ (((w.alloc o1).alloc o2).alloc o3).heap[w.heap.size + 2]? = some o3 := by
  have h := two_new w o1 o2
  refine ⟨(Below.heap_alloc _ o3 _ (by simp; omega)).trans h.1, (Below.heap_alloc _ o3 _ (by simp)).trans h.2, ?_⟩
  have := heap_alloc_new ((w.alloc o1).alloc o2) o3
  simpa using this
theorem eff_cells {W : World} {ex : Nat} {k : Int} {p t : ByteArray} (h : W.heap[ex]? = some (.cells #[.int .i64 k, .string p, .string t] 46 (0, 0))) :
    W.cell? ⟨ex, 0, none⟩ = some (.int .i64 k) ∧ W.cell? ⟨ex, 1, none⟩ = some (.string p) ∧ W.cell? ⟨ex, 2, none⟩ = some (.string t) := ⟨by simp [World.cell?, h], by simp [World.cell?, h], by simp [World.cell?, h]⟩
theorem infoREff : (Try.prog.info? 46).map (fun i => (i.zero, i.size, i.bytes)) = some (some (.agg #[.int .i64 0, .string ⟨#[]⟩, .string ⟨#[]⟩]), 3, 40) := by kernel_rfl
theorem effCells_one (l : List Eff) : ∀ u ∈ effCells l, u.oneCell' = true := by
  intro u hu
  obtain ⟨p, _, h⟩ := List.mem_flatMap.1 hu
  simp [Eff.cells] at h
  rcases h with rfl | rfl | rfl <;> rfl
/-- One more row stands in the box. -/
def MoreSt (w6 W : World) (bx : Nat) (A : Option Addr) (c : Nat) (M : RefS) : Prop := ∃ A8 c8, BoxAt W bx A c A8 c8 M ∧ Only [bx] w6 W
def RefS.wrong (M : RefS) (e : Eff) : Int :=
  if M.down then 8 else
  if (e.kind = 1 ∧ pathOk e.path = false) ∨ (e.kind = 2 ∧ pathOk e.text = false) then 12 else
  if e.kind ≠ 1 ∧ (mget (rSeen M.lies M.rows) e.path).isSome = false then 5 else
  if e.kind ≠ 3 ∧ (4096 < (rDone (rSeen M.lies M.rows) e).length ∨ M.room < tookOf (rDone (rSeen M.lies M.rows) e)) then 7 else 0
def RefS.more (M : RefS) (e : Eff) : RefS := { M with rows := M.rows ++ [e] }
def RefS.doing (M : RefS) (e : Eff) : RefS × Int :=
  if M.wrong e = 0 then ((M.more e).call.1, if (M.more e).call.2 then 8 else 0) else (M, M.wrong e)
set_option maxHeartbeats 8000000 in
set_option maxRecDepth 100000 in
theorem rdo_any (M : RefS) (e : Eff) (A : Option Addr) (c : Nat) (B : Option Addr) (d : Nat) (w : World) (hl : M.lies.length + M.rows.length ≤ 700000) (hk : 0 ≤ M.keep) (hk2 : M.keep < 18446744073709551616) (h0 : 0 ≤ M.left) (h1 : M.left ≤ 9223372036854775807)
    (hr1 : M.room ≤ 9223372036854775807) (hkd : e.kind = 1 ∨ e.kind = 2 ∨ e.kind = 3) (hps : e.path.size ≤ 1000000) (hts : e.text.size ≤ 1000000) (htk : tookOf (rDone (rSeen M.lies M.rows) e) ≤ 1000000) (ha : RefAt w A B M) :
    Calls Try.prog 17 #[.agg #[.int .i64 M.room, .slice A M.lies.length c, .slice B M.rows.length d, .bool M.down, .int .i64 M.at_, .int .u64 M.keep, .int .i64 M.left], .agg #[.int .i64 e.kind, .string e.path, .string e.text]] w (ROpPost (M.doing e) w) := by
  obtain ⟨r, hr⟩ : ∃ r, r = M.doing e := ⟨_, rfl⟩
  rw [← hr]
  have HA := hide ha
  clear ha
  have hseen := hide (fun W (h : RefAt W A B M) => seen_any M A c B d W (by omega) h)
  have hslen := rSeen_len M.rows M.lies
  have hdlen := rDone_len (rSeen M.lies M.rows) e
  have hcall := hide (fun (B' : Option Addr) (d' : Nat) W (h : RefAt W A B' (M.more e)) => rcall_any (M.more e) A c B' d' W (by simp [RefS.more]; omega) hk hk2 h0 h1 h)
  unfold RefS.doing RefS.wrong at hr
  obtain ⟨F, hF⟩ : ∃ F, rSeen M.lies M.rows = F := ⟨_, rfl⟩
  rw [hF] at hr hseen htk hslen hdlen
  have hfind := hide (fun (A' : Option Addr) (c' : Nat) W (h : ArgAt W A' (fcells F)) => find_any F e.path A' c' W (by omega) h)
  have hdone := hide (fun (A' : Option Addr) (c' : Nat) W (h : ArgAt W A' (fcells F)) => done_any F e A' c' W (by omega) h)
  have htaken := hide (fun (A' : Option Addr) (c' : Nat) W (h : ArgAt W A' (fcells (rDone F e))) => rtaken_any (rDone F e) A' c' W (by omega) htk h)
  have hp1 := hide (fun W => rpath_any e.path W (by omega))
  have hp2 := hide (fun W => rpath_any e.text W (by omega))
  have hFl : F.length ≤ 700000 := by omega
  have hNl : (rDone F e).length ≤ 700001 := by omega
  obtain ⟨N, hN⟩ : ∃ N, rDone F e = N := ⟨_, rfl⟩
  rw [hN] at hr hdone htaken hNl htk
  obtain ⟨bf, f, hbf⟩ : ∃ b f, (M.more e).call = (b, f) := ⟨_, _, rfl⟩
  rw [hbf] at hr hcall
  clear hF hslen hdlen hN hbf
  obtain ⟨room, lies, rows, dn, at_, kp, lf⟩ := M
  obtain ⟨k, p, t⟩ := e
  simp only [RefS.more] at hl h0 h1 hk hk2 hr hr1 hkd hps hts hcall hseen hfind hdone hp1 hp2 ⊢
  have HR := hide hr
  have HKD := hide hkd
  clear hr hk hk2 h0 h1 hkd hps hts
  cases dn with
  | true =>
    have hr := HR.out
    simp only [if_true] at hr
    have HRr := hide hr
    clear hr HR
    go_enter Try.func17, Try.ntmps17
    go_wp2
    refine bodyPost_ret (v := .tuple #[.agg #[.int .i64 room, .slice A lies.length c, .slice B rows.length d, .bool true, .int .i64 at_, .int .u64 kp, .int .i64 lf], .int .i64 8]) (by simp [results, Try.results17, go_sem]) rfl ?_
    rw [HRr.out]
    exact ⟨A, c, B, d, rfl, HA.out.only ((((Only.refl [] _).alloc _).alloc _).alloc _), (((Only.refl _ _).alloc _).alloc _).alloc _⟩
  | false =>
    simp only [Bool.false_eq_true, if_false] at HR
    go_enter Try.func17, Try.ntmps17
    go_upto_region 3 with fail
    have hoB : Only [] w (((w.alloc (.cells #[.int .i64 room, .slice A lies.length c, .slice B rows.length d, .bool false, .int .i64 at_, .int .u64 kp, .int .i64 lf] 35)).alloc (.cells #[.int .i64 k, .string p, .string t] 46)).alloc (.cells #[.int .i64 0, .slice none 0 0, .slice none 0 0, .bool false, .int .i64 0, .int .u64 0, .int .i64 0] 35)) := (((Only.refl [] w).alloc _).alloc _).alloc _
    have htn := three_new w (.cells #[.int .i64 room, .slice A lies.length c, .slice B rows.length d, .bool false, .int .i64 at_, .int .u64 kp, .int .i64 lf] 35) (.cells #[.int .i64 k, .string p, .string t] 46) (.cells #[.int .i64 0, .slice none 0 0, .slice none 0 0, .bool false, .int .i64 0, .int .u64 0, .int .i64 0] 35)
    have hlb : w.heap.size + 2 < (((w.alloc (.cells #[.int .i64 room, .slice A lies.length c, .slice B rows.length d, .bool false, .int .i64 at_, .int .u64 kp, .int .i64 lf] 35)).alloc (.cells #[.int .i64 k, .string p, .string t] 46)).alloc (.cells #[.int .i64 0, .slice none 0 0, .slice none 0 0, .bool false, .int .i64 0, .int .u64 0, .int .i64 0] 35)).heap.size := by simp
    have HA2 := hide (HA.out.only hoB)
    have HBox : Hid (BoxAt (((w.alloc (.cells #[.int .i64 room, .slice A lies.length c, .slice B rows.length d, .bool false, .int .i64 at_, .int .u64 kp, .int .i64 lf] 35)).alloc (.cells #[.int .i64 k, .string p, .string t] 46)).alloc (.cells #[.int .i64 0, .slice none 0 0, .slice none 0 0, .bool false, .int .i64 0, .int .u64 0, .int .i64 0] 35)) w.heap.size A c B d ⟨room, lies, rows, false, at_, kp, lf⟩) := hide ⟨htn.1, HA2.out⟩
    have HEx := hide htn.2.1
    have HBy := hide htn.2.2
    have HOB := hide hoB
    have HSz : Hid (w.heap.size + 2 < (((w.alloc (.cells #[.int .i64 room, .slice A lies.length c, .slice B rows.length d, .bool false, .int .i64 at_, .int .u64 kp, .int .i64 lf] 35)).alloc (.cells #[.int .i64 k, .string p, .string t] 46)).alloc (.cells #[.int .i64 0, .slice none 0 0, .slice none 0 0, .bool false, .int .i64 0, .int .u64 0, .int .i64 0] 35)).heap.size) := hide hlb
    have HLow2 : Hid (w.heap.size ≤ w.heap.size + 2) := hide (by omega)
    have HLow1 : Hid (w.heap.size ≤ w.heap.size) := hide (Nat.le_refl _)
    have HNeY : Hid (w.heap.size + 2 ≠ w.heap.size ∧ w.heap.size + 1 ≠ w.heap.size) := hide (by omega)
    have HExl : Hid (w.heap.size + 1 < (((w.alloc (.cells #[.int .i64 room, .slice A lies.length c, .slice B rows.length d, .bool false, .int .i64 at_, .int .u64 kp, .int .i64 lf] 35)).alloc (.cells #[.int .i64 k, .string p, .string t] 46)).alloc (.cells #[.int .i64 0, .slice none 0 0, .slice none 0 0, .bool false, .int .i64 0, .int .u64 0, .int .i64 0] 35)).heap.size) := hide (by have := hlb; omega)
    clear htn hoB hlb
    generalize ((w.alloc (.cells #[.int .i64 room, .slice A lies.length c, .slice B rows.length d, .bool false, .int .i64 at_, .int .u64 kp, .int .i64 lf] 35)).alloc (.cells #[.int .i64 k, .string p, .string t] 46)).alloc (.cells #[.int .i64 0, .slice none 0 0, .slice none 0 0, .bool false, .int .i64 0, .int .u64 0, .int .i64 0] 35) = w2 at *
    obtain ⟨yb, hyb⟩ : ∃ y, y = w.heap.size + 2 := ⟨_, rfl⟩
    rw [← hyb] at HBy HSz HLow2 HNeY ⊢
    obtain ⟨ex, hex⟩ : ∃ b, b = w.heap.size + 1 := ⟨_, rfl⟩
    rw [← hex] at HEx HNeY HExl ⊢
    obtain ⟨bx, hbx⟩ : ∃ b, b = w.heap.size := ⟨_, rfl⟩
    have HLowB : Hid (w.heap.size ≤ bx) := hide (by omega)
    rw [← hbx] at HBox HNeY ⊢
    clear hyb hex hbx HLow1
    have HEX := hide (fun (W : World) (ho : Only [] w2 W) => eff_cells ((ho.block ex HExl.out (by simp)).trans HEx.out))
    obtain ⟨c0, c1, c2, cc3, c4, c5, c6⟩ := HBox.out.cell
    go_upto_region 4 with (go_at_call 21; refine (hseen.out _ HA2.out).mono ?_; rintro e w3 ⟨A3, c3, rfl, ha3, ho3⟩)
    clear c0 c1 c2 cc3 c4 c5 c6
    have HA3 := hide ha3
    have HO3 := hide ho3
    obtain ⟨e0, e1, e2⟩ := HEX.out _ ho3
    clear ha3 ho3
    obtain ⟨th, hth⟩ : ∃ b, (mget F p).isSome = b := ⟨_, rfl⟩
    obtain ⟨tx, htx⟩ : ∃ b, (mget F p).getD ⟨#[]⟩ = b := ⟨_, rfl⟩
    unfold FindPost at hfind
    rw [hth, htx] at hfind
    rw [hth] at HR
    clear hth htx
    go_upto_region 5 with (go_at_call 20; refine (hfind.out _ _ _ HA3.out).mono ?_; rintro e w4 ⟨rfl, ho4⟩)
    have HO4 := hide (HO3.out.trans ho4 (by simp))
    have HA4 := hide (HA3.out.only ho4 (by simp))
    obtain ⟨e0, e1, e2⟩ := HEX.out _ HO4.out
    clear ho4
    rcases HKD.out with hk | hk | hk
    · skip
      subst hk
      obtain ⟨ok, hok⟩ : ∃ b, pathOk p = b := ⟨_, rfl⟩
      rw [hok] at HR hp1
      clear hok
      cases ok
      · skip
        have hr : r = (⟨room, lies, rows, false, at_, kp, lf⟩, 12) := by rw [HR.out]; simp
        have HRr := hide hr
        clear hr HR
        go_upto_region 6 with (go_at_call 54; refine (hp1.out _).mono ?_; rintro e w4' ⟨rfl, rfl⟩)
        have HYe := hide ((HO4.out).block yb HSz.out (by simp) |>.trans HBy.out)
        have HBe := hide (HBox.out.only (S := []) (HO4.out))
        have HOe := hide (HOB.out.trans (HO4.out) (by simp))
        obtain ⟨c0, c1, c2, cc3, c4, c5, c6⟩ := HBe.out.cell
        have z0 : w4'.cell? ⟨yb, 0, none⟩ = some (.int .i64 0) := (zero_box HYe.out).cell.1
        have z1 : w4'.cell? ⟨yb, 1, none⟩ = some (.slice none 0 0) := (zero_box HYe.out).cell.2.1
        have z2 : w4'.cell? ⟨yb, 2, none⟩ = some (.slice none 0 0) := (zero_box HYe.out).cell.2.2.1
        have z3 : w4'.cell? ⟨yb, 3, none⟩ = some (.bool false) := (zero_box HYe.out).cell.2.2.2.1
        have z4 : w4'.cell? ⟨yb, 4, none⟩ = some (.int .i64 0) := (zero_box HYe.out).cell.2.2.2.2.1
        have z5 : w4'.cell? ⟨yb, 5, none⟩ = some (.int .u64 0) := (zero_box HYe.out).cell.2.2.2.2.2.1
        have z6 : w4'.cell? ⟨yb, 6, none⟩ = some (.int .i64 0) := (zero_box HYe.out).cell.2.2.2.2.2.2
        have fz0 := (zero_box HYe.out).free 0
        have fz1 := (zero_box HYe.out).free 1
        have fz2 := (zero_box HYe.out).free 2
        have fz3 := (zero_box HYe.out).free 3
        have fz4 := (zero_box HYe.out).free 4
        have fz5 := (zero_box HYe.out).free 5
        have fz6 := (zero_box HYe.out).free 6
        have hpz := put_ref HYe.out (.int .i64 room) (.slice A lies.length c) (.slice B rows.length d) (.bool false) (.int .i64 at_) (.int .u64 kp) (.int .i64 lf)
        have hrz := (zero_box HYe.out).past hpz.2 HBe.out.ref
        have hoz : Only [] w _ := HOe.out.trans hpz.2 (fun t ht hl => by have := HLow2.out; simp at ht; omega)
        have HRZ := hide hrz
        have HOZ := hide hoz
        have hsv := seven_of hpz.1
        clear hpz hrz hoz
        go_wp2
        generalize (((((((w4').setCell ⟨yb, 0, none⟩ (.int .i64 room)).setCell ⟨yb, 1, none⟩ (.slice A lies.length c)).setCell ⟨yb, 2, none⟩ (.slice B rows.length d)).setCell ⟨yb, 3, none⟩ (.bool false)).setCell ⟨yb, 4, none⟩ (.int .i64 at_)).setCell ⟨yb, 5, none⟩ (.int .u64 kp)).setCell ⟨yb, 6, none⟩ (.int .i64 lf) = wz at *
        obtain ⟨r0, r1, r2, r3, r4, r5, r6⟩ := hsv
        refine bodyPost_ret (v := .tuple #[.agg #[.int .i64 room, .slice A lies.length c, .slice B rows.length d, .bool false, .int .i64 at_, .int .u64 kp, .int .i64 lf], .int .i64 12]) (by simp [results, Try.results17, go_sem, r0, r1, r2, r3, r4, r5, r6]) rfl ?_
        rw [HRr.out]
        exact ⟨A, c, B, d, rfl, HRZ.out, HOZ.out⟩
      have hr2 : r = if (4096 < N.length ∨ room < (tookOf N : Int)) then (⟨room, lies, rows, false, at_, kp, lf⟩, 7) else (bf, if f = true then 8 else 0) := by
        rw [HR.out]
        by_cases hq : 4096 < N.length ∨ room < (tookOf N : Int)
        · simp [hq]
        · simp [hq]
      have HR2 := hide hr2
      clear hr2 HR
      go_upto_region 10 with (first | (go_at_call 55; refine (hdone.out _ _ _ HA4.out).mono ?_; rintro e w5 ⟨A5, c5, rfl, ha5, ho5⟩; have HO5 := hide (HO4.out.trans ho5 (by simp)); have HA5 := hide ha5) | (go_at_call 54; refine (hp1.out _).mono ?_; rintro e w4' ⟨rfl, rfl⟩))
      obtain ⟨e0, e1, e2⟩ := HEX.out _ HO5.out
      have HB5 := hide (HBox.out.only (S := []) HO5.out)
      clear ha5 ho5
      by_cases hlen : (4096 : Int) < N.length
      · have hr : r = (⟨room, lies, rows, false, at_, kp, lf⟩, 7) := by rw [HR2.out]; simp; omega
        have HRr := hide hr
        clear hr HR2
        go_quiet (fail)
        have HO6 := hide (HO5.out.drewN nq)
        generalize w5.drewN nq = w6 at *
        have HYe := hide ((HO6.out).block yb HSz.out (by simp) |>.trans HBy.out)
        have HBe := hide (HBox.out.only (S := []) (HO6.out))
        have HOe := hide (HOB.out.trans (HO6.out) (by simp))
        obtain ⟨c0, c1, c2, cc3, c4, c5, c6⟩ := HBe.out.cell
        have z0 : w6.cell? ⟨yb, 0, none⟩ = some (.int .i64 0) := (zero_box HYe.out).cell.1
        have z1 : w6.cell? ⟨yb, 1, none⟩ = some (.slice none 0 0) := (zero_box HYe.out).cell.2.1
        have z2 : w6.cell? ⟨yb, 2, none⟩ = some (.slice none 0 0) := (zero_box HYe.out).cell.2.2.1
        have z3 : w6.cell? ⟨yb, 3, none⟩ = some (.bool false) := (zero_box HYe.out).cell.2.2.2.1
        have z4 : w6.cell? ⟨yb, 4, none⟩ = some (.int .i64 0) := (zero_box HYe.out).cell.2.2.2.2.1
        have z5 : w6.cell? ⟨yb, 5, none⟩ = some (.int .u64 0) := (zero_box HYe.out).cell.2.2.2.2.2.1
        have z6 : w6.cell? ⟨yb, 6, none⟩ = some (.int .i64 0) := (zero_box HYe.out).cell.2.2.2.2.2.2
        have fz0 := (zero_box HYe.out).free 0
        have fz1 := (zero_box HYe.out).free 1
        have fz2 := (zero_box HYe.out).free 2
        have fz3 := (zero_box HYe.out).free 3
        have fz4 := (zero_box HYe.out).free 4
        have fz5 := (zero_box HYe.out).free 5
        have fz6 := (zero_box HYe.out).free 6
        have hpz := put_ref HYe.out (.int .i64 room) (.slice A lies.length c) (.slice B rows.length d) (.bool false) (.int .i64 at_) (.int .u64 kp) (.int .i64 lf)
        have hrz := (zero_box HYe.out).past hpz.2 HBe.out.ref
        have hoz : Only [] w _ := HOe.out.trans hpz.2 (fun t ht hl => by have := HLow2.out; simp at ht; omega)
        have HRZ := hide hrz
        have HOZ := hide hoz
        have hsv := seven_of hpz.1
        clear hpz hrz hoz
        go_wp2
        generalize (((((((w6).setCell ⟨yb, 0, none⟩ (.int .i64 room)).setCell ⟨yb, 1, none⟩ (.slice A lies.length c)).setCell ⟨yb, 2, none⟩ (.slice B rows.length d)).setCell ⟨yb, 3, none⟩ (.bool false)).setCell ⟨yb, 4, none⟩ (.int .i64 at_)).setCell ⟨yb, 5, none⟩ (.int .u64 kp)).setCell ⟨yb, 6, none⟩ (.int .i64 lf) = wz at *
        obtain ⟨r0, r1, r2, r3, r4, r5, r6⟩ := hsv
        refine bodyPost_ret (v := .tuple #[.agg #[.int .i64 room, .slice A lies.length c, .slice B rows.length d, .bool false, .int .i64 at_, .int .u64 kp, .int .i64 lf], .int .i64 7]) (by simp [results, Try.results17, go_sem, r0, r1, r2, r3, r4, r5, r6]) rfl ?_
        rw [HRr.out]
        exact ⟨A, c, B, d, rfl, HRZ.out, HOZ.out⟩
      have dlen : decide ((4096 : Int) < N.length) = false := by simpa using hlen
      have c0 := HB5.out.cell.1
      obtain ⟨g0, hg0⟩ : ∃ g0, g0 = (tookOf N : Int) := ⟨_, rfl⟩
      by_cases htb : room < tookOf N
      · have hr : r = (⟨room, lies, rows, false, at_, kp, lf⟩, 7) := by rw [HR2.out]; simp; omega
        have HRr := hide hr
        clear hr HR2 hg0
        go_region_held3 (fun W' => W'.cell? ⟨bx, 0, none⟩ = some (.int .i64 room) ∧ W'.cell? ⟨ex, 0, none⟩ = some (.int .i64 1)) (first | go_keep | exact ⟨(HB5.out.only (S := []) HO6.out).cell.1, (HEX.out _ (HO5.out.trans HO6.out (by simp))).1⟩)
          (first
          | (go_at_call 23; refine (htaken.out _ _ _ (HA5.out.only (Only.refl [] w5).drew (by simp))).mono ?_; rintro e w6 ⟨rfl, ho6⟩; have HO6 := hide ((Only.refl [] w5).drew.trans ho6 (by simp))))
        have HO7 := hide (HO5.out.trans HO6.out (by simp))
        clear ho6
        have HYe := hide ((HO7.out).block yb HSz.out (by simp) |>.trans HBy.out)
        have HBe := hide (HBox.out.only (S := []) (HO7.out))
        have HOe := hide (HOB.out.trans (HO7.out) (by simp))
        obtain ⟨c0, c1, c2, cc3, c4, c5, c6⟩ := HBe.out.cell
        have z0 : w6.cell? ⟨yb, 0, none⟩ = some (.int .i64 0) := (zero_box HYe.out).cell.1
        have z1 : w6.cell? ⟨yb, 1, none⟩ = some (.slice none 0 0) := (zero_box HYe.out).cell.2.1
        have z2 : w6.cell? ⟨yb, 2, none⟩ = some (.slice none 0 0) := (zero_box HYe.out).cell.2.2.1
        have z3 : w6.cell? ⟨yb, 3, none⟩ = some (.bool false) := (zero_box HYe.out).cell.2.2.2.1
        have z4 : w6.cell? ⟨yb, 4, none⟩ = some (.int .i64 0) := (zero_box HYe.out).cell.2.2.2.2.1
        have z5 : w6.cell? ⟨yb, 5, none⟩ = some (.int .u64 0) := (zero_box HYe.out).cell.2.2.2.2.2.1
        have z6 : w6.cell? ⟨yb, 6, none⟩ = some (.int .i64 0) := (zero_box HYe.out).cell.2.2.2.2.2.2
        have fz0 := (zero_box HYe.out).free 0
        have fz1 := (zero_box HYe.out).free 1
        have fz2 := (zero_box HYe.out).free 2
        have fz3 := (zero_box HYe.out).free 3
        have fz4 := (zero_box HYe.out).free 4
        have fz5 := (zero_box HYe.out).free 5
        have fz6 := (zero_box HYe.out).free 6
        have hpz := put_ref HYe.out (.int .i64 room) (.slice A lies.length c) (.slice B rows.length d) (.bool false) (.int .i64 at_) (.int .u64 kp) (.int .i64 lf)
        have hrz := (zero_box HYe.out).past hpz.2 HBe.out.ref
        have hoz : Only [] w _ := HOe.out.trans hpz.2 (fun t ht hl => by have := HLow2.out; simp at ht; omega)
        have HRZ := hide hrz
        have HOZ := hide hoz
        have hsv := seven_of hpz.1
        clear hpz hrz hoz
        go_wp2
        generalize (((((((w6).setCell ⟨yb, 0, none⟩ (.int .i64 room)).setCell ⟨yb, 1, none⟩ (.slice A lies.length c)).setCell ⟨yb, 2, none⟩ (.slice B rows.length d)).setCell ⟨yb, 3, none⟩ (.bool false)).setCell ⟨yb, 4, none⟩ (.int .i64 at_)).setCell ⟨yb, 5, none⟩ (.int .u64 kp)).setCell ⟨yb, 6, none⟩ (.int .i64 lf) = wz at *
        obtain ⟨r0, r1, r2, r3, r4, r5, r6⟩ := hsv
        refine bodyPost_ret (v := .tuple #[.agg #[.int .i64 room, .slice A lies.length c, .slice B rows.length d, .bool false, .int .i64 at_, .int .u64 kp, .int .i64 lf], .int .i64 7]) (by simp [results, Try.results17, go_sem, r0, r1, r2, r3, r4, r5, r6]) rfl ?_
        rw [HRr.out]
        exact ⟨A, c, B, d, rfl, HRZ.out, HOZ.out⟩
      have dtb : decide (room < (tookOf N : Int)) = false := by simpa using htb
      have hr : r = (bf, if f = true then 8 else 0) := by rw [HR2.out]; simp; omega
      have HRr := hide hr
      clear hr HR2 hg0
      go_region_held3 (fun W' => W'.cell? ⟨bx, 0, none⟩ = some (.int .i64 room) ∧ W'.cell? ⟨ex, 0, none⟩ = some (.int .i64 1)) (first | go_keep | exact ⟨(HB5.out.only (S := []) HO6.out).cell.1, (HEX.out _ (HO5.out.trans HO6.out (by simp))).1⟩)
        (first
        | (go_at_call 23; refine (htaken.out _ _ _ (HA5.out.only (Only.refl [] w5).drew (by simp))).mono ?_; rintro e w6 ⟨rfl, ho6⟩; have HO6 := hide ((Only.refl [] w5).drew.trans ho6 (by simp))))
      have HO7 := hide (HO5.out.trans HO6.out (by simp))
      clear ho6 c0 HO6 hlen dlen htb dtb HB5
      go_upto_region 12 with fail
      have HB6 := hide (HBox.out.only (S := []) HO7.out)
      have HX6 := HEX.out _ HO7.out
      obtain ⟨e0, e1, e2⟩ := HX6
      have c2 := HB6.out.cell.2.2.1
      have HRl := hide (effCells_len rows)
      have hro := hide (fun W (ho : Only [] w6 W) => (HB6.out.ref.rows.off).only ho)
      have hXl : ex < w6.heap.size := World.block_lt_of_cell? w6 _ e0
      have hBl : bx < w6.heap.size := HB6.out.lt
      have G1 : ∀ o, (w6.alloc o).cell? ⟨bx, 2, none⟩ = some (.slice B rows.length d) := fun o => (World.cell?_alloc_lt w6 o _ hBl).trans c2
      have G2 : ∀ o o', ((w6.alloc o).alloc o').cell? ⟨bx, 2, none⟩ = some (.slice B rows.length d) := fun o o' => (World.cell?_alloc_lt (w6.alloc o) o' _ (by simp; omega)).trans (G1 o)
      have X0 : ∀ o, (w6.alloc o).cell? ⟨ex, 0, none⟩ = some (.int .i64 1) := fun o => (World.cell?_alloc_lt w6 o _ hXl).trans e0
      have X1 : ∀ o, (w6.alloc o).cell? ⟨ex, 1, none⟩ = some (.string p) := fun o => (World.cell?_alloc_lt w6 o _ hXl).trans e1
      have X2 : ∀ o, (w6.alloc o).cell? ⟨ex, 2, none⟩ = some (.string t) := fun o => (World.cell?_alloc_lt w6 o _ hXl).trans e2
      clear hXl hBl
      go_cut [] (fun W => MoreSt w6 W bx A c ⟨room, lies, rows ++ [⟨1, p, t⟩], false, at_, kp, lf⟩)
      case first =>
        go_region_law (first
          | (refine step_app_arg (P := Try.prog) (base := w6.heap.size) (v := v1) rfl (.tmp 75) (.tmp 77) 30 rfl Try.underlying30 infoREff rfl (by omega) rfl (by first | exact hown3 | exact hown3.alloc _ | exact (hown3.alloc _).drew) (some ⟨_, 0, none⟩) 1 1 [.int .i64 1, .string p, .string t] rfl rfl
              (argO_blk (cs := #[.int .i64 1, .string p, .string t]) (by first | exact heap_alloc_new _ _ | exact (ho3.block _ (by simp <;> omega) (by simp [Value.ownBlock])).trans (two_new _ _ _).1 | exact (ho3.block _ (by simp <;> omega) (by simp [Value.ownBlock])).trans (two_new _ _ _).2) rfl) (by simp [Value.oneCell']) (by omega) (by unfold maxLen; omega) (by have := hO3.out.size; first | omega | (simp; omega)) ?_
             intro v2 w8 hown4 ho4
             have hO4 : Hid (Only [] w6 w8) := by
               first
               | exact hO3.out.trans ho4 (fun t ht hl => by have := (own_lt hown3 ht).1; omega)
               | exact (hO3.out.alloc _).trans ho4 (fun t ht hl => by have := (own_lt hown3 ht).1; omega)
               | exact (hO3.out.alloc _).drew.trans ho4 (fun t ht hl => by have := (own_lt hown3 ht).1; omega)
             obtain ⟨A8, c8, rfl, hc8, hcells8⟩ := own_form hown4
             have hB8 := HB6.out.only (S := []) hO4.out
             have g2 := hB8.cell.2.2.1
             have fr2 := hB8.free 2)
          | (refine step_app_arg (P := Try.prog) (base := w6.heap.size) (v := .slice (some ⟨_, 0, none⟩) 0 0) rfl (.tmp 72) (.tmp 74) 30 rfl Try.underlying30 infoREff rfl (by omega) rfl (own_empty (by first | exact heap_alloc_new _ _ | exact (two_new _ _ _).1 | exact (two_new _ _ _).2) (by simp <;> omega)) B rows.length d (effCells rows) rfl HRl.out (hro.out _ (by first | exact (Only.refl _ _).drew.alloc _ | exact ((Only.refl _ _).drew.alloc _).alloc _)) (effCells_one _) (by omega) (by unfold maxLen; omega) (by simp <;> omega) ?_
             intro v1 w7 hown3 ho3
             have hO3 : Hid (Only [] w6 w7) := by
               first
               | exact (((Only.refl [] w6).alloc _).drew).trans ho3 (fun t ht hl => by simp [Value.ownBlock] at ht; omega)
               | exact ((((Only.refl [] w6).alloc _).alloc _).drew).trans ho3 (fun t ht hl => by simp [Value.ownBlock] at ht; omega)
             obtain ⟨x0, x1, x2⟩ := HEX.out _ (HO7.out.trans hO3.out (by simp))))
        all_goals
          go_wp2
          go_meet
          have ha8 : ArgAt w8 A8 (effCells (rows ++ [⟨1, p, t⟩])) := fun j u hu => by
            have hu' : ([] ++ effCells rows ++ [.int .i64 1, .string p, .string t])[j]? = some u := by rw [effCells_snoc] at hu; simpa [Eff.cells] using hu
            obtain ⟨g, h1, _, h2, h3⟩ := hcells8 j u hu'
            exact ⟨g, h1, h2, h3⟩
          have hs := hB8.set (A' := A) (B' := A8) (c' := c) (d' := c8) (M' := ⟨room, lies, rows ++ [⟨1, p, t⟩], false, at_, kp, lf⟩) 2 (.slice A8 (rows.length + 1) c8) (by simp [RefS.cells]) hB8.ref.lies ha8
          exact ⟨A8, c8, hs.1, (hO4.out.mono (T := [bx]) (by simp)).trans hs.2 (fun t h _ => h)⟩
      case rest =>
      obtain ⟨A8, c8, hB9, hO9⟩ := hcut
      clear G1 G2 X0 X1 X2 e0 e1 e2 c2
      have HO9 := hide ((HO7.out.mono (T := [bx]) (by simp)).trans hO9 (fun t h _ => h))
      have HOW9 := hide (HOB.out.trans HO9.out (fun t ht hl => by have := HLowB.out; simp at ht; omega))
      have HY9 := hide ((HO9.out.block yb HSz.out (by simpa using HNeY.out.1)).trans HBy.out)
      have hc9 := hcall.out A8 c8 _ hB9.ref
      obtain ⟨c0, c1, c2, cc3, c4, c5, c6⟩ := hB9.cell
      have hln : (rows ++ [(⟨1, p, t⟩ : Eff)]).length = rows.length + 1 := by simp
      simp only at c0 c1 c2 cc3 c4 c5 c6
      rw [hln] at c2 hc9
      have HC9 := hide hc9
      clear hB9 hO9 hln hc9
      go_upto_region 14 with (go_at_call 56; (with_reducible refine HC9.out.mono ?_); rintro e wa ⟨Aa, ca, Ba, da, rfl, hra, hoa⟩)
      have HOa := hide (HOW9.out.trans hoa (by simp))
      have HYa := hide ((hoa.block yb (zero_box HY9.out).lt (by simp)).trans HY9.out)
      clear c0 c1 c2 cc3 c4 c5 c6 hoa
      obtain ⟨room3, lies3, rows3, dn3, at3, kp3, lf3⟩ := bf
      simp only at hra ⊢
      have hoA := (Only.refl [] wa).alloc (.cells #[.int .i64 room3, .slice Aa lies3.length ca, .slice Ba rows3.length da, .bool dn3, .int .i64 at3, .int .u64 kp3, .int .i64 lf3] 35)
      have HTb : Hid (BoxAt _ wa.heap.size Aa ca Ba da ⟨room3, lies3, rows3, dn3, at3, kp3, lf3⟩) := hide ⟨heap_alloc_new wa (.cells #[.int .i64 room3, .slice Aa lies3.length ca, .slice Ba rows3.length da, .bool dn3, .int .i64 at3, .int .u64 kp3, .int .i64 lf3] 35), hra.only hoA⟩
      have HOb := hide (HOa.out.trans hoA (by simp))
      have HYb := hide ((hoA.block yb (zero_box HYa.out).lt (by simp)).trans HYa.out)
      clear hoA hra
      generalize wa.alloc (.cells #[.int .i64 room3, .slice Aa lies3.length ca, .slice Ba rows3.length da, .bool dn3, .int .i64 at3, .int .u64 kp3, .int .i64 lf3] 35) = wb at *
      generalize wa.heap.size = tb at *
      obtain ⟨c0, c1, c2, cc3, c4, c5, c6⟩ := HTb.out.cell
      have z0 : wb.cell? ⟨yb, 0, none⟩ = some (.int .i64 0) := (zero_box HYb.out).cell.1
      have z1 : wb.cell? ⟨yb, 1, none⟩ = some (.slice none 0 0) := (zero_box HYb.out).cell.2.1
      have z2 : wb.cell? ⟨yb, 2, none⟩ = some (.slice none 0 0) := (zero_box HYb.out).cell.2.2.1
      have z3 : wb.cell? ⟨yb, 3, none⟩ = some (.bool false) := (zero_box HYb.out).cell.2.2.2.1
      have z4 : wb.cell? ⟨yb, 4, none⟩ = some (.int .i64 0) := (zero_box HYb.out).cell.2.2.2.2.1
      have z5 : wb.cell? ⟨yb, 5, none⟩ = some (.int .u64 0) := (zero_box HYb.out).cell.2.2.2.2.2.1
      have z6 : wb.cell? ⟨yb, 6, none⟩ = some (.int .i64 0) := (zero_box HYb.out).cell.2.2.2.2.2.2
      have fz0 := (zero_box HYb.out).free 0
      have fz1 := (zero_box HYb.out).free 1
      have fz2 := (zero_box HYb.out).free 2
      have fz3 := (zero_box HYb.out).free 3
      have fz4 := (zero_box HYb.out).free 4
      have fz5 := (zero_box HYb.out).free 5
      have fz6 := (zero_box HYb.out).free 6
      cases f
      · skip
        have hpz := put_ref HYb.out (.int .i64 room3) (.slice Aa lies3.length ca) (.slice Ba rows3.length da) (.bool dn3) (.int .i64 at3) (.int .u64 kp3) (.int .i64 lf3)
        have hrz := (zero_box HYb.out).past hpz.2 HTb.out.ref
        have hoz : Only [] w _ := HOb.out.trans hpz.2 (fun t ht hl => by have := HLow2.out; simp at ht; omega)
        have HRZ := hide hrz
        have HOZ := hide hoz
        have hsv := seven_of hpz.1
        clear hpz hrz hoz
        go_wp2
        generalize (((((((wb).setCell ⟨yb, 0, none⟩ (.int .i64 room3)).setCell ⟨yb, 1, none⟩ (.slice Aa lies3.length ca)).setCell ⟨yb, 2, none⟩ (.slice Ba rows3.length da)).setCell ⟨yb, 3, none⟩ (.bool dn3)).setCell ⟨yb, 4, none⟩ (.int .i64 at3)).setCell ⟨yb, 5, none⟩ (.int .u64 kp3)).setCell ⟨yb, 6, none⟩ (.int .i64 lf3) = wz at *
        obtain ⟨r0, r1, r2, r3, r4, r5, r6⟩ := hsv
        refine bodyPost_ret (v := .tuple #[.agg #[.int .i64 room3, .slice Aa lies3.length ca, .slice Ba rows3.length da, .bool dn3, .int .i64 at3, .int .u64 kp3, .int .i64 lf3], .int .i64 0]) (by simp [results, Try.results17, go_sem, r0, r1, r2, r3, r4, r5, r6]) rfl ?_
        rw [HRr.out]
        exact ⟨Aa, ca, Ba, da, rfl, HRZ.out, HOZ.out⟩
      · skip
        have hpz := put_ref HYb.out (.int .i64 room3) (.slice Aa lies3.length ca) (.slice Ba rows3.length da) (.bool dn3) (.int .i64 at3) (.int .u64 kp3) (.int .i64 lf3)
        have hrz := (zero_box HYb.out).past hpz.2 HTb.out.ref
        have hoz : Only [] w _ := HOb.out.trans hpz.2 (fun t ht hl => by have := HLow2.out; simp at ht; omega)
        have HRZ := hide hrz
        have HOZ := hide hoz
        have hsv := seven_of hpz.1
        clear hpz hrz hoz
        go_wp2
        generalize (((((((wb).setCell ⟨yb, 0, none⟩ (.int .i64 room3)).setCell ⟨yb, 1, none⟩ (.slice Aa lies3.length ca)).setCell ⟨yb, 2, none⟩ (.slice Ba rows3.length da)).setCell ⟨yb, 3, none⟩ (.bool dn3)).setCell ⟨yb, 4, none⟩ (.int .i64 at3)).setCell ⟨yb, 5, none⟩ (.int .u64 kp3)).setCell ⟨yb, 6, none⟩ (.int .i64 lf3) = wz at *
        obtain ⟨r0, r1, r2, r3, r4, r5, r6⟩ := hsv
        refine bodyPost_ret (v := .tuple #[.agg #[.int .i64 room3, .slice Aa lies3.length ca, .slice Ba rows3.length da, .bool dn3, .int .i64 at3, .int .u64 kp3, .int .i64 lf3], .int .i64 8]) (by simp [results, Try.results17, go_sem, r0, r1, r2, r3, r4, r5, r6]) rfl ?_
        rw [HRr.out]
        exact ⟨Aa, ca, Ba, da, rfl, HRZ.out, HOZ.out⟩
    · skip
      subst hk
      obtain ⟨ok, hok⟩ : ∃ b, pathOk t = b := ⟨_, rfl⟩
      rw [hok] at HR hp2
      clear hok
      cases ok
      · skip
        have hr : r = (⟨room, lies, rows, false, at_, kp, lf⟩, 12) := by rw [HR.out]; simp
        have HRr := hide hr
        clear hr HR
        go_upto_region 6 with (go_at_call 54; refine (hp2.out _).mono ?_; rintro e w4' ⟨rfl, rfl⟩)
        have HYe := hide ((HO4.out).block yb HSz.out (by simp) |>.trans HBy.out)
        have HBe := hide (HBox.out.only (S := []) (HO4.out))
        have HOe := hide (HOB.out.trans (HO4.out) (by simp))
        obtain ⟨c0, c1, c2, cc3, c4, c5, c6⟩ := HBe.out.cell
        have z0 : w4'.cell? ⟨yb, 0, none⟩ = some (.int .i64 0) := (zero_box HYe.out).cell.1
        have z1 : w4'.cell? ⟨yb, 1, none⟩ = some (.slice none 0 0) := (zero_box HYe.out).cell.2.1
        have z2 : w4'.cell? ⟨yb, 2, none⟩ = some (.slice none 0 0) := (zero_box HYe.out).cell.2.2.1
        have z3 : w4'.cell? ⟨yb, 3, none⟩ = some (.bool false) := (zero_box HYe.out).cell.2.2.2.1
        have z4 : w4'.cell? ⟨yb, 4, none⟩ = some (.int .i64 0) := (zero_box HYe.out).cell.2.2.2.2.1
        have z5 : w4'.cell? ⟨yb, 5, none⟩ = some (.int .u64 0) := (zero_box HYe.out).cell.2.2.2.2.2.1
        have z6 : w4'.cell? ⟨yb, 6, none⟩ = some (.int .i64 0) := (zero_box HYe.out).cell.2.2.2.2.2.2
        have fz0 := (zero_box HYe.out).free 0
        have fz1 := (zero_box HYe.out).free 1
        have fz2 := (zero_box HYe.out).free 2
        have fz3 := (zero_box HYe.out).free 3
        have fz4 := (zero_box HYe.out).free 4
        have fz5 := (zero_box HYe.out).free 5
        have fz6 := (zero_box HYe.out).free 6
        have hpz := put_ref HYe.out (.int .i64 room) (.slice A lies.length c) (.slice B rows.length d) (.bool false) (.int .i64 at_) (.int .u64 kp) (.int .i64 lf)
        have hrz := (zero_box HYe.out).past hpz.2 HBe.out.ref
        have hoz : Only [] w _ := HOe.out.trans hpz.2 (fun t ht hl => by have := HLow2.out; simp at ht; omega)
        have HRZ := hide hrz
        have HOZ := hide hoz
        have hsv := seven_of hpz.1
        clear hpz hrz hoz
        go_wp2
        generalize (((((((w4').setCell ⟨yb, 0, none⟩ (.int .i64 room)).setCell ⟨yb, 1, none⟩ (.slice A lies.length c)).setCell ⟨yb, 2, none⟩ (.slice B rows.length d)).setCell ⟨yb, 3, none⟩ (.bool false)).setCell ⟨yb, 4, none⟩ (.int .i64 at_)).setCell ⟨yb, 5, none⟩ (.int .u64 kp)).setCell ⟨yb, 6, none⟩ (.int .i64 lf) = wz at *
        obtain ⟨r0, r1, r2, r3, r4, r5, r6⟩ := hsv
        refine bodyPost_ret (v := .tuple #[.agg #[.int .i64 room, .slice A lies.length c, .slice B rows.length d, .bool false, .int .i64 at_, .int .u64 kp, .int .i64 lf], .int .i64 12]) (by simp [results, Try.results17, go_sem, r0, r1, r2, r3, r4, r5, r6]) rfl ?_
        rw [HRr.out]
        exact ⟨A, c, B, d, rfl, HRZ.out, HOZ.out⟩
      cases th
      · skip
        have hr : r = (⟨room, lies, rows, false, at_, kp, lf⟩, 5) := by rw [HR.out]; simp
        have HRr := hide hr
        clear hr HR
        go_upto_region 8 with (go_at_call 54; refine (hp2.out _).mono ?_; rintro e w4' ⟨rfl, rfl⟩)
        have HYe := hide ((HO4.out).block yb HSz.out (by simp) |>.trans HBy.out)
        have HBe := hide (HBox.out.only (S := []) (HO4.out))
        have HOe := hide (HOB.out.trans (HO4.out) (by simp))
        obtain ⟨c0, c1, c2, cc3, c4, c5, c6⟩ := HBe.out.cell
        have z0 : w4'.cell? ⟨yb, 0, none⟩ = some (.int .i64 0) := (zero_box HYe.out).cell.1
        have z1 : w4'.cell? ⟨yb, 1, none⟩ = some (.slice none 0 0) := (zero_box HYe.out).cell.2.1
        have z2 : w4'.cell? ⟨yb, 2, none⟩ = some (.slice none 0 0) := (zero_box HYe.out).cell.2.2.1
        have z3 : w4'.cell? ⟨yb, 3, none⟩ = some (.bool false) := (zero_box HYe.out).cell.2.2.2.1
        have z4 : w4'.cell? ⟨yb, 4, none⟩ = some (.int .i64 0) := (zero_box HYe.out).cell.2.2.2.2.1
        have z5 : w4'.cell? ⟨yb, 5, none⟩ = some (.int .u64 0) := (zero_box HYe.out).cell.2.2.2.2.2.1
        have z6 : w4'.cell? ⟨yb, 6, none⟩ = some (.int .i64 0) := (zero_box HYe.out).cell.2.2.2.2.2.2
        have fz0 := (zero_box HYe.out).free 0
        have fz1 := (zero_box HYe.out).free 1
        have fz2 := (zero_box HYe.out).free 2
        have fz3 := (zero_box HYe.out).free 3
        have fz4 := (zero_box HYe.out).free 4
        have fz5 := (zero_box HYe.out).free 5
        have fz6 := (zero_box HYe.out).free 6
        have hpz := put_ref HYe.out (.int .i64 room) (.slice A lies.length c) (.slice B rows.length d) (.bool false) (.int .i64 at_) (.int .u64 kp) (.int .i64 lf)
        have hrz := (zero_box HYe.out).past hpz.2 HBe.out.ref
        have hoz : Only [] w _ := HOe.out.trans hpz.2 (fun t ht hl => by have := HLow2.out; simp at ht; omega)
        have HRZ := hide hrz
        have HOZ := hide hoz
        have hsv := seven_of hpz.1
        clear hpz hrz hoz
        go_wp2
        generalize (((((((w4').setCell ⟨yb, 0, none⟩ (.int .i64 room)).setCell ⟨yb, 1, none⟩ (.slice A lies.length c)).setCell ⟨yb, 2, none⟩ (.slice B rows.length d)).setCell ⟨yb, 3, none⟩ (.bool false)).setCell ⟨yb, 4, none⟩ (.int .i64 at_)).setCell ⟨yb, 5, none⟩ (.int .u64 kp)).setCell ⟨yb, 6, none⟩ (.int .i64 lf) = wz at *
        obtain ⟨r0, r1, r2, r3, r4, r5, r6⟩ := hsv
        refine bodyPost_ret (v := .tuple #[.agg #[.int .i64 room, .slice A lies.length c, .slice B rows.length d, .bool false, .int .i64 at_, .int .u64 kp, .int .i64 lf], .int .i64 5]) (by simp [results, Try.results17, go_sem, r0, r1, r2, r3, r4, r5, r6]) rfl ?_
        rw [HRr.out]
        exact ⟨A, c, B, d, rfl, HRZ.out, HOZ.out⟩
      have hr2 : r = if (4096 < N.length ∨ room < (tookOf N : Int)) then (⟨room, lies, rows, false, at_, kp, lf⟩, 7) else (bf, if f = true then 8 else 0) := by
        rw [HR.out]
        by_cases hq : 4096 < N.length ∨ room < (tookOf N : Int)
        · simp [hq]
        · simp [hq]
      have HR2 := hide hr2
      clear hr2 HR
      go_upto_region 10 with (first | (go_at_call 55; refine (hdone.out _ _ _ HA4.out).mono ?_; rintro e w5 ⟨A5, c5, rfl, ha5, ho5⟩; have HO5 := hide (HO4.out.trans ho5 (by simp)); have HA5 := hide ha5) | (go_at_call 54; refine (hp2.out _).mono ?_; rintro e w4' ⟨rfl, rfl⟩))
      obtain ⟨e0, e1, e2⟩ := HEX.out _ HO5.out
      have HB5 := hide (HBox.out.only (S := []) HO5.out)
      clear ha5 ho5
      by_cases hlen : (4096 : Int) < N.length
      · have hr : r = (⟨room, lies, rows, false, at_, kp, lf⟩, 7) := by rw [HR2.out]; simp; omega
        have HRr := hide hr
        clear hr HR2
        go_quiet (fail)
        have HO6 := hide (HO5.out.drewN nq)
        generalize w5.drewN nq = w6 at *
        have HYe := hide ((HO6.out).block yb HSz.out (by simp) |>.trans HBy.out)
        have HBe := hide (HBox.out.only (S := []) (HO6.out))
        have HOe := hide (HOB.out.trans (HO6.out) (by simp))
        obtain ⟨c0, c1, c2, cc3, c4, c5, c6⟩ := HBe.out.cell
        have z0 : w6.cell? ⟨yb, 0, none⟩ = some (.int .i64 0) := (zero_box HYe.out).cell.1
        have z1 : w6.cell? ⟨yb, 1, none⟩ = some (.slice none 0 0) := (zero_box HYe.out).cell.2.1
        have z2 : w6.cell? ⟨yb, 2, none⟩ = some (.slice none 0 0) := (zero_box HYe.out).cell.2.2.1
        have z3 : w6.cell? ⟨yb, 3, none⟩ = some (.bool false) := (zero_box HYe.out).cell.2.2.2.1
        have z4 : w6.cell? ⟨yb, 4, none⟩ = some (.int .i64 0) := (zero_box HYe.out).cell.2.2.2.2.1
        have z5 : w6.cell? ⟨yb, 5, none⟩ = some (.int .u64 0) := (zero_box HYe.out).cell.2.2.2.2.2.1
        have z6 : w6.cell? ⟨yb, 6, none⟩ = some (.int .i64 0) := (zero_box HYe.out).cell.2.2.2.2.2.2
        have fz0 := (zero_box HYe.out).free 0
        have fz1 := (zero_box HYe.out).free 1
        have fz2 := (zero_box HYe.out).free 2
        have fz3 := (zero_box HYe.out).free 3
        have fz4 := (zero_box HYe.out).free 4
        have fz5 := (zero_box HYe.out).free 5
        have fz6 := (zero_box HYe.out).free 6
        have hpz := put_ref HYe.out (.int .i64 room) (.slice A lies.length c) (.slice B rows.length d) (.bool false) (.int .i64 at_) (.int .u64 kp) (.int .i64 lf)
        have hrz := (zero_box HYe.out).past hpz.2 HBe.out.ref
        have hoz : Only [] w _ := HOe.out.trans hpz.2 (fun t ht hl => by have := HLow2.out; simp at ht; omega)
        have HRZ := hide hrz
        have HOZ := hide hoz
        have hsv := seven_of hpz.1
        clear hpz hrz hoz
        go_wp2
        generalize (((((((w6).setCell ⟨yb, 0, none⟩ (.int .i64 room)).setCell ⟨yb, 1, none⟩ (.slice A lies.length c)).setCell ⟨yb, 2, none⟩ (.slice B rows.length d)).setCell ⟨yb, 3, none⟩ (.bool false)).setCell ⟨yb, 4, none⟩ (.int .i64 at_)).setCell ⟨yb, 5, none⟩ (.int .u64 kp)).setCell ⟨yb, 6, none⟩ (.int .i64 lf) = wz at *
        obtain ⟨r0, r1, r2, r3, r4, r5, r6⟩ := hsv
        refine bodyPost_ret (v := .tuple #[.agg #[.int .i64 room, .slice A lies.length c, .slice B rows.length d, .bool false, .int .i64 at_, .int .u64 kp, .int .i64 lf], .int .i64 7]) (by simp [results, Try.results17, go_sem, r0, r1, r2, r3, r4, r5, r6]) rfl ?_
        rw [HRr.out]
        exact ⟨A, c, B, d, rfl, HRZ.out, HOZ.out⟩
      have dlen : decide ((4096 : Int) < N.length) = false := by simpa using hlen
      have c0 := HB5.out.cell.1
      obtain ⟨g0, hg0⟩ : ∃ g0, g0 = (tookOf N : Int) := ⟨_, rfl⟩
      by_cases htb : room < tookOf N
      · have hr : r = (⟨room, lies, rows, false, at_, kp, lf⟩, 7) := by rw [HR2.out]; simp; omega
        have HRr := hide hr
        clear hr HR2 hg0
        go_region_held3 (fun W' => W'.cell? ⟨bx, 0, none⟩ = some (.int .i64 room) ∧ W'.cell? ⟨ex, 0, none⟩ = some (.int .i64 2)) (first | go_keep | exact ⟨(HB5.out.only (S := []) HO6.out).cell.1, (HEX.out _ (HO5.out.trans HO6.out (by simp))).1⟩)
          (first
          | (go_at_call 23; refine (htaken.out _ _ _ (HA5.out.only (Only.refl [] w5).drew (by simp))).mono ?_; rintro e w6 ⟨rfl, ho6⟩; have HO6 := hide ((Only.refl [] w5).drew.trans ho6 (by simp))))
        have HO7 := hide (HO5.out.trans HO6.out (by simp))
        clear ho6
        have HYe := hide ((HO7.out).block yb HSz.out (by simp) |>.trans HBy.out)
        have HBe := hide (HBox.out.only (S := []) (HO7.out))
        have HOe := hide (HOB.out.trans (HO7.out) (by simp))
        obtain ⟨c0, c1, c2, cc3, c4, c5, c6⟩ := HBe.out.cell
        have z0 : w6.cell? ⟨yb, 0, none⟩ = some (.int .i64 0) := (zero_box HYe.out).cell.1
        have z1 : w6.cell? ⟨yb, 1, none⟩ = some (.slice none 0 0) := (zero_box HYe.out).cell.2.1
        have z2 : w6.cell? ⟨yb, 2, none⟩ = some (.slice none 0 0) := (zero_box HYe.out).cell.2.2.1
        have z3 : w6.cell? ⟨yb, 3, none⟩ = some (.bool false) := (zero_box HYe.out).cell.2.2.2.1
        have z4 : w6.cell? ⟨yb, 4, none⟩ = some (.int .i64 0) := (zero_box HYe.out).cell.2.2.2.2.1
        have z5 : w6.cell? ⟨yb, 5, none⟩ = some (.int .u64 0) := (zero_box HYe.out).cell.2.2.2.2.2.1
        have z6 : w6.cell? ⟨yb, 6, none⟩ = some (.int .i64 0) := (zero_box HYe.out).cell.2.2.2.2.2.2
        have fz0 := (zero_box HYe.out).free 0
        have fz1 := (zero_box HYe.out).free 1
        have fz2 := (zero_box HYe.out).free 2
        have fz3 := (zero_box HYe.out).free 3
        have fz4 := (zero_box HYe.out).free 4
        have fz5 := (zero_box HYe.out).free 5
        have fz6 := (zero_box HYe.out).free 6
        have hpz := put_ref HYe.out (.int .i64 room) (.slice A lies.length c) (.slice B rows.length d) (.bool false) (.int .i64 at_) (.int .u64 kp) (.int .i64 lf)
        have hrz := (zero_box HYe.out).past hpz.2 HBe.out.ref
        have hoz : Only [] w _ := HOe.out.trans hpz.2 (fun t ht hl => by have := HLow2.out; simp at ht; omega)
        have HRZ := hide hrz
        have HOZ := hide hoz
        have hsv := seven_of hpz.1
        clear hpz hrz hoz
        go_wp2
        generalize (((((((w6).setCell ⟨yb, 0, none⟩ (.int .i64 room)).setCell ⟨yb, 1, none⟩ (.slice A lies.length c)).setCell ⟨yb, 2, none⟩ (.slice B rows.length d)).setCell ⟨yb, 3, none⟩ (.bool false)).setCell ⟨yb, 4, none⟩ (.int .i64 at_)).setCell ⟨yb, 5, none⟩ (.int .u64 kp)).setCell ⟨yb, 6, none⟩ (.int .i64 lf) = wz at *
        obtain ⟨r0, r1, r2, r3, r4, r5, r6⟩ := hsv
        refine bodyPost_ret (v := .tuple #[.agg #[.int .i64 room, .slice A lies.length c, .slice B rows.length d, .bool false, .int .i64 at_, .int .u64 kp, .int .i64 lf], .int .i64 7]) (by simp [results, Try.results17, go_sem, r0, r1, r2, r3, r4, r5, r6]) rfl ?_
        rw [HRr.out]
        exact ⟨A, c, B, d, rfl, HRZ.out, HOZ.out⟩
      have dtb : decide (room < (tookOf N : Int)) = false := by simpa using htb
      have hr : r = (bf, if f = true then 8 else 0) := by rw [HR2.out]; simp; omega
      have HRr := hide hr
      clear hr HR2 hg0
      go_region_held3 (fun W' => W'.cell? ⟨bx, 0, none⟩ = some (.int .i64 room) ∧ W'.cell? ⟨ex, 0, none⟩ = some (.int .i64 2)) (first | go_keep | exact ⟨(HB5.out.only (S := []) HO6.out).cell.1, (HEX.out _ (HO5.out.trans HO6.out (by simp))).1⟩)
        (first
        | (go_at_call 23; refine (htaken.out _ _ _ (HA5.out.only (Only.refl [] w5).drew (by simp))).mono ?_; rintro e w6 ⟨rfl, ho6⟩; have HO6 := hide ((Only.refl [] w5).drew.trans ho6 (by simp))))
      have HO7 := hide (HO5.out.trans HO6.out (by simp))
      clear ho6 c0 HO6 hlen dlen htb dtb HB5
      go_upto_region 12 with fail
      have HB6 := hide (HBox.out.only (S := []) HO7.out)
      have HX6 := HEX.out _ HO7.out
      obtain ⟨e0, e1, e2⟩ := HX6
      have c2 := HB6.out.cell.2.2.1
      have HRl := hide (effCells_len rows)
      have hro := hide (fun W (ho : Only [] w6 W) => (HB6.out.ref.rows.off).only ho)
      have hXl : ex < w6.heap.size := World.block_lt_of_cell? w6 _ e0
      have hBl : bx < w6.heap.size := HB6.out.lt
      have G1 : ∀ o, (w6.alloc o).cell? ⟨bx, 2, none⟩ = some (.slice B rows.length d) := fun o => (World.cell?_alloc_lt w6 o _ hBl).trans c2
      have G2 : ∀ o o', ((w6.alloc o).alloc o').cell? ⟨bx, 2, none⟩ = some (.slice B rows.length d) := fun o o' => (World.cell?_alloc_lt (w6.alloc o) o' _ (by simp; omega)).trans (G1 o)
      have X0 : ∀ o, (w6.alloc o).cell? ⟨ex, 0, none⟩ = some (.int .i64 2) := fun o => (World.cell?_alloc_lt w6 o _ hXl).trans e0
      have X1 : ∀ o, (w6.alloc o).cell? ⟨ex, 1, none⟩ = some (.string p) := fun o => (World.cell?_alloc_lt w6 o _ hXl).trans e1
      have X2 : ∀ o, (w6.alloc o).cell? ⟨ex, 2, none⟩ = some (.string t) := fun o => (World.cell?_alloc_lt w6 o _ hXl).trans e2
      clear hXl hBl
      go_cut [] (fun W => MoreSt w6 W bx A c ⟨room, lies, rows ++ [⟨2, p, t⟩], false, at_, kp, lf⟩)
      case first =>
        go_region_law (first
          | (refine step_app_arg (P := Try.prog) (base := w6.heap.size) (v := v1) rfl (.tmp 75) (.tmp 77) 30 rfl Try.underlying30 infoREff rfl (by omega) rfl (by first | exact hown3 | exact hown3.alloc _ | exact (hown3.alloc _).drew) (some ⟨_, 0, none⟩) 1 1 [.int .i64 2, .string p, .string t] rfl rfl
              (argO_blk (cs := #[.int .i64 2, .string p, .string t]) (by first | exact heap_alloc_new _ _ | exact (ho3.block _ (by simp <;> omega) (by simp [Value.ownBlock])).trans (two_new _ _ _).1 | exact (ho3.block _ (by simp <;> omega) (by simp [Value.ownBlock])).trans (two_new _ _ _).2) rfl) (by simp [Value.oneCell']) (by omega) (by unfold maxLen; omega) (by have := hO3.out.size; first | omega | (simp; omega)) ?_
             intro v2 w8 hown4 ho4
             have hO4 : Hid (Only [] w6 w8) := by
               first
               | exact hO3.out.trans ho4 (fun t ht hl => by have := (own_lt hown3 ht).1; omega)
               | exact (hO3.out.alloc _).trans ho4 (fun t ht hl => by have := (own_lt hown3 ht).1; omega)
               | exact (hO3.out.alloc _).drew.trans ho4 (fun t ht hl => by have := (own_lt hown3 ht).1; omega)
             obtain ⟨A8, c8, rfl, hc8, hcells8⟩ := own_form hown4
             have hB8 := HB6.out.only (S := []) hO4.out
             have g2 := hB8.cell.2.2.1
             have fr2 := hB8.free 2)
          | (refine step_app_arg (P := Try.prog) (base := w6.heap.size) (v := .slice (some ⟨_, 0, none⟩) 0 0) rfl (.tmp 72) (.tmp 74) 30 rfl Try.underlying30 infoREff rfl (by omega) rfl (own_empty (by first | exact heap_alloc_new _ _ | exact (two_new _ _ _).1 | exact (two_new _ _ _).2) (by simp <;> omega)) B rows.length d (effCells rows) rfl HRl.out (hro.out _ (by first | exact (Only.refl _ _).drew.alloc _ | exact ((Only.refl _ _).drew.alloc _).alloc _)) (effCells_one _) (by omega) (by unfold maxLen; omega) (by simp <;> omega) ?_
             intro v1 w7 hown3 ho3
             have hO3 : Hid (Only [] w6 w7) := by
               first
               | exact (((Only.refl [] w6).alloc _).drew).trans ho3 (fun t ht hl => by simp [Value.ownBlock] at ht; omega)
               | exact ((((Only.refl [] w6).alloc _).alloc _).drew).trans ho3 (fun t ht hl => by simp [Value.ownBlock] at ht; omega)
             obtain ⟨x0, x1, x2⟩ := HEX.out _ (HO7.out.trans hO3.out (by simp))))
        all_goals
          go_wp2
          go_meet
          have ha8 : ArgAt w8 A8 (effCells (rows ++ [⟨2, p, t⟩])) := fun j u hu => by
            have hu' : ([] ++ effCells rows ++ [.int .i64 2, .string p, .string t])[j]? = some u := by rw [effCells_snoc] at hu; simpa [Eff.cells] using hu
            obtain ⟨g, h1, _, h2, h3⟩ := hcells8 j u hu'
            exact ⟨g, h1, h2, h3⟩
          have hs := hB8.set (A' := A) (B' := A8) (c' := c) (d' := c8) (M' := ⟨room, lies, rows ++ [⟨2, p, t⟩], false, at_, kp, lf⟩) 2 (.slice A8 (rows.length + 1) c8) (by simp [RefS.cells]) hB8.ref.lies ha8
          exact ⟨A8, c8, hs.1, (hO4.out.mono (T := [bx]) (by simp)).trans hs.2 (fun t h _ => h)⟩
      case rest =>
      obtain ⟨A8, c8, hB9, hO9⟩ := hcut
      clear G1 G2 X0 X1 X2 e0 e1 e2 c2
      have HO9 := hide ((HO7.out.mono (T := [bx]) (by simp)).trans hO9 (fun t h _ => h))
      have HOW9 := hide (HOB.out.trans HO9.out (fun t ht hl => by have := HLowB.out; simp at ht; omega))
      have HY9 := hide ((HO9.out.block yb HSz.out (by simpa using HNeY.out.1)).trans HBy.out)
      have hc9 := hcall.out A8 c8 _ hB9.ref
      obtain ⟨c0, c1, c2, cc3, c4, c5, c6⟩ := hB9.cell
      have hln : (rows ++ [(⟨2, p, t⟩ : Eff)]).length = rows.length + 1 := by simp
      simp only at c0 c1 c2 cc3 c4 c5 c6
      rw [hln] at c2 hc9
      have HC9 := hide hc9
      clear hB9 hO9 hln hc9
      go_upto_region 14 with (go_at_call 56; (with_reducible refine HC9.out.mono ?_); rintro e wa ⟨Aa, ca, Ba, da, rfl, hra, hoa⟩)
      have HOa := hide (HOW9.out.trans hoa (by simp))
      have HYa := hide ((hoa.block yb (zero_box HY9.out).lt (by simp)).trans HY9.out)
      clear c0 c1 c2 cc3 c4 c5 c6 hoa
      obtain ⟨room3, lies3, rows3, dn3, at3, kp3, lf3⟩ := bf
      simp only at hra ⊢
      have hoA := (Only.refl [] wa).alloc (.cells #[.int .i64 room3, .slice Aa lies3.length ca, .slice Ba rows3.length da, .bool dn3, .int .i64 at3, .int .u64 kp3, .int .i64 lf3] 35)
      have HTb : Hid (BoxAt _ wa.heap.size Aa ca Ba da ⟨room3, lies3, rows3, dn3, at3, kp3, lf3⟩) := hide ⟨heap_alloc_new wa (.cells #[.int .i64 room3, .slice Aa lies3.length ca, .slice Ba rows3.length da, .bool dn3, .int .i64 at3, .int .u64 kp3, .int .i64 lf3] 35), hra.only hoA⟩
      have HOb := hide (HOa.out.trans hoA (by simp))
      have HYb := hide ((hoA.block yb (zero_box HYa.out).lt (by simp)).trans HYa.out)
      clear hoA hra
      generalize wa.alloc (.cells #[.int .i64 room3, .slice Aa lies3.length ca, .slice Ba rows3.length da, .bool dn3, .int .i64 at3, .int .u64 kp3, .int .i64 lf3] 35) = wb at *
      generalize wa.heap.size = tb at *
      obtain ⟨c0, c1, c2, cc3, c4, c5, c6⟩ := HTb.out.cell
      have z0 : wb.cell? ⟨yb, 0, none⟩ = some (.int .i64 0) := (zero_box HYb.out).cell.1
      have z1 : wb.cell? ⟨yb, 1, none⟩ = some (.slice none 0 0) := (zero_box HYb.out).cell.2.1
      have z2 : wb.cell? ⟨yb, 2, none⟩ = some (.slice none 0 0) := (zero_box HYb.out).cell.2.2.1
      have z3 : wb.cell? ⟨yb, 3, none⟩ = some (.bool false) := (zero_box HYb.out).cell.2.2.2.1
      have z4 : wb.cell? ⟨yb, 4, none⟩ = some (.int .i64 0) := (zero_box HYb.out).cell.2.2.2.2.1
      have z5 : wb.cell? ⟨yb, 5, none⟩ = some (.int .u64 0) := (zero_box HYb.out).cell.2.2.2.2.2.1
      have z6 : wb.cell? ⟨yb, 6, none⟩ = some (.int .i64 0) := (zero_box HYb.out).cell.2.2.2.2.2.2
      have fz0 := (zero_box HYb.out).free 0
      have fz1 := (zero_box HYb.out).free 1
      have fz2 := (zero_box HYb.out).free 2
      have fz3 := (zero_box HYb.out).free 3
      have fz4 := (zero_box HYb.out).free 4
      have fz5 := (zero_box HYb.out).free 5
      have fz6 := (zero_box HYb.out).free 6
      cases f
      · skip
        have hpz := put_ref HYb.out (.int .i64 room3) (.slice Aa lies3.length ca) (.slice Ba rows3.length da) (.bool dn3) (.int .i64 at3) (.int .u64 kp3) (.int .i64 lf3)
        have hrz := (zero_box HYb.out).past hpz.2 HTb.out.ref
        have hoz : Only [] w _ := HOb.out.trans hpz.2 (fun t ht hl => by have := HLow2.out; simp at ht; omega)
        have HRZ := hide hrz
        have HOZ := hide hoz
        have hsv := seven_of hpz.1
        clear hpz hrz hoz
        go_wp2
        generalize (((((((wb).setCell ⟨yb, 0, none⟩ (.int .i64 room3)).setCell ⟨yb, 1, none⟩ (.slice Aa lies3.length ca)).setCell ⟨yb, 2, none⟩ (.slice Ba rows3.length da)).setCell ⟨yb, 3, none⟩ (.bool dn3)).setCell ⟨yb, 4, none⟩ (.int .i64 at3)).setCell ⟨yb, 5, none⟩ (.int .u64 kp3)).setCell ⟨yb, 6, none⟩ (.int .i64 lf3) = wz at *
        obtain ⟨r0, r1, r2, r3, r4, r5, r6⟩ := hsv
        refine bodyPost_ret (v := .tuple #[.agg #[.int .i64 room3, .slice Aa lies3.length ca, .slice Ba rows3.length da, .bool dn3, .int .i64 at3, .int .u64 kp3, .int .i64 lf3], .int .i64 0]) (by simp [results, Try.results17, go_sem, r0, r1, r2, r3, r4, r5, r6]) rfl ?_
        rw [HRr.out]
        exact ⟨Aa, ca, Ba, da, rfl, HRZ.out, HOZ.out⟩
      · skip
        have hpz := put_ref HYb.out (.int .i64 room3) (.slice Aa lies3.length ca) (.slice Ba rows3.length da) (.bool dn3) (.int .i64 at3) (.int .u64 kp3) (.int .i64 lf3)
        have hrz := (zero_box HYb.out).past hpz.2 HTb.out.ref
        have hoz : Only [] w _ := HOb.out.trans hpz.2 (fun t ht hl => by have := HLow2.out; simp at ht; omega)
        have HRZ := hide hrz
        have HOZ := hide hoz
        have hsv := seven_of hpz.1
        clear hpz hrz hoz
        go_wp2
        generalize (((((((wb).setCell ⟨yb, 0, none⟩ (.int .i64 room3)).setCell ⟨yb, 1, none⟩ (.slice Aa lies3.length ca)).setCell ⟨yb, 2, none⟩ (.slice Ba rows3.length da)).setCell ⟨yb, 3, none⟩ (.bool dn3)).setCell ⟨yb, 4, none⟩ (.int .i64 at3)).setCell ⟨yb, 5, none⟩ (.int .u64 kp3)).setCell ⟨yb, 6, none⟩ (.int .i64 lf3) = wz at *
        obtain ⟨r0, r1, r2, r3, r4, r5, r6⟩ := hsv
        refine bodyPost_ret (v := .tuple #[.agg #[.int .i64 room3, .slice Aa lies3.length ca, .slice Ba rows3.length da, .bool dn3, .int .i64 at3, .int .u64 kp3, .int .i64 lf3], .int .i64 8]) (by simp [results, Try.results17, go_sem, r0, r1, r2, r3, r4, r5, r6]) rfl ?_
        rw [HRr.out]
        exact ⟨Aa, ca, Ba, da, rfl, HRZ.out, HOZ.out⟩
    · skip
      subst hk
      cases th
      · skip
        have hr : r = (⟨room, lies, rows, false, at_, kp, lf⟩, 5) := by rw [HR.out]; simp
        have HRr := hide hr
        clear hr HR
        go_upto_region 8 with fail
        have HYe := hide ((HO4.out).block yb HSz.out (by simp) |>.trans HBy.out)
        have HBe := hide (HBox.out.only (S := []) (HO4.out))
        have HOe := hide (HOB.out.trans (HO4.out) (by simp))
        obtain ⟨c0, c1, c2, cc3, c4, c5, c6⟩ := HBe.out.cell
        have z0 : w4.cell? ⟨yb, 0, none⟩ = some (.int .i64 0) := (zero_box HYe.out).cell.1
        have z1 : w4.cell? ⟨yb, 1, none⟩ = some (.slice none 0 0) := (zero_box HYe.out).cell.2.1
        have z2 : w4.cell? ⟨yb, 2, none⟩ = some (.slice none 0 0) := (zero_box HYe.out).cell.2.2.1
        have z3 : w4.cell? ⟨yb, 3, none⟩ = some (.bool false) := (zero_box HYe.out).cell.2.2.2.1
        have z4 : w4.cell? ⟨yb, 4, none⟩ = some (.int .i64 0) := (zero_box HYe.out).cell.2.2.2.2.1
        have z5 : w4.cell? ⟨yb, 5, none⟩ = some (.int .u64 0) := (zero_box HYe.out).cell.2.2.2.2.2.1
        have z6 : w4.cell? ⟨yb, 6, none⟩ = some (.int .i64 0) := (zero_box HYe.out).cell.2.2.2.2.2.2
        have fz0 := (zero_box HYe.out).free 0
        have fz1 := (zero_box HYe.out).free 1
        have fz2 := (zero_box HYe.out).free 2
        have fz3 := (zero_box HYe.out).free 3
        have fz4 := (zero_box HYe.out).free 4
        have fz5 := (zero_box HYe.out).free 5
        have fz6 := (zero_box HYe.out).free 6
        have hpz := put_ref HYe.out (.int .i64 room) (.slice A lies.length c) (.slice B rows.length d) (.bool false) (.int .i64 at_) (.int .u64 kp) (.int .i64 lf)
        have hrz := (zero_box HYe.out).past hpz.2 HBe.out.ref
        have hoz : Only [] w _ := HOe.out.trans hpz.2 (fun t ht hl => by have := HLow2.out; simp at ht; omega)
        have HRZ := hide hrz
        have HOZ := hide hoz
        have hsv := seven_of hpz.1
        clear hpz hrz hoz
        go_wp2
        generalize (((((((w4).setCell ⟨yb, 0, none⟩ (.int .i64 room)).setCell ⟨yb, 1, none⟩ (.slice A lies.length c)).setCell ⟨yb, 2, none⟩ (.slice B rows.length d)).setCell ⟨yb, 3, none⟩ (.bool false)).setCell ⟨yb, 4, none⟩ (.int .i64 at_)).setCell ⟨yb, 5, none⟩ (.int .u64 kp)).setCell ⟨yb, 6, none⟩ (.int .i64 lf) = wz at *
        obtain ⟨r0, r1, r2, r3, r4, r5, r6⟩ := hsv
        refine bodyPost_ret (v := .tuple #[.agg #[.int .i64 room, .slice A lies.length c, .slice B rows.length d, .bool false, .int .i64 at_, .int .u64 kp, .int .i64 lf], .int .i64 5]) (by simp [results, Try.results17, go_sem, r0, r1, r2, r3, r4, r5, r6]) rfl ?_
        rw [HRr.out]
        exact ⟨A, c, B, d, rfl, HRZ.out, HOZ.out⟩
      have hr2 : r = (bf, if f = true then 8 else 0) := by rw [HR.out]; simp
      have HRr := hide hr2
      clear hr2 HR
      go_upto_region 10 with (go_at_call 55; refine (hdone.out _ _ _ HA4.out).mono ?_; rintro e w5 ⟨A5, c5, rfl, ha5, ho5⟩; have HO5 := hide (HO4.out.trans ho5 (by simp)); have HA5 := hide ha5)
      obtain ⟨e0, e1, e2⟩ := HEX.out _ HO5.out
      clear ha5 ho5
      go_quiet (fail)
      have HO7 := hide (HO5.out.drewN nq)
      generalize w5.drewN nq = w6 at *
      go_upto_region 12 with fail
      have HB6 := hide (HBox.out.only (S := []) HO7.out)
      have HX6 := HEX.out _ HO7.out
      obtain ⟨e0, e1, e2⟩ := HX6
      have c2 := HB6.out.cell.2.2.1
      have HRl := hide (effCells_len rows)
      have hro := hide (fun W (ho : Only [] w6 W) => (HB6.out.ref.rows.off).only ho)
      have hXl : ex < w6.heap.size := World.block_lt_of_cell? w6 _ e0
      have hBl : bx < w6.heap.size := HB6.out.lt
      have G1 : ∀ o, (w6.alloc o).cell? ⟨bx, 2, none⟩ = some (.slice B rows.length d) := fun o => (World.cell?_alloc_lt w6 o _ hBl).trans c2
      have G2 : ∀ o o', ((w6.alloc o).alloc o').cell? ⟨bx, 2, none⟩ = some (.slice B rows.length d) := fun o o' => (World.cell?_alloc_lt (w6.alloc o) o' _ (by simp; omega)).trans (G1 o)
      have X0 : ∀ o, (w6.alloc o).cell? ⟨ex, 0, none⟩ = some (.int .i64 3) := fun o => (World.cell?_alloc_lt w6 o _ hXl).trans e0
      have X1 : ∀ o, (w6.alloc o).cell? ⟨ex, 1, none⟩ = some (.string p) := fun o => (World.cell?_alloc_lt w6 o _ hXl).trans e1
      have X2 : ∀ o, (w6.alloc o).cell? ⟨ex, 2, none⟩ = some (.string t) := fun o => (World.cell?_alloc_lt w6 o _ hXl).trans e2
      clear hXl hBl
      go_cut [] (fun W => MoreSt w6 W bx A c ⟨room, lies, rows ++ [⟨3, p, t⟩], false, at_, kp, lf⟩)
      case first =>
        go_region_law (first
          | (refine step_app_arg (P := Try.prog) (base := w6.heap.size) (v := v1) rfl (.tmp 75) (.tmp 77) 30 rfl Try.underlying30 infoREff rfl (by omega) rfl (by first | exact hown3 | exact hown3.alloc _ | exact (hown3.alloc _).drew) (some ⟨_, 0, none⟩) 1 1 [.int .i64 3, .string p, .string t] rfl rfl
              (argO_blk (cs := #[.int .i64 3, .string p, .string t]) (by first | exact heap_alloc_new _ _ | exact (ho3.block _ (by simp <;> omega) (by simp [Value.ownBlock])).trans (two_new _ _ _).1 | exact (ho3.block _ (by simp <;> omega) (by simp [Value.ownBlock])).trans (two_new _ _ _).2) rfl) (by simp [Value.oneCell']) (by omega) (by unfold maxLen; omega) (by have := hO3.out.size; first | omega | (simp; omega)) ?_
             intro v2 w8 hown4 ho4
             have hO4 : Hid (Only [] w6 w8) := by
               first
               | exact hO3.out.trans ho4 (fun t ht hl => by have := (own_lt hown3 ht).1; omega)
               | exact (hO3.out.alloc _).trans ho4 (fun t ht hl => by have := (own_lt hown3 ht).1; omega)
               | exact (hO3.out.alloc _).drew.trans ho4 (fun t ht hl => by have := (own_lt hown3 ht).1; omega)
             obtain ⟨A8, c8, rfl, hc8, hcells8⟩ := own_form hown4
             have hB8 := HB6.out.only (S := []) hO4.out
             have g2 := hB8.cell.2.2.1
             have fr2 := hB8.free 2)
          | (refine step_app_arg (P := Try.prog) (base := w6.heap.size) (v := .slice (some ⟨_, 0, none⟩) 0 0) rfl (.tmp 72) (.tmp 74) 30 rfl Try.underlying30 infoREff rfl (by omega) rfl (own_empty (by first | exact heap_alloc_new _ _ | exact (two_new _ _ _).1 | exact (two_new _ _ _).2) (by simp <;> omega)) B rows.length d (effCells rows) rfl HRl.out (hro.out _ (by first | exact (Only.refl _ _).drew.alloc _ | exact ((Only.refl _ _).drew.alloc _).alloc _)) (effCells_one _) (by omega) (by unfold maxLen; omega) (by simp <;> omega) ?_
             intro v1 w7 hown3 ho3
             have hO3 : Hid (Only [] w6 w7) := by
               first
               | exact (((Only.refl [] w6).alloc _).drew).trans ho3 (fun t ht hl => by simp [Value.ownBlock] at ht; omega)
               | exact ((((Only.refl [] w6).alloc _).alloc _).drew).trans ho3 (fun t ht hl => by simp [Value.ownBlock] at ht; omega)
             obtain ⟨x0, x1, x2⟩ := HEX.out _ (HO7.out.trans hO3.out (by simp))))
        all_goals
          go_wp2
          go_meet
          have ha8 : ArgAt w8 A8 (effCells (rows ++ [⟨3, p, t⟩])) := fun j u hu => by
            have hu' : ([] ++ effCells rows ++ [.int .i64 3, .string p, .string t])[j]? = some u := by rw [effCells_snoc] at hu; simpa [Eff.cells] using hu
            obtain ⟨g, h1, _, h2, h3⟩ := hcells8 j u hu'
            exact ⟨g, h1, h2, h3⟩
          have hs := hB8.set (A' := A) (B' := A8) (c' := c) (d' := c8) (M' := ⟨room, lies, rows ++ [⟨3, p, t⟩], false, at_, kp, lf⟩) 2 (.slice A8 (rows.length + 1) c8) (by simp [RefS.cells]) hB8.ref.lies ha8
          exact ⟨A8, c8, hs.1, (hO4.out.mono (T := [bx]) (by simp)).trans hs.2 (fun t h _ => h)⟩
      case rest =>
      obtain ⟨A8, c8, hB9, hO9⟩ := hcut
      clear G1 G2 X0 X1 X2 e0 e1 e2 c2
      have HO9 := hide ((HO7.out.mono (T := [bx]) (by simp)).trans hO9 (fun t h _ => h))
      have HOW9 := hide (HOB.out.trans HO9.out (fun t ht hl => by have := HLowB.out; simp at ht; omega))
      have HY9 := hide ((HO9.out.block yb HSz.out (by simpa using HNeY.out.1)).trans HBy.out)
      have hc9 := hcall.out A8 c8 _ hB9.ref
      obtain ⟨c0, c1, c2, cc3, c4, c5, c6⟩ := hB9.cell
      have hln : (rows ++ [(⟨3, p, t⟩ : Eff)]).length = rows.length + 1 := by simp
      simp only at c0 c1 c2 cc3 c4 c5 c6
      rw [hln] at c2 hc9
      have HC9 := hide hc9
      clear hB9 hO9 hln hc9
      go_upto_region 14 with (go_at_call 56; (with_reducible refine HC9.out.mono ?_); rintro e wa ⟨Aa, ca, Ba, da, rfl, hra, hoa⟩)
      have HOa := hide (HOW9.out.trans hoa (by simp))
      have HYa := hide ((hoa.block yb (zero_box HY9.out).lt (by simp)).trans HY9.out)
      clear c0 c1 c2 cc3 c4 c5 c6 hoa
      obtain ⟨room3, lies3, rows3, dn3, at3, kp3, lf3⟩ := bf
      simp only at hra ⊢
      have hoA := (Only.refl [] wa).alloc (.cells #[.int .i64 room3, .slice Aa lies3.length ca, .slice Ba rows3.length da, .bool dn3, .int .i64 at3, .int .u64 kp3, .int .i64 lf3] 35)
      have HTb : Hid (BoxAt _ wa.heap.size Aa ca Ba da ⟨room3, lies3, rows3, dn3, at3, kp3, lf3⟩) := hide ⟨heap_alloc_new wa (.cells #[.int .i64 room3, .slice Aa lies3.length ca, .slice Ba rows3.length da, .bool dn3, .int .i64 at3, .int .u64 kp3, .int .i64 lf3] 35), hra.only hoA⟩
      have HOb := hide (HOa.out.trans hoA (by simp))
      have HYb := hide ((hoA.block yb (zero_box HYa.out).lt (by simp)).trans HYa.out)
      clear hoA hra
      generalize wa.alloc (.cells #[.int .i64 room3, .slice Aa lies3.length ca, .slice Ba rows3.length da, .bool dn3, .int .i64 at3, .int .u64 kp3, .int .i64 lf3] 35) = wb at *
      generalize wa.heap.size = tb at *
      obtain ⟨c0, c1, c2, cc3, c4, c5, c6⟩ := HTb.out.cell
      have z0 : wb.cell? ⟨yb, 0, none⟩ = some (.int .i64 0) := (zero_box HYb.out).cell.1
      have z1 : wb.cell? ⟨yb, 1, none⟩ = some (.slice none 0 0) := (zero_box HYb.out).cell.2.1
      have z2 : wb.cell? ⟨yb, 2, none⟩ = some (.slice none 0 0) := (zero_box HYb.out).cell.2.2.1
      have z3 : wb.cell? ⟨yb, 3, none⟩ = some (.bool false) := (zero_box HYb.out).cell.2.2.2.1
      have z4 : wb.cell? ⟨yb, 4, none⟩ = some (.int .i64 0) := (zero_box HYb.out).cell.2.2.2.2.1
      have z5 : wb.cell? ⟨yb, 5, none⟩ = some (.int .u64 0) := (zero_box HYb.out).cell.2.2.2.2.2.1
      have z6 : wb.cell? ⟨yb, 6, none⟩ = some (.int .i64 0) := (zero_box HYb.out).cell.2.2.2.2.2.2
      have fz0 := (zero_box HYb.out).free 0
      have fz1 := (zero_box HYb.out).free 1
      have fz2 := (zero_box HYb.out).free 2
      have fz3 := (zero_box HYb.out).free 3
      have fz4 := (zero_box HYb.out).free 4
      have fz5 := (zero_box HYb.out).free 5
      have fz6 := (zero_box HYb.out).free 6
      cases f
      · skip
        have hpz := put_ref HYb.out (.int .i64 room3) (.slice Aa lies3.length ca) (.slice Ba rows3.length da) (.bool dn3) (.int .i64 at3) (.int .u64 kp3) (.int .i64 lf3)
        have hrz := (zero_box HYb.out).past hpz.2 HTb.out.ref
        have hoz : Only [] w _ := HOb.out.trans hpz.2 (fun t ht hl => by have := HLow2.out; simp at ht; omega)
        have HRZ := hide hrz
        have HOZ := hide hoz
        have hsv := seven_of hpz.1
        clear hpz hrz hoz
        go_wp2
        generalize (((((((wb).setCell ⟨yb, 0, none⟩ (.int .i64 room3)).setCell ⟨yb, 1, none⟩ (.slice Aa lies3.length ca)).setCell ⟨yb, 2, none⟩ (.slice Ba rows3.length da)).setCell ⟨yb, 3, none⟩ (.bool dn3)).setCell ⟨yb, 4, none⟩ (.int .i64 at3)).setCell ⟨yb, 5, none⟩ (.int .u64 kp3)).setCell ⟨yb, 6, none⟩ (.int .i64 lf3) = wz at *
        obtain ⟨r0, r1, r2, r3, r4, r5, r6⟩ := hsv
        refine bodyPost_ret (v := .tuple #[.agg #[.int .i64 room3, .slice Aa lies3.length ca, .slice Ba rows3.length da, .bool dn3, .int .i64 at3, .int .u64 kp3, .int .i64 lf3], .int .i64 0]) (by simp [results, Try.results17, go_sem, r0, r1, r2, r3, r4, r5, r6]) rfl ?_
        rw [HRr.out]
        exact ⟨Aa, ca, Ba, da, rfl, HRZ.out, HOZ.out⟩
      · skip
        have hpz := put_ref HYb.out (.int .i64 room3) (.slice Aa lies3.length ca) (.slice Ba rows3.length da) (.bool dn3) (.int .i64 at3) (.int .u64 kp3) (.int .i64 lf3)
        have hrz := (zero_box HYb.out).past hpz.2 HTb.out.ref
        have hoz : Only [] w _ := HOb.out.trans hpz.2 (fun t ht hl => by have := HLow2.out; simp at ht; omega)
        have HRZ := hide hrz
        have HOZ := hide hoz
        have hsv := seven_of hpz.1
        clear hpz hrz hoz
        go_wp2
        generalize (((((((wb).setCell ⟨yb, 0, none⟩ (.int .i64 room3)).setCell ⟨yb, 1, none⟩ (.slice Aa lies3.length ca)).setCell ⟨yb, 2, none⟩ (.slice Ba rows3.length da)).setCell ⟨yb, 3, none⟩ (.bool dn3)).setCell ⟨yb, 4, none⟩ (.int .i64 at3)).setCell ⟨yb, 5, none⟩ (.int .u64 kp3)).setCell ⟨yb, 6, none⟩ (.int .i64 lf3) = wz at *
        obtain ⟨r0, r1, r2, r3, r4, r5, r6⟩ := hsv
        refine bodyPost_ret (v := .tuple #[.agg #[.int .i64 room3, .slice Aa lies3.length ca, .slice Ba rows3.length da, .bool dn3, .int .i64 at3, .int .u64 kp3, .int .i64 lf3], .int .i64 8]) (by simp [results, Try.results17, go_sem, r0, r1, r2, r3, r4, r5, r6]) rfl ?_
        rw [HRr.out]
        exact ⟨Aa, ca, Ba, da, rfl, HRZ.out, HOZ.out⟩
end Go.Proofs.Ytljkaafdajpmkaa
