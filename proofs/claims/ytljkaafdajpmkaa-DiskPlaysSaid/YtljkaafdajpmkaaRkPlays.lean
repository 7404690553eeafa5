/- DiskPlays, walked. -/
import Derived.Test.YtljkaafdajpmkaaRkState
import Derived.Deep.CutBlock
namespace Go.Proofs.Ytljkaafdajpmkaa
open Go.RowKit
set_option linter.unusedVariables false

theorem mid_cells {w W : World} {g mb xb n : Nat} {A B : Option Addr} {c d : Nat} {M : RefS} {S S' : DiskS} {a : Act} (h : MidSt w W g mb xb A c B d M S S' n a) (hd : M.down = false) :
    W.cell? ⟨xb, 1, none⟩ = some (.string a.path) ∧ W.cell? ⟨mb, 0, none⟩ = some (.int .i64 M.room) ∧ W.cell? ⟨mb, 1, none⟩ = some (.slice A M.lies.length c) ∧ W.cell? ⟨mb, 2, none⟩ = some (.slice B M.rows.length d) ∧ W.cell? ⟨mb, 3, none⟩ = some (.bool false) ∧
    W.cell? ⟨mb, 4, none⟩ = some (.int .i64 M.at_) ∧ W.cell? ⟨mb, 5, none⟩ = some (.int .u64 M.keep) ∧ W.cell? ⟨mb, 6, none⟩ = some (.int .i64 M.left) := by
  obtain ⟨c0, c1, c2, c3, c4, c5, c6⟩ := h.box.cell
  rw [hd] at c3
  exact ⟨(act_cells h.copy rfl).2.1, c0, c1, c2, c3, c4, c5, c6⟩
theorem act_len {S : DiskS} {n : Nat} (a : Act) (h : Sound n S) : (S.act a).1.2.1.length ≤ n := by
  unfold DiskS.act
  repeat' split
  all_goals first
    | exact Nat.zero_le _
    | (have h1 : (S.list a.path).length ≤ S.seen.length := by
         unfold DiskS.list
         rw [sortKeys_length]
         refine Nat.le_trans (List.length_filter_le _ _) ?_
         simp
       have h2 := took_wt S.seen
       have h3 := h.seen
       show (S.list a.path).length ≤ n
       omega)
theorem fdown_eq {w W : World} {g : Nat} {S : DiskS} {b : Bool} (h : FIn w W [] g S) (hd : S.down = b) : Calls Try.prog 25 #[.pointer (some ⟨g, 0, none⟩)] W fun e w' => e = .returned (.bool b) ∧ w' = W := by
  have := down_fr h
  rw [hd] at this
  exact this
theorem fwait_eq {w W : World} {g : Nat} {S : DiskS} {n : Nat} (h : FIn w W [] g S) (hd : S.waits.length = n) : Calls Try.prog 26 #[.pointer (some ⟨g, 0, none⟩)] W fun e w' => e = .returned (.int .i64 n) ∧ w' = W := by
  have := waiting_fr h
  rw [hd] at this
  exact this
theorem hp6_took {w W : World} {g mb n : Nat} {A B : Option Addr} {c d : Nat} {M : RefS} {S : DiskS} (h : PSt w W g mb A c B d M S n) : tookOf (rSeen M.lies M.rows) ≤ n := by
  have h1 := h.sim.seen.took
  have h2 := took_wt S.seen
  have h3 := h.sound.seen
  omega
theorem texts_same (l : List ByteArray) (A B : Option Addr) (c d : Nat) (w : World) (hl : l.length ≤ 1000000) (ha : ArgAt w A (l.map Value.string)) (hb : ArgAt w B (l.map Value.string)) :
    Calls Try.prog 24 #[.slice A l.length c, .slice B l.length d] w fun e w' => e = .returned (.bool true) ∧ Only [] w w' := by
  refine (texts_any l l A B c d w hl hl ha hb).mono fun e w' h => ?_
  unfold TextsPost at h
  rw [decide_eq_true rfl] at h
  exact h
set_option maxHeartbeats 8000000 in
set_option maxRecDepth 100000 in
theorem plays_any (room : Int) (l : List Act) (A : Option Addr) (c : Nat) (w : World) (hlc : l.length ≤ c) (hcm : c ≤ maxLen) (hl : ∀ a ∈ l, a.Is) (hA : ActsAt w A l) :
    Calls Try.prog 3 #[.int .i64 room, .slice A l.length c] w (OkPost w) := by
  have hf1 := hide (fun W (h : Only [] w W) => few_any l A c W hlc hcm hl (hA.only h))
  have hlm : l.length ≤ 9223372036854775807 := by unfold maxLen at hcm; omega
  have hrn := hide (fun W => rnew_any room W)
  have HAs := hide hA
  have HL := hide hl
  clear hA hl hcm hlc
  have hbad := hide (fun W h => new_bad room W h)
  have hgood := hide (fun W h0 h1 => new_fr room W h0 h1)
  go_enter Try.func3, Try.ntmps3
  go_upto_region 3 with (go_at_call 12; refine (awake_any _).mono ?_; rintro e w1 ⟨rfl, ho1⟩)
  have HO1 := hide ho1
  clear ho1
  go_upto_region 5 with (go_at_call 13; (with_reducible refine (hf1.out _ HO1.out).mono ?_); rintro e w2 ⟨b, rfl, hy, ho2⟩; cases b)
  · go_ret
    exact ⟨rfl, HO1.out.trans ho2 (by simp)⟩
  have HC := hide (hy (by first | rfl | trivial))
  have HO2 := hide (HO1.out.trans ho2 (by simp))
  clear hy ho2 hf1 HO1
  by_cases hroom : room < 0 ∨ 16777216 < room
  · have hb : (decide (0 ≤ room) && decide (room ≤ 16777216)) = false := by simp; omega
    have hnew := hide (hbad.out w2 hroom)
    unfold RNewPost at hrn
    rw [hb] at hrn
    clear hb hroom hbad hgood
    go_wp2_with (first
      | (go_at_call 15; refine (hrn.out _).mono ?_; rintro e w4 ⟨rfl, ho4⟩)
      | (go_at_call 14; refine hnew.out.mono ?_; rintro e w3 ⟨rfl, rfl⟩))
    go_ret
    exact ⟨rfl, (HO2.out.trans ho4 (by simp)).alloc _⟩
  · have hb : (decide (0 ≤ room) && decide (room ≤ 16777216)) = true := by simp; omega
    have hnew := hide (hgood.out w2 (by omega) (by omega))
    unfold RNewPost at hrn
    rw [hb] at hrn
    have hrm : room ≤ 9223372036854775807 := by omega
    have HRM := hide hrm
    clear hb hroom hbad hgood hrm
    go_wp2_with (first
      | (go_at_call 15; refine (hrn.out _).mono ?_; rintro e w4 ⟨rfl, ho4⟩)
      | (go_at_call 14; refine hnew.out.mono ?_; rintro e w3 ⟨g, rfl, hd3, hg3⟩))
    have hP0 : PSt w2 (w4.alloc (.cells #[.int .i64 room, .slice none 0 0, .slice none 0 0, .bool false, .int .i64 0, .int .u64 0, .int .i64 0] 35)) g w4.heap.size none 0 none 0 (RefS.fresh room) (DiskS.fresh room) 0 :=
      ⟨(hd3.quiet ho4).quiet ((Only.refl [] w4).alloc _), ⟨heap_alloc_new w4 _, ArgAt.nil _ _, ArgAt.nil _ _⟩, (hd3.only.trans ho4 (by simp)).size, RSim.fresh room, Sound.fresh room, by simp [RefS.fresh], HRM.out⟩
    have HP0 : Hid (PSome w2 (w4.alloc (.cells #[.int .i64 room, .slice none 0 0, .slice none 0 0, .bool false, .int .i64 0, .int .u64 0, .int .i64 0] 35)) g w4.heap.size (DiskS.fresh room) 0) := hide ⟨_, _, _, _, _, hP0⟩
    clear hP0 hd3 ho4 hg3 hnew hrn
    generalize w4.alloc (.cells #[.int .i64 room, .slice none 0 0, .slice none 0 0, .bool false, .int .i64 0, .int .u64 0, .int .i64 0] 35) = w5 at *
    generalize w4.heap.size = mb at *
    go_loopw [9] (fun v9 W => ∃ (j : Nat) (S : DiskS), j ≤ l.length ∧ v9 = .int .i64 j ∧ PSome w2 W g mb S (actszs (l.take j))) (fun v9 _ => (l.length - intOf v9).toNat)
    case atStart => exact ⟨0, _, by omega, rfl, HP0.out⟩
    case round =>
      clear HP0
      obtain ⟨j, S, hj, rfl, M, A0, c0, B0, d0, hp⟩ := hrel
      by_cases hlt : j < l.length
      · obtain ⟨a, hr⟩ : ∃ a, l[j]? = some a := ⟨_, List.getElem?_eq_getElem hlt⟩
        obtain ⟨ga, off, rfl, hga, k0, k1, k2, k3, k4⟩ := (HAs.out.only HO2.out).only hp.din.only j a hr
        have his := hide (HL.out a (List.mem_of_getElem? hr))
        have hsz := sz_of_few HC.out hr
        have hpz : a.path.size ≤ 90000 := by unfold Act.sz at hsz; omega
        have htz : a.text.size ≤ 90000 := by unfold Act.sz at hsz; omega
        have HR := hide hr
        have hoA : Only [] wr (wr.alloc (.cells #[.int .i64 a.kind, .string a.path, .string a.text, .int .i64 a.at_, .int .u64 a.keep] 39)) := (Only.refl [] wr).alloc _
        have hcp := hide (heap_alloc_new wr (.cells #[.int .i64 a.kind, .string a.path, .string a.text, .int .i64 a.at_, .int .u64 a.keep] 39))
        have HPc := hide (hp.quiet hoA)
        have hsnd := hide hp.sound
        have hsim := hide hp.sim
        have hkeep := hide hp.keep
        have hroom := hide hp.room
        have hlen := hp.len
        have HLen := hide hlen
        clear hp hr hoA
        go_upto_region 15 with fail
        generalize wr.alloc (.cells #[.int .i64 a.kind, .string a.path, .string a.text, .int .i64 a.at_, .int .u64 a.keep] 39) = wC at *
        generalize wr.heap.size = xb at *
        obtain ⟨x0, x1, x2, x3, x4⟩ := act_cells hcp.out rfl
        obtain ⟨K, hFK, hXK, hBK⟩ := HPc.out.frame [xb] (fun k hk => by
          obtain rfl : k = xb := by simpa using hk
          exact ⟨_, x1, fun m e => by cases e⟩)
        have HD := hide (do_fr a hsnd.out (by omega) hFK hpz htz)
        have HBK := hide hBK
        have HXK := hide (hXK xb (by simp))
        clear hFK hBK hXK k0 k1 k2 k3 k4 hga
        go_upto_region 18 with (go_at_call 16; refine HD.out.mono ?_; rintro e w6 ⟨A1, c1, rfl, ha1, hd6, hk6⟩)
        have HMid : Hid (MidSt w2 w6 g mb xb A0 c0 B0 d0 M S (S.act a).2 (actszs (l.take j) + a.sz) a) := hide ⟨hd6.less, HBK.out _ hk6, HPc.out.lo, (hk6.2 xb HXK.out).trans hcp.out⟩
        have HA1 := hide ha1
        have HSim := hide (hsim.out.act a)
        have HSnd := hide (hsnd.out.act his.out)
        have HKp : Hid (0 ≤ (M.act a).keep ∧ (M.act a).keep < 18446744073709551616) := hide (by
          have h1 := hkeep.out
          have h2 := his.out.keep
          rcases (M.act_keep a).1 with e | e <;> rw [e] <;> omega)
        have HRm : Hid ((M.act a).room ≤ 9223372036854775807) := hide (by rw [(M.act_keep a).2]; exact hroom.out)
        clear hd6 hk6 ha1 HD HBK HXK HPc hcp x0 x1 x2 x3 x4
        have e00 := (act_cells HMid.out.copy rfl).1
        go_upto_block 2 with fail
        clear e00
        go_cut [14, 15, 16] (fun v14 v15 v16 W => RoundSt w2 g mb (S.act a) (actszs (l.take j) + a.sz) A1 v14 v15 v16 W)
        case first =>
          have e0 := (act_cells HMid.out.copy rfl).1
          have e1 := (act_cells HMid.out.copy rfl).2.1
          have e2 := (act_cells HMid.out.copy rfl).2.2.1
          have e3 := (act_cells HMid.out.copy rfl).2.2.2.1
          have e4 := (act_cells HMid.out.copy rfl).2.2.2.2
          obtain ⟨c0', c1', c2', c3', c4', c5', c6'⟩ := HMid.out.box.cell
          by_cases h1 : a.kind = 1
          · have hma : M.act a = (M.doing ⟨1, a.path, a.text⟩).1 := by unfold RefS.act; simp [h1]
            have hcd := (hsim.out.write a.path a.text).1
            have hact : (S.act a).1 = (⟨#[]⟩, [], (S.write a.path a.text).1) := by unfold DiskS.act; simp [h1]
            have hle := hsim.out.left
            have hl0 := hsim.out.left0
            have hlb := hsnd.out.left.2
            have htk := hsim.out.took_done hsnd.out (r := ⟨1, a.path, a.text⟩) (e := ⟨0, a.path, a.text⟩) ⟨.inl rfl, rfl, rfl, .inr rfl⟩
            have htk2 : tookOf (rDone (rSeen M.lies M.rows) ⟨1, a.path, a.text⟩) ≤ 1000000 := by
              have e0 : (⟨#[]⟩ : ByteArray).size = 0 := rfl
              unfold Eff.sz at htk
              simp only at htk
              omega
            have hkk : (⟨a.kind, a.path, a.text⟩ : Eff) = ⟨1, a.path, a.text⟩ := by rw [h1]
            rw [← hkk] at htk2
            have hc6 := rdo_any M ⟨a.kind, a.path, a.text⟩ A0 c0 B0 d0 w6 (by omega) hkeep.out.1 hkeep.out.2 (by omega) (by omega) hroom.out (.inl h1) (by simp only; omega) (by simp only; omega) htk2 HMid.out.box.ref
            obtain ⟨M6, cd6, hM6⟩ : ∃ m c, M.doing ⟨1, a.path, a.text⟩ = (m, c) := ⟨_, _, rfl⟩
            rw [hM6] at hma hcd
            have hM6' : M.doing ⟨a.kind, a.path, a.text⟩ = (M6, cd6) := by rw [hkk]; exact hM6
            rw [hM6'] at hc6
            simp only at hc6 hma hcd
            rw [← hcd] at hact
            rw [hma] at HSim HKp HRm
            have dk : (a.kind == 1) = true := by simp [h1]
            have HC6 := hide hc6
            have HAct := hide hact
            clear hact hma hle hl0 hlb htk htk2 h1 hc6 hcd hM6 hM6' hkk
            go_wp2_with (go_at_call 17; refine HC6.out.mono ?_; rintro e w7 ⟨A6, c6, B6, d6, rfl, hr6, ho6⟩; have hMd := hide (HMid.out.quiet ho6); obtain ⟨g0, g1, g2, g3, g4, g5, g6⟩ := hMd.out.box.cell; have fr0 := hMd.out.box.free 0; have fr1 := hMd.out.box.free 1; have fr2 := hMd.out.box.free 2; have fr3 := hMd.out.box.free 3; have fr4 := hMd.out.box.free 4; have fr5 := hMd.out.box.free 5; have fr6 := hMd.out.box.free 6)
            go_meet
            have hpb := put_box (c' := c6) (d' := d6) hMd.out.box hr6
            have hfi := hMd.out.din.wrote hMd.out.box hMd.out.lo hpb.2
            unfold RoundSt
            rw [HAct.out]
            exact ⟨rfl, rfl, ⟨none, 0, rfl, ArgAt.nil _ _⟩, ArgAt.nil _ _, M6, A6, c6, B6, d6, ⟨hfi, hpb.1, hMd.out.lo, HSim.out, HSnd.out, HKp.out, HRm.out⟩⟩
          have d1 : (a.kind == 1) = false := by simpa using h1
          by_cases h2 : a.kind = 2
          · have hma : M.act a = (M.doing ⟨2, a.path, a.text⟩).1 := by unfold RefS.act; simp [h2]
            have hcd := (hsim.out.rename a.path a.text).1
            have hact : (S.act a).1 = (⟨#[]⟩, [], (S.rename a.path a.text).1) := by unfold DiskS.act; simp [h2]
            have hle := hsim.out.left
            have hl0 := hsim.out.left0
            have hlb := hsnd.out.left.2
            have htk := hsim.out.took_done hsnd.out (r := ⟨2, a.path, a.text⟩) (e := ⟨1, a.path, a.text⟩) ⟨.inr (.inl rfl), rfl, rfl, .inr rfl⟩
            have htk2 : tookOf (rDone (rSeen M.lies M.rows) ⟨2, a.path, a.text⟩) ≤ 1000000 := by
              have e0 : (⟨#[]⟩ : ByteArray).size = 0 := rfl
              unfold Eff.sz at htk
              simp only at htk
              omega
            have hkk : (⟨a.kind, a.path, a.text⟩ : Eff) = ⟨2, a.path, a.text⟩ := by rw [h2]
            rw [← hkk] at htk2
            have hc6 := rdo_any M ⟨a.kind, a.path, a.text⟩ A0 c0 B0 d0 w6 (by omega) hkeep.out.1 hkeep.out.2 (by omega) (by omega) hroom.out (.inr (.inl h2)) (by simp only; omega) (by simp only; omega) htk2 HMid.out.box.ref
            obtain ⟨M6, cd6, hM6⟩ : ∃ m c, M.doing ⟨2, a.path, a.text⟩ = (m, c) := ⟨_, _, rfl⟩
            rw [hM6] at hma hcd
            have hM6' : M.doing ⟨a.kind, a.path, a.text⟩ = (M6, cd6) := by rw [hkk]; exact hM6
            rw [hM6'] at hc6
            simp only at hc6 hma hcd
            rw [← hcd] at hact
            rw [hma] at HSim HKp HRm
            have dk : (a.kind == 2) = true := by simp [h2]
            have HC6 := hide hc6
            have HAct := hide hact
            clear hact hma hle hl0 hlb htk htk2 h2 hc6 hcd hM6 hM6' hkk h1
            go_wp2_with (go_at_call 17; refine HC6.out.mono ?_; rintro e w7 ⟨A6, c6, B6, d6, rfl, hr6, ho6⟩; have hMd := hide (HMid.out.quiet ho6); obtain ⟨g0, g1, g2, g3, g4, g5, g6⟩ := hMd.out.box.cell; have fr0 := hMd.out.box.free 0; have fr1 := hMd.out.box.free 1; have fr2 := hMd.out.box.free 2; have fr3 := hMd.out.box.free 3; have fr4 := hMd.out.box.free 4; have fr5 := hMd.out.box.free 5; have fr6 := hMd.out.box.free 6)
            go_meet
            have hpb := put_box (c' := c6) (d' := d6) hMd.out.box hr6
            have hfi := hMd.out.din.wrote hMd.out.box hMd.out.lo hpb.2
            unfold RoundSt
            rw [HAct.out]
            exact ⟨rfl, rfl, ⟨none, 0, rfl, ArgAt.nil _ _⟩, ArgAt.nil _ _, M6, A6, c6, B6, d6, ⟨hfi, hpb.1, hMd.out.lo, HSim.out, HSnd.out, HKp.out, HRm.out⟩⟩
          have d2 : (a.kind == 2) = false := by simpa using h2
          by_cases h3 : a.kind = 3
          · have hma : M.act a = (M.doing ⟨3, a.path, a.text⟩).1 := by unfold RefS.act; simp [h3]
            have hcd := (hsim.out.remove a.path a.text).1
            have hact : (S.act a).1 = (⟨#[]⟩, [], (S.remove a.path).1) := by unfold DiskS.act; simp [h3]
            have hle := hsim.out.left
            have hl0 := hsim.out.left0
            have hlb := hsnd.out.left.2
            have htk := hsim.out.took_done hsnd.out (r := ⟨3, a.path, a.text⟩) (e := ⟨2, a.path, ⟨#[]⟩⟩) ⟨.inr (.inr rfl), rfl, rfl, .inl rfl⟩
            have htk2 : tookOf (rDone (rSeen M.lies M.rows) ⟨3, a.path, a.text⟩) ≤ 1000000 := by
              have e0 : (⟨#[]⟩ : ByteArray).size = 0 := rfl
              unfold Eff.sz at htk
              simp only at htk
              omega
            have hkk : (⟨a.kind, a.path, a.text⟩ : Eff) = ⟨3, a.path, a.text⟩ := by rw [h3]
            rw [← hkk] at htk2
            have hc6 := rdo_any M ⟨a.kind, a.path, a.text⟩ A0 c0 B0 d0 w6 (by omega) hkeep.out.1 hkeep.out.2 (by omega) (by omega) hroom.out (.inr (.inr h3)) (by simp only; omega) (by simp only; omega) htk2 HMid.out.box.ref
            obtain ⟨M6, cd6, hM6⟩ : ∃ m c, M.doing ⟨3, a.path, a.text⟩ = (m, c) := ⟨_, _, rfl⟩
            rw [hM6] at hma hcd
            have hM6' : M.doing ⟨a.kind, a.path, a.text⟩ = (M6, cd6) := by rw [hkk]; exact hM6
            rw [hM6'] at hc6
            simp only at hc6 hma hcd
            rw [← hcd] at hact
            rw [hma] at HSim HKp HRm
            have dk : (a.kind == 3) = true := by simp [h3]
            have HC6 := hide hc6
            have HAct := hide hact
            clear hact hma hle hl0 hlb htk htk2 h3 hc6 hcd hM6 hM6' hkk h1 h2
            go_wp2_with (go_at_call 17; refine HC6.out.mono ?_; rintro e w7 ⟨A6, c6, B6, d6, rfl, hr6, ho6⟩; have hMd := hide (HMid.out.quiet ho6); obtain ⟨g0, g1, g2, g3, g4, g5, g6⟩ := hMd.out.box.cell; have fr0 := hMd.out.box.free 0; have fr1 := hMd.out.box.free 1; have fr2 := hMd.out.box.free 2; have fr3 := hMd.out.box.free 3; have fr4 := hMd.out.box.free 4; have fr5 := hMd.out.box.free 5; have fr6 := hMd.out.box.free 6)
            go_meet
            have hpb := put_box (c' := c6) (d' := d6) hMd.out.box hr6
            have hfi := hMd.out.din.wrote hMd.out.box hMd.out.lo hpb.2
            unfold RoundSt
            rw [HAct.out]
            exact ⟨rfl, rfl, ⟨none, 0, rfl, ArgAt.nil _ _⟩, ArgAt.nil _ _, M6, A6, c6, B6, d6, ⟨hfi, hpb.1, hMd.out.lo, HSim.out, HSnd.out, HKp.out, HRm.out⟩⟩
          have d3 : (a.kind == 3) = false := by simpa using h3
          by_cases h4 : a.kind = 4
          · have hma : M.act a = M.sync.1 := by unfold RefS.act; simp [h4]
            have hcd := hsim.out.sync.1
            have hact : (S.act a).1 = (⟨#[]⟩, [], S.sync.1) := by unfold DiskS.act; simp [h4]
            have hle := hsim.out.left
            have hl0 := hsim.out.left0
            have hlb := hsnd.out.left.2
            have hc6 := rsync_any M A0 c0 B0 d0 w6 (by omega) hkeep.out.1 hkeep.out.2 (by omega) (by omega) HMid.out.box.ref
            obtain ⟨M6, cd6, hM6⟩ : ∃ m c, M.sync = (m, c) := ⟨_, _, rfl⟩
            rw [hM6] at hc6 hma hcd
            simp only at hc6 hma hcd
            rw [← hcd] at hact
            rw [hma] at HSim HKp HRm
            have dk : (a.kind == 4) = true := by simp [h4]
            have HC6 := hide hc6
            have HAct := hide hact
            clear hact hma hle hl0 hlb h4 hc6 hcd hM6 h1 h2 h3
            go_wp2_with (go_at_call 18; refine HC6.out.mono ?_; rintro e w7 ⟨A6, c6, B6, d6, rfl, hr6, ho6⟩; have hMd := hide (HMid.out.quiet ho6); obtain ⟨g0, g1, g2, g3, g4, g5, g6⟩ := hMd.out.box.cell; have fr0 := hMd.out.box.free 0; have fr1 := hMd.out.box.free 1; have fr2 := hMd.out.box.free 2; have fr3 := hMd.out.box.free 3; have fr4 := hMd.out.box.free 4; have fr5 := hMd.out.box.free 5; have fr6 := hMd.out.box.free 6)
            go_meet
            have hpb := put_box (c' := c6) (d' := d6) hMd.out.box hr6
            have hfi := hMd.out.din.wrote hMd.out.box hMd.out.lo hpb.2
            unfold RoundSt
            rw [HAct.out]
            exact ⟨rfl, rfl, ⟨none, 0, rfl, ArgAt.nil _ _⟩, ArgAt.nil _ _, M6, A6, c6, B6, d6, ⟨hfi, hpb.1, hMd.out.lo, HSim.out, HSnd.out, HKp.out, HRm.out⟩⟩
          have d4 : (a.kind == 4) = false := by simpa using h4
          by_cases h5 : a.kind = 5
          · have hma : M.act a = M.armed a.at_ a.keep := by unfold RefS.act; simp [h5]
            have hact : (S.act a).1 = (⟨#[]⟩, [], 0) := by unfold DiskS.act; simp [h5]
            have hc6 := rarm_any M A0 c0 B0 d0 a.at_ a.keep w6
            unfold RefVal at hc6
            have hr6' : RefAt w6 A0 B0 (M.armed a.at_ a.keep) := ⟨HMid.out.box.ref.lies, HMid.out.box.ref.rows⟩
            obtain ⟨M6, hM6⟩ : ∃ m, M.armed a.at_ a.keep = m := ⟨_, rfl⟩
            rw [hM6] at hc6 hma hr6'
            rw [hma] at HSim HKp HRm
            have dk : (a.kind == 5) = true := by simp [h5]
            have HC6 := hide hc6
            have HAct := hide hact
            have HR6 := hide hr6'
            clear hact hma h5 hc6 hM6 hr6' h1 h2 h3 h4
            go_wp2_with (go_at_call 19; refine HC6.out.mono ?_; rintro e w7 ⟨rfl, ho6⟩; have hMd := hide (HMid.out.quiet ho6); obtain ⟨g0, g1, g2, g3, g4, g5, g6⟩ := hMd.out.box.cell; have fr0 := hMd.out.box.free 0; have fr1 := hMd.out.box.free 1; have fr2 := hMd.out.box.free 2; have fr3 := hMd.out.box.free 3; have fr4 := hMd.out.box.free 4; have fr5 := hMd.out.box.free 5; have fr6 := hMd.out.box.free 6)
            have hr6 := HR6.out.only ho6
            go_meet
            have hpb := put_box (c' := c0) (d' := d0) hMd.out.box hr6
            have hfi := hMd.out.din.wrote hMd.out.box hMd.out.lo hpb.2
            unfold RoundSt
            rw [HAct.out]
            exact ⟨rfl, rfl, ⟨none, 0, rfl, ArgAt.nil _ _⟩, ArgAt.nil _ _, M6, A0, c0, B0, d0, ⟨hfi, hpb.1, hMd.out.lo, HSim.out, HSnd.out, HKp.out, HRm.out⟩⟩
          have d5 : (a.kind == 5) = false := by simpa using h5
          by_cases h6 : a.kind = 6
          · have hma : M.act a = { M with down := false } := by unfold RefS.act; simp [h6]
            have hact : (S.act a).1 = (⟨#[]⟩, [], 0) := by unfold DiskS.act; simp [h6]
            rw [hma] at HSim HKp HRm
            have dk : (a.kind == 6) = true := by simp [h6]
            have HAct := hide hact
            have hs := HMid.out.box.set (A' := A0) (B' := B0) (c' := c0) (d' := d0) (M' := { M with down := false }) 3 (.bool false) (by simp [RefS.cells]) HMid.out.box.ref.lies HMid.out.box.ref.rows
            have hfi := HMid.out.din.wrote HMid.out.box HMid.out.lo hs.2
            have HS := hide hs
            have HFi := hide hfi
            have fr3 := HMid.out.box.free 3
            clear hact hma h6 hs hfi h1 h2 h3 h4 h5
            go_wp2
            go_meet
            unfold RoundSt
            rw [HAct.out]
            exact ⟨rfl, rfl, ⟨none, 0, rfl, ArgAt.nil _ _⟩, ArgAt.nil _ _, { M with down := false }, A0, c0, B0, d0, ⟨HFi.out, HS.out.1, HMid.out.lo, HSim.out, HSnd.out, HKp.out, HRm.out⟩⟩
          have d6 : (a.kind == 6) = false := by simpa using h6
          by_cases h7 : a.kind = 7
          · have hma : M.act a = M := by unfold RefS.act; simp [h7]
            have hact : (S.act a).1 = ((S.read a.path).1, [], (S.read a.path).2) := by unfold DiskS.act; simp [h7]
            have hS2 : (S.act a).2 = S := by unfold DiskS.act; simp [h7]
            rw [hma] at HSim HKp HRm
            have dk : (a.kind == 7) = true := by simp [h7]
            have hdn := hsim.out.down
            cases hd : S.down with
            | true =>
              rw [hd] at hdn
              rw [hdn] at c3'
              have hrd : S.read a.path = (⟨#[]⟩, 8) := by unfold DiskS.read; rw [hd]; rfl
              rw [hrd] at hact
              have HAct := hide hact
              clear hact hma h7 hS2 hdn hd hrd h1 h2 h3 h4 h5 h6
              go_wp2
              go_meet
              unfold RoundSt
              rw [HAct.out]
              exact ⟨rfl, rfl, ⟨none, 0, rfl, ArgAt.nil _ _⟩, ArgAt.nil _ _, M, A0, c0, B0, d0, ⟨HMid.out.din, HMid.out.box, HMid.out.lo, HSim.out, HSnd.out, HKp.out, HRm.out⟩⟩
            | false =>
              rw [hd] at hdn
              rw [hdn] at c3'
              have hsn := hide (seen_any M A0 c0 B0 d0 w6.drew (by omega) (HMid.out.box.ref.only (Only.refl [] w6).drew))
              have hfn := hide (fun (A' : Option Addr) (c' : Nat) W (h : ArgAt W A' (fcells (rSeen M.lies M.rows))) => find_any (rSeen M.lies M.rows) a.path A' c' W (by have := rSeen_len M.rows M.lies; omega) h)
              have hgt := hsim.out.seen.get a.path
              rw [hgt] at hfn
              have hM3 : M.down = false := hdn
              have HM3 := hide hM3
              cases hg : mget S.seen a.path with
              | some x =>
                have hrd : S.read a.path = (x, 0) := by unfold DiskS.read; rw [hd, hg]; rfl
                rw [hrd] at hact
                rw [hg] at hfn
                have HAct := hide hact
                rw [hdn] at hsn
                clear hact hma h7 hS2 hdn hd hrd hgt hg hM3 h1 h2 h3 h4 h5 h6
                go_upto_region 32 with fail
                go_region_held3 (fun W' => W'.cell? ⟨xb, 1, none⟩ = some (.string a.path) ∧ W'.cell? ⟨mb, 0, none⟩ = some (.int .i64 M.room) ∧ W'.cell? ⟨mb, 1, none⟩ = some (.slice A0 M.lies.length c0) ∧ W'.cell? ⟨mb, 2, none⟩ = some (.slice B0 M.rows.length d0) ∧ W'.cell? ⟨mb, 3, none⟩ = some (.bool false) ∧ W'.cell? ⟨mb, 4, none⟩ = some (.int .i64 M.at_) ∧ W'.cell? ⟨mb, 5, none⟩ = some (.int .u64 M.keep) ∧ W'.cell? ⟨mb, 6, none⟩ = some (.int .i64 M.left)) (first | go_keep | exact mid_cells HM9.out HM3.out | exact mid_cells HM8.out HM3.out)
                  (first
                  | (go_at_call 20; refine (hfn.out _ _ _ ha8).mono ?_; rintro e w9 ⟨rfl, ho9⟩; have HM9 := hide (HM8.out.quiet ho9))
                  | (go_at_call 21; refine hsn.out.mono ?_; rintro e w8 ⟨A8, c8, rfl, ha8, ho8⟩; have HM8 := hide (HMid.out.quiet ((Only.refl [] w6).drew.trans ho8 (by simp)))))
                go_wp2
                go_meet
                unfold RoundSt
                rw [HAct.out]
                exact ⟨rfl, rfl, ⟨none, 0, rfl, ArgAt.nil _ _⟩, ArgAt.nil _ _, M, A0, c0, B0, d0, ⟨HM9.out.din, HM9.out.box, HM9.out.lo, HSim.out, HSnd.out, HKp.out, HRm.out⟩⟩
              | none =>
                have hrd : S.read a.path = (⟨#[]⟩, 5) := by unfold DiskS.read; rw [hd, hg]; rfl
                rw [hrd] at hact
                rw [hg] at hfn
                have HAct := hide hact
                rw [hdn] at hsn
                clear hact hma h7 hS2 hdn hd hrd hgt hg hM3 h1 h2 h3 h4 h5 h6
                go_upto_region 32 with fail
                go_region_held3 (fun W' => W'.cell? ⟨xb, 1, none⟩ = some (.string a.path) ∧ W'.cell? ⟨mb, 0, none⟩ = some (.int .i64 M.room) ∧ W'.cell? ⟨mb, 1, none⟩ = some (.slice A0 M.lies.length c0) ∧ W'.cell? ⟨mb, 2, none⟩ = some (.slice B0 M.rows.length d0) ∧ W'.cell? ⟨mb, 3, none⟩ = some (.bool false) ∧ W'.cell? ⟨mb, 4, none⟩ = some (.int .i64 M.at_) ∧ W'.cell? ⟨mb, 5, none⟩ = some (.int .u64 M.keep) ∧ W'.cell? ⟨mb, 6, none⟩ = some (.int .i64 M.left)) (first | go_keep | exact mid_cells HM9.out HM3.out | exact mid_cells HM8.out HM3.out)
                  (first
                  | (go_at_call 20; refine (hfn.out _ _ _ ha8).mono ?_; rintro e w9 ⟨rfl, ho9⟩; have HM9 := hide (HM8.out.quiet ho9))
                  | (go_at_call 21; refine hsn.out.mono ?_; rintro e w8 ⟨A8, c8, rfl, ha8, ho8⟩; have HM8 := hide (HMid.out.quiet ((Only.refl [] w6).drew.trans ho8 (by simp)))))
                go_wp2
                go_meet
                unfold RoundSt
                rw [HAct.out]
                exact ⟨rfl, rfl, ⟨none, 0, rfl, ArgAt.nil _ _⟩, ArgAt.nil _ _, M, A0, c0, B0, d0, ⟨HM9.out.din, HM9.out.box, HM9.out.lo, HSim.out, HSnd.out, HKp.out, HRm.out⟩⟩
          have d7 : (a.kind == 7) = false := by simpa using h7
          by_cases h8 : a.kind = 8
          · have hma : M.act a = M := by unfold RefS.act; simp [h8]
            have hact : (S.act a).1 = (⟨#[]⟩, S.list a.path, 0) := by unfold DiskS.act; simp [h8]
            have hS2 : (S.act a).2 = S := by unfold DiskS.act; simp [h8]
            rw [hma] at HSim HKp HRm
            have dk : (a.kind == 8) = true := by simp [h8]
            have hdn := hsim.out.down
            have hls := hsim.out.listed a.path
            have ha1 := HA1.out
            rw [hact] at ha1
            simp only at ha1
            cases hd : S.down with
            | true =>
              rw [hd] at hdn
              rw [hdn] at c3' hls
              simp only [if_true] at hls
              rw [← hls] at hact ha1
              have HAct := hide hact
              have HA1' := hide ha1
              clear hact hma h8 hS2 hdn hd hls ha1 h1 h2 h3 h4 h5 h6 h7
              go_wp2
              go_meet
              unfold RoundSt
              rw [HAct.out]
              exact ⟨rfl, rfl, ⟨none, 0, rfl, ArgAt.nil _ _⟩, ArgAt.nil _ _, M, A0, c0, B0, d0, ⟨HMid.out.din, HMid.out.box, HMid.out.lo, HSim.out, HSnd.out, HKp.out, HRm.out⟩⟩
            | false =>
              rw [hd] at hdn
              rw [hdn] at c3' hls
              simp only [Bool.false_eq_true, if_false] at hls
              rw [← hls] at hact ha1
              have hsn := hide (seen_any M A0 c0 B0 d0 w6.drew (by omega) (HMid.out.box.ref.only (Only.refl [] w6).drew))
              have hfn := hide (fun (A' : Option Addr) (c' : Nat) W (h : ArgAt W A' (fcells (rSeen M.lies M.rows))) => rlist_any (rSeen M.lies M.rows) a.path A' c' W (by have := rSeen_len M.rows M.lies; omega) (fun q hq => by
                have h1 := (hsim.out.seen.perm.mem_iff).1 hq
                have h2 := wt_mem h1
                have h3 := hsnd.out.seen
                omega) (by omega) h)
              have HAct := hide hact
              have HA1' := hide ha1
              have HM3 := hide hdn
              rw [hdn] at hsn
              generalize rList (rSeen M.lies M.rows) a.path = Y at *
              clear hact hma h8 hS2 hdn hd hls ha1 h1 h2 h3 h4 h5 h6 h7
              go_upto_region 38 with fail
              go_region_held3 (fun W' => W'.cell? ⟨xb, 1, none⟩ = some (.string a.path) ∧ W'.cell? ⟨mb, 0, none⟩ = some (.int .i64 M.room) ∧ W'.cell? ⟨mb, 1, none⟩ = some (.slice A0 M.lies.length c0) ∧ W'.cell? ⟨mb, 2, none⟩ = some (.slice B0 M.rows.length d0) ∧ W'.cell? ⟨mb, 3, none⟩ = some (.bool false) ∧ W'.cell? ⟨mb, 4, none⟩ = some (.int .i64 M.at_) ∧ W'.cell? ⟨mb, 5, none⟩ = some (.int .u64 M.keep) ∧ W'.cell? ⟨mb, 6, none⟩ = some (.int .i64 M.left)) (first | go_keep | exact mid_cells HM9.out HM3.out | exact mid_cells HM8.out HM3.out)
                (first
                | (go_at_call 22; refine (hfn.out _ _ _ ha8).mono ?_; rintro e w9 ⟨A9, c9, rfl, hc9, ha9, ho9⟩; have HM9 := hide (HM8.out.quiet ho9))
                | (go_at_call 21; refine hsn.out.mono ?_; rintro e w8 ⟨A8, c8, rfl, ha8, ho8⟩; have HM8 := hide (HMid.out.quiet ((Only.refl [] w6).drew.trans ho8 (by simp))); have HO8 := hide ((Only.refl [] w6).drew.trans ho8 (by simp))))
              go_wp2
              go_meet
              unfold RoundSt
              rw [HAct.out]
              exact ⟨rfl, rfl, ⟨A9, c9, rfl, ha9⟩, HA1'.out.only (HO8.out.trans ho9 (by simp)) (by simp), M, A0, c0, B0, d0, ⟨HM9.out.din, HM9.out.box, HM9.out.lo, HSim.out, HSnd.out, HKp.out, HRm.out⟩⟩
          have d8 : (a.kind == 8) = false := by simpa using h8
          have hma : M.act a = M := by unfold RefS.act; simp [h1, h2, h3, h4, h5, h6]
          have hact : (S.act a).1 = (⟨#[]⟩, [], 0) := by unfold DiskS.act; simp [h1, h2, h3, h4, h5, h6, h7, h8]
          rw [hma] at HSim HKp HRm
          have HAct := hide hact
          clear hact hma h1 h2 h3 h4 h5 h6 h7 h8
          go_wp2
          go_meet
          unfold RoundSt
          rw [HAct.out]
          exact ⟨rfl, rfl, ⟨none, 0, rfl, ArgAt.nil _ _⟩, ArgAt.nil _ _, M, A0, c0, B0, d0, ⟨HMid.out.din, HMid.out.box, HMid.out.lo, HSim.out, HSnd.out, HKp.out, HRm.out⟩⟩
        case rest =>
          obtain ⟨rfl, rfl, ⟨Aw, cw, rfl, haw⟩, ha1, M6, A6, c6, B6, d6, hp6⟩ := hcut
          have hLl := act_len a hsnd.out
          generalize (S.act a).1.2.1 = Y at *
          generalize (S.act a).1.1 = tx at *
          generalize (S.act a).1.2.2 = cd at *
          generalize (S.act a).2 = S' at *
          clear HMid HA1 HSim HSnd HKp HRm
          have hdn := hp6.sim.down
          have hwl := hp6.sim.rows.len
          have htk := hp6.sim.taken
          have HP6 := hide hp6
          have HA1 := hide ha1
          have HAw := hide haw
          obtain ⟨dn, hd⟩ : ∃ b, M6.down = b := ⟨_, rfl⟩
          rw [hd] at hdn htk
          obtain ⟨q0, q1, q2, q3, q4, q5, q6⟩ := hp6.box.cell
          rw [hd] at q3
          have hTk0 := hide (fun W (h : FIn w2 W [] g S') => taken_fr hp6.sound (by omega) h)
          have hDn0 := hide (fun W (h : FIn w2 W [] g S') => fdown_eq h hdn.symm)
          have hWt0 := hide (fun W (h : FIn w2 W [] g S') => fwait_eq h hwl.symm)
          have hln6 := hp6.len
          have hseen6 := hide (fun W (h : RefAt W A6 B6 M6) => seen_any M6 A6 c6 B6 d6 W (by omega) h)
          rw [hd] at hseen6
          clear hp6 ha1 haw
          cases dn with
          | true =>
            simp only [if_true] at htk
            rw [← htk] at hTk0
            have HPq := HP6
            have HCell := hide (fun W (ho : Only [] wc W) => show W.cell? ⟨mb, 2, none⟩ = some (.slice B6 M6.rows.length d6) ∧ W.cell? ⟨mb, 3, none⟩ = some (.bool true) from by
              have hb := (HP6.out.box.only (S := []) ho).cell
              rw [hd] at hb
              exact ⟨hb.2.2.1, hb.2.2.2.1⟩)
            have HTx := hide (fun W (ho : Only [] wc W) => texts_same Y A1 Aw c1 cw W (by omega) (HA1.out.only ho (by simp)) (HAw.out.only ho (by simp)))
            have HTk := hTk0
            have HWt := hWt0
            have HDn := hDn0
            clear hd hdn hwl htk hTk0 hWt0 hDn0 hseen6 hLl
            go_upto_region 42 with fail
            go_region_held3 (fun W' => W'.cell? ⟨mb, 2, none⟩ = some (.slice B6 M6.rows.length d6) ∧ W'.cell? ⟨mb, 3, none⟩ = some (.bool true)) (first | go_keep | exact HCell.out _ HO11.out | exact HCell.out _ HO10.out)
              (first
              | (go_at_call 27; refine (HTk.out _ (HPq.out.din.quiet HO10.out)).mono ?_; rintro e w11 ⟨rfl, ho11⟩; have HO11 := hide (HO10.out.trans ho11 (by simp)))
              | (go_at_call 26; refine (HWt.out _ (HPq.out.din.quiet HO10.out)).mono ?_; rintro e w10' ⟨rfl, rfl⟩)
              | (go_at_call 25; refine (HDn.out _ (HPq.out.din.quiet HO10.out)).mono ?_; rintro e w10' ⟨rfl, rfl⟩)
              | (go_at_call 24; refine (HTx.out _ (Only.refl [] wc).drew).mono ?_; rintro e w10 ⟨rfl, ho10⟩; have HO10 := hide ((Only.refl [] wc).drew.trans ho10 (by simp))))
            go_wp2
            go_roundw
            case rel => exact ⟨j + 1, S', by omega, by go_num, by rw [actszs_snoc HR.out]; exact ⟨_, _, _, _, _, HPq.out.quiet HO11.out⟩⟩
            case measure => simp [intOf]; omega
          | false =>
            simp only [Bool.false_eq_true, if_false] at htk
            have htke := hp6_took HP6.out
            have htl : tookOf (rSeen M6.lies M6.rows) ≤ 1000000 := by omega
            have hslen := rSeen_len M6.rows M6.lies
            have htaken := hide (fun (A' : Option Addr) (c' : Nat) W (h : ArgAt W A' (fcells (rSeen M6.lies M6.rows))) => rtaken_any (rSeen M6.lies M6.rows) A' c' W (by omega) htl h)
            rw [htk] at htaken
            have HTk := hTk0
            have HWt := hWt0
            have HDn := hDn0
            have hHd := hide hd
            have HLl := hide hLl
            clear hd hdn hwl htk hTk0 hWt0 hDn0 hLl htke htl hslen
            go_upto_region 42 with (first
              | (go_at_call 23; refine (htaken.out _ _ _ ha8).mono ?_; rintro e w9 ⟨rfl, ho9⟩)
              | (go_at_call 21; refine (hseen6.out _ HP6.out.box.ref).mono ?_; rintro e w8 ⟨A8, c8, rfl, ha8, ho8⟩))
            have HO9 := hide (ho8.trans ho9 (by simp))
            have HPq := hide (HP6.out.quiet HO9.out)
            have HA1q := hide (HA1.out.only HO9.out (by simp))
            have HAwq := hide (HAw.out.only HO9.out (by simp))
            have HCell := hide (fun W (ho : Only [] w9 W) => show W.cell? ⟨mb, 2, none⟩ = some (.slice B6 M6.rows.length d6) ∧ W.cell? ⟨mb, 3, none⟩ = some (.bool false) from by
              have hb := (HPq.out.box.only (S := []) ho).cell
              rw [hHd.out] at hb
              exact ⟨hb.2.2.1, hb.2.2.2.1⟩)
            have HTx := hide (fun W (ho : Only [] w9 W) => texts_same Y A1 Aw c1 cw W (by have := HLl.out; omega) (HA1q.out.only ho (by simp)) (HAwq.out.only ho (by simp)))
            obtain ⟨q2, q3⟩ := HCell.out _ (Only.refl [] w9)
            clear q0 q1 q4 q5 q6 ho8 ho9 ha8 hseen6 htaken
            go_upto_region 42 with fail
            go_region_held3 (fun W' => W'.cell? ⟨mb, 2, none⟩ = some (.slice B6 M6.rows.length d6) ∧ W'.cell? ⟨mb, 3, none⟩ = some (.bool false)) (first | go_keep | exact HCell.out _ HO11.out | exact HCell.out _ HO10.out)
              (first
              | (go_at_call 27; refine (HTk.out _ (HPq.out.din.quiet HO10.out)).mono ?_; rintro e w11 ⟨rfl, ho11⟩; have HO11 := hide (HO10.out.trans ho11 (by simp)))
              | (go_at_call 26; refine (HWt.out _ (HPq.out.din.quiet HO10.out)).mono ?_; rintro e w10' ⟨rfl, rfl⟩)
              | (go_at_call 25; refine (HDn.out _ (HPq.out.din.quiet HO10.out)).mono ?_; rintro e w10' ⟨rfl, rfl⟩)
              | (go_at_call 24; refine (HTx.out _ (Only.refl [] w9).drew).mono ?_; rintro e w10 ⟨rfl, ho10⟩; have HO10 := hide ((Only.refl [] w9).drew.trans ho10 (by simp))))
            go_wp2
            go_roundw
            case rel => exact ⟨j + 1, S', by omega, by go_num, by rw [actszs_snoc HR.out]; exact ⟨_, _, _, _, _, HPq.out.quiet HO11.out⟩⟩
            case measure => simp [intOf]; omega
      · obtain rfl : j = l.length := by omega
        go_wp2
        go_ret
        exact ⟨rfl, HO2.out.trans hp.din.only (by simp)⟩
end Go.Proofs.Ytljkaafdajpmkaa
