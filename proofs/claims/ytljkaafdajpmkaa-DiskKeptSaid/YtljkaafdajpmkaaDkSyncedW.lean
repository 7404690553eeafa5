/- DiskSynced, walked. -/
import Derived.Test.YtljkaafdajpmkaaDkSynced
namespace Go.Proofs.Ytljkaafdajpmkaa
open Go.RowKit
set_option linter.unusedVariables false

/-- Behind j acts of l, in a calm disk. -/
structure RunSt (w W : World) (K : List Nat) (g : Nat) (F : Files) (n : Nat) (S : DiskS) : Prop where
  din : DIn w W K g S
  calm : Calm F S
  sound : Sound n S
theorem RunSt.act {w W W' : World} {K : List Nat} {g n : Nat} {F : Files} {S : DiskS} {a : Act} (h : RunSt w W K g F n S) (ha : a.Is) (h1 : 1 ≤ a.kind) (h3 : a.kind ≤ 3) (hd : DIn w W' K g (S.act a).2) : RunSt w W' K g F (n + a.sz) (S.act a).2 :=
  ⟨hd, h.calm.act a h1 h3, h.sound.act ha⟩
theorem DIn.base {w w0 W : World} {K : List Nat} {g : Nat} {S : DiskS} (h : DIn w0 W K g S) (ho : Only [] w w0) : DIn w W K g S := by
  obtain ⟨b1, b2, A, c, h⟩ := h
  have := ho.size
  exact ⟨b1, b2, A, c, h.at_, ho.trans h.only (by simp), ⟨by have := h.lo; omega, by have := h.lo; omega⟩, h.kept⟩
theorem list_len (S : DiskS) (p : ByteArray) : (S.list p).length ≤ S.seen.length := by
  unfold DiskS.list
  rw [sortKeys_length]
  refine Nat.le_trans (List.length_filter_le _ _) ?_
  simp
theorem sync_same {S S' : DiskS} {k : Int} (h1 : S.sync.1 = k) (h2 : S.sync.2 = S') : S.sync = (k, S') := Prod.ext h1 h2
theorem down_eq {w W : World} {K : List Nat} {g : Nat} {S : DiskS} (h : DIn w W K g S) (hd : S.down = false) : Calls Try.prog 25 #[.pointer (some ⟨g, 0, none⟩)] W fun e w' => e = .returned (.bool false) ∧ w' = W := by
  have := down_in h
  rw [hd] at this
  exact this
theorem texts_same (l : List ByteArray) (A B : Option Addr) (c d : Nat) (w : World) (hl : l.length ≤ 1000000) (ha : ArgAt w A (l.map Value.string)) (hb : ArgAt w B (l.map Value.string)) :
    Calls Try.prog 24 #[.slice A l.length c, .slice B l.length d] w fun e w' => e = .returned (.bool true) ∧ Only [] w w' := by
  refine (texts_any l l A B c d w hl hl ha hb).mono fun e w' h => ?_
  unfold TextsPost at h
  rw [decide_eq_true rfl] at h
  exact h
def SomeSt (w W : World) (K : List Nat) (g : Nat) (F : Files) (n : Nat) : Prop := ∃ S, RunSt w W K g F n S
set_option maxHeartbeats 4000000 in
set_option maxRecDepth 100000 in
theorem synced_any (l m : List Act) (A B : Option Addr) (c d : Nat) (w : World) (hlc : l.length ≤ c) (hcm : c ≤ maxLen) (hmd : m.length ≤ d) (hdm : d ≤ maxLen)
    (hl : ∀ a ∈ l, a.Is) (hm : ∀ a ∈ m, a.Is) (hA : ActsAt w A l) (hB : ActsAt w B m) :
    Calls Try.prog 5 #[.slice A l.length c, .slice B m.length d] w (OkPost w) := by
  have hf1 := hide (fun W (h : Only [] w W) => few_any l A c W hlc hcm hl (hA.only h))
  have hf2 := hide (fun W (h : Only [] w W) => few_any m B d W hmd hdm hm (hB.only h))
  have hlm : l.length ≤ 9223372036854775807 := by unfold maxLen at hcm; omega
  have hmm : m.length ≤ 9223372036854775807 := by unfold maxLen at hdm; omega
  have hn := hide (fun W => new_in 100000 W (by omega) (by omega))
  have HAs := hide hA
  have HBs := hide hB
  have HL := hide hl
  have HM := hide hm
  clear hA hB hl hm hcm hdm hlc hmd
  go_enter Try.func5, Try.ntmps5
  go_upto_region 3 with (go_at_call 12; refine (awake_any _).mono ?_; rintro e w1 ⟨rfl, ho1⟩)
  have HO1 := hide ho1
  clear ho1
  go_upto_region 5 with (first
    | (go_at_call 13; (with_reducible refine (hf1.out _ HO1.out).mono ?_); rintro e w2 ⟨b, rfl, hy, ho2⟩; cases b)
    | (go_at_call 13; (with_reducible refine (hf2.out _ (HO1.out.trans ho2 (by simp))).mono ?_); rintro e w3 ⟨b, rfl, hy2, ho3⟩; cases b))
  · go_ret
    exact ⟨rfl, HO1.out.trans ho2 (by simp)⟩
  · go_ret
    exact ⟨rfl, (HO1.out.trans ho2 (by simp)).trans ho3 (by simp)⟩
  have HC1 := hide (hy (by first | rfl | trivial))
  have HC2 := hide (hy2 (by first | rfl | trivial))
  have HO3 := hide ((HO1.out.trans ho2 (by simp)).trans ho3 (by simp))
  clear hy hy2 ho2 ho3 hf1 hf2 HO1
  go_wp2_with (go_at_call 14; refine (hn.out _).mono ?_; rintro e w4 ⟨g, rfl, hd4, hg4⟩)
  have H4 : Hid (SomeSt w w4 [] g [] 0) := hide ⟨_, hd4.base HO3.out, Calm.fresh _, Sound.fresh _⟩
  clear hd4 hn hg4
  go_loopw [7] (fun v7 W => ∃ j : Nat, j ≤ l.length ∧ v7 = .int .i64 j ∧ SomeSt w W [] g [] (actszs (l.take j))) (fun v7 _ => (l.length - intOf v7).toNat)
  case atStart => exact ⟨0, by omega, rfl, H4.out⟩
  case round =>
    clear H4
    obtain ⟨j, hj, rfl, S, hst⟩ := hrel
    have HST := hide hst
    by_cases hlt : j < l.length
    · obtain ⟨a, hr⟩ : ∃ a, l[j]? = some a := ⟨_, List.getElem?_eq_getElem hlt⟩
      obtain ⟨ga, off, rfl, hga, k0, k1, k2, k3, k4⟩ := HAs.out.only hst.din.only j a hr
      have his := hide (HL.out a (List.mem_of_getElem? hr))
      have hsz := sz_of_few HC1.out hr
      have hp : a.path.size ≤ 90000 := by unfold Act.sz at hsz; omega
      have ht : a.text.size ≤ 90000 := by unfold Act.sz at hsz; omega
      have HD := hide (fun W (h : DIn w W [] g S) => do_act a hst.sound (by omega) h hp ht)
      have HR := hide hr
      clear hst hr hsz hp ht
      by_cases h1 : 1 ≤ a.kind
      · by_cases h3 : a.kind ≤ 3
        · go_wp2_with (go_at_call 16; refine (HD.out _ HST.out.din).mono ?_; rintro e w5 ⟨A5, c5, rfl, ha5, hd5, hk5⟩)
          go_roundw
          case rel => exact ⟨j + 1, by omega, by go_num, _, by rw [actszs_snoc HR.out]; exact HST.out.act his.out h1 h3 hd5⟩
          case measure => simp [intOf]; omega
        · have d3 : decide (a.kind ≤ 3) = false := by simpa using h3
          go_wp2
          go_roundw
          case rel => exact ⟨j + 1, by omega, by go_num, S, HST.out.din, HST.out.calm, HST.out.sound.le (by rw [actszs_snoc HR.out]; omega)⟩
          case measure => simp [intOf]; omega
      · have d1 : decide (1 ≤ a.kind) = false := by simpa using h1
        go_wp2
        go_roundw
        case rel => exact ⟨j + 1, by omega, by go_num, S, HST.out.din, HST.out.calm, HST.out.sound.le (by rw [actszs_snoc HR.out]; omega)⟩
        case measure => simp [intOf]; omega
    · obtain rfl : j = l.length := by omega
      obtain ⟨hcode, hsy⟩ := hst.calm.sync
      have hso := hst.sound
      obtain ⟨n0, hn0⟩ : ∃ n0, n0 = actszs (l.take l.length) := ⟨_, rfl⟩
      have hn0l : n0 ≤ 15000 := by have := szs_costs HC1.out; have := actszs_take l l.length; have := HC1.out; omega
      rw [← hn0] at hso
      obtain ⟨T, hT⟩ : ∃ T, S.sync.2 = T := ⟨_, rfl⟩
      have hto : Sound n0 T := by rw [← hT]; exact hso.sync
      have HS1 := hide (in_eq (sync_in hso (by omega) hst.din) (sync_same hcode hT))
      have HS2 := hide (fun W (h : DIn w W [] g T) => copy_in hto (by omega) h)
      rw [hT] at hsy
      generalize S.seen = F at *
      have HSY := hide hsy
      have HTO := hide hto
      clear hsy hto hso hcode hT hst HST hn0
      go_wp2_with (first
        | (go_at_call 33; refine (HS2.out _ hd6.out).mono ?_; rintro e w7 ⟨gc, L, rfl, hdd, hcc, _⟩; rw [List.append_nil] at hdd; have hd7 := hide hdd; have hc7 := hide hcc; clear hdd hcc)
        | (go_at_call 28; refine HS1.out.mono ?_; rintro e w6 ⟨rfl, hdd, _⟩; have hd6 := hide hdd; clear hdd))
      have H7 : Hid (SomeSt w w7 L g F (n0 + 0) ∧ CIn w w7 L gc T) := hide ⟨⟨_, hd7.out, HSY.out.toCalm, HTO.out⟩, hc7.out⟩
      clear hd6 hd7 hc7 HS1 HS2
      go_loopw [9] (fun v9 W => ∃ j : Nat, j ≤ m.length ∧ v9 = .int .i64 j ∧ SomeSt w W L g F (n0 + actszs (m.take j)) ∧ CIn w W L gc T) (fun v9 _ => (m.length - intOf v9).toNat)
      case atStart => exact ⟨0, by omega, rfl, H7.out⟩
      case round =>
        clear H7
        obtain ⟨j, hj, rfl, ⟨S, hst⟩, hci⟩ := hrel
        have HST := hide hst
        have HCI := hide hci
        clear hci
        by_cases hlt : j < m.length
        · obtain ⟨a, hr⟩ : ∃ a, m[j]? = some a := ⟨_, List.getElem?_eq_getElem hlt⟩
          obtain ⟨ga, off, rfl, hga, k0, k1, k2, k3, k4⟩ := HBs.out.only hst.din.only j a hr
          have his := hide (HM.out a (List.mem_of_getElem? hr))
          have hsz := sz_of_few HC2.out hr
          have hp : a.path.size ≤ 90000 := by unfold Act.sz at hsz; omega
          have ht : a.text.size ≤ 90000 := by unfold Act.sz at hsz; omega
          have HD := hide (fun W (h : DIn w W L g S) => do_act a hst.sound (by omega) h hp ht)
          have HR := hide hr
          clear hst hr hsz hp ht
          by_cases h1 : 1 ≤ a.kind
          · by_cases h3 : a.kind ≤ 3
            · go_wp2_with (go_at_call 16; refine (HD.out _ HST.out.din).mono ?_; rintro e w5 ⟨A5, c5, rfl, ha5, hd5, hk5⟩)
              go_roundw
              case rel => exact ⟨j + 1, by omega, by go_num, ⟨_, by rw [actszs_snoc HR.out, ← Nat.add_assoc]; exact HST.out.act his.out h1 h3 hd5⟩, HCI.out.keep hk5 hd5.only⟩
              case measure => simp [intOf]; omega
            · have d3 : decide (a.kind ≤ 3) = false := by simpa using h3
              go_wp2
              go_roundw
              case rel => exact ⟨j + 1, by omega, by go_num, ⟨S, HST.out.din, HST.out.calm, HST.out.sound.le (by rw [actszs_snoc HR.out]; omega)⟩, HCI.out⟩
              case measure => simp [intOf]; omega
          · have d1 : decide (1 ≤ a.kind) = false := by simpa using h1
            go_wp2
            go_roundw
            case rel => exact ⟨j + 1, by omega, by go_num, ⟨S, HST.out.din, HST.out.calm, HST.out.sound.le (by rw [actszs_snoc HR.out]; omega)⟩, HCI.out⟩
            case measure => simp [intOf]; omega
        · obtain rfl : j = m.length := by omega
          obtain ⟨hcode, hsy⟩ := hst.calm.lost
          have hn1 : n0 + actszs (m.take m.length) ≤ 30000 := by have := szs_costs HC2.out; have := actszs_take m m.length; have := HC2.out; omega
          have hso := hst.sound.le hn1
          have hso2 : Sound 30000 (S.armed2 1 0) := hso.armed (by omega) (by omega)
          obtain ⟨U, hU⟩ : ∃ U, (S.armed2 1 0).sync.2 = U := ⟨_, rfl⟩
          have hso3 : Sound 30000 U := by rw [← hU]; exact hso2.sync
          have HS1 := hide (arm_in hst.din 1 0)
          have HS2 := hide (fun W (h : DIn w W L g (S.armed2 1 0)) => in_eq (sync_in hso2 (by omega) h) (sync_same hcode hU))
          have HS3 := hide (fun W (h : DIn w W [] gc T) => down_eq h HSY.out.down)
          have HS4 := hide (fun W (h : DIn w W L g U) => start_in h)
          rw [hU] at hsy
          generalize S.armed2 1 0 = Z at *
          obtain ⟨V, hV⟩ : ∃ V, U.started = V := ⟨_, rfl⟩
          have hso4 : Sound 30000 V := by rw [← hV]; exact hso3.started
          rw [hV] at HS4 hsy
          have hto : Sound 30000 T := HTO.out.le (by omega)
          obtain ⟨X, hX⟩ : ∃ X, V.list ⟨#[]⟩ = X := ⟨_, rfl⟩
          have hX2 : T.list ⟨#[]⟩ = X := by rw [← hX]; exact (hsy.list_eq HSY.out _).symm
          have hXm : ∀ x ∈ X, ∃ t, mget F x = some t := fun x hx => by
            rw [← hX] at hx
            have := list_mem hx
            rw [hsy.seen] at this
            exact mget_of_mem this
          have hXl : X.length ≤ 1000000 := by
            have h1 := list_len V ⟨#[]⟩
            rw [hX] at h1
            have h2 := took_wt V.seen
            have h3 := hso4.seen
            omega
          have HS5 := hide (fun W (h : DIn w W L g V) => list_eq (list_in hso4 (by omega) h ⟨#[]⟩ (by decide)) (by rw [hX]))
          have HS6 := hide (fun W (h : DIn w W [] gc T) => list_eq (list_in hto (by omega) h ⟨#[]⟩ (by decide)) (by rw [hX2]))
          rw [hX] at HS5
          rw [hX2] at HS6
          have HS7 := hide (fun A B c d W ha hb => texts_same X A B c d W hXl ha hb)
          have HS8 := hide (fun W (h : DIn w W L g V) => taken_in hso4 (by omega) h)
          have hte := hsy.taken_eq HSY.out
          have HS9 := hide (fun W (h : DIn w W [] gc T) => taken_in hto (by omega) h)
          rw [← hte] at HS9
          generalize V.taken = tk at *
          have HXm := hide hXm
          have HSV := hide hsy
          clear hst HST hcode hsy hso hso2 hso3 hso4 hU hV hX hX2 hXm hto hte
          go_wp2_with (first
            | (go_at_call 27; (with_reducible refine (HS9.out _ hc16.out.din).mono ?_); rintro e w17 ⟨rfl, ho⟩; have hd17 := hide (hd16.out.quiet ho); have hc17 := hide (hc16.out.keep (hd16.out.keepB ho) hd17.out.only); have hA17 := hide (hA16.out.only ho (by simp)); clear ho)
            | (go_at_call 27; (with_reducible refine (HS8.out _ hd15.out).mono ?_); rintro e w16 ⟨rfl, ho⟩; have hd16 := hide (hd15.out.quiet ho); have hc16 := hide (hc15.out.keep (hd15.out.keepB ho) hd16.out.only); have hA16 := hide (hA15.out.only ho (by simp)); clear ho)
            | (go_at_call 24; (with_reducible refine (HS7.out _ _ _ _ _ hA14.out hB14.out).mono ?_); rintro e w15 ⟨rfl, ho⟩; have hd15 := hide (hd14.out.quiet ho); have hc15 := hide (hc14.out.keep (hd14.out.keepB ho) hd15.out.only); have hA15 := hide (hA14.out.only ho (by simp)); clear ho)
            | (go_at_call 29; (with_reducible refine (HS6.out _ hc13.out.din).mono ?_); rintro e w14 ⟨A2, c2, rfl, hcc2, ha2, _, ho⟩; have hd14 := hide (hd13.out.quiet ho); have hc14 := hide (hc13.out.keep (hd13.out.keepB ho) hd14.out.only); have hA14 := hide (hA13.out.only ho (by simp)); have hB14 := hide ha2; clear ho ha2)
            | (go_at_call 29; (with_reducible refine (HS5.out _ hd12.out).mono ?_); rintro e w13 ⟨A1, c1, rfl, hcc1, ha1, _, ho⟩; have hd13 := hide (hd12.out.quiet ho); have hc13 := hide (hc12.out.keep (hd12.out.keepB ho) hd13.out.only); have hA13 := hide ha1; clear ho ha1)
            | (go_at_call 32; refine (HS4.out _ hd11.out).mono ?_; rintro e w12 ⟨rfl, hdd, hk⟩; have hd12 := hide hdd; have hc12 := hide (hc11.out.keep hk hdd.only); clear hdd hk)
            | (go_at_call 25; refine (HS3.out _ hc11.out.din).mono ?_; rintro e w11' ⟨rfl, rfl⟩)
            | (go_at_call 28; refine (HS2.out _ hd10.out).mono ?_; rintro e w11 ⟨rfl, hdd, hk⟩; have hd11 := hide hdd; have hc11 := hide (hc10.out.keep hk hdd.only); clear hdd hk)
            | (go_at_call 31; refine HS1.out.mono ?_; rintro e w10 ⟨rfl, hdd, hk⟩; have hd10 := hide hdd; have hc10 := hide (HCI.out.keep hk hdd.only); clear hdd hk))
          clear HS1 HS2 HS3 HS4 HS5 HS6 HS7 HS8 HS9 hd10 hd11 hd12 hd13 hd14 hd15 hd16 hc10 hc11 hc12 hc13 hc14 hc15 hc16 hA13 hA14 hA15 hA16 hB14 hcc2
          go_loopw [11] (fun v11 W => ∃ i : Nat, i ≤ X.length ∧ v11 = .int .i64 i ∧ Only [] w17 W) (fun v11 _ => (X.length - intOf v11).toNat)
          case atStart => exact ⟨0, by omega, rfl, Only.refl _ _⟩
          case round =>
            obtain ⟨i, hi, rfl, hO⟩ := hrel
            have HdW := hide (hd17.out.quiet hO)
            have HcW := hide (hc17.out.keep (hd17.out.keepB hO) HdW.out.only)
            have HAW := hide (hA17.out.only hO (by simp))
            have HOW := hide hO
            clear hO
            by_cases hil : i < X.length
            · obtain ⟨x, hx⟩ : ∃ x, X[i]? = some x := ⟨_, List.getElem?_eq_getElem hil⟩
              obtain ⟨tt, htt⟩ := HXm.out x (List.mem_of_getElem? hx)
              obtain ⟨ga, rfl, hga, k0⟩ := HAW.out i _ (map_at hx)
              have HR1 := hide (fun W (h : DIn w W L g V) => read_eq (read_in h x) (HSV.out.read htt))
              have HR2 := hide (fun W (h : DIn w W [] gc T) => read_eq (read_in h x) (HSY.out.read htt))
              clear hx htt
              go_wp2_with (first
                | (go_at_call 30; (with_reducible refine (HR2.out _ HcW.out.din).mono ?_); rintro e w18 ⟨rfl, rfl⟩)
                | (go_at_call 30; (with_reducible refine (HR1.out _ HdW.out).mono ?_); rintro e w18 ⟨rfl, rfl⟩))
              go_roundw
              case rel => exact ⟨i + 1, by omega, by go_num, HOW.out⟩
              case measure => simp [intOf]; omega
            · obtain rfl : i = X.length := by omega
              go_wp2
              go_ret
              exact ⟨rfl, HdW.out.only⟩
end Go.Proofs.Ytljkaafdajpmkaa
