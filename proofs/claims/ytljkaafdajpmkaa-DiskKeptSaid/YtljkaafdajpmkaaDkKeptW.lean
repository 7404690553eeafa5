/- DiskKept, walked. -/
import Derived.Test.YtljkaafdajpmkaaDkKept
import Derived.StillTailTactics
namespace Go.Proofs.Ytljkaafdajpmkaa
open Go.RowKit
set_option linter.unusedVariables false

theorem zero4 (w : World) : (zeroValue 4).run Try.prog w = .ok (.bool false) w := by kernel_rfl
theorem mget_of_nodup {α : Type} : ∀ {l : List (ByteArray × α)} {q : ByteArray × α}, (l.map (·.1)).Nodup → q ∈ l → mget l q.1 = some q.2
  | p :: l, q, hn, hq => by
    simp only [List.map_cons, List.nodup_cons] at hn
    unfold mget
    cases hq with
    | head => rw [if_pos rfl]
    | tail _ hq =>
      rw [if_neg (fun e => hn.1 (by rw [e]; exact List.mem_map.2 ⟨q, hq, rfl⟩)), mget_of_nodup hn.2 hq]
theorem down_on {w W : World} {K : List Nat} {g : Nat} {S : DiskS} (h : DIn w W K g S) (hd : S.down = true) : Calls Try.prog 25 #[.pointer (some ⟨g, 0, none⟩)] W fun e w' => e = .returned (.bool true) ∧ w' = W := by
  have := down_in h
  rw [hd] at this
  exact this
theorem waiting_none {w W : World} {K : List Nat} {g : Nat} {S : DiskS} (h : DIn w W K g S) (hd : S.waits = []) : Calls Try.prog 26 #[.pointer (some ⟨g, 0, none⟩)] W fun e w' => e = .returned (.int .i64 0) ∧ w' = W := by
  have := waiting_in h
  rw [hd] at this
  exact this
/-- What was read at the sync, gathered. -/
structure LSt (wB W : World) (g bo bw : Nat) (A1 : Option Addr) (X : List ByteArray) (F : Files) (T : DiskS) (O : Files) (Wm : Marks) (i : Nat) : Prop where
  din : DIn wB W [bw, bo] g T
  o : MapAt Value.string W bo O
  wr : MapAt Value.bool W bw Wm
  ne : bo ≠ bw
  lo : wB.heap.size ≤ bo ∧ wB.heap.size ≤ bw
  arg : ArgAt W A1 (X.map Value.string)
  apart : ∀ k, A1 = some ⟨k, 0, none⟩ → X ≠ [] → k ≠ bo ∧ k ≠ bw
  old : ∀ p t, mget O p = some t → mget F p = some t
  done : ∀ j x t, j < i → X[j]? = some x → mget F x = some t → marked Wm t = true
def LSome (wB W : World) (g bo bw : Nat) (A1 : Option Addr) (X : List ByteArray) (F : Files) (T : DiskS) (i : Nat) : Prop := ∃ O Wm, LSt wB W g bo bw A1 X F T O Wm i
theorem ArgAt.beside {w w' : World} {A : Option Addr} {cells : List Value} {S : List Nat} (h : ArgAt w A cells) (ho : Only S w w') (hS : ∀ g, A = some ⟨g, 0, none⟩ → cells ≠ [] → g ∉ S) : ArgAt w' A cells := fun j u hu => by
  obtain ⟨g, hA, hg, hc⟩ := h j u hu
  exact ⟨g, hA, Nat.lt_of_lt_of_le hg ho.size, (ho.cell (p := ⟨g, j, none⟩) hg (hS g hA (fun e => by rw [e] at hu; simp at hu))).trans hc⟩
section
variable {wB W W' W2 : World} {g bo bw : Nat} {A1 : Option Addr} {X : List ByteArray} {F : Files} {T : DiskS} {O : Files} {Wm : Marks} {i : Nat}
/-- One more is read. -/
theorem LSt.next {x t : ByteArray} (h : LSt wB W g bo bw A1 X F T O Wm i) (hx : X[i]? = some x) (ht : mget F x = some t)
    (h1 : MapAt Value.string W' bo (mput O x t)) (ho1 : Only [bo] W W') (h2 : MapAt Value.bool W2 bw (mput Wm t true)) (ho2 : Only [bw] W' W2) : LSt wB W2 g bo bw A1 X F T (mput O x t) (mput Wm t true) (i + 1) := by
  have ho : Only [bw, bo] W W2 := (ho1.mono (by simp)).trans ho2 (by simp)
  have hX : X.map Value.string ≠ [] → X ≠ [] := fun h e => h (by rw [e]; rfl)
  refine ⟨h.din.beside ho (fun k hk => by have := h.lo; simp at hk; omega), h1.only ho2 (by simpa using h.ne), h2, h.ne, h.lo, h.arg.beside ho (fun k hk hc => by have := h.apart k hk (hX hc); simp; omega), h.apart, fun p s hp => ?_, fun j y s hj hy hs => ?_⟩
  · by_cases e : x = p
    · subst e
      rw [mget_put_same] at hp
      rw [ht, hp]
    · rw [mget_put_other _ e] at hp
      exact h.old p s hp
  · by_cases e : j = i
    · subst e
      rw [hx] at hy
      injection hy with hy
      subst hy
      rw [ht] at hs
      injection hs with hs
      subst hs
      exact marked_same _ _
    · exact marked_more t (h.done j y s (by omega) hy hs)
end
/-- Behind the sync: the disk, and the three maps. -/
structure KSt (wB W : World) (g bo bw bt : Nat) (F : Files) (O : Files) (Wm Tm : Marks) (n : Nat) (S : DiskS) : Prop where
  din : DIn wB W [bt, bw, bo] g S
  o : MapAt Value.string W bo O
  wr : MapAt Value.bool W bw Wm
  tch : MapAt Value.bool W bt Tm
  ne : bo ≠ bw ∧ bo ≠ bt ∧ bw ≠ bt
  lo : wB.heap.size ≤ bo ∧ wB.heap.size ≤ bw ∧ wB.heap.size ≤ bt
  old : ∀ p t, mget O p = some t → mget F p = some t
  sound : Sound n S
section
variable {wB W W' : World} {g bo bw bt n : Nat} {F O : Files} {Wm Tm : Marks} {S S' : DiskS}
theorem KSt.quiet (h : KSt wB W g bo bw bt F O Wm Tm n S) (ho : Only [] W W') : KSt wB W' g bo bw bt F O Wm Tm n S :=
  ⟨h.din.quiet ho, h.o.only ho (by simp), h.wr.only ho (by simp), h.tch.only ho (by simp), h.ne, h.lo, h.old, h.sound⟩
theorem KSt.touch (h : KSt wB W g bo bw bt F O Wm Tm n S) {Tm' : Marks} (hm : MapAt Value.bool W' bt Tm') (ho : Only [bt] W W') : KSt wB W' g bo bw bt F O Wm Tm' n S :=
  ⟨h.din.beside (ho.mono (by simp)) (fun k hk => by have := h.lo; simp at hk; omega), h.o.only ho (by simpa using h.ne.2.1), h.wr.only ho (by simpa using h.ne.2.2), hm, h.ne, h.lo, h.old, h.sound⟩
theorem KSt.wrote (h : KSt wB W g bo bw bt F O Wm Tm n S) {Wm' : Marks} (hm : MapAt Value.bool W' bw Wm') (ho : Only [bw] W W') : KSt wB W' g bo bw bt F O Wm' Tm n S :=
  ⟨h.din.beside (ho.mono (by simp)) (fun k hk => by have := h.lo; simp at hk; omega), h.o.only ho (by simpa using h.ne.1), hm, h.tch.only ho (by simpa using h.ne.2.2.symm), h.ne, h.lo, h.old, h.sound⟩
theorem KSt.turn {m : Nat} (h : KSt wB W g bo bw bt F O Wm Tm n S) (hd : DIn wB W' [bt, bw, bo] g S') (hk : KeepB [bt, bw, bo] W W') (hs : Sound m S') : KSt wB W' g bo bw bt F O Wm Tm m S' :=
  ⟨hd, h.o.keep (hk.2 bo (by simp)), h.wr.keep (hk.2 bw (by simp)), h.tch.keep (hk.2 bt (by simp)), h.ne, h.lo, h.old, hs⟩
end
theorem act_cells {W : World} {ba : Nat} {k at_ keep : Int} {p t : ByteArray} {w13 : World} (_ : Nat) (hB : w13.heap[ba]? = some (.cells #[.int .i64 k, .string p, .string t, .int .i64 at_, .int .u64 keep] 39)) (ho : W.heap[ba]? = w13.heap[ba]?) :
    W.cell? ⟨ba, 0, none⟩ = some (.int .i64 k) ∧ W.cell? ⟨ba, 1, none⟩ = some (.string p) ∧ W.cell? ⟨ba, 2, none⟩ = some (.string t) ∧ W.cell? ⟨ba, 3, none⟩ = some (.int .i64 at_) ∧ W.cell? ⟨ba, 4, none⟩ = some (.int .u64 keep) := by
  have h := ho.trans hB
  exact ⟨by simp [World.cell?, h], by simp [World.cell?, h], by simp [World.cell?, h], by simp [World.cell?, h], by simp [World.cell?, h]⟩
def KRun (wB W : World) (g bo bw bt : Nat) (F : Files) (n : Nat) : Prop := ∃ O Wm Tm S, KSt wB W g bo bw bt F O Wm Tm n S ∧ KInv F Wm Tm S
theorem box_at {wB W : World} {bx : Nat} {kk kp : Int} (hb : wB.heap[bx]? = some (.cells #[.int .i64 kk, .int .u64 kp] 33)) (hl : bx < wB.heap.size) (ho : Only [] wB W) :
    W.cell? ⟨bx, 0, none⟩ = some (.int .i64 kk) ∧ W.cell? ⟨bx, 1, none⟩ = some (.int .u64 kp) := by
  have h := (ho.block bx hl (by simp)).trans hb
  exact ⟨by simp [World.cell?, h], by simp [World.cell?, h]⟩
set_option maxHeartbeats 4000000 in
set_option maxRecDepth 100000 in
theorem kept_any (l m : List Act) (A B : Option Addr) (c d : Nat) (kk kp : Int) (w : World) (hlc : l.length ≤ c) (hcm : c ≤ maxLen) (hmd : m.length ≤ d) (hdm : d ≤ maxLen)
    (hl : ∀ a ∈ l, a.Is) (hm : ∀ a ∈ m, a.Is) (hA : ActsAt w A l) (hB : ActsAt w B m) (hkk : kk ≤ 9223372036854775807) (hkp : 0 ≤ kp ∧ kp < 18446744073709551616) :
    Calls Try.prog 4 #[.slice A l.length c, .slice B m.length d, .agg #[.int .i64 kk, .int .u64 kp]] w (OkPost w) := by
  have hmm := @run_makeMap Try.prog
  have hoB : Only [] w (w.alloc (.cells #[.int .i64 kk, .int .u64 kp] 33)) := (Only.refl [] w).alloc _
  have hbk := hide (heap_alloc_new w (.cells #[.int .i64 kk, .int .u64 kp] 33))
  have hlb : w.heap.size < (w.alloc (.cells #[.int .i64 kk, .int .u64 kp] 33)).heap.size := by simp
  have HAs := hide (hA.only hoB)
  have HBs := hide (hB.only hoB)
  have hlm : l.length ≤ 9223372036854775807 := by unfold maxLen at hcm; omega
  have hml : m.length ≤ 9223372036854775807 := by unfold maxLen at hdm; omega
  have hn := hide (fun W => new_in 100000 W (by omega) (by omega))
  have HL := hide hl
  have HM := hide hm
  have HKK := hide hkk
  have HKP := hide hkp
  clear hA hB hl hm hkk hkp
  go_enter Try.func4, Try.ntmps4
  go_upto_region 1 with fail
  generalize w.alloc (.cells #[.int .i64 kk, .int .u64 kp] 33) = wB at *
  generalize w.heap.size = bx at *
  have HOB := hide hoB
  clear hoB
  have hf1 := hide (fun W (h : Only [] wB W) => few_any l A c W hlc hcm HL.out (HAs.out.only h))
  have hf2 := hide (fun W (h : Only [] wB W) => few_any m B d W hmd hdm HM.out (HBs.out.only h))
  clear hlc hcm hmd hdm
  go_upto_region 3 with (go_at_call 12; refine (awake_any _).mono ?_; rintro e w1 ⟨rfl, ho1⟩)
  have HO1 := hide ho1
  clear ho1
  go_upto_region 5 with (first
    | (go_at_call 13; (with_reducible refine (hf1.out _ HO1.out).mono ?_); rintro e w2 ⟨b, rfl, hy, ho2⟩; cases b)
    | (go_at_call 13; (with_reducible refine (hf2.out _ (HO1.out.trans ho2 (by simp))).mono ?_); rintro e w3 ⟨b, rfl, hy2, ho3⟩; cases b))
  · go_ret
    exact ⟨rfl, HOB.out.trans (HO1.out.trans ho2 (by simp)) (by simp)⟩
  · go_ret
    exact ⟨rfl, HOB.out.trans ((HO1.out.trans ho2 (by simp)).trans ho3 (by simp)) (by simp)⟩
  have HC1 := hide (hy (by first | rfl | trivial))
  have HC2 := hide (hy2 (by first | rfl | trivial))
  have HO3 := hide ((HO1.out.trans ho2 (by simp)).trans ho3 (by simp))
  clear hy hy2 ho2 ho3 hf1 hf2 HO1
  go_wp2_with (go_at_call 14; refine (hn.out _).mono ?_; rintro e w4 ⟨g, rfl, hd4, hg4⟩)
  have H4 : Hid (SomeSt wB w4 [] g [] 0) := hide ⟨_, hd4.base HO3.out, Calm.fresh _, Sound.fresh _⟩
  clear hd4 hn hg4
  go_loopw [9] (fun v9 W => ∃ j : Nat, j ≤ l.length ∧ v9 = .int .i64 j ∧ SomeSt wB W [] g [] (actszs (l.take j))) (fun v9 _ => (l.length - intOf v9).toNat)
  case atStart => exact ⟨0, by omega, rfl, H4.out⟩
  case round =>
    clear H4
    obtain ⟨j, hj, rfl, S, hst⟩ := hrel
    have HST := hide hst
    by_cases hlt : j < l.length
    · obtain ⟨a, hr⟩ : ∃ a, l[j]? = some a := ⟨_, List.getElem?_eq_getElem hlt⟩
      obtain ⟨ga, off, rfl, hga, k0, k1, k2, k3, k4⟩ := HAs.out.only hst.din.only j a hr
      have his := hide (HL.out a (List.mem_of_getElem? hr))
      have hsz := sz_of_few HC1.out hr
      have hp : a.path.size ≤ 90000 := by unfold Act.sz at hsz; omega
      have ht : a.text.size ≤ 90000 := by unfold Act.sz at hsz; omega
      have HD := hide (fun W (h : DIn wB W [] g S) => do_act a hst.sound (by omega) h hp ht)
      have HR := hide hr
      clear hst hr hsz hp ht
      by_cases h1 : 1 ≤ a.kind
      · by_cases h3 : a.kind ≤ 3
        · go_wp2_with (go_at_call 16; refine (HD.out _ HST.out.din).mono ?_; rintro e w5 ⟨A5, c5, rfl, ha5, hd5, hk5⟩)
          go_roundw
          case rel => exact ⟨j + 1, by omega, by go_num, _, by rw [actszs_snoc HR.out]; exact HST.out.act his.out h1 h3 hd5⟩
          case measure => simp [intOf]; omega
        · have d3 : decide (a.kind ≤ 3) = false := by simpa using h3
          go_wp2
          go_roundw
          case rel => exact ⟨j + 1, by omega, by go_num, S, HST.out.din, HST.out.calm, HST.out.sound.le (by rw [actszs_snoc HR.out]; omega)⟩
          case measure => simp [intOf]; omega
      · have d1 : decide (1 ≤ a.kind) = false := by simpa using h1
        go_wp2
        go_roundw
        case rel => exact ⟨j + 1, by omega, by go_num, S, HST.out.din, HST.out.calm, HST.out.sound.le (by rw [actszs_snoc HR.out]; omega)⟩
        case measure => simp [intOf]; omega
    · obtain rfl : j = l.length := by omega
      obtain ⟨hcode, hsy⟩ := hst.calm.sync
      have hso := hst.sound
      obtain ⟨n0, hn0⟩ : ∃ n0, n0 = actszs (l.take l.length) := ⟨_, rfl⟩
      have hn0l : n0 ≤ 15000 := by have := szs_costs HC1.out; have := actszs_take l l.length; have := HC1.out; omega
      rw [← hn0] at hso
      obtain ⟨T, hT⟩ : ∃ T, S.sync.2 = T := ⟨_, rfl⟩
      have hto : Sound n0 T := by rw [← hT]; exact hso.sync
      have HS1 := hide (in_eq (sync_in hso (by omega) hst.din) (sync_same hcode hT))
      rw [hT] at hsy
      generalize S.seen = F at *
      have HSY := hide hsy
      have HTO := hide hto
      clear hsy hto hso hcode hT hst HST hn0
      go_upto_region 15 with (go_at_call 28; refine HS1.out.mono ?_; rintro e w6 ⟨rfl, hdd, _⟩; have hd6 := hide hdd; clear hdd)
      go_upto_region 16 with fail
      have hM7 := hide (MapAt.made Value.string w6)
      have hd7 := hide (hd6.out.more ((Only.refl [] w6).alloc (.map #[] 0)) (L := [w6.heap.size]) (by simp))
      have ho6 := hd6.out.only.size
      clear hd6 HS1
      generalize w6.alloc (.map #[] 0) = w7 at *
      generalize w6.heap.size = bo at *
      have lbo := hM7.out.lt
      obtain ⟨X, hX⟩ : ∃ X, T.list ⟨#[]⟩ = X := ⟨_, rfl⟩
      have hXl : X.length ≤ 1000000 := by
        have h1 := list_len T ⟨#[]⟩
        rw [hX] at h1
        have h2 := took_wt T.seen
        have h3 := HTO.out.seen
        omega
      have HS5 := hide (fun W (h : DIn wB W ([bo] ++ []) g T) => list_eq (list_in HTO.out (by omega) h ⟨#[]⟩ (by decide)) (by rw [hX]))
      rw [hX] at HS5
      have HX := hide hX
      clear hX
      go_upto_region 17 with (go_at_call 29; refine (HS5.out _ hd7.out).mono ?_; rintro e w8 ⟨A1, c1, rfl, hc1, ha1, hap, ho8⟩)
      go_upto_region 18 with fail
      have hst0 : LSt wB (w8.alloc (.map #[] 0)) g bo w8.heap.size A1 X F T [] [] 0 := by
        have hoA := (Only.refl [] w8).alloc (.map #[] 0)
        have hs8 := ho8.size
        have hd9 := (hd7.out.quiet ho8).more hoA (L := [w8.heap.size]) (by simp)
        refine ⟨hd9, (hM7.out.only ho8 (by simp)).only hoA (by simp), MapAt.made Value.bool w8, by omega, ⟨by omega, by omega⟩, ha1.only hoA (by simp), fun k hk hX => ⟨?_, ?_⟩, (fun p t h => by cases h), (fun j x t hj => by omega)⟩
        · have := hap k hk hX
          omega
        · cases X with
          | nil => exact absurd rfl hX
          | cons x X =>
            obtain ⟨g', e1, h2, _⟩ := ha1 0 (.string x) rfl
            rw [hk] at e1
            cases e1
            omega
      have HST := hide hst0
      clear hst0 hM7 hd7 HS5 hap ha1 ho8
      generalize w8.alloc (.map #[] 0) = w9 at *
      generalize w8.heap.size = bw at *
      go_wp2
      have hTF : ∀ x, x ∈ X → ∃ t, mget F x = some t := fun x hx => by
        rw [← HX.out] at hx
        have := list_mem hx
        rw [HSY.out.seen] at this
        exact mget_of_mem this
      have HTF := hide hTF
      clear hTF
      go_loopw [13] (fun v13 W => ∃ i : Nat, i ≤ X.length ∧ v13 = .int .i64 i ∧ LSome wB W g bo bw A1 X F T i) (fun v13 _ => (X.length - intOf v13).toNat)
      case atStart => exact ⟨0, by omega, rfl, _, _, HST.out⟩
      case round =>
        clear HST
        obtain ⟨i, hi, rfl, O, Wm, hst⟩ := hrel
        by_cases hil : i < X.length
        · obtain ⟨x, hx⟩ : ∃ x, X[i]? = some x := ⟨_, List.getElem?_eq_getElem hil⟩
          obtain ⟨t, ht⟩ := HTF.out x (List.mem_of_getElem? hx)
          obtain ⟨ga, rfl, hga, k0⟩ := hst.arg i _ (map_at hx)
          obtain ⟨w', hrun, hm1, ho1⟩ := hst.o.drew.store (P := Try.prog) Try.underlying58 Try.underlying9 x t
          have hR := hide (fun W (h : DIn wB W [bw, bo] g T) => read_eq (read_in h x) (HSY.out.read ht))
          have HM1 := hide hm1
          have HO1 := hide ho1
          have HST := hide hst
          have HXi := hide hx
          have HT := hide ht
          clear hst hx ht hm1 ho1
          go_wp2
          go_cut [] (fun W => W = w')
          case first =>
            go_region_with (go_at_call 30; refine (hR.out _ (HST.out.din.quiet (Only.refl _ _).drew)).mono ?_; rintro e w5 ⟨rfl, rfl⟩)
            all_goals
              go_wp2
              go_meet
              rfl
          case rest =>
          obtain rfl := hcut
          have hoW : Only [bo] wr wc := ((Only.refl [bo] wr).drew).trans HO1.out (fun t ht _ => ht)
          have hargW := HST.out.arg.beside hoW (fun k hk hc => by have := HST.out.apart k hk (fun e => hc (by rw [e]; rfl)); simp; omega)
          obtain ⟨_, e1, _, k1⟩ := hargW i _ (map_at HXi.out)
          cases e1
          have lk := HM1.out.look1 (P := Try.prog) Try.underlying58 Try.underlying9 (⟨#[]⟩ : ByteArray) (zero9 wc) x
          rw [mget_put_same] at lk
          have hMw := hide (HST.out.wr.only hoW (by simpa using HST.out.ne.symm))
          have HOW := hide hoW
          clear hargW hoW hrun
          go_wp2_with (at_mapUpdate; refine wpList_store_map rfl _ _ _ 60 rfl Try.underlying60 Try.underlying9 hMw.out rfl rfl true rfl ?_; intro w3 hm3 ho3)
          go_roundw
          case rel => exact ⟨i + 1, by omega, by go_num, _, _, HST.out.next HXi.out HT.out HM1.out HOW.out hm3 ho3⟩
          case measure => simp [intOf]; omega
        · obtain rfl : i = X.length := by omega
          have hF : ∀ q ∈ F, marked Wm q.2 = true := fun q hq => by
            have hnd : (F.map (·.1)).Nodup := by
              obtain ⟨_, _, _, _, hdd⟩ := hst.din
              have := hdd.at_.seen.nodup
              rwa [HSY.out.seen] at this
            have hqx := list_all HSY.out.down (q := q) (by rw [HSY.out.seen]; exact hq)
            rw [HX.out] at hqx
            obtain ⟨j, hj⟩ := List.getElem?_of_mem hqx
            exact hst.done j q.1 q.2 (List.getElem?_eq_some_iff.1 hj).1 hj (mget_of_nodup hnd hq)
          have HI := hide (HSY.out.kinv hF (Tm := []))
          have HD0 := hide hst.din
          have HMo := hide hst.o
          have HMw := hide hst.wr
          have HNe := hide hst.ne
          have HLo := hide hst.lo
          have HOld := hide hst.old
          have hoz := hst.din.only.size
          clear hst hF
          go_upto_region 24 with fail
          have hst0 : KSt wB (wr.alloc (.map #[] 0)) g bo bw wr.heap.size F O Wm [] n0 T := by
            have hoA := (Only.refl [] wr).alloc (.map #[] 0)
            have l1 := HMo.out.lt
            have l2 := HMw.out.lt
            exact ⟨HD0.out.more hoA (L := [wr.heap.size]) (by simp), HMo.out.only hoA (by simp), HMw.out.only hoA (by simp), MapAt.made Value.bool wr, ⟨HNe.out, by omega, by omega⟩, ⟨HLo.out.1, HLo.out.2, hoz⟩, HOld.out, HTO.out⟩
          have HK0 := hide hst0
          clear hst0 HD0 HMo HMw HNe HLo HOld hoz
          generalize wr.alloc (.map #[] 0) = w10 at *
          generalize wr.heap.size = bt at *
          obtain ⟨q0, q1⟩ := box_at hbk.out hlb HK0.out.din.only
          have HS7 := hide (arm_in HK0.out.din kk kp)
          go_wp2_with (go_at_call 31; refine HS7.out.mono ?_; rintro e w11 ⟨rfl, hdd, hk⟩)
          have HK1 : Hid (KRun wB w11 g bo bw bt F (n0 + 0)) := hide ⟨_, _, _, _, HK0.out.turn hdd hk (HTO.out.armed HKK.out HKP.out), HI.out.armed _ _⟩
          clear HK0 HI HS7 hdd hk q0 q1
          go_loopw [15] (fun v15 W => ∃ j : Nat, j ≤ m.length ∧ v15 = .int .i64 j ∧ KRun wB W g bo bw bt F (n0 + actszs (m.take j))) (fun v15 _ => (m.length - intOf v15).toNat)
          case atStart => exact ⟨0, by omega, rfl, HK1.out⟩
          case round =>
            clear HK1
            obtain ⟨j, hj, rfl, O, Wm, Tm, S, hst, hin⟩ := hrel
            have HST := hide hst
            have HIN := hide hin
            by_cases hgo : j < m.length ∧ S.down = false
            · obtain ⟨hlt, hdn⟩ := hgo
              have HDN := hide hdn
              have HDw := hide (down_eq hst.din hdn)
              obtain ⟨a, hr⟩ : ∃ a, m[j]? = some a := ⟨_, List.getElem?_eq_getElem hlt⟩
              obtain ⟨ga, off, rfl, hga, k0, k1, k2, k3, k4⟩ := HBs.out.only hst.din.only j a hr
              have his := hide (HM.out a (List.mem_of_getElem? hr))
              have hsz := sz_of_few HC2.out hr
              have hp : a.path.size ≤ 90000 := by unfold Act.sz at hsz; omega
              have ht : a.text.size ≤ 90000 := by unfold Act.sz at hsz; omega
              have HD := hide (fun W (h : DIn wB W [bt, bw, bo] g S) => do_act a hst.sound (by omega) h hp ht)
              have HR := hide hr
              clear hst hin hr hsz hp ht hdn
              go_upto_region 29 with (go_at_call 25; refine HDw.out.mono ?_; rintro e w12 ⟨rfl, rfl⟩)
              have hoA : Only [] w12 (w12.alloc (.cells #[.int .i64 a.kind, .string a.path, .string a.text, .int .i64 a.at_, .int .u64 a.keep] 39)) := (Only.refl [] w12).alloc _
              have hB := heap_alloc_new w12 (.cells #[.int .i64 a.kind, .string a.path, .string a.text, .int .i64 a.at_, .int .u64 a.keep] 39)
              have HS13 := hide (HST.out.quiet hoA)
              have l1 := HST.out.wr.lt
              have l2 := HST.out.tch.lt
              have hlb : w12.heap.size < (w12.alloc (.cells #[.int .i64 a.kind, .string a.path, .string a.text, .int .i64 a.at_, .int .u64 a.keep] 39)).heap.size := by simp
              clear HST hoA k0 k1 k2 k3 k4
              generalize w12.alloc (.cells #[.int .i64 a.kind, .string a.path, .string a.text, .int .i64 a.at_, .int .u64 a.keep] 39) = w13 at *
              generalize w12.heap.size = ba at *
              have HF := hide (fun (W : World) (ho : Only [bt, bw] w13 W) => act_cells ba hB (ho.block ba hlb (by simp; omega)))
              obtain ⟨e0, e1, e2, e3, e4⟩ := HF.out w13 (Only.refl _ _)
              clear hB l1 l2
              by_cases h1 : a.kind < 1
              · go_wp2
                go_roundw
                case rel => exact ⟨j + 1, by omega, by go_num, O, Wm, Tm, S, ⟨HS13.out.din, HS13.out.o, HS13.out.wr, HS13.out.tch, HS13.out.ne, HS13.out.lo, HS13.out.old, HS13.out.sound.le (by rw [actszs_snoc HR.out]; omega)⟩, HIN.out⟩
                case measure => simp [intOf]; omega
              have d1 : decide (a.kind < 1) = false := by simpa using h1
              by_cases h3 : 3 < a.kind
              · go_wp2
                go_roundw
                case rel => exact ⟨j + 1, by omega, by go_num, O, Wm, Tm, S, ⟨HS13.out.din, HS13.out.o, HS13.out.wr, HS13.out.tch, HS13.out.ne, HS13.out.lo, HS13.out.old, HS13.out.sound.le (by rw [actszs_snoc HR.out]; omega)⟩, HIN.out⟩
                case measure => simp [intOf]; omega
              have hcase : a.kind = 1 ∨ a.kind = 2 ∨ a.kind = 3 := by omega
              clear d1
              rcases hcase with hk | hk | hk
              · rw [hk] at HD e0
                have HK := hide hk
                have HF2 := HF
                rw [hk] at HF2
                clear hk h1 h3
                go_wp2_with (first
                  | (go_at_call 16; refine (HD.out _ HS15.out.din).mono ?_; rintro e w16 ⟨A5, c5, rfl, ha5, hd5, hk5⟩)
                  | (at_mapUpdate; refine wpList_store_map rfl _ _ _ 60 rfl Try.underlying60 Try.underlying9 HS14.out.wr rfl rfl true rfl ?_; intro w15 hm15 ho15; have HS15 := hide (HS14.out.wrote hm15 ho15); obtain ⟨e0, e1, e2, e3, e4⟩ := HF2.out w15 (HO14.out.trans ho15 (by simp)); clear hm15 ho15)
                  | (at_mapUpdate; refine wpList_store_map rfl _ _ _ 60 rfl Try.underlying60 Try.underlying9 HS13.out.tch rfl rfl true rfl ?_; intro w14 hm14 ho14; have HS14 := hide (HS13.out.touch hm14 ho14); have HO14 := hide (ho14.mono (T := [bt, bw]) (by simp)); obtain ⟨e0, e1, e2, e3, e4⟩ := HF2.out w14 HO14.out; clear hm14 ho14))
                go_roundw
                case rel => exact ⟨j + 1, by omega, by go_num, _, _, _, _, HS15.out.turn hd5 hk5 (by rw [actszs_snoc HR.out, ← Nat.add_assoc]; exact HS15.out.sound.act his.out), ((HIN.out.touch a.path).wrote a.text).act HDN.out (by have := HK.out; omega) (by have := HK.out; omega) (marked_same _ _) (fun _ => marked_same _ _) (fun h => by have := HK.out; omega)⟩
                case measure => simp [intOf]; omega
              · rw [hk] at HD e0
                have HK := hide hk
                have HF2 := HF
                rw [hk] at HF2
                clear hk h1 h3
                go_wp2_with (first
                  | (go_at_call 16; refine (HD.out _ HS15.out.din).mono ?_; rintro e w16 ⟨A5, c5, rfl, ha5, hd5, hk5⟩)
                  | (at_mapUpdate; refine wpList_store_map rfl _ _ _ 60 rfl Try.underlying60 Try.underlying9 HS14.out.tch rfl rfl true rfl ?_; intro w15 hm15 ho15; have HS15 := hide (HS14.out.touch hm15 ho15); obtain ⟨e0, e1, e2, e3, e4⟩ := HF2.out w15 (HO14.out.trans ho15 (by simp)); clear hm15 ho15)
                  | (at_mapUpdate; refine wpList_store_map rfl _ _ _ 60 rfl Try.underlying60 Try.underlying9 HS13.out.tch rfl rfl true rfl ?_; intro w14 hm14 ho14; have HS14 := hide (HS13.out.touch hm14 ho14); have HO14 := hide (ho14.mono (T := [bt, bw]) (by simp)); obtain ⟨e0, e1, e2, e3, e4⟩ := HF2.out w14 HO14.out; clear hm14 ho14))
                go_roundw
                case rel => exact ⟨j + 1, by omega, by go_num, _, _, _, _, HS15.out.turn hd5 hk5 (by rw [actszs_snoc HR.out, ← Nat.add_assoc]; exact HS15.out.sound.act his.out), ((HIN.out.touch a.path).touch a.text).act HDN.out (by have := HK.out; omega) (by have := HK.out; omega) (marked_more _ (marked_same _ _)) (fun h => by have := HK.out; omega) (fun _ => marked_same _ _)⟩
                case measure => simp [intOf]; omega
              · rw [hk] at HD e0
                have HK := hide hk
                have HF2 := HF
                rw [hk] at HF2
                clear hk h1 h3
                go_wp2_with (first
                  | (go_at_call 16; refine (HD.out _ HS14.out.din).mono ?_; rintro e w16 ⟨A5, c5, rfl, ha5, hd5, hk5⟩)
                  | (at_mapUpdate; refine wpList_store_map rfl _ _ _ 60 rfl Try.underlying60 Try.underlying9 HS13.out.tch rfl rfl true rfl ?_; intro w14 hm14 ho14; have HS14 := hide (HS13.out.touch hm14 ho14); have HO14 := hide (ho14.mono (T := [bt, bw]) (by simp)); obtain ⟨e0, e1, e2, e3, e4⟩ := HF2.out w14 HO14.out; clear hm14 ho14))
                go_roundw
                case rel => exact ⟨j + 1, by omega, by go_num, _, _, _, _, HS14.out.turn hd5 hk5 (by rw [actszs_snoc HR.out, ← Nat.add_assoc]; exact HS14.out.sound.act his.out), (HIN.out.touch a.path).act HDN.out (by have := HK.out; omega) (by have := HK.out; omega) (marked_same _ _) (fun h => by have := HK.out; omega) (fun h => by have := HK.out; omega)⟩
                case measure => simp [intOf]; omega
            · have hn1 : n0 + actszs (m.take j) ≤ 30000 := by have := szs_costs HC2.out; have := actszs_take m j; have := HC2.out; omega
              have hso := hst.sound.le hn1
              have hcase : (¬ j < m.length ∧ S.down = false) ∨ (¬ j < m.length ∧ S.down = true) ∨ (j < m.length ∧ S.down = true) := by
                cases hd : S.down
                · refine .inl ⟨fun h => hgo ⟨h, hd⟩, rfl⟩
                · by_cases h : j < m.length
                  · exact .inr (.inr ⟨h, rfl⟩)
                  · exact .inr (.inl ⟨h, rfl⟩)
              clear hgo hst hin
              rcases hcase with ⟨hlt, hdn⟩ | ⟨hlt, hdn⟩ | ⟨hlt, hdn⟩
              focus
                obtain rfl : j = m.length := by omega
                obtain ⟨hcode, hend⟩ := HIN.out.cut hdn kp
                have HDw := hide (down_eq HST.out.din hdn)
                have hso2 : Sound 30000 (S.armed2 1 kp) := hso.armed (by omega) HKP.out
                obtain ⟨U, hU⟩ : ∃ U, (S.armed2 1 kp).sync.2 = U := ⟨_, rfl⟩
                have hso3 : Sound 30000 U := by rw [← hU]; exact hso2.sync
                have HSa := hide (arm_in HST.out.din 1 kp)
                have HSb := hide (fun W (h : DIn wB W [bt, bw, bo] g (S.armed2 1 kp)) => in_eq (sync_in hso2 (by omega) h) (sync_same hcode hU))
                rw [hU] at hend
                generalize S.armed2 1 kp = Z at *
                obtain ⟨q0, q1⟩ := box_at hbk.out hlb HST.out.din.only
                have HEnd := hide hend
                have HSo2 := hide hso2
                have HSo3 := hide hso3
                clear hcode hU hend hso hso2 hso3 hdn
                go_upto_region 40 with (first
                  | (go_at_call 28; refine (HSb.out _ HS20.out.din).mono ?_; rintro e w21 ⟨rfl, hdd, hk⟩; have HS21 := hide (HS20.out.turn hdd hk HSo3.out); clear hdd hk)
                  | (go_at_call 31; refine HSa.out.mono ?_; rintro e w20 ⟨rfl, hdd, hk⟩; have HS20 := hide (HST.out.turn hdd hk HSo2.out); clear hdd hk)
                  | (go_at_call 25; refine HDw.out.mono ?_; rintro e w19 ⟨rfl, rfl⟩))
                clear HSa HSb HS20 HDw q0 q1 HSo2 HSo3
              rotate_left
              focus
                obtain rfl : j = m.length := by omega
                have hend := HIN.out.off hdn
                have HDw := hide (down_on HST.out.din hdn)
                have HEnd := hide hend
                have HS21 := hide (HST.out.turn HST.out.din ⟨Nat.le_refl _, fun _ _ => rfl⟩ hso)
                clear hend hso hdn
                go_upto_region 40 with (go_at_call 25; refine HDw.out.mono ?_; rintro e w21 ⟨rfl, rfl⟩)
                clear HDw
              rotate_left
              focus
                have hend := HIN.out.off hdn
                have HDw := hide (down_on HST.out.din hdn)
                have HEnd := hide hend
                have HS21 := hide (HST.out.turn HST.out.din ⟨Nat.le_refl _, fun _ _ => rfl⟩ hso)
                clear hend hso hdn
                go_upto_region 40 with (go_at_call 25; refine HDw.out.mono ?_; rintro e w21 ⟨rfl, rfl⟩)
                clear HDw
              rotate_left
              all_goals
                obtain ⟨V0, hE, hS⟩ : ∃ V0 : DiskS, KEnd F Wm Tm V0.started ∧ KSt wB w21 g bo bw bt F O Wm Tm 30000 V0 := ⟨_, HEnd.out, HS21.out⟩
                have HSt := hide (start_in hS.din)
                have hso := hS.sound.started
                have HS := hide hS
                obtain ⟨V, hV⟩ : ∃ V, V0.started = V := ⟨_, rfl⟩
                rw [hV] at HSt hso hE
                have HSO := hide hso
                have HE := hide hE
                clear hS hE HS21 HEnd hV hso HST HIN
                obtain ⟨Y, hY⟩ : ∃ Y, V.list ⟨#[]⟩ = Y := ⟨_, rfl⟩
                have hYl : Y.length ≤ 1000000 := by
                  have h1 := list_len V ⟨#[]⟩
                  rw [hY] at h1
                  have h2 := took_wt V.seen
                  have h3 := HSO.out.seen
                  omega
                have HSl := hide (fun W (h : DIn wB W [bt, bw, bo] g V) => list_eq (list_in HSO.out (by omega) h ⟨#[]⟩ (by decide)) (by rw [hY]))
                rw [hY] at HSl
                have HY := hide hY
                clear hY
                go_wp2_with (first
                  | (go_at_call 29; refine (HSl.out _ HS22.out.din).mono ?_; rintro e w23 ⟨A2, c2, rfl, hc2, ha2, _, ho⟩; have HS23 := hide (HS22.out.quiet ho); have HA23 := hide ha2; clear ho ha2)
                  | (go_at_call 32; refine HSt.out.mono ?_; rintro e w22 ⟨rfl, hdd, hk⟩; have HS22 := hide (HS.out.turn hdd hk HSO.out); clear hdd hk))
                clear HSl HSt HS22 HS
                go_loopw [18] (fun v18 W => ∃ i : Nat, i ≤ Y.length ∧ v18 = .int .i64 i ∧ Only [] w23 W) (fun v18 _ => (Y.length - intOf v18).toNat)
                case atStart => exact ⟨0, by omega, rfl, Only.refl _ _⟩
                case round =>
                  obtain ⟨i, hi, rfl, hO⟩ := hrel
                  have HSW := hide (HS23.out.quiet hO)
                  have HAW := hide (HA23.out.only hO (by simp))
                  have HOW := hide hO
                  clear hO
                  by_cases hil : i < Y.length
                  · obtain ⟨x, hx⟩ : ∃ x, Y[i]? = some x := ⟨_, List.getElem?_eq_getElem hil⟩
                    obtain ⟨tt, htt, hmk⟩ := HE.out.listed (p := ⟨#[]⟩) (x := x) (by rw [HY.out]; exact List.mem_of_getElem? hx)
                    obtain ⟨ga, rfl, hga, k0⟩ := HAW.out i _ (map_at hx)
                    have HR1 := hide (read_eq (read_in HSW.out.din x) htt)
                    have lk : (Instr.lookup 60 (.map (some bw)) (.string tt) false).run Try.prog wr = .ok (.bool (marked Wm tt)) wr := HSW.out.wr.look1 (P := Try.prog) Try.underlying60 Try.underlying9 false (zero4 wr) tt
                    rw [hmk] at lk
                    clear hx htt hmk
                    go_wp2_with (go_at_call 30; refine HR1.out.mono ?_; rintro e w24 ⟨rfl, rfl⟩)
                    go_roundw
                    case rel => exact ⟨i + 1, by omega, by go_num, HOW.out⟩
                    case measure => simp [intOf]; omega
                  · obtain rfl : i = Y.length := by omega
                    go_wp2_with (at_range; refine wpList_range_map rfl _ _ rfl Try.underlying58 HSW.out.o rfl ?_; intro w24 hr0 ho0 hs0)
                    have hmemo : ∀ q ∈ O, mget O q.1 = some q.2 := fun q hq => mget_of_nodup HSW.out.o.nodup hq
                    have hrz : w23.heap.size ≤ wr.heap.size := HOW.out.size
                    have HR0 := hide hr0
                    have HO24 := hide (HOW.out.trans ho0 (by simp))
                    have hMO := hide hmemo
                    clear hr0 ho0 hs0 hmemo HAW HA23 HSW HOW
                    go_frame
                    generalize wr.heap.size = r at *
                    go_loopw [21] (fun v21 W => ∃ rest, RangeAt Value.string W bo r O rest ∧ Only [] w23 W ∧ ∀ q ∈ rest, q ∈ O) (fun _ W => W.rangeLeft bo r)
                    case atStart => exact ⟨O, HR0.out, HO24.out, fun _ hq => hq⟩
                    case round =>
                      clear HR0 HO24
                      obtain ⟨rest, hR, hO, hsub⟩ := hrel
                      have HR := hide hR
                      have HSUB := hide hsub
                      have HO := hide hO
                      clear hsub hO
                      go_wp2_with (at_next; refine wpList_next_map rfl _ rfl hR rfl ?_ ?_)
                      · intro hrest
                        have hSW := HS23.out.quiet HO.out
                        have HSW := hide hSW
                        have HWt := hide (waiting_none hSW.din HE.out.waits)
                        clear hrest hR hSW
                        go_wp2_with (go_at_call 26; refine HWt.out.mono ?_; rintro e w26 ⟨rfl, rfl⟩)
                        go_ret
                        exact ⟨rfl, HOB.out.trans HSW.out.din.only (by simp)⟩
                      · intro ii k v w25 hp hR1 ho1 hs1 hen
                        have hO25 : Only [] w23 w25 := HO.out.trans ho1 (fun t ht hl => by simp at ht; omega)
                        have hSW := HS23.out.quiet hO25
                        have hq := HSUB.out _ (List.mem_of_getElem? hp)
                        have hmo := hMO.out _ hq
                        have hF := HS23.out.old k v hmo
                        have lk : (Instr.lookup 60 (.map (some bt)) (.string k) false).run Try.prog w25 = .ok (.bool (marked Tm k)) w25 := hSW.tch.look1 (P := Try.prog) Try.underlying60 Try.underlying9 false (zero4 w25) k
                        have HRd := hide (read_in hSW.din k)
                        have HO25 := hide hO25
                        have hlt : (rest.eraseIdx ii).length < rest.length := by
                          have hi : ii < rest.length := (List.getElem?_eq_some_iff.1 hp).1
                          rw [List.length_eraseIdx]
                          simp [hi]
                          omega
                        have HSub1 := hide (fun q (hq : q ∈ rest.eraseIdx ii) => HSUB.out q (List.mem_of_mem_eraseIdx hq))
                        cases hm : marked Tm k with
                        | true =>
                          rw [hm] at lk
                          clear hm hF hmo hq hp hSW hO25 hs1
                          go_wp2_with (go_at_call 30; refine HRd.out.mono ?_; rintro e w26 ⟨rfl, rfl⟩)
                          go_roundw
                          case rel => exact ⟨rest.eraseIdx ii, hR1, HO25.out, HSub1.out⟩
                          case measure =>
                            rw [hR1.left, HR.out.left]
                            exact hlt
                        | false =>
                          rw [hm] at lk
                          have HRe := hide (read_eq HRd.out (HE.out.old hF hm))
                          have lo : (Instr.lookup 58 (.map (some bo)) (.string k) false).run Try.prog w25 = .ok (.string ((mget O k).getD ⟨#[]⟩)) w25 := hSW.o.look1 (P := Try.prog) Try.underlying58 Try.underlying9 ⟨#[]⟩ (zero9 w25) k
                          have hmo' : mget O k = some v := hmo
                          rw [hmo'] at lo
                          simp only [Option.getD_some] at lo
                          clear hm hF hmo hmo' hq hp hSW hO25 hs1 HRd
                          go_wp2_with (go_at_call 30; refine HRe.out.mono ?_; rintro e w26 ⟨rfl, rfl⟩)
                          go_roundw
                          case rel => exact ⟨rest.eraseIdx ii, hR1, HO25.out, HSub1.out⟩
                          case measure =>
                            rw [hR1.left, HR.out.left]
                            exact hlt
end Go.Proofs.Ytljkaafdajpmkaa
