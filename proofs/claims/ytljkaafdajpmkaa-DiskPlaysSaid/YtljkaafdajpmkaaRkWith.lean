/- The reference's files: with one more. -/
import Derived.Test.YtljkaafdajpmkaaRkFiles
namespace Go.Proofs.Ytljkaafdajpmkaa
open Go.RowKit
set_option linter.unusedVariables false

def lessB (a b : ByteArray) : Bool := Op.bytesLess a.toList b.toList
/-- Files with one more, by rising paths. -/
def rWith (l : Files) (p t : ByteArray) : Files := (rWithout l p).takeWhile (fun q => lessB q.1 p) ++ ([(p, t)] ++ (rWithout l p).dropWhile (fun q => lessB q.1 p))
theorem while_at {α : Type} {f : α → Bool} : ∀ {s : List α} {k : Nat}, (∀ i x, i < k → s[i]? = some x → f x = true) → (∀ x, s[k]? = some x → f x = false) → k ≤ s.length → s.takeWhile f = s.take k ∧ s.dropWhile f = s.drop k
  | [], k, _, _, hk => by
    have : k = 0 := by simpa using hk
    subst this
    simp
  | x :: s, 0, _, h, _ => by
    have := h x (by simp)
    simp [List.takeWhile, List.dropWhile, this]
  | x :: s, k + 1, h, h2, hk => by
    have hx := h 0 x (by omega) (by simp)
    obtain ⟨h3, h4⟩ := while_at (s := s) (k := k) (fun i y hi hy => h (i + 1) y (by omega) (by simpa using hy)) (fun y hy => h2 y (by simpa using hy)) (by simpa using hk)
    simp [List.takeWhile, List.dropWhile, hx, h3, h4]
theorem fcells_take (l : Files) (k : Nat) : (fcells l).take (k * 2) = fcells (l.take k) := by
  induction l generalizing k with
  | nil => simp [fcells]
  | cons p l ih =>
    cases k with
    | zero => simp [fcells]
    | succ k =>
      have e : (k + 1) * 2 = k * 2 + 1 + 1 := by omega
      rw [e]
      have := ih k
      simp only [fcells, List.flatMap_cons, List.take_succ_cons, List.cons_append, List.nil_append] at this ⊢
      rw [this]
theorem fcells_drop (l : Files) (k : Nat) : (fcells l).drop (k * 2) = fcells (l.drop k) := by
  induction l generalizing k with
  | nil => simp [fcells]
  | cons p l ih =>
    cases k with
    | zero => simp [fcells]
    | succ k =>
      have e : (k + 1) * 2 = k * 2 + 1 + 1 := by omega
      rw [e]
      have := ih k
      simp only [fcells, List.flatMap_cons, List.drop_succ_cons, List.cons_append, List.nil_append] at this ⊢
      rw [this]
theorem argO_blk {w : World} {b : Nat} {cells : List Value} {cs : Array Value} {e : TypeId} (h : w.heap[b]? = some (.cells cs e (0, 0))) (hc : cs.toList = cells) : ArgO w (some ⟨b, 0, none⟩) cells := fun j u hu => by
  subst hc
  refine ⟨b, 0, rfl, (Array.getElem?_eq_some_iff.1 h).1, ?_⟩
  rw [Array.getElem?_toList] at hu
  simp [World.cell?, h, hu]
theorem argO_nil (w : World) (A : Option Addr) : ArgO w A [] := fun j u hu => by simp at hu
theorem own_empty {w : World} {base b : Nat} {e : TypeId} {size : Nat} (h : w.heap[b]? = some (.cells #[] e (0, 0))) (hb : base ≤ b) : w.ownsRow base e size (.slice (some ⟨b, 0, none⟩) 0 0) 0 [] :=
  ⟨by simp, .inr ⟨b, 0, #[], rfl, hb, h, Nat.le_refl _, by unfold maxLen; omega, by simp, by simp⟩⟩
set_option maxHeartbeats 4000000 in
set_option maxRecDepth 100000 in
theorem with_any (l : Files) (p t : ByteArray) (A : Option Addr) (c : Nat) (w : World) (hl : l.length ≤ 1000000) (ha : ArgAt w A (fcells l)) :
    Calls Try.prog 84 #[.slice A l.length c, .agg #[.string p, .string t]] w (FilesAt w (rWith l p t)) := by
  have hoB : Only [] w (w.alloc (.cells #[.string p, .string t] 110)) := (Only.refl [] w).alloc _
  have hbk := heap_alloc_new w (.cells #[.string p, .string t] 110)
  have hlb : w.heap.size < (w.alloc (.cells #[.string p, .string t] 110)).heap.size := by simp
  have hwo := hide (without_any l p A c _ hl (ha.only hoB (by simp)))
  obtain ⟨r, hr⟩ : ∃ r, r = rWith l p t := ⟨_, rfl⟩
  rw [← hr]
  unfold rWith at hr
  have HR := hide hr
  have hsl : (rWithout l p).length ≤ 1000000 := Nat.le_trans (rWithout_len _ _) hl
  clear hr ha hl
  go_enter Try.func84, Try.ntmps84
  go_upto_region 1 with fail
  generalize w.alloc (.cells #[.string p, .string t] 110) = wB at *
  generalize w.heap.size = bx at *
  have q0 : wB.cell? ⟨bx, 0, none⟩ = some (.string p) := by simp [World.cell?, hbk]
  have q1 : wB.cell? ⟨bx, 1, none⟩ = some (.string t) := by simp [World.cell?, hbk]
  have HBK := hide hbk
  clear hbk
  generalize rWithout l p = s at *
  go_wp2_with (go_at_call 85; refine hwo.out.mono ?_; rintro e w1 ⟨A1, c1, rfl, hc1, ha1, ho1, hok⟩)
  have HOB := hide hoB
  have HO1 := hide ho1
  have HA1 := hide ha1
  have hbk1 := hide ((ho1.block bx hlb (by simp)).trans HBK.out)
  have hlb1 : bx < w1.heap.size := Nat.lt_of_lt_of_le hlb ho1.size
  clear hoB ho1 ha1 q0 q1 hwo HBK hlb
  go_loopw [5] (fun v5 W => ∃ k : Nat, k ≤ s.length ∧ v5 = .int .i64 k ∧ (∀ i x, i < k → s[i]? = some x → lessB x.1 p = true) ∧ Only [] w1 W) (fun v5 _ => (s.length - intOf v5).toNat)
  case atStart => exact ⟨0, by omega, rfl, fun i x hi => by omega, Only.refl _ _⟩
  case round =>
    obtain ⟨k, hk, rfl, hbef, hO⟩ := hrel
    have HBef := hide hbef
    have hbkw := (hO.block bx hlb1 (by simp)).trans hbk1.out
    have q0 : wr.cell? ⟨bx, 0, none⟩ = some (.string p) := by simp [World.cell?, hbkw]
    have q1 : wr.cell? ⟨bx, 1, none⟩ = some (.string t) := by simp [World.cell?, hbkw]
    have HBW := hide hbkw
    have hlw : bx < wr.heap.size := Nat.lt_of_lt_of_le hlb1 hO.size
    have HO := hide hO
    have haw := HA1.out.only hO (by simp)
    have HAW := hide haw
    clear hbef hbkw hO
    by_cases hgo : k < s.length ∧ ∃ x, s[k]? = some x ∧ lessB x.1 p = true
    · obtain ⟨hlt, x, hx, hle⟩ := hgo
      obtain ⟨ga, rfl, hga, k0⟩ := haw _ _ (fcells_at hx).1
      have HX := hide hx
      have HLe := hide hle
      unfold lessB at hle
      clear haw hx
      go_wp2
      go_quiet (fail)
      go_wp2
      go_roundw
      case rel =>
        refine ⟨k + 1, by omega, by go_num, fun i y hi hy => ?_, HO.out.drewN _⟩
        by_cases hik : i < k
        · exact HBef.out i y hik hy
        · obtain rfl : i = k := by omega
          rw [HX.out] at hy
          cases hy
          exact HLe.out
      case measure => simp [intOf]; omega
    · have hno : ∀ x, s[k]? = some x → lessB x.1 p = false := fun x hx => by
        cases hb : lessB x.1 p
        · rfl
        · exact absurd ⟨(List.getElem?_eq_some_iff.1 hx).1, x, hx, hb⟩ hgo
      have hwh := while_at HBef.out hno hk
      have hr : r = s.take k ++ ([(p, t)] ++ s.drop k) := by rw [HR.out, hwh.1, hwh.2]
      have HRr := hide hr
      clear hr hwh hgo
      by_cases hlt : k < s.length
      · obtain ⟨x, hx⟩ : ∃ x, s[k]? = some x := ⟨_, List.getElem?_eq_getElem hlt⟩
        obtain ⟨ga, rfl, hga, k0⟩ := haw _ _ (fcells_at hx).1
        have hle := hno x hx
        unfold lessB at hle
        clear haw hno hx
        go_wp2
        go_quiet (fail)
        go_wp2
        have HAO := hide (HAW.out.off)
        have hck : ¬ c1 = k := by omega
        have hck' : ¬ (c1 : Int) = k := by omega
        clear k0 hle
        have q0' : (wr.drewN nq).cell? ⟨bx, 0, none⟩ = some (.string p) := q0
        have q1' : (wr.drewN nq).cell? ⟨bx, 1, none⟩ = some (.string t) := q1
        have hOd := hide ((Only.refl [] wr).drewN nq)
        have HAd := hide (HAO.out.only hOd.out)
        have HOW := hide ((HOB.out.trans ((HO1.out.trans HO.out (by simp)).drewN nq) (by simp)))
        clear q0 q1
        generalize wr.drewN nq = wd at *
        have HBX := hide (fun W (ho : Only [] wd W) => show W.cell? ⟨bx, 0, none⟩ = some (.string p) ∧ W.cell? ⟨bx, 1, none⟩ = some (.string t) from
          ⟨(ho.cell (p := ⟨bx, 0, none⟩) (World.block_lt_of_cell? wd _ q0') (by simp)).trans q0', (ho.cell (p := ⟨bx, 1, none⟩) (World.block_lt_of_cell? wd _ q1') (by simp)).trans q1'⟩)
        have hA1s := hide (fun W (ho : Only [] wd W) => (HAd.out.take (k * 2)).only ho)
        have hA2s := hide (fun W (ho : Only [] wd W) => (HAd.out.drop (k * 2)).only ho)
        rw [fcells_take] at hA1s
        rw [fcells_drop] at hA2s
        simp only [Option.map_some, addr_off, Nat.zero_add] at hA2s
        have HFin := hide (fun (W : World) (v : Value) (bs : Nat) (h : W.ownsRow bs 110 2 v (0 + k + 1 + (s.length - k)) ([] ++ fcells (s.take k) ++ fcells [(p, t)] ++ fcells (s.drop k))) => show W.ownsRow bs 110 2 v r.length (fcells r) by
          have e1 : r.length = 0 + k + 1 + (s.length - k) := by rw [HRr.out]; simp; omega
          have e2 : fcells r = [] ++ fcells (s.take k) ++ fcells [(p, t)] ++ fcells (s.drop k) := by rw [HRr.out, fcells_append, fcells_append]; simp
          rw [e1, e2]
          exact h)
        have i0 : (0 : Int) ≤ k := by omega
        have i1 : (k : Int) ≤ s.length := by omega
        have i2 : (k : Int) ≤ c1 := by omega
        have i3 : (s.length : Int) ≤ c1 := by omega
        have hl1 : (fcells (s.take k)).length = k * 2 := by rw [fcells_len, List.length_take]; omega
        have hl2 : (fcells (s.drop k)).length = (s.length - k) * 2 := by rw [fcells_len, List.length_drop]
        have HL1 := hide hl1
        have HL2 := hide hl2
        clear hl1 hl2
        go_region_held3 (fun W' => W'.cell? ⟨bx, 0, none⟩ = some (.string p) ∧ W'.cell? ⟨bx, 1, none⟩ = some (.string t)) (first | go_keep | exact HBX.out _ hO5.out | exact HBX.out _ hO4.out | exact HBX.out _ hO3.out)
          (first
          | (refine step_app_arg (P := Try.prog) (base := wd.heap.size) (v := v2) rfl (.tmp 33) (.tmp 36) 29 rfl Try.underlying29 infoFile rfl (by omega) rfl hown4 (some ⟨ga, k * 2, none⟩) (s.length - k) (c1 - k) (fcells (s.drop k)) rfl HL2.out (hA2s.out _ hO4.out) (fcells_one _) (by omega) (by unfold maxLen; omega) (by have := hO4.out.size; omega) ?_
             intro v3 w5 hown5 ho5
             have hO5 := hide (hO4.out.trans ho5 (fun t ht hl => by have := (own_lt hown4 ht).1; omega)))
          | (refine step_app_arg (P := Try.prog) (base := wd.heap.size) (v := v1) rfl (.tmp 30) (.tmp 32) 29 rfl Try.underlying29 infoFile rfl (by omega) rfl (by first | exact hown3 | exact hown3.alloc _ | exact (hown3.alloc _).drew) (some ⟨_, 0, none⟩) 1 1 (fcells [(p, t)]) rfl rfl
              (argO_blk (cs := #[.string p, .string t]) (by first | exact heap_alloc_new _ _ | exact (ho3.block _ (by simp <;> omega) (by simp [Value.ownBlock])).trans (two_new _ _ _).1 | exact (ho3.block _ (by simp <;> omega) (by simp [Value.ownBlock])).trans (two_new _ _ _).2) rfl) (fcells_one _) (by omega) (by unfold maxLen; omega) (by have := hO3.out.size; first | omega | (simp; omega)) ?_
             intro v2 w4 hown4 ho4
             have hO4 : Hid (Only [] wd w4) := by
               first
               | exact hO3.out.trans ho4 (fun t ht hl => by have := (own_lt hown3 ht).1; omega)
               | exact (hO3.out.alloc _).trans ho4 (fun t ht hl => by have := (own_lt hown3 ht).1; omega)
               | exact (hO3.out.alloc _).drew.trans ho4 (fun t ht hl => by have := (own_lt hown3 ht).1; omega))
          | (refine step_app_arg (P := Try.prog) (base := wd.heap.size) (v := .slice (some ⟨_, 0, none⟩) 0 0) rfl (.tmp 26) (.tmp 29) 29 rfl Try.underlying29 infoFile rfl (by omega) rfl (own_empty (by first | exact heap_alloc_new _ _ | exact (two_new _ _ _).1 | exact (two_new _ _ _).2) (by simp <;> omega)) (some ⟨ga, 0, none⟩) k c1 (fcells (s.take k)) rfl HL1.out (hA1s.out _ (by first | exact (Only.refl _ _).drew.alloc _ | exact ((Only.refl _ _).drew.alloc _).alloc _)) (fcells_one _) (by omega) (by unfold maxLen; omega) (by simp <;> omega) ?_
             intro v1 w3 hown3 ho3
             have hO3 : Hid (Only [] wd w3) := by
               first
               | exact (((Only.refl [] wd).alloc _).drew).trans ho3 (fun t ht hl => by simp [Value.ownBlock] at ht; omega)
               | exact ((((Only.refl [] wd).alloc _).alloc _).drew).trans ho3 (fun t ht hl => by simp [Value.ownBlock] at ht; omega)))
        all_goals
          obtain ⟨A3, c3, rfl, hc3, ha3, hok3⟩ := own_files (HFin.out _ _ _ hown5)
          go_wp2
          go_ret
          exact ⟨A3, c3, rfl, hc3, ha3, HOW.out.trans hO5.out (by simp), hok3⟩
      · obtain rfl : k = s.length := by omega
        have d0 : decide (s.length < s.length) = false := by simp
        clear haw hno
        go_wp2
        go_quiet (fail)
        go_wp2
        have hr2 : r = s ++ [(p, t)] := by rw [HRr.out, List.take_length, List.drop_length]; rfl
        have HR2 := hide hr2
        clear hr2
        have HAO := hide (HAW.out.off)
        have q0' : (wr.drewN nq).cell? ⟨bx, 0, none⟩ = some (.string p) := q0
        have q1' : (wr.drewN nq).cell? ⟨bx, 1, none⟩ = some (.string t) := q1
        have hOd := hide ((Only.refl [] wr).drewN nq)
        have HAd := hide (HAO.out.only hOd.out)
        have HOW := hide ((HOB.out.trans ((HO1.out.trans HO.out (by simp)).drewN nq) (by simp)))
        clear q0 q1
        generalize wr.drewN nq = wd at *
        have HBX := hide (fun W (ho : Only [] wd W) => show W.cell? ⟨bx, 0, none⟩ = some (.string p) ∧ W.cell? ⟨bx, 1, none⟩ = some (.string t) from
          ⟨(ho.cell (p := ⟨bx, 0, none⟩) (World.block_lt_of_cell? wd _ q0') (by simp)).trans q0', (ho.cell (p := ⟨bx, 1, none⟩) (World.block_lt_of_cell? wd _ q1') (by simp)).trans q1'⟩)
        have hA1s := hide (fun W (ho : Only [] wd W) => HAd.out.only ho)
        have HFin := hide (fun (W : World) (v : Value) (bs : Nat) (h : W.ownsRow bs 110 2 v (0 + s.length + 1 + 0) ([] ++ fcells s ++ fcells [(p, t)] ++ fcells [])) => show W.ownsRow bs 110 2 v r.length (fcells r) by
          have e1 : r.length = 0 + s.length + 1 + 0 := by rw [HR2.out]; simp
          have e2 : fcells r = [] ++ fcells s ++ fcells [(p, t)] ++ fcells [] := by rw [HR2.out, fcells_append]; simp [fcells]
          rw [e1, e2]
          exact h)
        have i0 : (0 : Int) ≤ s.length := by omega
        have i3 : (s.length : Int) ≤ c1 := by omega
        have hl1 : (fcells s).length = s.length * 2 := fcells_len s
        have HL1 := hide hl1
        clear hl1
        rcases hok with ⟨rfl, rfl⟩ | ⟨ga, rfl⟩
        · have hs0 : s = [] := List.eq_nil_of_length_eq_zero (by omega)
          subst hs0
          go_region_held3 (fun W' => W'.cell? ⟨bx, 0, none⟩ = some (.string p) ∧ W'.cell? ⟨bx, 1, none⟩ = some (.string t)) (first | go_keep | exact HBX.out _ hO5.out | exact HBX.out _ hO4.out | exact HBX.out _ hO3.out)
            (first
            | (refine step_app_arg (P := Try.prog) (base := wd.heap.size) (v := v2) rfl (.tmp 33) (.tmp 36) 29 rfl Try.underlying29 infoFile rfl (by omega) rfl hown4 _ 0 _ (fcells []) rfl rfl (argO_nil _ _) (fcells_one _) (by omega) (by unfold maxLen; omega) (by have := hO4.out.size; omega) ?_
               intro v3 w5 hown5 ho5
               have hO5 := hide (hO4.out.trans ho5 (fun t ht hl => by have := (own_lt hown4 ht).1; omega)))
            | (refine step_app_arg (P := Try.prog) (base := wd.heap.size) (v := v1) rfl (.tmp 30) (.tmp 32) 29 rfl Try.underlying29 infoFile rfl (by omega) rfl (by first | exact hown3 | exact hown3.alloc _ | exact (hown3.alloc _).drew) (some ⟨_, 0, none⟩) 1 1 (fcells [(p, t)]) rfl rfl
                (argO_blk (cs := #[.string p, .string t]) (by first | exact heap_alloc_new _ _ | exact (ho3.block _ (by simp <;> omega) (by simp [Value.ownBlock])).trans (two_new _ _ _).1 | exact (ho3.block _ (by simp <;> omega) (by simp [Value.ownBlock])).trans (two_new _ _ _).2) rfl) (fcells_one _) (by omega) (by unfold maxLen; omega) (by have := hO3.out.size; first | omega | (simp; omega)) ?_
               intro v2 w4 hown4 ho4
               have hO4 : Hid (Only [] wd w4) := by
                 first
                 | exact hO3.out.trans ho4 (fun t ht hl => by have := (own_lt hown3 ht).1; omega)
                 | exact (hO3.out.alloc _).trans ho4 (fun t ht hl => by have := (own_lt hown3 ht).1; omega)
                 | exact (hO3.out.alloc _).drew.trans ho4 (fun t ht hl => by have := (own_lt hown3 ht).1; omega))
            | (refine step_app_arg (P := Try.prog) (base := wd.heap.size) (v := .slice (some ⟨_, 0, none⟩) 0 0) rfl (.tmp 26) (.tmp 29) 29 rfl Try.underlying29 infoFile rfl (by omega) rfl (own_empty (by first | exact heap_alloc_new _ _ | exact (two_new _ _ _).1 | exact (two_new _ _ _).2) (by simp <;> omega)) _ 0 _ (fcells []) rfl rfl (argO_nil _ _) (fcells_one _) (by omega) (by unfold maxLen; omega) (by simp <;> omega) ?_
               intro v1 w3 hown3 ho3
               have hO3 : Hid (Only [] wd w3) := by
                 first
                 | exact (((Only.refl [] wd).alloc _).drew).trans ho3 (fun t ht hl => by simp [Value.ownBlock] at ht; omega)
                 | exact ((((Only.refl [] wd).alloc _).alloc _).drew).trans ho3 (fun t ht hl => by simp [Value.ownBlock] at ht; omega)))
          all_goals
            obtain ⟨A3, c3, rfl, hc3, ha3, hok3⟩ := own_files (HFin.out _ _ _ hown5)
            go_wp2
            go_ret
            exact ⟨A3, c3, rfl, hc3, ha3, HOW.out.trans hO5.out (by simp), hok3⟩
        · by_cases hck : c1 = s.length
          · subst hck
            go_region_held3 (fun W' => W'.cell? ⟨bx, 0, none⟩ = some (.string p) ∧ W'.cell? ⟨bx, 1, none⟩ = some (.string t)) (first | go_keep | exact HBX.out _ hO5.out | exact HBX.out _ hO4.out | exact HBX.out _ hO3.out)
              (first
              | (refine step_app_arg (P := Try.prog) (base := wd.heap.size) (v := v2) rfl (.tmp 33) (.tmp 36) 29 rfl Try.underlying29 infoFile rfl (by omega) rfl hown4 _ 0 _ (fcells []) rfl rfl (argO_nil _ _) (fcells_one _) (by omega) (by unfold maxLen; omega) (by have := hO4.out.size; omega) ?_
                 intro v3 w5 hown5 ho5
                 have hO5 := hide (hO4.out.trans ho5 (fun t ht hl => by have := (own_lt hown4 ht).1; omega)))
              | (refine step_app_arg (P := Try.prog) (base := wd.heap.size) (v := v1) rfl (.tmp 30) (.tmp 32) 29 rfl Try.underlying29 infoFile rfl (by omega) rfl (by first | exact hown3 | exact hown3.alloc _ | exact (hown3.alloc _).drew) (some ⟨_, 0, none⟩) 1 1 (fcells [(p, t)]) rfl rfl
                  (argO_blk (cs := #[.string p, .string t]) (by first | exact heap_alloc_new _ _ | exact (ho3.block _ (by simp <;> omega) (by simp [Value.ownBlock])).trans (two_new _ _ _).1 | exact (ho3.block _ (by simp <;> omega) (by simp [Value.ownBlock])).trans (two_new _ _ _).2) rfl) (fcells_one _) (by omega) (by unfold maxLen; omega) (by have := hO3.out.size; first | omega | (simp; omega)) ?_
                 intro v2 w4 hown4 ho4
                 have hO4 : Hid (Only [] wd w4) := by
                   first
                   | exact hO3.out.trans ho4 (fun t ht hl => by have := (own_lt hown3 ht).1; omega)
                   | exact (hO3.out.alloc _).trans ho4 (fun t ht hl => by have := (own_lt hown3 ht).1; omega)
                   | exact (hO3.out.alloc _).drew.trans ho4 (fun t ht hl => by have := (own_lt hown3 ht).1; omega))
              | (refine step_app_arg (P := Try.prog) (base := wd.heap.size) (v := .slice (some ⟨_, 0, none⟩) 0 0) rfl (.tmp 26) (.tmp 29) 29 rfl Try.underlying29 infoFile rfl (by omega) rfl (own_empty (by first | exact heap_alloc_new _ _ | exact (two_new _ _ _).1 | exact (two_new _ _ _).2) (by simp <;> omega)) _ s.length _ (fcells s) rfl HL1.out (hA1s.out _ (by first | exact (Only.refl _ _).drew.alloc _ | exact ((Only.refl _ _).drew.alloc _).alloc _)) (fcells_one _) (by omega) (by unfold maxLen; omega) (by simp <;> omega) ?_
                 intro v1 w3 hown3 ho3
                 have hO3 : Hid (Only [] wd w3) := by
                   first
                   | exact (((Only.refl [] wd).alloc _).drew).trans ho3 (fun t ht hl => by simp [Value.ownBlock] at ht; omega)
                   | exact ((((Only.refl [] wd).alloc _).alloc _).drew).trans ho3 (fun t ht hl => by simp [Value.ownBlock] at ht; omega)))
            all_goals
              obtain ⟨A3, c3, rfl, hc3, ha3, hok3⟩ := own_files (HFin.out _ _ _ hown5)
              go_wp2
              go_ret
              exact ⟨A3, c3, rfl, hc3, ha3, HOW.out.trans hO5.out (by simp), hok3⟩
          · have hck' : ¬ (c1 : Int) = s.length := by omega
            go_region_held3 (fun W' => W'.cell? ⟨bx, 0, none⟩ = some (.string p) ∧ W'.cell? ⟨bx, 1, none⟩ = some (.string t)) (first | go_keep | exact HBX.out _ hO5.out | exact HBX.out _ hO4.out | exact HBX.out _ hO3.out)
              (first
              | (refine step_app_arg (P := Try.prog) (base := wd.heap.size) (v := v2) rfl (.tmp 33) (.tmp 36) 29 rfl Try.underlying29 infoFile rfl (by omega) rfl hown4 _ 0 _ (fcells []) rfl rfl (argO_nil _ _) (fcells_one _) (by omega) (by unfold maxLen; omega) (by have := hO4.out.size; omega) ?_
                 intro v3 w5 hown5 ho5
                 have hO5 := hide (hO4.out.trans ho5 (fun t ht hl => by have := (own_lt hown4 ht).1; omega)))
              | (refine step_app_arg (P := Try.prog) (base := wd.heap.size) (v := v1) rfl (.tmp 30) (.tmp 32) 29 rfl Try.underlying29 infoFile rfl (by omega) rfl (by first | exact hown3 | exact hown3.alloc _ | exact (hown3.alloc _).drew) (some ⟨_, 0, none⟩) 1 1 (fcells [(p, t)]) rfl rfl
                  (argO_blk (cs := #[.string p, .string t]) (by first | exact heap_alloc_new _ _ | exact (ho3.block _ (by simp <;> omega) (by simp [Value.ownBlock])).trans (two_new _ _ _).1 | exact (ho3.block _ (by simp <;> omega) (by simp [Value.ownBlock])).trans (two_new _ _ _).2) rfl) (fcells_one _) (by omega) (by unfold maxLen; omega) (by have := hO3.out.size; first | omega | (simp; omega)) ?_
                 intro v2 w4 hown4 ho4
                 have hO4 : Hid (Only [] wd w4) := by
                   first
                   | exact hO3.out.trans ho4 (fun t ht hl => by have := (own_lt hown3 ht).1; omega)
                   | exact (hO3.out.alloc _).trans ho4 (fun t ht hl => by have := (own_lt hown3 ht).1; omega)
                   | exact (hO3.out.alloc _).drew.trans ho4 (fun t ht hl => by have := (own_lt hown3 ht).1; omega))
              | (refine step_app_arg (P := Try.prog) (base := wd.heap.size) (v := .slice (some ⟨_, 0, none⟩) 0 0) rfl (.tmp 26) (.tmp 29) 29 rfl Try.underlying29 infoFile rfl (by omega) rfl (own_empty (by first | exact heap_alloc_new _ _ | exact (two_new _ _ _).1 | exact (two_new _ _ _).2) (by simp <;> omega)) _ s.length _ (fcells s) rfl HL1.out (hA1s.out _ (by first | exact (Only.refl _ _).drew.alloc _ | exact ((Only.refl _ _).drew.alloc _).alloc _)) (fcells_one _) (by omega) (by unfold maxLen; omega) (by simp <;> omega) ?_
                 intro v1 w3 hown3 ho3
                 have hO3 : Hid (Only [] wd w3) := by
                   first
                   | exact (((Only.refl [] wd).alloc _).drew).trans ho3 (fun t ht hl => by simp [Value.ownBlock] at ht; omega)
                   | exact ((((Only.refl [] wd).alloc _).alloc _).drew).trans ho3 (fun t ht hl => by simp [Value.ownBlock] at ht; omega)))
            all_goals
              obtain ⟨A3, c3, rfl, hc3, ha3, hok3⟩ := own_files (HFin.out _ _ _ hown5)
              go_wp2
              go_ret
              exact ⟨A3, c3, rfl, hc3, ha3, HOW.out.trans hO5.out (by simp), hok3⟩
end Go.Proofs.Ytljkaafdajpmkaa
