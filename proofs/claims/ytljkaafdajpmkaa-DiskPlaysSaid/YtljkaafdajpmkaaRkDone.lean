/- The reference's files: what they take, which there are, behind an effect. -/
import Derived.Test.YtljkaafdajpmkaaRkWith
namespace Go.Proofs.Ytljkaafdajpmkaa
open Go.RowKit
set_option linter.unusedVariables false

theorem took_append (a b : Files) : tookOf (a ++ b) = tookOf a + tookOf b := by
  induction a with
  | nil => simp [tookOf]
  | cons p a ih => simp only [List.cons_append, tookOf, ih]; omega
theorem took_take {l : Files} {j : Nat} {q : ByteArray × ByteArray} (h : l[j]? = some q) : tookOf (l.take (j + 1)) = tookOf (l.take j) + (q.1.size + q.2.size) := by
  rw [List.take_add_one, h, Option.toList_some, took_append]
  simp [tookOf]
theorem took_le (l : Files) (j : Nat) : tookOf (l.take j) ≤ tookOf l := by
  have := took_append (l.take j) (l.drop j)
  rw [List.take_append_drop] at this
  omega
set_option maxHeartbeats 2000000 in
set_option maxRecDepth 100000 in
theorem rtaken_any (l : Files) (A : Option Addr) (c : Nat) (w : World) (hl : l.length ≤ 1000000) (ht : tookOf l ≤ 1000000) (ha : ArgAt w A (fcells l)) :
    Calls Try.prog 23 #[.slice A l.length c] w (IntPost w (tookOf l)) := by
  go_enter Try.func23, Try.ntmps23
  go_wp2
  go_loopw [3, 4] (fun v3 v4 W => ∃ j n : Nat, j ≤ l.length ∧ v4 = .int .i64 j ∧ v3 = .int .i64 n ∧ n = tookOf (l.take j) ∧ n ≤ 1000000 ∧ Only [] w W) (fun _ v4 _ => (l.length - intOf v4).toNat)
  case atStart => exact ⟨0, 0, by omega, rfl, rfl, by simp [tookOf], by omega, Only.refl _ _⟩
  case round =>
    obtain ⟨j, n, hj, rfl, rfl, hn, hnm, hO⟩ := hrel
    have HN := hide hn
    have HO := hide hO
    clear hn
    by_cases hlt : j < l.length
    · obtain ⟨q, hq⟩ : ∃ q, l[j]? = some q := ⟨_, List.getElem?_eq_getElem hlt⟩
      have haw := ha.only hO (by simp)
      obtain ⟨ga, rfl, hga, k0⟩ := haw _ _ (fcells_at hq).1
      obtain ⟨_, e1, _, k1⟩ := haw _ _ (fcells_at hq).2
      cases e1
      have hs := took_take hq
      have hsl := took_le l (j + 1)
      have hnn := HN.out
      have hb : n + (q.1.size + q.2.size) ≤ 1000000 := by omega
      have HS := hide hs
      have HA := hide ha
      clear hq ha haw hO hs hnn hsl
      have e1 : IntKind.i64.wrap ((n : Int) + q.1.size) = n + q.1.size := IntWalk.i64_in _ (by omega)
      have e2 : IntKind.i64.wrap ((n : Int) + q.1.size + q.2.size) = n + q.1.size + q.2.size := IntWalk.i64_in _ (by omega)
      go_wp2
      go_quiet (fail)
      clear e1 e2
      have em : ((n : Int) + q.1.size + q.2.size) = ((n + (q.1.size + q.2.size) : Nat) : Int) := by omega
      rw [em]
      clear em
      go_wp2
      go_roundw
      case rel => exact ⟨j + 1, n + (q.1.size + q.2.size), by omega, by go_num, rfl, by rw [HS.out, ← HN.out], hb, HO.out.drewN _⟩
      case measure => simp [intOf]; omega
    · obtain rfl : j = l.length := by omega
      have hn := HN.out
      rw [List.take_length] at hn
      subst hn
      go_wp2
      go_ret
      exact ⟨rfl, HO.out⟩

theorem one_news (w : World) (u : Value) : ∀ j v, ([u] : List Value)[j]? = some v → (w.alloc (.cells #[u] 9)).cell? ⟨w.heap.size, j, none⟩ = some v := fun j v hv => by
  have hj : j < 1 := by have := (List.getElem?_eq_some_iff.1 hv).1; simpa using this
  obtain rfl : j = 0 := by omega
  simp at hv
  subst hv
  simp [World.cell?_alloc_new]
/-- The paths that begin so. -/
def rList (l : Files) (p : ByteArray) : List ByteArray := (l.map (·.1)).filter fun k => hasPre k p
theorem rList_len (l : Files) (p : ByteArray) : (rList l p).length ≤ l.length := by
  refine Nat.le_trans (List.length_filter_le _ _) ?_
  simp
theorem rList_snoc {l : Files} {j : Nat} {q : ByteArray × ByteArray} (p : ByteArray) (h : l[j]? = some q) : rList (l.take (j + 1)) p = if hasPre q.1 p then rList (l.take j) p ++ [q.1] else rList (l.take j) p := by
  rw [List.take_add_one, h]
  unfold rList
  rw [Option.toList_some, List.map_append, List.filter_append]
  cases hp : hasPre q.1 p <;> simp [hp]
def TextsAt (w : World) (l : List ByteArray) (e : Ending) (w' : World) : Prop := ∃ A c, e = .returned (.slice A l.length c) ∧ l.length ≤ c ∧ ArgAt w' A (l.map Value.string) ∧ Only [] w w'
set_option maxHeartbeats 2000000 in
set_option maxRecDepth 100000 in
theorem rlist_any (l : Files) (p : ByteArray) (A : Option Addr) (c : Nat) (w : World) (hl : l.length ≤ 1000000) (ht : ∀ q ∈ l, q.1.size ≤ 1000000) (hps : p.size ≤ 1000000) (ha : ArgAt w A (fcells l)) :
    Calls Try.prog 22 #[.slice A l.length c, .string p] w (TextsAt w (rList l p)) := by
  obtain ⟨r, hr⟩ : ∃ r, r = rList l p := ⟨_, rfl⟩
  rw [← hr]
  have HR := hide hr
  clear hr
  go_enter Try.func22, Try.ntmps22
  go_wp2
  go_loopw [5, 6] (fun v5 v6 W => ∃ j : Nat, j ≤ l.length ∧ v6 = .int .i64 j ∧ W.ownsRow w.heap.size 9 1 v5 (rList (l.take j) p).length ((rList (l.take j) p).map Value.string) ∧ Only [] w W) (fun _ v6 _ => (l.length - intOf v6).toNat)
  case atStart => exact ⟨0, by omega, rfl, World.ownsRow_nil _ _ _ _, Only.refl _ _⟩
  case round =>
    obtain ⟨j, hj, rfl, hown, hO⟩ := hrel
    have HOwn := hide hown
    have HO := hide hO
    clear hown
    have hjl : (rList (l.take j) p).length ≤ j := Nat.le_trans (rList_len _ _) (List.length_take_le _ _)
    by_cases hlt : j < l.length
    · obtain ⟨q, hq⟩ : ∃ q, l[j]? = some q := ⟨_, List.getElem?_eq_getElem hlt⟩
      have haw := ha.only hO (by simp)
      obtain ⟨ga, rfl, hga, k0⟩ := haw _ _ (fcells_at hq).1
      have hqs := ht q (List.mem_of_getElem? hq)
      have hsn := rList_snoc p hq
      have HA := hide ha
      have HT := hide ht
      clear hq ha haw hO ht
      cases hp : hasPre q.1 p with
      | false =>
        rw [hp] at hsn
        have HSn := hide hsn
        clear hsn hjl
        by_cases hz : (p.size : Int) ≤ q.1.size
        · have hne : ¬ q.1.extract 0 p.size = p := fun e => by
            have : hasPre q.1 p = true := by unfold hasPre; rw [e]; simp; omega
            rw [this] at hp
            cases hp
          have d0 := toList_ne hne
          clear hne hp
          go_wp2
          go_roundw
          case rel => exact ⟨j + 1, by omega, by go_num, by rw [HSn.out]; exact HOwn.out, HO.out⟩
          case measure => simp [intOf]; omega
        · have dz : decide ((p.size : Int) ≤ q.1.size) = false := by simpa using hz
          clear hp
          go_wp2
          go_roundw
          case rel => exact ⟨j + 1, by omega, by go_num, by rw [HSn.out]; exact HOwn.out, HO.out⟩
          case measure => simp [intOf]; omega
      | true =>
        rw [hp] at hsn
        have HSn := hide hsn
        have hpp : p.size ≤ q.1.size ∧ q.1.extract 0 p.size = p := by unfold hasPre at hp; simpa using hp
        obtain ⟨hz0, hpe⟩ := hpp
        have hz : (p.size : Int) ≤ q.1.size := by omega
        have d0 : ((q.1.extract 0 p.size).toList == p.toList) = true := by rw [hpe]; simp
        have hws := HO.out.size
        clear hsn hp hpe
        generalize rList (l.take j) p = s at *
        go_wp2_with (at_builtin; refine wpList_app rfl _ _ 40 rfl Try.underlying40 infoStr rfl (by omega) rfl (HOwn.out.alloc _) wr.heap.size 1 1 [.string q.1] rfl rfl (one_news _ _) (by simp [Value.oneCell']) (by omega) (by unfold maxLen; omega) (by simp; omega) ?_)
        · intro v' w3 hown3 ho3 _
          have hown4 : w3.ownsRow w.heap.size 9 1 v' (s ++ [q.1]).length ((s ++ [q.1]).map Value.string) := by
            rw [List.length_append, List.map_append]
            exact hown3
          have HO4 := hide hown4
          have HO3 := hide (HO.out.trans (((Only.refl u5.ownBlock.toList wr).alloc (.cells #[.string q.1] 9)).trans ho3 (fun t ht _ => ht)) (fun t ht hl => by have := (own_lt HOwn.out ht).1; omega))
          clear hown3 hown4 ho3
          go_wp2
          go_roundw
          case rel => exact ⟨j + 1, by omega, by go_num, by rw [HSn.out]; exact HO4.out, HO3.out⟩
          case measure => simp [intOf]; omega
    · obtain rfl : j = l.length := by omega
      have hown := HOwn.out
      rw [List.take_length, ← HR.out] at hown
      obtain ⟨A1, c1, rfl, hc1, ha1⟩ := own_arg hown
      clear hown HOwn
      go_wp2
      go_ret
      exact ⟨A1, c1, rfl, hc1, ha1, HO.out⟩
end Go.Proofs.Ytljkaafdajpmkaa
