/- The laws' acts; few; two lists of texts. -/
import Derived.Test.YtljkaafdajpmkaaDkSt
namespace Go.Proofs.Ytljkaafdajpmkaa
open Go.RowKit
set_option linter.unusedVariables false

structure Act where
  kind : Int
  path : ByteArray
  text : ByteArray
  at_ : Int
  keep : Int
/-- An act as it came in. -/
structure Act.Is (a : Act) : Prop where
  path : a.path.size ≤ 140737488351232
  text : a.text.size ≤ 140737488351232
  at_ : a.at_ ≤ 9223372036854775807
  keep : 0 ≤ a.keep ∧ a.keep < 18446744073709551616
/-- A slice of acts that came in. -/
def ActsAt (w : World) (A : Option Addr) (l : List Act) : Prop := ∀ i a, l[i]? = some a → ∃ g off, A = some ⟨g, off, none⟩ ∧ g < w.heap.size ∧ w.cell? ⟨g, off + i * 5, none⟩ = some (.int .i64 a.kind) ∧
  w.cell? ⟨g, off + i * 5 + 1, none⟩ = some (.string a.path) ∧ w.cell? ⟨g, off + i * 5 + 2, none⟩ = some (.string a.text) ∧ w.cell? ⟨g, off + i * 5 + 3, none⟩ = some (.int .i64 a.at_) ∧ w.cell? ⟨g, off + i * 5 + 4, none⟩ = some (.int .u64 a.keep)
theorem ActsAt.only {w w' : World} {A : Option Addr} {l : List Act} (h : ActsAt w A l) (ho : Only [] w w') : ActsAt w' A l := fun i a hi => by
  obtain ⟨g, off, hA, hg, h0, h1, h2, h3, h4⟩ := h i a hi
  exact ⟨g, off, hA, Nat.lt_of_lt_of_le hg ho.size, (ho.cell (p := ⟨g, off + i * 5, none⟩) hg (by simp)).trans h0, (ho.cell (p := ⟨g, off + i * 5 + 1, none⟩) hg (by simp)).trans h1, (ho.cell (p := ⟨g, off + i * 5 + 2, none⟩) hg (by simp)).trans h2,
    (ho.cell (p := ⟨g, off + i * 5 + 3, none⟩) hg (by simp)).trans h3, (ho.cell (p := ⟨g, off + i * 5 + 4, none⟩) hg (by simp)).trans h4⟩
def Act.cost (a : Act) : Nat := 1 + min (a.path.size + a.text.size) 100000 / 50
def costs : List Act → Nat
  | [] => 0
  | a :: l => a.cost + costs l
theorem costs_append (a b : List Act) : costs (a ++ b) = costs a + costs b := by
  induction a with
  | nil => simp [costs]
  | cons e a ih => simp only [List.cons_append, costs, ih]; omega
theorem costs_snoc {l : List Act} {j : Nat} {a : Act} (h : l[j]? = some a) : costs (l.take (j + 1)) = costs (l.take j) + a.cost := by
  have : l.take (j + 1) = l.take j ++ [a] := by rw [List.take_add_one, h]; rfl
  rw [this, costs_append]
  simp [costs]
/-- What an act may add. -/
def Act.sz (a : Act) : Nat := 1 + a.path.size + a.text.size
def actszs : List Act → Nat
  | [] => 0
  | a :: l => a.sz + actszs l
theorem actszs_append (a b : List Act) : actszs (a ++ b) = actszs a + actszs b := by
  induction a with
  | nil => simp [actszs]
  | cons e a ih => simp only [List.cons_append, actszs, ih]; omega
theorem actszs_snoc {l : List Act} {j : Nat} {a : Act} (h : l[j]? = some a) : actszs (l.take (j + 1)) = actszs (l.take j) + a.sz := by
  have : l.take (j + 1) = l.take j ++ [a] := by rw [List.take_add_one, h]; rfl
  rw [this, actszs_append]
  simp [actszs]
theorem actszs_take (l : List Act) (j : Nat) : actszs (l.take j) ≤ actszs l := by
  have := actszs_append (l.take j) (l.drop j)
  rw [List.take_append_drop] at this
  omega
theorem sz_cost {a : Act} (h : a.cost ≤ 300) : a.sz ≤ 50 * a.cost := by
  unfold Act.cost at h ⊢
  unfold Act.sz
  omega
theorem szs_costs : ∀ {l : List Act}, costs l ≤ 300 → actszs l ≤ 50 * costs l
  | [], _ => by simp [actszs]
  | a :: l, h => by
    simp only [costs] at h
    have := szs_costs (l := l) (by omega)
    have := sz_cost (a := a) (by omega)
    simp only [costs, actszs]
    omega
theorem sz_of_few {l : List Act} (h : costs l ≤ 300) {j : Nat} {a : Act} (hj : l[j]? = some a) : actszs (l.take j) + a.sz ≤ 15000 := by
  have := szs_costs h
  have := actszs_take l (j + 1)
  rw [actszs_snoc hj] at this
  omega
theorem costs_len (l : List Act) : l.length ≤ costs l := by
  induction l with
  | nil => simp [costs]
  | cons a l ih => simp only [List.length_cons, costs, Act.cost]; omega

def FewPost (l : List Act) (w : World) (e : Ending) (w' : World) : Prop := ∃ b, e = .returned (.bool b) ∧ (b = true → costs l ≤ 300) ∧ Only [] w w'
set_option maxHeartbeats 2000000 in
set_option maxRecDepth 100000 in
theorem few_any (l : List Act) (A : Option Addr) (c : Nat) (w : World) (hc : l.length ≤ c) (hm : c ≤ maxLen) (hs : ∀ a ∈ l, a.Is) (ha : ActsAt w A l) :
    Calls Try.prog 13 #[.slice A l.length c] w (FewPost l w) := by
  unfold maxLen at hm
  go_enter Try.func13, Try.ntmps13
  go_wp2
  go_loopw [3, 4] (fun v3 v4 W => ∃ j n : Nat, j ≤ l.length ∧ v4 = .int .i64 j ∧ v3 = .int .i64 n ∧ n = costs (l.take j) ∧ n ≤ 300 ∧ Only [] w W) (fun v3 v4 _ => (l.length - intOf v4).toNat)
  case atStart => exact ⟨0, 0, by omega, rfl, rfl, by simp [costs], by omega, Only.refl _ _⟩
  case round =>
    obtain ⟨j, n, hj, rfl, rfl, hn, hn3, hO⟩ := hrel
    have HN := hide hn
    have HO := hide hO
    clear hn
    by_cases hlt : j < l.length
    · obtain ⟨a, hr⟩ : ∃ a, l[j]? = some a := ⟨_, List.getElem?_eq_getElem hlt⟩
      obtain ⟨ga, off, rfl, hga, k0, k1, k2, k3, k4⟩ := ha.only hO j a hr
      obtain ⟨s1, s2, _, _⟩ := hs a (List.mem_of_getElem? hr)
      have HS := hide hs
      have HR := hide hr
      have HA := hide ha
      have hc0 : a.cost = 1 + min (a.path.size + a.text.size) 100000 / 50 := rfl
      have hcost := hide hc0
      clear hc0
      clear hs hr ha hO
      have s0 : 0 ≤ (a.path.size : Int) := by omega
      have s0' : 0 ≤ (a.text.size : Int) := by omega
      have e1 : IntKind.i64.wrap ((n : Int) + 1) = n + 1 := IntWalk.i64_in _ (by omega)
      have e2 : IntKind.i64.wrap ((a.path.size : Int) + a.text.size) = a.path.size + a.text.size := IntWalk.i64_in _ (by omega)
      go_wp2
      go_quiet (fail)
      clear e1 e2
      have em : ((n : Int) + 1 + min ((a.path.size : Int) + a.text.size) 100000 / 50) = ((n + a.cost : Nat) : Int) := by have := hcost.out; omega
      rw [em]
      have hc1 : a.cost ≤ 2001 := by have := hcost.out; omega
      clear em hcost
      by_cases h3 : ((n + a.cost : Nat) : Int) > 300
      · go_wp2
        go_ret
        exact ⟨false, rfl, (fun h => by cases h), HO.out.drewN _⟩
      · have d3 : decide (300 < ((n + a.cost : Nat) : Int)) = false := by simpa using h3
        go_wp2
        go_roundw
        case rel => exact ⟨j + 1, n + a.cost, by omega, by go_num, rfl, by rw [costs_snoc HR.out, ← HN.out], by omega, HO.out.drewN _⟩
        case measure => simp [intOf]; omega
    · obtain rfl : j = l.length := by omega
      go_wp2
      go_ret
      exact ⟨true, rfl, (fun _ => by have := HN.out; rw [List.take_length] at this; omega), HO.out⟩

theorem toList_inj {x y : ByteArray} (h : x.toList = y.toList) : x = y := by
  rw [ByteArray.toList_eq, ByteArray.toList_eq] at h
  exact ByteArray.ext (Array.toList_inj.1 h)
theorem toList_ne {x y : ByteArray} (h : ¬ x = y) : (x.toList == y.toList) = false := by
  cases hb : (x.toList == y.toList)
  · rfl
  · exact absurd (toList_inj (eq_of_beq hb)) h
def TextsPost (l m : List ByteArray) (w : World) (e : Ending) (w' : World) : Prop := e = .returned (.bool (decide (l = m))) ∧ Only [] w w'
theorem map_at {l : List ByteArray} {j : Nat} {x : ByteArray} (h : l[j]? = some x) : (l.map Value.string)[j]? = some (.string x) := by simp [h]
set_option maxHeartbeats 2000000 in
set_option maxRecDepth 100000 in
theorem texts_any (l m : List ByteArray) (A B : Option Addr) (c d : Nat) (w : World) (hl : l.length ≤ 1000000) (hm : m.length ≤ 1000000) (ha : ArgAt w A (l.map Value.string)) (hb : ArgAt w B (m.map Value.string)) :
    Calls Try.prog 24 #[.slice A l.length c, .slice B m.length d] w (TextsPost l m w) := by
  by_cases hlen : l.length = m.length
  · have hI : (l.length : Int) = m.length := by omega
    have HLen := hide hlen
    obtain ⟨n, hn⟩ : ∃ n, n = l.length := ⟨_, rfl⟩
    rw [← hlen, ← hn]
    have HNn := hide hn
    clear hI hlen
    have hn6 : n ≤ 1000000 := by omega
    clear hn hl hm
    go_enter Try.func24, Try.ntmps24
    go_wp2
    go_loopw [5] (fun v5 W => ∃ j : Nat, j ≤ n ∧ v5 = .int .i64 j ∧ l.take j = m.take j ∧ Only [] w W) (fun v5 _ => (n - intOf v5).toNat)
    case atStart => exact ⟨0, by omega, rfl, by simp, Only.refl _ _⟩
    case round =>
      obtain ⟨j, hj, rfl, heq, hO⟩ := hrel
      have HE := hide heq
      clear heq
      by_cases hlt : j < n
      · obtain ⟨x, hx⟩ : ∃ x, l[j]? = some x := ⟨_, List.getElem?_eq_getElem (by have := HNn.out; omega)⟩
        obtain ⟨y, hy⟩ : ∃ y, m[j]? = some y := ⟨_, List.getElem?_eq_getElem (by have := HNn.out; have := HLen.out; omega)⟩
        obtain ⟨ga, rfl, hga, k0⟩ := (ha.only hO (by simp)) j _ (map_at hx)
        obtain ⟨gb, rfl, hgb, k1⟩ := (hb.only hO (by simp)) j _ (map_at hy)
        have HX := hide hx
        have HY := hide hy
        have HO := hide hO
        have HA := hide ha
        have HB := hide hb
        clear hx hy hO ha hb
        by_cases hxy : x = y
        · subst hxy
          go_wp2
          go_quiet (fail)
          go_wp2
          go_roundw
          case rel => exact ⟨j + 1, by omega, by go_num, by rw [List.take_add_one, List.take_add_one, HX.out, HY.out, HE.out], HO.out.drewN _⟩
          case measure => simp [intOf]; omega
        · have d0 := toList_ne hxy
          have HXY := hide hxy
          clear hxy
          go_wp2
          go_quiet (fail)
          go_wp2
          go_ret
          have hd : decide (l = m) = false := by
            simp only [decide_eq_false_iff_not]
            rintro rfl
            have := HX.out
            rw [HY.out] at this
            exact HXY.out (Option.some.inj this.symm)
          unfold TextsPost
          rw [hd]
          exact ⟨rfl, HO.out.drewN _⟩
      · obtain rfl : j = n := by omega
        go_wp2
        go_ret
        have hd : decide (l = m) = true := by
          simp only [decide_eq_true_eq]
          have := HE.out
          rwa [List.take_of_length_le (by have := HNn.out; omega), List.take_of_length_le (by have := HNn.out; have := HLen.out; omega)] at this
        unfold TextsPost
        rw [hd]
        exact ⟨rfl, hO⟩
  · have h1 : ((l.length : Int) == m.length) = false := by simp; omega
    have h2 : ((l.length : Int) != m.length) = true := by simp; omega
    have hd : decide (l = m) = false := by
      simp only [decide_eq_false_iff_not]
      rintro rfl
      exact hlen rfl
    unfold TextsPost
    rw [hd]
    clear hd hlen
    go_enter Try.func24, Try.ntmps24
    go_wp2
    go_ret
    exact ⟨rfl, Only.refl _ _⟩
end Go.Proofs.Ytljkaafdajpmkaa
