/- The translation table as the list of its rows, in the order in which they came: what Add, Other and Rows say of such a list. -/
import Derived.Test.YtlmpmfgheacplaaTwRows
namespace Go.Proofs.Ytlmpmfgheacplaa
open Go.RowKit
set_option linter.unusedVariables false

def rowsMap (l : List Row) : List (ByteArray × Row) := l.map fun r => (r.wide, r)
def backMap (l : List Row) : List (ByteArray × ByteArray) := l.map fun r => (r.narrow, r.wide)
/-- Rows that may stand in one table. -/
structure Good (l : List Row) : Prop where
  len : l.length ≤ 8192
  right : ∀ r ∈ l, r.right = true
  wide : (l.map (·.wide)).Nodup
  narrow : (l.map (·.narrow)).Nodup
theorem Good.nil : Good [] := ⟨by simp, by simp, by simp, by simp⟩

theorem rows_get (l : List Row) (x : ByteArray) (r : Row) (h : mget (rowsMap l) x = some r) : r ∈ l ∧ r.wide = x := by
  induction l with
  | nil => simp [rowsMap, mget] at h
  | cons q l ih =>
    unfold rowsMap at h
    simp only [List.map_cons, mget] at h
    by_cases hq : q.wide = x
    · simp [hq] at h
      subst h
      exact ⟨by simp, hq⟩
    · simp [hq] at h
      have := ih h
      exact ⟨by simp [this.1], this.2⟩
theorem back_get (l : List Row) (n x : ByteArray) (h : mget (backMap l) n = some x) : ∃ r ∈ l, r.narrow = n ∧ r.wide = x := by
  induction l with
  | nil => simp [backMap, mget] at h
  | cons q l ih =>
    unfold backMap at h
    simp only [List.map_cons, mget] at h
    by_cases hq : q.narrow = n
    · simp [hq] at h
      exact ⟨q, by simp, hq, h⟩
    · simp [hq] at h
      obtain ⟨r, hr, h1⟩ := ih h
      exact ⟨r, by simp [hr], h1⟩
theorem rows_of (l : List Row) (hw : (l.map (·.wide)).Nodup) (r : Row) (hr : r ∈ l) : mget (rowsMap l) r.wide = some r := by
  induction l with
  | nil => simp at hr
  | cons q l ih =>
    simp only [List.map_cons, List.nodup_cons] at hw
    unfold rowsMap
    simp only [List.map_cons, mget]
    rcases List.mem_cons.1 hr with rfl | hr
    · simp
    · have : q.wide ≠ r.wide := fun e => hw.1 (List.mem_map.2 ⟨r, hr, e.symm⟩)
      simp only [this, if_false]
      exact ih hw.2 hr
theorem back_of (l : List Row) (hn : (l.map (·.narrow)).Nodup) (r : Row) (hr : r ∈ l) : mget (backMap l) r.narrow = some r.wide := by
  induction l with
  | nil => simp at hr
  | cons q l ih =>
    simp only [List.map_cons, List.nodup_cons] at hn
    unfold backMap
    simp only [List.map_cons, mget]
    rcases List.mem_cons.1 hr with rfl | hr
    · simp
    · have : q.narrow ≠ r.narrow := fun e => hn.1 (List.mem_map.2 ⟨r, hr, e.symm⟩)
      simp only [this, if_false]
      exact ih hn.2 hr
theorem rows_none (l : List Row) (x : ByteArray) : mget (rowsMap l) x = none ↔ ∀ r ∈ l, r.wide ≠ x := by
  rw [mget_none_iff]
  simp [rowsMap]
theorem back_none (l : List Row) (n : ByteArray) : mget (backMap l) n = none ↔ ∀ r ∈ l, r.narrow ≠ n := by
  rw [mget_none_iff]
  simp [backMap]

/-- What Add answers, and what it leaves. -/
def addL (l : List Row) (r : Row) : Int × List Row :=
  (addCode (rowsMap l) (backMap l) r, if addNew (rowsMap l) (backMap l) r then l ++ [r] else l)
theorem addL_good {l : List Row} (h : Good l) (r : Row) : Good (addL l r).2 := by
  unfold addL
  simp only
  split
  · rename_i hn
    simp only [addNew, Bool.and_eq_true, Bool.not_eq_true', decide_eq_true_eq] at hn
    obtain ⟨⟨⟨h1, h2⟩, h3⟩, h4⟩ := hn
    have h2' := (rows_none l r.wide).1 (by simpa using h2)
    have h3' := (back_none l r.narrow).1 (by simpa using h3)
    simp only [rowsMap, List.length_map] at h4
    refine ⟨by simp; omega, ?_, ?_, ?_⟩
    · intro q hq
      rcases List.mem_append.1 hq with hq | hq
      · exact h.right q hq
      · simp at hq
        subst hq
        exact h1
    · rw [List.map_append, List.nodup_append]
      refine ⟨h.wide, by simp, ?_⟩
      intro a ha b hb
      simp at hb
      subst hb
      obtain ⟨q, hq, rfl⟩ := List.mem_map.1 ha
      exact h2' q hq
    · rw [List.map_append, List.nodup_append]
      refine ⟨h.narrow, by simp, ?_⟩
      intro a ha b hb
      simp at hb
      subst hb
      obtain ⟨q, hq, rfl⟩ := List.mem_map.1 ha
      exact h3' q hq
  · exact h
theorem addL_maps (l : List Row) (r : Row) : (if addNew (rowsMap l) (backMap l) r then mput (rowsMap l) r.wide r else rowsMap l) = rowsMap (addL l r).2 ∧
    (if addNew (rowsMap l) (backMap l) r then mput (backMap l) r.narrow r.wide else backMap l) = backMap (addL l r).2 := by
  unfold addL
  simp only
  split
  · rename_i hn
    simp only [addNew, Bool.and_eq_true, Bool.not_eq_true', decide_eq_true_eq] at hn
    obtain ⟨⟨⟨h1, h2⟩, h3⟩, h4⟩ := hn
    rw [mput_new _ (by simpa using h2), mput_new _ (by simpa using h3)]
    exact ⟨by simp [rowsMap], by simp [backMap]⟩
  · exact ⟨rfl, rfl⟩

/-- A table of just the rows l. -/
def TabL (w : World) (g b1 b2 : Nat) (l : List Row) : Prop := TabAt w g b1 b2 (rowsMap l) (backMap l)
theorem TabL.only {w w' : World} {g b1 b2 : Nat} {l : List Row} {S : List Nat} (h : TabL w g b1 b2 l) (ho : Only S w w') (hg : g ∉ S) (h1 : b1 ∉ S) (h2 : b2 ∉ S) : TabL w' g b1 b2 l := TabAt.only h ho hg h1 h2

def AddLPost (w : World) (g b1 b2 : Nat) (l : List Row) (r : Row) (e : Ending) (w' : World) : Prop :=
  e = .returned (.int .i64 (addL l r).1) ∧ TabL w' g b1 b2 (addL l r).2 ∧ Only [b1, b2] w w'
theorem add_list (r : Row) (g b1 b2 : Nat) (l : List Row) (w : World) (h : TabL w g b1 b2 l) (hw : r.wide.size ≤ maxLen) (hn : r.narrow.size ≤ maxLen) :
    Calls Try.prog 9 #[.pointer (some ⟨g, 0, none⟩), .agg #[.string r.wide, .string r.narrow, .int .i64 r.kind]] w (AddLPost w g b1 b2 l r) := by
  refine (add_any r g b1 b2 (rowsMap l) (backMap l) w h hw hn).mono ?_
  rintro e w' ⟨he, ht, ho⟩
  rw [(addL_maps l r).1, (addL_maps l r).2] at ht
  exact ⟨he, ht, ho⟩
theorem new_list (w : World) : Calls Try.prog 8 #[] w fun e w' => ∃ g b1 b2, e = .returned (.pointer (some ⟨g, 0, none⟩)) ∧ TabL w' g b1 b2 [] ∧ Only [] w w' ∧ w.heap.size ≤ g ∧ w.heap.size ≤ b1 ∧ w.heap.size ≤ b2 := new_any w

/-- Rows, rising. -/
def sortRows (l : List Row) : List Row := rowsOf (rowsMap l)
theorem wides_map (l : List Row) : (rowsMap l).map (·.1) = l.map (·.wide) := by simp [rowsMap]
theorem sortRows_wides (l : List Row) (hw : (l.map (·.wide)).Nodup) : (sortRows l).map (·.wide) = sortKeys (l.map (·.wide)) := by
  unfold sortRows rowsOf
  rw [wides_map, List.map_map]
  refine (List.map_congr_left (fun k hk => ?_)).trans (List.map_id _)
  obtain ⟨r, hr, rfl⟩ := List.mem_map.1 ((sortKeys_mem _ _).1 hk)
  simp [rows_of l hw r hr]
theorem sortRows_mem (l : List Row) (hw : (l.map (·.wide)).Nodup) (r : Row) : r ∈ sortRows l ↔ r ∈ l := by
  unfold sortRows rowsOf
  rw [wides_map, List.mem_map]
  constructor
  · rintro ⟨k, hk, rfl⟩
    obtain ⟨r, hr, rfl⟩ := List.mem_map.1 ((sortKeys_mem _ _).1 hk)
    rw [rows_of l hw r hr]
    exact hr
  · intro hr
    exact ⟨r.wide, (sortKeys_mem _ _).2 (List.mem_map.2 ⟨r, hr, rfl⟩), by rw [rows_of l hw r hr]; rfl⟩
theorem sortRows_length (l : List Row) : (sortRows l).length = l.length := by simp [sortRows, rowsOf, sortKeys_length, rowsMap]
theorem sortRows_rising (l : List Row) (hw : (l.map (·.wide)).Nodup) : ((sortRows l).map (·.wide)).Pairwise blt := by
  rw [sortRows_wides l hw]
  exact sortKeys_rising hw
/-- Rising rows are told by what they hold. -/
theorem rows_ext : ∀ {l m : List Row}, (l.map (·.wide)).Pairwise blt → (m.map (·.wide)).Pairwise blt → (∀ r, r ∈ l ↔ r ∈ m) → l = m
  | [], [], _, _, _ => rfl
  | [], b :: m, _, _, h => absurd ((h b).2 (by simp)) (by simp)
  | a :: l, [], _, _, h => absurd ((h a).1 (by simp)) (by simp)
  | a :: l, b :: m, hl, hm, h => by
    rw [List.map_cons, List.pairwise_cons] at hl hm
    have hla : ∀ r ∈ l, blt a.wide r.wide := fun r hr => hl.1 _ (List.mem_map.2 ⟨r, hr, rfl⟩)
    have hmb : ∀ r ∈ m, blt b.wide r.wide := fun r hr => hm.1 _ (List.mem_map.2 ⟨r, hr, rfl⟩)
    have hab : a = b := by
      rcases List.mem_cons.1 ((h a).1 (by simp)) with e | ha
      · exact e
      · rcases List.mem_cons.1 ((h b).2 (by simp)) with e | hb
        · exact e.symm
        · exact absurd (hmb a ha) (blt_asymm (hla b hb))
    subst hab
    congr 1
    refine rows_ext hl.2 hm.2 (fun x => ?_)
    constructor
    · intro hx
      rcases List.mem_cons.1 ((h x).1 (by simp [hx])) with e | hx'
      · subst e
        exact absurd (hla x hx) (blt_irrefl _)
      · exact hx'
    · intro hx
      rcases List.mem_cons.1 ((h x).2 (by simp [hx])) with e | hx'
      · subst e
        exact absurd (hmb x hx) (blt_irrefl _)
      · exact hx'
theorem right_sizes {r : Row} (h : r.right = true) : r.wide.size = 32 ∧ r.narrow.size = 20 ∧ 1 ≤ r.kind ∧ r.kind ≤ 4 := by
  simp only [Row.right, Bool.and_eq_true, beq_iff_eq, decide_eq_true_eq] at h
  exact ⟨h.1.1.1, h.1.1.2, h.1.2, h.2⟩
theorem rows_list (g b1 b2 : Nat) (l : List Row) (w : World) (h : TabL w g b1 b2 l) (hg : Good l) :
    Calls Try.prog 11 #[.pointer (some ⟨g, 0, none⟩)] w fun e w' => ∃ v, e = .returned v ∧ w'.ownsRow w.heap.size 30 3 v l.length (rowsCells (sortRows l)) ∧ Only [] w w' := by
  refine (rows_any g b1 b2 (rowsMap l) (backMap l) w h (by simpa [rowsMap] using hg.len) (fun p hp => ?_)).mono ?_
  · obtain ⟨r, hr, rfl⟩ := List.mem_map.1 hp
    have := (right_sizes (hg.right r hr)).1
    unfold maxLen
    show r.wide.size ≤ _
    omega
  · rintro e w' ⟨v, he, ho, h1⟩
    rw [show (rowsMap l).length = l.length by simp [rowsMap]] at ho
    exact ⟨v, he, ho, h1⟩
end Go.Proofs.Ytlmpmfgheacplaa
