/- TwinAgain: the order in which rows are added does not matter, in lists alone. -/
import Derived.Test.YtlmpmfgheacplaaTwTurnsPlain
namespace Go.Proofs.Ytlmpmfgheacplaa
open Go.RowKit
set_option linter.unusedVariables false

theorem addL_length (m : List Row) (r : Row) : (addL m r).2.length ≤ m.length + 1 := by
  unfold addL
  simp only
  split
  · simp
  · omega
theorem addL_mem {m : List Row} (h : Good m) {r : Row} (hc : (addL m r).1 = 0) (q : Row) : q ∈ (addL m r).2 ↔ q ∈ m ∨ q = r := by
  have hr := add_zero h hc
  constructor
  · intro hq
    unfold addL at hq
    simp only at hq
    split at hq
    · rcases List.mem_append.1 hq with hq | hq
      · exact .inl hq
      · exact .inr (by simpa using hq)
    · exact .inl hq
  · rintro (hq | rfl)
    · unfold addL
      simp only
      split
      · simp [hq]
      · exact hq
    · exact hr
theorem good_wide {m : List Row} (h : Good m) {a b : Row} (ha : a ∈ m) (hb : b ∈ m) (he : a.wide = b.wide) : a = b := by
  have h1 := rows_of m h.wide a ha
  have h2 := rows_of m h.wide b hb
  rw [he, h2] at h1
  exact (Option.some.inj h1).symm
theorem good_narrow {m : List Row} (h : Good m) {a b : Row} (ha : a ∈ m) (hb : b ∈ m) (he : a.narrow = b.narrow) : a = b := by
  have h1 := back_of m h.narrow a ha
  have h2 := back_of m h.narrow b hb
  rw [he, h2] at h1
  exact (good_wide h hb ha (Option.some.inj h1)).symm
/-- A row of a good table is never refused by a part of it. -/
theorem add_sub {M m : List Row} (hM : Good M) (hm : Good m) (hs : ∀ q ∈ m, q ∈ M) {r : Row} (hr : r ∈ M) (hl : m.length < 8192) : (addL m r).1 = 0 := by
  have hrr := hM.right r hr
  unfold addL
  simp only
  unfold addCode
  rw [if_neg (by simp [hrr])]
  cases hg : mget (rowsMap m) r.wide with
  | some q =>
    obtain ⟨hq, hqw⟩ := rows_get m _ _ hg
    obtain rfl := good_wide hM (hs q hq) hr hqw
    simp
  | none =>
    have hb : mget (backMap m) r.narrow = none := by
      cases hb : mget (backMap m) r.narrow with
      | none => rfl
      | some x =>
        obtain ⟨q, hq, hqn, _⟩ := back_get m _ _ hb
        obtain rfl := good_narrow hM (hs q hq) hr hqn
        exact absurd rfl ((rows_none m _).1 hg q hq)
    rw [if_neg (by simp), if_neg (by simp [hb]), if_neg (by simp [rowsMap]; omega)]
theorem sort_same {a b : List Row} (ha : Good a) (hb : Good b) (h : ∀ r, r ∈ a ↔ r ∈ b) : sortRows a = sortRows b :=
  rows_ext (sortRows_rising a ha.wide) (sortRows_rising b hb.wide) (fun r => by rw [sortRows_mem a ha.wide, sortRows_mem b hb.wide]; exact h r)
theorem nodup_of_wide {m : List Row} (h : (m.map (·.wide)).Nodup) : m.Nodup := by
  induction m with
  | nil => simp
  | cons r m ih =>
    simp only [List.map_cons, List.nodup_cons] at h ⊢
    exact ⟨fun hr => h.1 (List.mem_map.2 ⟨r, hr, rfl⟩), ih h.2⟩
theorem sort_perm {m : List Row} (h : Good m) : (sortRows m).Perm m := by
  have h1 : ((sortRows m).map (·.wide)).Nodup := (sortRows_rising m h.wide).imp fun hb => blt_ne hb
  exact (List.perm_ext_iff_of_nodup (nodup_of_wide h1) (nodup_of_wide h.wide)).2 fun r => sortRows_mem m h.wide r
theorem sort_ok {m : List Row} (h : Good m) : PrintOk (sortRows m) :=
  ⟨by rw [sortRows_length]; exact h.len, fun r hr => h.right r ((sortRows_mem m h.wide r).1 hr), sortRows_rising m h.wide, ((sort_perm h).map (·.narrow)).nodup_iff.2 h.narrow⟩
theorem drop_mem {α : Type} {l : List α} {i : Nat} {a : α} (h : l[i]? = some a) (q : α) : q ∈ l.drop i ↔ q ∈ l.drop (i + 1) ∨ q = a := by
  obtain ⟨hi, rfl⟩ := List.getElem?_eq_some_iff.1 h
  rw [List.drop_eq_getElem_cons hi, List.mem_cons]
  exact ⟨fun h => h.symm, fun h => h.symm⟩
theorem take_mem {α : Type} {l : List α} {i : Nat} {a : α} (h : l[i]? = some a) (q : α) : q ∈ l.take (i + 1) ↔ q ∈ l.take i ∨ q = a := by
  rw [List.take_add_one, h]
  simp
end Go.Proofs.Ytlmpmfgheacplaa
