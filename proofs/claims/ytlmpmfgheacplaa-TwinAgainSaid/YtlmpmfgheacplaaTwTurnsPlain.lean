/- TwinTurns: what Add and Other say of one another, in lists alone. -/
import Derived.Test.YtlmpmfgheacplaaTwPrint
namespace Go.Proofs.Ytlmpmfgheacplaa
open Go.RowKit
set_option linter.unusedVariables false

theorem back_long {m : List Row} (h : Good m) {x : ByteArray} (hx : x.size = 32) : mget (backMap m) x = none := by
  rw [back_none]
  rintro r hr rfl
  have := (right_sizes (h.right r hr)).2.1
  omega
theorem other_wide {m : List Row} (h : Good m) {r : Row} (hr : r ∈ m) : otherOf (rowsMap m) (backMap m) r.wide = (r.narrow, r.kind, true) := by
  unfold otherOf
  rw [back_long h (right_sizes (h.right r hr)).1, rows_of m h.wide r hr]
  rfl
theorem other_narrow {m : List Row} (h : Good m) {r : Row} (hr : r ∈ m) : otherOf (rowsMap m) (backMap m) r.narrow = (r.wide, r.kind, true) := by
  unfold otherOf
  rw [back_of m h.narrow r hr]
  simp only
  rw [rows_of m h.wide r hr]
  rfl
theorem other_there (m : List Row) (id : ByteArray) : (otherOf (rowsMap m) (backMap m) id).2.2 = ((mget (backMap m) id).isSome || (mget (rowsMap m) id).isSome) := by
  unfold otherOf
  split <;> simp_all
theorem row_ext {a b : Row} (h1 : a.wide = b.wide) (h2 : a.narrow = b.narrow) (h3 : a.kind = b.kind) : a = b := by
  cases a
  cases b
  simp_all
/-- What was added without a word stands in the table. -/
theorem add_zero {m : List Row} (h : Good m) {r : Row} (hc : (addL m r).1 = 0) : r ∈ (addL m r).2 := by
  unfold addL at hc ⊢
  simp only at hc ⊢
  unfold addCode at hc
  split at hc
  · omega
  · rename_i hr
    split at hc
    · rename_i he
      obtain ⟨he, h1, h2, h3⟩ := he
      cases hg : mget (rowsMap m) r.wide with
      | none => simp [hg] at he
      | some q =>
        simp only [hg, Option.getD_some] at h1 h2 h3
        have hq := (rows_get m _ _ hg).1
        obtain rfl := row_ext h1 h2 h3
        split
        · simp
        · exact hq
    · split at hc
      · omega
      · split at hc
        · omega
        · rename_i h1 h2 h3
          have hn : addNew (rowsMap m) (backMap m) r = true := by
            simp only [not_or, Bool.not_eq_true] at h2
            simp only [addNew, h2.1, h2.2, Bool.and_eq_true, Bool.not_false, decide_eq_true_eq, and_true]
            exact ⟨by simpa using hr, by omega⟩
          rw [if_pos hn]
          simp
theorem add_ten {m : List Row} {r : Row} (hc : (addL m r).1 = 10) : (addL m r).2 = m ∧ ((otherOf (rowsMap m) (backMap m) r.wide).2.2 = true ∨ (otherOf (rowsMap m) (backMap m) r.narrow).2.2 = true) := by
  rw [other_there, other_there]
  unfold addL at hc ⊢
  simp only at hc ⊢
  unfold addCode at hc
  split at hc
  · omega
  · split at hc
    · omega
    · split at hc
      · rename_i h2
        constructor
        · rw [if_neg]
          simp only [addNew]
          rcases h2 with h2 | h2 <;> simp [h2]
        · rcases h2 with h2 | h2 <;> simp [h2]
      · split at hc <;> omega
end Go.Proofs.Ytlmpmfgheacplaa
