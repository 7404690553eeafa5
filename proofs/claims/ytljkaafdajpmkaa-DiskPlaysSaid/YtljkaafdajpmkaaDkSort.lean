/- slices.Sort of a slice of texts of the call's own. -/
import Derived.Test.YtljkaafdajpmkaaDkPrefix
import Derived.Test.YtljkaafdajpmkaaDpOrder
import Derived.Sort.OwnSorted
import Derived.Sort.EncStr
namespace Go.Proofs.Ytljkaafdajpmkaa
open Go.RowKit Go.Sort Go.Shelf
set_option linter.unusedVariables false

def SortPost (w : World) (base : Nat) (v : Value) (ss : List ByteArray) (e : Ending) (w' : World) : Prop :=
  e = .returned (.tuple #[]) ∧ w'.ownsRow base 9 1 v ss.length ((sortKeys ss).map Value.string) ∧ Only v.ownBlock.toList w w'
theorem sort_any (base : Nat) (v : Value) (ss : List ByteArray) (w : World) (hown : w.ownsRow base 9 1 v ss.length (ss.map Value.string)) (hm : ss.length < 4611686018427387904) :
    Calls Try.prog 62 #[v] w (SortPost w base v ss) := by
  have hown' := hown
  obtain ⟨hl, ⟨rfl, hn⟩ | ⟨g, cap, cur, rfl, hb, hh, h1, h2, h3, h4⟩⟩ := hown
  · have hs : ss = [] := List.eq_nil_of_length_eq_zero hn
    subst hs
    refine (AnyM.slices_Sort_string_none Try.sort62 none 0 w).mono ?_
    rintro e w' ⟨rfl, rfl⟩
    exact ⟨rfl, by simpa [sortKeys] using hown', Only.refl _ _⟩
  · have hlen : (ss.map (·.data.toList)).length = ss.length := by simp
    have hH : Holds encStr w g 0 (ss.map (·.data.toList)).toArray := by
      intro j hj
      have hj' : j < ss.length := by simpa using hj
      constructor
      · have hc := hown'.cellAt j (by omega)
        rw [Nat.zero_add, hc]
        simp [hj', encStr]
      · rw [Nat.zero_add]
        exact hown'.frozenAt j
    have hc := AnyM.slices_Sort_string Try.sort62 g 0 cap (ss.map (·.data.toList)) w hH (Array.getElem?_eq_some_iff.1 hh).1 (by simpa using hm)
    rw [hlen] at hc
    refine hc.mono ?_
    rintro e w' ⟨rfl, n, os, rfl⟩
    refine ⟨rfl, ?_, Only.grown (grownBy_sorted _) (fun k hk => by cases hk; simp [Value.ownBlock])⟩
    have hts : ((ss.map (·.data.toList)).mergeSort fun x y => decide (x ≤ y)).length = (ss.map (·.data.toList)).length := by simp
    have hr := ownsRow_sorted (n := n) (os := os) (cap := cap) hts hb hh (by simpa using h1) h2 h3
    rw [hlen] at hr
    have he : ((ss.map (·.data.toList)).mergeSort fun x y => decide (x ≤ y)).map encStr = (sortKeys ss).map Value.string := by
      unfold sortKeys
      rw [List.map_map]
      rfl
    rw [he] at hr
    exact hr
end Go.Proofs.Ytljkaafdajpmkaa
