/- The order of texts, byte by byte; texts that rise. -/
import Derived.Test.YtljkaafdajpmkaaDpMap
import Derived.Sort.Walk0
import Derived.Sort.KeysCollected
namespace Go.Proofs.Ytljkaafdajpmkaa
open Go.RowKit

/-- a stands before b. -/
def blt (a b : ByteArray) : Prop := a.data.toList < b.data.toList
theorem bytes_ext' {a b : ByteArray} (h : a.data.toList = b.data.toList) : a = b := by
  cases a
  cases b
  simp only at h
  congr
  exact Array.ext' h
theorem lt_or_eq {a b : List UInt8} (h : a ≤ b) : a < b ∨ a = b := by
  by_cases hl : a < b
  · exact .inl hl
  · exact .inr (List.le_antisymm h (List.not_lt.1 hl))
theorem blt_irrefl (a : ByteArray) : ¬ blt a a := List.lt_irrefl _
theorem blt_trans {a b c : ByteArray} (h : blt a b) (k : blt b c) : blt a c := List.lt_trans h k
theorem blt_ne {a b : ByteArray} (h : blt a b) : a ≠ b := by rintro rfl; exact blt_irrefl a h
theorem blt_asymm {a b : ByteArray} (h : blt a b) : ¬ blt b a := fun k => blt_irrefl a (blt_trans h k)
theorem blt_total {a b : ByteArray} (h : a ≠ b) : blt a b ∨ blt b a := by
  rcases List.le_total a.data.toList b.data.toList with hle | hle
  · rcases lt_or_eq hle with h1 | h1
    · exact .inl h1
    · exact absurd (bytes_ext' h1) h
  · rcases lt_or_eq hle with h1 | h1
    · exact .inr h1
    · exact absurd (bytes_ext' h1.symm) h
theorem less_iff (a b : ByteArray) : Op.bytesLess a.toList b.toList = true ↔ blt a b := by
  rw [bytesLess_eq, decide_eq_true_eq, ByteArray.toList_eq, ByteArray.toList_eq]
  exact Iff.rfl
theorem less_false {a b : ByteArray} (h : ¬ blt a b) : Op.bytesLess a.toList b.toList = false := by
  cases hb : Op.bytesLess a.toList b.toList
  · rfl
  · exact absurd ((less_iff a b).1 hb) h
theorem leq_iff (a b : ByteArray) : (Op.bytesLess a.toList b.toList || a.toList == b.toList) = true ↔ ¬ blt b a := by
  rw [Bool.or_eq_true, less_iff]
  constructor
  · rintro (h | h)
    · exact blt_asymm h
    · rw [bytes_ext (eq_of_beq h)]
      exact blt_irrefl _
  · intro h
    by_cases he : a = b
    · right
      rw [he]
      exact beq_self_eq_true _
    · left
      exact (blt_total he).resolve_right h
theorem leq_false {a b : ByteArray} (h : blt b a) : (Op.bytesLess a.toList b.toList || a.toList == b.toList) = false := by
  cases hb : (Op.bytesLess a.toList b.toList || a.toList == b.toList)
  · rfl
  · exact absurd h ((leq_iff a b).1 hb)
/-- Two rising lists of the same texts are one. -/
theorem rising_ext : ∀ {l m : List ByteArray}, l.Pairwise blt → m.Pairwise blt → (∀ x, x ∈ l ↔ x ∈ m) → l = m
  | [], [], _, _, _ => rfl
  | [], b :: m, _, _, h => absurd ((h b).2 (by simp)) (by simp)
  | a :: l, [], _, _, h => absurd ((h a).1 (by simp)) (by simp)
  | a :: l, b :: m, hl, hm, h => by
    rw [List.pairwise_cons] at hl hm
    have hab : a = b := by
      rcases List.mem_cons.1 ((h a).1 (by simp)) with e | ha
      · exact e
      · rcases List.mem_cons.1 ((h b).2 (by simp)) with e | hb
        · exact e.symm
        · exact absurd (hm.1 a ha) (blt_asymm (hl.1 b hb))
    subst hab
    congr 1
    refine rising_ext hl.2 hm.2 (fun x => ?_)
    constructor
    · intro hx
      rcases List.mem_cons.1 ((h x).1 (by simp [hx])) with e | hx'
      · subst e
        exact absurd (hl.1 x hx) (blt_irrefl x)
      · exact hx'
    · intro hx
      rcases List.mem_cons.1 ((h x).2 (by simp [hx])) with e | hx'
      · subst e
        exact absurd (hm.1 x hx) (blt_irrefl x)
      · exact hx'
/-- Strings, rising. -/
def sortKeys (s : List ByteArray) : List ByteArray := ((s.map (·.data.toList)).mergeSort leB).map fun l => ⟨l.toArray⟩
theorem sortKeys_perm {s t : List ByteArray} (h : s.Perm t) : sortKeys s = sortKeys t := by
  unfold sortKeys
  rw [mergeSort_of_perm (h.map _)]
theorem sortKeys_length (s : List ByteArray) : (sortKeys s).length = s.length := by simp [sortKeys]
theorem sortKeys_self (s : List ByteArray) : (sortKeys s).Perm s := by
  unfold sortKeys
  have h := (List.mergeSort_perm (s.map (·.data.toList)) leB).map (fun l : List UInt8 => (⟨l.toArray⟩ : ByteArray))
  rw [List.map_map] at h
  have e : s.map ((fun l : List UInt8 => (⟨l.toArray⟩ : ByteArray)) ∘ fun x => x.data.toList) = s := by
    refine (List.map_congr_left (fun x _ => ?_)).trans (List.map_id s)
    cases x
    rfl
  rw [e] at h
  exact h
theorem sortKeys_mem (s : List ByteArray) (k : ByteArray) : k ∈ sortKeys s ↔ k ∈ s := (sortKeys_self s).mem_iff
theorem sortKeys_rising {s : List ByteArray} (h : s.Nodup) : (sortKeys s).Pairwise blt := by
  have hnd : (sortKeys s).Nodup := (sortKeys_self s).nodup_iff.2 h
  have tr : ∀ a b c : List UInt8, leB a b = true → leB b c = true → leB a c = true := fun a b c h1 h2 => by simp only [leB, decide_eq_true_eq] at *; exact List.le_trans h1 h2
  have to : ∀ a b : List UInt8, (leB a b || leB b a) = true := fun a b => by simp only [leB, Bool.or_eq_true, decide_eq_true_eq]; exact List.le_total a b
  have hs : (sortKeys s).Pairwise fun a b => a.data.toList ≤ b.data.toList := by
    unfold sortKeys
    rw [List.pairwise_map]
    exact (List.pairwise_mergeSort tr to (s.map (·.data.toList))).imp (fun h => by simpa [leB] using h)
  refine (hs.and hnd).imp (fun {a b} hab => ?_)
  rcases lt_or_eq hab.1 with h1 | h1
  · exact h1
  · exact absurd (bytes_ext' h1) hab.2
end Go.Proofs.Ytljkaafdajpmkaa
