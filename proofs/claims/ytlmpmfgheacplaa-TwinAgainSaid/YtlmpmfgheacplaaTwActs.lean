/- The laws' argument: a slice of acts; few. -/
import Derived.Test.YtlmpmfgheacplaaTwPrint
namespace Go.Proofs.Ytlmpmfgheacplaa
open Go.RowKit
set_option linter.unusedVariables false

structure Act where
  kind : Int
  row : Row
  id : ByteArray
/-- A slice of acts that came in. -/
def ActsAt (w : World) (A : Option Addr) (l : List Act) : Prop := ∀ i a, l[i]? = some a → ∃ g off, A = some ⟨g, off, none⟩ ∧ g < w.heap.size ∧ w.cell? ⟨g, off + i * 5, none⟩ = some (.int .i64 a.kind) ∧
  w.cell? ⟨g, off + i * 5 + 1, none⟩ = some (.string a.row.wide) ∧ w.cell? ⟨g, off + i * 5 + 2, none⟩ = some (.string a.row.narrow) ∧ w.cell? ⟨g, off + i * 5 + 3, none⟩ = some (.int .i64 a.row.kind) ∧ w.cell? ⟨g, off + i * 5 + 4, none⟩ = some (.string a.id)
theorem ActsAt.only {w w' : World} {A : Option Addr} {l : List Act} (h : ActsAt w A l) (ho : Only [] w w') : ActsAt w' A l := fun i a hi => by
  obtain ⟨g, off, hA, hg, h0, h1, h2, h3, h4⟩ := h i a hi
  exact ⟨g, off, hA, Nat.lt_of_lt_of_le hg ho.size, (ho.cell (p := ⟨g, off + i * 5, none⟩) hg (by simp)).trans h0, (ho.cell (p := ⟨g, off + i * 5 + 1, none⟩) hg (by simp)).trans h1, (ho.cell (p := ⟨g, off + i * 5 + 2, none⟩) hg (by simp)).trans h2,
    (ho.cell (p := ⟨g, off + i * 5 + 3, none⟩) hg (by simp)).trans h3, (ho.cell (p := ⟨g, off + i * 5 + 4, none⟩) hg (by simp)).trans h4⟩
/-- Is act number i small enough? -/
def smallAct (i : Nat) (a : Act) : Prop := i < 150 ∧ a.id.size ≤ 200 ∧ a.row.wide.size ≤ 200 ∧ a.row.narrow.size ≤ 200
/-- few said yes. -/
def FewYes (l : List Act) : Prop := ∀ i a, l[i]? = some a → smallAct i a
theorem FewYes.len {l : List Act} (h : FewYes l) : l.length ≤ 150 := by
  by_cases hl : l.length ≤ 150
  · exact hl
  · have := (h 150 _ (List.getElem?_eq_getElem (by omega))).1
    omega

def FewPost (l : List Act) (w : World) (e : Ending) (w' : World) : Prop := ∃ b, e = .returned (.bool b) ∧ (b = true → FewYes l) ∧ w' = w
set_option maxHeartbeats 2000000 in
set_option maxRecDepth 100000 in
theorem few_any (l : List Act) (A : Option Addr) (c : Nat) (w : World) (hc : l.length ≤ c) (hm : c ≤ maxLen) (hs : ∀ a ∈ l, a.id.size ≤ maxLen ∧ a.row.wide.size ≤ maxLen ∧ a.row.narrow.size ≤ maxLen) (ha : ActsAt w A l) :
    Calls Try.prog 7 #[.slice A l.length c] w (FewPost l w) := by
  unfold maxLen at hm
  go_enter Try.func7, Try.ntmps7
  go_wp2
  go_loopw [3] (fun v3 W => ∃ j : Nat, j ≤ l.length ∧ v3 = .int .i64 j ∧ W = w ∧ ∀ i a, i < j → l[i]? = some a → smallAct i a) (fun v3 _ => (l.length - intOf v3).toNat)
  case atStart => exact ⟨0, by omega, rfl, rfl, fun i a hi => absurd hi (by omega)⟩
  case round =>
    obtain ⟨j, hj, rfl, rfl, hbef⟩ := hrel
    have HBef := hide hbef
    clear hbef
    by_cases hlt : j < l.length
    · obtain ⟨a, hr⟩ : ∃ a, l[j]? = some a := ⟨_, List.getElem?_eq_getElem hlt⟩
      obtain ⟨ga, off, rfl, hga, k0, k1, k2, k3, k4⟩ := ha j a hr
      obtain ⟨s1, s2, s3⟩ := hs a (List.mem_of_getElem? hr)
      unfold maxLen at s1 s2 s3
      have HS := hide hs
      have HR := hide hr
      have HA := hide ha
      clear hs hr ha
      by_cases t0 : (150 : Int) ≤ j
      · go_wp2
        go_ret
        exact ⟨false, rfl, (fun h => by cases h), rfl⟩
      · have e0 : decide ((150 : Int) ≤ j) = false := by simpa using t0
        by_cases t1 : (200 : Int) < a.id.size
        · go_wp2
          go_ret
          exact ⟨false, rfl, (fun h => by cases h), rfl⟩
        · have e1 : decide ((200 : Int) < a.id.size) = false := by simpa using t1
          by_cases t2 : (200 : Int) < a.row.wide.size
          · go_wp2
            go_ret
            exact ⟨false, rfl, (fun h => by cases h), rfl⟩
          · have e2 : decide ((200 : Int) < a.row.wide.size) = false := by simpa using t2
            by_cases t3 : (200 : Int) < a.row.narrow.size
            · go_wp2
              go_ret
              exact ⟨false, rfl, (fun h => by cases h), rfl⟩
            · have e3 : decide ((200 : Int) < a.row.narrow.size) = false := by simpa using t3
              go_wp2
              go_roundw
              case rel =>
                refine ⟨j + 1, by omega, by go_num, by first | rfl | trivial, fun i b hi hb => ?_⟩
                by_cases hij : i < j
                · exact HBef.out i b hij hb
                · obtain rfl : i = j := by omega
                  obtain rfl : a = b := by have := HR.out; rw [this] at hb; exact Option.some.inj hb
                  exact ⟨by omega, by omega, by omega, by omega⟩
              case measure => simp [intOf]; omega
    · obtain rfl : j = l.length := by omega
      go_wp2
      go_ret
      exact ⟨true, rfl, (fun _ i a hi => HBef.out i a (List.getElem?_eq_some_iff.1 hi).1 hi), rfl⟩
end Go.Proofs.Ytlmpmfgheacplaa
