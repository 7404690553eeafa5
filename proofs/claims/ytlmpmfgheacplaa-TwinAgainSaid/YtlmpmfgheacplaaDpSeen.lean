/- work.Seen over strings: a set as the list of its keys: Has, Add, Len. -/
import Derived.Test.YtlmpmfgheacplaaDpRange
import Derived.Test.YtlmpmfgheacplaaProg
import Derived.WalkKit
import Derived.WalkSpells
import Derived.WalkLawsBesides
import Derived.BigRegion
import Derived.BigQuiet
import Derived.Deep.QuietTactic
import Derived.Deep.RegionHeld3
import Derived.Deep.DeepCutAuto
namespace Go.Proofs.Ytlmpmfgheacplaa
open Go.RowKit
set_option linter.unusedVariables false

def unitE : Unit → Value := fun _ => .agg #[]
/-- Block g is a Seen of just the keys s; ob: the block of its map. -/
def SeenAt (w : World) (g : Nat) (ob : Option Nat) (s : List ByteArray) : Prop :=
  w.heap[g]? = some (.cells #[.map ob] 56 (0, 0)) ∧ match ob with
    | none => s = []
    | some b => MapAt unitE w b (s.map fun k => (k, ()))

def memB : List ByteArray → ByteArray → Bool
  | [], _ => false
  | x :: s, k => decide (x = k) || memB s k
theorem memB_iff (s : List ByteArray) (k : ByteArray) : memB s k = true ↔ k ∈ s := by
  induction s with
  | nil => simp [memB]
  | cons x s ih => rw [memB, Bool.or_eq_true, ih, decide_eq_true_eq, List.mem_cons, eq_comm]
theorem mget_set (s : List ByteArray) (k : ByteArray) : (mget (s.map fun k => (k, ())) k).isSome = memB s k := by
  induction s with
  | nil => rfl
  | cons x s ih =>
    simp only [List.map_cons, mget, memB]
    by_cases h : x = k
    · simp [h]
    · simp [h, ih]
theorem SeenAt.only {w w' : World} {g : Nat} {ob : Option Nat} {s : List ByteArray} {S : List Nat} (h : SeenAt w g ob s) (ho : Only S w w') (hg : g ∉ S) (hb : ∀ b, ob = some b → b ∉ S) : SeenAt w' g ob s := by
  obtain ⟨h1, h2⟩ := h
  refine ⟨(ho.block g (Array.getElem?_eq_some_iff.1 h1).1 hg).trans h1, ?_⟩
  cases ob with
  | none => exact h2
  | some b => exact h2.only ho (hb b rfl)
theorem SeenAt.cell {w : World} {g : Nat} {ob : Option Nat} {s : List ByteArray} (h : SeenAt w g ob s) : w.cell? ⟨g, 0, none⟩ = some (.map ob) := by simp [World.cell?, h.1]
theorem SeenAt.frozen {w : World} {g : Nat} {ob : Option Nat} {s : List ByteArray} (h : SeenAt w g ob s) : w.frozen? ⟨g, 0, none⟩ = false := by simp [World.frozen?, h.1]
theorem SeenAt.lt {w : World} {g : Nat} {ob : Option Nat} {s : List ByteArray} (h : SeenAt w g ob s) : g < w.heap.size := (Array.getElem?_eq_some_iff.1 h.1).1
theorem SeenAt.map_lt {w : World} {g b : Nat} {s : List ByteArray} (h : SeenAt w g (some b) s) : b < w.heap.size := MapAt.lt h.2
theorem SeenAt.map_ne {w : World} {g b : Nat} {s : List ByteArray} (h : SeenAt w g (some b) s) : b ≠ g := MapAt.ne_cells h.2 h.1
theorem zeroUnit (w : World) : (zeroValue 67).run Try.prog w = .ok (.agg #[]) w := by kernel_rfl

set_option maxHeartbeats 400000 in
theorem has_any (g : Nat) (ob : Option Nat) (s : List ByteArray) (k : ByteArray) (w : World) (h : SeenAt w g ob s) :
    Calls Try.prog 29 #[.pointer (some ⟨g, 0, none⟩), .string k] w fun e w' => e = .returned (.bool (memB s k)) ∧ Only [] w w' := by
  have hl : ∀ W, SeenAt W g ob s → (Instr.lookup 54 (.map ob) (.string k) true).run Try.prog W = .ok (.tuple #[.agg #[], .bool (memB s k)]) W := by
    intro W hW
    cases ob with
    | none =>
      have : s = [] := hW.2
      subst this
      rw [show memB [] k = false from rfl, look_nilmap Try.underlying54 Try.underlying9 (zeroUnit W) k true]
      rfl
    | some b =>
      have hm : MapAt unitE W b (s.map fun k => (k, ())) := hW.2
      have := hm.look2 Try.underlying54 Try.underlying9 () (zeroUnit W) k
      rw [mget_set] at this
      exact this
  have l1 := hl _ h
  have l2 := hl _ (h.only ((Only.refl [] w).alloc (.cells #[] 67)) (by simp) (by simp))
  have c0 := h.cell
  have hg := h.lt
  generalize memB s k = ans at *
  clear hl h
  go_enter Try.func29, Try.ntmps29
  go_wp2
  go_ret
  exact ⟨rfl, (Only.refl [] w).alloc _⟩

/-- What Add leaves. -/
def SeenAdd (w : World) (g : Nat) (ob : Option Nat) (s : List ByteArray) (k : ByteArray) (e : Ending) (w' : World) : Prop :=
  ∃ ob', e = .returned (.bool (!memB s k)) ∧ SeenAt w' g ob' (if memB s k then s else s ++ [k]) ∧ Only (g :: ob.toList) w w' ∧ (ob' = ob ∨ ∃ b, ob = none ∧ ob' = some b ∧ w.heap.size ≤ b)

set_option maxHeartbeats 400000 in
theorem seen_add (g : Nat) (ob : Option Nat) (s : List ByteArray) (k : ByteArray) (w : World) (h : SeenAt w g ob s) :
    Calls Try.prog 22 #[.pointer (some ⟨g, 0, none⟩), .string k] w (SeenAdd w g ob s k) := by
  have hcon := hide (has_any g ob s k w h)
  have hmm := @run_makeMap Try.prog
  have H := hide h
  generalize hm : memB s k = m at *
  have HM := hide hm
  clear hm
  have hnil := fun (W : World) (q : Option Nat) => run_eql_map_nil (P := Try.prog) W 54 _ _ q Try.underlying54
  cases m
  · cases ob with
    | none =>
      clear h
      go_enter Try.func22, Try.ntmps22
      go_upto_region 5 with (go_at_call 29; refine hcon.out.mono ?_; rintro e w1 ⟨rfl, ho1⟩; have h1 := hide (H.out.only ho1 (by simp) (by simp)); have c1 := h1.out.cell; have hg1 := h1.out.lt; have f1 := h1.out.frozen)
      have hmk : MapAt unitE ((w1.setCell ⟨g, 0, none⟩ (.map (some w1.heap.size))).alloc (.map #[] 0)) w1.heap.size [] := by
        have := MapAt.made unitE (w1.setCell ⟨g, 0, none⟩ (.map (some w1.heap.size)))
        simpa using this
      have ho2 : Only [g] w1 ((w1.setCell ⟨g, 0, none⟩ (.map (some w1.heap.size))).alloc (.map #[] 0)) := ((Only.refl _ _).setCell (.inl (by simp)) _).alloc _
      have hcell : ((w1.setCell ⟨g, 0, none⟩ (.map (some w1.heap.size))).alloc (.map #[] 0)).heap[g]? = some (.cells #[.map (some w1.heap.size)] 56 (0, 0)) := by
        rw [Below.heap_alloc _ _ _ (by simpa [World.setCell] using hg1)]
        simp [World.setCell, Array.getElem?_modify, h1.out.1]
      have HC := hide hcell
      clear hcell
      go_wp2_with (at_mapUpdate; refine wpList_store_map rfl _ _ _ 54 rfl Try.underlying54 Try.underlying9 hmk rfl rfl () rfl ?_; intro w3 hm3 ho3)
      go_ret
      refine ⟨some w1.heap.size, by rw [HM.out]; rfl, ?_, ?_, .inr ⟨_, rfl, rfl, ho1.size⟩⟩
      · rw [HM.out]
        refine ⟨(ho3.block g (by simp [World.setCell]; omega) (by simp; omega)).trans HC.out, ?_⟩
        have hs : s = [] := H.out.2
        subst hs
        exact hm3
      · refine ((ho1.mono (T := g :: (none : Option Nat).toList) (by simp)).trans ho2 (by simp)).trans ho3 ?_
        intro t ht hlt
        have := ho1.size
        simp at ht
        omega
    | some b =>
      clear h
      go_enter Try.func22, Try.ntmps22
      go_upto_region 5 with (go_at_call 29; refine hcon.out.mono ?_; rintro e w1 ⟨rfl, ho1⟩; have h1 := hide (H.out.only ho1 (by simp) (by simp)); have c1 := h1.out.cell; have hg1 := h1.out.lt)
      go_wp2_with (at_mapUpdate; refine wpList_store_map rfl _ _ _ 54 rfl Try.underlying54 Try.underlying9 h1.out.2 rfl rfl () rfl ?_; intro w3 hm3 ho3)
      go_ret
      refine ⟨some b, by rw [HM.out]; rfl, ?_, (ho1.mono (T := g :: (some b).toList) (by simp)).trans ho3 (by simp), .inl rfl⟩
      rw [HM.out]
      refine ⟨(ho3.block g hg1 (by simpa using fun e => h1.out.map_ne e.symm)).trans h1.out.1, ?_⟩
      have hnew := mget_set s k
      rw [HM.out] at hnew
      rw [mput_new _ (by simpa using hnew)] at hm3
      simpa using hm3
  · go_enter Try.func22, Try.ntmps22
    go_wp2_with (go_at_call 29; refine hcon.out.mono ?_; rintro e w1 ⟨rfl, ho1⟩)
    go_ret
    refine ⟨ob, by rw [HM.out]; rfl, ?_, ho1.mono (by simp), .inl rfl⟩
    rw [HM.out]
    exact H.out.only ho1 (by simp) (by simp)
end Go.Proofs.Ytlmpmfgheacplaa
