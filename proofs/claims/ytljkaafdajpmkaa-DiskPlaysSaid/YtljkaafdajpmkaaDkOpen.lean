/- The laws' argument, opened: a slice of acts that came in. -/
import Derived.Test.YtljkaafdajpmkaaDkActs
import Derived.WalkKit
import Derived.ProofKit
import Derived.OpenShut
import Derived.ShutString
import Derived.ChangeOld
import Derived.Below
import Derived.SizedLaws
import Derived.Deep.Slices
namespace Go.Proofs.Ytljkaafdajpmkaa
open Go.ChangeShapes Go.WideShapes Go.ChangeAt Go.RowKit
set_option linter.unusedVariables false

instance : Inhabited Act := ⟨⟨0, ⟨#[]⟩, ⟨#[]⟩, 0, 0⟩⟩
section
variable {H : Type} {enc : TypeId × Value → H} {W : World} {base : Nat} {spare : Nat → Bool} {held : Bool} {fuel : Nat}
theorem some_at {α : Type} {l : List α} {i : Nat} (h : i < l.length) : ∃ x, l[i]? = some x := ⟨_, List.getElem?_eq_getElem h⟩
theorem list2 {α : Type} : ∀ {l : List α}, l.length = 2 → ∃ a b, l = [a, b]
  | [a, b], _ => ⟨a, b, rfl⟩
theorem list5 {α : Type} : ∀ {l : List α}, l.length = 5 → ∃ a b c d e, l = [a, b, c, d, e]
  | [a, b, c, d, e], _ => ⟨a, b, c, d, e, rfl⟩
theorem mem_all {t : TypeId} : ∀ {l : List (DataW H)} {d : DataW H}, d ∈ l → ∀ n ∈ d.weights Try.prog t, n ∈ DataW.weightsAll Try.prog t l
  | d0 :: l, d, hd, n, hn => by
    simp only [DataW.weightsAll, List.mem_append]
    cases hd with
    | head => exact .inl hn
    | tail _ hd => exact .inr (mem_all hd n hn)
set_option maxRecDepth 100000 in
theorem open_cut {cs : List Value} {x : DataW H × List MemPlace} (h : DataW.trod enc Try.prog W base spare held fuel 33 cs = some x) :
    ∃ k m : Int, cs = [.int .i64 k, .int .u64 m] ∧ k ≤ 9223372036854775807 ∧ 0 ≤ m ∧ m < 18446744073709551616 := by
  obtain ⟨xs, n, _, _, hl, hx, hf⟩ := DataW.trod_struct Try.underlying33 h
  have hl' : cs.length = 2 := hl.trans (by kernel_rfl)
  have hx' : xs.length = 2 := hx
  obtain ⟨c0, c1, rfl⟩ := list2 hl'
  obtain ⟨y0, hy0⟩ := some_at (l := xs) (i := 0) (by omega)
  obtain ⟨y1, hy1⟩ := some_at (l := xs) (i := 1) (by omega)
  have h0 := (hf 0 _ rfl).trans hy0
  have h1 := (hf 1 _ rfl).trans hy1
  obtain ⟨k, e0, _, b0⟩ := DataW.trod_int Try.underlying3 h0
  obtain ⟨m, e1, _, b1⟩ := DataW.trod_int Try.underlying31 h1
  have k3 : Try.prog.cellsOf 3 = 1 := by kernel_rfl
  have k31 : Try.prog.cellsOf 31 = 1 := by kernel_rfl
  simp [k3, k31] at e0 e1
  subst e0 e1
  have b0' : IntKind.i64.min ≤ k ∧ k ≤ IntKind.i64.max := by simpa [Lit.wf] using b0
  have b1' : IntKind.u64.min ≤ m ∧ m ≤ IntKind.u64.max := by simpa [Lit.wf] using b1
  have m0 : IntKind.i64.max = 9223372036854775807 := by decide
  have m1 : IntKind.u64.min = 0 := by decide
  have m2 : IntKind.u64.max = 18446744073709551615 := by decide
  exact ⟨k, m, rfl, by omega, by omega, by omega⟩
set_option maxRecDepth 100000 in
theorem open_act {cs : List Value} {x : DataW H × List MemPlace} (h : DataW.trod enc Try.prog W base spare held fuel 39 cs = some x) (hw : ∀ n ∈ x.1.weights Try.prog 39, n ≤ reachBytes) :
    ∃ a : Act, cs = [.int .i64 a.kind, .string a.path, .string a.text, .int .i64 a.at_, .int .u64 a.keep] ∧ a.Is := by
  obtain ⟨xs, n, _, hxx, hl, hx, hf⟩ := DataW.trod_struct Try.underlying39 h
  have hl' : cs.length = 5 := hl.trans (by kernel_rfl)
  have hx' : xs.length = 4 := hx
  obtain ⟨c0, c1, c2, c3, c4, rfl⟩ := list5 hl'
  obtain ⟨y0, hy0⟩ := some_at (l := xs) (i := 0) (by omega)
  obtain ⟨y1, hy1⟩ := some_at (l := xs) (i := 1) (by omega)
  obtain ⟨y2, hy2⟩ := some_at (l := xs) (i := 2) (by omega)
  obtain ⟨y3, hy3⟩ := some_at (l := xs) (i := 3) (by omega)
  have h0 := (hf 0 _ rfl).trans hy0
  have h1 := (hf 1 _ rfl).trans hy1
  have h2 := (hf 2 _ rfl).trans hy2
  have h3 := (hf 3 _ rfl).trans hy3
  obtain ⟨k, e0, _, _⟩ := DataW.trod_int Try.underlying3 h0
  obtain ⟨p, e1, q1, s1⟩ := DataW.trod_string Try.underlying9 h1
  obtain ⟨t, e2, q2, s2⟩ := DataW.trod_string Try.underlying9 h2
  obtain ⟨m, o, e3, b1, b2⟩ := open_cut h3
  have k9 : Try.prog.cellsOf 9 = 1 := by kernel_rfl
  have k3 : Try.prog.cellsOf 3 = 1 := by kernel_rfl
  have k33 : Try.prog.cellsOf 33 = 2 := by kernel_rfl
  simp [k9, k3, k33] at e0 e1 e2 e3
  obtain ⟨e3, e4⟩ := e3
  subst e0 e1 e2 e3 e4
  have hmem : ∀ (i : Nat) (ty : TypeId) (s : ByteArray) (y : DataW H × List MemPlace), (Try.prog.underlying 39).bind (fun u => match u with
      | .struct fs => (fs.toList.map (·.type))[i]?
      | _ => none) = some ty → xs[i]? = some y → y = (.lit (.string s.data.toList), []) → s.size ≤ 140737488351232 := fun i ty s y hty hy hys => by
    have hin : s.data.toList.length ∈ x.1.weights Try.prog 39 := by
      rw [hxx]
      rw [Try.underlying39] at hty
      simp only [DataW.weights, Try.underlying39]
      refine DataW.weights_mem_each (j := i) hty (d := y.1) (by simp [hy]) _ ?_
      rw [hys]
      simp [DataW.weights]
    have := hw _ hin
    have e : s.data.toList.length = s.size := by rw [Array.length_toList]; rfl
    rw [e] at this
    exact this
  exact ⟨⟨k, p, t, m, o⟩, rfl, ⟨hmem 1 _ p y1 (by rw [Try.underlying39]; rfl) hy1 q1, hmem 2 _ t y2 (by rw [Try.underlying39]; rfl) hy2 q2, b1, b2⟩⟩
theorem open_acts {a : Option Addr} {len cap : Nat} {x : DataW H × List MemPlace} (h : DataW.trod enc Try.prog W base (fun _ => true) held fuel 22 (Value.slice a len cap).cells.toList = some x) (hw : ∀ n ∈ x.1.weights Try.prog 22, n ≤ reachBytes) :
    ∃ l : List Act, l.length = len ∧ len ≤ cap ∧ cap ≤ maxLen ∧ (∀ x ∈ l, x.Is) ∧ ActsAt W a l := by
  have k39 : Try.prog.cellsOf 39 = 5 := by kernel_rfl
  rcases Go.Deep.open_slice Try.underlying22 h with ⟨hcs, _⟩ | ⟨y, l, c, m, n, D, Pl, hcs, _, hl, hm, hmm, hxx, hcell⟩
  · simp [Value.cells] at hcs
    obtain ⟨rfl, rfl, rfl⟩ := hcs
    exact ⟨[], rfl, Nat.le_refl _, by unfold maxLen; omega, by simp, fun i b hb => by simp at hb⟩
  · simp [Value.cells] at hcs
    obtain ⟨rfl, rfl, rfl⟩ := hcs
    simp only [if_true] at hmm
    subst hmm
    rw [k39] at hcell
    have hwi : ∀ i, i < len → ∀ n ∈ (D i).weights Try.prog 39, n ≤ reachBytes := fun i hi n hn => by
      refine hw n ?_
      rw [hxx]
      simp only [DataW.weights, Try.underlying22]
      refine List.mem_cons_of_mem _ (List.mem_append.2 (.inl (mem_all (List.mem_map.2 ⟨i, List.mem_range.2 hi, rfl⟩) n hn)))
    obtain ⟨F, hF⟩ := Go.Deep.choose_lt (α := Act) (n := len) (p := fun i b => b.Is ∧ W.cell? (y.add (i * 5)) = some (.int .i64 b.kind) ∧
        W.cell? ((y.add (i * 5)).add 1) = some (.string b.path) ∧ W.cell? ((y.add (i * 5)).add 2) = some (.string b.text) ∧ W.cell? ((y.add (i * 5)).add 3) = some (.int .i64 b.at_) ∧ W.cell? ((y.add (i * 5)).add 4) = some (.int .u64 b.keep)) (fun i hi => by
      obtain ⟨cs', h1, h2⟩ := hcell i (by omega)
      obtain ⟨b, rfl, s1⟩ := open_act h2 (hwi i hi)
      have hc := (World.cells?_some h1).2.2
      exact ⟨b, s1, by have := hc 0 (by omega); simpa [Addr.add] using this, by simpa using hc 1 (by omega), by simpa using hc 2 (by omega), by simpa using hc 3 (by omega), by simpa using hc 4 (by omega)⟩)
    refine ⟨(List.range len).map F, by simp, hl, hm, ?_, ?_⟩
    · intro b hb
      obtain ⟨i, hi, rfl⟩ := List.mem_map.1 hb
      exact (hF i (List.mem_range.1 hi)).1
    · intro i b hb
      have hi : i < len := by have := (List.getElem?_eq_some_iff.1 hb).1; simpa using this
      obtain rfl : F i = b := by simpa [hi] using hb
      obtain ⟨_, h0, h1, h2, h3, h4⟩ := hF i hi
      obtain ⟨_, h00, _⟩ := hF 0 (by omega)
      obtain ⟨g, off, spot⟩ := y
      have hsp : spot = none := by
        cases spot with
        | none => rfl
        | some s => simp [World.cell?, Addr.add] at h00; split at h00 <;> simp_all
      subst hsp
      have ea : (⟨g, off, none⟩ : Addr).add (i * 5) = ⟨g, off + i * 5, none⟩ := by unfold Addr.add; split <;> simp_all
      rw [ea] at h0 h1 h2 h3 h4
      exact ⟨g, off, rfl, World.block_lt_of_cell? W _ h0, h0, h1, h2, h3, h4⟩
end
end Go.Proofs.Ytljkaafdajpmkaa
