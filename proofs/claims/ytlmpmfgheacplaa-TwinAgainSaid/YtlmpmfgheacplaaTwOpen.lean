/- The laws' argument, opened: a slice of acts that came in. -/
import Derived.Test.YtlmpmfgheacplaaTwActs
import Derived.WalkKit
import Derived.ProofKit
import Derived.OpenShut
import Derived.ShutString
import Derived.ChangeOld
import Derived.Below
import Derived.SizedLaws
import Derived.Deep.Slices
namespace Go.Proofs.Ytlmpmfgheacplaa
open Go.ChangeShapes Go.WideShapes Go.ChangeAt Go.RowKit
set_option linter.unusedVariables false

instance : Inhabited Act := ⟨⟨0, Row.zero, ⟨#[]⟩⟩⟩
section
variable {H : Type} {enc : TypeId × Value → H} {W : World} {base : Nat} {spare : Nat → Bool} {held : Bool} {fuel : Nat}
theorem some_at {α : Type} {l : List α} {i : Nat} (h : i < l.length) : ∃ x, l[i]? = some x := ⟨_, List.getElem?_eq_getElem h⟩
theorem list3 {α : Type} : ∀ {l : List α}, l.length = 3 → ∃ a b c, l = [a, b, c]
  | [a, b, c], _ => ⟨a, b, c, rfl⟩
theorem list5 {α : Type} : ∀ {l : List α}, l.length = 5 → ∃ a b c d e, l = [a, b, c, d, e]
  | [a, b, c, d, e], _ => ⟨a, b, c, d, e, rfl⟩
set_option maxRecDepth 100000 in
theorem open_row {cs : List Value} {x : DataW H × List MemPlace} (h : DataW.trod enc Try.prog W base spare held fuel 30 cs = some x) :
    ∃ r : Row, cs = [.string r.wide, .string r.narrow, .int .i64 r.kind] ∧ r.wide.size ≤ maxLen ∧ r.narrow.size ≤ maxLen := by
  obtain ⟨xs, n, _, _, hl, hx, hf⟩ := DataW.trod_struct Try.underlying30 h
  have hl' : cs.length = 3 := hl.trans (by kernel_rfl)
  have hx' : xs.length = 3 := hx
  obtain ⟨c0, c1, c2, rfl⟩ := list3 hl'
  · skip
    obtain ⟨y0, hy0⟩ := some_at (l := xs) (i := 0) (by omega)
    obtain ⟨y1, hy1⟩ := some_at (l := xs) (i := 1) (by omega)
    obtain ⟨y2, hy2⟩ := some_at (l := xs) (i := 2) (by omega)
    have h0 := (hf 0 _ rfl).trans hy0
    have h1 := (hf 1 _ rfl).trans hy1
    have h2 := (hf 2 _ rfl).trans hy2
    obtain ⟨a, e0, _, s0⟩ := DataW.trod_string Try.underlying9 h0
    obtain ⟨b, e1, _, s1⟩ := DataW.trod_string Try.underlying9 h1
    obtain ⟨k, e2, _, _⟩ := DataW.trod_int Try.underlying3 h2
    have c9 : Try.prog.cellsOf 9 = 1 := by kernel_rfl
    have c3 : Try.prog.cellsOf 3 = 1 := by kernel_rfl
    simp [c9, c3] at e0 e1 e2
    subst e0 e1 e2
    exact ⟨⟨a, b, k⟩, rfl, s0, s1⟩
set_option maxRecDepth 100000 in
theorem open_act {cs : List Value} {x : DataW H × List MemPlace} (h : DataW.trod enc Try.prog W base spare held fuel 32 cs = some x) :
    ∃ a : Act, cs = [.int .i64 a.kind, .string a.row.wide, .string a.row.narrow, .int .i64 a.row.kind, .string a.id] ∧ a.id.size ≤ maxLen ∧ a.row.wide.size ≤ maxLen ∧ a.row.narrow.size ≤ maxLen := by
  obtain ⟨xs, n, _, _, hl, hx, hf⟩ := DataW.trod_struct Try.underlying32 h
  have hl' : cs.length = 5 := hl.trans (by kernel_rfl)
  have hx' : xs.length = 3 := hx
  obtain ⟨c0, c1, c2, c3, c4, rfl⟩ := list5 hl'
  · skip
    obtain ⟨y0, hy0⟩ := some_at (l := xs) (i := 0) (by omega)
    obtain ⟨y1, hy1⟩ := some_at (l := xs) (i := 1) (by omega)
    obtain ⟨y2, hy2⟩ := some_at (l := xs) (i := 2) (by omega)
    have h0 := (hf 0 _ rfl).trans hy0
    have h1 := (hf 1 _ rfl).trans hy1
    have h2 := (hf 2 _ rfl).trans hy2
    obtain ⟨k, e0, _, _⟩ := DataW.trod_int Try.underlying3 h0
    obtain ⟨r, e1, s1, s2⟩ := open_row h1
    obtain ⟨b, e2, _, s3⟩ := DataW.trod_string Try.underlying9 h2
    have k9 : Try.prog.cellsOf 9 = 1 := by kernel_rfl
    have k3 : Try.prog.cellsOf 3 = 1 := by kernel_rfl
    have k30 : Try.prog.cellsOf 30 = 3 := by kernel_rfl
    simp [k9, k3, k30] at e0 e1 e2
    obtain ⟨e3, e4, e5⟩ := e1
    subst e0 e2 e3 e4 e5
    exact ⟨⟨k, r, b⟩, rfl, s3, s1, s2⟩
theorem open_acts {a : Option Addr} {len cap : Nat} {x : DataW H × List MemPlace} (h : DataW.trod enc Try.prog W base (fun _ => true) held fuel 22 (Value.slice a len cap).cells.toList = some x) :
    ∃ l : List Act, l.length = len ∧ len ≤ cap ∧ cap ≤ maxLen ∧ (∀ x ∈ l, x.id.size ≤ maxLen ∧ x.row.wide.size ≤ maxLen ∧ x.row.narrow.size ≤ maxLen) ∧ ActsAt W a l := by
  have k32 : Try.prog.cellsOf 32 = 5 := by kernel_rfl
  rcases Go.Deep.open_slice Try.underlying22 h with ⟨hcs, _⟩ | ⟨y, l, c, m, n, D, Pl, hcs, _, hl, hm, hmm, _, hcell⟩
  · simp [Value.cells] at hcs
    obtain ⟨rfl, rfl, rfl⟩ := hcs
    exact ⟨[], rfl, Nat.le_refl _, by unfold maxLen; omega, by simp, fun i b hb => by simp at hb⟩
  · simp [Value.cells] at hcs
    obtain ⟨rfl, rfl, rfl⟩ := hcs
    simp only [if_true] at hmm
    subst hmm
    rw [k32] at hcell
    obtain ⟨F, hF⟩ := Go.Deep.choose_lt (α := Act) (n := len) (p := fun i b => b.id.size ≤ maxLen ∧ b.row.wide.size ≤ maxLen ∧ b.row.narrow.size ≤ maxLen ∧ W.cell? (y.add (i * 5)) = some (.int .i64 b.kind) ∧
        W.cell? ((y.add (i * 5)).add 1) = some (.string b.row.wide) ∧ W.cell? ((y.add (i * 5)).add 2) = some (.string b.row.narrow) ∧ W.cell? ((y.add (i * 5)).add 3) = some (.int .i64 b.row.kind) ∧ W.cell? ((y.add (i * 5)).add 4) = some (.string b.id)) (fun i hi => by
      obtain ⟨cs', h1, h2⟩ := hcell i (by omega)
      obtain ⟨b, rfl, s1, s2, s3⟩ := open_act h2
      have hc := (World.cells?_some h1).2.2
      exact ⟨b, s1, s2, s3, by have := hc 0 (by omega); simpa [Addr.add] using this, by simpa using hc 1 (by omega), by simpa using hc 2 (by omega), by simpa using hc 3 (by omega), by simpa using hc 4 (by omega)⟩)
    refine ⟨(List.range len).map F, by simp, hl, hm, ?_, ?_⟩
    · intro b hb
      obtain ⟨i, hi, rfl⟩ := List.mem_map.1 hb
      obtain ⟨s1, s2, s3, _⟩ := hF i (List.mem_range.1 hi)
      exact ⟨s1, s2, s3⟩
    · intro i b hb
      have hi : i < len := by have := (List.getElem?_eq_some_iff.1 hb).1; simpa using this
      obtain rfl : F i = b := by simpa [hi] using hb
      obtain ⟨_, _, _, h0, h1, h2, h3, h4⟩ := hF i hi
      obtain ⟨_, _, _, h00, _⟩ := hF 0 (by omega)
      obtain ⟨g, off, spot⟩ := y
      have hsp : spot = none := by
        cases spot with
        | none => rfl
        | some s => simp [World.cell?, Addr.add] at h00; split at h00 <;> simp_all
      subst hsp
      have ea : (⟨g, off, none⟩ : Addr).add (i * 5) = ⟨g, off + i * 5, none⟩ := by unfold Addr.add; split <;> simp_all
      rw [ea] at h0 h1 h2 h3 h4
      exact ⟨g, off, rfl, World.block_lt_of_cell? W _ h0, h0, h1, h2, h3, h4⟩
end
end Go.Proofs.Ytlmpmfgheacplaa
