/-
  No cell of these rows narrows 'for every input' (looked for: loops, veiled, ifaces, maps, wideKeys, modest, calm, conditions, laid).
  DERIVED. THE GIVEN ROWS OF THIS SEAT. 3 by the template 'for every input the law returns true; each argument reads behind the call as it read before'; 0 by the template 'total and deterministic' (their statements: YtlmpmfgheacplaaTotals.lean).
  GIVEN WITH THE SEED: the statements are not yours to turn. If you find one false, say at which input.
  Laid BY PROGRAM, IN A SANDBOX (cutbox-rows.mjs): the forced cells as the released guide's own fill.sh prints them over the translation d19c00fb929c7a26… (all of the seat's roots in one cut). By AI agents, Wed Nov 11 2026. No macro, syntax, notation, axiom, sorry.
-/
import Derived.Test.YtlmpmfgheacplaaChecked
import GoSem.Claim
import GoSem.ClaimJoined
import GoSem.ClaimMapViews
import Derived.JoinedTies
import Derived.KernelRfl
namespace Go.Proofs.Ytlmpmfgheacplaa
/- THE CELL 'sum', in the pinned program and in every row, IS THE sha256 OF THE DUMP (.gsa) THAT YtlmpmfgheacplaaProg.lean LOADS. Nothing in Lean hashes anything: it is a label: what it is worth is what the hold of that sum in a sandbox is worth. -/
noncomputable def Try.pinned : Pinned := { name := "ytlmpmfgheacplaa", sum := "d19c00fb929c7a26f667857566d08a037d45f7a88a56a3b53965a03c6f454c84", checked := Try.checked }
namespace Rows
def none {H : Type} : Left H := { results := [], args := [] }

/-- 'diptychlaw14.TwinTurns': WHATEVER THE INPUT: true; the input reads as it did. -/
def twinTurnsSpec : ChangeSpec := { name := "twinTurns", fn := fun _ => fun
  | [d] => { results := [.lit (.bool true)], args := [d] }
  | _ => none }
def twinTurnsRow : OpenClaim := { program := "ytlmpmfgheacplaa", sum := "d19c00fb929c7a26f667857566d08a037d45f7a88a56a3b53965a03c6f454c84", func := "diptych/diptychlaw14.TwinTurns", spec := "twinTurns", unfollowed := true, recurses := true, apart := false }
def TwinTurnsSaid : Prop := twinTurnsRow.holds Try.pinned (OpenSpec.ofChange twinTurnsSpec)

/-- ITS FALSE NEIGHBOUR: 'it returns false'. Refute it at one input. -/
def twinTurnsWrong : ChangeSpec := { name := "twinTurns", fn := fun _ => fun
  | [d] => { results := [.lit (.bool false)], args := [d] }
  | _ => none }
def TwinTurnsWrongFalsely : Prop := twinTurnsRow.holds Try.pinned (OpenSpec.ofChange twinTurnsWrong)

/-- 'diptychlaw14.TwinAgain': WHATEVER THE INPUT: true; the input reads as it did. -/
def twinAgainSpec : ChangeSpec := { name := "twinAgain", fn := fun _ => fun
  | [d] => { results := [.lit (.bool true)], args := [d] }
  | _ => none }
def twinAgainRow : OpenClaim := { program := "ytlmpmfgheacplaa", sum := "d19c00fb929c7a26f667857566d08a037d45f7a88a56a3b53965a03c6f454c84", func := "diptych/diptychlaw14.TwinAgain", spec := "twinAgain", unfollowed := true, recurses := true, apart := false }
def TwinAgainSaid : Prop := twinAgainRow.holds Try.pinned (OpenSpec.ofChange twinAgainSpec)

/-- ITS FALSE NEIGHBOUR: 'it returns false'. Refute it at one input. -/
def twinAgainWrong : ChangeSpec := { name := "twinAgain", fn := fun _ => fun
  | [d] => { results := [.lit (.bool false)], args := [d] }
  | _ => none }
def TwinAgainWrongFalsely : Prop := twinAgainRow.holds Try.pinned (OpenSpec.ofChange twinAgainWrong)

/-- 'diptychlaw14.TwinPlays': WHATEVER THE INPUT: true; the input reads as it did. -/
def twinPlaysSpec : ChangeSpec := { name := "twinPlays", fn := fun _ => fun
  | [d] => { results := [.lit (.bool true)], args := [d] }
  | _ => none }
def twinPlaysRow : OpenClaim := { program := "ytlmpmfgheacplaa", sum := "d19c00fb929c7a26f667857566d08a037d45f7a88a56a3b53965a03c6f454c84", func := "diptych/diptychlaw14.TwinPlays", spec := "twinPlays", inPlace := ["maps.clone"], unfollowed := true, recurses := true, apart := false }
def TwinPlaysSaid : Prop := twinPlaysRow.holds Try.pinned (OpenSpec.ofChange twinPlaysSpec)

/-- ITS FALSE NEIGHBOUR: 'it returns false'. Refute it at one input. -/
def twinPlaysWrong : ChangeSpec := { name := "twinPlays", fn := fun _ => fun
  | [d] => { results := [.lit (.bool false)], args := [d] }
  | _ => none }
def TwinPlaysWrongFalsely : Prop := twinPlaysRow.holds Try.pinned (OpenSpec.ofChange twinPlaysWrong)

/- THE SECOND FORM. 'bulk': how many values and letters a reading holds, each counted each time it is reached (what is shared counts as often as it is met; a slice's spare places count too). A statement '..UptoSaid' is the law's where the arguments, and the package variables that the reading takes, are together of bulk at most 1048576: NARROWER than '..Said'. Prove '..Said' where nothing that the law and all that it calls make is longer than what came in: it says more and counts as full. Else prove '..UptoSaid'. A law counts once. -/
mutual
def uptoBulk {H : Type} : DataW H → Nat
  | .lit (.string bytes) => bytes.length + 1
  | .lit _ => 1
  | .nil => 1
  | .ptr d => uptoBulk d + 1
  | .slice elems spare => uptoBulkAll elems + uptoBulkAll spare + 1
  | .agg parts => uptoBulkAll parts + 1
  | .iface _ d => uptoBulk d + 1
  | .map entries => uptoBulkEntries entries + 1
  | .held _ => 1
def uptoBulkAll {H : Type} : List (DataW H) → Nat
  | [] => 0
  | d :: r => uptoBulk d + uptoBulkAll r
def uptoBulkEntries {H : Type} : List (Lit × DataW H) → Nat
  | [] => 0
  | x :: r => uptoBulkEntry x + uptoBulkEntries r
def uptoBulkEntry {H : Type} : Lit × DataW H → Nat
  | (.string bytes, d) => bytes.length + uptoBulk d + 1
  | (_, d) => uptoBulk d + 1
 end
def uptoSmall : (H : Type) → List (DataW H) → Bool := fun _ ds => decide (uptoBulkAll ds ≤ 1048576)
def OpenSpec.upto (s : _root_.Go.ChangeSpec) : _root_.Go.OpenSpec := { _root_.Go.OpenSpec.ofChange s with cond := some uptoSmall }

/-- 'diptychlaw14.TwinTurns', WHERE WHAT IT READS IS OF BULK AT MOST 1048576: true; the input reads as it did. -/
def twinTurnsUptoRow : OpenClaim := { program := "ytlmpmfgheacplaa", sum := "d19c00fb929c7a26f667857566d08a037d45f7a88a56a3b53965a03c6f454c84", func := "diptych/diptychlaw14.TwinTurns", spec := "twinTurns", unfollowed := true, recurses := true, apart := false, narrowed := true }
def TwinTurnsUptoSaid : Prop := twinTurnsUptoRow.holds Try.pinned (OpenSpec.upto twinTurnsSpec)

/-- 'diptychlaw14.TwinAgain', WHERE WHAT IT READS IS OF BULK AT MOST 1048576: true; the input reads as it did. -/
def twinAgainUptoRow : OpenClaim := { program := "ytlmpmfgheacplaa", sum := "d19c00fb929c7a26f667857566d08a037d45f7a88a56a3b53965a03c6f454c84", func := "diptych/diptychlaw14.TwinAgain", spec := "twinAgain", unfollowed := true, recurses := true, apart := false, narrowed := true }
def TwinAgainUptoSaid : Prop := twinAgainUptoRow.holds Try.pinned (OpenSpec.upto twinAgainSpec)

/-- 'diptychlaw14.TwinPlays', WHERE WHAT IT READS IS OF BULK AT MOST 1048576: true; the input reads as it did. -/
def twinPlaysUptoRow : OpenClaim := { program := "ytlmpmfgheacplaa", sum := "d19c00fb929c7a26f667857566d08a037d45f7a88a56a3b53965a03c6f454c84", func := "diptych/diptychlaw14.TwinPlays", spec := "twinPlays", inPlace := ["maps.clone"], unfollowed := true, recurses := true, apart := false, narrowed := true }
def TwinPlaysUptoSaid : Prop := twinPlaysUptoRow.holds Try.pinned (OpenSpec.upto twinPlaysSpec)

end Rows
end Go.Proofs.Ytlmpmfgheacplaa
