/- The disk's files: an effect is done; what files take. -/
import Derived.Test.YtljkaafdajpmkaaProg
import Derived.Test.YtljkaafdajpmkaaDpRange
import Derived.Test.YtljkaafdajpmkaaDpOwn
import Derived.WalkKit
import Derived.WalkSpells
import Derived.WalkLawsBesides
import Derived.BigRegion
import Derived.BigQuiet
import Derived.Deep.QuietTactic
import Derived.Deep.RegionHeld3
import Derived.Deep.DeepCutAuto
namespace Go.Proofs.Ytljkaafdajpmkaa
open Go.RowKit
set_option linter.unusedVariables false

abbrev Files := List (ByteArray × ByteArray)
/-- An effect: 0 a write, 1 a rename of path to text, 2 a removal. -/
structure Eff where
  kind : Int
  path : ByteArray
  text : ByteArray
def Eff.enc (e : Eff) : Value := .agg #[.int .i64 e.kind, .string e.path, .string e.text]
def Eff.cells (e : Eff) : List Value := [.int .i64 e.kind, .string e.path, .string e.text]
/-- Files behind an effect. -/
def effDo (l : Files) (e : Eff) : Files :=
  if e.kind = 0 then mput l e.path e.text else
  if e.kind = 1 then (match mget l e.path with
    | some x => mput (mdel l e.path) e.text x
    | none => l) else
  if e.kind = 2 then mdel l e.path else l
/-- What files take. -/
def tookOf : Files → Nat
  | [] => 0
  | p :: l => p.1.size + p.2.size + tookOf l

theorem zero9 (w : World) : (zeroValue 9).run Try.prog w = .ok (.string ⟨#[]⟩) w := by kernel_rfl

def FilesPost (w : World) (b : Nat) (l : Files) (e : Ending) (w' : World) : Prop := e = .returned (.tuple #[]) ∧ MapAt Value.string w' b l ∧ Only [b] w w'
set_option maxHeartbeats 1000000 in
set_option maxRecDepth 100000 in
theorem do_any (b : Nat) (l : Files) (f : Eff) (w : World) (h : MapAt Value.string w b l) :
    Calls Try.prog 86 #[.map (some b), .agg #[.int .i64 f.kind, .string f.path, .string f.text]] w (FilesPost w b (effDo l f)) := by
  obtain ⟨k, p, t⟩ := f
  have hl := h.alloc (.cells #[.int .i64 k, .string p, .string t] 116)
  have ho : Only [b] w (w.alloc (.cells #[.int .i64 k, .string p, .string t] 116)) := (Only.refl _ _).alloc _
  have hg : w.heap.size < (w.alloc (.cells #[.int .i64 k, .string p, .string t] 116)).heap.size := by simp
  have hcell := MapKept.heap_alloc w (.cells #[.int .i64 k, .string p, .string t] 116)
  have hblk := hide hcell.1
  have hne : w.heap.size ≠ b := fun e => by have := h.lt; omega
  have c0 : (w.alloc (.cells #[.int .i64 k, .string p, .string t] 116)).cell? ⟨w.heap.size, 0, none⟩ = some (.int .i64 k) := by simp [World.cell?_alloc_new]
  have c1 : (w.alloc (.cells #[.int .i64 k, .string p, .string t] 116)).cell? ⟨w.heap.size, 1, none⟩ = some (.string p) := by simp [World.cell?_alloc_new]
  have c2 : (w.alloc (.cells #[.int .i64 k, .string p, .string t] 116)).cell? ⟨w.heap.size, 2, none⟩ = some (.string t) := by simp [World.cell?_alloc_new]
  clear hcell h
  by_cases h0 : k = 0
  · subst h0
    have hd : effDo l ⟨0, p, t⟩ = mput l p t := by simp [effDo]
    rw [hd]
    have HL := hide hl
    clear hl
    go_enter Try.func86, Try.ntmps86
    go_wp2_with (at_mapUpdate; refine wpList_store_map rfl _ _ _ 102 rfl Try.underlying102 Try.underlying9 HL.out rfl rfl _ rfl ?_; intro w3 hm3 ho3)
    go_end0
    exact ⟨rfl, hm3, ho.trans ho3 (by simp)⟩
  · have d0 : decide (k = 0) = false := by simpa using h0
    by_cases h1 : k = 1
    · subst h1
      clear h0 d0
      cases hg1 : mget l p with
      | some x =>
        have hd : effDo l ⟨1, p, t⟩ = mput (mdel l p) t x := by simp [effDo, hg1]
        rw [hd]
        have l1 := hl.look2 (P := Try.prog) Try.underlying102 Try.underlying9 (⟨#[]⟩ : ByteArray) (zero9 _) p
        rw [hg1] at l1
        simp only [Option.isSome_some, Option.getD_some] at l1
        have HL := hide hl
        have HG := hide hg1
        clear hl hg1
        go_enter Try.func86, Try.ntmps86
        go_wp2_with (first
          | (at_mapUpdate; refine wpList_store_map rfl _ _ _ 102 rfl Try.underlying102 Try.underlying9 HM2.out rfl rfl _ rfl ?_; intro w3 hm3 ho3)
          | (at_delete; refine wpList_delete_map rfl _ _ 102 9 rfl Try.underlying102 Try.underlying9 HL.out rfl rfl ?_; intro w2 hm2 ho2; have HM2 := hide hm2; have b2 := (ho2.block w.heap.size hg (by simpa using hne)).trans hblk.out; have p2 : w2.cell? ⟨w.heap.size, 2, none⟩ = some (.string t) := by simp [World.cell?, b2]))
        go_end0
        exact ⟨rfl, hm3, (ho.trans ho2 (by simp)).trans ho3 (by simp)⟩
      | none =>
        have hd : effDo l ⟨1, p, t⟩ = l := by simp [effDo, hg1]
        rw [hd]
        have l1 := hl.look2 (P := Try.prog) Try.underlying102 Try.underlying9 (⟨#[]⟩ : ByteArray) (zero9 _) p
        rw [hg1] at l1
        simp only [Option.isSome_none, Option.getD_none] at l1
        have HL := hide hl
        have HG := hide hg1
        clear hl hg1
        go_enter Try.func86, Try.ntmps86
        go_wp2
        go_end0
        exact ⟨rfl, HL.out, ho⟩
    · have d1 : decide (k = 1) = false := by simpa using h1
      by_cases h2 : k = 2
      · subst h2
        clear h0 h1 d0 d1
        have hd : effDo l ⟨2, p, t⟩ = mdel l p := by simp [effDo]
        rw [hd]
        have HL := hide hl
        clear hl
        go_enter Try.func86, Try.ntmps86
        go_wp2_with (at_delete; refine wpList_delete_map rfl _ _ 102 9 rfl Try.underlying102 Try.underlying9 HL.out rfl rfl ?_; intro w2 hm2 ho2)
        go_end0
        exact ⟨rfl, hm2, ho.trans ho2 (by simp)⟩
      · have d2 : decide (k = 2) = false := by simpa using h2
        have hd : effDo l ⟨k, p, t⟩ = l := by simp [effDo, h0, h1, h2]
        rw [hd]
        have HL := hide hl
        clear hl
        go_enter Try.func86, Try.ntmps86
        go_wp2
        go_end0
        exact ⟨rfl, HL.out, ho⟩
end Go.Proofs.Ytljkaafdajpmkaa
