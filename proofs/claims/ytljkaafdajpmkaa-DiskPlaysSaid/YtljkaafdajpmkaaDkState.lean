/- The disk as plain data; copies of its files; does the power fail? -/
import Derived.Test.YtljkaafdajpmkaaDkTaken
import Derived.Test.YtljkaafdajpmkaaDkLay
import Derived.Sort.Row
namespace Go.Proofs.Ytljkaafdajpmkaa
open Go.RowKit
set_option linter.unusedVariables false

def ClonePost (w : World) (l : Files) (e : Ending) (w' : World) : Prop := e = .returned (.map (some w.heap.size)) ∧ MapAt Value.string w' w.heap.size l ∧ Only [] w w' ∧ w'.heap.size = w.heap.size + 1
theorem clone_any (b : Nat) (l : Files) (w : World) (h : MapAt Value.string w b l) : Calls Try.prog 60 #[.map (some b)] w (ClonePost w l) := by
  obtain ⟨es, clock, hb, hs, he⟩ := h
  refine (AnyW.maps_Clone Try.clone60 b es clock w hb).mono ?_
  rintro e w' ⟨rfl, rfl⟩
  exact ⟨rfl, ⟨es, clock, (MapKept.heap_alloc w _).1, hs, he⟩, (Only.refl _ _).alloc _, by simp⟩

/-- A slice whose cells lie at the head of a block. -/
def ArgAt (w : World) (A : Option Addr) (cells : List Value) : Prop := ∀ j u, cells[j]? = some u → ∃ g, A = some ⟨g, 0, none⟩ ∧ g < w.heap.size ∧ w.cell? ⟨g, j, none⟩ = some u
theorem ArgAt.only {w w' : World} {A : Option Addr} {cells : List Value} {S : List Nat} (h : ArgAt w A cells) (ho : Only S w w') (hS : ∀ g, A = some ⟨g, 0, none⟩ → g ∉ S) : ArgAt w' A cells := fun j u hu => by
  obtain ⟨g, hA, hg, hc⟩ := h j u hu
  exact ⟨g, hA, Nat.lt_of_lt_of_le hg ho.size, (ho.cell (p := ⟨g, j, none⟩) hg (hS g hA)).trans hc⟩
theorem ArgAt.nil (w : World) (A : Option Addr) : ArgAt w A [] := fun j u h => by simp at h

def effCells (l : List Eff) : List Value := l.flatMap Eff.cells
/-- A disk. -/
structure DiskS where
  room : Int
  lies : Files
  seen : Files
  waits : List Eff
  down : Bool
  left : Int
  keep : Int
def DiskS.cells (S : DiskS) (b1 b2 : Nat) (A : Option Addr) (c : Nat) : Array Value :=
  #[.int .i64 S.room, .map (some b1), .map (some b2), .slice A S.waits.length c, .bool S.down, .int .i64 S.left, .int .u64 S.keep]
structure DiskAt (w : World) (g b1 b2 : Nat) (A : Option Addr) (c : Nat) (S : DiskS) : Prop where
  blk : w.heap[g]? = some (.cells (S.cells b1 b2 A c) 105 (0, 0))
  lies : MapAt Value.string w b1 S.lies
  seen : MapAt Value.string w b2 S.seen
  ne : b1 ≠ b2
  waits : ArgAt w A (effCells S.waits)
  cap : S.waits.length ≤ c
  apart : ∀ k, A = some ⟨k, 0, none⟩ → k ≠ g
  nil : S.waits = [] → A = none ∧ c = 0
section
variable {w w' : World} {g b1 b2 : Nat} {A : Option Addr} {c : Nat} {S : DiskS}
theorem DiskAt.lt (h : DiskAt w g b1 b2 A c S) : g < w.heap.size := (Array.getElem?_eq_some_iff.1 h.blk).1
theorem DiskAt.only {T : List Nat} (h : DiskAt w g b1 b2 A c S) (ho : Only T w w') (hg : g ∉ T) (h1 : b1 ∉ T) (h2 : b2 ∉ T) (hA : ∀ k, A = some ⟨k, 0, none⟩ → k ∉ T) : DiskAt w' g b1 b2 A c S :=
  ⟨(ho.block g h.lt hg).trans h.blk, h.lies.only ho h1, h.seen.only ho h2, h.ne, h.waits.only ho hA, h.cap, h.apart, h.nil⟩
theorem DiskAt.ne1 (h : DiskAt w g b1 b2 A c S) : b1 ≠ g := h.lies.ne_cells h.blk
theorem DiskAt.ne2 (h : DiskAt w g b1 b2 A c S) : b2 ≠ g := h.seen.ne_cells h.blk
/-- One of its cells is stored to. -/
theorem DiskAt.set (h : DiskAt w g b1 b2 A c S) {S' : DiskS} (j : Nat) (u : Value) (hc : (S.cells b1 b2 A c).set! j u = S'.cells b1 b2 A c) (hl : S'.lies = S.lies := by rfl) (hs : S'.seen = S.seen := by rfl) (hw : S'.waits = S.waits := by rfl) :
    DiskAt (w.setCell ⟨g, j, none⟩ u) g b1 b2 A c S' := by
  have ho : Only [g] w (w.setCell ⟨g, j, none⟩ u) := (Only.refl _ _).setCell (.inl (by simp)) _
  refine ⟨?_, ?_, ?_, h.ne, ?_, by rw [hw]; exact h.cap, h.apart, by rw [hw]; exact h.nil⟩
  · have := h.blk
    simp [World.setCell, Array.getElem?_modify, this]
    rw [← hc]
    simp [Array.set!_eq_setIfInBounds]
  · rw [hl]; exact h.lies.only ho (by simpa using h.ne1)
  · rw [hs]; exact h.seen.only ho (by simpa using h.ne2)
  · rw [hw]; exact h.waits.only ho (fun k hk => by simpa using h.apart k hk)
theorem DiskAt.waits_ne {α : Type} {enc : α → Value} {b : Nat} {l : List (ByteArray × α)} (h : DiskAt w g b1 b2 A c S) (hm : MapAt enc w b l) : ∀ k, A = some ⟨k, 0, none⟩ → k ≠ b := by
  rintro k rfl rfl
  cases hw : S.waits with
  | nil => exact absurd (h.nil hw).1 (by simp)
  | cons e ws =>
    obtain ⟨k', e1, _, hc⟩ := h.waits 0 (.int .i64 e.kind) (by rw [hw]; rfl)
    cases e1
    obtain ⟨_, _, _, hb, _⟩ := Go.Sort.cells_of_cell? hc
    exact hm.ne_cells hb rfl
/-- What lies there has turned. -/
theorem DiskAt.relies {L : Files} (h : DiskAt w g b1 b2 A c S) (ho : Only [b1] w w') (hm : MapAt Value.string w' b1 L) : DiskAt w' g b1 b2 A c { S with lies := L } :=
  ⟨(ho.block g h.lt (by simpa using h.ne1.symm)).trans h.blk, hm, h.seen.only ho (by simpa using h.ne.symm), h.ne, h.waits.only ho (fun k hk => by simpa using h.waits_ne h.lies k hk), h.cap, h.apart, h.nil⟩
theorem DiskAt.c0 (h : DiskAt w g b1 b2 A c S) : w.cell? ⟨g, 0, none⟩ = some (.int .i64 S.room) := by simp [World.cell?, h.blk, DiskS.cells]
theorem DiskAt.c1 (h : DiskAt w g b1 b2 A c S) : w.cell? ⟨g, 1, none⟩ = some (.map (some b1)) := by simp [World.cell?, h.blk, DiskS.cells]
theorem DiskAt.c2 (h : DiskAt w g b1 b2 A c S) : w.cell? ⟨g, 2, none⟩ = some (.map (some b2)) := by simp [World.cell?, h.blk, DiskS.cells]
theorem DiskAt.c3 (h : DiskAt w g b1 b2 A c S) : w.cell? ⟨g, 3, none⟩ = some (.slice A S.waits.length c) := by simp [World.cell?, h.blk, DiskS.cells]
theorem DiskAt.c4 (h : DiskAt w g b1 b2 A c S) : w.cell? ⟨g, 4, none⟩ = some (.bool S.down) := by simp [World.cell?, h.blk, DiskS.cells]
theorem DiskAt.c5 (h : DiskAt w g b1 b2 A c S) : w.cell? ⟨g, 5, none⟩ = some (.int .i64 S.left) := by simp [World.cell?, h.blk, DiskS.cells]
theorem DiskAt.c6 (h : DiskAt w g b1 b2 A c S) : w.cell? ⟨g, 6, none⟩ = some (.int .u64 S.keep) := by simp [World.cell?, h.blk, DiskS.cells]
theorem DiskAt.frozen (h : DiskAt w g b1 b2 A c S) (j : Nat) : w.frozen? ⟨g, j, none⟩ = false := by simp [World.frozen?, h.blk]
end
/-- Does the power fail at this call? -/
def DiskS.fails (S : DiskS) : Bool × DiskS := if S.left = 0 then (false, S) else (S.left - 1 == 0, { S with left := S.left - 1 })
def FailsPost (w : World) (g b1 b2 : Nat) (A : Option Addr) (c : Nat) (S : DiskS) (e : Ending) (w' : World) : Prop :=
  e = .returned (.bool S.fails.1) ∧ DiskAt w' g b1 b2 A c S.fails.2 ∧ Only [g] w w'
set_option maxHeartbeats 1000000 in
set_option maxRecDepth 100000 in
theorem fails_any (g b1 b2 : Nat) (A : Option Addr) (c : Nat) (S : DiskS) (w : World) (h : DiskAt w g b1 b2 A c S) (hl : 0 ≤ S.left) (hm : S.left ≤ 9223372036854775807) :
    Calls Try.prog 58 #[.pointer (some ⟨g, 0, none⟩)] w (FailsPost w g b1 b2 A c S) := by
  have hg := h.lt
  have c5 := h.c5
  have fz := h.frozen 5
  have H := hide h
  by_cases h0 : S.left = 0
  · have hf : S.fails = (false, S) := by simp [DiskS.fails, h0]
    clear h
    go_enter Try.func58, Try.ntmps58
    go_wp2
    go_ret
    unfold FailsPost
    rw [hf]
    exact ⟨rfl, H.out, Only.refl _ _⟩
  · have d0 : (S.left == 0) = false := by simpa using h0
    have hf : S.fails = (S.left - 1 == 0, { S with left := S.left - 1 }) := by simp [DiskS.fails, h0]
    have HF := hide hf
    have hD : DiskAt (w.setCell ⟨g, 5, none⟩ (.int .i64 (S.left - 1))) g b1 b2 A c { S with left := S.left - 1 } := h.set 5 _ (by simp [DiskS.cells])
    have HD := hide hD
    have hO : Only [g] w (w.setCell ⟨g, 5, none⟩ (.int .i64 (S.left - 1))) := (Only.refl _ _).setCell (.inl (by simp)) _
    clear h hf hD
    go_enter Try.func58, Try.ntmps58
    go_wp2
    go_ret
    unfold FailsPost
    rw [HF.out]
    exact ⟨rfl, HD.out, hO⟩
end Go.Proofs.Ytljkaafdajpmkaa
