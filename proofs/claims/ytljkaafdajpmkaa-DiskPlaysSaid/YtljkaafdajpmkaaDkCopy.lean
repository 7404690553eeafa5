/- The disk: Copy. -/
import Derived.Test.YtljkaafdajpmkaaDkClone
namespace Go.Proofs.Ytljkaafdajpmkaa
open Go.RowKit
set_option linter.unusedVariables false

def CopyPost (w : World) (S : DiskS) (e : Ending) (w' : World) : Prop :=
  ∃ g b1 b2 A c, e = .returned (.pointer (some ⟨g, 0, none⟩)) ∧ DiskAt w' g b1 b2 A c S ∧ Only [] w w' ∧ w.heap.size ≤ g ∧ w.heap.size ≤ b1 ∧ w.heap.size ≤ b2 ∧ ∀ k, A = some ⟨k, 0, none⟩ → w.heap.size ≤ k
theorem cell_far {W : World} {g bx j i : Nat} {u v : Value} (h : W.cell? ⟨g, i, none⟩ = some v) (hne : g ≠ bx) : (W.setCell ⟨bx, j, none⟩ u).cell? ⟨g, i, none⟩ = some v := by
  have hb : (W.setCell ⟨bx, j, none⟩ u).heap[g]? = W.heap[g]? := Below.heap_setCell _ _ _ _ (by simpa using hne)
  unfold World.cell? at h ⊢
  rw [hb]
  exact h
set_option maxHeartbeats 4000000 in
set_option maxRecDepth 100000 in
theorem copy_any (g b1 b2 : Nat) (A : Option Addr) (c : Nat) (S : DiskS) (w : World) (h : DiskAt w g b1 b2 A c S) (hn : S.waits.length ≤ 1000000) :
    Calls Try.prog 33 #[.pointer (some ⟨g, 0, none⟩)] w (CopyPost w S) := by
  have c0 := h.c0
  have c1 := h.c1
  have c2 := h.c2
  have c3 := h.c3
  have c4 := h.c4
  have c5 := h.c5
  have c6 := h.c6
  have hg := h.lt
  have H := hide h
  clear h
  go_enter Try.func33, Try.ntmps33
  go_upto_region 2 with fail
  have hoB : Only [] w (w.alloc (.cells #[.int .i64 S.room, .map (some b1), .map (some b2), .slice A S.waits.length c, .bool S.down, .int .i64 S.left, .int .u64 S.keep] 105)) := (Only.refl [] w).alloc _
  have hD := hide (H.out.only hoB (by simp) (by simp) (by simp) (by simp))
  have hbk := hide (heap_alloc_new w (.cells #[.int .i64 S.room, .map (some b1), .map (some b2), .slice A S.waits.length c, .bool S.down, .int .i64 S.left, .int .u64 S.keep] 105))
  have hsz : w.heap.size + 1 = (w.alloc (.cells #[.int .i64 S.room, .map (some b1), .map (some b2), .slice A S.waits.length c, .bool S.down, .int .i64 S.left, .int .u64 S.keep] 105)).heap.size := by simp
  have HSZ := hide hsz
  clear hsz c0 c1 c2 c3 c4 c5 c6
  generalize w.alloc (.cells #[.int .i64 S.room, .map (some b1), .map (some b2), .slice A S.waits.length c, .bool S.down, .int .i64 S.left, .int .u64 S.keep] 105) = wB at *
  obtain ⟨bx, hbx⟩ : ∃ bx, bx = w.heap.size := ⟨_, rfl⟩
  have HBX := hide hbx
  rw [← hbx] at hbk ⊢
  clear hbx
  have hltB : bx < wB.heap.size := by have := HSZ.out; have := HBX.out; omega
  have hneg : g ≠ bx := by have := HBX.out; omega
  have c1 := hD.out.c1
  have c2 := hD.out.c2
  have c3 := hD.out.c3
  go_region_held3 (fun W' => W'.cell? ⟨g, 1, none⟩ = some (.map (some b1)) ∧ W'.cell? ⟨g, 2, none⟩ = some (.map (some b2)) ∧ W'.cell? ⟨g, 3, none⟩ = some (.slice A S.waits.length c))
    (first
      | go_keep
      | exact ⟨hD5.out.c1, hD5.out.c2, hD5.out.c3⟩
      | exact ⟨hD4.out.c1, hD4.out.c2, hD4.out.c3⟩
      | exact ⟨hD3.out.c1, hD3.out.c2, hD3.out.c3⟩
      | exact ⟨cell_far hD5.out.c1 hneg, cell_far hD5.out.c2 hneg, cell_far hD5.out.c3 hneg⟩
      | exact ⟨cell_far (cell_far hD5.out.c1 hneg) hneg, cell_far (cell_far hD5.out.c2 hneg) hneg, cell_far (cell_far hD5.out.c3 hneg) hneg⟩
      | exact ⟨cell_far (cell_far (cell_far hD5.out.c1 hneg) hneg) hneg, cell_far (cell_far (cell_far hD5.out.c2 hneg) hneg) hneg, cell_far (cell_far (cell_far hD5.out.c3 hneg) hneg) hneg⟩)
    (first
      | (go_at_call 63; refine (clone_eff_any A c S.waits _ hD4.out.waits hn hD4.out.nil hD4.out.cap).mono ?_; rintro x w5 ⟨A5, c5', rfl, hc5, ha5, hf5, hn5, ho5⟩; have hD5 := hide (hD4.out.only ho5 (by simp) (by simp) (by simp) (by simp)); have hb5 := (ho5.block bx (by have := ho4.size; have := ho3.size; simp at *; omega) (by simp)).trans hb4.out; have e1 : w5.cell? ⟨bx, 1, none⟩ = some (.map (some b1)) := by simp [World.cell?, hb5]
         have e2 : w5.cell? ⟨bx, 2, none⟩ = some (.map (some b2)) := by simp [World.cell?, hb5]
         have e3 : w5.cell? ⟨bx, 3, none⟩ = some (.slice A S.waits.length c) := by simp [World.cell?, hb5]
         have f1 : w5.frozen? ⟨bx, 1, none⟩ = false := by simp [World.frozen?, hb5]
         have f2 : w5.frozen? ⟨bx, 2, none⟩ = false := by simp [World.frozen?, hb5]
         have f3 : w5.frozen? ⟨bx, 3, none⟩ = false := by simp [World.frozen?, hb5])
      | (go_at_call 60; refine (clone_any b2 S.seen _ hD3.out.seen).mono ?_; rintro x w4 ⟨rfl, hm4, ho4, hs4⟩; have hD4 := hide (hD3.out.only ho4 (by simp) (by simp) (by simp) (by simp)); have hb4 := hide ((ho4.block bx (by have := ho3.size; simp at *; omega) (by simp)).trans hb3.out))
      | (go_at_call 60; refine (clone_any b1 S.lies _ hD.out.lies.drew).mono ?_; rintro x w3 ⟨rfl, hm3, ho3, hs3⟩; have hD3 := hide (hD.out.only ((Only.refl [] wB).drew.trans ho3 (by simp)) (by simp) (by simp) (by simp) (by simp)); have hb3 := hide ((((Only.refl [] wB).drew.trans ho3 (by simp)).block bx hltB (by simp)).trans hbk.out)))
  go_wp2
  go_ret
  have z0 := HBX.out
  have z1 := HSZ.out
  have z3 := ho3.size
  have z4 := ho4.size
  have hO5 : Only [] w w5 := ((hoB.trans ((Only.refl [] wB).drew.trans ho3 (by simp)) (by simp)).trans ho4 (by simp)).trans ho5 (by simp)
  have hoS : Only [bx] w5 (((w5.setCell ⟨bx, 1, none⟩ (.map (some wB.heap.size))).setCell ⟨bx, 2, none⟩ (.map (some (wB.heap.size + 1)))).setCell ⟨bx, 3, none⟩ (.slice A5 S.waits.length c5')) :=
    (((Only.refl [bx] w5).setCell (.inl (by simp)) _).setCell (.inl (by simp)) _).setCell (.inl (by simp)) _
  have n3 : wB.heap.size < w3.heap.size := by rw [hs3]; simp
  have n4 : w3.heap.size < w4.heap.size := by omega
  have n5 := ho5.size
  have e3 : w3.heap.size = wB.heap.size + 1 := hs3
  refine ⟨bx, wB.heap.size, w3.heap.size, A5, c5', rfl, ?_, ?_, by omega, by omega, by omega, fun k hk => by have := hf5 k hk; omega⟩
  · rw [e3]
    refine ⟨?_, ?_, ?_, by omega, ?_, hc5, fun k hk e => ?_, hn5⟩
    · simp [World.setCell, Array.getElem?_modify, hb5, DiskS.cells]
    · exact ((hm3.only ho4 (by simp)).only ho5 (by simp)).only hoS (by simp; show wB.heap.size ≠ bx; omega)
    · have := (hm4.only ho5 (by simp)).only hoS (by simp; omega)
      rw [e3] at this
      exact this
    · exact ha5.only hoS (fun k hk => by have := hf5 k hk; simp; omega)
    · have := hf5 k hk
      omega
  · refine hO5.trans hoS (fun t ht hl => ?_)
    simp at ht
    omega
end Go.Proofs.Ytljkaafdajpmkaa
