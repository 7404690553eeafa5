/- The disk: an effect waits, if there is room for it. -/
import Derived.Test.YtljkaafdajpmkaaDkFail
import Derived.Deep.RegionLawGrows
import Derived.Deep.AppendLies
import Derived.Deep.RegionWith
namespace Go.Proofs.Ytljkaafdajpmkaa
open Go.RowKit
set_option linter.unusedVariables false

theorem step_len_map {α : Type} {enc : α → Value} {P : Program} {kt et : TypeId} {ops : Array Oper} {o : Oper} {a : Go.Act} {w : World} {b : Nat} {l : List (ByteArray × α)} {K : Go.Act → World → Prop} {Q : Exit → Go.Act → World → Prop} {E : Prop}
    (m : Operand) (t : TypeId) (hop : o.op = Op.call { callee := Callee.builtin Builtin.len, args := #[m], argTypes := #[t] })
    (ht : P.underlying t = some (.map kt et)) (h : MapAt enc w b l) (hm : a.eval m = .map (some b)) (hwt : Region.wanted o (yielded ops a.tmps) = true) (hK : K (a.put o.dst (.int .i64 l.length)) w) : if Region.wanted o (yielded ops a.tmps) = true then Oper.wp P o a w K Q else E := by
  rw [if_pos hwt]
  unfold Oper.wp
  simp [execOp, hop, resolve, invoke, builtin, hm, h.len ht o.type, Result.andThen]
  exact hK

/-- What Clip gives. -/
theorem clip_any (A : Option Addr) (n c : Nat) (w : World) (hc : n ≤ c) (hA : A = none → n = 0 ∧ c = 0) :
    Calls Try.prog 97 #[.slice A n c] w fun e w' => e = .returned (.slice A n n) ∧ w' = w := by
  have hc' : (n : Int) ≤ c := by omega
  cases A with
  | none =>
    obtain ⟨rfl, rfl⟩ := hA rfl
    go_enter Try.func97, Try.ntmps97
    go_wp2
    go_ret
    exact ⟨rfl, rfl⟩
  | some p =>
    clear hA
    go_enter Try.func97, Try.ntmps97
    go_wp2
    go_ret
    exact ⟨rfl, rfl⟩

/-- Is it more than there is room for? -/
def DiskS.full (S : DiskS) (e : Eff) : Bool := !(e.kind == 2) && (decide (4096 < (effDo S.seen e).length) || decide (S.room < tookOf (effDo S.seen e)))
def DiskS.waitTo (S : DiskS) (e : Eff) : DiskS := { S with seen := effDo S.seen e, waits := S.waits ++ [e] }
def DiskS.wait (S : DiskS) (e : Eff) : Int × DiskS :=
  if S.full e then (7, S) else
  if (S.waitTo e).fails.1 then (8, (S.waitTo e).fails.2.failed) else (0, (S.waitTo e).fails.2)
def DiskPost (w : World) (g b1 b2 : Nat) (A : Option Addr) (S' : DiskS) (w' : World) : Prop :=
  ∃ b1' b2' A' c', DiskAt w' g b1' b2' A' c' S' ∧ Only [g, b1] w w' ∧ (b1' = b1 ∨ w.heap.size ≤ b1') ∧ (b2' = b2 ∨ w.heap.size ≤ b2') ∧ (∀ k, A' = some ⟨k, 0, none⟩ → A = some ⟨k, 0, none⟩ ∨ w.heap.size ≤ k)
def WaitPost (w : World) (g b1 b2 : Nat) (A : Option Addr) (S : DiskS) (f : Eff) (e : Ending) (w' : World) : Prop :=
  e = .returned (.int .i64 (S.wait f).1) ∧ DiskPost w g b1 b2 A (S.wait f).2 w'

theorem fails_same (S : DiskS) : S.fails.2.keep = S.keep ∧ S.fails.2.waits = S.waits := by
  unfold DiskS.fails
  split <;> exact ⟨rfl, rfl⟩
theorem infoEff : (Try.prog.info? 116).map (fun i => (i.zero, i.size, i.bytes)) = some (some (.agg #[.int .i64 0, .string ⟨#[]⟩, .string ⟨#[]⟩]), 3, 40) := by kernel_rfl
theorem effCells_len (l : List Eff) : (effCells l).length = l.length * 3 := by
  induction l with
  | nil => rfl
  | cons e l ih => simp [effCells, Eff.cells] at ih ⊢; omega
theorem effCells_snoc (l : List Eff) (e : Eff) : effCells (l ++ [e]) = effCells l ++ e.cells := by simp [effCells]
/-- The effect stands behind the others. -/
structure WaitSt (w0 W : World) (g b1 b2 : Nat) (A : Option Addr) (c : Nat) (S : DiskS) (f : Eff) : Prop where
  st : ∃ A' c', DiskAt W g b1 b2 A' c' (S.waitTo f) ∧ ∀ k, A' = some ⟨k, 0, none⟩ → w0.heap.size ≤ k
  only : Only [g] w0 W
theorem DiskAt.reseen {w : World} {g b1 b2 : Nat} {A : Option Addr} {c : Nat} {S : DiskS} (h : DiskAt w g b1 b2 A c S) {b : Nat} {l : Files} (hm : MapAt Value.string w b l) (hne : b1 ≠ b := by assumption) : DiskAt (w.setCell ⟨g, 2, none⟩ (.map (some b))) g b1 b A c { S with seen := l } := by
  have ho : Only [g] w (w.setCell ⟨g, 2, none⟩ (.map (some b))) := (Only.refl [g] w).setCell (.inl (by simp)) _
  refine ⟨?_, h.lies.only ho (by simpa using h.ne1), hm.only ho (by simpa using hm.ne_cells h.blk), hne, h.waits.only ho (fun k hk => by simpa using h.apart k hk), h.cap, h.apart, h.nil⟩
  have := h.blk
  simp [World.setCell, Array.getElem?_modify, this, DiskS.cells]
theorem DiskAt.rewaits {w : World} {g b1 b2 : Nat} {A A' : Option Addr} {c c' : Nat} {S : DiskS} {l : List Eff} {n : Nat} (h : DiskAt w g b1 b2 A c S) (hln : l.length = n) (ha : ArgAt w A' (effCells l)) (hc : n ≤ c') (hA : ∀ k, A' = some ⟨k, 0, none⟩ → k ≠ g) (hnil : l ≠ []) :
    DiskAt (w.setCell ⟨g, 3, none⟩ (.slice A' n c')) g b1 b2 A' c' { S with waits := l } := by
  subst hln
  have ho : Only [g] w (w.setCell ⟨g, 3, none⟩ (.slice A' l.length c')) := (Only.refl [g] w).setCell (.inl (by simp)) _
  refine ⟨?_, h.lies.only ho (by simpa using h.ne1), h.seen.only ho (by simpa using h.ne2), h.ne, ha.only ho (fun k hk => by simpa using hA k hk), hc, hA, fun e => absurd e hnil⟩
  have := h.blk
  simp [World.setCell, Array.getElem?_modify, this, DiskS.cells]
structure WaitIn (w W : World) (g b1 b2 bn bx : Nat) (A : Option Addr) (c : Nat) (S : DiskS) (f : Eff) : Prop where
  at_ : DiskAt W g b1 b2 A c S
  next : MapAt Value.string W bn (effDo S.seen f)
  only : Only [] w W
  fresh : w.heap.size ≤ bn ∧ w.heap.size ≤ bx
  blk : W.heap[bx]? = some (.cells #[.int .i64 f.kind, .string f.path, .string f.text] 116 (0, 0))
section
variable {w W W' : World} {g b1 b2 bn bx : Nat} {A : Option Addr} {c : Nat} {S : DiskS} {f : Eff}
theorem WaitIn.lt (h : WaitIn w W g b1 b2 bn bx A c S f) : bx < W.heap.size := (Array.getElem?_eq_some_iff.1 h.blk).1
theorem WaitIn.cells (h : WaitIn w W g b1 b2 bn bx A c S f) : W.cell? ⟨bx, 0, none⟩ = some (.int .i64 f.kind) ∧ W.cell? ⟨bx, 1, none⟩ = some (.string f.path) ∧ W.cell? ⟨bx, 2, none⟩ = some (.string f.text) := by simp [World.cell?, h.blk]
theorem WaitIn.quiet (h : WaitIn w W g b1 b2 bn bx A c S f) (ho : Only [] W W') : WaitIn w W' g b1 b2 bn bx A c S f :=
  ⟨h.at_.only ho (by simp) (by simp) (by simp) (by simp), h.next.only ho (by simp), h.only.trans ho (by simp), h.fresh, (ho.block bx h.lt (by simp)).trans h.blk⟩
end

set_option maxHeartbeats 4000000 in
set_option maxRecDepth 100000 in
theorem wait_any (g b1 b2 : Nat) (A : Option Addr) (c : Nat) (S : DiskS) (f : Eff) (w : World) (h : DiskAt w g b1 b2 A c S) (hl : 0 ≤ S.left) (hl2 : S.left ≤ 9223372036854775807) (hk : 0 ≤ S.keep) (hk2 : S.keep < 18446744073709551616) (hn : S.waits.length < 1000000)
    (ht : tookOf (effDo S.seen f) ≤ 4611686018427387904) :
    Calls Try.prog 83 #[.pointer (some ⟨g, 0, none⟩), .agg #[.int .i64 f.kind, .string f.path, .string f.text]] w (WaitPost w g b1 b2 A S f) := by
  have hg := h.lt
  have H := hide h
  have hB : DiskAt (w.alloc (.cells #[.int .i64 f.kind, .string f.path, .string f.text] 116)) g b1 b2 A c S := h.only ((Only.refl [] w).alloc _) (by simp) (by simp) (by simp) (by simp)
  have c2 := hB.c2
  have hclone := hide (clone_any b2 S.seen _ hB.seen)
  have hblk := hide (heap_alloc_new w (.cells #[.int .i64 f.kind, .string f.path, .string f.text] 116))
  have HB := hide hB
  have hoB : Only [] w (w.alloc (.cells #[.int .i64 f.kind, .string f.path, .string f.text] 116)) := (Only.refl [] w).alloc _
  have hsB : (w.alloc (.cells #[.int .i64 f.kind, .string f.path, .string f.text] 116)).heap.size = w.heap.size + 1 := by simp
  have HSB := hide hsB
  clear h hB hsB
  go_enter Try.func83, Try.ntmps83
  go_upto_region 1 with fail
  generalize w.alloc (.cells #[.int .i64 f.kind, .string f.path, .string f.text] 116) = wB at *
  go_upto_region 2 with (go_at_call 60; refine hclone.out.mono ?_; rintro x w1 ⟨rfl, hm1, ho1, hs1⟩)
  have HS1 := hide hs1
  clear hs1
  have hb1 := (ho1.block w.heap.size (by have := HSB.out; omega) (by simp)).trans hblk.out
  have k0 : w1.cell? ⟨w.heap.size, 0, none⟩ = some (.int .i64 f.kind) := by simp [World.cell?, hb1]
  have k1 : w1.cell? ⟨w.heap.size, 1, none⟩ = some (.string f.path) := by simp [World.cell?, hb1]
  have k2 : w1.cell? ⟨w.heap.size, 2, none⟩ = some (.string f.text) := by simp [World.cell?, hb1]
  have hdo := hide (do_any wB.heap.size S.seen f w1 hm1)
  go_upto_region 3 with (go_at_call 86; refine hdo.out.mono ?_; rintro x w2 ⟨rfl, hm2, ho2⟩)
  have hW : WaitIn w w2 g b1 b2 wB.heap.size w.heap.size A c S f := by
    have hD1 := HB.out.only ho1 (by simp) (by simp) (by simp) (by simp)
    have l1 := HB.out.lt
    have hsB := HSB.out
    have hs1 := HS1.out
    have l2 := HB.out.lies.lt
    have l3 := HB.out.seen.lt
    have hwA := hD1.waits_ne hm1
    exact ⟨hD1.only ho2 (by simp; omega) (by simp; omega) (by simp; omega) (fun k hk => by simpa using hwA k hk), hm2, (hoB.trans ho1 (by simp)).trans ho2 (fun t ht hl => by simp at ht; omega), ⟨by omega, Nat.le_refl _⟩,
      (ho2.block _ (by have := ho1.size; omega) (by simp; omega)).trans hb1⟩
  have HW := hide hW
  clear hW hm1 hm2 ho1 ho2 HS1 k0 k1 k2 hdo hclone c2 hb1 hblk HB hoB
  generalize wB.heap.size = bn at *
  generalize hbx : w.heap.size = bx at HW ⊢
  have HBX := hide hbx
  clear hbx HSB
  obtain ⟨k0, k1, k2⟩ := HW.out.cells
  have c0 := HW.out.at_.c0
  have hg2 := HW.out.at_.lt
  go_cut [30] (fun v30 W => v30 = .bool (S.full f) ∧ WaitIn w W g b1 b2 bn bx A c S f)
  case first =>
    by_cases hk2' : f.kind = 2
    · have hfull : S.full f = false := by simp [DiskS.full, hk2']
      have HFu := hide hfull
      have hd : (f.kind == 2) = true := by simpa using hk2'
      rw [hk2'] at k0
      clear hfull hk2'
      refine wp_region_any (by kernel_rfl) ?_
      change wpAny _ _ _ _ _ _ _ (World.drew _)
      refine wpAny_take (i := 0) (v := ?va0) rfl (by kernel_rfl) (by kernel_rfl) (by kernel_rfl) (fun _ _ _ h => h) (Or.inl ⟨by kernel_rfl, ?hya0⟩) ?resta0
      case hya0 => (intro w; go_simp; try (with_reducible rfl))
      simp only [Act.put, List.setIfInBounds_toArray, List.set_cons_zero, List.set_cons_succ, List.getElem_toArray, List.getElem_cons_zero]
      refine wpAny_ready (rs := [1]) (by kernel_rfl) (by simp) ?_
      refine AllReady.cons rfl (fun K hK => ?_) AllReady.nil
      go_simp
      refine hK _ _ ?_
      clear hK K
      refine wpAny_take (i := 2) (v := ?va2) rfl (by kernel_rfl) (by kernel_rfl) (by kernel_rfl) (fun _ _ _ h => h) (Or.inl ⟨by kernel_rfl, ?hya2⟩) ?resta2
      case hya2 => (intro w; go_simp; try (with_reducible rfl))
      simp only [Act.put, List.setIfInBounds_toArray, List.set_cons_zero, List.set_cons_succ, List.getElem_toArray, List.getElem_cons_succ, List.getElem_cons_zero]
      refine wpAny_take (i := 3) (v := ?va3) rfl (by kernel_rfl) (by kernel_rfl) (by kernel_rfl) (fun _ _ _ h => h) (Or.inl ⟨by kernel_rfl, ?hya3⟩) ?resta3
      case hya3 => (intro w; go_simp; try (with_reducible rfl))
      simp only [Act.put, List.setIfInBounds_toArray, List.set_cons_zero, List.set_cons_succ, List.getElem_toArray, List.getElem_cons_succ, List.getElem_cons_zero]
      refine wpAny_take (i := 4) (v := undef) rfl (by kernel_rfl) (by kernel_rfl) (by kernel_rfl) (fun _ _ _ h => h) (Or.inr ⟨by kernel_rfl, rfl⟩) ?_
      simp only [Act.put, List.setIfInBounds_toArray, List.set_cons_zero, List.set_cons_succ, List.getElem_toArray, List.getElem_cons_succ, List.getElem_cons_zero]
      refine wpAny_take (i := 5) (v := undef) rfl (by kernel_rfl) (by kernel_rfl) (by kernel_rfl) (fun _ _ _ h => h) (Or.inr ⟨by kernel_rfl, rfl⟩) ?_
      simp only [Act.put, List.setIfInBounds_toArray, List.set_cons_zero, List.set_cons_succ, List.getElem_toArray, List.getElem_cons_succ, List.getElem_cons_zero]
      refine wpAny_take (i := 6) (v := undef) rfl (by kernel_rfl) (by kernel_rfl) (by kernel_rfl) (fun _ _ _ h => h) (Or.inr ⟨by kernel_rfl, rfl⟩) ?_
      simp only [Act.put, List.setIfInBounds_toArray, List.set_cons_zero, List.set_cons_succ, List.getElem_toArray, List.getElem_cons_succ, List.getElem_cons_zero]
      refine wpAny_take (i := 7) (v := undef) rfl (by kernel_rfl) (by kernel_rfl) (by kernel_rfl) (fun _ _ _ h => h) (Or.inr ⟨by kernel_rfl, rfl⟩) ?_
      simp only [Act.put, List.setIfInBounds_toArray, List.set_cons_zero, List.set_cons_succ, List.getElem_toArray, List.getElem_cons_succ, List.getElem_cons_zero]
      refine wpAny_take (i := 8) (v := undef) rfl (by kernel_rfl) (by kernel_rfl) (by kernel_rfl) (fun _ _ _ h => h) (Or.inr ⟨by kernel_rfl, rfl⟩) ?_
      simp only [Act.put, List.setIfInBounds_toArray, List.set_cons_zero, List.set_cons_succ, List.getElem_toArray, List.getElem_cons_succ, List.getElem_cons_zero]
      refine wpAny_take (i := 9) (v := undef) rfl (by kernel_rfl) (by kernel_rfl) (by kernel_rfl) (fun _ _ _ h => h) (Or.inr ⟨by kernel_rfl, rfl⟩) ?_
      simp only [Act.put, List.setIfInBounds_toArray, List.set_cons_zero, List.set_cons_succ, List.getElem_toArray, List.getElem_cons_succ, List.getElem_cons_zero]
      refine wpAny_take (i := 10) (v := undef) rfl (by kernel_rfl) (by kernel_rfl) (by kernel_rfl) (fun _ _ _ h => h) (Or.inr ⟨by kernel_rfl, rfl⟩) ?_
      simp only [Act.put, List.setIfInBounds_toArray, List.set_cons_zero, List.set_cons_succ, List.getElem_toArray, List.getElem_cons_succ, List.getElem_cons_zero]
      refine wpAny_take (i := 11) (v := undef) rfl (by kernel_rfl) (by kernel_rfl) (by kernel_rfl) (fun _ _ _ h => h) (Or.inr ⟨by kernel_rfl, rfl⟩) ?_
      simp only [Act.put, List.setIfInBounds_toArray, List.set_cons_zero, List.set_cons_succ, List.getElem_toArray, List.getElem_cons_succ, List.getElem_cons_zero]
      refine wpAny_take (i := 12) (v := undef) rfl (by kernel_rfl) (by kernel_rfl) (by kernel_rfl) (fun _ _ _ h => h) (Or.inr ⟨by kernel_rfl, rfl⟩) ?_
      simp only [Act.put, List.setIfInBounds_toArray, List.set_cons_zero, List.set_cons_succ, List.getElem_toArray, List.getElem_cons_succ, List.getElem_cons_zero]
      refine wpAny_take (i := 13) (v := undef) rfl (by kernel_rfl) (by kernel_rfl) (by kernel_rfl) (fun _ _ _ h => h) (Or.inr ⟨by kernel_rfl, rfl⟩) ?_
      simp only [Act.put, List.setIfInBounds_toArray, List.set_cons_zero, List.set_cons_succ, List.getElem_toArray, List.getElem_cons_succ, List.getElem_cons_zero]
      refine wpAny_take (i := 14) (v := undef) rfl (by kernel_rfl) (by kernel_rfl) (by kernel_rfl) (fun _ _ _ h => h) (Or.inr ⟨by kernel_rfl, rfl⟩) ?_
      simp only [Act.put, List.setIfInBounds_toArray, List.set_cons_zero, List.set_cons_succ, List.getElem_toArray, List.getElem_cons_succ, List.getElem_cons_zero]
      refine wpAny_take (i := 15) (v := undef) rfl (by kernel_rfl) (by kernel_rfl) (by kernel_rfl) (fun _ _ _ h => h) (Or.inr ⟨by kernel_rfl, rfl⟩) ?_
      simp only [Act.put, List.setIfInBounds_toArray, List.set_cons_zero, List.set_cons_succ, List.getElem_toArray, List.getElem_cons_succ, List.getElem_cons_zero]
      refine wpAny_take (i := 16) (v := ?va16) rfl (by kernel_rfl) (by kernel_rfl) (by kernel_rfl) (fun _ _ _ h => h) (Or.inl ⟨by kernel_rfl, ?hya16⟩) ?resta16
      case hya16 => (intro w; go_simp; try (with_reducible rfl))
      simp only [Act.put, List.setIfInBounds_toArray, List.set_cons_zero, List.set_cons_succ, List.getElem_toArray, List.getElem_cons_succ, List.getElem_cons_zero]
      refine wpAny_done (by kernel_rfl) ?_ _
      go_wp2
      go_meet
      exact ⟨by rw [HFu.out], HW.out.quiet (Only.refl [] w2).drew⟩
    · have hd : (f.kind == 2) = false := by simpa using hk2'
      have hdn : (f.kind != 2) = true := by simp [bne, hd]
      by_cases h4 : (4096 : Int) < (effDo S.seen f).length
      · have hfull : S.full f = true := by
          simp only [DiskS.full, hd, Bool.not_false, Bool.true_and, Bool.or_eq_true, decide_eq_true_eq]
          omega
        have HFu := hide hfull
        have hmap := hide (HW.out.next.drew)
        clear hfull hk2'
        refine wp_region_any (by kernel_rfl) ?_
        change wpAny _ _ _ _ _ _ _ (World.drew _)
        refine wpAny_take (i := 0) (v := ?vb0) rfl (by kernel_rfl) (by kernel_rfl) (by kernel_rfl) (fun _ _ _ h => h) (Or.inl ⟨by kernel_rfl, ?hyb0⟩) ?restb0
        case hyb0 => (intro w; go_simp; try (with_reducible rfl))
        simp only [Act.put, List.setIfInBounds_toArray, List.set_cons_zero, List.set_cons_succ, List.getElem_toArray, List.getElem_cons_zero]
        refine wpAny_ready (rs := [1]) (by kernel_rfl) (by simp) ?_
        refine AllReady.cons rfl (fun K hK => ?_) AllReady.nil
        go_simp
        refine hK _ _ ?_
        clear hK K
        refine wpAny_take (i := 2) (v := ?vb2) rfl (by kernel_rfl) (by kernel_rfl) (by kernel_rfl) (fun _ _ _ h => h) (Or.inl ⟨by kernel_rfl, ?hyb2⟩) ?restb2
        case hyb2 => (intro w; go_simp; try (with_reducible rfl))
        simp only [Act.put, List.setIfInBounds_toArray, List.set_cons_zero, List.set_cons_succ, List.getElem_toArray, List.getElem_cons_succ, List.getElem_cons_zero]
        refine wpAny_take (i := 3) (v := ?vb3) rfl (by kernel_rfl) (by kernel_rfl) (by kernel_rfl) (fun _ _ _ h => h) (Or.inl ⟨by kernel_rfl, ?hyb3⟩) ?restb3
        case hyb3 => (intro w; go_simp; try (with_reducible rfl))
        simp only [Act.put, List.setIfInBounds_toArray, List.set_cons_zero, List.set_cons_succ, List.getElem_toArray, List.getElem_cons_succ, List.getElem_cons_zero]
        refine wpAny_take (i := 4) (v := ?vb4) rfl (by kernel_rfl) (by kernel_rfl) (by kernel_rfl) (fun _ _ _ h => h) (Or.inl ⟨by kernel_rfl, ?hyb4⟩) ?restb4
        case hyb4 => (intro w; go_simp; try (with_reducible rfl))
        simp only [Act.put, List.setIfInBounds_toArray, List.set_cons_zero, List.set_cons_succ, List.getElem_toArray, List.getElem_cons_succ, List.getElem_cons_zero]
        refine wpAny_ready (rs := [5]) (by kernel_rfl) (by simp) ?_
        refine AllReady.cons rfl (fun K hK => ?_) AllReady.nil
        refine step_len_map _ 102 rfl Try.underlying102 hmap.out rfl (by kernel_rfl) ?_
        refine hK _ _ ?_
        clear hK K
        simp only [Act.put, List.setIfInBounds_toArray, List.set_cons_zero, List.set_cons_succ, List.getElem_toArray, List.getElem_cons_succ, List.getElem_cons_zero]
        refine wpAny_take (i := 6) (v := ?vb6) rfl (by kernel_rfl) (by kernel_rfl) (by kernel_rfl) (fun _ _ _ h => h) (Or.inl ⟨by kernel_rfl, ?hyb6⟩) ?restb6
        case hyb6 => (intro w; go_simp; try (with_reducible rfl))
        simp only [Act.put, List.setIfInBounds_toArray, List.set_cons_zero, List.set_cons_succ, List.getElem_toArray, List.getElem_cons_succ, List.getElem_cons_zero]
        refine wpAny_take (i := 7) (v := ?vb7) rfl (by kernel_rfl) (by kernel_rfl) (by kernel_rfl) (fun _ _ _ h => h) (Or.inl ⟨by kernel_rfl, ?hyb7⟩) ?restb7
        case hyb7 => (intro w; go_simp; try (with_reducible rfl))
        simp only [Act.put, List.setIfInBounds_toArray, List.set_cons_zero, List.set_cons_succ, List.getElem_toArray, List.getElem_cons_succ, List.getElem_cons_zero]
        refine wpAny_take (i := 8) (v := undef) rfl (by kernel_rfl) (by kernel_rfl) (by kernel_rfl) (fun _ _ _ h => h) (Or.inr ⟨by kernel_rfl, rfl⟩) ?_
        simp only [Act.put, List.setIfInBounds_toArray, List.set_cons_zero, List.set_cons_succ, List.getElem_toArray, List.getElem_cons_succ, List.getElem_cons_zero]
        refine wpAny_take (i := 9) (v := undef) rfl (by kernel_rfl) (by kernel_rfl) (by kernel_rfl) (fun _ _ _ h => h) (Or.inr ⟨by kernel_rfl, rfl⟩) ?_
        simp only [Act.put, List.setIfInBounds_toArray, List.set_cons_zero, List.set_cons_succ, List.getElem_toArray, List.getElem_cons_succ, List.getElem_cons_zero]
        refine wpAny_take (i := 10) (v := undef) rfl (by kernel_rfl) (by kernel_rfl) (by kernel_rfl) (fun _ _ _ h => h) (Or.inr ⟨by kernel_rfl, rfl⟩) ?_
        simp only [Act.put, List.setIfInBounds_toArray, List.set_cons_zero, List.set_cons_succ, List.getElem_toArray, List.getElem_cons_succ, List.getElem_cons_zero]
        refine wpAny_take (i := 11) (v := undef) rfl (by kernel_rfl) (by kernel_rfl) (by kernel_rfl) (fun _ _ _ h => h) (Or.inr ⟨by kernel_rfl, rfl⟩) ?_
        simp only [Act.put, List.setIfInBounds_toArray, List.set_cons_zero, List.set_cons_succ, List.getElem_toArray, List.getElem_cons_succ, List.getElem_cons_zero]
        refine wpAny_take (i := 12) (v := undef) rfl (by kernel_rfl) (by kernel_rfl) (by kernel_rfl) (fun _ _ _ h => h) (Or.inr ⟨by kernel_rfl, rfl⟩) ?_
        simp only [Act.put, List.setIfInBounds_toArray, List.set_cons_zero, List.set_cons_succ, List.getElem_toArray, List.getElem_cons_succ, List.getElem_cons_zero]
        refine wpAny_take (i := 13) (v := undef) rfl (by kernel_rfl) (by kernel_rfl) (by kernel_rfl) (fun _ _ _ h => h) (Or.inr ⟨by kernel_rfl, rfl⟩) ?_
        simp only [Act.put, List.setIfInBounds_toArray, List.set_cons_zero, List.set_cons_succ, List.getElem_toArray, List.getElem_cons_succ, List.getElem_cons_zero]
        refine wpAny_take (i := 14) (v := undef) rfl (by kernel_rfl) (by kernel_rfl) (by kernel_rfl) (fun _ _ _ h => h) (Or.inr ⟨by kernel_rfl, rfl⟩) ?_
        simp only [Act.put, List.setIfInBounds_toArray, List.set_cons_zero, List.set_cons_succ, List.getElem_toArray, List.getElem_cons_succ, List.getElem_cons_zero]
        refine wpAny_take (i := 15) (v := ?vb15) rfl (by kernel_rfl) (by kernel_rfl) (by kernel_rfl) (fun _ _ _ h => h) (Or.inl ⟨by kernel_rfl, ?hyb15⟩) ?restb15
        case hyb15 => (intro w; go_simp; try (with_reducible rfl))
        simp only [Act.put, List.setIfInBounds_toArray, List.set_cons_zero, List.set_cons_succ, List.getElem_toArray, List.getElem_cons_succ, List.getElem_cons_zero]
        refine wpAny_take (i := 16) (v := ?vb16) rfl (by kernel_rfl) (by kernel_rfl) (by kernel_rfl) (fun _ _ _ h => h) (Or.inl ⟨by kernel_rfl, ?hyb16⟩) ?restb16
        case hyb16 => (intro w; go_simp; try (with_reducible rfl))
        simp only [Act.put, List.setIfInBounds_toArray, List.set_cons_zero, List.set_cons_succ, List.getElem_toArray, List.getElem_cons_succ, List.getElem_cons_zero]
        refine wpAny_done (by kernel_rfl) ?_ _
        go_wp2
        go_meet
        exact ⟨by rw [HFu.out], HW.out.quiet (Only.refl [] w2).drew⟩
      · have h4' : decide ((4096 : Int) < (effDo S.seen f).length) = false := by simpa using h4
        have hfull : S.full f = decide (S.room < tookOf (effDo S.seen f)) := by
          have : ¬ (4096 < (effDo S.seen f).length) := by omega
          simp [DiskS.full, hd, this]
        have HFu := hide hfull
        have hmap := hide (HW.out.next.drew)
        have htk := hide (taken_any bn (effDo S.seen f) w2.drew HW.out.next.drew ht)
        clear hfull hk2'
        refine wp_region_any (by kernel_rfl) ?_
        change wpAny _ _ _ _ _ _ _ (World.drew _)
        refine wpAny_take (i := 0) (v := ?vc0) rfl (by kernel_rfl) (by kernel_rfl) (by kernel_rfl) (fun _ _ _ h => h) (Or.inl ⟨by kernel_rfl, ?hyc0⟩) ?restc0
        case hyc0 => (intro w; go_simp; try (with_reducible rfl))
        simp only [Act.put, List.setIfInBounds_toArray, List.set_cons_zero, List.set_cons_succ, List.getElem_toArray, List.getElem_cons_zero]
        refine wpAny_ready (rs := [1]) (by kernel_rfl) (by simp) ?_
        refine AllReady.cons rfl (fun K hK => ?_) AllReady.nil
        go_simp
        refine hK _ _ ?_
        clear hK K
        refine wpAny_take (i := 2) (v := ?vc2) rfl (by kernel_rfl) (by kernel_rfl) (by kernel_rfl) (fun _ _ _ h => h) (Or.inl ⟨by kernel_rfl, ?hyc2⟩) ?restc2
        case hyc2 => (intro w; go_simp; try (with_reducible rfl))
        simp only [Act.put, List.setIfInBounds_toArray, List.set_cons_zero, List.set_cons_succ, List.getElem_toArray, List.getElem_cons_succ, List.getElem_cons_zero]
        refine wpAny_take (i := 3) (v := ?vc3) rfl (by kernel_rfl) (by kernel_rfl) (by kernel_rfl) (fun _ _ _ h => h) (Or.inl ⟨by kernel_rfl, ?hyc3⟩) ?restc3
        case hyc3 => (intro w; go_simp; try (with_reducible rfl))
        simp only [Act.put, List.setIfInBounds_toArray, List.set_cons_zero, List.set_cons_succ, List.getElem_toArray, List.getElem_cons_succ, List.getElem_cons_zero]
        refine wpAny_take (i := 4) (v := ?vc4) rfl (by kernel_rfl) (by kernel_rfl) (by kernel_rfl) (fun _ _ _ h => h) (Or.inl ⟨by kernel_rfl, ?hyc4⟩) ?restc4
        case hyc4 => (intro w; go_simp; try (with_reducible rfl))
        simp only [Act.put, List.setIfInBounds_toArray, List.set_cons_zero, List.set_cons_succ, List.getElem_toArray, List.getElem_cons_succ, List.getElem_cons_zero]
        refine wpAny_ready (rs := [5]) (by kernel_rfl) (by simp) ?_
        refine AllReady.cons rfl (fun K hK => ?_) AllReady.nil
        refine step_len_map _ 102 rfl Try.underlying102 hmap.out rfl (by kernel_rfl) ?_
        refine hK _ _ ?_
        clear hK K
        simp only [Act.put, List.setIfInBounds_toArray, List.set_cons_zero, List.set_cons_succ, List.getElem_toArray, List.getElem_cons_succ, List.getElem_cons_zero]
        refine wpAny_take (i := 6) (v := ?vc6) rfl (by kernel_rfl) (by kernel_rfl) (by kernel_rfl) (fun _ _ _ h => h) (Or.inl ⟨by kernel_rfl, ?hyc6⟩) ?restc6
        case hyc6 => (intro w; go_simp; try (with_reducible rfl))
        simp only [Act.put, List.setIfInBounds_toArray, List.set_cons_zero, List.set_cons_succ, List.getElem_toArray, List.getElem_cons_succ, List.getElem_cons_zero]
        refine wpAny_take (i := 7) (v := ?vc7) rfl (by kernel_rfl) (by kernel_rfl) (by kernel_rfl) (fun _ _ _ h => h) (Or.inl ⟨by kernel_rfl, ?hyc7⟩) ?restc7
        case hyc7 => (intro w; go_simp; try (with_reducible rfl))
        simp only [Act.put, List.setIfInBounds_toArray, List.set_cons_zero, List.set_cons_succ, List.getElem_toArray, List.getElem_cons_succ, List.getElem_cons_zero]
        refine wpAny_take (i := 8) (v := ?vc8) rfl (by kernel_rfl) (by kernel_rfl) (by kernel_rfl) (fun _ _ _ h => h) (Or.inl ⟨by kernel_rfl, ?hyc8⟩) ?restc8
        case hyc8 => (intro w; go_simp; try (with_reducible rfl))
        simp only [Act.put, List.setIfInBounds_toArray, List.set_cons_zero, List.set_cons_succ, List.getElem_toArray, List.getElem_cons_succ, List.getElem_cons_zero]
        refine wpAny_take (i := 10) (v := ?vc10) rfl (by kernel_rfl) (by kernel_rfl) (by kernel_rfl) (fun _ _ _ h => h) (Or.inl ⟨by kernel_rfl, ?hyc10⟩) ?restc10
        case hyc10 => (intro w; go_simp; try (with_reducible rfl))
        simp only [Act.put, List.setIfInBounds_toArray, List.set_cons_zero, List.set_cons_succ, List.getElem_toArray, List.getElem_cons_succ, List.getElem_cons_zero]
        refine wpAny_take (i := 11) (v := ?vc11) rfl (by kernel_rfl) (by kernel_rfl) (by kernel_rfl) (fun _ _ _ h => h) (Or.inl ⟨by kernel_rfl, ?hyc11⟩) ?restc11
        case hyc11 => (intro w; go_simp; try (with_reducible rfl))
        simp only [Act.put, List.setIfInBounds_toArray, List.set_cons_zero, List.set_cons_succ, List.getElem_toArray, List.getElem_cons_succ, List.getElem_cons_zero]
        refine wpAny_take (i := 12) (v := ?vc12) rfl (by kernel_rfl) (by kernel_rfl) (by kernel_rfl) (fun _ _ _ h => h) (Or.inl ⟨by kernel_rfl, ?hyc12⟩) ?restc12
        case hyc12 => (intro w; go_simp; try (with_reducible rfl))
        simp only [Act.put, List.setIfInBounds_toArray, List.set_cons_zero, List.set_cons_succ, List.getElem_toArray, List.getElem_cons_succ, List.getElem_cons_zero]
        refine wpAny_ready (rs := [9, 13]) (by kernel_rfl) (by simp) ?_
        refine AllReady.cons rfl (fun K hK => ?_) (AllReady.cons rfl (fun K hK => ?_) AllReady.nil)
        · go_simp
          go_wp2_with (go_at_call 57; refine htk.out.mono ?_; rintro x w3 ⟨rfl, ho3⟩; have d0 := (HW.out.quiet ((Only.refl [] w2).drew.trans ho3 (by simp))).at_.c0)
          refine wpAny_ready (rs := [13]) (by kernel_rfl) (by simp) ?_
          refine AllReady.cons rfl (fun K hK => ?_) AllReady.nil
          go_simp
          refine hK _ _ ?_
          clear hK K
          refine wpAny_take (i := 14) (v := ?vd14) rfl (by kernel_rfl) (by kernel_rfl) (by kernel_rfl) (fun _ _ _ h => h) (Or.inl ⟨by kernel_rfl, ?hyd14⟩) ?restd14
          case hyd14 => (intro w; go_simp; try (with_reducible rfl))
          simp only [Act.put, List.setIfInBounds_toArray, List.set_cons_zero, List.set_cons_succ, List.getElem_toArray, List.getElem_cons_succ, List.getElem_cons_zero]
          refine wpAny_take (i := 15) (v := ?vd15) rfl (by kernel_rfl) (by kernel_rfl) (by kernel_rfl) (fun _ _ _ h => h) (Or.inl ⟨by kernel_rfl, ?hyd15⟩) ?restd15
          case hyd15 => (intro w; go_simp; try (with_reducible rfl))
          simp only [Act.put, List.setIfInBounds_toArray, List.set_cons_zero, List.set_cons_succ, List.getElem_toArray, List.getElem_cons_succ, List.getElem_cons_zero]
          refine wpAny_take (i := 16) (v := ?vd16) rfl (by kernel_rfl) (by kernel_rfl) (by kernel_rfl) (fun _ _ _ h => h) (Or.inl ⟨by kernel_rfl, ?hyd16⟩) ?restd16
          case hyd16 => (intro w; go_simp; try (with_reducible rfl))
          simp only [Act.put, List.setIfInBounds_toArray, List.set_cons_zero, List.set_cons_succ, List.getElem_toArray, List.getElem_cons_succ, List.getElem_cons_zero]
          refine wpAny_done (by kernel_rfl) ?_ _
          go_wp2
          go_meet
          exact ⟨by rw [HFu.out], HW.out.quiet ((Only.refl [] w2).drew.trans ho3 (by simp))⟩
        · go_simp
          refine hK _ _ ?_
          clear hK K
          refine wpAny_ready (rs := [9]) (by kernel_rfl) (by simp) ?_
          refine AllReady.cons rfl (fun K hK => ?_) AllReady.nil
          go_simp
          go_wp2_with (go_at_call 57; refine htk.out.mono ?_; rintro x w3 ⟨rfl, ho3⟩; have d0 := (HW.out.quiet ((Only.refl [] w2).drew.trans ho3 (by simp))).at_.c0)
          refine wpAny_take (i := 14) (v := ?ve14) rfl (by kernel_rfl) (by kernel_rfl) (by kernel_rfl) (fun _ _ _ h => h) (Or.inl ⟨by kernel_rfl, ?hye14⟩) ?reste14
          case hye14 => (intro w; go_simp; try (with_reducible rfl))
          simp only [Act.put, List.setIfInBounds_toArray, List.set_cons_zero, List.set_cons_succ, List.getElem_toArray, List.getElem_cons_succ, List.getElem_cons_zero]
          refine wpAny_take (i := 15) (v := ?ve15) rfl (by kernel_rfl) (by kernel_rfl) (by kernel_rfl) (fun _ _ _ h => h) (Or.inl ⟨by kernel_rfl, ?hye15⟩) ?reste15
          case hye15 => (intro w; go_simp; try (with_reducible rfl))
          simp only [Act.put, List.setIfInBounds_toArray, List.set_cons_zero, List.set_cons_succ, List.getElem_toArray, List.getElem_cons_succ, List.getElem_cons_zero]
          refine wpAny_take (i := 16) (v := ?ve16) rfl (by kernel_rfl) (by kernel_rfl) (by kernel_rfl) (fun _ _ _ h => h) (Or.inl ⟨by kernel_rfl, ?hye16⟩) ?reste16
          case hye16 => (intro w; go_simp; try (with_reducible rfl))
          simp only [Act.put, List.setIfInBounds_toArray, List.set_cons_zero, List.set_cons_succ, List.getElem_toArray, List.getElem_cons_succ, List.getElem_cons_zero]
          refine wpAny_done (by kernel_rfl) ?_ _
          go_wp2
          go_meet
          exact ⟨by rw [HFu.out], HW.out.quiet ((Only.refl [] w2).drew.trans ho3 (by simp))⟩

  case rest =>
  obtain ⟨rfl, HW2⟩ := hcut
  have hbx := HBX.out
  cases hfull : S.full f with
  | true =>
    have hr : S.wait f = (7, S) := by simp [DiskS.wait, hfull]
    have HR := hide hr
    clear hfull hr k0 k1 k2 c0
    go_wp2
    go_ret
    refine ⟨by rw [HR.out]; rfl, ?_⟩
    rw [HR.out]
    exact ⟨b1, b2, A, c, HW2.at_, HW2.only.mono (by simp), .inl rfl, .inl rfl, fun k hk => .inl hk⟩
  | false =>
    have hr : S.wait f = if (S.waitTo f).fails.1 then (8, (S.waitTo f).fails.2.failed) else (0, (S.waitTo f).fails.2) := by simp [DiskS.wait, hfull]
    have HR := hide hr
    clear hfull hr k0 k1 k2 c0
    have c2 := HW2.at_.c2
    have f2 := HW2.at_.frozen 2
    have hg3 := HW2.at_.lt
    have hres := hide (HW2.at_.reseen HW2.next (by have := H.out.lies.lt; have := HW2.fresh.1; omega))
    have hO3 : Only [g] w (wc.setCell ⟨g, 2, none⟩ (.map (some bn))) := (HW2.only.mono (T := [g]) (by simp)).trans ((Only.refl [g] wc).setCell (.inl (by simp)) _) (fun t h _ => h)
    have hne : bx ≠ g := fun e => by have := HW2.fresh.2; have := H.out.lt; omega
    have hbl : (wc.setCell ⟨g, 2, none⟩ (.map (some bn))).heap[bx]? = some (.cells #[.int .i64 f.kind, .string f.path, .string f.text] 116 (0, 0)) := by
      rw [Below.heap_setCell _ _ _ _ (by simpa using hne)]
      exact HW2.blk
    have hfr := HW2.fresh
    clear HW HW2
    go_upto_region 6 with fail
    generalize wc.setCell ⟨g, 2, none⟩ (.map (some bn)) = w3 at *
    have d3 : w3.cell? ⟨g, 3, none⟩ = some (.slice A S.waits.length c) := hres.out.c3
    have fz := hres.out.frozen 3
    have hg4 := hres.out.lt
    have k0 : w3.cell? ⟨bx, 0, none⟩ = some (.int .i64 f.kind) := by simp [World.cell?, hbl]
    have k1 : w3.cell? ⟨bx, 1, none⟩ = some (.string f.path) := by simp [World.cell?, hbl]
    have k2 : w3.cell? ⟨bx, 2, none⟩ = some (.string f.text) := by simp [World.cell?, hbl]
    have hoA : Only [] w3 (w3.alloc (.cells #[.int .i64 f.kind, .string f.path, .string f.text] 116)).drew := ((Only.refl [] w3).alloc _).drew
    have holds := hide (fun (b : Addr) (hb : A = some b) j u (hu : (effCells S.waits)[j]? = some u) => show (w3.alloc (.cells #[.int .i64 f.kind, .string f.path, .string f.text] 116)).drew.cell? (b.add j) = some u by
      obtain ⟨k, hA, _, hc⟩ := (hres.out.waits.only hoA (by simp)) j u hu
      rw [hA] at hb
      cases hb
      have hp : (⟨k, 0, none⟩ : Addr).add j = ⟨k, j, none⟩ := by unfold Addr.add; split <;> simp_all
      rw [hp]
      exact hc)
    have hnews := hide (fun j u (hu : f.cells[j]? = some u) => show (w3.alloc (.cells #[.int .i64 f.kind, .string f.path, .string f.text] 116)).drew.cell? ((⟨w3.heap.size, 0, none⟩ : Addr).add j) = some u by
      have hq : j < 3 := by have := (List.getElem?_eq_some_iff.1 hu).1; simpa [Eff.cells] using this
      obtain rfl | rfl | rfl : j = 0 ∨ j = 1 ∨ j = 2 := by omega
      all_goals
        simp [Eff.cells] at hu
        subst hu
        simp [World.cell?_alloc_new, Addr.add])
    have hclip := hide (fun W => clip_any A S.waits.length c W H.out.cap (fun hA => by
      cases hw : S.waits with
      | nil => exact ⟨rfl, (H.out.nil hw).2⟩
      | cons e0 ws =>
        obtain ⟨k, hk, _⟩ := H.out.waits 0 (.int .i64 e0.kind) (by rw [hw]; rfl)
        rw [hA] at hk
        cases hk))
    have hnone := hide (fun (hA : A = none) => show S.waits.length = 0 ∧ S.waits.length = 0 by
      cases hw : S.waits with
      | nil => exact ⟨rfl, rfl⟩
      | cons e0 ws =>
        obtain ⟨k, hk, _⟩ := H.out.waits 0 (.int .i64 e0.kind) (by rw [hw]; rfl)
        rw [hA] at hk
        cases hk)
    obtain ⟨i0, hi0, hz0, hz1, hz2⟩ := info_parts infoEff
    have h1c : ∀ u ∈ f.cells, u.oneCell' = true := by simp [Eff.cells, Value.oneCell']
    go_cut [43] (fun v43 W => WaitSt w3 W g b1 bn A c S f)
    case first =>
      go_region_law (first
        | (refine step_append_grows rfl _ _ 103 rfl 116 i0 _ 3 40 Try.underlying103 hi0 hz0 hz1 hz2 rfl (by decide) A S.waits.length S.waits.length (effCells S.waits) rfl hnone.out (effCells_len _) holds.out
              ⟨w3.heap.size, 0, none⟩ 1 1 f.cells rfl rfl hnews.out h1c (by omega) (by unfold maxLen; omega) (by omega) ?_
           intro v' w' hown hgrow
           obtain ⟨A', c', rfl, hcap', hcells⟩ := own_form hown
           have hO4 : Only [] w3 w' := hoA.trans (Only.grown (S := []) hgrow (fun k hk => by cases hk)) (by simp)
           have hD4 := hide (hres.out.only hO4 (by simp) (by simp) (by simp) (by simp))
           have d3' := hD4.out.c3
           have fz' := hD4.out.frozen 3)
        | (go_simp; go_at_call 97; refine (hclip.out _).mono ?_; rintro x w' ⟨rfl, rfl⟩))
      all_goals
        go_wp2
        go_meet
        obtain ⟨kq, hkq, hbq, _, _⟩ := hcells (effCells S.waits).length (.int .i64 f.kind) (by simp [Eff.cells])
        have hbq' : w3.heap.size + 1 ≤ kq := by simpa using hbq
        have hA' : ∀ k, A' = some ⟨k, 0, none⟩ → w3.heap.size + 1 ≤ k := fun k hk => by
          rw [hk] at hkq
          cases hkq
          exact hbq'
        refine ⟨⟨A', c', hD4.out.rewaits (l := S.waits ++ [f]) (n := S.waits.length + 1) (by simp) ?_ (by omega) (fun k hk => by have := hA' k hk; omega) (by simp), fun k hk => by have := hA' k hk; omega⟩, (hO4.mono (T := [g]) (by simp)).trans ((Only.refl [g] w').setCell (.inl (by simp)) _) (fun t h _ => h)⟩
        intro j u hu
        rw [effCells_snoc] at hu
        obtain ⟨k, h1, _, h2, h3⟩ := hcells j u hu
        exact ⟨k, h1, h2, h3⟩
    case rest =>
    obtain ⟨⟨A', c', hD, hA'⟩, hO5⟩ := hcut
    have hfa := fails_any g b1 bn A' c' (S.waitTo f) wc hD hl hl2
    obtain ⟨b, T, hbt⟩ : ∃ b T, (S.waitTo f).fails = (b, T) := ⟨_, _, rfl⟩
    obtain ⟨hTk, hTw⟩ : T.keep = S.keep ∧ T.waits = S.waits ++ [f] := by
      have := fails_same (S.waitTo f)
      rw [hbt] at this
      exact this
    unfold FailsPost at hfa
    rw [hbt] at hfa
    have HR' := HR.out
    rw [hbt] at HR'
    have HRb := hide HR'
    have HFA := hide hfa
    have hz3 := hO3.size
    have hz5 := hO5.size
    have hTl : T.waits.length ≤ 1000000 := by rw [hTw]; simp; omega
    have hTk1 : 0 ≤ T.keep := by rw [hTk]; exact hk
    have hTk2 : T.keep < 18446744073709551616 := by rw [hTk]; exact hk2
    have HD := hide hD
    clear hfa HR' hbt HR hres holds hnews hclip hnone hD d3 fz k0 k1 k2 hbl hTk hTw
    have hO35 : Only [g, b1] w wc := (hO3.mono (T := [g, b1]) (by simp)).trans hO5 (fun t ht hl => by simp at ht ⊢; exact .inl ht)
    cases b with
    | true =>
      go_wp2_with (first
        | (go_at_call 59; refine (fail_any g b1 bn A' c' T _ hD5.out hTk1 hTk2 hTl).mono ?_; rintro x w6 ⟨b2', rfl, hD6, ho6, hb6⟩)
        | (go_at_call 58; refine HFA.out.mono ?_; rintro x w5 ⟨rfl, hd5, ho5⟩; have hD5 := hide hd5; clear hd5))
      go_ret
      have hz := ho5.size
      refine ⟨by rw [HRb.out]; rfl, ?_⟩
      rw [HRb.out]
      exact ⟨b1, b2', none, 0, hD6, (hO35.trans ho5 (fun t ht hl => by simp at ht ⊢; exact .inl ht)).trans ho6 (fun t ht _ => ht), .inl rfl, .inr (by omega), fun k hk => by cases hk⟩
    | false =>
      go_wp2_with (go_at_call 58; refine HFA.out.mono ?_; rintro x w5 ⟨rfl, hd5, ho5⟩; have hD5 := hide hd5; clear hd5)
      go_ret
      refine ⟨by rw [HRb.out]; rfl, ?_⟩
      rw [HRb.out]
      exact ⟨b1, bn, A', c', hD5.out, hO35.trans ho5 (fun t ht hl => by simp at ht ⊢; exact .inl ht), .inl rfl, .inr (by omega), fun k hk => .inr (by have := hA' k hk; omega)⟩
end Go.Proofs.Ytljkaafdajpmkaa
