/- The power fails. -/
import Derived.Test.YtljkaafdajpmkaaDkState
import Derived.WalkSmall
import Derived.Laws.ShiftsVarLaws
namespace Go.Proofs.Ytljkaafdajpmkaa
open Go.RowKit
set_option linter.unusedVariables false

/-- What is kept of what waits. -/
def keptDo : Files → List Eff → Nat → Files
  | l, [], _ => l
  | l, e :: ws, k => keptDo (if k % 2 = 1 then effDo l e else l) ws (k / 2)
def DiskS.failed (S : DiskS) : DiskS :=
  { S with lies := keptDo S.lies (S.waits.take 64) S.keep.toNat, seen := keptDo S.lies (S.waits.take 64) S.keep.toNat, waits := [], down := true, left := 0, keep := 0 }
theorem kept_step {l : Files} {ws : List Eff} {k i : Nat} {e : Eff} (h : ws[i]? = some e) :
    keptDo l (ws.drop i) (k / 2 ^ i) = keptDo (if k / 2 ^ i % 2 = 1 then effDo l e else l) (ws.drop (i + 1)) (k / 2 ^ (i + 1)) := by
  obtain ⟨hi, rfl⟩ := List.getElem?_eq_some_iff.1 h
  rw [List.drop_eq_getElem_cons hi, keptDo, Nat.div_div_eq_div_mul, ← Nat.pow_succ]
theorem bit_at (k : Int) (i : Nat) (h0 : 0 ≤ k) (h1 : k < 18446744073709551616) : bits BinOp.and IntKind.u64 (k / 2 ^ i) 1 = ((k.toNat / 2 ^ i % 2 : Nat) : Int) := by
  obtain ⟨n, rfl⟩ := Int.eq_ofNat_of_zero_le h0
  have e : ((n : Int) / 2 ^ i) = ((n / 2 ^ i : Nat) : Int) := by
    rw [Int.natCast_ediv]
    simp
  have hle : n / 2 ^ i ≤ n := Nat.div_le_self _ _
  rw [e]
  show _ = ((n / 2 ^ i % 2 : Nat) : Int)
  generalize n / 2 ^ i = q at *
  rw [and_one_u64 _ (by omega) (by omega)]
  omega
theorem effCells_at {l : List Eff} {j : Nat} {r : Eff} (hj : l[j]? = some r) : (effCells l)[j * 3]? = some (.int .i64 r.kind) ∧ (effCells l)[j * 3 + 1]? = some (.string r.path) ∧ (effCells l)[j * 3 + 2]? = some (.string r.text) := by
  induction l generalizing j with
  | nil => simp at hj
  | cons q l ih =>
    have hc : effCells (q :: l) = q.cells ++ effCells l := rfl
    cases j with
    | zero =>
      obtain rfl : q = r := by simpa using hj
      rw [hc]
      simp [Eff.cells]
    | succ j =>
      have := ih (j := j) (by simpa using hj)
      rw [hc, List.getElem?_append_right (by simp [Eff.cells]; omega), List.getElem?_append_right (by simp [Eff.cells]; omega), List.getElem?_append_right (by simp [Eff.cells]; omega)]
      have e1 : (j + 1) * 3 - q.cells.length = j * 3 := by simp [Eff.cells]; omega
      have e2 : (j + 1) * 3 + 1 - q.cells.length = j * 3 + 1 := by simp [Eff.cells]; omega
      have e3 : (j + 1) * 3 + 2 - q.cells.length = j * 3 + 2 := by simp [Eff.cells]; omega
      rw [e1, e2, e3]
      exact this
theorem refailed {w : World} {g b1 b2 : Nat} {A : Option Addr} {c : Nat} {S : DiskS} (h : DiskAt w g b1 b2 A c S) {b : Nat} (hm : MapAt Value.string w b S.lies) (hne : b1 ≠ b) :
    DiskAt (((((w.setCell ⟨g, 2, none⟩ (.map (some b))).setCell ⟨g, 3, none⟩ (.slice none 0 0)).setCell ⟨g, 4, none⟩ (.bool true)).setCell ⟨g, 5, none⟩ (.int .i64 0)).setCell ⟨g, 6, none⟩ (.int .u64 0)) g b1 b none 0
      { S with seen := S.lies, waits := [], down := true, left := 0, keep := 0 } ∧
    Only [g] w (((((w.setCell ⟨g, 2, none⟩ (.map (some b))).setCell ⟨g, 3, none⟩ (.slice none 0 0)).setCell ⟨g, 4, none⟩ (.bool true)).setCell ⟨g, 5, none⟩ (.int .i64 0)).setCell ⟨g, 6, none⟩ (.int .u64 0)) := by
  have ho : Only [g] w (((((w.setCell ⟨g, 2, none⟩ (.map (some b))).setCell ⟨g, 3, none⟩ (.slice none 0 0)).setCell ⟨g, 4, none⟩ (.bool true)).setCell ⟨g, 5, none⟩ (.int .i64 0)).setCell ⟨g, 6, none⟩ (.int .u64 0)) :=
    (((((Only.refl [g] w).setCell (.inl (by simp)) _).setCell (.inl (by simp)) _).setCell (.inl (by simp)) _).setCell (.inl (by simp)) _).setCell (.inl (by simp)) _
  refine ⟨⟨?_, h.lies.only ho (by simpa using h.ne1), hm.only ho (by simpa using hm.ne_cells h.blk), hne, ArgAt.nil _ _, Nat.le_refl _, (fun k hk => by cases hk), (fun _ => ⟨rfl, rfl⟩)⟩, ho⟩
  have := h.blk
  simp [World.setCell, Array.getElem?_modify, this, DiskS.cells]
def FailPost (w : World) (g b1 : Nat) (S : DiskS) (e : Ending) (w' : World) : Prop :=
  ∃ b2, e = .returned (.int .i64 8) ∧ DiskAt w' g b1 b2 none 0 S.failed ∧ Only [g, b1] w w' ∧ w.heap.size ≤ b2
set_option maxHeartbeats 2000000 in
set_option maxRecDepth 100000 in
theorem fail_any (g b1 b2 : Nat) (A : Option Addr) (c : Nat) (S : DiskS) (w : World) (h : DiskAt w g b1 b2 A c S) (hk : 0 ≤ S.keep) (hk2 : S.keep < 18446744073709551616) (hn : S.waits.length ≤ 1000000) :
    Calls Try.prog 59 #[.pointer (some ⟨g, 0, none⟩)] w (FailPost w g b1 S) := by
  have hg := h.lt
  have c3 := h.c3
  have c6 := h.c6
  have hcap := h.cap
  have hA0 := h.nil
  have hA1 : S.waits ≠ [] → ∃ k, A = some ⟨k, 0, none⟩ := fun hne => by
    cases hw : S.waits with
    | nil => exact absurd hw hne
    | cons e0 ws0 =>
      obtain ⟨k, hk, _⟩ := h.waits 0 (.int .i64 e0.kind) (by rw [hw]; rfl)
      exact ⟨k, hk⟩
  have HA := hide (And.intro hA0 hA1)
  have H := hide h
  clear h hA0 hA1
  go_enter Try.func59, Try.ntmps59
  go_upto_region 1 with fail
  go_cut [15, 16, 17] (fun v15 v16 v17 W => v15 = .slice A (S.waits.take 64).length c ∧ v16 = .int .i64 (S.waits.take 64).length ∧ v17 = .int .i64 0 ∧ Only [] w W)
  case first =>
    by_cases hw : S.waits = []
    · obtain ⟨rfl, rfl⟩ := HA.out.1 hw
      rw [hw] at c3
      have HN := hide hw
      clear hw
      go_region
      all_goals
        go_wp2
        go_meet
        exact ⟨by rw [HN.out]; rfl, by rw [HN.out]; rfl, rfl, (Only.refl _ _).drew⟩
    · obtain ⟨k, rfl⟩ := HA.out.2 hw
      clear hw
      have hcap' : (S.waits.length : Int) ≤ c := by omega
      have hN1 : (min (S.waits.length : Int) 64).toNat = (S.waits.take 64).length := by rw [List.length_take]; omega
      have hN2 : max (min (S.waits.length : Int) 64) 0 = ((S.waits.take 64).length : Int) := by rw [List.length_take]; omega
      have HN1 := hide hN1
      have HN2 := hide hN2
      clear hN1 hN2
      go_region
      all_goals
        go_wp2
        go_meet
        exact ⟨by rw [HN1.out], by rw [HN2.out], rfl, (Only.refl _ _).drew⟩
  case rest =>
  obtain ⟨rfl, rfl, rfl, hO⟩ := hcut
  have hN64 : (S.waits.take 64).length ≤ 64 := by rw [List.length_take]; omega
  have hat : ∀ (i : Nat) (e : Eff), (S.waits.take 64)[i]? = some e → S.waits[i]? = some e := fun i e he => by
    rw [List.getElem?_take] at he
    split at he
    · exact he
    · cases he
  have hkd : ∃ F, keptDo S.lies (S.waits.take 64) S.keep.toNat = F := ⟨_, rfl⟩
  obtain ⟨F, hF⟩ := hkd
  have hst : keptDo S.lies ((S.waits.take 64).drop 0) (S.keep.toNat / 2 ^ 0) = F := by simpa using hF
  have HST := hide (⟨H.out.only hO (by simp) (by simp) (by simp) (by simp), hst⟩ : DiskAt wc g b1 b2 A c S ∧ keptDo S.lies ((S.waits.take 64).drop 0) (S.keep.toNat / 2 ^ 0) = F)
  have HAT := hide hat
  have HF := hide hF
  clear hst hat hF c3 c6
  generalize hws : S.waits.take 64 = ws at *
  have HWS := hide hws
  clear hws
  go_wp2
  go_loopw [17] (fun v17 W => ∃ (i : Nat) (L : Files), i ≤ ws.length ∧ v17 = .int .i64 i ∧ DiskAt W g b1 b2 A c { S with lies := L } ∧ keptDo L (ws.drop i) (S.keep.toNat / 2 ^ i) = F ∧ Only [b1] w W) (fun v17 _ => (ws.length - intOf v17).toNat)
  case atStart => exact ⟨0, S.lies, by omega, rfl, HST.out.1, HST.out.2, hO.mono (by simp)⟩
  case round =>
    clear HST
    obtain ⟨i, L, hi, rfl, hD, hFl, hOw⟩ := hrel
    by_cases hlt : i < ws.length
    · obtain ⟨e, he⟩ : ∃ e, ws[i]? = some e := ⟨_, List.getElem?_eq_getElem hlt⟩
      have hwe := HAT.out i e he
      obtain ⟨ga, hA, hga, k0⟩ := hD.waits _ _ (effCells_at hwe).1
      obtain ⟨_, e1, _, k1⟩ := hD.waits _ _ (effCells_at hwe).2.1
      obtain ⟨_, e2, _, k2⟩ := hD.waits _ _ (effCells_at hwe).2.2
      subst hA
      cases e1
      cases e2
      have c1 := hD.c1
      have c6 := hD.c6
      have hgl := hD.lt
      rw [kept_step he] at hFl
      have HD := hide hD
      have hFl2 := hFl
      have hi0 : (0 : Int) ≤ i := by omega
      have hi1 : (i : Int) < 64 := by omega
      clear hD hFl he hwe
      go_upto_region 4 with fail
      have hD2 := hide (HD.out.only ((Only.refl [] wr).alloc (.cells #[.int .i64 e.kind, .string e.path, .string e.text] 116)) (by simp) (by simp) (by simp) (by simp))
      have hOB := (hOw.alloc (.cells #[.int .i64 e.kind, .string e.path, .string e.text] 116))
      have d1 := hD2.out.c1
      have d6 := hD2.out.c6
      have q0 : (wr.alloc (.cells #[.int .i64 e.kind, .string e.path, .string e.text] 116)).cell? ⟨wr.heap.size, 0, none⟩ = some (.int .i64 e.kind) := by simp [World.cell?_alloc_new]
      have q1 : (wr.alloc (.cells #[.int .i64 e.kind, .string e.path, .string e.text] 116)).cell? ⟨wr.heap.size, 1, none⟩ = some (.string e.path) := by simp [World.cell?_alloc_new]
      have q2 : (wr.alloc (.cells #[.int .i64 e.kind, .string e.path, .string e.text] 116)).cell? ⟨wr.heap.size, 2, none⟩ = some (.string e.text) := by simp [World.cell?_alloc_new]
      clear c1 c6 hgl k0 k1 k2 hga hOw HD
      generalize wr.alloc (.cells #[.int .i64 e.kind, .string e.path, .string e.text] 116) = wB at *
      generalize wr.heap.size = bx at *
      have hbit := bit_at S.keep i hk hk2
      rcases (show S.keep.toNat / 2 ^ i % 2 = 1 ∨ S.keep.toNat / 2 ^ i % 2 = 0 by omega) with hb | hb
      · rw [hb] at hbit hFl2
        simp only [if_true] at hFl2
        have HFL2 := hide hFl2
        have hcall := hide (do_any b1 L e wB.drew hD2.out.lies)
        clear hFl2 hb
        go_upto_region 5 with fail
        go_region_with (go_at_call 86; refine hcall.out.mono ?_; rintro x w3 ⟨rfl, hm3, ho3⟩)
        all_goals
          go_wp2
          go_roundw
          case rel => exact ⟨i + 1, _, by omega, by go_num, hD2.out.relies ((Only.refl [b1] wB).drew.trans ho3 (fun t h _ => h)) hm3, HFL2.out, hOB.trans ((Only.refl [b1] wB).drew.trans ho3 (fun t h _ => h)) (fun t h _ => h)⟩
          case measure => simp [intOf]; omega
      · rw [hb] at hbit hFl2
        simp only [Nat.zero_ne_one, if_false] at hFl2
        have HFL2 := hide hFl2
        clear hFl2 hb
        go_wp2
        go_roundw
        case rel => exact ⟨i + 1, L, by omega, by go_num, hD2.out, HFL2.out, hOB⟩
        case measure => simp [intOf]; omega
    · obtain rfl : i = ws.length := by omega
      rw [List.drop_length] at hFl
      obtain rfl : L = F := hFl
      have hcl := hide (clone_any b1 L wr hD.lies)
      have c1 := hD.c1
      have hgl := hD.lt
      have HD := hide hD
      clear hD
      go_upto_region 8 with (go_at_call 60; refine hcl.out.mono ?_; rintro x w2 ⟨rfl, hm2, ho2, hs2⟩; have hD2 := hide (HD.out.only ho2 (by simp) (by simp) (by simp) (by simp)); have d2 := hD2.out.c2; have d3 := hD2.out.c3; have d4 := hD2.out.c4; have d5 := hD2.out.c5; have d6 := hD2.out.c6; have f2 := hD2.out.frozen 2; have f3 := hD2.out.frozen 3; have f4 := hD2.out.frozen 4; have f5 := hD2.out.frozen 5; have f6 := hD2.out.frozen 6)
      have hfin := hide (refailed hD2.out hm2 (by have := HD.out.lies.lt; omega))
      have hsz := hOw.size
      go_wp2
      go_ret
      refine ⟨wr.heap.size, rfl, ?_, ((hOw.mono (T := [g, b1]) (by simp)).trans ho2 (by simp)).trans hfin.out.2 (fun t ht hl => by simp at ht ⊢; exact .inl ht), ?_⟩
      · have e : S.failed = { S with lies := L, seen := L, waits := [], down := true, left := 0, keep := 0 } := by
          unfold DiskS.failed
          rw [HWS.out, HF.out]
        rw [e]
        exact hfin.out.1
      · exact hsz
end Go.Proofs.Ytljkaafdajpmkaa
