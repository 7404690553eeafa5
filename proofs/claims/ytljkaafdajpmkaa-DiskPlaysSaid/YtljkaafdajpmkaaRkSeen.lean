/- The reference's files behind an effect; what is seen. -/
import Derived.Test.YtljkaafdajpmkaaRkDone
namespace Go.Proofs.Ytljkaafdajpmkaa
open Go.RowKit
set_option linter.unusedVariables false

/-- Files behind an effect (the reference's kinds: 1 a write, 2 a rename, else a removal). -/
def rDone (l : Files) (e : Eff) : Files :=
  if e.kind = 1 then rWith l e.path e.text else
  if e.kind = 2 then (match mget l e.path with
    | some x => rWith (rWithout l e.path) e.text x
    | none => l) else rWithout l e.path
theorem while_len {α : Type} (f : α → Bool) (s : List α) : (s.takeWhile f).length + (s.dropWhile f).length = s.length := by
  rw [← List.length_append, List.takeWhile_append_dropWhile]
theorem rWith_len (l : Files) (p t : ByteArray) : (rWith l p t).length ≤ l.length + 1 := by
  unfold rWith
  have h1 := while_len (fun q => lessB q.1 p) (rWithout l p)
  have h2 := rWithout_len l p
  simp only [List.length_append, List.length_cons, List.length_nil]
  omega
theorem rDone_len (l : Files) (e : Eff) : (rDone l e).length ≤ l.length + 1 := by
  unfold rDone
  split
  · exact rWith_len _ _ _
  · split
    · split
      · have := rWith_len (rWithout l e.path) e.text (by assumption)
        have := rWithout_len l e.path
        omega
      · omega
    · have := rWithout_len l e.path
      omega
def FilesIn (w : World) (l : Files) (e : Ending) (w' : World) : Prop := ∃ A c, e = .returned (.slice A l.length c) ∧ ArgAt w' A (fcells l) ∧ Only [] w w'
set_option maxHeartbeats 4000000 in
set_option maxRecDepth 100000 in
theorem done_any (l : Files) (f : Eff) (A : Option Addr) (c : Nat) (w : World) (hl : l.length ≤ 900000) (ha : ArgAt w A (fcells l)) :
    Calls Try.prog 55 #[.slice A l.length c, .agg #[.int .i64 f.kind, .string f.path, .string f.text]] w (FilesIn w (rDone l f)) := by
  obtain ⟨k, p, t⟩ := f
  have hoB : Only [] w (w.alloc (.cells #[.int .i64 k, .string p, .string t] 46)) := (Only.refl [] w).alloc _
  have hbk := heap_alloc_new w (.cells #[.int .i64 k, .string p, .string t] 46)
  have hlb : w.heap.size < (w.alloc (.cells #[.int .i64 k, .string p, .string t] 46)).heap.size := by simp
  obtain ⟨r, hr⟩ : ∃ r, r = rDone l ⟨k, p, t⟩ := ⟨_, rfl⟩
  rw [← hr]
  unfold rDone at hr
  simp only at hr
  have HR := hide hr
  have haB := ha.only hoB (by simp)
  have HWo := hide (fun W (h : ArgAt W A (fcells l)) => without_any l p A c W (by omega) h)
  have HWi := hide (fun W (h : ArgAt W A (fcells l)) => with_any l p t A c W (by omega) h)
  have HFi := hide (fun W (h : ArgAt W A (fcells l)) => find_any l p A c W (by omega) h)
  have HW2 := hide (fun x (B : Option Addr) (d : Nat) W (h : ArgAt W B (fcells (rWithout l p))) => with_any (rWithout l p) t x B d W (by have := rWithout_len l p; omega) h)
  clear hr ha
  simp only
  go_enter Try.func55, Try.ntmps55
  go_upto_region 1 with fail
  generalize w.alloc (.cells #[.int .i64 k, .string p, .string t] 46) = wB at *
  generalize w.heap.size = bx at *
  have q0 : wB.cell? ⟨bx, 0, none⟩ = some (.int .i64 k) := by simp [World.cell?, hbk]
  have q1 : wB.cell? ⟨bx, 1, none⟩ = some (.string p) := by simp [World.cell?, hbk]
  have q2 : wB.cell? ⟨bx, 2, none⟩ = some (.string t) := by simp [World.cell?, hbk]
  have HBX := hide (fun W (ho : Only [] wB W) => show W.cell? ⟨bx, 1, none⟩ = some (.string p) ∧ W.cell? ⟨bx, 2, none⟩ = some (.string t) from
    ⟨(ho.cell (p := ⟨bx, 1, none⟩) hlb (by simp)).trans q1, (ho.cell (p := ⟨bx, 2, none⟩) hlb (by simp)).trans q2⟩)
  have HOB := hide hoB
  have HA := hide haB
  clear hbk hoB haB
  by_cases h1 : k = 1
  · subst h1
    have hr : r = rWith l p t := by rw [HR.out]; simp
    have HRr := hide hr
    clear hr HR
    go_wp2_with (go_at_call 84; refine (HWi.out _ HA.out).mono ?_; rintro e w3 ⟨A3, c3, rfl, hc3, ha3, ho3, _⟩)
    go_ret
    rw [HRr.out]
    exact ⟨A3, c3, rfl, ha3, HOB.out.trans ho3 (by simp)⟩
  · have d1 : (k == 1) = false := by simpa using h1
    by_cases h2 : k = 2
    · subst h2
      cases hg : mget l p with
      | none =>
        have hr : r = l := by rw [HR.out, hg]; simp
        have HRr := hide hr
        have HFi2 := HFi.out
        rw [hg] at HFi2
        have HFi3 := hide HFi2
        clear hr HR hg h1 d1 HFi2
        go_wp2_with (go_at_call 20; refine (HFi3.out _ HA.out).mono ?_; rintro e w3 ⟨rfl, ho3⟩)
        go_ret
        rw [HRr.out]
        exact ⟨A, c, rfl, HA.out.only ho3 (by simp), HOB.out.trans ho3 (by simp)⟩
      | some x =>
        have hr : r = rWith (rWithout l p) t x := by rw [HR.out, hg]; simp
        have HRr := hide hr
        have HFi2 := HFi.out
        rw [hg] at HFi2
        have HFi3 := hide HFi2
        clear hr HR hg h1 d1 HFi2
        go_upto_region 8 with (go_at_call 20; refine (HFi3.out _ HA.out).mono ?_; rintro e w3 ⟨rfl, ho3⟩)
        have HO3 := hide ho3
        obtain ⟨q1, q2⟩ := HBX.out _ ho3
        clear ho3
        go_region_held3 (fun W' => W'.cell? ⟨bx, 1, none⟩ = some (.string p) ∧ W'.cell? ⟨bx, 2, none⟩ = some (.string t)) (first | go_keep | exact HBX.out _ HO5.out | exact HBX.out _ HO4.out)
          (first
          | (go_at_call 84; refine (HW2.out x _ _ _ ha4).mono ?_; rintro e w5 ⟨A5, c5, rfl, hc5, ha5, ho5, _⟩; have HO5 := hide (HO4.out.trans ho5 (by simp)))
          | (go_at_call 85; refine (HWo.out _ (HA.out.only HO3.out.drew (by simp))).mono ?_; rintro e w4 ⟨A4, c4, rfl, hc4, ha4, ho4, _⟩; have HO4 := hide (HO3.out.drew.trans ho4 (by simp))))
        go_wp2
        go_ret
        rw [HRr.out]
        exact ⟨A5, c5, rfl, ha5, HOB.out.trans HO5.out (by simp)⟩
    · have d2 : (k == 2) = false := by simpa using h2
      have hr : r = rWithout l p := by rw [HR.out, if_neg h1, if_neg h2]
      have HRr := hide hr
      clear hr HR h1 h2
      go_wp2_with (go_at_call 85; refine (HWo.out _ HA.out).mono ?_; rintro e w3 ⟨A3, c3, rfl, hc3, ha3, ho3, _⟩)
      go_ret
      rw [HRr.out]
      exact ⟨A3, c3, rfl, ha3, HOB.out.trans ho3 (by simp)⟩
end Go.Proofs.Ytljkaafdajpmkaa
