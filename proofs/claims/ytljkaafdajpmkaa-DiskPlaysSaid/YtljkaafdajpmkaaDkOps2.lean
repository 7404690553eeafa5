/- The disk's calls: New, Start, Down, Waiting, Taken, Sync, Arm. -/
import Derived.Test.YtljkaafdajpmkaaDkOps
namespace Go.Proofs.Ytljkaafdajpmkaa
open Go.RowKit
set_option linter.unusedVariables false

section
variable (g b1 b2 : Nat) (A : Option Addr) (c : Nat) (S : DiskS) (w : World) (h : DiskAt w g b1 b2 A c S)
include h
theorem down_any : Calls Try.prog 25 #[.pointer (some ⟨g, 0, none⟩)] w fun e w' => e = .returned (.bool S.down) ∧ w' = w := by
  have c4 := h.c4
  go_enter Try.func25, Try.ntmps25
  go_wp2
  go_ret
  exact ⟨rfl, rfl⟩
theorem waiting_any : Calls Try.prog 26 #[.pointer (some ⟨g, 0, none⟩)] w fun e w' => e = .returned (.int .i64 S.waits.length) ∧ w' = w := by
  have c3 := h.c3
  go_enter Try.func26, Try.ntmps26
  go_wp2
  go_ret
  exact ⟨rfl, rfl⟩
def DiskS.taken (S : DiskS) : Nat := if S.down then 0 else tookOf S.seen
theorem disk_taken_any (ht : tookOf S.seen ≤ 4611686018427387904) : Calls Try.prog 27 #[.pointer (some ⟨g, 0, none⟩)] w (IntPost w S.taken) := by
  have c4 := h.c4
  have c2 := h.c2
  have hta := hide (taken_any b2 S.seen w h.seen ht)
  obtain ⟨r, hr⟩ : ∃ r, r = S.taken := ⟨_, rfl⟩
  rw [← hr]
  unfold DiskS.taken at hr
  have HR := hide hr
  clear hr h ht
  cases hd : S.down with
  | true =>
    rw [hd] at c4
    have HD := hide hd
    clear hd
    go_enter Try.func27, Try.ntmps27
    go_wp2
    go_ret
    have hr : r = 0 := by have := HR.out; rw [HD.out] at this; exact this
    subst hr
    exact ⟨rfl, Only.refl _ _⟩
  | false =>
    rw [hd] at c4
    have HD := hide hd
    clear hd
    go_enter Try.func27, Try.ntmps27
    go_wp2_with (go_at_call 57; refine hta.out.mono ?_; rintro e w1 ⟨rfl, ho1⟩)
    go_ret
    have hr : r = tookOf S.seen := by have := HR.out; rw [HD.out] at this; exact this
    subst hr
    exact ⟨rfl, ho1⟩
def DiskS.started (S : DiskS) : DiskS := { S with down := false }
def DiskS.armed (S : DiskS) (k m : Int) : DiskS := if k < 1 then { S with left := 0, keep := 0 } else { S with left := k, keep := m }
theorem start_any : Calls Try.prog 32 #[.pointer (some ⟨g, 0, none⟩)] w fun e w' => e = .returned (.tuple #[]) ∧ DiskAt w' g b1 b2 A c S.started ∧ Only [g] w w' := by
  have c4 := h.c4
  have fz := h.frozen 4
  have hg := h.lt
  have hD : DiskAt (w.setCell ⟨g, 4, none⟩ (.bool false)) g b1 b2 A c S.started := h.set 4 _ (by simp [DiskS.cells, DiskS.started])
  have ho : Only [g] w (w.setCell ⟨g, 4, none⟩ (.bool false)) := (Only.refl _ _).setCell (.inl (by simp)) _
  have HD := hide hD
  clear hD h
  go_enter Try.func32, Try.ntmps32
  go_wp2
  go_end0
  exact ⟨rfl, HD.out, ho⟩
theorem resynced (b : Nat) (hm : MapAt Value.string w b S.seen) (hne : b ≠ b2) :
    DiskAt ((w.setCell ⟨g, 1, none⟩ (.map (some b))).setCell ⟨g, 3, none⟩ (.slice none 0 0)) g b b2 none 0 { S with lies := S.seen, waits := [] } ∧ Only [g] w ((w.setCell ⟨g, 1, none⟩ (.map (some b))).setCell ⟨g, 3, none⟩ (.slice none 0 0)) := by
  have ho : Only [g] w ((w.setCell ⟨g, 1, none⟩ (.map (some b))).setCell ⟨g, 3, none⟩ (.slice none 0 0)) := ((Only.refl [g] w).setCell (.inl (by simp)) _).setCell (.inl (by simp)) _
  refine ⟨⟨?_, hm.only ho (by simpa using hm.ne_cells h.blk), h.seen.only ho (by simpa using h.ne2), hne, ArgAt.nil _ _, Nat.le_refl _, (fun k hk => by cases hk), (fun _ => ⟨rfl, rfl⟩)⟩, ho⟩
  have := h.blk
  simp [World.setCell, Array.getElem?_modify, this, DiskS.cells]
def DiskS.sync (S : DiskS) : Int × DiskS := if S.down then (8, S) else if S.fails.1 then (8, S.fails.2.failed) else (0, { S.fails.2 with lies := S.fails.2.seen, waits := [] })
set_option maxHeartbeats 2000000 in
set_option maxRecDepth 100000 in
theorem sync_any (hf : S.Fit) : Calls Try.prog 28 #[.pointer (some ⟨g, 0, none⟩)] w (CallPost w g b1 b2 A S.sync) := by
  have c4 := h.c4
  have H := hide h
  obtain ⟨r, hr⟩ : ∃ r, r = S.sync := ⟨_, rfl⟩
  rw [← hr]
  unfold DiskS.sync at hr
  have hfa := fails_any g b1 b2 A c S w h hf.left.1 hf.left.2
  obtain ⟨b, T, hbt⟩ : ∃ b T, S.fails = (b, T) := ⟨_, _, rfl⟩
  obtain ⟨hTk, hTw⟩ : T.keep = S.keep ∧ T.waits = S.waits := by
    have := fails_same S
    rw [hbt] at this
    exact this
  unfold FailsPost at hfa
  rw [hbt] at hfa hr
  have HFA := hide hfa
  have HR := hide hr
  have hTl : T.waits.length ≤ 1000000 := by rw [hTw]; exact Nat.le_of_lt hf.waits
  have hTk1 : 0 ≤ T.keep := by rw [hTk]; exact hf.keep.1
  have hTk2 : T.keep < 18446744073709551616 := by rw [hTk]; exact hf.keep.2
  clear hfa hr hbt hTk hTw h hf
  cases hd : S.down with
  | true =>
    rw [hd] at c4
    have HD := hide hd
    clear hd
    go_enter Try.func28, Try.ntmps28
    go_wp2
    go_ret
    have hr : r = (8, S) := by have := HR.out; rw [HD.out] at this; exact this
    subst hr
    exact ⟨rfl, .same H.out (Only.refl _ _)⟩
  | false =>
    rw [hd] at c4
    have HD := hide hd
    clear hd
    cases b with
    | true =>
      go_enter Try.func28, Try.ntmps28
      go_wp2_with (first
        | (go_at_call 59; refine (fail_any g b1 b2 A c T _ hD5.out hTk1 hTk2 hTl).mono ?_; rintro x w6 ⟨b2', rfl, hD6, ho6, hb6⟩)
        | (go_at_call 58; refine HFA.out.mono ?_; rintro x w5 ⟨rfl, hd5, ho5⟩; have hD5 := hide hd5; clear hd5))
      go_ret
      have hz := ho5.size
      have hr : r = (8, T.failed) := by have := HR.out; rw [HD.out] at this; exact this
      subst hr
      exact ⟨rfl, b1, b2', none, 0, hD6, (ho5.mono (T := [g, b1]) (by simp)).trans ho6 (fun t ht _ => ht), .inl rfl, .inr (by omega), fun k hk => by cases hk⟩
    | false =>
      go_enter Try.func28, Try.ntmps28
      go_upto_region 6 with (first
        | (go_at_call 60; refine (clone_any b2 T.seen _ hD5.out.seen).mono ?_; rintro x w6 ⟨rfl, hm6, ho6, hs6⟩; have hD6 := hide (hD5.out.only ho6 (by simp) (by simp) (by simp) (by simp)); have d1 := hD6.out.c1; have d3 := hD6.out.c3; have f1 := hD6.out.frozen 1; have f3 := hD6.out.frozen 3)
        | (go_at_call 58; refine HFA.out.mono ?_; rintro x w5 ⟨rfl, hd5, ho5⟩; have hD5 := hide hd5; have d2 := hd5.c2; have hgl := hd5.lt; clear hd5))
      have hfin := hide (resynced g b1 b2 A c T w6 hD6.out w5.heap.size hm6 (by have := hD5.out.seen.lt; omega))
      have hz := ho5.size
      go_wp2
      go_ret
      have hr : r = (0, { T with lies := T.seen, waits := [] }) := by have := HR.out; rw [HD.out] at this; exact this
      subst hr
      exact ⟨rfl, w5.heap.size, b2, none, 0, hfin.out.1, ((ho5.mono (T := [g, b1]) (by simp)).trans ho6 (by simp)).trans hfin.out.2 (fun t ht hl => by simp at ht ⊢; exact .inl ht), .inr (by omega), .inl rfl, fun k hk => by cases hk⟩
end
end Go.Proofs.Ytljkaafdajpmkaa
