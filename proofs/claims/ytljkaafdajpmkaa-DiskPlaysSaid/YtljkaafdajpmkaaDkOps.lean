/- The disk's calls: Write, Rename, Remove, Read. -/
import Derived.Test.YtljkaafdajpmkaaDkWait
namespace Go.Proofs.Ytljkaafdajpmkaa
open Go.RowKit
set_option linter.unusedVariables false

/-- Is it a path? -/
def pathOk (s : ByteArray) : Bool := decide (1 ≤ s.size) && decide (s.size ≤ 255)
theorem path_any (s : ByteArray) (w : World) (hs : s.size ≤ maxLen) : Calls Try.prog 82 #[.string s] w fun e w' => e = .returned (.bool (pathOk s)) ∧ w' = w := by
  unfold maxLen at hs
  have hl : s.toList.length = s.size := by rw [ByteArray.toList_eq, Array.length_toList]; rfl
  by_cases h0 : s.size = 0
  · have he : s.toList.isEmpty = true := by rw [List.isEmpty_iff_length_eq_zero]; omega
    have hp : pathOk s = false := by simp [pathOk, h0]
    rw [hp]
    clear hp hl
    go_enter Try.func82, Try.ntmps82
    go_wp2
    go_ret
    exact ⟨rfl, rfl⟩
  · have he : s.toList.isEmpty = false := by
      cases hb : s.toList.isEmpty
      · rfl
      · rw [List.isEmpty_iff_length_eq_zero] at hb
        omega
    have hp : pathOk s = decide ((s.size : Int) ≤ 255) := by
      have : decide (1 ≤ s.size) = true := by simp only [decide_eq_true_eq]; omega
      unfold pathOk
      rw [this, Bool.true_and]
      congr 1
      simp
      omega
    rw [hp]
    clear hp h0 hl
    by_cases h255 : (s.size : Int) ≤ 255
    · have hd : decide ((s.size : Int) ≤ 255) = true := by simpa using h255
      rw [hd]
      go_enter Try.func82, Try.ntmps82
      go_wp2
      go_ret
      exact ⟨rfl, rfl⟩
    · have hd : decide ((s.size : Int) ≤ 255) = false := by simpa using h255
      rw [hd]
      go_enter Try.func82, Try.ntmps82
      go_wp2
      go_ret
      exact ⟨rfl, rfl⟩

/-- What a call may lean on. -/
structure DiskS.Fit (S : DiskS) : Prop where
  left : 0 ≤ S.left ∧ S.left ≤ 9223372036854775807
  keep : 0 ≤ S.keep ∧ S.keep < 18446744073709551616
  waits : S.waits.length < 1000000
def DiskS.write (S : DiskS) (p t : ByteArray) : Int × DiskS := if S.down then (8, S) else if pathOk p then S.wait ⟨0, p, t⟩ else (12, S)
def DiskS.rename (S : DiskS) (p t : ByteArray) : Int × DiskS := if S.down then (8, S) else if pathOk t then (if (mget S.seen p).isSome then S.wait ⟨1, p, t⟩ else (5, S)) else (12, S)
def DiskS.remove (S : DiskS) (p : ByteArray) : Int × DiskS := if S.down then (8, S) else if (mget S.seen p).isSome then S.wait ⟨2, p, ⟨#[]⟩⟩ else (5, S)
def DiskS.read (S : DiskS) (p : ByteArray) : ByteArray × Int := if S.down then (⟨#[]⟩, 8) else match mget S.seen p with
  | some x => (x, 0)
  | none => (⟨#[]⟩, 5)
def CallPost (w : World) (g b1 b2 : Nat) (A : Option Addr) (r : Int × DiskS) (e : Ending) (w' : World) : Prop :=
  e = .returned (.int .i64 r.1) ∧ DiskPost w g b1 b2 A r.2 w'
theorem DiskPost.same {w w' : World} {g b1 b2 : Nat} {A : Option Addr} {c : Nat} {S : DiskS} (h : DiskAt w g b1 b2 A c S) (ho : Only [] w w') : DiskPost w g b1 b2 A S w' :=
  ⟨b1, b2, A, c, h.only ho (by simp) (by simp) (by simp) (by simp), ho.mono (by simp), .inl rfl, .inl rfl, fun k hk => .inl hk⟩
section
variable (g b1 b2 : Nat) (A : Option Addr) (c : Nat) (S : DiskS) (w : World) (h : DiskAt w g b1 b2 A c S) (hf : S.Fit)
include h hf
set_option maxHeartbeats 2000000 in
set_option maxRecDepth 100000 in
theorem write_any (p t : ByteArray) (hp : p.size ≤ maxLen) (ht : tookOf (effDo S.seen ⟨0, p, t⟩) ≤ 4611686018427387904) :
    Calls Try.prog 51 #[.pointer (some ⟨g, 0, none⟩), .string p, .string t] w (CallPost w g b1 b2 A (S.write p t)) := by
  have c4 := h.c4
  have H := hide h
  have hw := hide (wait_any g b1 b2 A c S ⟨0, p, t⟩ w h hf.left.1 hf.left.2 hf.keep.1 hf.keep.2 hf.waits ht)
  have hpa := hide (fun W => path_any p W hp)
  obtain ⟨r, hr⟩ : ∃ r, r = S.write p t := ⟨_, rfl⟩
  rw [← hr]
  unfold DiskS.write at hr
  have HR := hide hr
  clear hr
  clear h hf ht
  cases hd : S.down with
  | true =>
    rw [hd] at c4
    have HD := hide hd
    clear hd
    go_enter Try.func51, Try.ntmps51
    go_wp2
    go_ret
    have hr : r = (8, S) := by have := HR.out; rw [HD.out] at this; exact this
    subst hr
    exact ⟨rfl, .same H.out (Only.refl _ _)⟩
  | false =>
    rw [hd] at c4
    have HD := hide hd
    clear hd
    cases hpo : pathOk p with
    | true =>
      rw [hpo] at hpa
      have HP := hide hpo
      clear hpo
      go_enter Try.func51, Try.ntmps51
      go_wp2_with (first
        | (go_at_call 82; refine (hpa.out _).mono ?_; rintro e w1 ⟨rfl, rfl⟩)
        | (go_at_call 83; refine hw.out.mono ?_; rintro e w1 ⟨rfl, hpost⟩))
      go_ret
      have hr : r = S.wait ⟨0, p, t⟩ := by have := HR.out; rw [HD.out, HP.out] at this; exact this
      subst hr
      exact ⟨rfl, hpost⟩
    | false =>
      rw [hpo] at hpa
      have HP := hide hpo
      clear hpo
      go_enter Try.func51, Try.ntmps51
      go_wp2_with (go_at_call 82; refine (hpa.out _).mono ?_; rintro e w1 ⟨rfl, rfl⟩)
      go_ret
      have hr : r = (12, S) := by have := HR.out; rw [HD.out, HP.out] at this; exact this
      subst hr
      exact ⟨rfl, .same H.out (Only.refl _ _)⟩
set_option maxHeartbeats 2000000 in
set_option maxRecDepth 100000 in
theorem rename_any (p t : ByteArray) (hp : t.size ≤ maxLen) (ht : tookOf (effDo S.seen ⟨1, p, t⟩) ≤ 4611686018427387904) :
    Calls Try.prog 52 #[.pointer (some ⟨g, 0, none⟩), .string p, .string t] w (CallPost w g b1 b2 A (S.rename p t)) := by
  have c4 := h.c4
  have c2 := h.c2
  have l1 := h.seen.look2 (P := Try.prog) Try.underlying102 Try.underlying9 (⟨#[]⟩ : ByteArray) (zero9 w) p
  have H := hide h
  have hw := hide (wait_any g b1 b2 A c S ⟨1, p, t⟩ w h hf.left.1 hf.left.2 hf.keep.1 hf.keep.2 hf.waits ht)
  have hpa := hide (fun W => path_any t W hp)
  obtain ⟨r, hr⟩ : ∃ r, r = S.rename p t := ⟨_, rfl⟩
  rw [← hr]
  unfold DiskS.rename at hr
  have HR := hide hr
  clear hr h hf ht
  obtain ⟨th, hth⟩ : ∃ b, (mget S.seen p).isSome = b := ⟨_, rfl⟩
  rw [hth] at l1
  have HT := hide hth
  clear hth
  generalize (mget S.seen p).getD ⟨#[]⟩ = old at *
  cases hd : S.down with
  | true =>
    rw [hd] at c4
    have HD := hide hd
    clear hd
    go_enter Try.func52, Try.ntmps52
    go_wp2
    go_ret
    have hr : r = (8, S) := by have := HR.out; rw [HD.out] at this; exact this
    subst hr
    exact ⟨rfl, .same H.out (Only.refl _ _)⟩
  | false =>
    rw [hd] at c4
    have HD := hide hd
    clear hd
    cases hpo : pathOk t with
    | true =>
      rw [hpo] at hpa
      have HP := hide hpo
      clear hpo
      cases th with
      | true =>
        go_enter Try.func52, Try.ntmps52
        go_wp2_with (first
          | (go_at_call 82; refine (hpa.out _).mono ?_; rintro e w1 ⟨rfl, rfl⟩)
          | (go_at_call 83; refine hw.out.mono ?_; rintro e w1 ⟨rfl, hpost⟩))
        go_ret
        have hr : r = S.wait ⟨1, p, t⟩ := by have := HR.out; rw [HD.out, HP.out, HT.out] at this; exact this
        subst hr
        exact ⟨rfl, hpost⟩
      | false =>
        go_enter Try.func52, Try.ntmps52
        go_wp2_with (go_at_call 82; refine (hpa.out _).mono ?_; rintro e w1 ⟨rfl, rfl⟩)
        go_ret
        have hr : r = (5, S) := by have := HR.out; rw [HD.out, HP.out, HT.out] at this; exact this
        subst hr
        exact ⟨rfl, .same H.out (Only.refl _ _)⟩
    | false =>
      rw [hpo] at hpa
      have HP := hide hpo
      clear hpo
      go_enter Try.func52, Try.ntmps52
      go_wp2_with (go_at_call 82; refine (hpa.out _).mono ?_; rintro e w1 ⟨rfl, rfl⟩)
      go_ret
      have hr : r = (12, S) := by have := HR.out; rw [HD.out, HP.out] at this; exact this
      subst hr
      exact ⟨rfl, .same H.out (Only.refl _ _)⟩

set_option maxHeartbeats 2000000 in
set_option maxRecDepth 100000 in
theorem remove_any (p : ByteArray) (ht : tookOf (effDo S.seen ⟨2, p, ⟨#[]⟩⟩) ≤ 4611686018427387904) :
    Calls Try.prog 53 #[.pointer (some ⟨g, 0, none⟩), .string p] w (CallPost w g b1 b2 A (S.remove p)) := by
  have c4 := h.c4
  have c2 := h.c2
  have l1 := h.seen.look2 (P := Try.prog) Try.underlying102 Try.underlying9 (⟨#[]⟩ : ByteArray) (zero9 w) p
  have H := hide h
  have hw := hide (wait_any g b1 b2 A c S ⟨2, p, ⟨#[]⟩⟩ w h hf.left.1 hf.left.2 hf.keep.1 hf.keep.2 hf.waits ht)
  obtain ⟨r, hr⟩ : ∃ r, r = S.remove p := ⟨_, rfl⟩
  rw [← hr]
  unfold DiskS.remove at hr
  have HR := hide hr
  clear hr h hf ht
  obtain ⟨th, hth⟩ : ∃ b, (mget S.seen p).isSome = b := ⟨_, rfl⟩
  rw [hth] at l1
  have HT := hide hth
  clear hth
  generalize (mget S.seen p).getD ⟨#[]⟩ = old at *
  cases hd : S.down with
  | true =>
    rw [hd] at c4
    have HD := hide hd
    clear hd
    go_enter Try.func53, Try.ntmps53
    go_wp2
    go_ret
    have hr : r = (8, S) := by have := HR.out; rw [HD.out] at this; exact this
    subst hr
    exact ⟨rfl, .same H.out (Only.refl _ _)⟩
  | false =>
    rw [hd] at c4
    have HD := hide hd
    clear hd
    cases th with
    | true =>
      go_enter Try.func53, Try.ntmps53
      go_wp2_with (go_at_call 83; refine hw.out.mono ?_; rintro e w1 ⟨rfl, hpost⟩)
      go_ret
      have hr : r = S.wait ⟨2, p, ⟨#[]⟩⟩ := by have := HR.out; rw [HD.out, HT.out] at this; exact this
      subst hr
      exact ⟨rfl, hpost⟩
    | false =>
      go_enter Try.func53, Try.ntmps53
      go_wp2
      go_ret
      have hr : r = (5, S) := by have := HR.out; rw [HD.out, HT.out] at this; exact this
      subst hr
      exact ⟨rfl, .same H.out (Only.refl _ _)⟩
omit hf
def ReadPost (r : ByteArray × Int) (w : World) (e : Ending) (w' : World) : Prop := e = .returned (.tuple #[.string r.1, .int .i64 r.2]) ∧ w' = w
set_option maxHeartbeats 2000000 in
set_option maxRecDepth 100000 in
theorem read_any (p : ByteArray) : Calls Try.prog 30 #[.pointer (some ⟨g, 0, none⟩), .string p] w (ReadPost (S.read p) w) := by
  have c4 := h.c4
  have c2 := h.c2
  have l1 := h.seen.look2 (P := Try.prog) Try.underlying102 Try.underlying9 (⟨#[]⟩ : ByteArray) (zero9 w) p
  obtain ⟨r, hr⟩ : ∃ r, r = S.read p := ⟨_, rfl⟩
  rw [← hr]
  unfold DiskS.read at hr
  have HR := hide hr
  clear hr h
  cases hd : S.down with
  | true =>
    rw [hd] at c4
    have HD := hide hd
    clear hd
    go_enter Try.func30, Try.ntmps30
    go_wp2
    go_ret2
    have hr : r = (⟨#[]⟩, 8) := by have := HR.out; rw [HD.out] at this; exact this
    subst hr
    exact ⟨rfl, rfl⟩
  | false =>
    rw [hd] at c4
    have HD := hide hd
    clear hd
    cases hg : mget S.seen p with
    | some x =>
      rw [hg] at l1
      simp only [Option.isSome_some, Option.getD_some] at l1
      have HT := hide hg
      clear hg
      go_enter Try.func30, Try.ntmps30
      go_wp2
      go_ret2
      have hr : r = (x, 0) := by have := HR.out; rw [HD.out, HT.out] at this; exact this
      subst hr
      exact ⟨rfl, rfl⟩
    | none =>
      rw [hg] at l1
      simp only [Option.isSome_none, Option.getD_none] at l1
      have HT := hide hg
      clear hg
      go_enter Try.func30, Try.ntmps30
      go_wp2
      go_ret2
      have hr : r = (⟨#[]⟩, 5) := by have := HR.out; rw [HD.out, HT.out] at this; exact this
      subst hr
      exact ⟨rfl, rfl⟩
end
end Go.Proofs.Ytljkaafdajpmkaa
