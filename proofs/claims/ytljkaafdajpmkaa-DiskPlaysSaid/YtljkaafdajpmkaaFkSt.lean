/- A disk behind its pointer, in a law; blocks beside it, told by what they hold. -/
import Derived.Test.YtljkaafdajpmkaaDkDo
namespace Go.Proofs.Ytljkaafdajpmkaa
open Go.RowKit
set_option linter.unusedVariables false

/-- A disk that was made behind the world w; the blocks K are none of its. -/
structure FSt (w W : World) (K : List Nat) (g b1 b2 : Nat) (A : Option Addr) (c : Nat) (S : DiskS) : Prop where
  at_ : DiskAt W g b1 b2 A c S
  only : Only [] w W
  lo : w.heap.size ≤ g ∧ w.heap.size ≤ b1
  kept : ∀ k ∈ K, k < W.heap.size ∧ k ≠ g ∧ k ≠ b1
def FIn (w W : World) (K : List Nat) (g : Nat) (S : DiskS) : Prop := ∃ b1 b2 A c, FSt w W K g b1 b2 A c S
section
variable {w W W' : World} {K : List Nat} {g : Nat} {S : DiskS}
theorem FIn.only (h : FIn w W K g S) : Only [] w W := by obtain ⟨_, _, _, _, h⟩ := h; exact h.only
theorem FIn.quiet (h : FIn w W K g S) (ho : Only [] W W') : FIn w W' K g S := by
  obtain ⟨b1, b2, A, c, h⟩ := h
  exact ⟨b1, b2, A, c, h.at_.only ho (by simp) (by simp) (by simp) (by simp), h.only.trans ho (by simp), h.lo, fun k hk => ⟨Nat.lt_of_lt_of_le (h.kept k hk).1 ho.size, (h.kept k hk).2⟩⟩
/-- Blocks that read otherwise than the disk's are kept. -/
theorem FIn.frame {K' : List Nat} (h : FIn w W K g S) (hK : ∀ k ∈ K', ∃ v, W.cell? ⟨k, 1, none⟩ = some v ∧ ∀ m, v ≠ .map m) : FIn w W K' g S := by
  obtain ⟨b1, b2, A, c, h⟩ := h
  refine ⟨b1, b2, A, c, h.at_, h.only, h.lo, fun k hk => ?_⟩
  obtain ⟨v, hv, hm⟩ := hK k hk
  refine ⟨World.block_lt_of_cell? W _ hv, fun e => ?_, fun e => ?_⟩
  · subst e
    rw [h.at_.c1] at hv
    injection hv with hv
    exact hm _ hv.symm
  · subst e
    obtain ⟨es, clock, hb, _⟩ := h.at_.lies
    simp [World.cell?, hb] at hv
/-- A block that is no part of the disk is written. -/
theorem FIn.beside {mb : Nat} {v : Value} (h : FIn w W [] g S) (ho : Only [mb] W W') (hlo : w.heap.size ≤ mb) (hv : W.cell? ⟨mb, 1, none⟩ = some v) (hm : ∀ m, v ≠ .map m) (hs : ∀ s, v ≠ .string s) : FIn w W' [] g S := by
  obtain ⟨b1, b2, A, c, h⟩ := h
  have n1 : g ∉ [mb] := fun e => by
    obtain rfl : g = mb := by simpa using e
    rw [h.at_.c1] at hv
    injection hv with hv
    exact hm _ hv.symm
  have n2 : b1 ∉ [mb] := fun e => by
    obtain rfl : b1 = mb := by simpa using e
    obtain ⟨es, clock, hb, _⟩ := h.at_.lies
    simp [World.cell?, hb] at hv
  have n3 : b2 ∉ [mb] := fun e => by
    obtain rfl : b2 = mb := by simpa using e
    obtain ⟨es, clock, hb, _⟩ := h.at_.seen
    simp [World.cell?, hb] at hv
  refine ⟨b1, b2, A, c, ?_, h.only.trans ho (fun t ht hl => by simp at ht; omega), h.lo, by simp⟩
  cases hw : S.waits with
  | nil =>
    have hA := (h.at_.nil hw).1
    exact h.at_.only ho n1 n2 n3 (fun k hk => by rw [hA] at hk; cases hk)
  | cons e0 ws =>
    refine h.at_.only ho n1 n2 n3 (fun k hk e => ?_)
    obtain rfl : k = mb := by simpa using e
    obtain ⟨kk, hkk, _, hc⟩ := h.at_.waits 1 (.string e0.path) (by rw [hw]; rfl)
    rw [hk] at hkk
    cases hkk
    rw [hv] at hc
    injection hc with hc
    exact hs _ hc
theorem FIn.posted {b1 b2 : Nat} {A : Option Addr} {c : Nat} {S' : DiskS} (h : FSt w W K g b1 b2 A c S) (hp : DiskPost W g b1 b2 A S' W') : FIn w W' K g S' ∧ KeepB K W W' := by
  obtain ⟨b1', b2', A', c', hd, ho, h1, h2, h3⟩ := hp
  have hz := h.only.size
  refine ⟨⟨b1', b2', A', c', hd, h.only.trans ho (fun t ht hl => ?_), ⟨h.lo.1, ?_⟩, fun k hk => ?_⟩, ho.size, fun k hk => ?_⟩
  · have := h.lo
    simp at ht
    omega
  · have := h.lo
    omega
  · obtain ⟨k1, k2, k3⟩ := h.kept k hk
    exact ⟨Nat.lt_of_lt_of_le k1 ho.size, k2, by omega⟩
  · obtain ⟨k1, k2, k3⟩ := h.kept k hk
    exact ho.block k k1 (by simp; exact ⟨k2, k3⟩)

def FInPost (w W : World) (K : List Nat) (g : Nat) (r : Int × DiskS) (e : Ending) (W' : World) : Prop := e = .returned (.int .i64 r.1) ∧ FIn w W' K g r.2 ∧ KeepB K W W'
theorem fin_of {b1 b2 : Nat} {A : Option Addr} {c : Nat} {r : Int × DiskS} {f : Nat} {args : Array Value} (h : FSt w W K g b1 b2 A c S) (hc : Calls Try.prog f args W (CallPost W g b1 b2 A r)) : Calls Try.prog f args W (FInPost w W K g r) :=
  hc.mono fun _ _ hp => ⟨hp.1, FIn.posted h hp.2⟩
variable {n : Nat} (hs : Sound n S) (hn : n ≤ 90000) (h : FIn w W K g S)
include hs hn h
theorem write_fr (p t : ByteArray) (hp : p.size ≤ 90000) (ht : t.size ≤ 90000) : Calls Try.prog 51 #[.pointer (some ⟨g, 0, none⟩), .string p, .string t] W (FInPost w W K g (S.write p t)) := by
  obtain ⟨b1, b2, A, c, h⟩ := h
  refine fin_of h (write_any g b1 b2 A c S W h.at_ (hs.fit (by omega)) p t (by unfold maxLen; omega) ?_)
  have h1 := wt_do S.seen ⟨0, p, t⟩
  have h2 := took_wt (effDo S.seen ⟨0, p, t⟩)
  have h3 := hs.seen
  simp only [Eff.sz] at h1
  omega
theorem rename_fr (p t : ByteArray) (hp : p.size ≤ 90000) (ht : t.size ≤ 90000) : Calls Try.prog 52 #[.pointer (some ⟨g, 0, none⟩), .string p, .string t] W (FInPost w W K g (S.rename p t)) := by
  obtain ⟨b1, b2, A, c, h⟩ := h
  refine fin_of h (rename_any g b1 b2 A c S W h.at_ (hs.fit (by omega)) p t (by unfold maxLen; omega) ?_)
  have h1 := wt_do S.seen ⟨1, p, t⟩
  have h2 := took_wt (effDo S.seen ⟨1, p, t⟩)
  have h3 := hs.seen
  simp only [Eff.sz] at h1
  omega
theorem remove_fr (p : ByteArray) (hp : p.size ≤ 90000) : Calls Try.prog 53 #[.pointer (some ⟨g, 0, none⟩), .string p] W (FInPost w W K g (S.remove p)) := by
  obtain ⟨b1, b2, A, c, h⟩ := h
  refine fin_of h (remove_any g b1 b2 A c S W h.at_ (hs.fit (by omega)) p ?_)
  have h1 := wt_do S.seen ⟨2, p, ⟨#[]⟩⟩
  have h2 := took_wt (effDo S.seen ⟨2, p, ⟨#[]⟩⟩)
  have h3 := hs.seen
  have h4 : (⟨#[]⟩ : ByteArray).size = 0 := rfl
  simp only [Eff.sz] at h1
  omega
theorem sync_fr : Calls Try.prog 28 #[.pointer (some ⟨g, 0, none⟩)] W (FInPost w W K g S.sync) := by
  obtain ⟨b1, b2, A, c, h⟩ := h
  exact fin_of h (sync_any g b1 b2 A c S W h.at_ (hs.fit (by omega)))
theorem taken_fr : Calls Try.prog 27 #[.pointer (some ⟨g, 0, none⟩)] W (IntPost W S.taken) := by
  obtain ⟨b1, b2, A, c, h⟩ := h
  exact disk_taken_any g b1 b2 A c S W h.at_ (hs.took (by omega))
theorem list_fr (p : ByteArray) (hp : p.size ≤ 90000) : Calls Try.prog 29 #[.pointer (some ⟨g, 0, none⟩), .string p] W (ListPost W (S.list p)) := by
  obtain ⟨b1, b2, A, c, h⟩ := h
  exact list_any g b1 b2 A c S p W h.at_ (by unfold maxLen; omega) (fun q hq => hs.mem hn hq) (by have := hs.seen; have := took_wt S.seen; omega)
omit hs hn
theorem read_fr (p : ByteArray) : Calls Try.prog 30 #[.pointer (some ⟨g, 0, none⟩), .string p] W (ReadPost (S.read p) W) := by
  obtain ⟨b1, b2, A, c, h⟩ := h
  exact read_any g b1 b2 A c S W h.at_ p
theorem down_fr : Calls Try.prog 25 #[.pointer (some ⟨g, 0, none⟩)] W fun e w' => e = .returned (.bool S.down) ∧ w' = W := by
  obtain ⟨b1, b2, A, c, h⟩ := h
  exact down_any g b1 b2 A c S W h.at_
theorem waiting_fr : Calls Try.prog 26 #[.pointer (some ⟨g, 0, none⟩)] W fun e w' => e = .returned (.int .i64 S.waits.length) ∧ w' = W := by
  obtain ⟨b1, b2, A, c, h⟩ := h
  exact waiting_any g b1 b2 A c S W h.at_
def FVoidPost (w W : World) (K : List Nat) (g : Nat) (S' : DiskS) (e : Ending) (W' : World) : Prop := e = .returned (.tuple #[]) ∧ FIn w W' K g S' ∧ KeepB K W W'
theorem arm_fr (k m : Int) : Calls Try.prog 31 #[.pointer (some ⟨g, 0, none⟩), .agg #[.int .i64 k, .int .u64 m]] W (FVoidPost w W K g (S.armed2 k m)) := by
  obtain ⟨b1, b2, A, c, h⟩ := h
  exact (arm_any g b1 b2 A c S k m W h.at_).mono fun _ _ hp => ⟨hp.1, FIn.posted h ⟨b1, b2, A, c, hp.2.1, hp.2.2.mono (by simp), .inl rfl, .inl rfl, fun k hk => .inl hk⟩⟩
theorem start_fr : Calls Try.prog 32 #[.pointer (some ⟨g, 0, none⟩)] W (FVoidPost w W K g S.started) := by
  obtain ⟨b1, b2, A, c, h⟩ := h
  exact (start_any g b1 b2 A c S W h.at_).mono fun _ _ hp => ⟨hp.1, FIn.posted h ⟨b1, b2, A, c, hp.2.1, hp.2.2.mono (by simp), .inl rfl, .inl rfl, fun k hk => .inl hk⟩⟩
end
/-- A new disk. -/
def FNewIn (room : Int) (w : World) (e : Ending) (w' : World) : Prop :=
  ∃ g, e = .returned (.tuple #[.pointer (some ⟨g, 0, none⟩), .int .i64 0]) ∧ FIn w w' [] g (DiskS.fresh room) ∧ w.heap.size ≤ g
theorem new_fr (room : Int) (w : World) (h0 : 0 ≤ room) (h1 : room ≤ 16777216) : Calls Try.prog 14 #[.int .i64 room] w (FNewIn room w) := by
  refine (new_any room w).mono fun e w' hp => ?_
  unfold NewPost at hp
  rw [if_neg (by omega)] at hp
  obtain ⟨g, b1, b2, he, hd, ho, hg, hb1, hb2⟩ := hp
  exact ⟨g, he, ⟨b1, b2, none, 0, hd, ho, ⟨hg, hb1⟩, by simp⟩, hg⟩
section
variable {w W W' W2 : World} {K : List Nat} {g : Nat} {S : DiskS}
theorem FIn.keepB (h : FIn w W K g S) (ho : Only [] W W') : KeepB K W W' := by
  obtain ⟨b1, b2, A, c, h⟩ := h
  exact ⟨ho.size, fun k hk => ho.block k (h.kept k hk).1 (by simp)⟩
end
def FDoPost (w W : World) (K : List Nat) (g : Nat) (r : (ByteArray × List ByteArray × Int) × DiskS) (e : Ending) (W' : World) : Prop :=
  ∃ A c, e = .returned (.tuple #[.string r.1.1, .slice A r.1.2.1.length c, .int .i64 r.1.2.2]) ∧ ArgAt W' A (r.1.2.1.map Value.string) ∧ FIn w W' K g r.2 ∧ KeepB K W W'
theorem fdo_nil {w W W' : World} {K : List Nat} {g : Nat} {s : ByteArray} {f : Int} {S' : DiskS} (hd : FIn w W' K g S') (hk : KeepB K W W') :
    FDoPost w W K g ((s, [], f), S') (.returned (.tuple #[.string s, .slice none 0 0, .int .i64 f])) W' := ⟨none, 0, rfl, ArgAt.nil _ _, hd, hk⟩
set_option maxHeartbeats 4000000 in
set_option maxRecDepth 100000 in
theorem do_fr (a : Act) {w W : World} {K : List Nat} {g n : Nat} {S : DiskS} (hs : Sound n S) (hn : n ≤ 90000) (h : FIn w W K g S) (hp : a.path.size ≤ 90000) (ht : a.text.size ≤ 90000) :
    Calls Try.prog 16 #[.pointer (some ⟨g, 0, none⟩), .agg #[.int .i64 a.kind, .string a.path, .string a.text, .int .i64 a.at_, .int .u64 a.keep]] W (FDoPost w W K g (S.act a)) := by
  obtain ⟨k, p, t, at_, keep⟩ := a
  simp only at hp ht ⊢
  obtain ⟨r, hr⟩ : ∃ r, r = S.act ⟨k, p, t, at_, keep⟩ := ⟨_, rfl⟩
  rw [← hr]
  unfold DiskS.act at hr
  simp only at hr
  have HR := hide hr
  have hoB : Only [] W (W.alloc (.cells #[.int .i64 k, .string p, .string t, .int .i64 at_, .int .u64 keep] 39)) := (Only.refl [] W).alloc _
  have hbk := hide (heap_alloc_new W (.cells #[.int .i64 k, .string p, .string t, .int .i64 at_, .int .u64 keep] 39))
  have hD := hide (h.quiet hoB)
  have hK := hide (h.keepB hoB)
  have hS := hide hs
  clear hr hs h
  go_enter Try.func16, Try.ntmps16
  go_upto_region 1 with fail
  generalize W.alloc (.cells #[.int .i64 k, .string p, .string t, .int .i64 at_, .int .u64 keep] 39) = wB at *
  generalize W.heap.size = bx at *
  have hb := hbk.out
  have c0 : wB.cell? ⟨bx, 0, none⟩ = some (.int .i64 k) := by simp [World.cell?, hb]
  have c1 : wB.cell? ⟨bx, 1, none⟩ = some (.string p) := by simp [World.cell?, hb]
  have c2 : wB.cell? ⟨bx, 2, none⟩ = some (.string t) := by simp [World.cell?, hb]
  have c3 : wB.cell? ⟨bx, 3, none⟩ = some (.int .i64 at_) := by simp [World.cell?, hb]
  have c4 : wB.cell? ⟨bx, 4, none⟩ = some (.int .u64 keep) := by simp [World.cell?, hb]
  clear hb hoB
  by_cases h1 : k = 1
  · subst h1
    have hr : r = ((⟨#[]⟩, [], (S.write p t).1), (S.write p t).2) := by rw [HR.out]; simp
    have HRr := hide hr
    clear hr HR
    have HC := hide (write_fr hS.out hn hD.out p t hp ht)
    go_wp2_with (go_at_call 51; refine HC.out.mono ?_; rintro e w1 ⟨rfl, hin, hke⟩)
    go_ret3
    rw [HRr.out]
    exact fdo_nil hin (hK.out.trans hke)
  have d1 : (k == 1) = false := by simpa using h1
  by_cases h2 : k = 2
  · subst h2
    have hr : r = ((⟨#[]⟩, [], (S.rename p t).1), (S.rename p t).2) := by rw [HR.out]; simp
    have HRr := hide hr
    clear hr HR h1 d1
    have HC := hide (rename_fr hS.out hn hD.out p t hp ht)
    go_wp2_with (go_at_call 52; refine HC.out.mono ?_; rintro e w1 ⟨rfl, hin, hke⟩)
    go_ret3
    rw [HRr.out]
    exact fdo_nil hin (hK.out.trans hke)
  have d2 : (k == 2) = false := by simpa using h2
  by_cases h3 : k = 3
  · subst h3
    have hr : r = ((⟨#[]⟩, [], (S.remove p).1), (S.remove p).2) := by rw [HR.out]; simp
    have HRr := hide hr
    clear hr HR h1 d1 h2 d2
    have HC := hide (remove_fr hS.out hn hD.out p hp)
    go_wp2_with (go_at_call 53; refine HC.out.mono ?_; rintro e w1 ⟨rfl, hin, hke⟩)
    go_ret3
    rw [HRr.out]
    exact fdo_nil hin (hK.out.trans hke)
  have d3 : (k == 3) = false := by simpa using h3
  by_cases h4 : k = 4
  · subst h4
    have hr : r = ((⟨#[]⟩, [], S.sync.1), S.sync.2) := by rw [HR.out]; simp
    have HRr := hide hr
    clear hr HR h1 d1 h2 d2 h3 d3
    have HC := hide (sync_fr hS.out hn hD.out)
    go_wp2_with (go_at_call 28; refine HC.out.mono ?_; rintro e w1 ⟨rfl, hin, hke⟩)
    go_ret3
    rw [HRr.out]
    exact fdo_nil hin (hK.out.trans hke)
  have d4 : (k == 4) = false := by simpa using h4
  by_cases h5 : k = 5
  · subst h5
    have hr : r = ((⟨#[]⟩, [], 0), S.armed2 at_ keep) := by rw [HR.out]; simp
    have HRr := hide hr
    clear hr HR h1 d1 h2 d2 h3 d3 h4 d4
    have HC := hide (arm_fr hD.out at_ keep)
    go_wp2_with (go_at_call 31; refine HC.out.mono ?_; rintro e w1 ⟨rfl, hin, hke⟩)
    go_ret3
    rw [HRr.out]
    exact fdo_nil hin (hK.out.trans hke)
  have d5 : (k == 5) = false := by simpa using h5
  by_cases h6 : k = 6
  · subst h6
    have hr : r = ((⟨#[]⟩, [], 0), S.started) := by rw [HR.out]; simp
    have HRr := hide hr
    clear hr HR h1 d1 h2 d2 h3 d3 h4 d4 h5 d5
    have HC := hide (start_fr hD.out)
    go_wp2_with (go_at_call 32; refine HC.out.mono ?_; rintro e w1 ⟨rfl, hin, hke⟩)
    go_ret3
    rw [HRr.out]
    exact fdo_nil hin (hK.out.trans hke)
  have d6 : (k == 6) = false := by simpa using h6
  by_cases h7 : k = 7
  · subst h7
    have hr : r = (((S.read p).1, [], (S.read p).2), S) := by rw [HR.out]; simp
    have HRr := hide hr
    clear hr HR h1 d1 h2 d2 h3 d3 h4 d4 h5 d5 h6 d6
    have HC := hide (read_fr hD.out p)
    go_wp2_with (go_at_call 30; refine HC.out.mono ?_; rintro e w1 ⟨rfl, rfl⟩)
    go_ret3
    rw [HRr.out]
    exact fdo_nil hD.out hK.out
  have d7 : (k == 7) = false := by simpa using h7
  by_cases h8 : k = 8
  · subst h8
    have hr : r = ((⟨#[]⟩, S.list p, 0), S) := by rw [HR.out]; simp
    have HRr := hide hr
    clear hr HR h1 d1 h2 d2 h3 d3 h4 d4 h5 d5 h6 d6 h7 d7
    have HC := hide (list_fr hS.out hn hD.out p hp)
    generalize hL : S.list p = L at *
    have HLL := hide hL
    clear hL
    go_wp2_with (go_at_call 29; refine HC.out.mono ?_; rintro e w1 ⟨v, rfl, hown, ho1⟩; obtain ⟨A1, e1, rfl, hc1, ha1⟩ := own_arg hown; clear hown)
    go_ret3
    rw [HRr.out]
    exact ⟨A1, e1, rfl, ha1, hD.out.quiet ho1, hK.out.trans (hD.out.keepB ho1)⟩
  have d8 : (k == 8) = false := by simpa using h8
  have hr : r = ((⟨#[]⟩, [], 0), S) := by rw [HR.out, if_neg h1, if_neg h2, if_neg h3, if_neg h4, if_neg h5, if_neg h6, if_neg h7, if_neg h8]
  have HRr := hide hr
  clear hr HR h1 h2 h3 h4 h5 h6 h7 h8
  go_wp2
  go_ret3
  rw [HRr.out]
  exact fdo_nil hD.out hK.out
end Go.Proofs.Ytljkaafdajpmkaa
