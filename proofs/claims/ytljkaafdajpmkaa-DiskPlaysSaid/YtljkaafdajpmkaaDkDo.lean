/- An act on a disk. -/
import Derived.Test.YtljkaafdajpmkaaDkActs
namespace Go.Proofs.Ytljkaafdajpmkaa
open Go.RowKit
set_option linter.unusedVariables false

section
variable {w W W' W2 : World} {K : List Nat} {g : Nat} {S : DiskS}
theorem DIn.keepB (h : DIn w W K g S) (ho : Only [] W W') : KeepB K W W' := by
  obtain ⟨b1, b2, A, c, h⟩ := h
  exact ⟨ho.size, fun k hk => ho.block k (h.kept k hk).1 (by simp)⟩
theorem KeepB.trans (h : KeepB K W W') (h2 : KeepB K W' W2) : KeepB K W W2 := ⟨Nat.le_trans h.1 h2.1, fun k hk => (h2.2 k hk).trans (h.2 k hk)⟩
theorem own_arg {base n : Nat} {e : TypeId} {v : Value} {xs : List Value} (h : W.ownsRow base e 1 v n xs) : ∃ A c, v = .slice A n c ∧ n ≤ c ∧ ArgAt W A xs := by
  obtain ⟨A, c, hv, hc, hcells⟩ := own_form h
  exact ⟨A, c, hv, hc, fun j u hu => by obtain ⟨g, h1, _, h2, h3⟩ := hcells j u hu; exact ⟨g, h1, h2, h3⟩⟩
end
/-- An act on a disk: what it answers, and the disk behind it. -/
def DiskS.act (S : DiskS) (a : Act) : (ByteArray × List ByteArray × Int) × DiskS :=
  if a.kind = 1 then ((⟨#[]⟩, [], (S.write a.path a.text).1), (S.write a.path a.text).2) else
  if a.kind = 2 then ((⟨#[]⟩, [], (S.rename a.path a.text).1), (S.rename a.path a.text).2) else
  if a.kind = 3 then ((⟨#[]⟩, [], (S.remove a.path).1), (S.remove a.path).2) else
  if a.kind = 4 then ((⟨#[]⟩, [], S.sync.1), S.sync.2) else
  if a.kind = 5 then ((⟨#[]⟩, [], 0), S.armed2 a.at_ a.keep) else
  if a.kind = 6 then ((⟨#[]⟩, [], 0), S.started) else
  if a.kind = 7 then (((S.read a.path).1, [], (S.read a.path).2), S) else
  if a.kind = 8 then ((⟨#[]⟩, S.list a.path, 0), S) else ((⟨#[]⟩, [], 0), S)
theorem Sound.act {n : Nat} {S : DiskS} {a : Act} (h : Sound n S) (ha : a.Is) : Sound (n + a.sz) (S.act a).2 := by
  unfold DiskS.act Act.sz
  split
  · exact (h.write _ _).le (by omega)
  · split
    · exact (h.rename _ _).le (by omega)
    · split
      · exact (h.remove _).le (by omega)
      · split
        · exact h.sync.le (by omega)
        · split
          · exact (h.armed ha.at_ ha.keep).le (by omega)
          · split
            · exact h.started.le (by omega)
            · split
              · exact h.le (by omega)
              · split <;> exact h.le (by omega)
def Act.val (a : Act) : Value := .agg #[.int .i64 a.kind, .string a.path, .string a.text, .int .i64 a.at_, .int .u64 a.keep]
def DoPost (w W : World) (K : List Nat) (g : Nat) (r : (ByteArray × List ByteArray × Int) × DiskS) (e : Ending) (W' : World) : Prop :=
  ∃ A c, e = .returned (.tuple #[.string r.1.1, .slice A r.1.2.1.length c, .int .i64 r.1.2.2]) ∧ ArgAt W' A (r.1.2.1.map Value.string) ∧ DIn w W' K g r.2 ∧ KeepB K W W'
theorem do_nil {w W W' : World} {K : List Nat} {g : Nat} {s : ByteArray} {f : Int} {S' : DiskS} (hd : DIn w W' K g S') (hk : KeepB K W W') :
    DoPost w W K g ((s, [], f), S') (.returned (.tuple #[.string s, .slice none 0 0, .int .i64 f])) W' := ⟨none, 0, rfl, ArgAt.nil _ _, hd, hk⟩
set_option maxHeartbeats 4000000 in
set_option maxRecDepth 100000 in
theorem do_act (a : Act) {w W : World} {K : List Nat} {g n : Nat} {S : DiskS} (hs : Sound n S) (hn : n ≤ 90000) (h : DIn w W K g S) (hp : a.path.size ≤ 90000) (ht : a.text.size ≤ 90000) :
    Calls Try.prog 16 #[.pointer (some ⟨g, 0, none⟩), .agg #[.int .i64 a.kind, .string a.path, .string a.text, .int .i64 a.at_, .int .u64 a.keep]] W (DoPost w W K g (S.act a)) := by
  obtain ⟨k, p, t, at_, keep⟩ := a
  simp only at hp ht ⊢
  obtain ⟨r, hr⟩ : ∃ r, r = S.act ⟨k, p, t, at_, keep⟩ := ⟨_, rfl⟩
  rw [← hr]
  unfold DiskS.act at hr
  simp only at hr
  have HR := hide hr
  have hoB : Only [] W (W.alloc (.cells #[.int .i64 k, .string p, .string t, .int .i64 at_, .int .u64 keep] 39)) := (Only.refl [] W).alloc _
  have hbk := hide (heap_alloc_new W (.cells #[.int .i64 k, .string p, .string t, .int .i64 at_, .int .u64 keep] 39))
  have hD := hide (h.quiet hoB)
  have hK := hide (h.keepB hoB)
  have hS := hide hs
  clear hr hs h
  go_enter Try.func16, Try.ntmps16
  go_upto_region 1 with fail
  generalize W.alloc (.cells #[.int .i64 k, .string p, .string t, .int .i64 at_, .int .u64 keep] 39) = wB at *
  generalize W.heap.size = bx at *
  have hb := hbk.out
  have c0 : wB.cell? ⟨bx, 0, none⟩ = some (.int .i64 k) := by simp [World.cell?, hb]
  have c1 : wB.cell? ⟨bx, 1, none⟩ = some (.string p) := by simp [World.cell?, hb]
  have c2 : wB.cell? ⟨bx, 2, none⟩ = some (.string t) := by simp [World.cell?, hb]
  have c3 : wB.cell? ⟨bx, 3, none⟩ = some (.int .i64 at_) := by simp [World.cell?, hb]
  have c4 : wB.cell? ⟨bx, 4, none⟩ = some (.int .u64 keep) := by simp [World.cell?, hb]
  clear hb hoB
  by_cases h1 : k = 1
  · subst h1
    have hr : r = ((⟨#[]⟩, [], (S.write p t).1), (S.write p t).2) := by rw [HR.out]; simp
    have HRr := hide hr
    clear hr HR
    have HC := hide (write_in hS.out hn hD.out p t hp ht)
    go_wp2_with (go_at_call 51; refine HC.out.mono ?_; rintro e w1 ⟨rfl, hin, hke⟩)
    go_ret3
    rw [HRr.out]
    exact do_nil hin (hK.out.trans hke)
  have d1 : (k == 1) = false := by simpa using h1
  by_cases h2 : k = 2
  · subst h2
    have hr : r = ((⟨#[]⟩, [], (S.rename p t).1), (S.rename p t).2) := by rw [HR.out]; simp
    have HRr := hide hr
    clear hr HR h1 d1
    have HC := hide (rename_in hS.out hn hD.out p t hp ht)
    go_wp2_with (go_at_call 52; refine HC.out.mono ?_; rintro e w1 ⟨rfl, hin, hke⟩)
    go_ret3
    rw [HRr.out]
    exact do_nil hin (hK.out.trans hke)
  have d2 : (k == 2) = false := by simpa using h2
  by_cases h3 : k = 3
  · subst h3
    have hr : r = ((⟨#[]⟩, [], (S.remove p).1), (S.remove p).2) := by rw [HR.out]; simp
    have HRr := hide hr
    clear hr HR h1 d1 h2 d2
    have HC := hide (remove_in hS.out hn hD.out p hp)
    go_wp2_with (go_at_call 53; refine HC.out.mono ?_; rintro e w1 ⟨rfl, hin, hke⟩)
    go_ret3
    rw [HRr.out]
    exact do_nil hin (hK.out.trans hke)
  have d3 : (k == 3) = false := by simpa using h3
  by_cases h4 : k = 4
  · subst h4
    have hr : r = ((⟨#[]⟩, [], S.sync.1), S.sync.2) := by rw [HR.out]; simp
    have HRr := hide hr
    clear hr HR h1 d1 h2 d2 h3 d3
    have HC := hide (sync_in hS.out hn hD.out)
    go_wp2_with (go_at_call 28; refine HC.out.mono ?_; rintro e w1 ⟨rfl, hin, hke⟩)
    go_ret3
    rw [HRr.out]
    exact do_nil hin (hK.out.trans hke)
  have d4 : (k == 4) = false := by simpa using h4
  by_cases h5 : k = 5
  · subst h5
    have hr : r = ((⟨#[]⟩, [], 0), S.armed2 at_ keep) := by rw [HR.out]; simp
    have HRr := hide hr
    clear hr HR h1 d1 h2 d2 h3 d3 h4 d4
    have HC := hide (arm_in hD.out at_ keep)
    go_wp2_with (go_at_call 31; refine HC.out.mono ?_; rintro e w1 ⟨rfl, hin, hke⟩)
    go_ret3
    rw [HRr.out]
    exact do_nil hin (hK.out.trans hke)
  have d5 : (k == 5) = false := by simpa using h5
  by_cases h6 : k = 6
  · subst h6
    have hr : r = ((⟨#[]⟩, [], 0), S.started) := by rw [HR.out]; simp
    have HRr := hide hr
    clear hr HR h1 d1 h2 d2 h3 d3 h4 d4 h5 d5
    have HC := hide (start_in hD.out)
    go_wp2_with (go_at_call 32; refine HC.out.mono ?_; rintro e w1 ⟨rfl, hin, hke⟩)
    go_ret3
    rw [HRr.out]
    exact do_nil hin (hK.out.trans hke)
  have d6 : (k == 6) = false := by simpa using h6
  by_cases h7 : k = 7
  · subst h7
    have hr : r = (((S.read p).1, [], (S.read p).2), S) := by rw [HR.out]; simp
    have HRr := hide hr
    clear hr HR h1 d1 h2 d2 h3 d3 h4 d4 h5 d5 h6 d6
    have HC := hide (read_in hD.out p)
    go_wp2_with (go_at_call 30; refine HC.out.mono ?_; rintro e w1 ⟨rfl, rfl⟩)
    go_ret3
    rw [HRr.out]
    exact do_nil hD.out hK.out
  have d7 : (k == 7) = false := by simpa using h7
  by_cases h8 : k = 8
  · subst h8
    have hr : r = ((⟨#[]⟩, S.list p, 0), S) := by rw [HR.out]; simp
    have HRr := hide hr
    clear hr HR h1 d1 h2 d2 h3 d3 h4 d4 h5 d5 h6 d6 h7 d7
    have HC := hide (list_in hS.out hn hD.out p hp)
    generalize hL : S.list p = L at *
    have HLL := hide hL
    clear hL
    go_wp2_with (go_at_call 29; refine HC.out.mono ?_; rintro e w1 ⟨v, rfl, hown, ho1⟩; obtain ⟨A1, e1, rfl, hc1, ha1⟩ := own_arg hown; clear hown)
    go_ret3
    rw [HRr.out]
    exact ⟨A1, e1, rfl, ha1, hD.out.quiet ho1, hK.out.trans (hD.out.keepB ho1)⟩
  have d8 : (k == 8) = false := by simpa using h8
  have hr : r = ((⟨#[]⟩, [], 0), S) := by rw [HR.out, if_neg h1, if_neg h2, if_neg h3, if_neg h4, if_neg h5, if_neg h6, if_neg h7, if_neg h8]
  have HRr := hide hr
  clear hr HR h1 h2 h3 h4 h5 h6 h7 h8
  go_wp2
  go_ret3
  rw [HRr.out]
  exact do_nil hD.out hK.out
end Go.Proofs.Ytljkaafdajpmkaa
