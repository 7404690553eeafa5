/- awake: the answers that the document fixes. -/
import Derived.Test.YtljkaafdajpmkaaDkDo
namespace Go.Proofs.Ytljkaafdajpmkaa
open Go.RowKit
set_option linter.unusedVariables false

def tA : ByteArray := ⟨#[97]⟩
def tB : ByteArray := ⟨#[98]⟩
def tX : ByteArray := ⟨#[120]⟩
def tY : ByteArray := ⟨#[121]⟩
def aw1 : DiskS := ⟨100, [], [(tA, tX)], [⟨0, tA, tX⟩], false, 0, 0⟩
def aw2 : DiskS := ⟨100, [(tA, tX)], [(tA, tX)], [], false, 0, 0⟩
def aw3 : DiskS := ⟨100, [(tA, tX)], [(tA, tY)], [⟨0, tA, tY⟩], false, 0, 0⟩
def aw4 : DiskS := ⟨100, [(tA, tX)], [(tA, tY)], [⟨0, tA, tY⟩], false, 1, 0⟩
def aw5 : DiskS := ⟨100, [(tA, tX)], [(tA, tX)], [], true, 0, 0⟩
theorem aw_1 : (DiskS.fresh 100).write ⟨#[97]⟩ ⟨#[120]⟩ = (0, aw1) := rfl
theorem aw_2 : aw1.sync = (0, aw2) := rfl
theorem aw_3 : aw2.write ⟨#[97]⟩ ⟨#[121]⟩ = (0, aw3) := rfl
theorem aw_4 : aw3.armed2 1 0 = aw4 := rfl
theorem aw_5 : aw4.rename ⟨#[97]⟩ ⟨#[98]⟩ = (8, aw5) := rfl
theorem aw_6 : aw5.read ⟨#[97]⟩ = (⟨#[]⟩, 8) := rfl
theorem aw_7 : aw5.started = aw2 := rfl
theorem aw_8 : aw2.read ⟨#[97]⟩ = (⟨#[120]⟩, 0) := rfl
theorem aw_9 : (aw2.taken : Int) = 2 := rfl
theorem aw_10 : (aw2.list ⟨#[]⟩).length = 1 := by
  unfold DiskS.list
  rw [sortKeys_length]
  rfl
theorem aw_11 : aw2.write ⟨#[]⟩ ⟨#[122]⟩ = (12, aw2) := rfl
theorem aw_12 : aw2.remove ⟨#[113]⟩ = (5, aw2) := rfl
theorem so1 : Sound 90 aw1 := ⟨by simp [aw1], by simp [aw1], by decide, by decide⟩
theorem so2 : Sound 90 aw2 := ⟨by simp [aw2], by simp [aw2], by decide, by decide⟩
theorem so3 : Sound 90 aw3 := ⟨by simp [aw3], by simp [aw3], by decide, by decide⟩
theorem so4 : Sound 90 aw4 := ⟨by simp [aw4], by simp [aw4], by decide, by decide⟩
theorem so5 : Sound 90 aw5 := ⟨by simp [aw5], by simp [aw5], by decide, by decide⟩
section
variable {w W W' : World} {K : List Nat} {g f : Nat} {args : Array Value}
theorem in_eq {r : Int × DiskS} {c : Int} {S' : DiskS} (h : Calls Try.prog f args W (InPost w W K g r)) (e : r = (c, S')) : Calls Try.prog f args W fun e W' => e = .returned (.int .i64 c) ∧ DIn w W' K g S' ∧ KeepB K W W' := by
  subst e
  exact h
theorem read_eq {r : ByteArray × Int} {x : ByteArray} {c : Int} (h : Calls Try.prog f args W (ReadPost r W)) (e : r = (x, c)) : Calls Try.prog f args W fun e W' => e = .returned (.tuple #[.string x, .int .i64 c]) ∧ W' = W := by
  subst e
  exact h
theorem taken_eq {n m : Int} (h : Calls Try.prog f args W (IntPost W n)) (e : n = m) : Calls Try.prog f args W fun e W' => e = .returned (.int .i64 m) ∧ Only [] W W' := by
  subst e
  exact h
theorem list_eq {l : List ByteArray} {n : Nat} (h : Calls Try.prog f args W (ListPost W l)) (e : l.length = n) : Calls Try.prog f args W fun e W' => ∃ A c, e = .returned (.slice A n c) ∧ n ≤ c ∧ ArgAt W' A (l.map Value.string) ∧ (∀ k, A = some ⟨k, 0, none⟩ → l ≠ [] → W.heap.size ≤ k) ∧ Only [] W W' := by
  refine h.mono fun e' W' ⟨v, hv, ho, h1⟩ => ?_
  subst hv e
  obtain ⟨A, c, rfl, hc, hcells⟩ := own_form ho
  refine ⟨A, c, rfl, hc, fun j u hu => by obtain ⟨g, h1, _, h2, h3⟩ := hcells j u hu; exact ⟨g, h1, h2, h3⟩, fun k hk hl => ?_, h1⟩
  cases l with
  | nil => exact absurd rfl hl
  | cons x l =>
    obtain ⟨g, h1, h2, _⟩ := hcells 0 (.string x) rfl
    rw [hk] at h1
    cases h1
    exact h2
end
def OkPost (w : World) (e : Ending) (w' : World) : Prop := e = .returned (.bool true) ∧ Only [] w w'
set_option maxHeartbeats 4000000 in
set_option maxRecDepth 100000 in
theorem awake_any (w : World) : Calls Try.prog 12 #[] w (OkPost w) := by
  have hn := hide (fun W => new_in 100 W (by omega) (by omega))
  have hb := hide (fun W => new_bad (-1) W (.inl (by omega)))
  go_enter Try.func12, Try.ntmps12
  go_upto_region 2 with (go_at_call 14; refine (hn.out _).mono ?_; rintro e w1 ⟨g, rfl, hd1, hg⟩)
  go_upto_region 5 with (go_at_call 14; refine (hb.out _).mono ?_; rintro e w1' ⟨rfl, rfl⟩)
  have H1 := hide (fun W (h : DIn w W [] g (DiskS.fresh 100)) => in_eq (write_in (Sound.fresh 100) (by omega) h ⟨#[97]⟩ ⟨#[120]⟩ (by decide) (by decide)) aw_1)
  have H2 := hide (fun W (h : DIn w W [] g aw1) => in_eq (sync_in so1 (by omega) h) aw_2)
  have H3 := hide (fun W (h : DIn w W [] g aw2) => in_eq (write_in so2 (by omega) h ⟨#[97]⟩ ⟨#[121]⟩ (by decide) (by decide)) aw_3)
  have H4 := hide (fun W (h : DIn w W [] g aw3) => arm_in h 1 0)
  have H5 := hide (fun W (h : DIn w W [] g aw4) => in_eq (rename_in so4 (by omega) h ⟨#[97]⟩ ⟨#[98]⟩ (by decide) (by decide)) aw_5)
  have H6 := hide (fun W (h : DIn w W [] g aw5) => read_eq (read_in h ⟨#[97]⟩) aw_6)
  have H7 := hide (fun W (h : DIn w W [] g aw5) => start_in h)
  have H8 := hide (fun W (h : DIn w W [] g aw2) => read_eq (read_in h ⟨#[97]⟩) aw_8)
  have H9 := hide (fun W (h : DIn w W [] g aw2) => taken_eq (taken_in so2 (by omega) h) aw_9)
  have H10 := hide (fun W (h : DIn w W [] g aw2) => list_eq (list_in so2 (by omega) h ⟨#[]⟩ (by decide)) aw_10)
  have H11 := hide (fun W (h : DIn w W [] g aw2) => in_eq (write_in so2 (by omega) h ⟨#[]⟩ ⟨#[122]⟩ (by decide) (by decide)) aw_11)
  have H12 := hide (fun W (h : DIn w W [] g aw2) => in_eq (remove_in so2 (by omega) h ⟨#[113]⟩ (by decide)) aw_12)
  rw [aw_4] at H4
  rw [aw_7] at H7
  have HD := hide hd1
  clear hd1 hn hb
  go_upto_region 6 with (first
      | (go_at_call 28; refine (H2.out _ hd2.out).mono ?_; rintro e w3 ⟨rfl, hdd, _⟩; have hd3 := hide hdd; clear hdd)
      | (go_at_call 51; refine (H1.out _ HD.out).mono ?_; rintro e w2 ⟨rfl, hdd, _⟩; have hd2 := hide hdd; clear hdd))
  go_upto_region 11 with (first
      | (go_at_call 32; refine (H7.out _ hd6.out).mono ?_; rintro e w7 ⟨rfl, hdd, _⟩; have hd7 := hide hdd; clear hdd)
      | (go_at_call 30; refine (H6.out _ hd6.out).mono ?_; rintro e w6' ⟨rfl, rfl⟩)
      | (go_at_call 52; refine (H5.out _ hd5.out).mono ?_; rintro e w6 ⟨rfl, hdd, _⟩; have hd6 := hide hdd; clear hdd)
      | (go_at_call 31; refine (H4.out _ hd4.out).mono ?_; rintro e w5 ⟨rfl, hdd, _⟩; have hd5 := hide hdd; clear hdd)
      | (go_at_call 51; refine (H3.out _ hd3.out).mono ?_; rintro e w4 ⟨rfl, hdd, _⟩; have hd4 := hide hdd; clear hdd))
  go_upto_region 12 with (go_at_call 30; refine (H8.out _ hd7.out).mono ?_; rintro e w7' ⟨rfl, rfl⟩)
  go_wp2_with (first
      | (go_at_call 53; refine (H12.out _ hd10.out).mono ?_; rintro e w11 ⟨rfl, hdd, _⟩; have hd11 := hide hdd; clear hdd)
      | (go_at_call 51; refine (H11.out _ hd9.out).mono ?_; rintro e w10 ⟨rfl, hdd, _⟩; have hd10 := hide hdd; clear hdd)
      | (go_at_call 29; refine (H10.out _ hd8.out).mono ?_; rintro e w9 ⟨A, c, rfl, hc, ha, _, ho⟩; have hd9 := hide (hd8.out.quiet ho); clear ha ho hc)
      | (go_at_call 27; refine (H9.out _ hd7.out).mono ?_; rintro e w8 ⟨rfl, ho⟩; have hd8 := hide (hd7.out.quiet ho); clear ho))
  go_ret
  exact ⟨rfl, hd11.out.only⟩
end Go.Proofs.Ytljkaafdajpmkaa
