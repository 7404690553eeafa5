/- The disk's files: what they take. -/
import Derived.Test.YtljkaafdajpmkaaDkFiles
namespace Go.Proofs.Ytljkaafdajpmkaa
open Go.RowKit
set_option linter.unusedVariables false

theorem took_erase : ∀ {l : Files} {i : Nat} {p : ByteArray × ByteArray}, l[i]? = some p → tookOf l = p.1.size + p.2.size + tookOf (l.eraseIdx i)
  | [], i, p, h => by simp at h
  | q :: l, 0, p, h => by
    obtain rfl : q = p := by simpa using h
    rfl
  | q :: l, i + 1, p, h => by
    have := took_erase (l := l) (i := i) (p := p) (by simpa using h)
    simp only [List.eraseIdx_cons_succ, tookOf]
    omega
def IntPost (w : World) (n : Int) (e : Ending) (w' : World) : Prop := e = .returned (.int .i64 n) ∧ Only [] w w'
set_option maxHeartbeats 1000000 in
set_option maxRecDepth 100000 in
theorem taken_any (b : Nat) (l : Files) (w : World) (h : MapAt Value.string w b l) (hs : tookOf l ≤ 4611686018427387904) :
    Calls Try.prog 57 #[.map (some b)] w (IntPost w (tookOf l)) := by
  go_enter Try.func57, Try.ntmps57
  go_wp2_with (at_range; refine wpList_range_map rfl _ _ rfl Try.underlying102 h rfl ?_; intro w0 hr0 ho0 hs0)
  go_frame
  have hre : w.heap.size = w.heap.size := rfl
  generalize hr : w.heap.size = r at hr0 hs0 ⊢
  have HRE := hide hr
  clear hr hre
  have hrl := hr0.lt
  have HST := hide (⟨hr0, ho0⟩ : RangeAt Value.string w0 b r l l ∧ Only [] w w0)
  have hbw := h.lt
  have hro : r ≠ b := hr0.ne
  clear hr0 ho0 hs0
  go_loopw [3] (fun v3 W => ∃ (n : Nat) (rest : Files), v3 = .int .i64 n ∧ n + tookOf rest = tookOf l ∧ RangeAt Value.string W b r l rest ∧ Only [r] w0 W) (fun _ W => W.rangeLeft b r)
  case atStart => exact ⟨0, l, rfl, by omega, HST.out.1, Only.refl _ _⟩
  case round =>
    obtain ⟨n, rest, rfl, hn, hR, hO⟩ := hrel
    have HR := hide hR
    go_wp2_with (at_next; refine wpList_next_map rfl _ rfl hR rfl ?_ ?_)
    · intro hrest
      subst hrest
      have hn' : n = tookOf l := by simpa [tookOf] using hn
      subst hn'
      go_wp2
      go_ret
      exact ⟨rfl, HST.out.2.trans hO (fun t ht hl => by have := HRE.out; simp at ht; omega)⟩
    · intro i k v w1 hp hR1 ho1 hs1 hen
      have ht := took_erase hp
      simp only at ht
      go_wp2
      go_roundw
      case rel => exact ⟨n + (k.size + v.size), rest.eraseIdx i, by go_num, by omega, hR1, hO.trans ho1 (by simp)⟩
      case measure =>
        rw [hR1.left, HR.out.left]
        have hi : i < rest.length := (List.getElem?_eq_some_iff.1 hp).1
        rw [List.length_eraseIdx]
        simp [hi]
        omega
end Go.Proofs.Ytljkaafdajpmkaa
