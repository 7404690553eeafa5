/- work.Seen.All: the keys, rising. -/
import Derived.Test.YtlmpmfgheacplaaDpSeen
import Derived.Test.YtlmpmfgheacplaaDpOrder
import Derived.Test.YtlmpmfgheacplaaTwLay
import Derived.Sort.EncStr
import Derived.TacticsIn
import Derived.OwnWalkIn
import Derived.TacticsInMore
namespace Go.Proofs.Ytlmpmfgheacplaa
open Go.RowKit Go.Maps Go.Sort Go.Shelf
set_option linter.unusedVariables false

theorem sortsIn (m : Nat) : AnyZ.SortsIn Try.prog Try.sorted30_ren Fence.wide m :=
  ⟨fun blk off cap ss W hH hblk hsz => callsIn_wide.2 (AnyM.slices_Sort_string Try.sort35 blk off cap ss W hH hblk hsz),
   fun p cap W => callsIn_wide.2 (AnyM.slices_Sort_string_none Try.sort35 p cap W)⟩
set_option maxHeartbeats 1000000 in
theorem all_some (g b : Nat) (s : List ByteArray) (w : World) (h : SeenAt w g (some b) s) (hlen : s.length * 16 ≤ 140737488355328) (hkeys : ∀ k ∈ s, k.size ≤ maxLen) :
    Calls Try.prog 23 #[.pointer (some ⟨g, 0, none⟩)] w fun e w' => ∃ v, e = .returned v ∧ w'.ownsRow w.heap.size 9 1 v s.length ((sortKeys s).map Value.string) ∧ Only [] w w' := by
  have c0 := h.cell
  have hm : MapAt unitE w b (s.map fun k => (k, ())) := h.2
  obtain ⟨D, hown, hsz, hperm⟩ := hm.owns (P := Try.prog) (kt := 9) Try.underlying9 (by simp; unfold maxLen; omega) (by simpa using hkeys)
  have hsz' : Maps.size D = s.length := by simpa using hsz
  have hbl := hown.lt
  have hK := AnyZ.keys_in Try.keys31 Fence.wide 5 trivial rfl (some b) w
  have hseq : SeqGives Fence.wide 2 Try.prog 36 #[.pointer (some ⟨w.heap.size, 0, none⟩)] encStr (fun ss => ss.Perm (strKeys D)) (Maps.size D) (w.alloc (.cells #[.map (some b)] 54)) :=
    AnyZ.keys_gives (ρ := Try.keys31_ren) { Try.keys31 with } Fence.wide _ trivial rfl (by omega) w.heap.size b (s.map fun k => (k, ())).length D _ (by simp) (by simp) (by
      obtain ⟨es, clock, hb, Ft, hs, hD⟩ := hown
      exact ⟨es, clock, (Below.heap_alloc _ _ b hbl).trans hb, Ft, hs, hD⟩)
  have hS := AnyZ.sorted_in Try.sorted30 Fence.wide 5 trivial trivial trivial trivial rfl (by omega) (sortsIn _) (enters_of Try.func35 (by kernel_rfl) rfl) 36 #[.pointer (some ⟨w.heap.size, 0, none⟩)] trivial (enters_of Try.func36 (by kernel_rfl) rfl) _ _ (by rw [hsz']; unfold maxLen; omega) (by rw [hsz']; exact hlen) _ hseq
  have HK := hide ((callsIn_wide (n := 5)).1 hK)
  have HS := hide ((callsIn_wide (n := 5)).1 hS)
  have HP := hide hperm
  have HM := hide hm
  have HZ := hide hsz'
  clear hK hS hseq hperm hm hsz' hsz hown h
  go_enter Try.func23, Try.ntmps23
  go_wp2_with (first
    | (go_at_call 31; refine HK.out.mono ?_; rintro e w1 ⟨rfl, rfl⟩)
    | (go_at_call 30; refine HS.out.mono ?_; rintro e w2 ⟨v, ss, rfl, hss, hrow, hnil, hb⟩))
  go_ret
  have hl : ss.length = s.length := by
    have := (hss.trans HP.out).length_eq
    simpa using this
  have he : (ss.mergeSort (fun x y => decide (x ≤ y))).map encStr = (sortKeys s).map Value.string := by
    unfold sortKeys
    have hp2 : ss.Perm (s.map (·.data.toList)) := by simpa [List.map_map, Function.comp_def] using hss.trans HP.out
    have := mergeSort_of_perm hp2
    unfold leB at this ⊢
    rw [this, List.map_map]
    rfl
  refine ⟨v, rfl, ?_, Only.of_below (((Below.refl _ w).alloc (Nat.le_refl _) _).trans (hb.mono (by simp))) _⟩
  rw [he, hl] at hrow
  exact ownsRow_base_a hrow (by simp)

set_option maxHeartbeats 1000000 in
theorem all_none (g : Nat) (s : List ByteArray) (w : World) (h : SeenAt w g none s) :
    Calls Try.prog 23 #[.pointer (some ⟨g, 0, none⟩)] w fun e w' => ∃ v, e = .returned v ∧ w'.ownsRow w.heap.size 9 1 v s.length ((sortKeys s).map Value.string) ∧ Only [] w w' := by
  have c0 := h.cell
  have hs : s = [] := h.2
  subst hs
  have hK := AnyZ.keys_in Try.keys31 Fence.wide 5 trivial rfl none w
  have hseq : SeqGives Fence.wide 2 Try.prog 36 #[.pointer (some ⟨w.heap.size, 0, none⟩)] encStr (fun ss : List (List UInt8) => ss = []) 0 (w.alloc (.cells #[.map none] 54)) :=
    AnyZ.keys_gives_nil (ρ := Try.keys31_ren) { Try.keys31 with } Fence.wide _ trivial rfl w.heap.size _ (by simp) (by simp)
  have hS := AnyZ.sorted_in Try.sorted30 Fence.wide 5 trivial trivial trivial trivial rfl (by omega) (sortsIn _) (enters_of Try.func35 (by kernel_rfl) rfl) 36 #[.pointer (some ⟨w.heap.size, 0, none⟩)] trivial (enters_of Try.func36 (by kernel_rfl) rfl) _ 0 (Nat.zero_le _) (by omega) _ hseq
  have HK := hide ((callsIn_wide (n := 5)).1 hK)
  have HS := hide ((callsIn_wide (n := 5)).1 hS)
  clear hK hS hseq h
  go_enter Try.func23, Try.ntmps23
  go_wp2_with (first
    | (go_at_call 31; refine HK.out.mono ?_; rintro e w1 ⟨rfl, rfl⟩)
    | (go_at_call 30; refine HS.out.mono ?_; rintro e w2 ⟨v, ss, rfl, hss, hrow, hnil, hb⟩))
  go_ret
  subst hss
  have hr : w2.ownsRow w.heap.size 9 1 v ([] : List (List UInt8)).length (List.map encStr (([] : List (List UInt8)).mergeSort (fun x y => decide (x ≤ y)))) := ownsRow_base_a hrow (by simp)
  exact ⟨v, rfl, by simpa [sortKeys] using hr, Only.of_below (((Below.refl _ w).alloc (Nat.le_refl _) _).trans (hb.mono (by simp))) _⟩
theorem all_any (g : Nat) (ob : Option Nat) (s : List ByteArray) (w : World) (h : SeenAt w g ob s) (hlen : s.length * 16 ≤ 140737488355328) (hkeys : ∀ k ∈ s, k.size ≤ maxLen) :
    Calls Try.prog 23 #[.pointer (some ⟨g, 0, none⟩)] w fun e w' => ∃ v, e = .returned v ∧ w'.ownsRow w.heap.size 9 1 v s.length ((sortKeys s).map Value.string) ∧ Only [] w w' := by
  cases ob with
  | none => exact all_none g s w h
  | some b => exact all_some g b s w h hlen hkeys
end Go.Proofs.Ytlmpmfgheacplaa
