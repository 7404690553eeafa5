/- The disk: List. -/
import Derived.Test.YtljkaafdajpmkaaDkSort
namespace Go.Proofs.Ytljkaafdajpmkaa
open Go.RowKit
set_option linter.unusedVariables false

def DiskS.shows (S : DiskS) (p k : ByteArray) : Bool := !S.down && hasPre k p
def DiskS.list (S : DiskS) (p : ByteArray) : List ByteArray := sortKeys ((S.seen.map (·.1)).filter (S.shows p))
def ListPost (w : World) (l : List ByteArray) (e : Ending) (w' : World) : Prop := ∃ v, e = .returned v ∧ w'.ownsRow w.heap.size 9 1 v l.length (l.map Value.string) ∧ Only [] w w'
theorem infoStr : (Try.prog.info? 9).map (fun i => (i.zero, i.size, i.bytes)) = some (some (.string ⟨#[]⟩), 1, 16) := by kernel_rfl
theorem erase_perm {α : Type} : ∀ (l : List α) (i : Nat) (p : α), l[i]? = some p → (p :: l.eraseIdx i).Perm l
  | [], i, p, h => by simp at h
  | x :: l, 0, p, h => by
    obtain rfl : x = p := by simpa using h
    exact List.Perm.refl _
  | x :: l, i + 1, p, h => (List.Perm.swap x p _).trans ((erase_perm l i p (by simpa using h)).cons x)
theorem gath_next {q : ByteArray → Bool} {s : List ByteArray} {rest all : Files} {i : Nat} {k v : ByteArray} (hP : (s ++ (rest.map (·.1)).filter q).Perm ((all.map (·.1)).filter q)) (hp : rest[i]? = some (k, v)) :
    ((if q k then s ++ [k] else s) ++ ((rest.eraseIdx i).map (·.1)).filter q).Perm ((all.map (·.1)).filter q) ∧ (rest.eraseIdx i).length < rest.length := by
  have hi : i < rest.length := (List.getElem?_eq_some_iff.1 hp).1
  have hm := ((erase_perm rest i (k, v) hp).map (·.1)).filter q
  refine ⟨List.Perm.trans ?_ hP, by rw [List.length_eraseIdx]; simp [hi]; omega⟩
  rw [List.map_cons, List.filter_cons] at hm
  cases hq : q k
  · simp only [hq, Bool.false_eq_true, if_false] at hm ⊢
    exact List.Perm.append_left s hm
  · simp only [hq, if_true] at hm ⊢
    rw [List.append_assoc]
    exact List.Perm.append_left s hm
theorem own_ne_iter {α : Type} {enc : α → Value} {w : World} {base n size b r : Nat} {e : TypeId} {v : Value} {xs : List Value} {l rest : List (ByteArray × α)} (h : w.ownsRow base e size v n xs) (hr : RangeAt enc w b r l rest) : ∀ k ∈ v.ownBlock.toList, k ∉ [r] := by
  intro k hk hm
  obtain rfl : k = r := by simpa using hm
  obtain ⟨_, ⟨rfl, _⟩ | ⟨g, cap, cur, rfl, _, hh, _⟩⟩ := h
  · simp [Value.ownBlock] at hk
  · obtain ⟨es, clock, since, seen, c0, _, _, _, hit, _⟩ := hr
    have : k = g := by simpa [Value.ownBlock] using hk
    subst this
    rw [hh] at hit
    cases hit
structure ListSt (w W : World) (g b1 b2 : Nat) (A : Option Addr) (c : Nat) (S : DiskS) (p : ByteArray) (r : Nat) (rest : Files) (s : List ByteArray) (v : Value) : Prop where
  range : RangeAt Value.string W b2 r S.seen rest
  own : W.ownsRow w.heap.size 9 1 v s.length (s.map Value.string)
  perm : (s ++ (rest.map (·.1)).filter (S.shows p)).Perm ((S.seen.map (·.1)).filter (S.shows p))
  only : Only [] w W
  disk : DiskAt W g b1 b2 A c S
  r : w.heap.size ≤ r
  sz : ∀ q ∈ rest, q.1.size ≤ maxLen

set_option maxHeartbeats 2000000 in
set_option maxRecDepth 100000 in
theorem list_any (g b1 b2 : Nat) (A : Option Addr) (c : Nat) (S : DiskS) (p : ByteArray) (w : World) (h : DiskAt w g b1 b2 A c S) (hp : p.size ≤ maxLen) (hk : ∀ q ∈ S.seen, q.1.size ≤ maxLen) (hn : S.seen.length ≤ 100000) :
    Calls Try.prog 29 #[.pointer (some ⟨g, 0, none⟩), .string p] w (ListPost w (S.list p)) := by
  have c2 := h.c2
  have hg := h.lt
  have hb2 := h.seen.lt
  have H := hide h
  go_enter Try.func29, Try.ntmps29
  go_wp2_with (at_range; refine wpList_range_map rfl _ _ rfl Try.underlying102 h.seen rfl ?_; intro w0 hr0 ho0 hs0)
  go_frame
  have hst : ListSt w w0 g b1 b2 A c S p w.heap.size S.seen [] (.slice none 0 0) := ⟨hr0, World.ownsRow_nil _ _ _ _, by simp, ho0, H.out.only ho0 (by simp) (by simp) (by simp) (by simp), Nat.le_refl _, hk⟩
  have HST := hide hst
  clear hst hr0 ho0 hs0 h c2
  obtain ⟨r, hr⟩ : ∃ r, r = w.heap.size := ⟨_, rfl⟩
  have HRr := hide hr
  rw [← hr] at HST ⊢
  clear hr
  have hAw : ∀ k', A = some ⟨k', 0, none⟩ → k' < w.heap.size := fun k' hk' => by
    cases hw : S.waits with
    | nil => rw [(H.out.nil hw).1] at hk'; cases hk'
    | cons e0 ws =>
      obtain ⟨kk, hkk, hlt, _⟩ := H.out.waits 0 (.int .i64 e0.kind) (by rw [hw]; rfl)
      rw [hk'] at hkk
      cases hkk
      exact hlt
  go_loopw [5] (fun v5 W => ∃ rest s, ListSt w W g b1 b2 A c S p r rest s v5) (fun _ W => W.rangeLeft b2 r)
  case atStart => exact ⟨_, _, HST.out⟩
  case round =>
    clear HST
    obtain ⟨rest, s, hrel⟩ := hrel
    have HR := hide hrel
    have hR := hrel.range
    have hsl : s.length ≤ 100000 := by
      have h1 := hrel.perm.length_eq
      have h2 := List.length_filter_le (S.shows p) (S.seen.map (·.1))
      rw [List.length_append] at h1
      simp at h2
      omega
    clear hrel
    go_wp2_with (at_next; refine wpList_next_map rfl _ rfl hR rfl ?_ ?_)
    · intro hrest
      subst hrest
      have hso := hide (sort_any w.heap.size u5 s wr HR.out.own (by omega))
      have hP : s.Perm ((S.seen.map (·.1)).filter (S.shows p)) := by simpa using HR.out.perm
      have hlist : S.list p = sortKeys s := by unfold DiskS.list; rw [sortKeys_perm hP]
      have HL := hide hlist
      clear hP hlist hR
      go_wp2_with (go_at_call 62; refine hso.out.mono ?_; rintro e w2 ⟨rfl, hown2, ho2⟩)
      go_ret
      refine ⟨u5, rfl, ?_, HR.out.only.trans ho2 (fun t ht hl => by have := (own_lt HR.out.own ht).1; omega)⟩
      rw [HL.out, sortKeys_length]
      exact hown2
    · intro i k v w1 hpi hR1 ho1 hs1 hen
      have hksz : k.size ≤ maxLen := HR.out.sz _ (List.mem_of_getElem? hpi)
      obtain ⟨hP1, hlt1⟩ := gath_next HR.out.perm hpi
      have hD1 := HR.out.disk.only ho1 (by have := HR.out.r; have := H.out.lt; simp; omega) (by have := HR.out.r; have := H.out.lies.lt; simp; omega) (by have := HR.out.r; simp; omega) (fun k' hk' => by have := HR.out.r; have := hAw k' hk'; simp; omega)
      have hW1 := own_only HR.out.own ho1 (own_ne_iter HR.out.own HR.out.range)
      have hO1 : Only [] w w1 := HR.out.only.trans ho1 (fun t ht hl => by have := HR.out.r; simp at ht; omega)
      have hgl := hD1.lt
      have d4 := hD1.c4
      have hsz1 : ∀ q ∈ rest.eraseIdx i, q.1.size ≤ maxLen := fun q hq => HR.out.sz q (List.mem_of_mem_eraseIdx hq)
      have HP1 := hide hP1
      have HW1 := hide hW1
      have HD1 := hide hD1
      have HSH := hide (rfl : S.shows p k = (!S.down && hasPre k p))
      clear hP1 hW1 hD1 hs1
      cases hd : S.down with
      | true =>
        have hsh : S.shows p k = false := by simp [DiskS.shows, hd]
        have hP2 := HP1.out
        rw [hsh] at hP2
        have HP2 := hide hP2
        rw [hd] at d4
        clear hd hsh hP2
        go_wp2
        go_roundw
        case rel => exact ⟨rest.eraseIdx i, s, hR1, HW1.out, HP2.out, hO1, HD1.out, HR.out.r, hsz1⟩
        case measure =>
          rw [hR1.left, hR.left]
          exact hlt1
      | false =>
        rw [hd] at d4
        have hpre := hide (fun W => prefix_any k p W hksz hp)
        obtain ⟨b, hb⟩ : ∃ b, hasPre k p = b := ⟨_, rfl⟩
        have hsh : S.shows p k = b := by simp [DiskS.shows, hd, hb]
        have hP2 := HP1.out
        rw [hsh] at hP2
        rw [hb] at hpre
        have HP2 := hide hP2
        clear hd hsh hP2 hb
        cases b with
        | false =>
          go_wp2_with (go_at_call 61; refine (hpre.out _).mono ?_; rintro e w2 ⟨rfl, rfl⟩)
          go_roundw
          case rel => exact ⟨rest.eraseIdx i, s, hR1, HW1.out, HP2.out, hO1, HD1.out, HR.out.r, hsz1⟩
          case measure =>
            rw [hR1.left, hR.left]
            exact hlt1
        | true =>
          have hws := hO1.size
          go_wp2_with (first
            | (go_at_call 61; refine (hpre.out _).mono ?_; rintro e w2 ⟨rfl, rfl⟩)
            | (at_builtin; refine wpList_app rfl _ _ _ rfl Try.underlying40 infoStr rfl (by omega) rfl (HW1.out.alloc _) _ 1 1 [.string k] rfl rfl ?_ (by simp [Value.oneCell']) (by omega) (by unfold maxLen; omega) (by simp; omega) ?_))
          · intro q u hu
            have hq : q < 1 := by have := (List.getElem?_eq_some_iff.1 hu).1; simpa using this
            obtain rfl : q = 0 := by omega
            simp at hu
            subst hu
            simp [World.cell?_alloc_new]
          · intro v' w3 hown3 ho3 _
            have hown4 : w3.ownsRow w.heap.size 9 1 v' (s ++ [k]).length ((s ++ [k]).map Value.string) := by
              rw [List.length_append, List.map_append]
              exact hown3
            have HO4 := hide hown4
            have hoA : Only u5.ownBlock.toList _ w3 := ((Only.refl u5.ownBlock.toList _).alloc (.cells #[.string k] 9)).trans ho3 (fun t ht _ => ht)
            have hR3 := hR1.only hoA (own_ne_map HW1.out HD1.out.seen) (fun hm => own_ne_iter HW1.out hR1 r hm (by simp))
            clear hown3 hown4
            go_wp2
            go_roundw
            case rel =>
              exact ⟨rest.eraseIdx i, s ++ [k], hR3, HO4.out, HP2.out, hO1.trans hoA (fun t ht hl => by have := (own_lt HW1.out ht).1; omega), HD1.out.only hoA (own_ne_type HW1.out HD1.out.blk (by decide)) (own_ne_map HW1.out HD1.out.lies) (own_ne_map HW1.out HD1.out.seen) (fun k' hk' hm => by have := (own_lt HW1.out hm).1; have := hAw k' hk'; omega), HR.out.r, hsz1⟩
            case measure =>
              rw [hR3.left, hR.left]
              exact hlt1
end Go.Proofs.Ytljkaafdajpmkaa
