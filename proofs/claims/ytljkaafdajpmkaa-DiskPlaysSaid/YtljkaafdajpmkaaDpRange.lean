/- Ranging over a map with string keys: whichever entry comes next, it is one of those that are left; and a map's keys as the kit's sort wants them. -/
import Derived.Test.YtljkaafdajpmkaaDpMap
import Derived.Maps.RangeWalk
import Derived.Sort.KeysCollected
namespace Go.Proofs.Ytljkaafdajpmkaa
open Go.MapKept Go.RowKit

/-- Block r goes through the map in block b, which holds the pairs l; what is left to come is rest. -/
def RangeAt {α : Type} (enc : α → Value) (w : World) (b r : Nat) (l rest : List (ByteArray × α)) : Prop :=
  ∃ es clock since seen c0, w.heap[b]? = some (.map es clock) ∧ Stamped es clock ∧ es.toList.map (fun e => (e.key, e.val)) = l.map (fun p => (Value.string p.1, enc p.2)) ∧
    w.heap[r]? = some (.mapIter (some b) since seen c0) ∧ (∀ x ∈ es.toList, x.born < since) ∧ since ≤ c0 ∧ since ≤ clock ∧
    (leftOf es seen).toList.map (fun e => (e.key, e.val)) = rest.map (fun p => (Value.string p.1, enc p.2))

section
variable {α : Type} {enc : α → Value} {w w' : World} {b r : Nat} {l rest : List (ByteArray × α)} {P : Program} {t kt et : TypeId}
theorem RangeAt.map (h : RangeAt enc w b r l rest) : MapAt enc w b l := by
  obtain ⟨es, clock, since, seen, c0, hb, hs, he, _⟩ := h
  exact ⟨es, clock, hb, hs, he⟩
theorem RangeAt.lt (h : RangeAt enc w b r l rest) : r < w.heap.size := by
  obtain ⟨es, clock, since, seen, c0, hb, hs, he, hr, _⟩ := h
  exact (Array.getElem?_eq_some_iff.1 hr).1
theorem RangeAt.ne (h : RangeAt enc w b r l rest) : r ≠ b := by
  obtain ⟨es, clock, since, seen, c0, hb, hs, he, hr, _⟩ := h
  rintro rfl
  rw [hb] at hr
  cases hr
theorem RangeAt.ne_map (h : RangeAt enc w b r l rest) {β : Type} {enc' : β → Value} {m : List (ByteArray × β)} {g : Nat} (hm : MapAt enc' w g m) : r ≠ g := by
  obtain ⟨es, clock, since, seen, c0, hb, hs, he, hr, _⟩ := h
  obtain ⟨es', clock', hb', _⟩ := hm
  rintro rfl
  rw [hb'] at hr
  cases hr
theorem RangeAt.only {S : List Nat} (h : RangeAt enc w b r l rest) (ho : Only S w w') (hb : b ∉ S) (hr : r ∉ S) : RangeAt enc w' b r l rest := by
  have h1 := h.map.lt
  have h2 := h.lt
  obtain ⟨es, clock, since, seen, c0, hb0, hs, he, hr0, x⟩ := h
  exact ⟨es, clock, since, seen, c0, (ho.block b h1 hb).trans hb0, hs, he, (ho.block r h2 hr).trans hr0, x⟩

theorem MapAt.range (h : MapAt enc w b l) (ht : P.underlying t = some (.map kt et)) :
    ∃ w', (Instr.range t (.map (some b))).run P w = .ok (.pointer (some ⟨w.heap.size, 0, none⟩)) w' ∧ RangeAt enc w' b w.heap.size l l ∧ Only [] w w' ∧ w'.heap.size = w.heap.size + 1 := by
  have hlt := h.lt
  obtain ⟨es, clock, hb, hs, he⟩ := h
  refine ⟨_, run_range_map w t kt et b es clock ht hb, ⟨es, clock, clock, #[], clock, ((MapKept.heap_alloc w _).2 b hlt).trans hb, hs, he, (MapKept.heap_alloc w _).1, hs.1, Nat.le_refl _, Nat.le_refl _, ?_⟩, (Only.refl _ _).alloc _, by simp⟩
  have : leftOf es #[] = es := by simp [leftOf]
  rw [this, he]

theorem filter_ne_born : ∀ (L : List MapEntry) (i : Nat) (e : MapEntry), (L.map (·.born)).Nodup → L[i]? = some e → L.filter (fun x => !(x.born == e.born)) = L.eraseIdx i
  | [], i, e, _, h => by simp at h
  | x :: L, 0, e, hn, h => by
    obtain rfl : x = e := by simpa using h
    simp only [List.map_cons, List.nodup_cons] at hn
    simp only [List.filter_cons, beq_self_eq_true, Bool.not_true, Bool.false_eq_true, if_false, List.eraseIdx_cons_zero]
    refine List.filter_eq_self.2 (fun y hy => ?_)
    have : y.born ≠ x.born := fun q => hn.1 (List.mem_map.2 ⟨y, hy, q⟩)
    simpa using this
  | x :: L, i + 1, e, hn, h => by
    simp only [List.map_cons, List.nodup_cons] at hn
    have hm : e ∈ L := List.mem_of_getElem? (by simpa using h)
    have hne : x.born ≠ e.born := fun q => hn.1 (List.mem_map.2 ⟨e, hm, q.symm⟩)
    rw [List.filter_cons, if_pos (by simpa using hne), filter_ne_born L i e hn.2 (by simpa using h)]
    rfl

/-- The step. -/
theorem RangeAt.next (h : RangeAt enc w b r l rest) (ty : TypeId) :
    (rest = [] ∧ (Instr.next (.pointer (some ⟨r, 0, none⟩)) false ty).run P w = .ok (.tuple #[.bool false]) w) ∨
    ∃ i p w', rest[i]? = some p ∧ (Instr.next (.pointer (some ⟨r, 0, none⟩)) false ty).run P w = .ok (.tuple #[.bool true, .string p.1, enc p.2]) w' ∧ RangeAt enc w' b r l (rest.eraseIdx i) ∧ Only [r] w w' ∧ w'.heap.size = w.heap.size ∧
      (Instr.entry (.pointer (some ⟨r, 0, none⟩))).run P w' = .ok (.tuple #[.string p.1, enc p.2]) w' := by
  have hne := h.ne
  obtain ⟨es, clock, since, seen, c0, hb, hs, he, hr, hold, hsc, hsk, hl⟩ := h
  rcases run_next_at (P := P) w ty r b since c0 seen es clock hr hb hold hsc with ⟨h0, hrun⟩ | ⟨e, hem, w1, hal, hrun⟩
  · refine .inl ⟨?_, hrun⟩
    have : (leftOf es seen).toList = [] := by simpa using h0
    rw [this] at hl
    cases rest with
    | nil => rfl
    | cons p q => simp at hl
  · obtain ⟨hme, hsn⟩ := mem_left hem
    obtain ⟨i, hi⟩ := List.getElem?_of_mem hem
    have hpi : ∃ p, rest[i]? = some p ∧ e.key = .string p.1 ∧ e.val = enc p.2 := by
      have := congrArg (fun q => q[i]?) hl
      simp only [List.getElem?_map, hi, Option.map_some] at this
      cases hp : rest[i]? with
      | none => simp [hp] at this
      | some p =>
        simp only [hp, Option.map_some, Option.some.injEq, Prod.mk.injEq] at this
        exact ⟨p, rfl, this.1, this.2⟩
    obtain ⟨p, hp, hk, hv⟩ := hpi
    have hr1 : w1.heap[r]? = some (.mapIter (some b) since seen c0) := by rcases hal with rfl | rfl <;> exact hr
    have hb1 : w1.heap[b]? = some (.map es clock) := by rcases hal with rfl | rfl <;> exact hb
    have hset := heap_set (o' := .mapIter (some b) since (seen.push e.born) clock) hr1
    have hb' : (ChangeMaps.setBlock w1 r (.mapIter (some b) since (seen.push e.born) clock)).heap[b]? = some (.map es clock) := (hset.2 b (fun e1 => hne e1.symm)).trans hb1
    refine .inr ⟨i, p, _, hp, by rw [hrun, hk, hv], ⟨es, clock, since, seen.push e.born, clock, hb', hs, he, hset.1, hold, hsk, hsk, ?_⟩, ?_, ?_, ?_⟩
    · have hnd : ((leftOf es seen).toList.map (·.born)).Nodup := by
        have hsub : (leftOf es seen).toList.Sublist es.toList := by
          unfold leftOf
          rw [Array.toList_filter]
          exact List.filter_sublist
        exact (hsub.map _).nodup hs.2.1
      have e1 : (leftOf es (seen.push e.born)).toList = (leftOf es seen).toList.filter (fun x => !(x.born == e.born)) := by
        unfold leftOf
        simp only [Array.toList_filter, List.filter_filter]
        congr 1
        funext x
        rw [contains_push]
        cases seen.contains x.born <;> cases (x.born == e.born) <;> rfl
      rw [e1, filter_ne_born _ i e hnd hi]
      have : ∀ {β γ : Type} (f : β → γ) (L : List β) (i : Nat), (L.eraseIdx i).map f = (L.map f).eraseIdx i := by
        intro β γ f L
        induction L with
        | nil => intro i; rfl
        | cons x L ih => intro i; cases i with
          | zero => rfl
          | succ i => simp [ih]
      rw [this, this, hl]
    · rcases hal with rfl | rfl <;> exact ⟨rfl, rfl, rfl, by simp [ChangeMaps.setBlock], fun k _ hn => hset.2 k (by simpa using hn)⟩
    · rcases hal with rfl | rfl <;> simp [ChangeMaps.setBlock]
    · rw [← hk, ← hv]
      exact run_entry_at _ r b since seen es clock e hset.1 hb' hme hs.2.1

theorem wpList_range_map {ops : Array Oper} {restO : List Oper} {o : Oper} {a : Act} {Q : Exit → Act → World → Prop} (hg : o.guard = none) (m : Operand) (t : TypeId) (hop : o.op = Op.range t m) (ht : P.underlying t = some (.map kt et))
    (h : MapAt enc w b l) (hm : a.eval m = .map (some b))
    (hK : ∀ w', RangeAt enc w' b w.heap.size l l → Only [] w w' → w'.heap.size = w.heap.size + 1 → wpList P ops Q restO (a.put o.dst (.pointer (some ⟨w.heap.size, 0, none⟩))) w') : wpList P ops Q (o :: restO) a w := by
  refine wpList_plain hg fun K' hK' => ?_
  obtain ⟨w', hrun, r1, r2, r3⟩ := h.range ht
  unfold Oper.wp
  simp [execOp, hop, hm, hrun, Result.andThen]
  exact hK' _ _ (hK w' r1 r2 r3)
theorem wpList_next_map {ops : Array Oper} {restO : List Oper} {o : Oper} {a : Act} {Q : Exit → Act → World → Prop} (hg : o.guard = none) (it : Operand) (hop : o.op = Op.next it false)
    (h : RangeAt enc w b r l rest) (hit : a.eval it = .pointer (some ⟨r, 0, none⟩))
    (hDone : rest = [] → wpList P ops Q restO (a.put o.dst (.tuple #[.bool false])) w)
    (hMore : ∀ (i : Nat) (p : ByteArray × α) (w' : World), rest[i]? = some p → RangeAt enc w' b r l (rest.eraseIdx i) → Only [r] w w' → w'.heap.size = w.heap.size →
      (Instr.entry (.pointer (some ⟨r, 0, none⟩))).run P w' = .ok (.tuple #[.string p.1, enc p.2]) w' → wpList P ops Q restO (a.put o.dst (.tuple #[.bool true, .string p.1, enc p.2])) w') : wpList P ops Q (o :: restO) a w := by
  refine wpList_plain hg fun K' hK' => ?_
  unfold Oper.wp
  rcases h.next (P := P) o.type with ⟨h0, hrun⟩ | ⟨i, p, w', hp, hrun, hrg, ho, hsz, hen⟩
  · simp [execOp, hop, hit, hrun, Result.andThen]
    exact hK' _ _ (hDone h0)
  · simp [execOp, hop, hit, hrun, Result.andThen]
    exact hK' _ _ (hMore i p w' hp hrg ho hsz hen)

/-- How many rounds a range still has, read off the world. -/
theorem RangeAt.left (h : RangeAt enc w b r l rest) : w.rangeLeft b r = rest.length := by
  obtain ⟨es, clock, since, seen, c0, hb, hs, he, hr, hold, hsc, hsk, hl⟩ := h
  simp only [World.rangeLeft, hb, hr]
  have := congrArg List.length hl
  simpa using this

/-- What stands in a map has no key twice. -/
theorem MapAt.nodup (h : MapAt enc w b l) : (l.map (·.1)).Nodup := by
  obtain ⟨es, clock, hb, hs, he⟩ := h
  have h3 := hs.2.2
  have e1 : es.toList.map (·.key) = l.map (fun p => Value.string p.1) := by
    have := congrArg (List.map Prod.fst) he
    simpa [List.map_map, Function.comp_def] using this
  rw [e1] at h3
  have e2 : l.map (fun p => Value.string p.1) = (l.map (·.1)).map Value.string := by simp
  rw [e2] at h3
  refine (List.pairwise_map.1 h3).imp (fun hne e => hne (by rw [e]))

/-- The map as the kit's own laws know it; the elements don't matter. -/
theorem MapAt.owns (h : MapAt enc w b l) (hk : P.underlying kt = some .string) (hlen : l.length ≤ maxLen) (hkeys : ∀ p ∈ l, p.1.size ≤ maxLen) :
    ∃ D : DataW Unit, w.ownsMap P kt (fun _ => some (.nil, [])) b l.length D ∧ Maps.size D = l.length ∧ (strKeys D).Perm (l.map fun p => p.1.data.toList) := by
  obtain ⟨es, clock, hb, hs, he⟩ := h
  have hsz : es.size = l.length := by have := congrArg List.length he; simpa using this
  have hread : ∀ x ∈ es.toList, ∃ k : ByteArray, x.key = .string k ∧ WideElems.rd (H := Unit) P kt (fun _ => some (.nil, [])) x = some (.string k.data.toList, .nil) := by
    intro x hx
    have hm : (x.key, x.val) ∈ es.toList.map (fun e => (e.key, e.val)) := List.mem_map.2 ⟨x, hx, rfl⟩
    rw [he] at hm
    obtain ⟨p, hp, hpe⟩ := List.mem_map.1 hm
    simp only [Prod.mk.injEq] at hpe
    refine ⟨p.1, hpe.1.symm, ?_⟩
    have := WideElems.rd_mk (H := Unit) (P := P) (k := kt) (R := fun _ => some (.nil, [])) (val := x.val) (born := x.born) (yv := (.nil, [])) (WideMaps.keyOf_string_mk hk (hkeys p hp)) rfl
    rw [hpe.1] at this
    exact this
  refine ⟨_, ⟨es, clock, hb, ⟨by rw [hsz]; exact hlen, hs, fun x hx => ?_⟩, by rw [hsz]; exact Nat.le_refl _, rfl⟩, ?_, ?_⟩
  · obtain ⟨k, _, h2⟩ := hread x hx
    exact ⟨_, h2⟩
  · simp [Maps.size, length_sorted, hsz]
  · show (List.map (fun p : Lit × DataW Unit => strOf p.1) _).Perm _
    refine ((WideShapes.sorted_perm _).map _).trans ?_
    rw [List.map_map]
    have e1 : es.toList.map (fun x => strOf (WideElems.rg (H := Unit) P kt (fun _ => some (.nil, [])) x).1) = l.map fun p => p.1.data.toList := by
      have e2 : es.toList.map (fun x => strOf (WideElems.rg (H := Unit) P kt (fun _ => some (.nil, [])) x).1) = (es.toList.map (·.key)).map (fun v => match v with | .string k => k.data.toList | _ => []) := by
        rw [List.map_map]
        refine List.map_congr_left (fun x hx => ?_)
        obtain ⟨k, h1, h2⟩ := hread x hx
        simp only [Function.comp, h1, WideElems.rg_of h2, strOf]
      rw [e2]
      have e3 : es.toList.map (·.key) = l.map (fun p => Value.string p.1) := by
        have := congrArg (List.map Prod.fst) he
        simpa [List.map_map, Function.comp_def] using this
      rw [e3, List.map_map]
      rfl
    exact List.Perm.of_eq e1
end
end Go.Proofs.Ytljkaafdajpmkaa
