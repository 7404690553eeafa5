/- Maps with string keys as lists of pairs in the order of their laying: what each operation on such a map does. -/
import Derived.MapKept
import Derived.Maps.OwnSet
import Derived.Deep.Draws
import Derived.Calls
import Derived.Tactics
namespace Go.Proofs.Ytljkaafdajpmkaa
open Go.MapKept Go.RowKit

section
variable {α : Type}
def mget : List (ByteArray × α) → ByteArray → Option α
  | [], _ => none
  | p :: l, x => if p.1 = x then some p.2 else mget l x
def mput : List (ByteArray × α) → ByteArray → α → List (ByteArray × α)
  | [], k, v => [(k, v)]
  | p :: l, k, v => if p.1 = k then (k, v) :: l else p :: mput l k v
def mdel : List (ByteArray × α) → ByteArray → List (ByteArray × α)
  | [], _ => []
  | p :: l, k => if p.1 = k then l else p :: mdel l k

theorem mget_none_iff (l : List (ByteArray × α)) (k : ByteArray) : mget l k = none ↔ ∀ p ∈ l, p.1 ≠ k := by
  induction l with
  | nil => simp [mget]
  | cons p l ih =>
    unfold mget
    by_cases h : p.1 = k
    · simp [h]
    · simp [h, ih]
theorem mget_put_same (l : List (ByteArray × α)) (k : ByteArray) (v : α) : mget (mput l k v) k = some v := by
  induction l with
  | nil => simp [mget, mput]
  | cons p l ih =>
    unfold mput
    by_cases h : p.1 = k
    · simp [h, mget]
    · simp [h, mget, ih]
theorem mget_put_other (l : List (ByteArray × α)) {k x : ByteArray} (h : k ≠ x) (v : α) : mget (mput l k v) x = mget l x := by
  induction l with
  | nil => simp [mget, mput, h]
  | cons p l ih =>
    unfold mput
    by_cases hp : p.1 = k
    · have : ¬ p.1 = x := fun e => h (hp.symm.trans e)
      simp [hp, mget, h]
    · simp [hp, mget, ih]
theorem mput_new (l : List (ByteArray × α)) {k : ByteArray} (h : mget l k = none) (v : α) : mput l k v = l ++ [(k, v)] := by
  induction l with
  | nil => simp [mput]
  | cons p l ih =>
    unfold mget at h
    by_cases hp : p.1 = k
    · simp [hp] at h
    · simp [hp] at h
      simp [mput, hp, ih h]
theorem mput_length (l : List (ByteArray × α)) (k : ByteArray) (v : α) : (mput l k v).length = if (mget l k).isSome then l.length else l.length + 1 := by
  induction l with
  | nil => simp [mput, mget]
  | cons p l ih =>
    unfold mput mget
    by_cases hp : p.1 = k
    · simp [hp]
    · simp only [hp, if_false, List.length_cons, ih]
      split <;> simp
end

/-- Block b is a map that holds just the pairs l, laid in this order; each element is written by enc. -/
def MapAt {α : Type} (enc : α → Value) (w : World) (b : Nat) (l : List (ByteArray × α)) : Prop :=
  ∃ es clock, w.heap[b]? = some (.map es clock) ∧ Stamped es clock ∧ es.toList.map (fun e => (e.key, e.val)) = l.map (fun p => (Value.string p.1, enc p.2))

/-- Nothing that lay in w has turned but the blocks of S. -/
structure Only (S : List Nat) (w w' : World) : Prop where
  os : w'.os = w.os
  tape : w'.tape = w.tape
  output : w'.output = w.output
  size : w.heap.size ≤ w'.heap.size
  block : ∀ k, k < w.heap.size → k ∉ S → w'.heap[k]? = w.heap[k]?

theorem Only.refl (S : List Nat) (w : World) : Only S w w := ⟨rfl, rfl, rfl, Nat.le_refl _, fun _ _ _ => rfl⟩
theorem Only.trans {S T : List Nat} {a b c : World} (h : Only S a b) (k : Only T b c) (hT : ∀ t ∈ T, t < a.heap.size → t ∈ S) : Only S a c :=
  ⟨k.os.trans h.os, k.tape.trans h.tape, k.output.trans h.output, Nat.le_trans h.size k.size, fun i hi hn =>
    (k.block i (Nat.lt_of_lt_of_le hi h.size) (fun ht => hn (hT i ht hi))).trans (h.block i hi hn)⟩
theorem Only.below {S : List Nat} {w w' : World} {B : Nat} (h : Only S w w') (hB : B ≤ w.heap.size) (hS : ∀ s ∈ S, B ≤ s) : Below B w w' :=
  ⟨h.os, h.tape, h.output, h.size, fun k hk => h.block k (by omega) (fun hs => by have := hS k hs; omega)⟩
theorem Only.of_below {w w' : World} (h : Below w.heap.size w w') (S : List Nat) : Only S w w' := ⟨h.os, h.tape, h.output, h.size, fun k hk _ => h.block k hk⟩
theorem Only.mono {S T : List Nat} {w w' : World} (h : Only S w w') (hS : ∀ s ∈ S, s ∈ T) : Only T w w' := ⟨h.os, h.tape, h.output, h.size, fun k hk hn => h.block k hk (fun hs => hn (hS k hs))⟩
theorem Only.drew {S : List Nat} {a w : World} (h : Only S a w) : Only S a w.drew := ⟨h.os, h.tape, h.output, h.size, h.block⟩
theorem Only.drewN {S : List Nat} {a w : World} (h : Only S a w) (n : Nat) : Only S a (w.drewN n) := ⟨h.os, h.tape, h.output, h.size, h.block⟩
theorem Only.alloc {S : List Nat} {a w : World} (h : Only S a w) (o : Obj) : Only S a (w.alloc o) :=
  ⟨h.os, h.tape, h.output, Nat.le_trans h.size (by simp), fun i hi hn => (Below.heap_alloc w o i (Nat.lt_of_lt_of_le hi h.size)).trans (h.block i hi hn)⟩
theorem Only.setCell {S : List Nat} {a w : World} (h : Only S a w) {p : Addr} (hp : p.block ∈ S ∨ a.heap.size ≤ p.block) (u : Value) : Only S a (w.setCell p u) :=
  ⟨h.os, h.tape, h.output, by simpa [World.setCell] using h.size, fun i hi hn => (Below.heap_setCell w p u i (by
    rintro rfl
    rcases hp with hp | hp
    · exact hn hp
    · omega)).trans (h.block i hi hn)⟩
theorem Only.grown {S : List Nat} {w w' : World} {row : Option Nat} (hg : w.grownBy w' row) (hr : ∀ k, row = some k → k ∈ S) : Only S w w' :=
  ⟨hg.os, hg.tape, hg.output, hg.size, fun i hi hn => hg.block i hi (fun e => hn (hr i e.symm))⟩
theorem Only.cell {S : List Nat} {w w' : World} (h : Only S w w') {p : Addr} (hl : p.block < w.heap.size) (hp : p.block ∉ S) : w'.cell? p = w.cell? p := World.cell?_of_block (w := w) (h.block p.block hl hp)
theorem Only.frozen {S : List Nat} {w w' : World} (h : Only S w w') {p : Addr} (hl : p.block < w.heap.size) (hp : p.block ∉ S) : w'.frozen? p = w.frozen? p := World.frozen?_of_block (w := w) (h.block p.block hl hp)

section
variable {α : Type} {enc : α → Value} {w w' : World} {b : Nat} {l : List (ByteArray × α)}
theorem MapAt.lt (h : MapAt enc w b l) : b < w.heap.size := by
  obtain ⟨es, clock, hb, _⟩ := h
  exact (Array.getElem?_eq_some_iff.1 hb).1
theorem MapAt.keep (h : MapAt enc w b l) (hk : w'.heap[b]? = w.heap[b]?) : MapAt enc w' b l := by
  obtain ⟨es, clock, hb, r⟩ := h
  exact ⟨es, clock, hk.trans hb, r⟩
theorem MapAt.only {S : List Nat} (h : MapAt enc w b l) (ho : Only S w w') (hn : b ∉ S) : MapAt enc w' b l := h.keep (ho.block b h.lt hn)
theorem MapAt.alloc (h : MapAt enc w b l) (o : Obj) : MapAt enc (w.alloc o) b l := h.keep (Below.heap_alloc w o b h.lt)
theorem MapAt.drew (h : MapAt enc w b l) : MapAt enc w.drew b l := h
theorem MapAt.drewN (h : MapAt enc w b l) (n : Nat) : MapAt enc (w.drewN n) b l := h
theorem MapAt.setCell (h : MapAt enc w b l) {p : Addr} (hp : b ≠ p.block) (u : Value) : MapAt enc (w.setCell p u) b l := h.keep (Below.heap_setCell w p u b hp)
theorem MapAt.made (enc : α → Value) (w : World) : MapAt enc (w.alloc (.map #[] 0)) w.heap.size [] := ⟨#[], 0, (MapKept.heap_alloc w _).1, stamped_empty 0, by simp⟩
theorem MapAt.ne_cells (h : MapAt enc w b l) {g : Nat} {cs : Array Value} {t : TypeId} {f : Nat × Nat} (hg : w.heap[g]? = some (.cells cs t f)) : b ≠ g := by
  obtain ⟨es, clock, hb, r⟩ := h
  rintro rfl
  rw [hb] at hg
  cases hg

/-- The keys of a map are strings. -/
theorem keys_string {es : Array MapEntry} (he : es.toList.map (fun e => (e.key, e.val)) = l.map (fun p => (Value.string p.1, enc p.2))) : ∀ x ∈ es.toList, IsKey .string x.key := by
  intro x hx
  have : (x.key, x.val) ∈ es.toList.map (fun e => (e.key, e.val)) := List.mem_map.2 ⟨x, hx, rfl⟩
  rw [he] at this
  obtain ⟨p, _, hp⟩ := List.mem_map.1 this
  simp only [Prod.mk.injEq] at hp
  rw [← hp.1]
  trivial

/-- What the search for a key comes to. -/
theorem find_ents : ∀ (es : List MapEntry) (l : List (ByteArray × α)) (k : ByteArray) (i : Nat), es.map (fun e => (e.key, e.val)) = l.map (fun p => (Value.string p.1, enc p.2)) →
    (mget l k = none ∧ Instr.findNow .string (.string k) es i = some none ∧ ∀ x ∈ es, x.key ≠ .string k) ∨
    ∃ j e a, mget l k = some a ∧ e.val = enc a ∧ Instr.findNow .string (.string k) es i = some (some (i + j, e.val)) ∧ es[j]? = some e ∧ e.key = .string k ∧
      (∀ (e' : MapEntry) (v : α), e'.key = .string k → e'.val = enc v → (es.set j e').map (fun e => (e.key, e.val)) = (mput l k v).map (fun p => (Value.string p.1, enc p.2))) ∧
      (es.eraseIdx j).map (fun e => (e.key, e.val)) = (mdel l k).map (fun p => (Value.string p.1, enc p.2))
  | [], l, k, i, h => by
    cases l with
    | nil => exact .inl ⟨rfl, rfl, by simp⟩
    | cons p l => simp at h
  | e :: es, [], k, i, h => by simp at h
  | e :: es, p :: l, k, i, h => by
    simp only [List.map_cons, List.cons.injEq, Prod.mk.injEq] at h
    obtain ⟨⟨hk, hv⟩, hr⟩ := h
    by_cases hp : p.1 = k
    · have hs : (k == k) = true := (bytes_beq k k).2 rfl
      refine .inr ⟨0, e, p.2, by simp [mget, hp], hv, ?_, rfl, by rw [hk, hp], ?_, ?_⟩
      · simp only [Instr.findNow, Instr.sameNow, hk, hp, hs, Nat.add_zero]
      · intro e' v h1 h2
        simp [mput, hp, h1, h2, hr]
      · simp [mdel, hp, hr]
    · have hs : (k == p.1) = false := by
        cases hb : (k == p.1)
        · rfl
        · exact absurd ((bytes_beq _ _).1 hb).symm hp
      rcases find_ents es l k (i + 1) hr with ⟨h1, h2, h3⟩ | ⟨j, e0, a, h1, h2, h3, h4, h5, h6, h7⟩
      · refine .inl ⟨by simp [mget, hp, h1], by simp [Instr.findNow, Instr.sameNow, hk, hs, h2], fun x hx => ?_⟩
        cases hx with
        | head => rw [hk]; intro e; injection e with e; exact hp e
        | tail _ hx => exact h3 x hx
      · refine .inr ⟨j + 1, e0, a, by simp [mget, hp, h1], h2, ?_, by simpa using h4, h5, ?_, ?_⟩
        · simp only [Instr.findNow, Instr.sameNow, hk, hs, h3]
          congr 3
          omega
        · intro e' v g1 g2
          simp [mput, hp, hk, hv, h6 e' v g1 g2]
        · simp [mdel, hp, hk, hv, h7]

variable {P : Program} {t kt et : TypeId}
/-- 'v, ok := m[k]', 'm[k]', the element's zero value written by z0. -/
theorem MapAt.look2 (h : MapAt enc w b l) (ht : P.underlying t = some (.map kt et)) (hk : P.underlying kt = some .string) (z0 : α) (hz : (zeroValue et).run P w = .ok (enc z0) w) (k : ByteArray) :
    (Instr.lookup t (.map (some b)) (.string k) true).run P w = .ok (.tuple #[enc ((mget l k).getD z0), .bool (mget l k).isSome]) w := by
  obtain ⟨es, clock, hb, hs, he⟩ := h
  rcases find_ents (enc := enc) es.toList l k 0 he with ⟨h1, h2, h3⟩ | ⟨j, e, a, h1, h2, h3, h4, h5, _⟩
  · simp [Instr.lookup, run_underlying ht, MapKept.run_getObj_map hb, MapKept.run_checkKey hk (k := .string k) trivial, MapKept.run_findKey hk h2, hz, Result.andThen, h1]
  · simp [Instr.lookup, run_underlying ht, MapKept.run_getObj_map hb, MapKept.run_checkKey hk (k := .string k) trivial, MapKept.run_findKey hk h3, Result.andThen, h1, h2]
theorem MapAt.look1 (h : MapAt enc w b l) (ht : P.underlying t = some (.map kt et)) (hk : P.underlying kt = some .string) (z0 : α) (hz : (zeroValue et).run P w = .ok (enc z0) w) (k : ByteArray) :
    (Instr.lookup t (.map (some b)) (.string k) false).run P w = .ok (enc ((mget l k).getD z0)) w := by
  obtain ⟨es, clock, hb, hs, he⟩ := h
  rcases find_ents (enc := enc) es.toList l k 0 he with ⟨h1, h2, h3⟩ | ⟨j, e, a, h1, h2, h3, h4, h5, _⟩
  · simp [Instr.lookup, run_underlying ht, MapKept.run_getObj_map hb, MapKept.run_checkKey hk (k := .string k) trivial, MapKept.run_findKey hk h2, hz, Result.andThen, h1]
  · simp [Instr.lookup, run_underlying ht, MapKept.run_getObj_map hb, MapKept.run_checkKey hk (k := .string k) trivial, MapKept.run_findKey hk h3, Result.andThen, h1, h2]
/-- 'm[k]', 'v, ok := m[k]'. -/
theorem MapAt.look (h : MapAt enc w b l) (ht : P.underlying t = some (.map kt et)) (hk : P.underlying kt = some .string) {z : Value} (hz : (zeroValue et).run P w = .ok z w) (k : ByteArray) (c : Bool) :
    (Instr.lookup t (.map (some b)) (.string k) c).run P w = .ok (if c then .tuple #[((mget l k).map enc).getD z, .bool (mget l k).isSome] else ((mget l k).map enc).getD z) w := by
  obtain ⟨es, clock, hb, hs, he⟩ := h
  rcases find_ents (enc := enc) es.toList l k 0 he with ⟨h1, h2, h3⟩ | ⟨j, e, a, h1, h2, h3, h4, h5, _⟩
  · simp [Instr.lookup, run_underlying ht, MapKept.run_getObj_map hb, MapKept.run_checkKey hk (k := .string k) trivial, MapKept.run_findKey hk h2, hz, Result.andThen, h1]
  · simp [Instr.lookup, run_underlying ht, MapKept.run_getObj_map hb, MapKept.run_checkKey hk (k := .string k) trivial, MapKept.run_findKey hk h3, Result.andThen, h1, h2]
theorem look_nilmap (ht : P.underlying t = some (.map kt et)) (hk : P.underlying kt = some .string) {z : Value} (hz : (zeroValue et).run P w = .ok z w) (k : ByteArray) (c : Bool) :
    (Instr.lookup t (.map none) (.string k) c).run P w = .ok (if c then .tuple #[z, .bool false] else z) w := by
  simp [Instr.lookup, run_underlying ht, MapKept.run_checkKey hk (k := .string k) trivial, MapKept.run_findKey hk (show Instr.findNow .string (.string k) [] 0 = some none from rfl), hz, Result.andThen]

theorem only_set {o o' : Obj} (hb : w.heap[b]? = some o) : Only [b] w { w with heap := w.heap.setIfInBounds b o' } :=
  ⟨rfl, rfl, rfl, by simp, fun k _ hn => (heap_set hb).2 k (by simpa using hn)⟩

/-- 'm[k] = v'. -/
theorem MapAt.store (h : MapAt enc w b l) (ht : P.underlying t = some (.map kt et)) (hk : P.underlying kt = some .string) (k : ByteArray) (v : α) :
    ∃ w', (Instr.mapUpdate t (.map (some b)) (.string k) (enc v)).run P w = .ok () w' ∧ MapAt enc w' b (mput l k v) ∧ Only [b] w w' := by
  obtain ⟨es, clock, hb, hs, he⟩ := h
  rcases find_ents (enc := enc) es.toList l k 0 he with ⟨h1, h2, h3⟩ | ⟨j, e, a, h1, h2, h3, h4, h5, h6, _⟩
  · refine ⟨_, by simp [Instr.mapUpdate, run_underlying ht, MapKept.run_getObj_map hb, MapKept.run_checkKey hk (k := .string k) trivial, MapKept.run_findKey hk h2, MapKept.run_setObj_map _ hb, Result.andThen]; rfl, ?_, only_set hb⟩
    exact ⟨_, _, (heap_set hb).1, stamped_push hs h3, by rw [mput_new l h1]; simp [he]⟩
  · have hj : es[j]? = some e := by simpa using h4
    refine ⟨_, by simp [Instr.mapUpdate, run_underlying ht, MapKept.run_getObj_map hb, MapKept.run_checkKey hk (k := .string k) trivial, MapKept.run_findKey hk h3, hj, h5, MapKept.run_keyThatStays (d := .string) (k := .string k) trivial, MapKept.run_setObj_map _ hb, Result.andThen]; rfl, ?_, only_set hb⟩
    refine ⟨_, _, (heap_set hb).1, stamped_modify hs _ _ (fun _ _ => rfl) (fun e' _ he' => by rw [hj] at he'; cases he'; exact h5.symm), ?_⟩
    have hlist : (es.modify j (fun e' => { e' with key := .string k, val := enc v })).toList = es.toList.set j { e with key := .string k, val := enc v } := by rw [Array.toList_modify, ChangeMaps.modify_eq_set _ _ _ _ h4]
    rw [hlist]
    exact h6 _ v rfl rfl
/-- Between the two halves of 'm[k] = v' in a statement with more than one left side: the entry at k is there, under the stamp st; what it holds will be written. -/
def MapHole {α : Type} (enc : α → Value) (w : World) (b : Nat) (l : List (ByteArray × α)) (k : ByteArray) (st : Nat) : Prop :=
  ∃ es clock j e, w.heap[b]? = some (.map es clock) ∧ Stamped es clock ∧ es.toList[j]? = some e ∧ e.born = st ∧
    ∀ v, (es.toList.set j { e with val := enc v }).map (fun e => (e.key, e.val)) = (mput l k v).map (fun p => (Value.string p.1, enc p.2))
theorem MapHole.lt {k : ByteArray} {st : Nat} (h : MapHole enc w b l k st) : b < w.heap.size := by
  obtain ⟨es, clock, j, e, hb, _⟩ := h
  exact (Array.getElem?_eq_some_iff.1 hb).1
theorem MapHole.keep {k : ByteArray} {st : Nat} (h : MapHole enc w b l k st) (hk : w'.heap[b]? = w.heap[b]?) : MapHole enc w' b l k st := by
  obtain ⟨es, clock, j, e, hb, r⟩ := h
  exact ⟨es, clock, j, e, hk.trans hb, r⟩
theorem MapHole.only {k : ByteArray} {st : Nat} {S : List Nat} (h : MapHole enc w b l k st) (ho : Only S w w') (hn : b ∉ S) : MapHole enc w' b l k st := h.keep (ho.block b h.lt hn)

theorem set_last {β : Type} (a c : β) : ∀ l : List β, (l ++ [a]).set l.length c = l ++ [c]
  | [] => rfl
  | x :: l => by simp [set_last a c l]

theorem MapAt.entry (h : MapAt enc w b l) (ht : P.underlying t = some (.map kt et)) (hk : P.underlying kt = some .string) {z : Value} (hz : (zeroValue et).run P w = .ok z w) (k : ByteArray) :
    ∃ w' v0 st, (Instr.mapEntry t (.map (some b)) (.string k)).run P w = .ok (.tuple #[v0, .int .i64 ((st : Nat) : Int)]) w' ∧ MapHole enc w' b l k st ∧ Only [b] w w' := by
  obtain ⟨es, clock, hb, hs, he⟩ := h
  rcases find_ents (enc := enc) es.toList l k 0 he with ⟨h1, h2, h3⟩ | ⟨j, e, a, h1, h2, h3, h4, h5, h6, _⟩
  · refine ⟨_, z, clock, by simp [Instr.mapEntry, run_underlying ht, MapKept.run_getObj_map hb, MapKept.run_checkKey hk (k := .string k) trivial, MapKept.run_findKey hk h2, hz, MapKept.run_setObj_map _ hb, Result.andThen, goInt]; rfl, ?_, only_set hb⟩
    refine ⟨_, _, es.toList.length, ⟨.string k, z, clock⟩, (heap_set hb).1, stamped_push hs h3, by simp, rfl, fun v => ?_⟩
    rw [mput_new l h1, Array.toList_push, set_last]
    simp [he]
  · have hj : es[j]? = some e := by simpa using h4
    refine ⟨_, enc a, e.born, by simp [Instr.mapEntry, run_underlying ht, MapKept.run_getObj_map hb, MapKept.run_checkKey hk (k := .string k) trivial, MapKept.run_findKey hk h3, hj, h5, h2, MapKept.run_keyThatStays (d := .string) (k := .string k) trivial, MapKept.run_setObj_map _ hb, Result.andThen, goInt]; rfl, ?_, only_set hb⟩
    have hlist : (es.modify j (fun e' => { e' with key := .string k })).toList = es.toList.set j { e with key := .string k } := by rw [Array.toList_modify, ChangeMaps.modify_eq_set _ _ _ _ h4]
    have hjl : j < es.toList.length := (List.getElem?_eq_some_iff.1 h4).1
    refine ⟨_, _, j, { e with key := .string k }, (heap_set hb).1, stamped_modify hs _ _ (fun _ _ => rfl) (fun e' _ he' => by rw [hj] at he'; cases he'; exact h5.symm), by rw [hlist, List.getElem?_set_self hjl], rfl, fun v => ?_⟩
    rw [hlist, List.set_set]
    exact h6 _ v rfl rfl

theorem findIdx_stamp : ∀ (l : List MapEntry) (j : Nat) (e : MapEntry), (l.map (·.born)).Nodup → l[j]? = some e → l.findIdx? (fun x => ((x.born : Nat) : Int) == ((e.born : Nat) : Int)) = some j
  | [], j, e, _, h => by simp at h
  | x :: l, 0, e, _, h => by
    obtain rfl : x = e := by simpa using h
    simp [List.findIdx?_cons]
  | x :: l, j + 1, e, hn, h => by
    simp only [List.map_cons, List.nodup_cons] at hn
    have hm : e ∈ l := List.mem_of_getElem? (by simpa using h)
    have hne : (((x.born : Nat) : Int) == ((e.born : Nat) : Int)) = false := by
      have : x.born ≠ e.born := fun q => hn.1 (List.mem_map.2 ⟨e, hm, q.symm⟩)
      simp only [beq_eq_false_iff_ne, ne_eq]
      omega
    rw [List.findIdx?_cons, hne, findIdx_stamp l j e hn.2 (by simpa using h)]
    rfl

theorem MapHole.fill {k : ByteArray} {st : Nat} (h : MapHole enc w b l k st) (v : α) :
    ∃ w', (Instr.entryStore t (.map (some b)) (.int .i64 (st : Int)) (enc v)).run P w = .ok () w' ∧ MapAt enc w' b (mput l k v) ∧ Only [b] w w' := by
  obtain ⟨es, clock, j, e, hb, hs, hj, rfl, hl⟩ := h
  have hf : es.findIdx? (fun x => ((x.born : Nat) : Int) == ((e.born : Nat) : Int)) = some j := by
    have := findIdx_stamp es.toList j e hs.2.1 hj
    rw [← this]
    cases es
    simp
  refine ⟨_, by simp [Instr.entryStore, MapKept.run_getObj_map hb, asInt, asIntOf, hf, MapKept.run_setObj_map _ hb, Result.andThen]; rfl, ?_, only_set hb⟩
  have hlist : (es.modify j (fun e' => { e' with val := enc v })).toList = es.toList.set j { e with val := enc v } := by rw [Array.toList_modify, ChangeMaps.modify_eq_set _ _ _ _ hj]
  exact ⟨_, _, (heap_set hb).1, stamped_modify hs _ _ (fun _ _ => rfl) (fun _ _ _ => rfl), by rw [hlist]; exact hl v⟩

/-- 'len(m)'. -/
theorem MapAt.len (h : MapAt enc w b l) (ht : P.underlying t = some (.map kt et)) (ty : TypeId) : (Builtin.len_ #[t] ty #[.map (some b)]).run P w = .ok (.int .i64 l.length) w := by
  obtain ⟨es, clock, hb, hs, he⟩ := h
  have e1 : es.size = l.length := by have := congrArg List.length he; simpa using this
  simp [Builtin.len_, run_underlying ht, MapKept.run_getObj_map hb, goInt, Result.andThen, e1]

/-- 'delete(m, k)'. -/
theorem MapAt.drop (h : MapAt enc w b l) (ht : P.underlying t = some (.map kt et)) (hk : P.underlying kt = some .string) (k : ByteArray) (ty : TypeId) :
    ∃ w', (Builtin.delete_ #[t, kt] ty #[.map (some b), .string k]).run P w = .ok (.tuple #[]) w' ∧ MapAt enc w' b (mdel l k) ∧ Only [b] w w' := by
  obtain ⟨es, clock, hb, hs, he⟩ := h
  rcases find_ents (enc := enc) es.toList l k 0 he with ⟨h1, h2, h3⟩ | ⟨j, e, a, h1, h2, h3, h4, h5, _, h7⟩
  · refine ⟨_, by simp [Builtin.delete_, run_underlying ht, MapKept.run_getObj_map hb, MapKept.run_checkKey hk (k := .string k) trivial, MapKept.run_findKey hk h2, MapKept.run_setObj_map (.map es clock) hb, Result.andThen], ⟨es, clock, (heap_set hb).1, hs, ?_⟩, only_set hb⟩
    rw [he]
    have : mdel l k = l := by
      have hn := (mget_none_iff l k).1 h1
      clear h1 h2 he
      induction l with
      | nil => rfl
      | cons p l ih => simp [mdel, hn p (by simp), ih (fun q hq => hn q (by simp [hq]))]
    rw [this]
  · have hjl : j < es.size := by have := (List.getElem?_eq_some_iff.1 h4).1; simpa using this
    refine ⟨_, by simp [Builtin.delete_, run_underlying ht, MapKept.run_getObj_map hb, MapKept.run_checkKey hk (k := .string k) trivial, MapKept.run_findKey hk h3, MapKept.run_setObj_map _ hb, Result.andThen]; rfl, ?_, only_set hb⟩
    refine ⟨_, _, (heap_set hb).1, stamped_erase hs j, ?_⟩
    unfold Array.eraseIdxIfInBounds
    rw [dif_pos hjl, Array.toList_eraseIdx]
    exact h7

/-- 'len(m)' at the operation: '(at_len; refine wpList_len_map rfl _ T rfl A.underlyingT hmap rfl ?_)'. -/
theorem wpList_len_map {ops : Array Oper} {rest : List Oper} {o : Oper} {a : Act} {Q : Exit → Act → World → Prop} (hg : o.guard = none) (m : Operand) (t : TypeId) (hop : o.op = Op.call { callee := Callee.builtin Builtin.len, args := #[m], argTypes := #[t] })
    (ht : P.underlying t = some (.map kt et)) (h : MapAt enc w b l) (hm : a.eval m = .map (some b)) (hK : wpList P ops Q rest (a.put o.dst (.int .i64 l.length)) w) : wpList P ops Q (o :: rest) a w := by
  refine wpList_plain hg fun K' hK' => ?_
  unfold Oper.wp
  simp [execOp, hop, resolve, invoke, builtin, hm, h.len ht o.type, Result.andThen]
  exact hK' _ _ hK
/-- 'delete(m, k)' at the operation: '(at_delete; refine wpList_delete_map rfl _ _ T K rfl A.underlyingT A.underlyingK hmap rfl rfl ?_; intro W1 hm1 ho1)'. -/
theorem wpList_delete_map {ops : Array Oper} {rest : List Oper} {o : Oper} {a : Act} {Q : Exit → Act → World → Prop} (hg : o.guard = none) (m x : Operand) (t k : TypeId) (hop : o.op = Op.call { callee := Callee.builtin Builtin.delete, args := #[m, x], argTypes := #[t, k] })
    (ht : P.underlying t = some (.map k et)) (hk : P.underlying k = some .string) (h : MapAt enc w b l) (hm : a.eval m = .map (some b)) {key : ByteArray} (hx : a.eval x = .string key)
    (hK : ∀ w', MapAt enc w' b (mdel l key) → Only [b] w w' → wpList P ops Q rest (a.put o.dst (.tuple #[])) w') : wpList P ops Q (o :: rest) a w := by
  refine wpList_plain hg fun K' hK' => ?_
  obtain ⟨w', hrun, r1, r2⟩ := h.drop ht hk key o.type
  unfold Oper.wp
  simp [execOp, hop, resolve, invoke, builtin, hm, hx, hrun, Result.andThen]
  exact hK' _ _ (hK w' r1 r2)
/-- 'm[k] = v' at the operation: '(at_mapUpdate; refine wpList_store_map rfl _ _ _ T rfl A.underlyingT A.underlyingK hmap rfl rfl rfl ?_; intro W1 hm1 ho1)'. -/
theorem wpList_store_map {ops : Array Oper} {rest : List Oper} {o : Oper} {a : Act} {Q : Exit → Act → World → Prop} (hg : o.guard = none) (m x v : Operand) (t : TypeId) (hop : o.op = Op.mapUpdate t m x v)
    (ht : P.underlying t = some (.map kt et)) (hk : P.underlying kt = some .string) (h : MapAt enc w b l) (hm : a.eval m = .map (some b)) {key : ByteArray} (hx : a.eval x = .string key) (val : α) (hv : a.eval v = enc val)
    (hK : ∀ w', MapAt enc w' b (mput l key val) → Only [b] w w' → wpList P ops Q rest (a.put o.dst undef) w') : wpList P ops Q (o :: rest) a w := by
  refine wpList_plain hg fun K' hK' => ?_
  obtain ⟨w', hrun, r1, r2⟩ := h.store ht hk key val
  unfold Oper.wp
  simp [execOp, hop, hm, hx, hv, hrun, Result.andThen]
  exact hK' _ _ (hK w' r1 r2)
end

theorem hide {p : Prop} (h : p) : Hid p := h
/-- An operation that yields a value, what it yields and the world behind it said by the caller. -/
theorem wpList_to {P : Program} {ops : Array Oper} {rest : List Oper} {o : Oper} {a : Act} {w : World} {Q : Exit → Act → World → Prop} (hg : o.guard = none) (dst : Option Tmp) (hdst : o.dst = dst)
    (v : Value) (w' : World) (hrun : (execOp a.eval o).run P w = .ok (.value v) w') (h : wpList P ops Q rest (a.put dst v) w') : wpList P ops Q (o :: rest) a w := by
  subst hdst
  refine wpList_plain hg fun K hK => ?_
  unfold Oper.wp
  rw [hrun, Oper.upon_value]
  exact hK _ _ h
/-- A piece of code that comes to one end alone. -/
theorem wp_det {P : Program} {c : Code} {Q : Exit → Act → World → Prop} {a : Act} {w : World} (A : Act) (W : World) (h : c.wp P (fun e a' w' => e = .normal ∧ a' = A ∧ w' = W) a w) (hq : Q .normal A W) : c.wp P Q a w :=
  Code.wp_mono (by rintro e a w ⟨rfl, rfl, rfl⟩; exact hq) h
/-- What is known of the world is put into words; the world itself is forgotten. -/
theorem wp_forget {P : Program} {c : Code} {Q : Exit → Act → World → Prop} {a : Act} {w : World} (R : World → Prop) (hR : R w) (k : ∀ W, R W → c.wp P Q a W) : c.wp P Q a w := k w hR

theorem two_new (w : World) (o1 o2 : Obj) : ((w.alloc o1).alloc o2).heap[w.heap.size]? = some o1 ∧ ((w.alloc o1).alloc o2).heap[w.heap.size + 1]? = some o2 := by
  show ((w.heap.push o1).push o2)[_]? = _ ∧ ((w.heap.push o1).push o2)[_]? = _
  constructor
  · simp [Array.getElem?_push]
  · rw [Array.getElem?_push, if_pos (by simp)]

theorem bytes_ext {a b : ByteArray} (h : a.toList = b.toList) : a = b := by
  have := congrArg List.toArray h
  cases a
  cases b
  simp only [ByteArray.toList_eq] at h
  congr
  exact Array.ext' h
end Go.Proofs.Ytljkaafdajpmkaa
