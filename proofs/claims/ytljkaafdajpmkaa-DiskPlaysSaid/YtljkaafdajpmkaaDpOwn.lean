/- Slices of the call's own: reading them, one more element behind them. -/
import Derived.Test.YtljkaafdajpmkaaDpMap
import Derived.Maps.AppendAt
import Derived.Laws.OwnMore
import Derived.Deep.AppendLies
import Derived.WalkKit
namespace Go.Proofs.Ytljkaafdajpmkaa
open Go.RowKit

section
variable {w w' : World} {base size n : Nat} {e : TypeId} {v : Value} {xs : List Value}
/-- A slice value that owns a row, opened. -/
theorem own_form (h : w.ownsRow base e size v n xs) : ∃ A c, v = .slice A n c ∧ n ≤ c ∧ ∀ j u, xs[j]? = some u → ∃ g, A = some ⟨g, 0, none⟩ ∧ base ≤ g ∧ g < w.heap.size ∧ w.cell? ⟨g, j, none⟩ = some u := by
  have hc := h
  obtain ⟨hl, hnil | ⟨g, cap, cur, rfl, hb, hh, hn, hm, hs, ht⟩⟩ := h
  · obtain ⟨rfl, rfl⟩ := hnil
    refine ⟨none, 0, rfl, Nat.le_refl _, fun j u hu => ?_⟩
    have : xs = [] := List.eq_nil_of_length_eq_zero (by simpa using hl)
    subst this
    simp at hu
  · refine ⟨_, cap, rfl, hn, fun j u hu => ⟨g, rfl, hb, (Array.getElem?_eq_some_iff.1 hh).1, ?_⟩⟩
    have := hc.cells (g := g) rfl j u hu
    have hp : (⟨g, 0, none⟩ : Addr).add j = ⟨g, j, none⟩ := by unfold Addr.add; split <;> simp_all
    rwa [hp] at this
theorem own_lt (h : w.ownsRow base e size v n xs) {b : Nat} (hb : b ∈ v.ownBlock.toList) : base ≤ b ∧ b < w.heap.size := h.lt b (by simpa using hb)
theorem own_only {S : List Nat} (h : w.ownsRow base e size v n xs) (ho : Only S w w') (hS : ∀ b ∈ v.ownBlock.toList, b ∉ S) : w'.ownsRow base e size v n xs := by
  obtain ⟨hl, hnil | ⟨g, cap, cur, rfl, hb, hh, r⟩⟩ := h
  · exact ⟨hl, .inl hnil⟩
  · exact ⟨hl, .inr ⟨g, cap, cur, rfl, hb, (ho.block g (Array.getElem?_eq_some_iff.1 hh).1 (hS g (by simp [Value.ownBlock]))).trans hh, r⟩⟩
theorem own_base {base' : Nat} (h : w.ownsRow base e size v n xs) (hb : base' ≤ base) : w.ownsRow base' e size v n xs := by
  obtain ⟨hl, hnil | ⟨g, cap, cur, hv, hg, r⟩⟩ := h
  · exact ⟨hl, .inl hnil⟩
  · exact ⟨hl, .inr ⟨g, cap, cur, hv, Nat.le_trans hb hg, r⟩⟩
theorem own_ne_map {α : Type} {enc : α → Value} {b : Nat} {l : List (ByteArray × α)} (h : w.ownsRow base e size v n xs) (hm : MapAt enc w b l) : b ∉ v.ownBlock.toList := by
  obtain ⟨hl, hnil | ⟨g, cap, cur, rfl, hb, hh, r⟩⟩ := h
  · rw [hnil.1]; simp [Value.ownBlock]
  · have := hm.ne_cells hh
    simpa [Value.ownBlock] using this
theorem own_ne_type {g : Nat} {cs : Array Value} {t : TypeId} {f : Nat × Nat} (h : w.ownsRow base e size v n xs) (hg : w.heap[g]? = some (.cells cs t f)) (hne : e ≠ t) : g ∉ v.ownBlock.toList := by
  obtain ⟨hl, hnil | ⟨g', cap, cur, rfl, hb, hh, r⟩⟩ := h
  · rw [hnil.1]; simp [Value.ownBlock]
  · intro hx
    have : g = g' := by simpa [Value.ownBlock] using hx
    subst this
    rw [hh] at hg
    injection hg with hg
    injection hg with _ h2 _
    exact hne h2

variable {P : Program}
/-- 'append(s, x..)' onto a slice of the call's own; what is appended stands at the head of block g. -/
theorem wpList_app {ops : Array Oper} {rest : List Oper} {o : Oper} {a : Act} {Q : Exit → Act → World → Prop} (hgd : o.guard = none) (s x : Operand) (t : TypeId)
    (ho : o.op = .call { callee := .builtin .append, args := #[s, x], argTypes := #[t, t] })
    (ht : P.underlying t = some (.slice e)) {z : Value} {bytes : Nat} (hinfo : (P.info? e).map (fun i => (i.zero, i.size, i.bytes)) = some (some z, size, bytes)) (hzs : z.cells.size = size) (hsz : 0 < size)
    (hs : a.eval s = v) (hown : w.ownsRow base e size v n xs)
    (g m c : Nat) (news : List Value) (hx : a.eval x = .slice (some ⟨g, 0, none⟩) m c) (hl : news.length = m * size) (hnews : ∀ j u, news[j]? = some u → w.cell? ⟨g, j, none⟩ = some u) (h1 : ∀ u ∈ news, u.oneCell' = true)
    (hbytes : (n + m) * bytes ≤ 140737488355328) (h63 : n + m ≤ maxLen) (hbase : base ≤ w.heap.size)
    (h : ∀ v' w', w'.ownsRow base e size v' (n + m) (xs ++ news) → Only v.ownBlock.toList w w' → (v' = .slice none 0 0 ↔ v = .slice none 0 0 ∧ m = 0) → wpList P ops Q rest (a.put o.dst v') w') : wpList P ops Q (o :: rest) a w := by
  obtain ⟨i, hi, hz, hsize, hby⟩ := info_parts hinfo
  refine wpList_append_own_at w hgd s x t ho base e i z size bytes ht hi hz hsize hby hzs hsz v n xs hs hown ⟨g, 0, none⟩ m c news hx hl ?_ h1 h63 hbytes hbase ?_
  · intro j u hu
    have hp : (⟨g, 0, none⟩ : Addr).add j = ⟨g, j, none⟩ := by unfold Addr.add; split <;> simp_all
    rw [hp]
    exact hnews j u hu
  · intro v' w1 h2 h3 h4 h5
    exact h v' w1 h2 (Only.grown h3 (fun k hk => by simp [hk])) h4
end
end Go.Proofs.Ytljkaafdajpmkaa
