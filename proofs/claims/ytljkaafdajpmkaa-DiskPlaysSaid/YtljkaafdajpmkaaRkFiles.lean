/- The reference's files: rows of a path and a text; find, without. -/
import Derived.Test.YtljkaafdajpmkaaDkDo
import Derived.Deep.RegionLawGrows
namespace Go.Proofs.Ytljkaafdajpmkaa
open Go.RowKit
set_option linter.unusedVariables false

def fcells (l : Files) : List Value := l.flatMap fun p => [.string p.1, .string p.2]
theorem fcells_append (l m : Files) : fcells (l ++ m) = fcells l ++ fcells m := by simp [fcells]
theorem fcells_len (l : Files) : (fcells l).length = l.length * 2 := by
  induction l with
  | nil => rfl
  | cons p l ih => simp [fcells] at ih ⊢; omega
theorem fcells_one (l : Files) : ∀ u ∈ fcells l, u.oneCell' = true := by
  intro u hu
  obtain ⟨p, _, h⟩ := List.mem_flatMap.1 hu
  simp at h
  rcases h with rfl | rfl <;> rfl
theorem fcells_at : ∀ {l : Files} {j : Nat} {p : ByteArray × ByteArray}, l[j]? = some p → (fcells l)[j * 2]? = some (.string p.1) ∧ (fcells l)[j * 2 + 1]? = some (.string p.2)
  | [], j, p, h => by simp at h
  | q :: l, 0, p, h => by
    obtain rfl : q = p := by simpa using h
    exact ⟨rfl, rfl⟩
  | q :: l, j + 1, p, h => by
    have := fcells_at (l := l) (j := j) (p := p) (by simpa using h)
    have e : (j + 1) * 2 = j * 2 + 1 + 1 := by omega
    rw [e]
    exact this
/-- A slice whose cells lie somewhere in a block. -/
def ArgO (w : World) (A : Option Addr) (cells : List Value) : Prop := ∀ j u, cells[j]? = some u → ∃ g off, A = some ⟨g, off, none⟩ ∧ g < w.heap.size ∧ w.cell? ⟨g, off + j, none⟩ = some u
theorem ArgAt.off {w : World} {A : Option Addr} {cells : List Value} (h : ArgAt w A cells) : ArgO w A cells := fun j u hu => by
  obtain ⟨g, hA, hg, hc⟩ := h j u hu
  exact ⟨g, 0, hA, hg, by simpa using hc⟩
theorem ArgO.only {w w' : World} {A : Option Addr} {cells : List Value} (h : ArgO w A cells) (ho : Only [] w w') : ArgO w' A cells := fun j u hu => by
  obtain ⟨g, off, hA, hg, hc⟩ := h j u hu
  exact ⟨g, off, hA, Nat.lt_of_lt_of_le hg ho.size, (ho.cell (p := ⟨g, off + j, none⟩) hg (by simp)).trans hc⟩
theorem ArgO.take {w : World} {A : Option Addr} {cells : List Value} (h : ArgO w A cells) (k : Nat) : ArgO w A (cells.take k) := fun j u hu => by
  rw [List.getElem?_take] at hu
  split at hu
  · exact h j u hu
  · cases hu
theorem addr_off (g off k : Nat) : (⟨g, off, none⟩ : Addr).add k = ⟨g, off + k, none⟩ := by unfold Addr.add; split <;> simp_all
theorem ArgO.drop {w : World} {A : Option Addr} {cells : List Value} (h : ArgO w A cells) (k : Nat) : ArgO w (A.map (·.add k)) (cells.drop k) := fun j u hu => by
  rw [List.getElem?_drop] at hu
  obtain ⟨g, off, rfl, hg, hc⟩ := h _ u hu
  exact ⟨g, off + k, by simp [addr_off], hg, by rw [Nat.add_assoc]; exact hc⟩
section
variable {P : Program} {w : World} {base size n : Nat} {e : TypeId} {v : Value} {xs : List Value}
theorem run_app_none (t ty : TypeId) (ht : P.underlying t = some (.slice e)) (i : TypeInfo) (hi : P.info? e = some i) (hown : w.ownsRow base e size v n xs) (c : Nat) :
    (Builtin.append_ #[t, t] ty #[v, .slice none 0 c]).run P w = .ok v w := by
  obtain ⟨hl, hnil | ⟨g, cap, cur, rfl, _, _, hnc, _⟩⟩ := hown
  · rw [hnil.1]
    simp [Builtin.append_, run_underlying ht, sizeOf, typeInfo, hi, Builtin.lenOf, Builtin.firstCells]
  · simp [Builtin.append_, run_underlying ht, sizeOf, typeInfo, hi, Builtin.lenOf, Builtin.firstCells, hnc, storeCells]
theorem run_app_arg (t ty : TypeId) (ht : P.underlying t = some (.slice e)) {z : Value} {bytes : Nat} (hinfo : (P.info? e).map (fun i => (i.zero, i.size, i.bytes)) = some (some z, size, bytes)) (hzs : z.cells.size = size) (hsz : 0 < size)
    (hown : w.ownsRow base e size v n xs) (A : Option Addr) (m c : Nat) (news : List Value) (hl : news.length = m * size) (hnews : ArgO w A news) (h1 : ∀ u ∈ news, u.oneCell' = true)
    (hbytes : (n + m) * bytes ≤ 140737488355328) (h63 : n + m ≤ maxLen) (hbase : base ≤ w.heap.size) :
    ∃ v' w', (Builtin.append_ #[t, t] ty #[v, .slice A m c]).run P w = .ok v' w' ∧ w'.ownsRow base e size v' (n + m) (xs ++ news) ∧ Only v.ownBlock.toList w w' := by
  obtain ⟨i, hi, hz, hsize, hby⟩ := info_parts hinfo
  cases A with
  | none =>
    have hn : news = [] := by
      cases news with
      | nil => rfl
      | cons u news =>
        obtain ⟨g, off, h, _⟩ := hnews 0 u rfl
        cases h
    subst hn
    have hm : m = 0 := by
      rcases Nat.eq_zero_or_pos m with h | h
      · exact h
      · have := Nat.mul_pos h hsz
        simp at hl
        omega
    subst hm
    exact ⟨v, w, run_app_none t ty ht i hi hown c, by simpa using hown, Only.refl _ _⟩
  | some ad =>
    obtain ⟨v', w', hr, h2, h3, h4, h5⟩ := run_append_own_at (P := P) w base t ty e i z size bytes ht hi hz hsize hby hzs hsz v n xs hown ad m c news hl (fun j u hu => by
      obtain ⟨g, off, h, _, hc⟩ := hnews j u hu
      obtain rfl : ad = ⟨g, off, none⟩ := by injection h
      rw [addr_off]
      exact hc) h1 h63 hbytes hbase
    exact ⟨v', w', hr, h2, Only.grown h3 (fun k hk => by simp [hk])⟩
theorem step_app_arg {ops : Array Oper} {o : Oper} {a : Go.Act} {K : Go.Act → World → Prop} {Q : Exit → Go.Act → World → Prop} {E : Prop} (hgd : o.guard = none) (s x : Operand) (t : TypeId)
    (ho : o.op = .call { callee := .builtin .append, args := #[s, x], argTypes := #[t, t] })
    (ht : P.underlying t = some (.slice e)) {z : Value} {bytes : Nat} (hinfo : (P.info? e).map (fun i => (i.zero, i.size, i.bytes)) = some (some z, size, bytes)) (hzs : z.cells.size = size) (hsz : 0 < size)
    (hs : a.eval s = v) (hown : w.ownsRow base e size v n xs)
    (A : Option Addr) (m c : Nat) (news : List Value) (hx : a.eval x = .slice A m c) (hl : news.length = m * size) (hnews : ArgO w A news) (h1 : ∀ u ∈ news, u.oneCell' = true)
    (hbytes : (n + m) * bytes ≤ 140737488355328) (h63 : n + m ≤ maxLen) (hbase : base ≤ w.heap.size)
    (h : ∀ v' w', w'.ownsRow base e size v' (n + m) (xs ++ news) → Only v.ownBlock.toList w w' → K (a.put o.dst v') w') : if Region.wanted o (yielded ops a.tmps) = true then Oper.wp P o a w K Q else E := by
  have hw : Region.wanted o (yielded ops a.tmps) = true := by simp [Region.wanted, hgd]
  rw [if_pos hw]
  obtain ⟨v', w', hr, h2, h3⟩ := run_app_arg (P := P) t o.type ht hinfo hzs hsz hown A m c news hl hnews h1 hbytes h63 hbase
  unfold Oper.wp execOp
  simp only [ho, resolve, invoke, builtin, Sem.run_bind, Sem.run_pure, Result.andThen_ok, List.map_toArray, List.map_cons, List.map_nil, hs, hx, hr]
  exact h v' w' h2 h3
end
theorem infoFile : (Try.prog.info? 110).map (fun i => (i.zero, i.size, i.bytes)) = some (some (.agg #[.string ⟨#[]⟩, .string ⟨#[]⟩]), 2, 32) := by kernel_rfl

def FindPost (r : Option ByteArray) (w : World) (e : Ending) (w' : World) : Prop := e = .returned (.tuple #[.string (r.getD ⟨#[]⟩), .bool r.isSome]) ∧ Only [] w w'
theorem mget_at : ∀ {l : Files} {j : Nat} {q : ByteArray × ByteArray} {p : ByteArray}, mget (l.take j) p = none → l[j]? = some q → q.1 = p → mget l p = some q.2
  | [], j, q, p, _, h, _ => by simp at h
  | r :: l, 0, q, p, _, h, hp => by
    obtain rfl : r = q := by simpa using h
    unfold mget
    rw [if_pos hp]
  | r :: l, j + 1, q, p, hn, h, hp => by
    rw [List.take_succ_cons] at hn
    unfold mget at hn ⊢
    split at hn
    · cases hn
    · rename_i hr
      rw [if_neg hr]
      exact mget_at hn (by simpa using h) hp
theorem mget_snoc : ∀ {l : Files} {q : ByteArray × ByteArray} {p : ByteArray}, mget l p = none → q.1 ≠ p → mget (l ++ [q]) p = none
  | [], q, p, _, h => by simp [mget, h]
  | r :: l, q, p, hn, h => by
    rw [List.cons_append]
    unfold mget at hn ⊢
    split at hn
    · cases hn
    · rename_i hr
      rw [if_neg hr]
      exact mget_snoc hn h
set_option maxHeartbeats 2000000 in
set_option maxRecDepth 100000 in
theorem find_any (l : Files) (p : ByteArray) (A : Option Addr) (c : Nat) (w : World) (hl : l.length ≤ 1000000) (ha : ArgAt w A (fcells l)) :
    Calls Try.prog 20 #[.slice A l.length c, .string p] w (FindPost (mget l p) w) := by
  obtain ⟨r, hr⟩ : ∃ r, r = mget l p := ⟨_, rfl⟩
  rw [← hr]
  have HR := hide hr
  clear hr
  go_enter Try.func20, Try.ntmps20
  go_wp2
  go_loopw [6] (fun v6 W => ∃ j : Nat, j ≤ l.length ∧ v6 = .int .i64 j ∧ mget (l.take j) p = none ∧ Only [] w W) (fun v6 _ => (l.length - intOf v6).toNat)
  case atStart => exact ⟨0, by omega, rfl, by simp [mget], Only.refl _ _⟩
  case round =>
    obtain ⟨j, hj, rfl, hno, hO⟩ := hrel
    have HNo := hide hno
    have HO := hide hO
    clear hno
    by_cases hlt : j < l.length
    · obtain ⟨q, hq⟩ : ∃ q, l[j]? = some q := ⟨_, List.getElem?_eq_getElem hlt⟩
      have haw := ha.only hO (by simp)
      obtain ⟨ga, rfl, hga, k0⟩ := haw _ _ (fcells_at hq).1
      obtain ⟨_, e1, _, k1⟩ := haw _ _ (fcells_at hq).2
      cases e1
      have HQ := hide hq
      have HA := hide ha
      clear hq ha haw hO
      by_cases hp : q.1 = p
      · have hr : r = some q.2 := by rw [HR.out]; exact mget_at HNo.out HQ.out hp
        have d0 : (q.1.toList == p.toList) = true := by rw [hp]; simp
        have HRr := hide hr
        clear hp hr
        go_wp2
        go_ret2
        rw [HRr.out]
        exact ⟨rfl, HO.out⟩
      · have d0 := toList_ne hp
        have HP := hide hp
        clear hp
        go_wp2
        go_roundw
        case rel => exact ⟨j + 1, by omega, by go_num, by rw [List.take_add_one, HQ.out]; exact mget_snoc HNo.out HP.out, HO.out⟩
        case measure => simp [intOf]; omega
    · obtain rfl : j = l.length := by omega
      have hr : r = none := by rw [HR.out]; have := HNo.out; rwa [List.take_length] at this
      have HRr := hide hr
      clear hr
      go_wp2
      go_ret2
      rw [HRr.out]
      exact ⟨rfl, HO.out⟩

/-- Files that a call has made. -/
def SlOk (A : Option Addr) (c : Nat) : Prop := (A = none ∧ c = 0) ∨ ∃ g, A = some ⟨g, 0, none⟩
theorem own_sl {w : World} {base size n c : Nat} {e : TypeId} {A : Option Addr} {xs : List Value} (h : w.ownsRow base e size (.slice A n c) n xs) : SlOk A c := by
  obtain ⟨_, hnil | ⟨g, cap, cur, hv, _⟩⟩ := h
  · have := hnil.1
    injection this with h1 h2 h3
    exact .inl ⟨h1, h3⟩
  · injection hv with h1 h2 h3
    exact .inr ⟨g, h1⟩
def FilesAt (w : World) (l : Files) (e : Ending) (w' : World) : Prop := ∃ A c, e = .returned (.slice A l.length c) ∧ l.length ≤ c ∧ ArgAt w' A (fcells l) ∧ Only [] w w' ∧ SlOk A c
theorem own_files {w : World} {base n : Nat} {e : TypeId} {v : Value} {l : Files} (h : w.ownsRow base e 2 v n (fcells l)) : ∃ A c, v = .slice A n c ∧ n ≤ c ∧ ArgAt w A (fcells l) ∧ SlOk A c := by
  obtain ⟨A, c, rfl, hc, hcells⟩ := own_form h
  exact ⟨A, c, rfl, hc, fun j u hu => by obtain ⟨g, h1, _, h2, h3⟩ := hcells j u hu; exact ⟨g, h1, h2, h3⟩, own_sl h⟩
/-- Files without a path. -/
def rWithout (l : Files) (p : ByteArray) : Files := l.filter fun q => !decide (q.1 = p)
theorem rWithout_len (l : Files) (p : ByteArray) : (rWithout l p).length ≤ l.length := List.length_filter_le _ _
theorem rWithout_snoc {l : Files} {j : Nat} {q : ByteArray × ByteArray} (p : ByteArray) (h : l[j]? = some q) : rWithout (l.take (j + 1)) p = if q.1 = p then rWithout (l.take j) p else rWithout (l.take j) p ++ [q] := by
  rw [List.take_add_one, h]
  unfold rWithout
  rw [Option.toList_some, List.filter_append]
  by_cases hp : q.1 = p <;> simp [hp]
set_option maxHeartbeats 2000000 in
set_option maxRecDepth 100000 in
theorem without_any (l : Files) (p : ByteArray) (A : Option Addr) (c : Nat) (w : World) (hl : l.length ≤ 1000000) (ha : ArgAt w A (fcells l)) :
    Calls Try.prog 85 #[.slice A l.length c, .string p] w (FilesAt w (rWithout l p)) := by
  obtain ⟨r, hr⟩ : ∃ r, r = rWithout l p := ⟨_, rfl⟩
  rw [← hr]
  have HR := hide hr
  clear hr
  go_enter Try.func85, Try.ntmps85
  go_wp2
  go_loopw [5, 6] (fun v5 v6 W => ∃ j : Nat, j ≤ l.length ∧ v6 = .int .i64 j ∧ W.ownsRow w.heap.size 110 2 v5 (rWithout (l.take j) p).length (fcells (rWithout (l.take j) p)) ∧ Only [] w W) (fun _ v6 _ => (l.length - intOf v6).toNat)
  case atStart => exact ⟨0, by omega, rfl, World.ownsRow_nil _ _ _ _, Only.refl _ _⟩
  case round =>
    obtain ⟨j, hj, rfl, hown, hO⟩ := hrel
    have HOwn := hide hown
    have HO := hide hO
    clear hown
    have hjl : (rWithout (l.take j) p).length ≤ j := Nat.le_trans (rWithout_len _ _) (List.length_take_le _ _)
    by_cases hlt : j < l.length
    · obtain ⟨q, hq⟩ : ∃ q, l[j]? = some q := ⟨_, List.getElem?_eq_getElem hlt⟩
      have haw := ha.only hO (by simp)
      obtain ⟨ga, rfl, hga, k0⟩ := haw _ _ (fcells_at hq).1
      obtain ⟨_, e1, _, k1⟩ := haw _ _ (fcells_at hq).2
      cases e1
      have hsn := rWithout_snoc p hq
      have HA := hide ha
      clear hq ha haw hO
      by_cases hp : q.1 = p
      · have d0 : (q.1.toList == p.toList) = true := by rw [hp]; simp
        rw [if_pos hp] at hsn
        have HSn := hide hsn
        clear hp hsn hjl
        go_wp2
        go_roundw
        case rel => exact ⟨j + 1, by omega, by go_num, by rw [HSn.out]; exact HOwn.out, HO.out⟩
        case measure => simp [intOf]; omega
      · have d0 := toList_ne hp
        rw [if_neg hp] at hsn
        have HSn := hide hsn
        have hws := HO.out.size
        clear hp hsn
        generalize rWithout (l.take j) p = s at *
        go_wp2_with (at_builtin; refine wpList_app rfl _ _ 29 rfl Try.underlying29 infoFile rfl (by omega) rfl (HOwn.out.alloc _) wr.heap.size 1 1 [.string q.1, .string q.2] rfl rfl ?_ (by simp [Value.oneCell']) (by omega) (by unfold maxLen; omega) (by simp; omega) ?_)
        · intro i u hu
          have hi : i < 2 := by have := (List.getElem?_eq_some_iff.1 hu).1; simpa using this
          obtain rfl | rfl : i = 0 ∨ i = 1 := by omega
          all_goals
            simp at hu
            subst hu
            simp [World.cell?_alloc_new]
        · intro v' w3 hown3 ho3 _
          have hown4 : w3.ownsRow w.heap.size 110 2 v' (s ++ [q]).length (fcells (s ++ [q])) := by
            rw [List.length_append, fcells_append]
            exact hown3
          have HO4 := hide hown4
          have HO3 := hide (HO.out.trans (((Only.refl u5.ownBlock.toList wr).alloc (.cells #[.string q.1, .string q.2] 110)).trans ho3 (fun t ht _ => ht)) (fun t ht hl => by have := (own_lt HOwn.out ht).1; omega))
          clear hown3 hown4 ho3
          go_wp2
          go_roundw
          case rel => exact ⟨j + 1, by omega, by go_num, by rw [HSn.out]; exact HO4.out, HO3.out⟩
          case measure => simp [intOf]; omega
    · obtain rfl : j = l.length := by omega
      have hown := HOwn.out
      rw [List.take_length, ← HR.out] at hown
      obtain ⟨A1, c1, rfl, hc1, ha1, hsl⟩ := own_files hown
      clear hown HOwn
      go_wp2
      go_ret
      exact ⟨A1, c1, rfl, hc1, ha1, HO.out, hsl⟩
end Go.Proofs.Ytljkaafdajpmkaa
