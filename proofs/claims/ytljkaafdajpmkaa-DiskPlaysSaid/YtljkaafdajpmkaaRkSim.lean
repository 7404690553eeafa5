/- The reference's disk and the program's, as plain data: they answer alike. -/
import Derived.Test.YtljkaafdajpmkaaRkDo
namespace Go.Proofs.Ytljkaafdajpmkaa
open Go.RowKit
set_option linter.unusedVariables false

/-- The same files: the reference's by rising paths. -/
structure Sim (R L : Files) : Prop where
  perm : R.Perm L
  nodup : (L.map (·.1)).Nodup
  rise : (R.map (·.1)).Pairwise blt
theorem mget_nodup_iff {l : Files} {p x : ByteArray} (h : (l.map (·.1)).Nodup) : mget l p = some x ↔ (p, x) ∈ l := by
  induction l with
  | nil => simp [mget]
  | cons q l ih =>
    simp only [List.map_cons, List.nodup_cons] at h
    unfold mget
    split
    · rename_i hq
      subst hq
      constructor
      · intro e
        injection e with e
        subst e
        exact List.mem_cons_self
      · intro hm
        rcases List.mem_cons.1 hm with e | hm
        · rw [← e]
        · exact absurd (List.mem_map.2 ⟨_, hm, rfl⟩) h.1
    · rename_i hq
      rw [ih h.2, List.mem_cons]
      constructor
      · exact .inr
      · rintro (e | hm)
        · exact absurd (by rw [← e]) hq
        · exact hm
theorem Sim.nil : Sim [] [] := ⟨.refl _, by simp, by simp⟩
section
variable {R L : Files}
theorem Sim.nodupR (h : Sim R L) : (R.map (·.1)).Nodup := (h.perm.map _).nodup_iff.2 h.nodup
theorem Sim.get (h : Sim R L) (p : ByteArray) : mget R p = mget L p := by
  apply Option.ext
  intro x
  rw [mget_nodup_iff h.nodupR, mget_nodup_iff h.nodup]
  exact h.perm.mem_iff
theorem took_perm {a b : Files} (h : a.Perm b) : tookOf a = tookOf b := by
  induction h with
  | nil => rfl
  | cons x _ ih => simp only [tookOf, ih]
  | swap x y l => simp only [tookOf]; omega
  | trans _ _ h1 h2 => exact h1.trans h2
theorem Sim.took (h : Sim R L) : tookOf R = tookOf L := took_perm h.perm
theorem Sim.len (h : Sim R L) : R.length = L.length := h.perm.length_eq
theorem without_none {l : Files} {p : ByteArray} (h : p ∉ l.map (·.1)) : rWithout l p = l := by
  unfold rWithout
  rw [List.filter_eq_self]
  intro q hq
  have : q.1 ≠ p := fun e => h (List.mem_map.2 ⟨q, hq, e⟩)
  simp [this]
theorem del_without : ∀ {l : Files} {p : ByteArray}, (l.map (·.1)).Nodup → mdel l p = rWithout l p
  | [], p, _ => rfl
  | q :: l, p, h => by
    simp only [List.map_cons, List.nodup_cons] at h
    unfold mdel
    by_cases hq : q.1 = p
    · rw [if_pos hq]
      have hn : p ∉ l.map (·.1) := by rw [← hq]; exact h.1
      have e : rWithout (q :: l) p = rWithout l p := by simp [rWithout, hq]
      rw [e, without_none hn]
    · rw [if_neg hq, del_without h.2]
      simp [rWithout, hq]
theorem put_perm : ∀ {l : Files} {p t : ByteArray}, (l.map (·.1)).Nodup → (mput l p t).Perm ((p, t) :: rWithout l p)
  | [], p, t, _ => .refl _
  | q :: l, p, t, h => by
    simp only [List.map_cons, List.nodup_cons] at h
    unfold mput
    by_cases hq : q.1 = p
    · rw [if_pos hq]
      have hn : p ∉ l.map (·.1) := by rw [← hq]; exact h.1
      have e : rWithout (q :: l) p = rWithout l p := by simp [rWithout, hq]
      rw [e, without_none hn]
    · rw [if_neg hq]
      have e : rWithout (q :: l) p = q :: rWithout l p := by simp [rWithout, hq]
      rw [e]
      exact ((put_perm h.2).cons q).trans (.swap _ _ _)
theorem without_keys (l : Files) (p : ByteArray) : p ∉ (rWithout l p).map (·.1) := by
  intro h
  obtain ⟨q, hq, e⟩ := List.mem_map.1 h
  have := (List.mem_filter.1 hq).2
  simp [e] at this
theorem Sim.without (h : Sim R L) (p : ByteArray) : Sim (rWithout R p) (mdel L p) := by
  rw [del_without h.nodup]
  exact ⟨h.perm.filter _, h.nodup.sublist ((List.filter_sublist).map _), h.rise.sublist ((List.filter_sublist).map _)⟩
theorem take_less {s : Files} {p : ByteArray} : ∀ q ∈ s.takeWhile (fun q => lessB q.1 p), blt q.1 p := by
  induction s with
  | nil => simp
  | cons x s ih =>
    intro q hq
    rw [List.takeWhile_cons] at hq
    split at hq
    · rename_i hx
      rcases List.mem_cons.1 hq with rfl | hq
      · exact (less_iff _ _).1 hx
      · exact ih q hq
    · cases hq
theorem drop_more {s : Files} {p : ByteArray} (hr : (s.map (·.1)).Pairwise blt) (hp : p ∉ s.map (·.1)) : ∀ q ∈ s.dropWhile (fun q => lessB q.1 p), blt p q.1 := by
  induction s with
  | nil => simp
  | cons x s ih =>
    simp only [List.map_cons, List.pairwise_cons, List.mem_cons, not_or] at hr hp
    intro q hq
    rw [List.dropWhile_cons] at hq
    split at hq
    · exact ih hr.2 hp.2 q hq
    · rename_i hx
      have hpx : blt p x.1 := by
        rcases blt_total (a := p) (b := x.1) hp.1 with h | h
        · exact h
        · exact absurd ((less_iff _ _).2 h) hx
      rcases List.mem_cons.1 hq with rfl | hq
      · exact hpx
      · exact blt_trans hpx (hr.1 _ (List.mem_map.2 ⟨q, hq, rfl⟩))
theorem Sim.with (h : Sim R L) (p t : ByteArray) : Sim (rWith R p t) (mput L p t) := by
  have hw : (rWithout R p).Perm (rWithout L p) := h.perm.filter _
  have hsr : ((rWithout R p).map (·.1)).Pairwise blt := h.rise.sublist ((List.filter_sublist).map _)
  have hkn := without_keys R p
  have h1 : (rWith R p t).Perm ((p, t) :: rWithout L p) := by
    unfold rWith
    refine List.perm_middle.trans (List.Perm.cons _ ?_)
    show (List.takeWhile _ _ ++ List.dropWhile _ _).Perm _
    rw [List.takeWhile_append_dropWhile]
    exact hw
  refine ⟨h1.trans (put_perm h.nodup).symm, ?_, ?_⟩
  · rw [((put_perm (t := t) h.nodup).map (·.1)).nodup_iff]
    simp only [List.map_cons, List.nodup_cons]
    exact ⟨without_keys L p, h.nodup.sublist ((List.filter_sublist).map _)⟩
  · unfold rWith
    rw [List.map_append, List.pairwise_append]
    refine ⟨hsr.sublist ((List.takeWhile_sublist _).map _), ?_, ?_⟩
    · simp only [List.singleton_append, List.map_cons, List.pairwise_cons]
      refine ⟨fun a ha => ?_, hsr.sublist ((List.dropWhile_sublist _).map _)⟩
      obtain ⟨q, hq, rfl⟩ := List.mem_map.1 ha
      exact drop_more hsr hkn q hq
    · intro a ha b hb
      obtain ⟨q, hq, rfl⟩ := List.mem_map.1 ha
      have hqp := take_less q hq
      simp only [List.singleton_append, List.map_cons, List.mem_cons] at hb
      rcases hb with rfl | hb
      · exact hqp
      · obtain ⟨q', hq', rfl⟩ := List.mem_map.1 hb
        exact blt_trans hqp (drop_more hsr hkn q' hq')
/-- r is the reference's effect for e. -/
def Alike (r e : Eff) : Prop := (e.kind = 0 ∨ e.kind = 1 ∨ e.kind = 2) ∧ r.kind = e.kind + 1 ∧ r.path = e.path ∧ (e.kind = 2 ∨ r.text = e.text)
def RowsSim : List Eff → List Eff → Prop
  | [], [] => True
  | r :: rs, e :: es => Alike r e ∧ RowsSim rs es
  | [], _ :: _ => False
  | _ :: _, [] => False
theorem RowsSim.take : ∀ {rs es : List Eff} (k : Nat), RowsSim rs es → RowsSim (rs.take k) (es.take k)
  | [], [], k, _ => by simp [RowsSim]
  | r :: rs, e :: es, 0, _ => by simp [RowsSim]
  | r :: rs, e :: es, k + 1, h => ⟨h.1, RowsSim.take k h.2⟩
  | [], _ :: _, _, h => h.elim
  | _ :: _, [], _, h => h.elim
theorem RowsSim.snoc : ∀ {rs es : List Eff} {r e : Eff}, RowsSim rs es → Alike r e → RowsSim (rs ++ [r]) (es ++ [e])
  | [], [], r, e, _, h => ⟨h, trivial⟩
  | r :: rs, e :: es, _, _, h, h2 => ⟨h.1, RowsSim.snoc h.2 h2⟩
  | [], _ :: _, _, _, h, _ => h.elim
  | _ :: _, [], _, _, h, _ => h.elim
theorem RowsSim.len : ∀ {rs es : List Eff}, RowsSim rs es → rs.length = es.length
  | [], [], _ => rfl
  | r :: rs, e :: es, h => by simp [RowsSim.len h.2]
  | [], _ :: _, h => h.elim
  | _ :: _, [], h => h.elim
theorem Sim.doing (h : Sim R L) {r e : Eff} (he : Alike r e) : Sim (rDone R r) (effDo L e) := by
  obtain ⟨k, p, t⟩ := e
  obtain ⟨k', p', t'⟩ := r
  obtain ⟨hk, h1, h2, h3⟩ := he
  simp only at hk h1 h2 h3
  subst h2
  rcases hk with rfl | rfl | rfl
  · have : t' = t := by rcases h3 with h3 | h3; · omega
                        · exact h3
    subst this h1
    exact h.with p' t'
  · have : t' = t := by rcases h3 with h3 | h3; · omega
                        · exact h3
    subst this h1
    show Sim (match mget R p' with | some x => rWith (rWithout R p') t' x | none => R) (match mget L p' with | some x => mput (mdel L p') t' x | none => L)
    rw [h.get p']
    cases mget L p' with
    | none => exact h
    | some x => exact (h.without p').with t' x
  · subst h1
    exact h.without p'
theorem Sim.kept : ∀ {rs ws : List Eff} {R L : Files} {k : Nat}, Sim R L → RowsSim rs ws → Sim (keptR R rs k) (keptDo L ws k)
  | [], [], R, L, k, h, _ => h
  | r :: rs, e :: ws, R, L, k, h, hw => by
    simp only [keptR, keptDo]
    by_cases hk : k % 2 = 1
    · rw [if_pos hk, if_pos hk]
      exact Sim.kept (h.doing hw.1) hw.2
    · rw [if_neg hk, if_neg hk]
      exact Sim.kept h hw.2
  | [], _ :: _, _, _, _, _, h => h.elim
  | _ :: _, [], _, _, _, _, h => h.elim
theorem Sim.listed (h : Sim R L) {S : DiskS} (hs : S.seen = L) (hd : S.down = false) (p : ByteArray) : S.list p = rList R p := by
  subst hs
  have hsh : S.shows p = fun k => hasPre k p := by
    funext k
    unfold DiskS.shows
    rw [hd]
    simp
  unfold DiskS.list rList
  rw [hsh]
  refine rising_ext (sortKeys_rising (h.nodup.sublist List.filter_sublist)) (h.rise.sublist List.filter_sublist) (fun x => ?_)
  rw [sortKeys_mem, List.mem_filter, List.mem_filter]
  exact and_congr ((h.perm.map (·.1)).mem_iff).symm Iff.rfl
end
/-- The two disks are one. -/
structure RSim (M : RefS) (S : DiskS) : Prop where
  room : M.room = S.room
  lies : Sim M.lies S.lies
  seen : Sim (rSeen M.lies M.rows) S.seen
  rows : RowsSim M.rows S.waits
  down : M.down = S.down
  left : M.left = S.left
  left0 : 0 ≤ S.left
  keep : S.left ≠ 0 → M.keep = S.keep
theorem RSim.fresh (room : Int) : RSim (RefS.fresh room) (DiskS.fresh room) := ⟨rfl, Sim.nil, Sim.nil, trivial, rfl, rfl, Int.le_refl _, fun h => absurd rfl h⟩
section
variable {M : RefS} {S : DiskS}
theorem RSim.call (h : RSim M S) : M.call.2 = S.fails.1 ∧ (S.fails.1 = false → RSim M.call.1 S.fails.2) ∧ (S.fails.1 = true → RSim M.call.1 S.fails.2.failed) := by
  have hl := h.left
  have h0 := h.left0
  unfold RefS.call DiskS.fails
  by_cases hz : S.left = 0
  · rw [if_pos (by omega), if_pos hz]
    exact ⟨rfl, (fun _ => h), (fun e => by cases e)⟩
  · rw [if_neg (by omega), if_neg hz]
    by_cases hp : 0 < M.left - 1
    · rw [if_pos hp]
      have hb : (S.left - 1 == 0) = false := by simp; omega
      simp only [hb]
      exact ⟨trivial, (fun _ => ⟨h.room, h.lies, h.seen, h.rows, h.down, by show M.left - 1 = S.left - 1; omega, by show 0 ≤ S.left - 1; omega, fun _ => h.keep hz⟩), (fun e => by cases e)⟩
    · rw [if_neg hp]
      have hb : (S.left - 1 == 0) = true := by simp; omega
      simp only [hb]
      have hk : Sim (keptR M.lies (M.rows.take 64) M.keep.toNat) (keptDo S.lies (S.waits.take 64) S.keep.toNat) := by
        rw [h.keep hz]
        exact h.lies.kept (h.rows.take 64)
      refine ⟨trivial, (fun e => by cases e), (fun _ => ⟨h.room, hk, hk, trivial, rfl, ?_, Int.le_refl _, fun e => absurd rfl e⟩)⟩
      show M.left - 1 = 0
      omega
theorem RSim.waitTo (h : RSim M S) {r e : Eff} (he : Alike r e) : RSim (M.more r) (S.waitTo e) := by
  refine ⟨h.room, h.lies, ?_, h.rows.snoc he, h.down, h.left, h.left0, h.keep⟩
  show Sim (rSeen M.lies (M.rows ++ [r])) (effDo S.seen e)
  have : rSeen M.lies (M.rows ++ [r]) = rDone (rSeen M.lies M.rows) r := by simp [rSeen]
  rw [this]
  exact h.seen.doing he
/-- Is there no room for it? -/
theorem RSim.full (h : RSim M S) {r e : Eff} (he : Alike r e) : S.full e = decide (r.kind ≠ 3 ∧ (4096 < (rDone (rSeen M.lies M.rows) r).length ∨ M.room < tookOf (rDone (rSeen M.lies M.rows) r))) := by
  have hd := h.seen.doing he
  rw [hd.len, hd.took, h.room]
  unfold DiskS.full
  rw [he.2.1]
  by_cases h2 : e.kind = 2
  · simp [h2]
  · have : ¬ e.kind + 1 = 3 := by omega
    simp [h2, this]
theorem RSim.waits (h : RSim M S) {r e : Eff} (he : Alike r e) (hw : M.wrong r = if S.full e then 7 else 0) : (M.doing r).2 = (S.wait e).1 ∧ RSim (M.doing r).1 (S.wait e).2 := by
  unfold RefS.doing DiskS.wait
  rw [hw]
  cases hf : S.full e with
  | true => exact ⟨rfl, h⟩
  | false =>
    simp only [Bool.false_eq_true, if_false, if_true]
    obtain ⟨h1, h2, h3⟩ := (h.waitTo he).call
    rw [h1]
    cases hb : (S.waitTo e).fails.1 with
    | true => exact ⟨rfl, h3 hb⟩
    | false => exact ⟨rfl, h2 hb⟩
theorem RSim.write (h : RSim M S) (p t : ByteArray) : (M.doing ⟨1, p, t⟩).2 = (S.write p t).1 ∧ RSim (M.doing ⟨1, p, t⟩).1 (S.write p t).2 := by
  have he : Alike ⟨1, p, t⟩ ⟨0, p, t⟩ := ⟨.inl rfl, rfl, rfl, .inr rfl⟩
  have hf := h.full he
  have hd := h.down
  cases hdn : S.down with
  | true =>
    have hw : M.wrong ⟨1, p, t⟩ = 8 := by simp [RefS.wrong, hd, hdn]
    simp only [RefS.doing, DiskS.write, hw, hdn]
    exact ⟨rfl, h⟩
  | false =>
    cases hp : pathOk p with
    | false =>
      have hw : M.wrong ⟨1, p, t⟩ = 12 := by simp [RefS.wrong, hd, hdn, hp]
      simp only [RefS.doing, DiskS.write, hw, hdn, hp]
      exact ⟨rfl, h⟩
    | true =>
      have hw : M.wrong ⟨1, p, t⟩ = if S.full ⟨0, p, t⟩ then 7 else 0 := by
        rw [hf]
        simp [RefS.wrong, hd, hdn, hp]
      have := h.waits he hw
      simp only [DiskS.write, hdn, hp]
      exact this
theorem RSim.rename (h : RSim M S) (p t : ByteArray) : (M.doing ⟨2, p, t⟩).2 = (S.rename p t).1 ∧ RSim (M.doing ⟨2, p, t⟩).1 (S.rename p t).2 := by
  have he : Alike ⟨2, p, t⟩ ⟨1, p, t⟩ := ⟨.inr (.inl rfl), rfl, rfl, .inr rfl⟩
  have hf := h.full he
  have hd := h.down
  have hg := h.seen.get p
  cases hdn : S.down with
  | true =>
    have hw : M.wrong ⟨2, p, t⟩ = 8 := by simp [RefS.wrong, hd, hdn]
    simp only [RefS.doing, DiskS.rename, hw, hdn]
    exact ⟨rfl, h⟩
  | false =>
    cases hp : pathOk t with
    | false =>
      have hw : M.wrong ⟨2, p, t⟩ = 12 := by simp [RefS.wrong, hd, hdn, hp]
      simp only [RefS.doing, DiskS.rename, hw, hdn, hp]
      exact ⟨rfl, h⟩
    | true =>
      cases hth : (mget S.seen p).isSome with
      | false =>
        have hw : M.wrong ⟨2, p, t⟩ = 5 := by simp only [RefS.wrong, hd, hdn, hp, hg, hth]; simp
        simp only [RefS.doing, DiskS.rename, hw, hdn, hp, hth]
        exact ⟨rfl, h⟩
      | true =>
        have hw : M.wrong ⟨2, p, t⟩ = if S.full ⟨1, p, t⟩ then 7 else 0 := by
          rw [hf]
          simp only [RefS.wrong, hd, hdn, hp, hg, hth]
          simp
        have := h.waits he hw
        simp only [DiskS.rename, hdn, hp, hth]
        exact this
theorem RSim.remove (h : RSim M S) (p t : ByteArray) : (M.doing ⟨3, p, t⟩).2 = (S.remove p).1 ∧ RSim (M.doing ⟨3, p, t⟩).1 (S.remove p).2 := by
  have he : Alike ⟨3, p, t⟩ ⟨2, p, ⟨#[]⟩⟩ := ⟨.inr (.inr rfl), rfl, rfl, .inl rfl⟩
  have hf := h.full he
  have hd := h.down
  have hg := h.seen.get p
  cases hdn : S.down with
  | true =>
    have hw : M.wrong ⟨3, p, t⟩ = 8 := by simp [RefS.wrong, hd, hdn]
    simp only [RefS.doing, DiskS.remove, hw, hdn]
    exact ⟨rfl, h⟩
  | false =>
    cases hth : (mget S.seen p).isSome with
    | false =>
      have hw : M.wrong ⟨3, p, t⟩ = 5 := by simp only [RefS.wrong, hd, hdn, hg, hth]; simp
      simp only [RefS.doing, DiskS.remove, hw, hdn, hth]
      exact ⟨rfl, h⟩
    | true =>
      have hw : M.wrong ⟨3, p, t⟩ = if S.full ⟨2, p, ⟨#[]⟩⟩ then 7 else 0 := by
        rw [hf]
        simp only [RefS.wrong, hd, hdn, hg, hth]
        simp
      have := h.waits he hw
      simp only [DiskS.remove, hdn, hth]
      exact this
theorem RSim.sync (h : RSim M S) : M.sync.2 = S.sync.1 ∧ RSim M.sync.1 S.sync.2 := by
  have hd := h.down
  unfold RefS.sync DiskS.sync
  rw [hd]
  cases hdn : S.down with
  | true => exact ⟨rfl, h⟩
  | false =>
    simp only [Bool.false_eq_true, if_false]
    obtain ⟨h1, h2, h3⟩ := h.call
    rw [h1]
    cases hb : S.fails.1 with
    | true => exact ⟨rfl, h3 hb⟩
    | false =>
      simp only [Bool.false_eq_true, if_false]
      have hc := h2 hb
      have hs : S.fails.2.seen = S.seen := by
        unfold DiskS.fails
        split <;> rfl
      refine ⟨trivial, ⟨hc.room, ?_, ?_, trivial, hc.down, hc.left, hc.left0, hc.keep⟩⟩
      · show Sim (rSeen M.lies M.rows) S.fails.2.seen
        rw [hs]
        exact h.seen
      · show Sim (rSeen M.lies M.rows) S.fails.2.seen
        rw [hs]
        exact h.seen
theorem RSim.armed (h : RSim M S) (k m : Int) : RSim (M.armed k m) (S.armed2 k m) := by
  unfold RefS.armed DiskS.armed2
  by_cases hk : k < 1
  · rw [if_pos hk, if_pos hk]
    exact ⟨h.room, h.lies, h.seen, h.rows, h.down, rfl, Int.le_refl _, fun e => absurd rfl e⟩
  · rw [if_neg hk, if_neg hk]
    exact ⟨h.room, h.lies, h.seen, h.rows, h.down, rfl, by show 0 ≤ k; omega, fun _ => rfl⟩
theorem RSim.started (h : RSim M S) : RSim { M with down := false } S.started := ⟨h.room, h.lies, h.seen, h.rows, rfl, h.left, h.left0, h.keep⟩
theorem RSim.taken (h : RSim M S) : (if M.down then 0 else tookOf (rSeen M.lies M.rows)) = S.taken := by
  unfold DiskS.taken
  rw [h.down, h.seen.took]
theorem RSim.listed (h : RSim M S) (p : ByteArray) : (if M.down then [] else rList (rSeen M.lies M.rows) p) = S.list p := by
  rw [h.down]
  cases hd : S.down with
  | true =>
    have : S.shows p = fun _ => false := by
      funext k
      unfold DiskS.shows
      rw [hd]
      rfl
    unfold DiskS.list
    rw [this]
    have e : List.filter (fun _ => false) (S.seen.map (·.1)) = [] := List.filter_eq_nil_iff.2 (by simp)
    rw [e]
    simp [sortKeys]
  | false =>
    simp only [Bool.false_eq_true, if_false]
    exact (h.seen.listed rfl hd p).symm
end
end Go.Proofs.Ytljkaafdajpmkaa
