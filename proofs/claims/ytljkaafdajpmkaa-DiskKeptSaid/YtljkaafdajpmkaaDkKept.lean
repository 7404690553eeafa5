/- DiskKept, the plain part: what is kept of what was touched behind a sync. -/
import Derived.Test.YtljkaafdajpmkaaDkSyncedW
namespace Go.Proofs.Ytljkaafdajpmkaa
open Go.RowKit
set_option linter.unusedVariables false

section
variable {α : Type}
theorem mget_del_other (l : List (ByteArray × α)) {k x : ByteArray} (h : k ≠ x) : mget (mdel l k) x = mget l x := by
  induction l with
  | nil => simp [mget, mdel]
  | cons p l ih =>
    unfold mdel
    by_cases hp : p.1 = k
    · have : ¬ p.1 = x := fun e => h (hp.symm.trans e)
      simp [hp, mget, h]
    · simp [hp, mget, ih]
theorem mem_of_mget {l : List (ByteArray × α)} {k : ByteArray} {v : α} (h : mget l k = some v) : (k, v) ∈ l := by
  induction l with
  | nil => simp [mget] at h
  | cons p l ih =>
    unfold mget at h
    split at h
    · rename_i hk
      injection h with h
      subst hk h
      exact List.mem_cons_self
    · exact List.mem_cons_of_mem _ (ih h)
theorem mem_put {l : List (ByteArray × α)} {k : ByteArray} {v : α} {q : ByteArray × α} (h : q ∈ mput l k v) : q = (k, v) ∨ q ∈ l := by
  induction l with
  | nil => simpa [mput] using h
  | cons p l ih =>
    unfold mput at h
    split at h
    · rcases List.mem_cons.1 h with h | h
      · exact .inl h
      · exact .inr (List.mem_cons_of_mem _ h)
    · rcases List.mem_cons.1 h with h | h
      · exact .inr (by rw [h]; exact List.mem_cons_self)
      · rcases ih h with h | h
        · exact .inl h
        · exact .inr (List.mem_cons_of_mem _ h)
theorem mem_del {l : List (ByteArray × α)} {k : ByteArray} {q : ByteArray × α} (h : q ∈ mdel l k) : q ∈ l := by
  induction l with
  | nil => simp [mdel] at h
  | cons p l ih =>
    unfold mdel at h
    split at h
    · exact List.mem_cons_of_mem _ h
    · rcases List.mem_cons.1 h with h | h
      · rw [h]; exact List.mem_cons_self
      · exact List.mem_cons_of_mem _ (ih h)
end
abbrev Marks := List (ByteArray × Bool)
def marked (M : Marks) (x : ByteArray) : Bool := (mget M x).getD false
theorem marked_put (M : Marks) (k x : ByteArray) : marked (mput M k true) x = (decide (k = x) || marked M x) := by
  unfold marked
  by_cases h : k = x
  · subst h; rw [mget_put_same]; simp
  · rw [mget_put_other M h]; simp [h]
theorem marked_same (M : Marks) (k : ByteArray) : marked (mput M k true) k = true := by rw [marked_put]; simp
theorem marked_more {M : Marks} {x : ByteArray} (k : ByteArray) (h : marked M x = true) : marked (mput M k true) x = true := by rw [marked_put, h]; simp

/-- Files of texts that are marked; those at unmarked paths are F's. -/
structure KGood (F : Files) (Wm Tm : Marks) (L : Files) : Prop where
  texts : ∀ q ∈ L, marked Wm q.2 = true
  same : ∀ p, marked Tm p = false → mget L p = mget F p
/-- An effect of marked paths and texts. -/
def KFit (Wm Tm : Marks) (e : Eff) : Prop := marked Tm e.path = true ∧ ((e.kind = 0 ∧ marked Wm e.text = true) ∨ (e.kind = 1 ∧ marked Tm e.text = true) ∨ e.kind = 2)
theorem KGood.doing {F : Files} {Wm Tm : Marks} {L : Files} {e : Eff} (h : KGood F Wm Tm L) (he : KFit Wm Tm e) : KGood F Wm Tm (effDo L e) := by
  have hne : ∀ {a b : ByteArray}, marked Tm a = true → marked Tm b = false → a ≠ b := fun ha hb e => by subst e; rw [ha] at hb; cases hb
  obtain ⟨hp, hk⟩ := he
  unfold effDo
  rcases hk with ⟨hk, ht⟩ | ⟨hk, ht⟩ | hk
  · rw [if_pos hk]
    refine ⟨fun q hq => ?_, fun p hm => ?_⟩
    · rcases mem_put hq with rfl | hq
      · exact ht
      · exact h.texts q hq
    · rw [mget_put_other _ (hne hp hm), h.same p hm]
  · rw [if_neg (by omega), if_pos hk]
    split
    · rename_i x hx
      refine ⟨fun q hq => ?_, fun p hm => ?_⟩
      · rcases mem_put hq with rfl | hq
        · exact h.texts (e.path, x) (mem_of_mget hx)
        · exact h.texts q (mem_del hq)
      · rw [mget_put_other _ (hne ht hm), mget_del_other _ (hne hp hm), h.same p hm]
    · exact h
  · rw [if_neg (by omega), if_neg (by omega), if_pos hk]
    refine ⟨fun q hq => h.texts q (mem_del hq), fun p hm => ?_⟩
    rw [mget_del_other _ (hne hp hm), h.same p hm]
theorem KGood.kept {F : Files} {Wm Tm : Marks} : ∀ {ws : List Eff} {L : Files} {k : Nat}, KGood F Wm Tm L → (∀ e ∈ ws, KFit Wm Tm e) → KGood F Wm Tm (keptDo L ws k)
  | [], L, k, h, _ => h
  | e :: ws, L, k, h, hw => by
    unfold keptDo
    refine KGood.kept ?_ (fun e' he' => hw e' (List.mem_cons_of_mem _ he'))
    split
    · exact h.doing (hw e List.mem_cons_self)
    · exact h
/-- The disk behind some calls, behind the sync. -/
structure KInv (F : Files) (Wm Tm : Marks) (S : DiskS) : Prop where
  lies : KGood F Wm Tm S.lies
  seen : KGood F Wm Tm S.seen
  waits : ∀ e ∈ S.waits, KFit Wm Tm e
  down : S.down = true → S.waits = []
section
variable {F : Files} {Wm Tm : Marks} {S : DiskS} {L : Files}
theorem KGood.wrote (h : KGood F Wm Tm L) (t : ByteArray) : KGood F (mput Wm t true) Tm L := ⟨fun q hq => marked_more t (h.texts q hq), h.same⟩
theorem KGood.touch (h : KGood F Wm Tm L) (t : ByteArray) : KGood F Wm (mput Tm t true) L := ⟨h.texts, fun p hm => h.same p (by rw [marked_put] at hm; simp at hm; exact hm.2)⟩
theorem KFit.wrote {e : Eff} (h : KFit Wm Tm e) (t : ByteArray) : KFit (mput Wm t true) Tm e := ⟨h.1, by
  rcases h.2 with h | h | h
  · exact .inl ⟨h.1, marked_more t h.2⟩
  · exact .inr (.inl h)
  · exact .inr (.inr h)⟩
theorem KFit.touch {e : Eff} (h : KFit Wm Tm e) (t : ByteArray) : KFit Wm (mput Tm t true) e := ⟨marked_more t h.1, by
  rcases h.2 with h | h | h
  · exact .inl h
  · exact .inr (.inl ⟨h.1, marked_more t h.2⟩)
  · exact .inr (.inr h)⟩
theorem KInv.wrote (h : KInv F Wm Tm S) (t : ByteArray) : KInv F (mput Wm t true) Tm S := ⟨h.lies.wrote t, h.seen.wrote t, fun e he => (h.waits e he).wrote t, h.down⟩
theorem KInv.touch (h : KInv F Wm Tm S) (t : ByteArray) : KInv F Wm (mput Tm t true) S := ⟨h.lies.touch t, h.seen.touch t, fun e he => (h.waits e he).touch t, h.down⟩
theorem KInv.failed (h : KInv F Wm Tm S) : KInv F Wm Tm S.failed := by
  have hg : KGood F Wm Tm (keptDo S.lies (S.waits.take 64) S.keep.toNat) := h.lies.kept (fun e he => h.waits e (List.mem_of_mem_take he))
  exact ⟨hg, hg, (fun e he => by cases he), fun _ => rfl⟩
theorem KInv.fails (h : KInv F Wm Tm S) : KInv F Wm Tm S.fails.2 := by
  unfold DiskS.fails
  split
  · exact h
  · exact ⟨h.lies, h.seen, h.waits, h.down⟩
theorem KInv.wait {e : Eff} (h : KInv F Wm Tm S) (hd : S.down = false) (he : KFit Wm Tm e) : KInv F Wm Tm (S.wait e).2 := by
  have hw : KInv F Wm Tm (S.waitTo e) := ⟨h.lies, h.seen.doing he, fun e' he' => by
    rcases List.mem_append.1 he' with he' | he'
    · exact h.waits e' he'
    · obtain rfl : e' = e := by simpa using he'
      exact he, fun hdn => by have : (S.waitTo e).down = S.down := rfl; rw [this, hd] at hdn; cases hdn⟩
  unfold DiskS.wait
  split
  · exact h
  · split
    · exact hw.fails.failed
    · exact hw.fails
theorem KInv.act (h : KInv F Wm Tm S) (hd : S.down = false) {a : Act} (h1 : 1 ≤ a.kind) (h3 : a.kind ≤ 3) (hp : marked Tm a.path = true) (ht : a.kind = 1 → marked Wm a.text = true) (hr : a.kind = 2 → marked Tm a.text = true) : KInv F Wm Tm (S.act a).2 := by
  unfold DiskS.act
  split
  · rename_i hk
    show KInv F Wm Tm (S.write _ _).2
    unfold DiskS.write
    repeat' split
    all_goals first | exact h | exact h.wait hd ⟨hp, .inl ⟨rfl, ht hk⟩⟩
  · split
    · rename_i hk
      show KInv F Wm Tm (S.rename _ _).2
      unfold DiskS.rename
      repeat' split
      all_goals first | exact h | exact h.wait hd ⟨hp, .inr (.inl ⟨rfl, hr hk⟩)⟩
    · split
      · show KInv F Wm Tm (S.remove _).2
        unfold DiskS.remove
        repeat' split
        all_goals first | exact h | exact h.wait hd ⟨hp, .inr (.inr rfl)⟩
      · omega
theorem KInv.armed (h : KInv F Wm Tm S) (k m : Int) : KInv F Wm Tm (S.armed2 k m) := by
  unfold DiskS.armed2
  split <;> exact ⟨h.lies, h.seen, h.waits, h.down⟩
/-- At the end: power is on again, and nothing waits. -/
structure KEnd (F : Files) (Wm Tm : Marks) (S : DiskS) : Prop where
  seen : KGood F Wm Tm S.seen
  waits : S.waits = []
  down : S.down = false
theorem KInv.off (h : KInv F Wm Tm S) (hd : S.down = true) : KEnd F Wm Tm S.started := ⟨h.seen, h.down hd, rfl⟩
theorem KInv.cut (h : KInv F Wm Tm S) (hd : S.down = false) (k : Int) : (S.armed2 1 k).sync.1 = 8 ∧ KEnd F Wm Tm (S.armed2 1 k).sync.2.started := by
  have ha : S.armed2 1 k = { S with left := 1, keep := k } := rfl
  have hf : ({ S with left := 1, keep := k } : DiskS).fails = (true, { S with left := 0, keep := k }) := rfl
  have hdn : ({ S with left := 1, keep := k } : DiskS).down = false := hd
  have hi : KInv F Wm Tm { S with left := 0, keep := k } := ⟨h.lies, h.seen, h.waits, h.down⟩
  rw [ha]
  unfold DiskS.sync
  rw [hf, hdn]
  simp only [if_true, if_false, Bool.false_eq_true]
  exact ⟨trivial, ⟨hi.failed.seen, rfl, rfl⟩⟩
theorem Synced.kinv (h : Synced F S) (hF : ∀ q ∈ F, marked Wm q.2 = true) : KInv F Wm Tm S := by
  have hg : KGood F Wm Tm F := ⟨hF, fun _ _ => rfl⟩
  exact ⟨by rw [h.lies]; exact hg, by rw [h.seen]; exact hg, (fun e he => by rw [h.waits] at he; cases he), (fun hd => by rw [h.down] at hd; cases hd)⟩
theorem KEnd.read (h : KEnd F Wm Tm S) (x : ByteArray) : S.read x = ((mget S.seen x).getD ⟨#[]⟩, if (mget S.seen x).isSome then 0 else 5) := by
  unfold DiskS.read
  rw [h.down]
  cases mget S.seen x <;> rfl
/-- What is listed is read, and its text is marked. -/
theorem KEnd.listed (h : KEnd F Wm Tm S) {p x : ByteArray} (hx : x ∈ S.list p) : ∃ t, S.read x = (t, 0) ∧ marked Wm t = true := by
  obtain ⟨t, ht⟩ := mget_of_mem (list_mem hx)
  exact ⟨t, by rw [h.read, ht]; rfl, h.seen.texts _ (mem_of_mget ht)⟩
/-- What nobody touched is as it was. -/
theorem KEnd.old (h : KEnd F Wm Tm S) {p t : ByteArray} (hp : mget F p = some t) (hm : marked Tm p = false) : S.read p = (t, 0) := by
  rw [h.read, h.seen.same p hm, hp]
  rfl
end
/-- Every path is listed. -/
theorem list_all {S : DiskS} (hd : S.down = false) {q : ByteArray × ByteArray} (hq : q ∈ S.seen) : q.1 ∈ S.list ⟨#[]⟩ := by
  unfold DiskS.list
  rw [sortKeys_mem]
  refine List.mem_filter.2 ⟨List.mem_map.2 ⟨q, hq, rfl⟩, ?_⟩
  unfold DiskS.shows
  rw [hd]
  have h0 : (⟨#[]⟩ : ByteArray).size = 0 := rfl
  unfold hasPre
  rw [h0]
  simp
  rfl
end Go.Proofs.Ytljkaafdajpmkaa
