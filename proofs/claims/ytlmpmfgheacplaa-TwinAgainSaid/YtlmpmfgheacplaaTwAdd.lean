/- The translation table: a row is added (Table.Add), for every table and row. -/
import Derived.Test.YtlmpmfgheacplaaDpMap
import Derived.Test.YtlmpmfgheacplaaProg
import Derived.WalkKit
import Derived.WalkSpells
import Derived.WalkLawsBesides
import Derived.BigRegion
import Derived.BigQuiet
import Derived.Deep.QuietTactic
import Derived.Deep.RegionHeld3
import Derived.Deep.DeepCutAuto
namespace Go.Proofs.Ytlmpmfgheacplaa
open Go.RowKit

structure Row where
  wide : ByteArray
  narrow : ByteArray
  kind : Int
def Row.enc (r : Row) : Value := .agg #[.string r.wide, .string r.narrow, .int .i64 r.kind]
structure TabAt (w : World) (g b1 b2 : Nat) (rows : List (ByteArray × Row)) (back : List (ByteArray × ByteArray)) : Prop where
  cells : w.heap[g]? = some (.cells #[.map (some b1), .map (some b2)] 51 (0, 0))
  rowsAt : MapAt Row.enc w b1 rows
  backAt : MapAt Value.string w b2 back
  ne : b1 ≠ b2

def Row.zero : Row := ⟨⟨#[]⟩, ⟨#[]⟩, 0⟩
theorem zero30 (w : World) : (zeroValue 30).run Try.prog w = .ok (Row.enc Row.zero) w := by kernel_rfl
theorem zero9 (w : World) : (zeroValue 9).run Try.prog w = .ok (.string ⟨#[]⟩) w := by kernel_rfl

def Row.right (r : Row) : Bool := r.wide.size == 32 && r.narrow.size == 20 && decide (1 ≤ r.kind) && decide (r.kind ≤ 4)

theorem right_any (r : Row) (w : World) (hw : r.wide.size ≤ maxLen) (hn : r.narrow.size ≤ maxLen) :
    Calls Try.prog 21 #[.agg #[.string r.wide, .string r.narrow, .int .i64 r.kind]] w fun e w' => e = .returned (.bool r.right) ∧ Only [] w w' := by
  unfold maxLen at hw hn
  by_cases h1 : r.wide.size = 32
  · by_cases h2 : r.narrow.size = 20
    · by_cases h3 : 1 ≤ r.kind
      · have e : r.right = decide (r.kind ≤ 4) := by simp [Row.right, h1, h2, h3]
        have H := hide e
        clear e
        go_enter Try.func21, Try.ntmps21
        go_wp2
        all_goals go_ret
        all_goals exact ⟨by rw [H.out]; rfl, (Only.refl _ _).alloc _⟩
      · have e : r.right = false := by simp [Row.right, h3]
        have H := hide e
        clear e
        go_enter Try.func21, Try.ntmps21
        go_wp2
        all_goals go_ret
        all_goals exact ⟨by rw [H.out]; rfl, (Only.refl _ _).alloc _⟩
    · have e : r.right = false := by simp [Row.right, h2]
      have H := hide e
      have h2' : ((r.narrow.size : Int) == 20) = false := by simp; omega
      clear e
      go_enter Try.func21, Try.ntmps21
      go_wp2
      all_goals go_ret
      all_goals exact ⟨by rw [H.out]; rfl, (Only.refl _ _).alloc _⟩
  · have e : r.right = false := by simp [Row.right, h1]
    have H := hide e
    have h1' : ((r.wide.size : Int) == 32) = false := by simp; omega
    clear e
    go_enter Try.func21, Try.ntmps21
    go_wp2
    all_goals go_ret
    all_goals exact ⟨by rw [H.out]; rfl, (Only.refl _ _).alloc _⟩

theorem TabAt.only {w w' : World} {g b1 b2 : Nat} {rows : List (ByteArray × Row)} {back : List (ByteArray × ByteArray)} {S : List Nat} (h : TabAt w g b1 b2 rows back) (ho : Only S w w') (hg : g ∉ S) (h1 : b1 ∉ S) (h2 : b2 ∉ S) : TabAt w' g b1 b2 rows back :=
  ⟨(ho.block g (Array.getElem?_eq_some_iff.1 h.cells).1 hg).trans h.cells, h.rowsAt.only ho h1, h.backAt.only ho h2, h.ne⟩

def addCode (rows : List (ByteArray × Row)) (back : List (ByteArray × ByteArray)) (r : Row) : Int :=
  if r.right = false then 3 else
  if (mget rows r.wide).isSome = true ∧ (((mget rows r.wide).getD Row.zero).wide = r.wide ∧ ((mget rows r.wide).getD Row.zero).narrow = r.narrow ∧ ((mget rows r.wide).getD Row.zero).kind = r.kind) then 0 else
  if (mget rows r.wide).isSome = true ∨ (mget back r.narrow).isSome = true then 10 else
  if 8192 ≤ rows.length then 9 else 0

def addNew (rows : List (ByteArray × Row)) (back : List (ByteArray × ByteArray)) (r : Row) : Bool :=
  r.right && !(mget rows r.wide).isSome && !(mget back r.narrow).isSome && decide (rows.length < 8192)
/-- What Add leaves, and answers. -/
def AddPost (w : World) (g b1 b2 : Nat) (rows : List (ByteArray × Row)) (back : List (ByteArray × ByteArray)) (r : Row) (e : Ending) (w' : World) : Prop :=
  e = .returned (.int .i64 (addCode rows back r)) ∧ TabAt w' g b1 b2 (if addNew rows back r then mput rows r.wide r else rows) (if addNew rows back r then mput back r.narrow r.wide else back) ∧ Only [b1, b2] w w'

/-- The world in the course of Add. -/
structure AddSt (w W : World) (g b1 b2 : Nat) (rows : List (ByteArray × Row)) (back : List (ByteArray × ByteArray)) (r old : Row) : Prop where
  tab : TabAt W g b1 b2 rows back
  only : Only [b1, b2] w W
  size : w.heap.size + 2 ≤ W.heap.size
  new : W.heap[w.heap.size]? = some (.cells #[.string r.wide, .string r.narrow, .int .i64 r.kind] 30)
  prev : W.heap[w.heap.size + 1]? = some (.cells #[.string old.wide, .string old.narrow, .int .i64 old.kind] 30)

def AddRel (w W : World) (g b1 b2 : Nat) (rows : List (ByteArray × Row)) (back : List (ByteArray × ByteArray)) (r old : Row) (there : Bool) (v5 v6 : Value) : Prop :=
  v5 = .pointer (some ⟨w.heap.size + 1, 0, none⟩) ∧ v6 = .bool there ∧ AddSt w W g b1 b2 rows back r old
theorem AddSt.cellsOf {w W : World} {g b1 b2 : Nat} {rows : List (ByteArray × Row)} {back : List (ByteArray × ByteArray)} {r old : Row} (h : AddSt w W g b1 b2 rows back r old) :
    W.cell? ⟨g, 0, none⟩ = some (.map (some b1)) ∧ W.cell? ⟨g, 1, none⟩ = some (.map (some b2)) ∧
    W.cell? ⟨w.heap.size, 0, none⟩ = some (.string r.wide) ∧ W.cell? ⟨w.heap.size, 1, none⟩ = some (.string r.narrow) ∧ W.cell? ⟨w.heap.size, 2, none⟩ = some (.int .i64 r.kind) ∧
    W.cell? ⟨w.heap.size + 1, 0, none⟩ = some (.string old.wide) ∧ W.cell? ⟨w.heap.size + 1, 1, none⟩ = some (.string old.narrow) ∧ W.cell? ⟨w.heap.size + 1, 2, none⟩ = some (.int .i64 old.kind) := by
  refine ⟨?_, ?_, ?_, ?_, ?_, ?_, ?_, ?_⟩ <;> simp [World.cell?, h.tab.cells, h.new, h.prev]
theorem AddSt.only' {w W W' : World} {g b1 b2 : Nat} {rows : List (ByteArray × Row)} {back : List (ByteArray × ByteArray)} {r old : Row} (h : AddSt w W g b1 b2 rows back r old) (ho : Only [] W W') : AddSt w W' g b1 b2 rows back r old :=
  ⟨h.tab.only ho (by simp) (by simp) (by simp), h.only.trans ho (by simp), Nat.le_trans h.size ho.size, (ho.block _ (by have := h.size; omega) (by simp)).trans h.new, (ho.block _ (by have := h.size; omega) (by simp)).trans h.prev⟩

theorem AddSt.gNot {w W : World} {g b1 b2 : Nat} {rows : List (ByteArray × Row)} {back : List (ByteArray × ByteArray)} {r old : Row} (h : AddSt w W g b1 b2 rows back r old) : g ∉ [b1, b2] := by
  have h1 := h.tab.rowsAt.ne_cells h.tab.cells
  have h2 := h.tab.backAt.ne_cells h.tab.cells
  simp
  exact ⟨fun e => h1 e.symm, fun e => h2 e.symm⟩
theorem AddSt.cellsIn {w W W' : World} {g b1 b2 : Nat} {rows : List (ByteArray × Row)} {back : List (ByteArray × ByteArray)} {r old : Row} (h : AddSt w W g b1 b2 rows back r old) (ho : Only [b1, b2] W W') :
    W'.cell? ⟨g, 0, none⟩ = some (.map (some b1)) ∧ W'.cell? ⟨g, 1, none⟩ = some (.map (some b2)) ∧
    W'.cell? ⟨w.heap.size, 0, none⟩ = some (.string r.wide) ∧ W'.cell? ⟨w.heap.size, 1, none⟩ = some (.string r.narrow) ∧ W'.cell? ⟨w.heap.size, 2, none⟩ = some (.int .i64 r.kind) := by
  have h1 := h.tab.rowsAt.ne_cells h.new
  have h2 := h.tab.backAt.ne_cells h.new
  have hg := h.gNot
  have hs := h.size
  have hgl := (Array.getElem?_eq_some_iff.1 h.tab.cells).1
  have hw : w.heap.size ∉ [b1, b2] := by simp; exact ⟨fun e => h1 e.symm, fun e => h2 e.symm⟩
  obtain ⟨k0, k1, k2, k3, k4, _⟩ := h.cellsOf
  refine ⟨?_, ?_, ?_, ?_, ?_⟩ <;> (rw [ho.cell (by first | exact hgl | (show w.heap.size < _; omega)) (by assumption)]; assumption)
theorem addpost_refuse {w W : World} {g b1 b2 : Nat} {rows : List (ByteArray × Row)} {back : List (ByteArray × ByteArray)} {r old : Row} (h : AddSt w W g b1 b2 rows back r old) (hn : addNew rows back r = false) {c : Int} (hc : addCode rows back r = c) : AddPost w g b1 b2 rows back r (.returned (.int .i64 c)) W := by
  refine ⟨by rw [hc], ?_, h.only⟩
  rw [hn]
  exact h.tab

set_option maxHeartbeats 1000000 in
set_option maxRecDepth 100000 in
theorem add_any (r : Row) (g b1 b2 : Nat) (rows : List (ByteArray × Row)) (back : List (ByteArray × ByteArray)) (w : World) (h : TabAt w g b1 b2 rows back) (hw : r.wide.size ≤ maxLen) (hn : r.narrow.size ≤ maxLen) :
    Calls Try.prog 9 #[.pointer (some ⟨g, 0, none⟩), .agg #[.string r.wide, .string r.narrow, .int .i64 r.kind]] w (AddPost w g b1 b2 rows back r) := by
  have c0 : w.cell? ⟨g, 0, none⟩ = some (.map (some b1)) := by simp [World.cell?, h.cells]
  have hl := fun W (hW : MapAt Row.enc W b1 rows) => hW.look2 Try.underlying48 Try.underlying9 Row.zero (zero30 W) r.wide
  have hl' := fun W (hW : MapAt Value.string W b2 back) => hW.look2 Try.underlying49 Try.underlying9 (⟨#[]⟩ : ByteArray) (zero9 W) r.narrow
  have hg : g < w.heap.size := (Array.getElem?_eq_some_iff.1 h.cells).1
  have l1 := hl _ ((h.rowsAt.alloc (.cells #[.string r.wide, .string r.narrow, .int .i64 r.kind] 30)).drew)
  have l2 := hl _ (((h.rowsAt.alloc (.cells #[.string r.wide, .string r.narrow, .int .i64 r.kind] 30)).alloc (.cells #[.string ⟨#[]⟩, .string ⟨#[]⟩, .int .i64 0] 30)).drew)
  unfold Row.enc at l1 l2
  generalize hold : (mget rows r.wide).getD Row.zero = old at *
  generalize hthere : (mget rows r.wide).isSome = there at *
  have HO := hide hold
  have HT := hide hthere
  have HL := hide hl'
  clear hold hthere hl hl'
  go_enter Try.func9, Try.ntmps9
  go_upto_region 1 with fail
  go_cut [5, 6] (fun v5 v6 W => AddRel w W g b1 b2 rows back r old there v5 v6)
  case first =>
    go_region
    all_goals
      go_wp2
      go_meet
      have ho : Only [] w (((w.alloc (.cells #[.string r.wide, .string r.narrow, .int .i64 r.kind] 30)).alloc (.cells #[.string old.wide, .string old.narrow, .int .i64 old.kind] 30)).drew) := (((Only.refl _ _).alloc _).alloc _).drew
      exact ⟨rfl, rfl, h.only ho (by simp) (by simp) (by simp), ho.mono (by simp), by simp, (two_new w _ _).1, (two_new w _ _).2⟩
  case rest =>
  clear l1 l2 h c0
  obtain ⟨rfl, rfl, h⟩ := hcut
  go_upto_region 2 with fail
  have l1 := HL.out wc.drew h.tab.backAt.drew
  have hcs := h.cellsOf
  go_cut [8] (fun v8 W => v8 = .bool (mget back r.narrow).isSome ∧ Hid (AddSt w W g b1 b2 rows back r old))
  case first =>
    go_region
    all_goals
      go_wp2
      go_meet
      exact ⟨rfl, hide (h.only' (Only.refl _ _).drew)⟩
  case rest =>
  clear l1 h hcs
  obtain ⟨rfl, h⟩ := hcut
  generalize hbk : (mget back r.narrow).isSome = taken at *
  have HB := hide hbk
  clear hbk
  have hcs := h.out.cellsOf
  go_upto_region 5 with (go_at_call 21; refine (right_any r _ hw hn).mono ?_; rintro e W2 ⟨rfl, ho2⟩; have h2 := hide (h.out.only' ho2); clear h ho2 hcs; have hcs := h2.out.cellsOf)
  · go_ret
    have hr : r.right = false := by simpa using ‹(!r.right) = true›
    exact addpost_refuse h2.out (by simp [addNew, hr]) (by simp [addCode, hr])
  have hr : r.right = true := by simpa using ‹(!r.right) = false›
  have HRr := hide hr
  clear hr
  cases there
  · go_upto_region 11 with (at_len; refine wpList_len_map rfl _ 48 rfl Try.underlying48 h2.out.tab.rowsAt rfl ?_)
    · go_ret
      have ht : taken = true := ‹taken = true›
      exact addpost_refuse h2.out (by simp [addNew, HB.out, ht]) (by simp [addCode, HRr.out, HB.out, HT.out, ht])
    · go_ret
      have ht : taken = false := ‹taken = false›
      have hl : (8192 : Int) ≤ rows.length := ‹(8192 : Int) ≤ rows.length›
      exact addpost_refuse h2.out (by simp [addNew]; intros; omega) (by simp [addCode, HRr.out, HB.out, HT.out, ht]; omega)
    · have ht : taken = false := ‹taken = false›
      have hl : (rows.length : Int) < 8192 := ‹(rows.length : Int) < 8192›
      obtain ⟨w3, v3, st3, run3, hole3, o3⟩ := h2.out.tab.rowsAt.drew.entry (P := Try.prog) Try.underlying48 Try.underlying9 (zero30 _) r.wide
      obtain ⟨w4, run4, rows4, o4⟩ := hole3.fill (P := Try.prog) (t := 48) r
      have o23 : Only [b1] W2 w3 := (Only.refl _ _).drew.trans o3 (by simp)
      have o24 : Only [b1] W2 w4 := o23.trans o4 (by simp)
      have back4 := h2.out.tab.backAt.only o24 (by simp; exact fun e => h2.out.tab.ne e.symm)
      obtain ⟨w5, v5, st5, run5, hole5, o5⟩ := back4.entry (P := Try.prog) Try.underlying49 Try.underlying9 (zero9 _) r.narrow
      obtain ⟨w6, run6, back6, o6⟩ := hole5.fill (P := Try.prog) (t := 49) r.wide
      have o25 : Only [b1, b2] W2 w5 := (o24.mono (by simp)).trans o5 (by simp)
      have o26 : Only [b1, b2] W2 w6 := o25.trans o6 (by simp)
      have k2 := hcs
      have k3 := h2.out.cellsIn (o23.mono (by simp))
      have k4 := h2.out.cellsIn (o24.mono (by simp))
      have k5 := h2.out.cellsIn o25
      unfold Row.enc at run4
      have rows6 := rows4.only ((o5.trans o6 (by simp) : Only [b2] w4 w6)) (by simp; exact h2.out.tab.ne)
      have hfin : AddPost w g b1 b2 rows back r (.returned (.int .i64 0)) w6 := by
        have hn : addNew rows back r = true := by simp [addNew, HRr.out, HB.out, HT.out, ht]; omega
        refine ⟨by simp [addCode, HRr.out, HB.out, HT.out, ht]; omega, ?_, h2.out.only.trans o26 (by simp)⟩
        rw [if_pos hn, if_pos hn]
        exact ⟨(o26.block g (by have := Array.getElem?_eq_some_iff.1 h2.out.tab.cells; exact this.1) h2.out.gNot).trans h2.out.tab.cells, rows6, back6, h2.out.tab.ne⟩
      have HF := hide hfin
      clear hfin rows6 o23 o24 o25 o26 o3 o4 o5 o6 hole3 hole5 back4 back6 rows4 hl ht hcs
      go_region
      all_goals
        go_wp2
        go_ret
        exact HF.out
  · go_wp2
    · go_ret
      exact addpost_refuse h2.out (by simp [addNew, HT.out]) (by
        rw [addCode, if_neg (by simp [HRr.out]), if_pos ⟨HT.out, by rw [HO.out]; exact ⟨bytes_ext ‹_›, bytes_ext ‹_›, ‹_›⟩⟩])
    all_goals
      go_ret
      exact addpost_refuse h2.out (by simp [addNew, HT.out]) (by
        rw [addCode, if_neg (by simp [HRr.out]), if_neg (by rw [HO.out]; rintro ⟨_, q1, q2, q3⟩; first | exact absurd q3 ‹_› | exact absurd (congrArg ByteArray.toList q2) ‹_› | exact absurd (congrArg ByteArray.toList q1) ‹_›), if_pos (Or.inl HT.out)])
end Go.Proofs.Ytlmpmfgheacplaa
