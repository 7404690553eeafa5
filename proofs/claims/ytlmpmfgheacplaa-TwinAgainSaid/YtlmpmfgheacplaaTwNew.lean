/- The translation table: New, Len, Other. -/
import Derived.Test.YtlmpmfgheacplaaTwAdd
namespace Go.Proofs.Ytlmpmfgheacplaa
open Go.RowKit
set_option linter.unusedVariables false

theorem TabAt.cell0 {w : World} {g b1 b2 : Nat} {rows : List (ByteArray × Row)} {back : List (ByteArray × ByteArray)} (h : TabAt w g b1 b2 rows back) : w.cell? ⟨g, 0, none⟩ = some (.map (some b1)) := by simp [World.cell?, h.cells]
theorem TabAt.cell1 {w : World} {g b1 b2 : Nat} {rows : List (ByteArray × Row)} {back : List (ByteArray × ByteArray)} (h : TabAt w g b1 b2 rows back) : w.cell? ⟨g, 1, none⟩ = some (.map (some b2)) := by simp [World.cell?, h.cells]
theorem TabAt.lt {w : World} {g b1 b2 : Nat} {rows : List (ByteArray × Row)} {back : List (ByteArray × ByteArray)} (h : TabAt w g b1 b2 rows back) : g < w.heap.size := (Array.getElem?_eq_some_iff.1 h.cells).1

def NewPost (w : World) (e : Ending) (w' : World) : Prop :=
  ∃ g b1 b2, e = .returned (.pointer (some ⟨g, 0, none⟩)) ∧ TabAt w' g b1 b2 [] [] ∧ Only [] w w' ∧ w.heap.size ≤ g ∧ w.heap.size ≤ b1 ∧ w.heap.size ≤ b2
theorem new_any (w : World) : Calls Try.prog 8 #[] w (NewPost w) := by
  have hmm := @run_makeMap Try.prog
  go_enter Try.func8, Try.ntmps8
  go_wp2
  go_ret
  refine ⟨w.heap.size + 2, w.heap.size, w.heap.size + 1, rfl, ⟨?_, ?_, ?_, by omega⟩, (((Only.refl _ _).alloc _).alloc _).alloc _, by omega, by omega, by omega⟩
  · show (((w.heap.push _).push _).push _)[_]? = _
    rw [Array.getElem?_push, if_pos (by simp)]
  · exact ((MapAt.made Row.enc w).alloc _).alloc _
  · have := (MapAt.made Value.string (w.alloc (.map #[] 0))).alloc (.cells #[.map (some w.heap.size), .map (some (w.heap.size + 1))] 51)
    simpa using this

theorem len_any (g b1 b2 : Nat) (rows : List (ByteArray × Row)) (back : List (ByteArray × ByteArray)) (w : World) (h : TabAt w g b1 b2 rows back) :
    Calls Try.prog 12 #[.pointer (some ⟨g, 0, none⟩)] w fun e w' => e = .returned (.int .i64 rows.length) ∧ w = w' := by
  have c0 := h.cell0
  go_enter Try.func12, Try.ntmps12
  go_wp2_with (at_len; refine wpList_len_map rfl _ 48 rfl Try.underlying48 h.rowsAt rfl ?_)
  go_ret
  exact ⟨rfl, rfl⟩

theorem field30_2 (a b : ByteArray) (c : Int) (w : World) : (Instr.field 30 (.agg #[.string a, .string b, .int .i64 c]) 2).run Try.prog w = .ok (.int .i64 c) w := by kernel_rfl
/-- What Other answers. -/
def otherOf (rows : List (ByteArray × Row)) (back : List (ByteArray × ByteArray)) (id : ByteArray) : ByteArray × Int × Bool :=
  match mget back id with
  | some x => (x, ((mget rows x).getD Row.zero).kind, true)
  | none => (((mget rows id).getD Row.zero).narrow, ((mget rows id).getD Row.zero).kind, (mget rows id).isSome)
def OtherPost (rows : List (ByteArray × Row)) (back : List (ByteArray × ByteArray)) (id : ByteArray) (w : World) (e : Ending) (w' : World) : Prop :=
  e = .returned (.tuple #[.string (otherOf rows back id).1, .int .i64 (otherOf rows back id).2.1, .bool (otherOf rows back id).2.2]) ∧ Only [] w w'

set_option maxHeartbeats 1000000 in
theorem other_any (id : ByteArray) (g b1 b2 : Nat) (rows : List (ByteArray × Row)) (back : List (ByteArray × ByteArray)) (w : World) (h : TabAt w g b1 b2 rows back) :
    Calls Try.prog 10 #[.pointer (some ⟨g, 0, none⟩), .string id] w (OtherPost rows back id w) := by
  have c0 := h.cell0
  have c1 := h.cell1
  have hg := h.lt
  have l1 := h.backAt.look2 (P := Try.prog) Try.underlying49 Try.underlying9 (⟨#[]⟩ : ByteArray) (zero9 w) id
  have HR := hide (fun W (hW : MapAt Row.enc W b1 rows) => hW.look2 (P := Try.prog) Try.underlying48 Try.underlying9 Row.zero (zero30 W))
  have HR1 := hide (fun W (hW : MapAt Row.enc W b1 rows) => hW.look1 (P := Try.prog) Try.underlying48 Try.underlying9 Row.zero (zero30 W))
  have HT := hide h
  clear h
  cases hb : mget back id with
  | some x =>
    rw [hb] at l1
    have HB := hide hb
    clear hb
    have l2 := HR1.out w.drew HT.out.rowsAt.drew x
    have hs : otherOf rows back id = (x, ((mget rows x).getD Row.zero).kind, true) := by simp [otherOf, HB.out]
    have HS := hide hs
    clear hs
    unfold Row.enc at l2
    generalize (mget rows x).getD Row.zero = y at *
    have hf := field30_2 y.wide y.narrow y.kind w.drew
    go_enter Try.func10, Try.ntmps10
    go_upto_region 3 with fail
    go_cut [4, 5, 6] (fun v4 v5 v6 W => v4 = .string x ∧ v5 = .int .i64 y.kind ∧ v6 = .bool true ∧ Only [] w W)
    case first =>
      go_region
      all_goals
        go_wp2
        go_meet
        exact ⟨rfl, rfl, rfl, (Only.refl _ _).drew⟩
    case rest =>
    obtain ⟨rfl, rfl, rfl, ho⟩ := hcut
    go_wp2
    go_ret3
    exact ⟨by rw [HS.out]; rfl, ho⟩
  | none =>
    rw [hb] at l1
    have HB := hide hb
    clear hb
    have l2 := HR.out w HT.out.rowsAt id
    have l3 := HR.out _ (HT.out.rowsAt.alloc (.cells #[.string ⟨#[]⟩, .string ⟨#[]⟩, .int .i64 0] 30)) id
    have hs : otherOf rows back id = (((mget rows id).getD Row.zero).narrow, ((mget rows id).getD Row.zero).kind, (mget rows id).isSome) := by simp [otherOf, HB.out]
    have HS := hide hs
    clear hs
    unfold Row.enc at l2 l3
    generalize (mget rows id).getD Row.zero = y at *
    generalize (mget rows id).isSome = there at *
    go_enter Try.func10, Try.ntmps10
    go_upto_region 5 with fail
    go_cut [4, 5, 6] (fun v4 v5 v6 W => v4 = .string y.narrow ∧ v5 = .int .i64 y.kind ∧ v6 = .bool there ∧ Only [] w W)
    case first =>
      go_region
      all_goals
        go_wp2
        go_meet
        exact ⟨rfl, rfl, rfl, ((Only.refl _ _).alloc _).drew⟩
    case rest =>
    obtain ⟨rfl, rfl, rfl, ho⟩ := hcut
    go_wp2
    go_ret3
    exact ⟨by rw [HS.out]; rfl, ho⟩
end Go.Proofs.Ytlmpmfgheacplaa
