/- Walks of near's small functions. Conditions: sizes that the rows give. (In work.) -/
import Derived.Test.YtimkdghmiccilaaProg
import Derived.Test.YtimkdghmiccilaaWMore
import Derived.WalkKit
import Derived.ProofKit
import Derived.Maps.Own
import Derived.Maps.OwnSet
namespace Go.Proofs.Ytimkdghmiccilaa.H
set_option linter.unusedSimpArgs false
set_option linter.unusedVariables false
open Go Go.RowKit Go.Maps Go.Proofs.YtimkdghmiccilaaW.PrintWords Go.Proofs.YtimkdghmiccilaaW.PrintLast Go.Proofs.YtimkdghmiccilaaW.PrintMore

theorem new_calls (age tries : Int) (ha : 1 ≤ age ∧ age ≤ 1000000000) (ht : 1 ≤ tries ∧ tries ≤ 10) (w : World) :
    Calls Try.prog 7 #[.int .i64 age, .int .i64 tries] w fun e w' => e = .returned (.tuple #[.pointer (some ⟨w.heap.size + 1, 0, none⟩), .int .i64 0]) ∧ w' = (w.alloc (.map #[] 0)).alloc (.cells #[.int .i64 age, .int .i64 tries, .int .i64 0, .map (some w.heap.size)] 50 (0, 0)) := by
  have hmm := @run_makeMap Try.prog
  go_enter Try.func7, Try.ntmps7
  go_wp2
  refine bodyPost_ret (v := .tuple #[.pointer (some ⟨w.heap.size + 1, 0, none⟩), .int .i64 0]) ?_ rfl ⟨rfl, rfl⟩
  simp [results, Try.results7, go_sem]

theorem blk_cell {w : World} {g : Nat} {vs : Array Value} {t : TypeId} {z : Nat × Nat} (h : w.heap[g]? = some (.cells vs t z)) (i : Nat) : w.cell? ⟨g, i, none⟩ = vs[i]? := by
  simp [World.cell?, h]

theorem time_ok (age tries cnow now : Int) (mb g : Nat) (hn : 0 ≤ now ∧ now ≤ 1000000000) (hc : cnow ≤ now) (w : World) (hx : w.heap[g]? = some (.cells #[.int .i64 age, .int .i64 tries, .int .i64 cnow, .map (some mb)] 50 (0, 0))) :
    Calls Try.prog 16 #[.pointer (some ⟨g, 0, none⟩), .int .i64 now] w fun e w' => e = .returned (.int .i64 0) ∧ w = w' := by
  have hc2 : w.cell? ⟨g, 2, none⟩ = some (.int .i64 cnow) := (blk_cell hx 2).trans rfl
  go_enter Try.func16, Try.ntmps16
  go_wp2
  go_ret
  exact ⟨rfl, rfl⟩

/-- How a pointer to a whole block reads: the block's number; nil reads as -1. -/
def ptrElem (v : Value) : Option (DataW Unit × List MemPlace) :=
  match v with
  | .pointer none => some (.lit (.int .i64 (-1)), [])
  | .pointer (some ⟨g, 0, none⟩) => some (.lit (.int .i64 g), [])
  | _ => none

theorem ptrElem_nil {v : Value} {ps : List MemPlace} (h : ptrElem v = some (.lit (.int .i64 (-1)), ps)) : v = .pointer none := by
  unfold ptrElem at h
  split at h
  · rfl
  · simp only [Option.some.injEq, Prod.mk.injEq, DataW.lit.injEq, Lit.int.injEq] at h
    omega
  · cases h
theorem ptrElem_blk {v : Value} {ps : List MemPlace} {g : Nat} (h : ptrElem v = some (.lit (.int .i64 g), ps)) : v = .pointer (some ⟨g, 0, none⟩) := by
  unfold ptrElem at h
  split at h
  · simp only [Option.some.injEq, Prod.mk.injEq, DataW.lit.injEq, Lit.int.injEq] at h
    omega
  · next g' =>
    simp only [Option.some.injEq, Prod.mk.injEq, DataW.lit.injEq, Lit.int.injEq] at h
    have e : g' = g := by omega
    rw [e]
  · cases h

theorem law22 : Keyed Try.prog 22 := int_keyed Try.underlying22
theorem zero52 (w : World) : (zeroValue 52).run Try.prog w = .ok (.pointer none) w := by kernel_rfl

theorem look_nil (w : World) (mb n : Nat) (D : DataW Unit) (a : Int) (ha : (Lit.int .u32 a).wf = true) (h : w.ownsMap Try.prog 22 ptrElem mb n D) (hD : D.atKey (.int .u32 a) (.lit (.int .i64 (-1))) = .lit (.int .i64 (-1))) :
    (Instr.lookup 48 (.map (some mb)) (.int .u32 a) false).run Try.prog w = .ok (.pointer none) w := by
  obtain ⟨v, ps, hrun, hv⟩ := h.lookup law22 Try.underlying48 (zero52 w) (zd := .lit (.int .i64 (-1))) (zp := []) rfl (keyOf_int_mk Try.underlying22 ha)
  rw [hD] at hv
  rw [ptrElem_nil hv] at hrun
  exact hrun
theorem look_blk (w : World) (mb n g : Nat) (D : DataW Unit) (a : Int) (ha : (Lit.int .u32 a).wf = true) (h : w.ownsMap Try.prog 22 ptrElem mb n D) (hD : D.atKey (.int .u32 a) (.lit (.int .i64 (-1))) = .lit (.int .i64 g)) :
    (Instr.lookup 48 (.map (some mb)) (.int .u32 a) false).run Try.prog w = .ok (.pointer (some ⟨g, 0, none⟩)) w := by
  obtain ⟨v, ps, hrun, hv⟩ := h.lookup law22 Try.underlying48 (zero52 w) (zd := .lit (.int .i64 (-1))) (zp := []) rfl (keyOf_int_mk Try.underlying22 ha)
  rw [hD] at hv
  rw [ptrElem_blk hv] at hrun
  exact hrun

/-- fresh where the map has no entry: the world but for what was drawn. -/
theorem fresh_none (age tries cnow now a : Int) (mb g n : Nat) (D : DataW Unit) (ha : (Lit.int .u32 a).wf = true) (w : World) (hx : w.heap[g]? = some (.cells #[.int .i64 age, .int .i64 tries, .int .i64 cnow, .map (some mb)] 50 (0, 0)))
    (h : w.ownsMap Try.prog 22 ptrElem mb n D) (hD : D.atKey (.int .u32 a) (.lit (.int .i64 (-1))) = .lit (.int .i64 (-1))) :
    Calls Try.prog 17 #[.pointer (some ⟨g, 0, none⟩), .int .u32 a, .int .i64 now] w fun e w' => e = .returned (.tuple #[.pointer none, .bool false]) ∧ ∃ m, w' = w.drewN m := by
  have hc3 : w.cell? ⟨g, 3, none⟩ = some (.map (some mb)) := (blk_cell hx 3).trans rfl
  have hl := look_nil w mb n D a ha h hD
  clear hD h hx
  go_enter Try.func17, Try.ntmps17
  go_wp2
  go_quiet (fail)
  go_wp2
  refine bodyPost_ret (v := .tuple #[.pointer none, .bool false]) ?_ rfl ⟨rfl, _, rfl⟩
  simp [results, Try.results17, go_sem]

/-- fresh where the entry is not known. -/
theorem fresh_asked (age tries cnow now a link until_ asked next : Int) (held : Value) (mb g n x : Nat) (D : DataW Unit) (ha : (Lit.int .u32 a).wf = true) (w : World) (hx : w.heap[g]? = some (.cells #[.int .i64 age, .int .i64 tries, .int .i64 cnow, .map (some mb)] 50 (0, 0)))
    (hy : w.heap[x]? = some (.cells #[.bool false, .int .i64 link, .int .i64 until_, held, .int .i64 asked, .int .i64 next] 56 (0, 0)))
    (h : w.ownsMap Try.prog 22 ptrElem mb n D) (hD : D.atKey (.int .u32 a) (.lit (.int .i64 (-1))) = .lit (.int .i64 x)) :
    Calls Try.prog 17 #[.pointer (some ⟨g, 0, none⟩), .int .u32 a, .int .i64 now] w fun e w' => e = .returned (.tuple #[.pointer (some ⟨x, 0, none⟩), .bool false]) ∧ ∃ m, w' = w.drewN m := by
  have hc3 : w.cell? ⟨g, 3, none⟩ = some (.map (some mb)) := (blk_cell hx 3).trans rfl
  have hy0 : w.cell? ⟨x, 0, none⟩ = some (.bool false) := (blk_cell hy 0).trans rfl
  have hl := look_blk w mb n x D a ha h hD
  clear hD h hx hy
  go_enter Try.func17, Try.ntmps17
  go_wp2
  go_quiet (fail)
  go_wp2
  refine bodyPost_ret (v := .tuple #[.pointer (some ⟨x, 0, none⟩), .bool false]) ?_ rfl ⟨rfl, _, rfl⟩
  simp [results, Try.results17, go_sem]

/-- fresh where the entry is known. -/
theorem fresh_known (age tries cnow now a link until_ asked next : Int) (held : Value) (mb g n x : Nat) (D : DataW Unit) (ha : (Lit.int .u32 a).wf = true) (w : World) (hx : w.heap[g]? = some (.cells #[.int .i64 age, .int .i64 tries, .int .i64 cnow, .map (some mb)] 50 (0, 0)))
    (hy : w.heap[x]? = some (.cells #[.bool true, .int .i64 link, .int .i64 until_, held, .int .i64 asked, .int .i64 next] 56 (0, 0)))
    (h : w.ownsMap Try.prog 22 ptrElem mb n D) (hD : D.atKey (.int .u32 a) (.lit (.int .i64 (-1))) = .lit (.int .i64 x)) :
    Calls Try.prog 17 #[.pointer (some ⟨g, 0, none⟩), .int .u32 a, .int .i64 now] w fun e w' => e = .returned (.tuple #[.pointer (some ⟨x, 0, none⟩), .bool (decide (now < until_))]) ∧ ∃ m, w' = w.drewN m := by
  have hc3 : w.cell? ⟨g, 3, none⟩ = some (.map (some mb)) := (blk_cell hx 3).trans rfl
  have hy0 : w.cell? ⟨x, 0, none⟩ = some (.bool true) := (blk_cell hy 0).trans rfl
  have hy2 : w.cell? ⟨x, 2, none⟩ = some (.int .i64 until_) := (blk_cell hy 2).trans rfl
  have hl := look_blk w mb n x D a ha h hD
  clear hD h hx hy
  go_enter Try.func17, Try.ntmps17
  go_wp2
  go_quiet (fail)
  go_wp2
  refine bodyPost_ret (v := .tuple #[.pointer (some ⟨x, 0, none⟩), .bool (decide (now < until_))]) ?_ rfl ⟨rfl, _, rfl⟩
  simp [results, Try.results17, go_sem]
end Go.Proofs.Ytimkdghmiccilaa.H
