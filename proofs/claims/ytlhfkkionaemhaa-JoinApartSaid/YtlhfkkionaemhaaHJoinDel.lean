/- join: slices.Delete over the entries' row: one entry less. Conditions: sizes. -/
import Derived.Test.YtlhfkkionaemhaaHJoinFind
import Derived.Sort.OwnSorted
namespace Go.Proofs.Ytlhfkkionaemhaa.H
set_option linter.unusedSimpArgs false
set_option linter.unusedVariables false
open Go Go.RowKit Go.Maps Go.Proofs.YtlhfkkionaemhaaW.PrintWords Go.Proofs.YtlhfkkionaemhaaW.PrintLast Go.Proofs.YtlhfkkionaemhaaW.PrintMore Go.Proofs.Ytlhfkkionaemhaa.Plain Go.Sort

def encO : Option Nat → Value
  | none => .pointer none
  | some x => ptrV x

theorem holds_row {W : World} {g : Nat} {cur : Array Value} {e : TypeId} {xs : List Nat} (hb : W.heap[g]? = some (.cells cur e (0, 0))) (ht : cur.toList.take xs.length = xs.map ptrV) : Holds encO W g 0 (xs.map some).toArray := by
  intro j hj
  have hj' : j < xs.length := by simpa using hj
  refine ⟨?_, by simp [World.frozen?, hb]⟩
  have h1 : (cur.toList.take xs.length)[j]? = (xs.map ptrV)[j]? := by rw [ht]
  rw [List.getElem?_take_of_lt hj'] at h1
  rw [blk_cell hb, Nat.zero_add]
  rw [getElem!_pos _ j hj]
  simp only [Array.getElem?_toList] at h1
  rw [h1]
  simp [hj', encO]

theorem heap_put {w : World} {g n : Nat} {cur : Array Value} {e : TypeId} {fr : Nat × Nat} (d : Array (Option Nat)) (hb : w.heap[g]? = some (.cells cur e fr)) :
    (putRow encO (Sort.ahead w n) g 0 d).heap[g]? = some (.cells (putCells encO 0 d cur) e fr) := by
  simp [putRow, mapBlock, Sort.ahead, Array.getElem?_modify, hb, onCells]
theorem grownBy_put {w : World} {g n : Nat} (d : Array (Option Nat)) : w.grownBy (putRow encO (Sort.ahead w n) g 0 d) (some g) := by
  refine ⟨rfl, rfl, rfl, by simp, fun k hk hne => ?_⟩
  have : g ≠ k := fun e => hne (by rw [e])
  simp [putRow, mapBlock, Sort.ahead, Array.getElem?_modify, this]
theorem take_put (cur : Array Value) (ts : List (Option Nat)) (n : Nat) (h : ts.length ≤ cur.size) (hn : n ≤ ts.length) : (putCells encO 0 ts.toArray cur).toList.take n = (ts.take n).map encO := by
  apply List.ext_getElem?
  intro j
  by_cases hj : j < n
  · rw [List.getElem?_take_of_lt hj, Array.getElem?_toList]
    have h1 : j < ts.length := by omega
    have h2 : j < cur.size := by omega
    simp [putCells, hj, h1, h2]
  · rw [List.getElem?_eq_none (by simp; omega), List.getElem?_eq_none (by simp; omega)]

theorem delete_calls (B : Nat) (xs : List Nat) (lv : Value) (w : World) (hrow : w.ownsRow B 54 1 lv xs.length (xs.map ptrV)) (i : Nat) (hi : i < xs.length) :
    Calls Try.prog 27 #[lv, .int .i64 i, .int .i64 ((i : Int) + 1)] w fun e w' => ∃ v', e = .returned v' ∧ v'.ownBlock = lv.ownBlock ∧ w'.ownsRow B 54 1 v' (xs.eraseIdx i).length ((xs.eraseIdx i).map ptrV) ∧ w.grownBy w' lv.ownBlock := by
  obtain ⟨hlen, h⟩ := hrow
  rcases h with ⟨rfl, h⟩ | ⟨g, cap, cur, rfl, hg, hh, h1, h2, h3, h4⟩
  · omega
  · rw [Nat.mul_one] at h3 h4
    have hH := holds_row hh h4
    have h27 := Try.slices_Delete_27 encO (fun o => by cases o <;> rfl) (fun w => by kernel_rfl) g 0 cap i (i + 1) (xs.map some).toArray w hH (by simpa using h1) (by unfold maxLen at h2; omega) (Nat.le_succ i) (by simp; omega)
    refine Calls.mono (by simpa using h27) ?_
    rintro e w' ⟨rfl, q, rfl⟩
    have hel : (xs.eraseIdx i).length = xs.length - 1 := List.length_eraseIdx_of_lt hi
    have hd : ((xs.map some).take i ++ ((xs.map some).drop (i + 1) ++ [none])).length = xs.length := by simp; omega
    refine ⟨.slice (some ⟨g, 0, none⟩) (xs.eraseIdx i).length cap, by rw [hel], rfl, ⟨by simp, .inr ⟨g, cap, _, rfl, hg, heap_put _ hh, by omega, h2, by rw [Nat.mul_one]; simp [putCells, h3], ?_⟩⟩, grownBy_put _⟩
    rw [Nat.mul_one, take_put cur _ _ (by rw [hd]; omega) (by rw [hd]; omega)]
    have e1 : ((xs.map some).take i ++ ((xs.map some).drop (i + 1) ++ [none])).take (xs.eraseIdx i).length = (xs.eraseIdx i).map some := by
      rw [← List.append_assoc]
      rw [List.take_append_of_le_length (by simp; omega), List.take_of_length_le (by simp; omega), List.eraseIdx_eq_take_drop_succ]
      simp
    rw [e1]
    simp [encO]
end Go.Proofs.Ytlhfkkionaemhaa.H
