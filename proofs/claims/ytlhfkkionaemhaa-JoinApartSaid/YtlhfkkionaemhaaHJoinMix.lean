/- join: rows of packets: slices.Clone, the order that numbers determine (mixed). Conditions: sizes. -/
import Derived.Deep.QuietTactic
import Derived.BigQuiet
import Derived.Lib.SliceRun
import Derived.Test.YtlhfkkionaemhaaHJoinLives
import Derived.Test.YtlhfkkionaemhaaHCutRead
namespace Go.Proofs.Ytlhfkkionaemhaa.H
set_option linter.unusedSimpArgs false
set_option linter.unusedVariables false
open Go Go.RowKit Go.Maps Go.Proofs.YtlhfkkionaemhaaW.PrintWords Go.Proofs.YtlhfkkionaemhaaW.PrintLast Go.Proofs.YtlhfkkionaemhaaW.PrintMore Go.Proofs.Ytlhfkkionaemhaa.Plain

/-- A row of packets of the call's own. -/
def PRow (w : World) (B : Nat) (v : Value) (L : List Pk) : Prop := w.ownsRow B 32 9 v L.length (L.flatMap pkc)
theorem pkc_len (p : Pk) : (pkc p).length = 9 := rfl
theorem pkc_one (p : Pk) : ∀ u ∈ pkc p, u.oneCell' = true := by
  intro u hu
  simp only [pkc, List.mem_cons, List.not_mem_nil, or_false] at hu
  rcases hu with rfl | rfl | rfl | rfl | rfl | rfl | rfl | rfl | rfl <;> rfl
theorem flat_one (L : List Pk) : ∀ u ∈ L.flatMap pkc, u.oneCell' = true := by
  intro u hu
  obtain ⟨p, _, hp⟩ := List.mem_flatMap.mp hu
  exact pkc_one p u hp
theorem flat_len (L : List Pk) : (L.flatMap pkc).length = L.length * 9 := by
  induction L with
  | nil => rfl
  | cons p L ih => rw [List.flatMap_cons, List.length_append, ih, pkc_len, List.length_cons]; omega
theorem flat_take (L : List Pk) (i : Nat) : (L.flatMap pkc).take (i * 9) = (L.take i).flatMap pkc := by
  induction L generalizing i with
  | nil => simp
  | cons p L ih =>
    cases i with
    | zero => simp
    | succ i =>
      rw [List.flatMap_cons, List.take_append, List.take_of_length_le (by rw [pkc_len]; omega), pkc_len, show (i + 1) * 9 - 9 = i * 9 by omega, ih, List.take_succ_cons, List.flatMap_cons]
theorem flat_drop (L : List Pk) (i : Nat) : (L.flatMap pkc).drop (i * 9) = (L.drop i).flatMap pkc := by
  induction L generalizing i with
  | nil => simp
  | cons p L ih =>
    cases i with
    | zero => simp
    | succ i =>
      rw [List.flatMap_cons, List.drop_append, List.drop_of_length_le (by rw [pkc_len]; omega), pkc_len, show (i + 1) * 9 - 9 = i * 9 by omega, ih, List.drop_succ_cons, List.nil_append]
theorem flat_set (L : List Pk) (i : Nat) (hi : i < L.length) (q : Pk) : (L.set i q).flatMap pkc = (L.flatMap pkc).take (i * 9) ++ pkc q ++ (L.flatMap pkc).drop (i * 9 + 9) := by
  rw [flat_take, show i * 9 + 9 = (i + 1) * 9 by omega, flat_drop, List.set_eq_take_append_cons_drop, if_pos hi, List.flatMap_append, List.flatMap_cons, List.append_assoc]

/-- A row of packets, opened: its block, and the cells of each packet. -/
theorem prow_open {W : World} {B : Nat} {v : Value} {L : List Pk} (h : PRow W B v L) (hl : 0 < L.length) :
    ∃ g cap cur, v = .slice (some ⟨g, 0, none⟩) L.length cap ∧ B ≤ g ∧ W.heap[g]? = some (.cells cur 32 (0, 0)) ∧ L.length ≤ cap ∧ cap ≤ maxLen ∧ cur.size = cap * 9 ∧ cur.toList.take (L.length * 9) = L.flatMap pkc := by
  obtain ⟨hlen, h⟩ := h
  rcases h with ⟨rfl, h⟩ | ⟨g, cap, cur, rfl, hg, hh, h1, h2, h3, h4⟩
  · omega
  · exact ⟨g, cap, cur, rfl, hg, hh, h1, h2, h3, h4⟩
theorem prow_cells {W : World} {g : Nat} {cur : Array Value} {L : List Pk} (hh : W.heap[g]? = some (.cells cur 32 (0, 0))) (h4 : cur.toList.take (L.length * 9) = L.flatMap pkc) (i : Nat) (hi : i < L.length) (j : Nat) (u : Value) (hu : (pkc L[i])[j]? = some u) : W.cell? ⟨g, i * 9 + j, none⟩ = some u := by
  have hj : j < 9 := (List.getElem?_eq_some_iff.mp hu).1
  rw [blk_cell hh, ← hu, ← flat_get pkc 9 (fun _ => rfl) L i hi j hj, ← h4, List.getElem?_take_of_lt (by omega)]
  simp
theorem prow_nine {W : World} {g : Nat} {cur : Array Value} {L : List Pk} (hh : W.heap[g]? = some (.cells cur 32 (0, 0))) (h4 : cur.toList.take (L.length * 9) = L.flatMap pkc) (i : Nat) (hi : i < L.length) :
    W.cell? ⟨g, i * 9, none⟩ = some (.int .u32 L[i].src) ∧ W.cell? ⟨g, i * 9 + 1, none⟩ = some (.int .u32 L[i].dst) ∧ W.cell? ⟨g, i * 9 + 2, none⟩ = some (.int .i64 L[i].proto) ∧ W.cell? ⟨g, i * 9 + 3, none⟩ = some (.int .i64 L[i].ttl) ∧ W.cell? ⟨g, i * 9 + 4, none⟩ = some (.int .i64 L[i].id) ∧ W.cell? ⟨g, i * 9 + 5, none⟩ = some (.int .i64 L[i].off) ∧ W.cell? ⟨g, i * 9 + 6, none⟩ = some (.bool L[i].more) ∧ W.cell? ⟨g, i * 9 + 7, none⟩ = some (.bool L[i].whole) ∧ W.cell? ⟨g, i * 9 + 8, none⟩ = some (.string L[i].body) :=
  ⟨prow_cells hh h4 i hi 0 _ rfl, prow_cells hh h4 i hi 1 _ rfl, prow_cells hh h4 i hi 2 _ rfl, prow_cells hh h4 i hi 3 _ rfl, prow_cells hh h4 i hi 4 _ rfl, prow_cells hh h4 i hi 5 _ rfl, prow_cells hh h4 i hi 6 _ rfl, prow_cells hh h4 i hi 7 _ rfl, prow_cells hh h4 i hi 8 _ rfl⟩

set_option maxHeartbeats 2000000 in
theorem clone_calls (B0 : Nat) (v : Value) (L : List Pk) (hl : 0 < L.length) (hl2 : L.length ≤ 1000) (w : World) (hR : PRow w B0 v L) :
    Calls Try.prog 32 #[v] w fun e w' => ∃ v', e = .returned v' ∧ PRow w' w.heap.size v' L ∧ Below w.heap.size w w' := by
  obtain ⟨g, cap, cur, rfl, hg, hh, h1, h2, h3, h4⟩ := prow_open hR hl
  have hgl := blk_lt hh
  obtain ⟨i0, hi, hz0, hz1, hz2⟩ := info_parts info32
  have hnew : ∀ j u, (L.flatMap pkc)[j]? = some u → (w.alloc (.cells #[] 32 (0, 0))).cell? ((⟨g, 0, none⟩ : Addr).add j) = some u := fun j u hu => by
    rw [show ((⟨g, 0, none⟩ : Addr).add j) = ⟨g, j, none⟩ by simp [Addr.add] <;> omega, blk_cell (blk_alloc hh _), ← hu, ← h4, List.getElem?_take_of_lt (by have := (List.getElem?_eq_some_iff.mp hu).1; rw [flat_len] at this; omega)]
    simp
  have hown : (w.alloc (.cells #[] 32 (0, 0))).ownsRow w.heap.size 32 9 (.slice (some ⟨w.heap.size, 0, none⟩) 0 0) 0 [] :=
    ⟨rfl, .inr ⟨w.heap.size, 0, #[], rfl, Nat.le_refl _, blk_new w _, Nat.le_refl _, by decide, rfl, rfl⟩⟩
  have hnil : ∀ w, (binOp .eql 22 (.slice (some ⟨g, 0, none⟩) L.length cap) (.slice none 0 0)).run Try.prog w = .ok (.bool false) w := fun w => Lib.run_eql_slice_nil w 22 32 _ _ _ 0 0 Try.underlying22
  have hfl := flat_len L
  clear hR h4 h3
  go_enter Try.func32, Try.ntmps32
  go_wp2_with (at_builtin; refine wpList_append_own_at _ rfl (.tmp 5) (.tmp 6) 22 rfl w.heap.size 32 i0 _ 9 64 Try.underlying22 hi hz0 hz1 hz2 rfl (by decide) _ _ _ rfl hown ⟨g, 0, none⟩ L.length cap (L.flatMap pkc) rfl hfl hnew (flat_one L) ?c1 ?c2 ?c3 ?_)
  case c1 => unfold maxLen; omega
  case c2 => omega
  case c3 => simp
  intro v' w' hown' hg' _ _
  go_wp2
  go_ret
  refine ⟨_, rfl, ?_, ?_⟩
  · show w'.ownsRow _ _ _ _ _ _
    simpa using hown'
  · exact ((Below.refl _ _).alloc (Nat.le_refl _) _).grown hg' (by simp) (fun k hk => by cases hk; exact Nat.le_refl _)
end Go.Proofs.Ytlhfkkionaemhaa.H
