/- slices.Sorted over maps.Keys at the Cache's map of at most two entries. Conditions: sizes. -/
import Derived.Test.YtimkdghmiccilaaHNearIter
import Derived.Test.YtimkdghmiccilaaPNearAsksx1
namespace Go.Proofs.Ytimkdghmiccilaa.H
set_option linter.unusedSimpArgs false
set_option linter.unusedVariables false
open Go Go.RowKit Go.Maps Go.Shelf Go.Proofs.YtimkdghmiccilaaW.PrintWords Go.Proofs.YtimkdghmiccilaaW.PrintLast Go.Proofs.YtimkdghmiccilaaW.PrintMore Go.Proofs.Ytimkdghmiccilaa.PNearAsks

def sort2 : List Int → List Int
  | [x, y] => if y < x then [y, x] else [x, y]
  | l => l
theorem sort2_length (l : List Int) : (sort2 l).length = l.length := by
  unfold sort2
  split
  · split <;> rfl
  · rfl

theorem ins_f (l : List Int) (h : l.length ≤ 2) : slices_insertionSortOrdered_uint32.f 8 l 0 (l.length : Int) = some (sort2 l) := by
  have w1 : wrap64 1 = 1 := by unfold wrap64; omega
  have w0 : wrap64 0 = 0 := by unfold wrap64; omega
  have w2 : wrap64 2 = 2 := by unfold wrap64; omega
  match l, h with
  | [], _ => simp [slices_insertionSortOrdered_uint32.f, slices_insertionSortOrdered_uint32.l0, w1, sort2]
  | [x], _ => simp [slices_insertionSortOrdered_uint32.f, slices_insertionSortOrdered_uint32.l0, w1, sort2]
  | [x, y], _ =>
    have e1 : cmp_Less_uint32.f y x = some (decide (y < x)) := by simp [cmp_Less_uint32.f, cmp_isNaN_uint32.f]
    simp only [slices_insertionSortOrdered_uint32.f, slices_insertionSortOrdered_uint32.l0, slices_insertionSortOrdered_uint32.l1]
    have r1 : rd [x, y] 1 = y := rfl
    have r0 : rd [x, y] 0 = x := rfl
    by_cases hc : y < x
    · simp [w1, w0, w2, r1, r0, e1, sort2, hc]
    · simp [w1, w0, w2, r1, r0, e1, sort2, hc]

set_option maxRecDepth 100000 in
theorem len_calls (n : Int) (hn : n = 0 ∨ n = 1 ∨ n = 2) (W : World) : Calls Try.prog 25 #[.int .u64 n] W fun e w' => (∃ r, e = .returned (.int .i64 r)) ∧ w' = W := by
  rcases hn with rfl | rfl | rfl
  all_goals
    go_enter Try.func25, Try.ntmps25
    go_wp2
    go_ret
    exact ⟨⟨_, rfl⟩, rfl⟩

theorem ins_calls (w0 w : World) (hB : Below w0.heap.size w0 w) (v : Value) (l : List Int) (hl : l.length ≤ 2) (ho : w.ownsRow w0.heap.size 22 1 v l.length (l.map encU)) :
    Calls Try.prog 26 #[v, .int .i64 0, .int .i64 (l.length : Int)] w fun e w' => e = .returned (.tuple #[]) ∧ w'.ownsRow w0.heap.size 22 1 v l.length ((sort2 l).map encU) ∧ Below w0.heap.size w0 w' := by
  refine (slices_insertionSortOrdered_uint32.calls 8 (fun _ => True) v l 0 (l.length : Int) (sort2 l) w0 w hB (Kd.R_of_own ho (fun _ _ => trivial)) (ins_f l hl)).mono ?_
  rintro e w' ⟨rfl, hr, hb, _⟩
  have := Kd.own_of_R hr
  rw [sort2_length] at this
  exact ⟨rfl, this, hb⟩

theorem pdq_calls (w0 w : World) (hB : Below w0.heap.size w0 w) (v : Value) (l : List Int) (hl : l.length ≤ 2) (lim : Int) (ho : w.ownsRow w0.heap.size 22 1 v l.length (l.map encU)) :
    Calls Try.prog 24 #[v, .int .i64 0, .int .i64 (l.length : Int), .int .i64 lim] w fun e w' => e = .returned (.tuple #[]) ∧ w'.ownsRow w0.heap.size 22 1 v l.length ((sort2 l).map encU) ∧ Below w0.heap.size w0 w' := by
  have hi := ins_calls w0 w hB v l hl ho
  have h12 : (l.length : Int) ≤ 12 := by omega
  clear ho hB
  go_enter Try.func24, Try.ntmps24
  go_wp2
  refine wp_loop_rounds 1 ?_
  rw [rounds_succ]
  go_wp2_with (go_at_call 26; refine hi.mono ?_; rintro e w' ⟨rfl, hr, hb⟩)
  refine bodyPost_ret (results_none rfl _ _ _) rfl ?_
  exact ⟨rfl, hr, hb⟩

theorem sort_calls (w0 w : World) (hB : Below w0.heap.size w0 w) (v : Value) (l : List Int) (hl : l.length ≤ 2) (ho : w.ownsRow w0.heap.size 22 1 v l.length (l.map encU)) :
    Calls Try.prog 21 #[v] w fun e w' => e = .returned (.tuple #[]) ∧ w'.ownsRow w0.heap.size 22 1 v l.length ((sort2 l).map encU) ∧ Below w0.heap.size w0 w' := by
  obtain ⟨A, c, rfl⟩ := own_slice ho
  have hp := fun lim => pdq_calls w0 w hB _ l hl lim ho
  have hlen := fun W => len_calls (l.length : Int) (by omega) W
  have hu : IntKind.u64.wrap (l.length : Int) = (l.length : Int) := by simp [IntKind.wrap, IntKind.bits, IntKind.signed]; omega
  clear ho hB
  go_enter Try.func21, Try.ntmps21
  go_wp2_with (first | (go_at_call 25; refine (hlen _).mono ?_; rintro e w1 ⟨⟨r, rfl⟩, rfl⟩) | (go_at_call 24; refine (hp _).mono ?_; rintro e w' ⟨rfl, hr, hb⟩))
  go_end0
  exact ⟨rfl, hr, hb⟩

/-- slices.Sorted(maps.Keys(m)) of a map of at most two entries. -/
theorem sorted_keys (mb nn : Nat) (D : DataW Unit) (hD : Maps.size D ≤ 2) (w : World) (hown : w.ownsMap Try.prog 22 ptrElem mb nn D) :
    Calls Try.prog 18 #[.func (.func 22) #[] #[.pointer (some ⟨w.heap.size, 0, none⟩)]] (w.alloc (.cells #[.map (some mb)] 48)) fun e w' => ∃ (v : Value) (ss : List Int), e = .returned v ∧ AllKeys D ss ∧ ss.length ≤ 2 ∧ w'.ownsRow w.heap.size 22 1 v ss.length ((sort2 ss).map encU) ∧ Below w.heap.size w w' := by
  have hseq := keys_seq 3 (by omega) w.heap.size mb nn D (w.alloc (.cells #[.map (some mb)] 48)) (by simp) (by have := blk_cell (blk_new w (.cells #[.map (some mb)] 48)) 0; exact this) (hown.alloc _)
  have hcol := (callsIn_wide (n := 5)).1 (collect_in 5 (by omega) _ D (by omega) _ hseq)
  rw [World.size_alloc] at hcol
  have hB0 : Below w.heap.size w (w.alloc (.cells #[.map (some mb)] 48)) := (Below.refl _ w).alloc (Nat.le_refl _) _
  generalize w.alloc (.cells #[.map (some mb)] 48) = w1 at hcol hB0 ⊢
  clear hseq hown
  go_enter Try.func18, Try.ntmps18
  go_wp2_with (first | (go_at_call 20; refine hcol.mono ?_; rintro e w2 ⟨v, ss, rfl, hS, hrow, hb⟩; have hs2 : ss.length ≤ 2 := Nat.le_trans hS.2.2 hD; have hB2 : Below w.heap.size w w2 := hB0.trans (hb.mono (by omega)); have hsort := sort_calls w w2 hB2 v ss hs2 (own_less hrow (by omega))) | (go_at_call 21; refine hsort.mono ?_; rintro e w3 ⟨rfl, hr3, hb3⟩))
  go_ret
  exact ⟨v, ss, rfl, hS, hs2, hr3, hb3⟩
end Go.Proofs.Ytimkdghmiccilaa.H
