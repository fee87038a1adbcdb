/- join: the walk of Table.Tick where every entry has waited too long. Conditions: sizes. -/
import Derived.Test.YtlhfkkionaemhaaHJoinIn2
import Derived.Lib.SliceRun
namespace Go.Proofs.Ytlhfkkionaemhaa.H
set_option linter.unusedSimpArgs false
set_option linter.unusedVariables false
open Go Go.RowKit Go.Maps Go.Proofs.YtlhfkkionaemhaaW.PrintWords Go.Proofs.YtlhfkkionaemhaaW.PrintLast Go.Proofs.YtlhfkkionaemhaaW.PrintMore Go.Proofs.Ytlhfkkionaemhaa.Plain

theorem late_cells {w : World} {x : Nat} {a0 a1 a2 a3 a4 a5 : Int} {a6 a7 : Bool} {a8 : ByteArray} {b : Int} {f0 f1 f2 f3 f4 f5 : Int} {f6 f7 : Bool} {f8 : ByteArray} {h : Bool} {pv : Value} {m n : Int} {t : TypeId} (hx : w.heap[x]? = some (.cells #[.int .u32 a0, .int .u32 a1, .int .i64 a2, .int .i64 a3, .int .i64 a4, .int .i64 a5, .bool a6, .bool a7, .string a8, .int .i64 b, .int .u32 f0, .int .u32 f1, .int .i64 f2, .int .i64 f3, .int .i64 f4, .int .i64 f5, .bool f6, .bool f7, .string f8, .bool h, pv, .int .i64 m, .int .i64 n] t (0, 0))) :
    w.cell? ⟨x, 9, none⟩ = some (.int .i64 b) ∧ w.cell? ⟨x, 10, none⟩ = some (.int .u32 f0) ∧ w.cell? ⟨x, 11, none⟩ = some (.int .u32 f1) ∧ w.cell? ⟨x, 12, none⟩ = some (.int .i64 f2) ∧ w.cell? ⟨x, 13, none⟩ = some (.int .i64 f3) ∧ w.cell? ⟨x, 14, none⟩ = some (.int .i64 f4) ∧ w.cell? ⟨x, 15, none⟩ = some (.int .i64 f5) ∧ w.cell? ⟨x, 16, none⟩ = some (.bool f6) ∧ w.cell? ⟨x, 17, none⟩ = some (.bool f7) ∧ w.cell? ⟨x, 18, none⟩ = some (.string f8) ∧ w.cell? ⟨x, 19, none⟩ = some (.bool h) :=
  ⟨(blk_cell hx 9).trans rfl, (blk_cell hx 10).trans rfl, (blk_cell hx 11).trans rfl, (blk_cell hx 12).trans rfl, (blk_cell hx 13).trans rfl, (blk_cell hx 14).trans rfl, (blk_cell hx 15).trans rfl, (blk_cell hx 16).trans rfl, (blk_cell hx 17).trans rfl, (blk_cell hx 18).trans rfl, (blk_cell hx 19).trans rfl⟩
theorem info32 : (Try.prog.info? 32).map (fun i => (i.zero, i.size, i.bytes)) = some (some (.agg #[.int .u32 0, .int .u32 0, .int .i64 0, .int .i64 0, .int .i64 0, .int .i64 0, .bool false, .bool false, .string ⟨#[]⟩]), 9, 64) := by kernel_rfl
theorem size1_22 : (Try.prog.info? 22).map (·.size) = some 1 := by kernel_rfl

/-- While Tick looks at the entries: the time, the table's pointer, what was given up so far. -/
structure TickAt (w : World) (B C g bn bt bo : Nat) (room age now : Int) (lv : Value) (xs : List Nat) (E : List Ent) (ov : Value) (n : Nat) : Prop where
  tab : TabAt w B g room age now lv xs E
  hn : w.heap[bn]? = some (.cells #[.int .i64 now] 3 (0, 0))
  ht : w.heap[bt]? = some (.cells #[.pointer (some ⟨g, 0, none⟩)] 25 (0, 0))
  ho : w.heap[bo]? = some (.cells #[ov] 22 (0, 0))
  hC : B ≤ C ∧ C ≤ bn ∧ C ≤ bt ∧ C ≤ bo
  hCw : C ≤ w.heap.size
  own : ∃ ys, w.ownsRow C 32 9 ov n ys
theorem TickAt.below {w w1 : World} {B C g bn bt bo n : Nat} {room age now : Int} {lv ov : Value} {xs : List Nat} {E : List Ent} (h : TickAt w B C g bn bt bo room age now lv xs E ov n) (hb : Below w.heap.size w w1) : TickAt w1 B C g bn bt bo room age now lv xs E ov n := by
  obtain ⟨ys, hy⟩ := h.own
  exact ⟨h.tab.below hb, blk_below h.hn hb, blk_below h.ht hb, blk_below h.ho hb, h.hC, by have := h.hCw; have := hb.size; omega, ys, own_move hy (fun k hk => hb.block k (own_lt hy k hk))⟩
/-- A packet is appended to what was given up. -/
theorem TickAt.snoc {w7 w9 w10 : World} {B C g bn bt bo n : Nat} {room age now : Int} {lv ov v9 : Value} {xs : List Nat} {E : List Ent} {ys : List Value} (h : TickAt w7 B C g bn bt bo room age now lv xs E ov n) (hown : ∃ zs, w7.ownsRow C 32 9 ov n zs)
    (hown9 : w9.ownsRow C 32 9 v9 (n + 1) ys) (hg9 : w7.grownBy w9 ov.ownBlock) (hx10 : w10.heap[bo]? = some (.cells #[v9] 22 (0, 0))) (hg10 : w9.grownBy w10 (some bo)) : TickAt w10 B C g bn bt bo room age now lv xs E v9 (n + 1) := by
  obtain ⟨zs, hown⟩ := hown
  have hbo := blk_grown h.ho hg9 (own_ne hown h.ho (by decide))
  have keep : ∀ {k : Nat} {cs : Array Value} {t : TypeId}, w7.heap[k]? = some (.cells cs t (0, 0)) → 32 ≠ t → t ≠ 22 → w10.heap[k]? = some (.cells cs t (0, 0)) := fun {k cs t} hk h1 h2 => by
    have hk9 := blk_grown hk hg9 (own_ne hown hk h1)
    exact blk_grown hk9 hg10 (fun e => blk_ne hk9 hbo h2 (Option.some.inj e))
  have ko : ∀ {m : Nat} {base : Nat} {e : TypeId} {size : Nat} {v : Value} {zs : List Value}, w7.ownsRow base e size v m zs → e ≠ 32 → e ≠ 22 → w10.ownsRow base e size v m zs := fun {m base e size v zs} hz h1 h2 => by
    refine (own_move hz (w1 := w9) (fun k hk => hg9.block k (own_lt hz k hk) ?_)).kept hg10 (.inr ?_)
    · intro he
      obtain ⟨c1, hc1⟩ := own_typed hz k hk
      obtain ⟨c2, hc2⟩ := own_typed hown k he.symm
      rw [hc1] at hc2
      simp only [Option.some.injEq, Obj.cells.injEq] at hc2
      exact h1 hc2.2.1
    · intro he
      obtain ⟨c1, hc1⟩ := own_typed hz bo he
      rw [h.ho] at hc1
      simp only [Option.some.injEq, Obj.cells.injEq] at hc1
      exact h2 hc1.2.1.symm
  have hent : ∀ x e, EntAt w7 B x e → EntAt w10 B x e := fun x e hx => by
    obtain ⟨h1, pv, h2, h3⟩ := hx
    exact ⟨h1, pv, keep h2 (by decide) (by decide), ko h3 (by decide) (by decide)⟩
  refine ⟨⟨h.tab.hB, by have := h.tab.hBw; have := hg9.size; have := hg10.size; omega, keep h.tab.blk (by decide) (by decide), ko h.tab.row (by decide) (by decide), ⟨h.tab.ents.1, fun i hi hi2 => hent _ _ (h.tab.ents.2 i hi hi2)⟩, h.tab.nodup⟩, keep h.hn (by decide) (by decide), keep h.ht (by decide) (by decide), hx10, h.hC, by have := h.hCw; have := hg9.size; have := hg10.size; omega, ys, ?_⟩
  exact hown9.kept hg10 (.inr (fun e => own_ne hown9 hbo (by decide) e.symm))

set_option maxHeartbeats 8000000 in
set_option maxRecDepth 100000 in
/-- The closure of Tick at an entry that has waited too long. -/
theorem tickf_calls (B C g bn bt bo n : Nat) (room age now : Int) (lv ov : Value) (xs : List Nat) (E : List Ent) (i : Nat) (hi : i < xs.length) (hi2 : i < E.length) (hb : 0 ≤ E[i].begun ∧ E[i].begun ≤ 1000000000) (hnow : 0 ≤ now ∧ now ≤ 1000000000) (hlate : age ≤ now - E[i].begun) (hn : n ≤ 1000) (w : World) (hS : TickAt w B C g bn bt bo room age now lv xs E ov n) :
    Calls Try.prog 30 #[.pointer (some ⟨xs[i], 0, none⟩), .pointer (some ⟨bn, 0, none⟩), .pointer (some ⟨bt, 0, none⟩), .pointer (some ⟨bo, 0, none⟩)] w fun e w' =>
      e = .returned (.bool true) ∧ ∃ ov' n', n' ≤ n + 1 ∧ TickAt w' B C g bn bt bo room age now lv xs E ov' n' ∧ Below C w w' := by
  have hEi := hS.tab.ents.2 i hi hi2
  have hxlt := blk_lt hEi.2.choose_spec.1
  obtain ⟨_, pv, hx, _⟩ := hEi
  generalize hxe : xs[i] = x at hx
  have HX := Lib.hid hxe
  clear hxe
  generalize hEe : E[i] = e at hx hb hlate
  have HE := Lib.hid hEe
  clear hEe
  obtain ⟨src, dst, proto, id, begun, ⟨f0, f1, f2, f3, f4, f5, f6, f7, f8⟩, has, ps, most, end_⟩ := e
  simp only at hx hb hlate
  obtain ⟨hc9, hc10, hc11, hc12, hc13, hc14, hc15, hc16, hc17, hc18, hc19⟩ := late_cells hx
  have hcn : w.cell? ⟨bn, 0, none⟩ = some (.int .i64 now) := (blk_cell hS.hn 0).trans rfl
  have hct : w.cell? ⟨bt, 0, none⟩ = some (.pointer (some ⟨g, 0, none⟩)) := (blk_cell hS.ht 0).trans rfl
  have hca : w.cell? ⟨g, 1, none⟩ = some (.int .i64 age) := (blk_cell hS.tab.blk 1).trans rfl
  have hCw0 := hS.hCw
  have hCb := hS.hC.2.2.2
  have hl1 := blk_lt hS.hn
  have hl2 := blk_lt hS.ht
  have hl3 := blk_lt hS.tab.blk
  have hl4 := blk_lt hx
  have e4 : IntKind.i64.wrap (now - begun) = now - begun := IntWalk.i64_in _ (by omega)
  have hq : decide (age ≤ now - begun) = true := decide_eq_true hlate
  go_enter Try.func30, Try.ntmps30
  go_wp2
  go_quiet (fail)
  have hS2 := hS.below (w1 := w.drewN nq) (pw_below_drewN (Below.refl _ _) nq)
  have hx2 := blk_drewN hx nq
  have hbl : Below C w (w.drewN nq) := pw_below_drewN (Below.refl _ _) nq
  clear hc9 hc10 hc11 hc12 hc13 hc14 hc15 hc16 hc17 hc18 hc19 hcn hct hca hl1 hl2 hl3 hl4 hx hS
  generalize w.drewN nq = W2 at hS2 hx2 hbl ⊢
  obtain ⟨hc9, hc10, hc11, hc12, hc13, hc14, hc15, hc16, hc17, hc18, hc19⟩ := late_cells hx2
  cases has
  · go_wp2
    go_ret
    exact ⟨rfl, ov, n, Nat.le_succ _, hS2, hbl⟩
  · clear hc9 hc10 hc11 hc12 hc13 hc14 hc15 hc16 hc17 hc18
    go_wp2
    obtain ⟨ys, hown⟩ := hS2.own
    refine start_ (n := 8) (S := fun w' => w'.heap[x]? = some (.cells #[.int .u32 src, .int .u32 dst, .int .i64 proto, .int .i64 0, .int .i64 id, .int .i64 0, .bool false, .bool false, .string ⟨#[]⟩, .int .i64 begun, .int .u32 f0, .int .u32 f1, .int .i64 f2, .int .i64 f3, .int .i64 f4, .int .i64 f5, .bool f6, .bool f7, .string f8, .bool true, pv, .int .i64 most, .int .i64 end_] 57 (0, 0)) ∧ w'.heap[bo]? = some (.cells #[ov] 22 (0, 0))) (ds := [7]) #[false, false, false, false, false, false, false, false] (by kernel_rfl) rfl rfl ⟨blk_drew hx2, blk_drew hS2.ho⟩ (fun hHeld => ?_)
    have hS3 := hS2.below (Below.refl _ _).drew
    have hown3 : W2.drew.ownsRow C 32 9 ov n ys := hown
    have hbl3 := hbl.drew
    have hz3 := hS3.hCw
    clear hS2 hown hbl hx2 hc19
    generalize W2.drew = W3 at hHeld hS3 hown3 hbl3 hz3 ⊢
    refine take_ (i := 0) (N := some 25) (v := ?_) (a' := ?_) #[true, false, false, false, false, false, false, false] rfl rfl (by kernel_rfl) (fun _ _ _ h => h) (Or.inl ⟨by rfl, ?_⟩) hHeld ?_ ?_
    rotate_left
    · rintro w' ⟨s0, s1⟩
      have k0 : w'.cell? ⟨bo, 0, none⟩ = some ov := (blk_cell s1 0).trans rfl
      go_simp
      with_reducible rfl
    rotate_left
    · simp only [Act.put, List.setIfInBounds_toArray, List.set_cons_zero, List.set_cons_succ, i64_w, i32_w]
      rfl
    refine pure_ (i := 1) (N := some 26) (v := ?_) (a' := ?_) #[true, true, false, false, false, false, false, false] rfl rfl (by kernel_rfl) (fun _ _ _ h => h) (Or.inl ⟨by rfl, ?_⟩) ?_ ?_
    rotate_left
    · intro w'
      go_simp
      with_reducible rfl
    rotate_left
    · simp only [Act.put, List.setIfInBounds_toArray, List.set_cons_zero, List.set_cons_succ, i64_w, i32_w]
      rfl
    refine pure_ (i := 2) (N := some 27) (v := ?_) (a' := ?_) #[true, true, true, false, false, false, false, false] rfl rfl (by kernel_rfl) (fun _ _ _ h => h) (Or.inl ⟨by rfl, ?_⟩) ?_ ?_
    rotate_left
    · intro w'
      go_simp
      with_reducible rfl
    rotate_left
    · simp only [Act.put, List.setIfInBounds_toArray, List.set_cons_zero, List.set_cons_succ, i64_w, i32_w]
      rfl
    refine pure_ (i := 3) (N := some 28) (v := ?_) (a' := ?_) #[true, true, true, true, false, false, false, false] rfl rfl (by kernel_rfl) (fun _ _ _ h => h) (Or.inl ⟨by rfl, ?_⟩) ?_ ?_
    rotate_left
    · intro w'
      go_simp
      with_reducible rfl
    rotate_left
    · simp only [Act.put, List.setIfInBounds_toArray, List.set_cons_zero, List.set_cons_succ, i64_w, i32_w]
      rfl
    refine take_ (i := 4) (N := some 29) (v := ?_) (a' := ?_) #[true, true, true, true, true, false, false, false] rfl rfl (by kernel_rfl) (fun _ _ _ h => h) (Or.inl ⟨by rfl, ?_⟩) hHeld ?_ ?_
    rotate_left
    · rintro w' ⟨s0, s1⟩
      obtain ⟨q9, q10, q11, q12, q13, q14, q15, q16, q17, q18, q19⟩ := late_cells s0
      go_simp
      with_reducible rfl
    rotate_left
    · simp only [Act.put, List.setIfInBounds_toArray, List.set_cons_zero, List.set_cons_succ, i64_w, i32_w]
      rfl
    refine one_ (i := 5) (N := some 30) #[true, true, true, true, true, true, false, false] rfl rfl (by kernel_rfl) (by decide) (fun K hK => ?_)
    refine value_ (by rfl) rfl (v := .slice (some ⟨W3.heap.size, 0, none⟩) 1 1) (w1 := W3.alloc (.cells #[.int .u32 f0, .int .u32 f1, .int .i64 f2, .int .i64 f3, .int .i64 f4, .int .i64 f5, .bool f6, .bool f7, .string f8] 32 (0, 0))) (by go_simp) ?_
    refine hK.out _ _ ⟨blk_alloc hHeld.1 _, blk_alloc hHeld.2 _⟩ (fun hHeld2 => ?_)
    clear hK K hHeld2
    refine norm_ (a' := ?_) ?_ ?_
    rotate_left
    · show Act.put _ (some 30) _ = _
      simp only [Act.put, List.setIfInBounds_toArray, List.set_cons_zero, List.set_cons_succ, i64_w, i32_w]
      rfl
    refine one_ (i := 6) (N := some 31) #[true, true, true, true, true, true, true, false] rfl rfl (by kernel_rfl) (by decide) (fun K hK => ?_)
    refine step_append_cells (w0 := W3) C (by rfl) (.tmp 25) (.tmp 30) 22 32 (.agg #[.int .u32 0, .int .u32 0, .int .i64 0, .int .i64 0, .int .i64 0, .int .i64 0, .bool false, .bool false, .string ⟨#[]⟩]) 9 64 rfl Try.underlying22 info32 rfl (by decide) (by decide) ov n ys [.int .u32 f0, .int .u32 f1, .int .i64 f2, .int .i64 f3, .int .i64 f4, .int .i64 f5, .bool f6, .bool f7, .string f8] rfl rfl rfl (by intro u hu; simp only [List.mem_cons, List.not_mem_nil, or_false] at hu; rcases hu with rfl | rfl | rfl | rfl | rfl | rfl | rfl | rfl | rfl <;> rfl) hown3 ((Below.refl _ _).mono hz3) hz3 (by omega) ?_
    intro v9 w9 hown9 _ hg9 hat9
    have hb9 := blk_grown hHeld.2 hg9 (own_ne hown3 hHeld.2 (by decide))
    have hx9 := blk_grown hHeld.1 hg9 (own_ne hown3 hHeld.1 (by decide))
    have hbl9 := hbl3.grown hg9 hz3 (fun k hk => ownBlock_le hown3 hk)
    obtain ⟨A9, c9, rfl⟩ := own_slice hown9
    refine hK.out _ _ ⟨hx9, hb9⟩ (fun hHeld2 => ?_)
    clear hK K hHeld2
    refine norm_ (a' := ?_) ?_ ?_
    rotate_left
    · show Act.put _ (some 31) _ = _
      simp only [Act.put, List.setIfInBounds_toArray, List.set_cons_zero, List.set_cons_succ, i64_w, i32_w]
      rfl
    refine last_ (i := 7) (N := none) #[true, true, true, true, true, true, true, true] rfl rfl (by kernel_rfl) (by decide) (fun K hK => ?_)
    refine part_step (by rfl) 22 (.tmp 3) (.tmp 31) rfl (.slice A9 (n + 1) c9) #[.slice A9 (n + 1) c9] rfl rfl rfl hb9 size1_22 rfl (one_sl _ _ _) #[.slice A9 (n + 1) c9] rfl ?_
    intro w10 hx10 hg10
    have hS10 := hS3.snoc ⟨ys, hown3⟩ hown9 hg9 hx10 hg10
    have hbl10 := hbl9.grown hg10 (by have := hbl9.size; omega) (fun k hk => by have := Option.some.inj hk; omega)
    refine hK.out _ _ ?_
    clear hK K
    refine norm_ (a' := ?_) ?_ ?_
    rotate_left
    · show Act.put _ (none) _ = _
      simp only [Act.put, List.setIfInBounds_toArray, List.set_cons_zero, List.set_cons_succ, i64_w, i32_w]
      rfl
    refine done_ (by kernel_rfl) ?_
    go_wp2
    go_ret
    exact ⟨rfl, _, n + 1, Nat.le_refl _, hS10, hbl10⟩

set_option maxHeartbeats 8000000 in
set_option maxRecDepth 100000 in
/-- slices.IndexFunc with the closure of Tick where all have waited too long: the first entry. -/
theorem index_tick (B C g bn bt bo n : Nat) (room age now : Int) (lv ov : Value) (xs : List Nat) (E : List Ent) (hx0 : 0 < xs.length) (hxl : xs.length ≤ 64) (hlate : ∀ e ∈ E, 0 ≤ e.begun ∧ e.begun ≤ 1000000000 ∧ age ≤ now - e.begun) (hnow : 0 ≤ now ∧ now ≤ 1000000000) (hn : n ≤ 1000) (w : World) (hS : TickAt w B C g bn bt bo room age now lv xs E ov n) :
    Calls Try.prog 22 #[lv, .func (.func 30) #[] #[.pointer (some ⟨bn, 0, none⟩), .pointer (some ⟨bt, 0, none⟩), .pointer (some ⟨bo, 0, none⟩)]] w fun e w' => e = .returned (.int .i64 0) ∧ ∃ ov' n', n' ≤ n + 1 ∧ TickAt w' B C g bn bt bo room age now lv xs E ov' n' ∧ Below C w w' := by
  have hE0 : 0 < E.length := by rw [← hS.tab.ents.1]; exact hx0
  obtain ⟨gr, c0, rfl, _, hgrl, hrd⟩ := ptr_read hS.tab.row hx0
  have hr1 : w.cell? ⟨gr, 0, none⟩ = some (.pointer (some ⟨xs[0], 0, none⟩)) := hrd 0 hx0
  have hl0 := hlate _ (List.getElem_mem hE0)
  have hin := tickf_calls B C g bn bt bo n room age now _ ov xs E 0 hx0 hE0 ⟨hl0.1, hl0.2.1⟩ hnow hl0.2.2 hn w hS
  clear hrd hlate hl0
  have hxz : 0 < (xs.length : Int) := by omega
  generalize xs[0] = x at hr1 hin
  go_enter Try.func22, Try.ntmps22
  go_wp2
  refine wp_loop_rounds 1 ?_
  rw [rounds_succ]
  go_wp2_with (go_at_call 30; refine hin.mono ?_; rintro e w2 ⟨rfl, ov2, n2, hn2, hS2, hb2⟩)
  go_ret
  exact ⟨rfl, ov2, n2, hn2, hS2, hb2⟩

set_option maxHeartbeats 8000000 in
set_option maxRecDepth 100000 in
theorem index_tick0 (bn bt bo : Nat) (A0 : Option Addr) (c0 : Nat) (w : World) :
    Calls Try.prog 22 #[.slice A0 0 c0, .func (.func 30) #[] #[.pointer (some ⟨bn, 0, none⟩), .pointer (some ⟨bt, 0, none⟩), .pointer (some ⟨bo, 0, none⟩)]] w fun e w' => e = .returned (.int .i64 (-1)) ∧ w = w' := by
  go_enter Try.func22, Try.ntmps22
  go_wp2
  refine wp_loop_rounds 1 ?_
  rw [rounds_succ]
  go_wp2
  go_ret
  exact ⟨rfl, rfl⟩
/-- Behind the striking: the table's block, what was given up. -/
structure Struck (w : World) (B C g bt bo : Nat) (room age now : Int) (lv : Value) (m : Nat) : Prop where
  blk : TabBlk w g room age now lv
  ht : w.heap[bt]? = some (.cells #[.pointer (some ⟨g, 0, none⟩)] 25 (0, 0))
  out : ∃ A n c, n ≤ m ∧ w.heap[bo]? = some (.cells #[.slice A n c] 22 (0, 0))
theorem TickAt.struck {w : World} {B C g bn bt bo n m : Nat} {room age now : Int} {lv ov : Value} {xs : List Nat} {E : List Ent} (h : TickAt w B C g bn bt bo room age now lv xs E ov n) (hm : n ≤ m) : Struck w B C g bt bo room age now lv m := by
  obtain ⟨ys, hy⟩ := h.own
  obtain ⟨A, c, rfl⟩ := own_slice hy
  exact ⟨h.tab.blk, h.ht, A, n, c, hm, h.ho⟩
theorem Struck.far {w : World} {B C g bt bo m gr : Nat} {room age now : Int} {lv : Value} {cs : Array Value} (h : Struck w B C g bt bo room age now lv m) (hr : w.heap[gr]? = some (.cells cs 54 (0, 0))) (l : List Value) : Struck (w.setCells gr 0 l) B C g bt bo room age now lv m := by
  have keep : ∀ {k : Nat} {c2 : Array Value} {t : TypeId}, w.heap[k]? = some (.cells c2 t (0, 0)) → t ≠ 54 → (w.setCells gr 0 l).heap[k]? = some (.cells c2 t (0, 0)) := fun {k c2 t} hk ht => by
    rw [setCells_far _ _ k (fun e => by have e2 : k = gr := e; subst e2; rw [hr] at hk; simp only [Option.some.injEq, Obj.cells.injEq] at hk; exact ht hk.2.1.symm)]
    exact hk
  obtain ⟨A, n, c, hn, ho⟩ := h.out
  exact ⟨keep h.blk (by decide), keep h.ht (by decide), A, n, c, hn, keep ho (by decide)⟩

set_option maxHeartbeats 8000000 in
set_option maxRecDepth 100000 in
/-- slices.DeleteFunc with the closure of Tick where all have waited too long: nothing is left. -/
theorem delf_tick (B C g bn bt bo : Nat) (room age now : Int) (lv ov : Value) (xs : List Nat) (E : List Ent) (hxl : xs.length ≤ 64) (hlate : ∀ e ∈ E, 0 ≤ e.begun ∧ e.begun ≤ 1000000000 ∧ age ≤ now - e.begun) (hnow : 0 ≤ now ∧ now ≤ 1000000000) (w : World) (hS : TickAt w B C g bn bt bo room age now lv xs E ov 0) :
    Calls Try.prog 29 #[lv, .func (.func 30) #[] #[.pointer (some ⟨bn, 0, none⟩), .pointer (some ⟨bt, 0, none⟩), .pointer (some ⟨bo, 0, none⟩)]] w fun e w' => (∃ A c, e = .returned (.slice A 0 c)) ∧ Struck w' B C g bt bo room age now lv xs.length ∧ Below B w w' := by
  by_cases hx0 : xs.length = 0
  · obtain ⟨A0, c0, rfl⟩ := own_slice hS.tab.row
    have hst := hS.struck (Nat.zero_le xs.length)
    rw [hx0] at hst ⊢
    have hix := index_tick0 bn bt bo A0 c0 w
    clear hS
    go_enter Try.func29, Try.ntmps29
    go_wp2_with (go_at_call 22; refine hix.mono ?_; rintro e w2 ⟨rfl, rfl⟩)
    go_ret
    exact ⟨⟨A0, c0, rfl⟩, hst, Below.refl _ _⟩
  · have hx1 : 0 < xs.length := by omega
    have hB0 := hS.hC.1
    have hlen := hS.tab.ents.1
    have hix := index_tick B C g bn bt bo 0 room age now lv ov xs E hx1 hxl hlate hnow (by omega) w hS
    obtain ⟨gr, c0, rfl, hgrB, hgrl, hrd0⟩ := ptr_read hS.tab.row hx1
    have HL := Lib.hid hlen
    have HA := Lib.hid hlate
    clear hrd0 hlen hlate hS
    go_enter Try.func29, Try.ntmps29
    go_wp2_with (go_at_call 22; refine hix.mono ?_; rintro e w2 ⟨rfl, ov2, n2, hn2, hS2, hb2⟩)
    go_loopw [5, 6, 7] (fun s5 s6 _ wr => s5 = .int .i64 0 ∧ ∃ (j n : Nat) (o : Value), 1 ≤ j ∧ j ≤ xs.length ∧ s6 = .int .i64 j ∧ n ≤ j ∧ TickAt wr B C g bn bt bo room age now (.slice (some ⟨gr, 0, none⟩) xs.length c0) xs E o n ∧ Below C w wr) (fun _ j _ _ => xs.length - (intOf j).toNat)
    case atStart => exact ⟨rfl, 1, n2, ov2, Nat.le_refl _, by omega, by go_num, by omega, hS2, hb2⟩
    case round =>
      clear hS2 hb2 hix
      obtain ⟨rfl, j, n, o, hj1, hj, rfl, hnj, hSr, hbr⟩ := hrel
      by_cases hlt : j < xs.length
      · obtain ⟨gr2, c2, hv, _, hgrl2, hrd⟩ := ptr_read hSr.tab.row hx1
        obtain ⟨rfl, rfl⟩ : gr = gr2 ∧ c0 = c2 := by simpa using hv
        have hr1 : wr.cell? ⟨gr, j, none⟩ = some (.pointer (some ⟨xs[j], 0, none⟩)) := hrd j hlt
        have hjE : j < E.length := by have := HL.out; omega
        have hl0 := HA.out _ (List.getElem_mem hjE)
        have hin := tickf_calls B C g bn bt bo n room age now _ o xs E j hlt hjE ⟨hl0.1, hl0.2.1⟩ hnow hl0.2.2 (by omega) wr hSr
        have hjz : (j : Int) < (xs.length : Int) := by omega
        clear hrd hv hl0 hSr
        generalize xs[j] = x at hr1 hin
        go_wp2_with (go_at_call 30; refine hin.mono ?_; rintro e w2 ⟨rfl, ov2, n2, hn2, hS2, hb2⟩)
        go_roundw
        case rel => exact ⟨rfl, j + 1, n2, ov2, by omega, by omega, by go_num, by omega, hS2, hbr.trans hb2⟩
        case measure => simp [intOf]; omega
      · obtain rfl : j = xs.length := by omega
        obtain ⟨cs, hcs⟩ := own_typed hSr.tab.row gr rfl
        have hst := hSr.struck hnj
        have hst2 := hst.far hcs (List.replicate xs.length (.pointer none))
        have hCr := hSr.hCw
        have hbB : Below B w (wr.setCells gr 0 (List.replicate xs.length (.pointer none))) := by
          have h0 : Below B w wr := hbr.mono hB0
          obtain ⟨s1, s2, s3, s4⟩ := setCells_same gr (List.replicate xs.length (Value.pointer none)) 0 wr
          exact h0.trans ⟨s1, s2, s3, by rw [s4]; exact Nat.le_refl _, fun k hk => setCells_far _ _ k (fun he => by have : k = gr := he; omega)⟩
        obtain ⟨gr2, c2, hv, _, hgrl2, hrd⟩ := ptr_read hSr.tab.row hx1
        obtain ⟨rfl, rfl⟩ : gr = gr2 ∧ c0 = c2 := by simpa using hv
        have hcl : ∀ ty, (Builtin.clear_ #[48] ty #[.slice (some ⟨gr, 0, none⟩) xs.length c0]).run Try.prog wr = .ok (.tuple #[]) (wr.setCells gr 0 (List.replicate xs.length (.pointer none))) :=
          fun ty => Lib.run_clear_slice wr 48 54 ty (.pointer none) Try.underlying48 (fun w => by kernel_rfl) rfl rfl gr 0 _ _ hx1 (fun t ht => by rw [Nat.zero_add, hrd t ht]; rfl) (fun t ht => blk_frozen hcs _)
        have hltz : ¬ (xs.length : Int) < (xs.length : Int) := by omega
        clear hrd hv hSr hst hcs hbr
        go_wp2
        go_ret
        exact ⟨⟨_, _, rfl⟩, hst2, hbB⟩

set_option maxHeartbeats 8000000 in
set_option maxRecDepth 100000 in
/-- Tick where all have waited too long: the table is empty behind it, and not more was given up than had waited. -/
theorem tick_calls (B g : Nat) (room age tnow now : Int) (lv : Value) (xs : List Nat) (E : List Ent) (hxl : xs.length ≤ 64) (hlate : ∀ e ∈ E, 0 ≤ e.begun ∧ e.begun ≤ 1000000000 ∧ age ≤ now - e.begun) (hnow : 0 ≤ now ∧ now ≤ 1000000000) (hcn : tnow ≤ now) (w : World) (hT : TabAt w B g room age tnow lv xs E) :
    Calls Try.prog 13 #[.pointer (some ⟨g, 0, none⟩), .int .i64 now] w fun e w' => ∃ A n c A2 c2, e = .returned (.tuple #[.slice A n c, .int .i64 0]) ∧ n ≤ xs.length ∧ TabBlk w' g room age now (.slice A2 0 c2) ∧ Below B w w' := by
  have htm := fun W (h : TabBlk W g room age tnow lv) => time_ok room age tnow now lv g hnow hcn W h
  have HA := Lib.hid hlate
  clear hlate
  have hT1 := (hT.alloc (.cells #[.pointer (some ⟨g, 0, none⟩)] 25 (0, 0))).alloc (.cells #[.int .i64 now] 3 (0, 0))
  have ht1 := blk_alloc (blk_new w (.cells #[.pointer (some ⟨g, 0, none⟩)] 25 (0, 0))) (.cells #[.int .i64 now] 3 (0, 0))
  have hn1 := blk_new (w.alloc (.cells #[.pointer (some ⟨g, 0, none⟩)] 25 (0, 0))) (.cells #[.int .i64 now] 3 (0, 0))
  have hb1 : Below w.heap.size w ((w.alloc (.cells #[.pointer (some ⟨g, 0, none⟩)] 25 (0, 0))).alloc (.cells #[.int .i64 now] 3 (0, 0))) := ((Below.refl _ _).alloc (Nat.le_refl _) _).alloc (by simp) _
  have hgw := blk_lt hT.blk
  rw [World.size_alloc] at hn1
  go_enter Try.func13, Try.ntmps13
  go_wp2_with (first | (go_at_call 21; refine (htm _ hT1.blk).mono ?_; rintro e w2 ⟨rfl, rfl⟩) | (refine gate_ (.store 3 (.tmp 17) (.tmp 15)) rfl ?_; refine wpList_store_cell rfl 3 (.tmp 17) (.tmp 15) rfl rfl (.int .i64 now) rfl rfl rfl rfl hT1.blk size1_3 rfl #[.int .i64 room, .int .i64 age, .int .i64 now, lv] rfl ?_))
  intro W2 hx2 hg2
  have hT2 := hT1.now hx2 hg2
  have ht2 := blk_grown ht1 hg2 (fun e => by have := Option.some.inj e; omega)
  have hn2 := blk_grown hn1 hg2 (fun e => by have := Option.some.inj e; omega)
  have hb2 := (hb1.mono hT.hBw).grown hg2 (by have := hT.hBw; simp; omega) (fun k hk => by have := Option.some.inj hk; have := hT.hB; omega)
  have hz2 := hg2.size
  simp only [World.size_alloc] at hz2
  clear htm hT1 ht1 hn1 hb1 hx2 hg2
  go_wp2
  have hS3 : TickAt (W2.alloc (.cells #[.slice none 0 0] 22 (0, 0))) B w.heap.size g (w.heap.size + 1) w.heap.size W2.heap.size room age now lv xs E (.slice none 0 0) 0 :=
    ⟨hT2.alloc _, blk_alloc hn2 _, blk_alloc ht2 _, blk_new W2 _, ⟨hT.hBw, by omega, Nat.le_refl _, by omega⟩, by simp; omega, [], own_nil _ _ _ _⟩
  have hb3 := hb2.alloc (by have := hT.hBw; omega) (.cells #[.slice none 0 0] 22 (0, 0))
  clear hT2 ht2 hn2 hb2
  generalize W2.alloc (.cells #[.slice none 0 0] 22 (0, 0)) = W3 at hS3 hb3 ⊢

  refine start_ (n := 10) (S := fun w' => w'.heap[g]? = some (.cells #[.int .i64 room, .int .i64 age, .int .i64 now, lv] 50 (0, 0)) ∧ w'.heap[w.heap.size]? = some (.cells #[.pointer (some ⟨g, 0, none⟩)] 25 (0, 0))) (ds := [9]) #[false, false, false, false, false, false, false, false, false, false] (by kernel_rfl) rfl rfl ⟨blk_drew hS3.tab.blk, blk_drew hS3.ht⟩ (fun hHeld => ?_)
  have hS4 := hS3.below (Below.refl _ _).drew
  have hb4 := hb3.drew
  clear hS3 hb3
  generalize W3.drew = W4 at hHeld hS4 hb4 ⊢
  refine take_ (i := 0) (N := some 18) (v := ?_) (a' := ?_) #[true, false, false, false, false, false, false, false, false, false] rfl rfl (by kernel_rfl) (fun _ _ _ h => h) (Or.inl ⟨by rfl, ?_⟩) hHeld ?_ ?_
  rotate_left
  · rintro w' ⟨s0, s1⟩
    have k0 : w'.cell? ⟨w.heap.size, 0, none⟩ = some (.pointer (some ⟨g, 0, none⟩)) := (blk_cell s1 0).trans rfl
    go_simp
    with_reducible rfl
  rotate_left
  · simp only [Act.put, List.setIfInBounds_toArray, List.set_cons_zero, List.set_cons_succ, i64_w, i32_w]
    rfl
  refine take_ (i := 1) (N := some 19) (v := ?_) (a' := ?_) #[true, true, false, false, false, false, false, false, false, false] rfl rfl (by kernel_rfl) (fun _ _ _ h => h) (Or.inl ⟨by rfl, ?_⟩) hHeld ?_ ?_
  rotate_left
  · rintro w' ⟨s0, s1⟩
    have k0 : w'.cell? ⟨w.heap.size, 0, none⟩ = some (.pointer (some ⟨g, 0, none⟩)) := (blk_cell s1 0).trans rfl
    go_simp
    with_reducible rfl
  rotate_left
  · simp only [Act.put, List.setIfInBounds_toArray, List.set_cons_zero, List.set_cons_succ, i64_w, i32_w]
    rfl
  refine pure_ (i := 2) (N := some 20) (v := ?_) (a' := ?_) #[true, true, true, false, false, false, false, false, false, false] rfl rfl (by kernel_rfl) (fun _ _ _ h => h) (Or.inl ⟨by rfl, ?_⟩) ?_ ?_
  rotate_left
  · intro w'
    go_simp
    with_reducible rfl
  rotate_left
  · simp only [Act.put, List.setIfInBounds_toArray, List.set_cons_zero, List.set_cons_succ, i64_w, i32_w]
    rfl
  refine pure_ (i := 3) (N := some 21) (v := ?_) (a' := ?_) #[true, true, true, true, false, false, false, false, false, false] rfl rfl (by kernel_rfl) (fun _ _ _ h => h) (Or.inl ⟨by rfl, ?_⟩) ?_ ?_
  rotate_left
  · intro w'
    go_simp
    with_reducible rfl
  rotate_left
  · simp only [Act.put, List.setIfInBounds_toArray, List.set_cons_zero, List.set_cons_succ, i64_w, i32_w]
    rfl
  refine take_ (i := 4) (N := some 22) (v := ?_) (a' := ?_) #[true, true, true, true, true, false, false, false, false, false] rfl rfl (by kernel_rfl) (fun _ _ _ h => h) (Or.inl ⟨by rfl, ?_⟩) hHeld ?_ ?_
  rotate_left
  · rintro w' ⟨s0, s1⟩
    have k3 : w'.cell? ⟨g, 3, none⟩ = some lv := (blk_cell s0 3).trans rfl
    go_simp
    with_reducible rfl
  rotate_left
  · simp only [Act.put, List.setIfInBounds_toArray, List.set_cons_zero, List.set_cons_succ, i64_w, i32_w]
    rfl
  refine pure_ (i := 5) (N := some 23) (v := ?_) (a' := ?_) #[true, true, true, true, true, true, false, false, false, false] rfl rfl (by kernel_rfl) (fun _ _ _ h => h) (Or.inl ⟨by rfl, ?_⟩) ?_ ?_
  rotate_left
  · intro w'
    go_simp
    with_reducible rfl
  rotate_left
  · simp only [Act.put, List.setIfInBounds_toArray, List.set_cons_zero, List.set_cons_succ, i64_w, i32_w]
    rfl
  refine one_ (i := 6) (N := some 24) #[true, true, true, true, true, true, true, false, false, false] rfl rfl (by kernel_rfl) (by decide) (fun K hK => ?_)
  refine call_ 29 #[lv, .func (.func 30) #[] #[.pointer (some ⟨w.heap.size + 1, 0, none⟩), .pointer (some ⟨w.heap.size, 0, none⟩), .pointer (some ⟨W2.heap.size, 0, none⟩)]] (by rfl) rfl (by go_simp) ?_
  refine (delf_tick B w.heap.size g (w.heap.size + 1) w.heap.size W2.heap.size room age now lv (.slice none 0 0) xs E hxl HA.out hnow W4 hS4).mono ?_
  rintro e w5 ⟨⟨A5, c5, rfl⟩, hst5, hb5⟩
  have hb5' := hb4.trans hb5
  refine ⟨_, rfl, hK.out _ _ ⟨hst5.blk, hst5.ht⟩ (fun hHeld2 => ?_)⟩
  clear hK K hb4 hb5 hS4
  refine norm_ (a' := ?_) ?_ ?_
  rotate_left
  · show Act.put _ (some 24) _ = _
    simp only [Act.put, List.setIfInBounds_toArray, List.set_cons_zero, List.set_cons_succ, i64_w, i32_w]
    rfl
  refine pure_ (i := 7) (N := some 25) (v := ?_) (a' := ?_) #[true, true, true, true, true, true, true, true, false, false] rfl rfl (by kernel_rfl) (fun _ _ _ h => h) (Or.inl ⟨by rfl, ?_⟩) ?_ ?_
  rotate_left
  · intro w'
    go_simp
    with_reducible rfl
  rotate_left
  · simp only [Act.put, List.setIfInBounds_toArray, List.set_cons_zero, List.set_cons_succ, i64_w, i32_w]
    rfl
  refine pure_ (i := 8) (N := some 26) (v := ?_) (a' := ?_) #[true, true, true, true, true, true, true, true, true, false] rfl rfl (by kernel_rfl) (fun _ _ _ h => h) (Or.inl ⟨by rfl, ?_⟩) ?_ ?_
  rotate_left
  · intro w'
    go_simp
    with_reducible rfl
  rotate_left
  · simp only [Act.put, List.setIfInBounds_toArray, List.set_cons_zero, List.set_cons_succ, i64_w, i32_w]
    rfl
  refine last_ (i := 9) (N := none) #[true, true, true, true, true, true, true, true, true, true] rfl rfl (by kernel_rfl) (by decide) (fun K hK => ?_)
  refine part_step (by rfl) 48 (.tmp 26) (.tmp 24) rfl (.slice A5 0 c5) #[.slice A5 0 c5] rfl rfl rfl hst5.blk size1_48 rfl (one_sl _ _ _) #[.int .i64 room, .int .i64 age, .int .i64 now, .slice A5 0 c5] rfl ?_
  intro w10 hx10 hg10
  obtain ⟨Ao, no, co, hno, ho5⟩ := hst5.out
  have ho10 := blk_grown ho5 hg10 (fun e => blk_ne hst5.blk ho5 (by decide) (Option.some.inj e).symm)
  have hb10 := hb5'.grown hg10 (by have := hT.hBw; have := hb5'.size; omega) (fun k hk => by have := Option.some.inj hk; have := hT.hB; omega)
  have hco : w10.cell? ⟨W2.heap.size, 0, none⟩ = some (.slice Ao no co) := (blk_cell ho10 0).trans rfl
  have hlo := blk_lt ho10
  refine hK.out _ _ ?_
  clear hK K
  refine norm_ (a' := ?_) ?_ ?_
  rotate_left
  · show Act.put _ (none) _ = _
    simp only [Act.put, List.setIfInBounds_toArray, List.set_cons_zero, List.set_cons_succ, i64_w, i32_w]
    rfl
  refine done_ (by kernel_rfl) ?_
  go_wp2
  refine bodyPost_ret (v := .tuple #[.slice Ao no co, .int .i64 0]) (by simp [results, Try.results13, go_sem]) rfl ⟨Ao, no, co, A5, c5, rfl, hno, hx10, hb10⟩

end Go.Proofs.Ytlhfkkionaemhaa.H
