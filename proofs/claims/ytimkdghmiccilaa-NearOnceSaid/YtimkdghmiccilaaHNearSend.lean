/- Walks of near.Send. (In work.) -/
import Derived.Test.YtimkdghmiccilaaHNear
import Derived.Test.YtimkdghmiccilaaHOnly
import Derived.IntWalk
namespace Go.Proofs.Ytimkdghmiccilaa.H
set_option linter.unusedSimpArgs false
set_option linter.unusedVariables false
open Go Go.RowKit Go.Maps Go.Proofs.YtimkdghmiccilaaW.PrintWords Go.Proofs.YtimkdghmiccilaaW.PrintLast Go.Proofs.YtimkdghmiccilaaW.PrintMore

/-- The Cache's block and its map. -/
def CacheAt (w : World) (g mb n : Nat) (age tries now : Int) (D : DataW Unit) : Prop :=
  w.heap[g]? = some (.cells #[.int .i64 age, .int .i64 tries, .int .i64 now, .map (some mb)] 50 (0, 0)) ∧ w.ownsMap Try.prog 22 ptrElem mb n D
/-- An entry's block and the strings that it holds. -/
def EntAt (w : World) (x : Nat) (hv : Value) (known : Bool) (link until_ : Int) (held : List ByteArray) (asked next : Int) : Prop :=
  w.heap[x]? = some (.cells #[.bool known, .int .i64 link, .int .i64 until_, hv, .int .i64 asked, .int .i64 next] 56 (0, 0)) ∧ w.ownsRow 0 9 1 hv held.length (held.map Value.string)

theorem size3 : (Try.prog.info? 3).map (·.size) = some 1 := by kernel_rfl
theorem size23 : (Try.prog.info? 23).map (·.size) = some 1 := by kernel_rfl
theorem info9 : (Try.prog.info? 9).map (fun i => (i.zero, i.size, i.bytes)) = some (some (.string ⟨#[]⟩), 1, 16) := by kernel_rfl
theorem ptrElem_mk (g : Nat) : ptrElem (.pointer (some ⟨g, 0, none⟩)) = some (.lit (.int .i64 g), []) := rfl

/-- The first string for a neighbour that the empty map does not know. -/
theorem send_first (age tries cnow now a : Int) (s : ByteArray) (mb g n : Nat) (D : DataW Unit) (ha : (Lit.int .u32 a).wf = true) (hs : s.size ≤ 4096) (hn : 0 ≤ now ∧ now ≤ 1000000000) (hc : cnow ≤ now) (hn2 : n < 256) (w : World) (hC : CacheAt w g mb n age tries cnow D)
    (hD : D.atKey (.int .u32 a) (.lit (.int .i64 (-1))) = .lit (.int .i64 (-1))) :
    Calls Try.prog 10 #[.pointer (some ⟨g, 0, none⟩), .int .u32 a, .string s, .int .i64 now] w fun e w' => e = .returned (.tuple #[.int .i64 0, .bool false, .bool true, .int .i64 0]) ∧
      ∃ x hv, w.heap.size ≤ x ∧ (∀ k, hv.ownBlock = some k → w.heap.size ≤ k) ∧ CacheAt w' g mb (n + 1) age tries now (D.put (.int .u32 a) (.lit (.int .i64 x))) ∧ EntAt w' x hv false 0 0 [s] 1 (now + 8) ∧ Only (fun k => k = g ∨ k = mb) w w' := by
  obtain ⟨hx, h⟩ := hC
  have htm := time_ok age tries cnow now mb g hn hc w hx
  have hfr := fresh_none age tries cnow now a mb g n D ha w hx h hD
  have hgm := map_ne h hx
  have hgl := blk_lt hx
  have hml := h.lt
  obtain ⟨i0, hi, hz0, hz1, hz2⟩ := info_parts info9
  go_enter Try.func10, Try.ntmps10
  go_wp2_with (first | (go_at_call 16; refine htm.mono ?_; rintro e w1 ⟨rfl, rfl⟩) | (go_at_call 17; refine hfr.mono ?_; rintro e w2 ⟨rfl, m2, rfl⟩; have hx2 := blk_drewN hx m2; have h2 : (w.drewN m2).ownsMap Try.prog 22 ptrElem mb n D := h; have ho2 : Only (fun k => k = g ∨ k = mb) w (w.drewN m2) := (Only.refl _ w).drewN m2; generalize w.drewN m2 = W2 at hx2 h2 ho2 ⊢; have hc3 : W2.cell? ⟨g, 3, none⟩ = some (.map (some mb)) := (blk_cell hx2 3).trans rfl; have hlen := h2.len Try.underlying48; have hl256 : ((Maps.size D : Int) == 256) = false := beq_eq_false_iff_ne.mpr (by have := h2.size_le; omega)) | (refine gate_ (.store 3 (.tmp 86) (.tmp 84)) rfl ?_; refine wpList_store_cell rfl 3 (.tmp 86) (.tmp 84) rfl rfl (.int .i64 now) rfl rfl rfl rfl hx2 size3 rfl _ rfl ?_))
  clear hfr htm hc3 hlen hl256
  intro W3 hx3 hg3
  have h3 := h2.kept hg3 (fun e => hgm (by cases e; rfl))
  have ho3 := ho2.grown hg3 (fun k hk => .inl (.inl (by cases hk; rfl)))
  clear hg3 h2 hx2 ho2
  have hc3 : W3.cell? ⟨g, 3, none⟩ = some (.map (some mb)) := (blk_cell hx3 3).trans rfl
  have hg3s := blk_lt hx3
  have e8 : IntKind.i64.wrap (now + 8) = now + 8 := IntWalk.i64_in _ (by omega)
  go_wp2_with (at_mapUpdate; refine wpList_mapUpdate_own _ rfl _ _ _ 48 rfl 22 52 law22 Try.underlying48 ptrElem mb n D rfl (h3.alloc _) (by unfold maxLen; omega) _ _ (.int .u32 a) rfl rfl (keyOf_int_mk Try.underlying22 ha) (.lit (.int .i64 W3.heap.size)) [] (ptrElem_mk _) ?_)
  intro W4 h4 hg4
  have hx4 : W4.heap[g]? = some _ := blk_grown (blk_alloc hx3 _) hg4 (fun e => hgm (by cases e; rfl))
  have hy4 := blk_grown (blk_new W3 _) hg4 (fun e => by cases e; have := h3.lt; omega)
  have ho4 := (ho3.alloc (.cells #[.bool false, .int .i64 0, .int .i64 0, .slice none 0 0, .int .i64 1, .int .i64 (now + 8)] 56 (0, 0))).grown hg4 (fun k hk => .inl (.inr (by cases hk; rfl)))
  have hxs := ho3.size
  generalize W3.heap.size = x at h4 hy4 hxs ⊢
  clear hg4 h3 hx3 ho3 hc3 hg3s
  have hy43 : W4.cell? ⟨x, 3, none⟩ = some (.slice none 0 0) := (blk_cell hy4 3).trans rfl
  go_wp2_with (at_builtin; refine wpList_append_own_at _ rfl (.tmp 102) (.tmp 104) 23 rfl W4.heap.size 9 i0 _ 1 16 Try.underlying23 hi hz0 hz1 hz2 rfl (by decide) _ _ _ rfl (own_nil _ _ _ _) ⟨W4.heap.size, 0, none⟩ 1 1 [.string s] rfl rfl (cell_one_new _ _ _) ?c2 ?c3 ?c4 ?c5 ?_)
  case c2 => exact fun u hu => by simp at hu; subst hu; rfl
  case c3 => unfold maxLen; omega
  case c4 => omega
  case c5 => simp
  intro v' W5 hown5 hg5 _ hat5
  have hx5 := blk_grown (blk_alloc hx4 _) hg5 (fun e => by cases e)
  have hy5 := blk_grown (blk_alloc hy4 _) hg5 (fun e => by cases e)
  have h5 := (h4.alloc _).kept hg5 (fun e => by cases e)
  have ho5 := (ho4.alloc (.cells #[.string s] 9 (0, 0))).grown hg5 (fun k hk => by cases hk)
  have hb5 := own_base hown5
  have hz4 := ho4.size
  obtain ⟨A5, c5, rfl⟩ := own_slice hown5
  clear hat5 hg5 hx4 hy4 h4 ho4 hy43
  generalize W4.heap.size = b4 at hown5 hb5 hz4 ⊢
  go_wp2_with (refine gate_ (.store 23 (.tmp 107) (.tmp 105)) rfl ?_; refine wpList_store_cell rfl 23 (.tmp 107) (.tmp 105) rfl rfl (.slice A5 (0 + 1) c5) rfl rfl rfl rfl hy5 size23 rfl _ rfl ?_)
  intro W6 hy6 hg6
  have hx6 := blk_grown hx5 hg6 (fun e => blk_ne hx5 hy5 (by decide) (by cases e; rfl))
  have h6 := h5.kept hg6 (fun e => map_ne h5 hy5 (by cases e; rfl))
  have hown6 := hown5.kept hg6 (.inr (fun e => (own_ne hown5 hy5 (by decide)) e.symm))
  have ho6 := ho5.grown hg6 (fun k hk => .inr (by cases hk; omega))
  clear hg6 h5 hx5 hy5 hown5 ho5
  go_wp2
  refine bodyPost_ret (v := .tuple #[.int .i64 0, .bool false, .bool true, .int .i64 0]) ?_ rfl ⟨rfl, x, _, hxs, ?_, ⟨hx6, h6⟩, ⟨hy6, own_less hown6 (Nat.zero_le _)⟩, ho6⟩
  · simp [results, Try.results10, go_sem]
  · intro k hk
    have := hb5 k hk
    omega
/-- The first string for a neighbour whose link has passed. -/
theorem send_expired (x0 : Nat) (hv0 : Value) (link0 until0 asked0 next0 : Int) (held0 : List ByteArray) (age tries cnow now a : Int) (s : ByteArray) (mb g n : Nat) (D : DataW Unit) (ha : (Lit.int .u32 a).wf = true) (hs : s.size ≤ 4096) (hn : 0 ≤ now ∧ now ≤ 1000000000) (hc : cnow ≤ now) (hn2 : n < 256) (w : World) (hC : CacheAt w g mb n age tries cnow D)
    (hE : EntAt w x0 hv0 true link0 until0 held0 asked0 next0) (hut : until0 ≤ now) (hD : D.atKey (.int .u32 a) (.lit (.int .i64 (-1))) = .lit (.int .i64 x0)) :
    Calls Try.prog 10 #[.pointer (some ⟨g, 0, none⟩), .int .u32 a, .string s, .int .i64 now] w fun e w' => e = .returned (.tuple #[.int .i64 0, .bool false, .bool true, .int .i64 0]) ∧
      ∃ x hv, w.heap.size ≤ x ∧ (∀ k, hv.ownBlock = some k → w.heap.size ≤ k) ∧ CacheAt w' g mb (n + 1) age tries now (D.put (.int .u32 a) (.lit (.int .i64 x))) ∧ EntAt w' x hv false 0 0 [s] 1 (now + 8) ∧ Only (fun k => k = g ∨ k = mb) w w' := by
  obtain ⟨hx, h⟩ := hC
  have htm := time_ok age tries cnow now mb g hn hc w hx
  obtain ⟨hy, _⟩ := hE
  have hfr := fresh_known age tries cnow now a link0 until0 asked0 next0 hv0 mb g n x0 D ha w hx hy h hD
  have hdf : decide (now < until0) = false := decide_eq_false (by omega)
  rw [hdf] at hfr
  have hgm := map_ne h hx
  have hgl := blk_lt hx
  have hml := h.lt
  obtain ⟨i0, hi, hz0, hz1, hz2⟩ := info_parts info9
  go_enter Try.func10, Try.ntmps10
  go_wp2_with (first | (go_at_call 16; refine htm.mono ?_; rintro e w1 ⟨rfl, rfl⟩) | (go_at_call 17; refine hfr.mono ?_; rintro e w2 ⟨rfl, m2, rfl⟩; have hx2 := blk_drewN hx m2; have h2 : (w.drewN m2).ownsMap Try.prog 22 ptrElem mb n D := h; have ho2 : Only (fun k => k = g ∨ k = mb) w (w.drewN m2) := (Only.refl _ w).drewN m2; generalize w.drewN m2 = W2 at hx2 h2 ho2 ⊢; have hc3 : W2.cell? ⟨g, 3, none⟩ = some (.map (some mb)) := (blk_cell hx2 3).trans rfl; have hy2 : W2.cell? ⟨x0, 0, none⟩ = some (.bool true) := (blk_cell (ho2.blk hy (fun e => e.elim (fun e => blk_ne hx hy (by decide) e.symm) (fun e => map_ne h hy e))) 0).trans rfl) | (refine gate_ (.store 3 (.tmp 86) (.tmp 84)) rfl ?_; refine wpList_store_cell rfl 3 (.tmp 86) (.tmp 84) rfl rfl (.int .i64 now) rfl rfl rfl rfl hx2 size3 rfl _ rfl ?_))
  clear hfr htm hc3 hy2 hdf hy
  intro W3 hx3 hg3
  have h3 := h2.kept hg3 (fun e => hgm (by cases e; rfl))
  have ho3 := ho2.grown hg3 (fun k hk => .inl (.inl (by cases hk; rfl)))
  clear hg3 h2 hx2 ho2
  have hc3 : W3.cell? ⟨g, 3, none⟩ = some (.map (some mb)) := (blk_cell hx3 3).trans rfl
  have hg3s := blk_lt hx3
  have e8 : IntKind.i64.wrap (now + 8) = now + 8 := IntWalk.i64_in _ (by omega)
  go_wp2_with (at_mapUpdate; refine wpList_mapUpdate_own _ rfl _ _ _ 48 rfl 22 52 law22 Try.underlying48 ptrElem mb n D rfl (h3.alloc _) (by unfold maxLen; omega) _ _ (.int .u32 a) rfl rfl (keyOf_int_mk Try.underlying22 ha) (.lit (.int .i64 W3.heap.size)) [] (ptrElem_mk _) ?_)
  intro W4 h4 hg4
  have hx4 : W4.heap[g]? = some _ := blk_grown (blk_alloc hx3 _) hg4 (fun e => hgm (by cases e; rfl))
  have hy4 := blk_grown (blk_new W3 _) hg4 (fun e => by cases e; have := h3.lt; omega)
  have ho4 := (ho3.alloc (.cells #[.bool false, .int .i64 0, .int .i64 0, .slice none 0 0, .int .i64 1, .int .i64 (now + 8)] 56 (0, 0))).grown hg4 (fun k hk => .inl (.inr (by cases hk; rfl)))
  have hxs := ho3.size
  generalize W3.heap.size = x at h4 hy4 hxs ⊢
  clear hg4 h3 hx3 ho3 hc3 hg3s
  have hy43 : W4.cell? ⟨x, 3, none⟩ = some (.slice none 0 0) := (blk_cell hy4 3).trans rfl
  go_wp2_with (at_builtin; refine wpList_append_own_at _ rfl (.tmp 102) (.tmp 104) 23 rfl W4.heap.size 9 i0 _ 1 16 Try.underlying23 hi hz0 hz1 hz2 rfl (by decide) _ _ _ rfl (own_nil _ _ _ _) ⟨W4.heap.size, 0, none⟩ 1 1 [.string s] rfl rfl (cell_one_new _ _ _) ?c2 ?c3 ?c4 ?c5 ?_)
  case c2 => exact fun u hu => by simp at hu; subst hu; rfl
  case c3 => unfold maxLen; omega
  case c4 => omega
  case c5 => simp
  intro v' W5 hown5 hg5 _ hat5
  have hx5 := blk_grown (blk_alloc hx4 _) hg5 (fun e => by cases e)
  have hy5 := blk_grown (blk_alloc hy4 _) hg5 (fun e => by cases e)
  have h5 := (h4.alloc _).kept hg5 (fun e => by cases e)
  have ho5 := (ho4.alloc (.cells #[.string s] 9 (0, 0))).grown hg5 (fun k hk => by cases hk)
  have hb5 := own_base hown5
  have hz4 := ho4.size
  obtain ⟨A5, c5, rfl⟩ := own_slice hown5
  clear hat5 hg5 hx4 hy4 h4 ho4 hy43
  generalize W4.heap.size = b4 at hown5 hb5 hz4 ⊢
  go_wp2_with (refine gate_ (.store 23 (.tmp 107) (.tmp 105)) rfl ?_; refine wpList_store_cell rfl 23 (.tmp 107) (.tmp 105) rfl rfl (.slice A5 (0 + 1) c5) rfl rfl rfl rfl hy5 size23 rfl _ rfl ?_)
  intro W6 hy6 hg6
  have hx6 := blk_grown hx5 hg6 (fun e => blk_ne hx5 hy5 (by decide) (by cases e; rfl))
  have h6 := h5.kept hg6 (fun e => map_ne h5 hy5 (by cases e; rfl))
  have hown6 := hown5.kept hg6 (.inr (fun e => (own_ne hown5 hy5 (by decide)) e.symm))
  have ho6 := ho5.grown hg6 (fun k hk => .inr (by cases hk; omega))
  clear hg6 h5 hx5 hy5 hown5 ho5
  go_wp2
  refine bodyPost_ret (v := .tuple #[.int .i64 0, .bool false, .bool true, .int .i64 0]) ?_ rfl ⟨rfl, x, _, hxs, ?_, ⟨hx6, h6⟩, ⟨hy6, own_less hown6 (Nat.zero_le _)⟩, ho6⟩
  · simp [results, Try.results10, go_sem]
  · intro k hk
    have := hb5 k hk
    omega

/-- A string for a neighbour that is known. -/
theorem send_known (x0 : Nat) (hv0 : Value) (link0 until0 asked0 next0 : Int) (held0 : List ByteArray) (age tries cnow now a : Int) (s : ByteArray) (mb g n : Nat) (D : DataW Unit) (ha : (Lit.int .u32 a).wf = true) (hs : s.size ≤ 4096) (hn : 0 ≤ now ∧ now ≤ 1000000000) (hc : cnow ≤ now) (w : World) (hC : CacheAt w g mb n age tries cnow D)
    (hE : EntAt w x0 hv0 true link0 until0 held0 asked0 next0) (hut : now < until0) (hD : D.atKey (.int .u32 a) (.lit (.int .i64 (-1))) = .lit (.int .i64 x0)) :
    Calls Try.prog 10 #[.pointer (some ⟨g, 0, none⟩), .int .u32 a, .string s, .int .i64 now] w fun e w' => e = .returned (.tuple #[.int .i64 link0, .bool true, .bool false, .int .i64 0]) ∧
      CacheAt w' g mb n age tries now D ∧ Only (fun k => k = g) w w' := by
  obtain ⟨hx, h⟩ := hC
  obtain ⟨hy, _⟩ := hE
  have htm := time_ok age tries cnow now mb g hn hc w hx
  have hfr := fresh_known age tries cnow now a link0 until0 asked0 next0 hv0 mb g n x0 D ha w hx hy h hD
  have hdf : decide (now < until0) = true := decide_eq_true hut
  rw [hdf] at hfr
  have hgm := map_ne h hx
  have hgl := blk_lt hx
  have hgx := blk_ne hx hy (by decide)
  go_enter Try.func10, Try.ntmps10
  go_wp2_with (first | (go_at_call 16; refine htm.mono ?_; rintro e w1 ⟨rfl, rfl⟩) | (go_at_call 17; refine hfr.mono ?_; rintro e w2 ⟨rfl, m2, rfl⟩; have hx2 := blk_drewN hx m2; have hy2 := blk_drewN hy m2; have h2 : (w.drewN m2).ownsMap Try.prog 22 ptrElem mb n D := h; have ho2 : Only (fun k => k = g) w (w.drewN m2) := (Only.refl _ w).drewN m2; generalize w.drewN m2 = W2 at hx2 hy2 h2 ho2 ⊢) | (refine gate_ (.store 3 (.tmp 54) (.tmp 52)) rfl ?_; refine wpList_store_cell rfl 3 (.tmp 54) (.tmp 52) rfl rfl (.int .i64 now) rfl rfl rfl rfl hx2 size3 rfl _ rfl ?_))
  clear hfr htm
  intro W3 hx3 hg3
  have h3 := h2.kept hg3 (fun e => hgm (by cases e; rfl))
  have ho3 := ho2.grown hg3 (fun k hk => .inl (by cases hk; rfl))
  have hy3 := blk_grown hy2 hg3 (fun e => hgx (by cases e; rfl))
  clear hg3 h2 hx2 ho2 hy2 hy
  have hy31 : W3.cell? ⟨x0, 1, none⟩ = some (.int .i64 link0) := (blk_cell hy3 1).trans rfl
  go_wp2
  refine bodyPost_ret (v := .tuple #[.int .i64 link0, .bool true, .bool false, .int .i64 0]) ?_ rfl ⟨rfl, ⟨hx3, h3⟩, ho3⟩
  simp [results, Try.results10, go_sem]

/-- A further string for a neighbour that is asked for: there is room. -/
theorem send_more (x0 : Nat) (hv0 : Value) (link0 until0 asked0 next0 : Int) (held0 : List ByteArray) (hk4 : held0.length < 4) (age tries cnow now a : Int) (s : ByteArray) (mb g n : Nat) (D : DataW Unit) (ha : (Lit.int .u32 a).wf = true) (hs : s.size ≤ 4096) (hn : 0 ≤ now ∧ now ≤ 1000000000) (hc : cnow ≤ now) (w : World) (hC : CacheAt w g mb n age tries cnow D)
    (hE : EntAt w x0 hv0 false link0 until0 held0 asked0 next0) (hD : D.atKey (.int .u32 a) (.lit (.int .i64 (-1))) = .lit (.int .i64 x0)) :
    Calls Try.prog 10 #[.pointer (some ⟨g, 0, none⟩), .int .u32 a, .string s, .int .i64 now] w fun e w' => e = .returned (.tuple #[.int .i64 0, .bool false, .bool false, .int .i64 0]) ∧
      ∃ hv, (hv.ownBlock = hv0.ownBlock ∨ ∀ k, hv.ownBlock = some k → w.heap.size ≤ k) ∧ CacheAt w' g mb n age tries now D ∧ EntAt w' x0 hv false link0 until0 (held0 ++ [s]) asked0 next0 ∧ Only (fun k => k = g ∨ k = x0 ∨ some k = hv0.ownBlock) w w' := by
  obtain ⟨hx, h⟩ := hC
  obtain ⟨hy, hown⟩ := hE
  obtain ⟨A0, c0, rfl⟩ := own_slice hown
  have htm := time_ok age tries cnow now mb g hn hc w hx
  have hfr := fresh_asked age tries cnow now a link0 until0 asked0 next0 _ mb g n x0 D ha w hx hy h hD
  have hgm := map_ne h hx
  have hgl := blk_lt hx
  have hgx := blk_ne hx hy (by decide)
  have hgo := own_ne hown hx (by decide)
  have hl4 : ((held0.length : Int) == 4) = false := beq_eq_false_iff_ne.mpr (by omega)
  obtain ⟨i0, hi, hz0, hz1, hz2⟩ := info_parts info9
  go_enter Try.func10, Try.ntmps10
  go_wp2_with (first | (go_at_call 16; refine htm.mono ?_; rintro e w1 ⟨rfl, rfl⟩) | (go_at_call 17; refine hfr.mono ?_; rintro e w2 ⟨rfl, m2, rfl⟩; have hx2 := blk_drewN hx m2; have hy2 := blk_drewN hy m2; have h2 : (w.drewN m2).ownsMap Try.prog 22 ptrElem mb n D := h; have hown2 := pw_own_drewN hown m2; have ho2 : Only (fun k => k = g ∨ k = x0 ∨ some k = (Value.slice A0 held0.length c0).ownBlock) w (w.drewN m2) := (Only.refl _ w).drewN m2; generalize w.drewN m2 = W2 at hx2 hy2 h2 ho2 hown2 ⊢; have hy20 : W2.cell? ⟨x0, 0, none⟩ = some (.bool false) := (blk_cell hy2 0).trans rfl; have hy23 : W2.cell? ⟨x0, 3, none⟩ = some (.slice A0 held0.length c0) := (blk_cell hy2 3).trans rfl) | (refine gate_ (.store 3 (.tmp 86) (.tmp 84)) rfl ?_; refine wpList_store_cell rfl 3 (.tmp 86) (.tmp 84) rfl rfl (.int .i64 now) rfl rfl rfl rfl hx2 size3 rfl _ rfl ?_))
  clear hfr htm hy20 hy23 hl4
  intro W3 hx3 hg3
  have h3 := h2.kept hg3 (fun e => hgm (by cases e; rfl))
  have ho3 := ho2.grown hg3 (fun k hk => .inl (.inl (by cases hk; rfl)))
  have hy3 := blk_grown hy2 hg3 (fun e => hgx (by cases e; rfl))
  have hown3 := hown2.kept hg3 (.inr (fun e => hgo e.symm))
  clear hg3 h2 hx2 ho2 hy2 hy hown2 hown
  have hy33 : W3.cell? ⟨x0, 3, none⟩ = some (.slice A0 held0.length c0) := (blk_cell hy3 3).trans rfl
  go_wp2_with (at_builtin; refine wpList_append_own_at _ rfl (.tmp 102) (.tmp 104) 23 rfl 0 9 i0 _ 1 16 Try.underlying23 hi hz0 hz1 hz2 rfl (by decide) _ held0.length _ rfl (hown3.alloc _) ⟨W3.heap.size, 0, none⟩ 1 1 [.string s] rfl rfl (cell_one_new _ _ _) ?c2 ?c3 ?c4 ?c5 ?_)
  case c2 => exact fun u hu => by simp at hu; subst hu; rfl
  case c3 => unfold maxLen; omega
  case c4 => omega
  case c5 => simp
  intro v' W5 hown5 hg5 _ hat5
  have hx5 := blk_grown (blk_alloc hx3 _) hg5 hgo
  have hy5 := blk_grown (blk_alloc hy3 _) hg5 (own_ne hown3 hy3 (by decide))
  have h5 := (h3.alloc _).kept hg5 (map_own_ne h3 hown3)
  have ho5 := (ho3.alloc (.cells #[.string s] 9 (0, 0))).grown hg5 (fun k hk => .inl (.inr (.inr hk.symm)))
  have hz3 := ho3.size
  obtain ⟨A5, c5, rfl⟩ := own_slice hown5
  have hat5' : (Value.slice A5 (held0.length + 1) c5).ownBlock = (Value.slice A0 held0.length c0).ownBlock ∨ ∀ k, (Value.slice A5 (held0.length + 1) c5).ownBlock = some k → w.heap.size ≤ k := by
    rcases hat5 with e | e
    · exact .inl e
    · exact .inr (fun k hk => by rw [e] at hk; cases hk; first | omega | (simp; omega))
  clear hat5 hg5 hx3 hy3 h3 ho3 hy33 hown3
  go_wp2_with (refine gate_ (.store 23 (.tmp 107) (.tmp 105)) rfl ?_; refine wpList_store_cell rfl 23 (.tmp 107) (.tmp 105) rfl rfl (.slice A5 (held0.length + 1) c5) rfl rfl rfl rfl hy5 size23 rfl _ rfl ?_)
  intro W6 hy6 hg6
  have hx6 := blk_grown hx5 hg6 (fun e => hgx (by cases e; rfl))
  have h6 := h5.kept hg6 (fun e => map_ne h5 hy5 (by cases e; rfl))
  have hown6 := hown5.kept hg6 (.inr (fun e => (own_ne hown5 hy5 (by decide)) e.symm))
  have ho6 := ho5.grown hg6 (fun k hk => .inl (.inr (.inl (by cases hk; rfl))))
  clear hg6 h5 hx5 hy5 hown5 ho5
  go_wp2
  refine bodyPost_ret (v := .tuple #[.int .i64 0, .bool false, .bool false, .int .i64 0]) ?_ rfl ⟨rfl, _, hat5', ⟨hx6, h6⟩, ⟨hy6, ?_⟩, ho6⟩
  · simp [results, Try.results10, go_sem]
  · rw [List.length_append, List.map_append]
    exact hown6

/-- A further string for a neighbour that is asked for: there is no room. -/
theorem send_full (x0 : Nat) (hv0 : Value) (link0 until0 asked0 next0 : Int) (held0 : List ByteArray) (hk4 : held0.length = 4) (age tries cnow now a : Int) (s : ByteArray) (mb g n : Nat) (D : DataW Unit) (ha : (Lit.int .u32 a).wf = true) (hs : s.size ≤ 4096) (hn : 0 ≤ now ∧ now ≤ 1000000000) (hc : cnow ≤ now) (w : World) (hC : CacheAt w g mb n age tries cnow D)
    (hE : EntAt w x0 hv0 false link0 until0 held0 asked0 next0) (hD : D.atKey (.int .u32 a) (.lit (.int .i64 (-1))) = .lit (.int .i64 x0)) :
    Calls Try.prog 10 #[.pointer (some ⟨g, 0, none⟩), .int .u32 a, .string s, .int .i64 now] w fun e w' => e = .returned (.tuple #[.int .i64 0, .bool false, .bool false, .int .i64 5]) ∧
      CacheAt w' g mb n age tries cnow D ∧ Only (fun _ => False) w w' := by
  obtain ⟨hx, h⟩ := hC
  obtain ⟨hy, hown⟩ := hE
  obtain ⟨A0, c0, rfl⟩ := own_slice hown
  have htm := time_ok age tries cnow now mb g hn hc w hx
  have hfr := fresh_asked age tries cnow now a link0 until0 asked0 next0 _ mb g n x0 D ha w hx hy h hD
  have hl4 : ((held0.length : Int) == 4) = true := beq_iff_eq.mpr (by omega)
  go_enter Try.func10, Try.ntmps10
  go_wp2_with (first | (go_at_call 16; refine htm.mono ?_; rintro e w1 ⟨rfl, rfl⟩) | (go_at_call 17; refine hfr.mono ?_; rintro e w2 ⟨rfl, m2, rfl⟩; have hx2 := blk_drewN hx m2; have hy2 := blk_drewN hy m2; have h2 : (w.drewN m2).ownsMap Try.prog 22 ptrElem mb n D := h; have ho2 : Only (fun _ => False) w (w.drewN m2) := (Only.refl _ w).drewN m2; generalize w.drewN m2 = W2 at hx2 hy2 h2 ho2 ⊢; have hy20 : W2.cell? ⟨x0, 0, none⟩ = some (.bool false) := (blk_cell hy2 0).trans rfl; have hy23 : W2.cell? ⟨x0, 3, none⟩ = some (.slice A0 held0.length c0) := (blk_cell hy2 3).trans rfl))
  refine bodyPost_ret (v := .tuple #[.int .i64 0, .bool false, .bool false, .int .i64 5]) ?_ rfl ⟨rfl, ⟨hx2, h2⟩, ho2⟩
  simp [results, Try.results10, go_sem]
end Go.Proofs.Ytimkdghmiccilaa.H
