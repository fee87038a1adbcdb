/- Walks of near.Learn and near.Find. Conditions: sizes that the rows give. -/
import Derived.Test.YtimkdghmiccilaaHNearSend
namespace Go.Proofs.Ytimkdghmiccilaa.H
set_option linter.unusedSimpArgs false
set_option linter.unusedVariables false
open Go Go.RowKit Go.Maps Go.Proofs.YtimkdghmiccilaaW.PrintWords Go.Proofs.YtimkdghmiccilaaW.PrintLast Go.Proofs.YtimkdghmiccilaaW.PrintMore

/-- A link is learned of a neighbour that the map does not know. -/
theorem learn_none (age tries cnow now link a : Int) (mb g n : Nat) (D : DataW Unit) (ha : (Lit.int .u32 a).wf = true) (hag : 1 ≤ age ∧ age ≤ 1000000000) (hl : 0 ≤ link ∧ link < 281474976710655) (hn : 0 ≤ now ∧ now ≤ 1000000000) (hc : cnow ≤ now) (hn2 : n < 256) (w : World) (hC : CacheAt w g mb n age tries cnow D)
    (hD : D.atKey (.int .u32 a) (.lit (.int .i64 (-1))) = .lit (.int .i64 (-1))) :
    Calls Try.prog 11 #[.pointer (some ⟨g, 0, none⟩), .int .u32 a, .int .i64 link, .int .i64 now] w fun e w' => e = .returned (.tuple #[.slice none 0 0, .int .i64 0]) ∧
      ∃ x, w.heap.size ≤ x ∧ CacheAt w' g mb (n + 1) age tries now (D.put (.int .u32 a) (.lit (.int .i64 x))) ∧ EntAt w' x (.slice none 0 0) true link (now + age) [] 0 0 ∧ Only (fun k => k = g ∨ k = mb) w w' := by

  obtain ⟨hx, h⟩ := hC
  have htm := time_ok age tries cnow now mb g hn hc w hx
  have hgm := map_ne h hx
  have hgl := blk_lt hx
  have hc3 : w.cell? ⟨g, 3, none⟩ = some (.map (some mb)) := (blk_cell hx 3).trans rfl
  have hlk := look_nil w mb n D a ha h hD
  have hlen := h.len Try.underlying48
  have hl256 : ((Maps.size D : Int) == 256) = false := beq_eq_false_iff_ne.mpr (by have := h.size_le; omega)
  go_enter Try.func11, Try.ntmps11
  go_wp2_with (first | (go_at_call 16; refine htm.mono ?_; rintro e w1 ⟨rfl, rfl⟩) | (refine gate_ (.store 3 (.tmp 48) (.tmp 46)) rfl ?_; refine wpList_store_cell rfl 3 (.tmp 48) (.tmp 46) rfl rfl (.int .i64 now) rfl rfl rfl rfl hx size3 rfl _ rfl ?_))
  clear htm hc3 hlk hlen hl256
  intro W3 hx3 hg3
  have h3 := h.kept hg3 (fun e => hgm (by cases e; rfl))
  have ho3 := (Only.refl (fun k => k = g ∨ k = mb) w).grown hg3 (fun k hk => .inl (.inl (by cases hk; rfl)))
  have hc3 : W3.cell? ⟨g, 3, none⟩ = some (.map (some mb)) := (blk_cell hx3 3).trans rfl
  have hlk := look_nil W3 mb n D a ha h3 hD
  clear h hx hg3
  go_wp2
  clear hc3 hlk
  have e8 : IntKind.i64.wrap (now + age) = now + age := IntWalk.i64_in _ (by omega)
  refine start_ (n := 15) (S := fun w' => w'.heap[g]? = some (.cells #[.int .i64 age, .int .i64 tries, .int .i64 now, .map (some mb)] 50 (0, 0))) (ds := []) #[false, false, false, false, false, false, false, false, false, false, false, false, false, false, false] (by kernel_rfl) rfl rfl (blk_drew hx3) (fun hHeld => ?_)
  have h4 := h3.drew
  have ho4 := ho3.drew
  clear hx3 h3 ho3
  generalize W3.drew = Wd at hHeld h4 ho4 ⊢
  refine pure_ (i := 0) (N := some 61) (v := ?_) (a' := ?_) #[true, false, false, false, false, false, false, false, false, false, false, false, false, false, false] rfl rfl (by kernel_rfl) (fun _ _ _ h => h) (Or.inl ⟨by rfl, ?_⟩) ?_ ?_
  rotate_left
  · intro w'
    go_simp
    with_reducible rfl
  rotate_left
  · simp only [Act.put, List.setIfInBounds_toArray, List.set_cons_zero, List.set_cons_succ, i64_w, i32_w]
    rfl
  refine pure_ (i := 1) (N := some 62) (v := ?_) (a' := ?_) #[true, true, false, false, false, false, false, false, false, false, false, false, false, false, false] rfl rfl (by kernel_rfl) (fun _ _ _ h => h) (Or.inl ⟨by rfl, ?_⟩) ?_ ?_
  rotate_left
  · intro w'
    go_simp
    with_reducible rfl
  rotate_left
  · simp only [Act.put, List.setIfInBounds_toArray, List.set_cons_zero, List.set_cons_succ, i64_w, i32_w]
    rfl
  refine pure_ (i := 2) (N := some 63) (v := ?_) (a' := ?_) #[true, true, true, false, false, false, false, false, false, false, false, false, false, false, false] rfl rfl (by kernel_rfl) (fun _ _ _ h => h) (Or.inl ⟨by rfl, ?_⟩) ?_ ?_
  rotate_left
  · intro w'
    go_simp
    with_reducible rfl
  rotate_left
  · simp only [Act.put, List.setIfInBounds_toArray, List.set_cons_zero, List.set_cons_succ, i64_w, i32_w]
    rfl
  refine take_ (i := 3) (N := some 64) (v := ?_) (a' := ?_) #[true, true, true, true, false, false, false, false, false, false, false, false, false, false, false] rfl rfl (by kernel_rfl) (fun _ _ _ h => h) (Or.inl ⟨by rfl, ?_⟩) hHeld ?_ ?_
  rotate_left
  · rintro w' s0
    have k3 : w'.cell? ⟨g, 3, none⟩ = some (.map (some mb)) := (blk_cell s0 3).trans rfl
    go_simp
    with_reducible rfl
  rotate_left
  · simp only [Act.put, List.setIfInBounds_toArray, List.set_cons_zero, List.set_cons_succ, i64_w, i32_w]
    rfl
  refine pure_ (i := 4) (N := some 65) (v := ?_) (a' := ?_) #[true, true, true, true, true, false, false, false, false, false, false, false, false, false, false] rfl rfl (by kernel_rfl) (fun _ _ _ h => h) (Or.inl ⟨by rfl, ?_⟩) ?_ ?_
  rotate_left
  · intro w'
    go_simp
    with_reducible rfl
  rotate_left
  · simp only [Act.put, List.setIfInBounds_toArray, List.set_cons_zero, List.set_cons_succ, i64_w, i32_w]
    rfl
  refine pure_ (i := 5) (N := some 66) (v := ?_) (a' := ?_) #[true, true, true, true, true, true, false, false, false, false, false, false, false, false, false] rfl rfl (by kernel_rfl) (fun _ _ _ h => h) (Or.inl ⟨by rfl, ?_⟩) ?_ ?_
  rotate_left
  · intro w'
    go_simp
    with_reducible rfl
  rotate_left
  · simp only [Act.put, List.setIfInBounds_toArray, List.set_cons_zero, List.set_cons_succ, i64_w, i32_w]
    rfl
  refine pure_ (i := 6) (N := some 67) (v := ?_) (a' := ?_) #[true, true, true, true, true, true, true, false, false, false, false, false, false, false, false] rfl rfl (by kernel_rfl) (fun _ _ _ h => h) (Or.inl ⟨by rfl, ?_⟩) ?_ ?_
  rotate_left
  · intro w'
    go_simp
    with_reducible rfl
  rotate_left
  · simp only [Act.put, List.setIfInBounds_toArray, List.set_cons_zero, List.set_cons_succ, i64_w, i32_w]
    rfl
  refine pure_ (i := 7) (N := some 68) (v := ?_) (a' := ?_) #[true, true, true, true, true, true, true, true, false, false, false, false, false, false, false] rfl rfl (by kernel_rfl) (fun _ _ _ h => h) (Or.inl ⟨by rfl, ?_⟩) ?_ ?_
  rotate_left
  · intro w'
    go_simp
    with_reducible rfl
  rotate_left
  · simp only [Act.put, List.setIfInBounds_toArray, List.set_cons_zero, List.set_cons_succ, i64_w, i32_w]
    rfl
  refine pure_ (i := 8) (N := some 69) (v := ?_) (a' := ?_) #[true, true, true, true, true, true, true, true, true, false, false, false, false, false, false] rfl rfl (by kernel_rfl) (fun _ _ _ h => h) (Or.inl ⟨by rfl, ?_⟩) ?_ ?_
  rotate_left
  · intro w'
    go_simp
    with_reducible rfl
  rotate_left
  · simp only [Act.put, List.setIfInBounds_toArray, List.set_cons_zero, List.set_cons_succ, i64_w, i32_w]
    rfl
  refine pure_ (i := 9) (N := some 70) (v := ?_) (a' := ?_) #[true, true, true, true, true, true, true, true, true, true, false, false, false, false, false] rfl rfl (by kernel_rfl) (fun _ _ _ h => h) (Or.inl ⟨by rfl, ?_⟩) ?_ ?_
  rotate_left
  · intro w'
    go_simp
    with_reducible rfl
  rotate_left
  · simp only [Act.put, List.setIfInBounds_toArray, List.set_cons_zero, List.set_cons_succ, i64_w, i32_w]
    rfl
  refine take_ (i := 10) (N := some 71) (v := ?_) (a' := ?_) #[true, true, true, true, true, true, true, true, true, true, true, false, false, false, false] rfl rfl (by kernel_rfl) (fun _ _ _ h => h) (Or.inl ⟨by rfl, ?_⟩) hHeld ?_ ?_
  rotate_left
  · rintro w' s0
    have k0 : w'.cell? ⟨g, 0, none⟩ = some (.int .i64 age) := (blk_cell s0 0).trans rfl
    go_simp
    with_reducible rfl
  rotate_left
  · simp only [Act.put, List.setIfInBounds_toArray, List.set_cons_zero, List.set_cons_succ, i64_w, i32_w]
    rfl
  refine pure_ (i := 11) (N := some 72) (v := ?_) (a' := ?_) #[true, true, true, true, true, true, true, true, true, true, true, true, false, false, false] rfl rfl (by kernel_rfl) (fun _ _ _ h => h) (Or.inl ⟨by rfl, ?_⟩) ?_ ?_
  rotate_left
  · intro w'
    go_simp
    with_reducible rfl
  rotate_left
  · simp only [Act.put, List.setIfInBounds_toArray, List.set_cons_zero, List.set_cons_succ, i64_w, i32_w]
    rfl
  refine pure_ (i := 12) (N := some 73) (v := ?_) (a' := ?_) #[true, true, true, true, true, true, true, true, true, true, true, true, true, false, false] rfl rfl (by kernel_rfl) (fun _ _ _ h => h) (Or.inl ⟨by rfl, ?_⟩) ?_ ?_
  rotate_left
  · intro w'
    go_simp
    with_reducible rfl
  rotate_left
  · simp only [Act.put, List.setIfInBounds_toArray, List.set_cons_zero, List.set_cons_succ, i64_w, i32_w]
    rfl
  refine one_ (i := 13) (N := some 74) #[true, true, true, true, true, true, true, true, true, true, true, true, true, true, false] rfl rfl (by kernel_rfl) (by decide) (fun K hK => ?_)
  refine box_step ?hg (N := 74) ?hd (cs := #[.bool true, .int .i64 link, .int .i64 (now + age), .slice none 0 0, .int .i64 0, .int .i64 0]) (t := 56) ?hr ?_; (case hd => rfl); (case hg => rfl); (case hr => first | (go_simp; done) | (go_simp; rfl))
  intro x hxw w7 hbox hb7
  have h7 : w7.ownsMap Try.prog 22 ptrElem mb n D := by obtain ⟨es, clock, hb, r⟩ := h4; exact ⟨es, clock, blk_below hb hb7, r⟩
  have ho7 := ho4.below1 hb7
  have hxs : w.heap.size ≤ x := by rw [hxw]; exact ho4.size
  have hmx : mb < x := by rw [hxw]; exact h4.lt
  refine hK.out _ _ (blk_below hHeld hb7) (fun hHeld => ?_)
  clear hK K h4 ho4 hb7 hxw
  refine norm_ (a' := ?_) ?_ ?_
  rotate_left
  · show Act.put _ (some 74) _ = _
    simp only [Act.put, List.setIfInBounds_toArray, List.set_cons_zero, List.set_cons_succ, i64_w, i32_w]
    rfl
  refine one_ (i := 14) (N := none) #[true, true, true, true, true, true, true, true, true, true, true, true, true, true, true] rfl rfl (by kernel_rfl) (by decide) (fun K hK => ?_)
  refine mapUpdate_step (by rfl) _ _ _ 48 rfl 22 52 law22 Try.underlying48 ptrElem mb n D rfl h7 (by unfold maxLen; omega) _ _ (.int .u32 a) rfl rfl (keyOf_int_mk Try.underlying22 ha) (.lit (.int .i64 x)) [] (ptrElem_mk _) ?_
  intro w8 h8 hg8
  have hx8 := blk_grown hHeld hg8 (fun e => hgm (by cases e; rfl))
  have hy8 := blk_grown hbox hg8 (fun e => by cases e; omega)
  have ho8 := ho7.grown hg8 (fun k hk => .inl (.inr (by cases hk; rfl)))
  refine hK.out _ _ hx8 (fun hHeld => ?_)
  clear hK K h7 ho7 hbox hg8 hHeld
  refine done_ (by kernel_rfl) ?_
  go_wp2
  refine bodyPost_ret (v := .tuple #[.slice none 0 0, .int .i64 0]) ?_ rfl ⟨rfl, x, hxs, ⟨hx8, h8⟩, ⟨hy8, own_nil _ _ _ _⟩, ho8⟩
  simp [results, Try.results11, go_sem]

/-- A link is learned of a neighbour that the map knows. -/
theorem learn_some (x0 : Nat) (hv0 : Value) (kn0 : Bool) (link0 until0 asked0 next0 : Int) (held0 : List ByteArray) (age tries cnow now link a : Int) (mb g n : Nat) (D : DataW Unit) (ha : (Lit.int .u32 a).wf = true) (hag : 1 ≤ age ∧ age ≤ 1000000000) (hl : 0 ≤ link ∧ link < 281474976710655) (hn : 0 ≤ now ∧ now ≤ 1000000000) (hc : cnow ≤ now) (hn2 : n < 256) (w : World) (hC : CacheAt w g mb n age tries cnow D)
    (hE : EntAt w x0 hv0 kn0 link0 until0 held0 asked0 next0) (hD : D.atKey (.int .u32 a) (.lit (.int .i64 (-1))) = .lit (.int .i64 x0)) :
    Calls Try.prog 11 #[.pointer (some ⟨g, 0, none⟩), .int .u32 a, .int .i64 link, .int .i64 now] w fun e w' => e = .returned (.tuple #[hv0, .int .i64 0]) ∧
      ∃ x, w.heap.size ≤ x ∧ CacheAt w' g mb (n + 1) age tries now (D.put (.int .u32 a) (.lit (.int .i64 x))) ∧ EntAt w' x (.slice none 0 0) true link (now + age) [] 0 0 ∧ Only (fun k => k = g ∨ k = mb) w w' := by

  obtain ⟨hx, h⟩ := hC
  obtain ⟨hy, _⟩ := hE
  have hgx := blk_ne hx hy (by decide)
  have htm := time_ok age tries cnow now mb g hn hc w hx
  have hgm := map_ne h hx
  have hgl := blk_lt hx
  have hc3 : w.cell? ⟨g, 3, none⟩ = some (.map (some mb)) := (blk_cell hx 3).trans rfl
  have hlk := look_blk w mb n x0 D a ha h hD
  go_enter Try.func11, Try.ntmps11
  go_wp2_with (first | (go_at_call 16; refine htm.mono ?_; rintro e w1 ⟨rfl, rfl⟩) | (refine gate_ (.store 3 (.tmp 48) (.tmp 46)) rfl ?_; refine wpList_store_cell rfl 3 (.tmp 48) (.tmp 46) rfl rfl (.int .i64 now) rfl rfl rfl rfl hx size3 rfl _ rfl ?_))
  clear htm hc3 hlk
  intro W3 hx3 hg3
  have h3 := h.kept hg3 (fun e => hgm (by cases e; rfl))
  have ho3 := (Only.refl (fun k => k = g ∨ k = mb) w).grown hg3 (fun k hk => .inl (.inl (by cases hk; rfl)))
  have hy3 := blk_grown hy hg3 (fun e => hgx (by cases e; rfl))
  have hy33 : W3.cell? ⟨x0, 3, none⟩ = some hv0 := (blk_cell hy3 3).trans rfl
  have hc3 : W3.cell? ⟨g, 3, none⟩ = some (.map (some mb)) := (blk_cell hx3 3).trans rfl
  have hlk := look_blk W3 mb n x0 D a ha h3 hD
  clear h hx hg3 hy hy3
  go_wp2
  clear hc3 hlk hy33
  have e8 : IntKind.i64.wrap (now + age) = now + age := IntWalk.i64_in _ (by omega)
  refine start_ (n := 15) (S := fun w' => w'.heap[g]? = some (.cells #[.int .i64 age, .int .i64 tries, .int .i64 now, .map (some mb)] 50 (0, 0))) (ds := []) #[false, false, false, false, false, false, false, false, false, false, false, false, false, false, false] (by kernel_rfl) rfl rfl (blk_drew hx3) (fun hHeld => ?_)
  have h4 := h3.drew
  have ho4 := ho3.drew
  clear hx3 h3 ho3
  generalize W3.drew = Wd at hHeld h4 ho4 ⊢
  refine pure_ (i := 0) (N := some 61) (v := ?_) (a' := ?_) #[true, false, false, false, false, false, false, false, false, false, false, false, false, false, false] rfl rfl (by kernel_rfl) (fun _ _ _ h => h) (Or.inl ⟨by rfl, ?_⟩) ?_ ?_
  rotate_left
  · intro w'
    go_simp
    with_reducible rfl
  rotate_left
  · simp only [Act.put, List.setIfInBounds_toArray, List.set_cons_zero, List.set_cons_succ, i64_w, i32_w]
    rfl
  refine pure_ (i := 1) (N := some 62) (v := ?_) (a' := ?_) #[true, true, false, false, false, false, false, false, false, false, false, false, false, false, false] rfl rfl (by kernel_rfl) (fun _ _ _ h => h) (Or.inl ⟨by rfl, ?_⟩) ?_ ?_
  rotate_left
  · intro w'
    go_simp
    with_reducible rfl
  rotate_left
  · simp only [Act.put, List.setIfInBounds_toArray, List.set_cons_zero, List.set_cons_succ, i64_w, i32_w]
    rfl
  refine pure_ (i := 2) (N := some 63) (v := ?_) (a' := ?_) #[true, true, true, false, false, false, false, false, false, false, false, false, false, false, false] rfl rfl (by kernel_rfl) (fun _ _ _ h => h) (Or.inl ⟨by rfl, ?_⟩) ?_ ?_
  rotate_left
  · intro w'
    go_simp
    with_reducible rfl
  rotate_left
  · simp only [Act.put, List.setIfInBounds_toArray, List.set_cons_zero, List.set_cons_succ, i64_w, i32_w]
    rfl
  refine take_ (i := 3) (N := some 64) (v := ?_) (a' := ?_) #[true, true, true, true, false, false, false, false, false, false, false, false, false, false, false] rfl rfl (by kernel_rfl) (fun _ _ _ h => h) (Or.inl ⟨by rfl, ?_⟩) hHeld ?_ ?_
  rotate_left
  · rintro w' s0
    have k3 : w'.cell? ⟨g, 3, none⟩ = some (.map (some mb)) := (blk_cell s0 3).trans rfl
    go_simp
    with_reducible rfl
  rotate_left
  · simp only [Act.put, List.setIfInBounds_toArray, List.set_cons_zero, List.set_cons_succ, i64_w, i32_w]
    rfl
  refine pure_ (i := 4) (N := some 65) (v := ?_) (a' := ?_) #[true, true, true, true, true, false, false, false, false, false, false, false, false, false, false] rfl rfl (by kernel_rfl) (fun _ _ _ h => h) (Or.inl ⟨by rfl, ?_⟩) ?_ ?_
  rotate_left
  · intro w'
    go_simp
    with_reducible rfl
  rotate_left
  · simp only [Act.put, List.setIfInBounds_toArray, List.set_cons_zero, List.set_cons_succ, i64_w, i32_w]
    rfl
  refine pure_ (i := 5) (N := some 66) (v := ?_) (a' := ?_) #[true, true, true, true, true, true, false, false, false, false, false, false, false, false, false] rfl rfl (by kernel_rfl) (fun _ _ _ h => h) (Or.inl ⟨by rfl, ?_⟩) ?_ ?_
  rotate_left
  · intro w'
    go_simp
    with_reducible rfl
  rotate_left
  · simp only [Act.put, List.setIfInBounds_toArray, List.set_cons_zero, List.set_cons_succ, i64_w, i32_w]
    rfl
  refine pure_ (i := 6) (N := some 67) (v := ?_) (a' := ?_) #[true, true, true, true, true, true, true, false, false, false, false, false, false, false, false] rfl rfl (by kernel_rfl) (fun _ _ _ h => h) (Or.inl ⟨by rfl, ?_⟩) ?_ ?_
  rotate_left
  · intro w'
    go_simp
    with_reducible rfl
  rotate_left
  · simp only [Act.put, List.setIfInBounds_toArray, List.set_cons_zero, List.set_cons_succ, i64_w, i32_w]
    rfl
  refine pure_ (i := 7) (N := some 68) (v := ?_) (a' := ?_) #[true, true, true, true, true, true, true, true, false, false, false, false, false, false, false] rfl rfl (by kernel_rfl) (fun _ _ _ h => h) (Or.inl ⟨by rfl, ?_⟩) ?_ ?_
  rotate_left
  · intro w'
    go_simp
    with_reducible rfl
  rotate_left
  · simp only [Act.put, List.setIfInBounds_toArray, List.set_cons_zero, List.set_cons_succ, i64_w, i32_w]
    rfl
  refine pure_ (i := 8) (N := some 69) (v := ?_) (a' := ?_) #[true, true, true, true, true, true, true, true, true, false, false, false, false, false, false] rfl rfl (by kernel_rfl) (fun _ _ _ h => h) (Or.inl ⟨by rfl, ?_⟩) ?_ ?_
  rotate_left
  · intro w'
    go_simp
    with_reducible rfl
  rotate_left
  · simp only [Act.put, List.setIfInBounds_toArray, List.set_cons_zero, List.set_cons_succ, i64_w, i32_w]
    rfl
  refine pure_ (i := 9) (N := some 70) (v := ?_) (a' := ?_) #[true, true, true, true, true, true, true, true, true, true, false, false, false, false, false] rfl rfl (by kernel_rfl) (fun _ _ _ h => h) (Or.inl ⟨by rfl, ?_⟩) ?_ ?_
  rotate_left
  · intro w'
    go_simp
    with_reducible rfl
  rotate_left
  · simp only [Act.put, List.setIfInBounds_toArray, List.set_cons_zero, List.set_cons_succ, i64_w, i32_w]
    rfl
  refine take_ (i := 10) (N := some 71) (v := ?_) (a' := ?_) #[true, true, true, true, true, true, true, true, true, true, true, false, false, false, false] rfl rfl (by kernel_rfl) (fun _ _ _ h => h) (Or.inl ⟨by rfl, ?_⟩) hHeld ?_ ?_
  rotate_left
  · rintro w' s0
    have k0 : w'.cell? ⟨g, 0, none⟩ = some (.int .i64 age) := (blk_cell s0 0).trans rfl
    go_simp
    with_reducible rfl
  rotate_left
  · simp only [Act.put, List.setIfInBounds_toArray, List.set_cons_zero, List.set_cons_succ, i64_w, i32_w]
    rfl
  refine pure_ (i := 11) (N := some 72) (v := ?_) (a' := ?_) #[true, true, true, true, true, true, true, true, true, true, true, true, false, false, false] rfl rfl (by kernel_rfl) (fun _ _ _ h => h) (Or.inl ⟨by rfl, ?_⟩) ?_ ?_
  rotate_left
  · intro w'
    go_simp
    with_reducible rfl
  rotate_left
  · simp only [Act.put, List.setIfInBounds_toArray, List.set_cons_zero, List.set_cons_succ, i64_w, i32_w]
    rfl
  refine pure_ (i := 12) (N := some 73) (v := ?_) (a' := ?_) #[true, true, true, true, true, true, true, true, true, true, true, true, true, false, false] rfl rfl (by kernel_rfl) (fun _ _ _ h => h) (Or.inl ⟨by rfl, ?_⟩) ?_ ?_
  rotate_left
  · intro w'
    go_simp
    with_reducible rfl
  rotate_left
  · simp only [Act.put, List.setIfInBounds_toArray, List.set_cons_zero, List.set_cons_succ, i64_w, i32_w]
    rfl
  refine one_ (i := 13) (N := some 74) #[true, true, true, true, true, true, true, true, true, true, true, true, true, true, false] rfl rfl (by kernel_rfl) (by decide) (fun K hK => ?_)
  refine box_step ?hg (N := 74) ?hd (cs := #[.bool true, .int .i64 link, .int .i64 (now + age), .slice none 0 0, .int .i64 0, .int .i64 0]) (t := 56) ?hr ?_; (case hd => rfl); (case hg => rfl); (case hr => first | (go_simp; done) | (go_simp; rfl))
  intro x hxw w7 hbox hb7
  have h7 : w7.ownsMap Try.prog 22 ptrElem mb n D := by obtain ⟨es, clock, hb, r⟩ := h4; exact ⟨es, clock, blk_below hb hb7, r⟩
  have ho7 := ho4.below1 hb7
  have hxs : w.heap.size ≤ x := by rw [hxw]; exact ho4.size
  have hmx : mb < x := by rw [hxw]; exact h4.lt
  refine hK.out _ _ (blk_below hHeld hb7) (fun hHeld => ?_)
  clear hK K h4 ho4 hb7 hxw
  refine norm_ (a' := ?_) ?_ ?_
  rotate_left
  · show Act.put _ (some 74) _ = _
    simp only [Act.put, List.setIfInBounds_toArray, List.set_cons_zero, List.set_cons_succ, i64_w, i32_w]
    rfl
  refine one_ (i := 14) (N := none) #[true, true, true, true, true, true, true, true, true, true, true, true, true, true, true] rfl rfl (by kernel_rfl) (by decide) (fun K hK => ?_)
  refine mapUpdate_step (by rfl) _ _ _ 48 rfl 22 52 law22 Try.underlying48 ptrElem mb n D rfl h7 (by unfold maxLen; omega) _ _ (.int .u32 a) rfl rfl (keyOf_int_mk Try.underlying22 ha) (.lit (.int .i64 x)) [] (ptrElem_mk _) ?_
  intro w8 h8 hg8
  have hx8 := blk_grown hHeld hg8 (fun e => hgm (by cases e; rfl))
  have hy8 := blk_grown hbox hg8 (fun e => by cases e; omega)
  have ho8 := ho7.grown hg8 (fun k hk => .inl (.inr (by cases hk; rfl)))
  refine hK.out _ _ hx8 (fun hHeld => ?_)
  clear hK K h7 ho7 hbox hg8 hHeld
  refine done_ (by kernel_rfl) ?_
  go_wp2
  refine bodyPost_ret (v := .tuple #[hv0, .int .i64 0]) ?_ rfl ⟨rfl, x, hxs, ⟨hx8, h8⟩, ⟨hy8, own_nil _ _ _ _⟩, ho8⟩
  simp [results, Try.results11, go_sem]

/-- Find where the link has passed. -/
theorem find_old (x0 : Nat) (hv0 : Value) (link0 until0 asked0 next0 : Int) (held0 : List ByteArray) (age tries cnow now a : Int) (mb g n : Nat) (D : DataW Unit) (ha : (Lit.int .u32 a).wf = true) (hn : 0 ≤ now ∧ now ≤ 1000000000) (hc : cnow ≤ now) (w : World) (hC : CacheAt w g mb n age tries cnow D)
    (hE : EntAt w x0 hv0 true link0 until0 held0 asked0 next0) (hut : until0 ≤ now) (hD : D.atKey (.int .u32 a) (.lit (.int .i64 (-1))) = .lit (.int .i64 x0)) :
    Calls Try.prog 13 #[.pointer (some ⟨g, 0, none⟩), .int .u32 a, .int .i64 now] w fun e w' => e = .returned (.tuple #[.int .i64 0, .int .i64 4]) ∧ ∃ m, w' = w.drewN m := by
  obtain ⟨hx, h⟩ := hC
  obtain ⟨hy, _⟩ := hE
  have htm := time_ok age tries cnow now mb g hn hc w hx
  have hfr := fresh_known age tries cnow now a link0 until0 asked0 next0 hv0 mb g n x0 D ha w hx hy h hD
  have hdf : decide (now < until0) = false := decide_eq_false (by omega)
  rw [hdf] at hfr
  go_enter Try.func13, Try.ntmps13
  go_wp2_with (first | (go_at_call 16; refine htm.mono ?_; rintro e w1 ⟨rfl, rfl⟩) | (go_at_call 17; refine hfr.mono ?_; rintro e w2 ⟨rfl, m2, rfl⟩))
  go_ret2
  exact ⟨rfl, _, rfl⟩

end Go.Proofs.Ytimkdghmiccilaa.H
