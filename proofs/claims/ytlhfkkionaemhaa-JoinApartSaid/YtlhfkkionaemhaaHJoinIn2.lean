/- join: the walk of Table.In at a fragment of a packet that is there. Conditions: sizes. -/
import Derived.Test.YtlhfkkionaemhaaHJoinPlain
namespace Go.Proofs.Ytlhfkkionaemhaa.H
set_option linter.unusedSimpArgs false
set_option linter.unusedVariables false
open Go Go.RowKit Go.Maps Go.Proofs.YtlhfkkionaemhaaW.PrintWords Go.Proofs.YtlhfkkionaemhaaW.PrintLast Go.Proofs.YtlhfkkionaemhaaW.PrintMore Go.Proofs.Ytlhfkkionaemhaa.Plain

/-- An entry is struck. -/
theorem TabAt.erase {w7 w9 w10 : World} {B g i : Nat} {room age now : Int} {lv v9 : Value} {xs : List Nat} {E : List Ent} (h : TabAt w7 B g room age now lv xs E)
    (hown9 : w9.ownsRow B 54 1 v9 (xs.eraseIdx i).length ((xs.eraseIdx i).map ptrV)) (hg9 : w7.grownBy w9 lv.ownBlock) (hx10 : w10.heap[g]? = some (.cells #[.int .i64 room, .int .i64 age, .int .i64 now, v9] 50 (0, 0))) (hg10 : w9.grownBy w10 (some g)) : TabAt w10 B g room age now v9 (xs.eraseIdx i) (E.eraseIdx i) := by
  have hb9 : w9.heap[g]? = some (.cells #[.int .i64 room, .int .i64 age, .int .i64 now, lv] 50 (0, 0)) := blk_grown h.blk hg9 (own_ne h.row h.blk (by decide))
  have key : ∀ y f, EntAt w7 B y f → EntAt w10 B y f := fun y f hy => (hy.rowed h.row hg9).grown hg10 (ent_ne (hy.rowed h.row hg9) hb9 (by decide)) hb9 (by decide)
  have hlen := h.ents.1
  refine ⟨h.hB, by have := h.hBw; have := hg9.size; have := hg10.size; omega, hx10, ?_, ⟨by rw [List.length_eraseIdx, List.length_eraseIdx, hlen], fun j hj hj2 => ?_⟩, ?_⟩
  · exact hown9.kept hg10 (.inr (fun e => own_ne hown9 hb9 (by decide) e.symm))
  · rw [List.getElem_eraseIdx, List.getElem_eraseIdx]
    have l1 := List.length_eraseIdx_le xs i
    by_cases hlt : j < i
    · rw [dif_pos hlt, dif_pos hlt]
      exact key _ _ (h.ents.2 j (by omega) (by omega))
    · rw [dif_neg hlt, dif_neg hlt]
      have : j + 1 < xs.length := by rw [List.length_eraseIdx] at hj; split at hj <;> omega
      exact key _ _ (h.ents.2 (j + 1) this (by omega))
  · exact h.nodup.sublist (List.eraseIdx_sublist xs i)
theorem slice_mono {v : Value} {W : World} {B n : Nat} {xs : List Value} (h : W.ownsRow B 54 1 v n xs) : ∃ A c, v = .slice A n c := own_slice h

set_option maxHeartbeats 8000000 in
set_option maxRecDepth 100000 in
/-- A fragment that contradicts the others. -/
theorem in_wrong (B g : Nat) (room age tnow now : Int) (lv : Value) (xs : List Nat) (E : List Ent) (p : Pk) (hs : p.body.size ≤ 100000) (hc : p.chk = 0) (hfr : p.off ≠ 0 ∨ p.more = true) (hn : 0 ≤ now ∧ now ≤ 1000000000) (hcn : tnow ≤ now) (hl : E.length ≤ 64) (w : World) (hT : TabAt w B g room age tnow lv xs E) (hx : 0 ≤ p.off ∧ p.off + p.body.size ≤ 1500) (i : Nat) (hi : i < E.length) (hik : pkEq E[i].key p.key = true) (hib : ∀ j (hj : j < i), pkEq (E[j]'(by omega)).key p.key = false) (hw : E[i].wrong p = true) :
    Calls Try.prog 10 #[.pointer (some ⟨g, 0, none⟩), .agg #[.int .u32 p.src, .int .u32 p.dst, .int .i64 p.proto, .int .i64 p.ttl, .int .i64 p.id, .int .i64 p.off, .bool p.more, .bool p.whole, .string p.body], .int .i64 now] w fun e w' =>
      e = .returned (.tuple #[packV zeroPk, .bool false, .int .i64 3]) ∧ Below w.heap.size w w' := by
  have hck := fun W => chk_calls p (by omega) W
  rw [hc] at hck
  have hchk := hc
  clear hc
  obtain ⟨src, dst, proto, ttl, id, off, more, whole, body⟩ := p
  simp only at hck hs hfr ⊢
  have htm := fun W (h : TabBlk W g room age tnow lv) => time_ok room age tnow now lv g hn hcn W h
  go_enter Try.func10, Try.ntmps10
  apply wp_seq_k
  intro K0 hK0
  have HK0 := Lib.hid hK0
  clear hK0
  go_wp2
  refine HK0.out _ _ ?_
  clear HK0
  apply wp_seq_k
  intro K1 hK1
  have HK1 := Lib.hid hK1
  clear hK1
  go_wp2_with (go_at_call 20; refine (hck _).mono ?_; rintro e w1 ⟨rfl, hb⟩; obtain ⟨hp1, hr1, hb1, hz1⟩ := two_new hb)
  have hT1 := hT.below hb1
  clear hb hck
  refine HK1.out _ _ ?_
  clear HK1
  apply wp_seq_k
  intro K2 hK2
  have HK2 := Lib.hid hK2
  clear hK2
  go_wp2_with (go_at_call 21; refine (htm _ hT1.blk).mono ?_; rintro e w2 ⟨rfl, rfl⟩)
  clear htm
  refine HK2.out _ _ ?_
  clear HK2
  apply wp_seq_k
  intro K3 hK3
  have HK3 := Lib.hid hK3
  clear hK3
  go_wp2
  refine HK3.out _ _ ?_
  clear HK3
  apply wp_seq_k
  intro K4 hK4
  have HK4 := Lib.hid hK4
  clear hK4
  have hmid : ∀ (v14 v15 v16 v17 v18 v19 v20 v21 v22 v23 v24 v25 v26 v27 v28 v29 v30 v31 v32 : Value), K4 { tmps := #[.pointer (some ⟨g, 0, none⟩), .agg #[.int .u32 src, .int .u32 dst, .int .i64 proto, .int .i64 ttl, .int .i64 id, .int .i64 off, .bool more, .bool whole, .string body], .int .i64 now, undef, .pointer (some ⟨w.heap.size, 0, none⟩), undef, .pointer (some ⟨w.heap.size + 1, 0, none⟩), .bool false, .int .i64 0, .int .i64 0, undef, undef, undef, undef, v14, v15, v16, v17, v18, v19, v20, v21, v22, v23, v24, v25, v26, v27, v28, v29, v30, v31, v32, undef, undef, undef, undef, undef, undef, undef, undef, undef, undef, undef, undef, undef, undef, undef, undef, undef, undef, undef, undef, undef, undef, undef, undef, undef, undef, undef, undef, undef, undef, undef, undef, undef, undef, undef, undef, undef, undef, undef, undef, undef, undef, undef, undef, undef, undef, undef, undef, undef, undef, undef, undef, undef, undef, undef, undef, undef, undef, undef, undef, undef, undef, undef, undef, undef, undef, undef, undef, undef, undef, undef, undef, undef, undef, undef, undef, undef, undef, undef, undef, undef, undef, undef, undef, undef, undef, undef, undef, undef, undef, undef, undef, undef, undef, undef, undef, undef, undef, undef, undef, undef, undef, undef, undef, undef, undef, undef, undef, undef, undef, undef, undef, undef, undef, undef, undef, undef, undef], defers := [] } w1 := by
    intro v14 v15 v16 v17 v18 v19 v20 v21 v22 v23 v24 v25 v26 v27 v28 v29 v30 v31 v32
    refine HK4.out _ _ ?_
    clear HK4
    obtain ⟨A0, c0, rfl⟩ := own_slice hT1.row
    obtain ⟨hd0, hd1, hd2, hd3, hd4, hd5, hd6, hd7, hd8⟩ := pk_cells' hp1
    have hgl := blk_lt hT1.blk
    have hg3 : w1.cell? ⟨g, 3, none⟩ = some (.slice A0 xs.length c0) := (blk_cell hT1.blk 3).trans rfl
    have hxl : xs.length ≤ 64 := by have := hT.ents.1; omega
    have hix := index_calls B w1.heap.size xs E ⟨src, dst, proto, ttl, id, off, more, whole, body⟩ (.slice A0 xs.length c0) (w1.alloc (.cells #[.int .u32 src, .int .u32 dst, .int .i64 proto, .int .i64 0, .int .i64 id, .int .i64 0, .bool false, .bool false, .string ⟨#[]⟩] 32 (0, 0))) (hT1.alloc _).row (hT1.alloc _).ents (blk_new w1 _) (by omega) i (.inr ⟨i, rfl, hi, hik, hib⟩)
    have hT1a := hT1.alloc (.cells #[.int .u32 src, .int .u32 dst, .int .i64 proto, .int .i64 0, .int .i64 id, .int .i64 0, .bool false, .bool false, .string ⟨#[]⟩] 32 (0, 0))
    have hp1a := blk_alloc hp1 (.cells #[.int .u32 src, .int .u32 dst, .int .i64 proto, .int .i64 0, .int .i64 id, .int .i64 0, .bool false, .bool false, .string ⟨#[]⟩] 32 (0, 0))
    have hr1a := blk_alloc hr1 (.cells #[.int .u32 src, .int .u32 dst, .int .i64 proto, .int .i64 0, .int .i64 id, .int .i64 0, .bool false, .bool false, .string ⟨#[]⟩] 32 (0, 0))
    have hi1a := blk_new w1 (.cells #[.int .u32 src, .int .u32 dst, .int .i64 proto, .int .i64 0, .int .i64 id, .int .i64 0, .bool false, .bool false, .string ⟨#[]⟩] 32 (0, 0))
    have hb1a := hb1.alloc (by omega) (.cells #[.int .u32 src, .int .u32 dst, .int .i64 proto, .int .i64 0, .int .i64 id, .int .i64 0, .bool false, .bool false, .string ⟨#[]⟩] 32 (0, 0))
    have hx1 : off + (body.size : Int) ≤ 1500 := hx.2
    have hx0 : 0 ≤ off := hx.1
    have HW := Lib.hid hw
    clear hw hik hib
    have hn1 : ¬ (i : Int) < 0 := by omega
    have hn2 : 0 ≤ (i : Int) := by omega
    have hix1 : i < xs.length := by rw [hT.ents.1]; exact hi
    have hiz : (i : Int) < (xs.length : Int) := by omega
    have e4 : IntKind.i64.wrap (off + (body.size : Int)) = off + (body.size : Int) := IntWalk.i64_in _ (by omega)
    go_wp2_with (first | (go_at_call 22; refine hix.mono ?_; rintro e w2 ⟨rfl, m, rfl⟩; have hT2 := hT1a.drewN m; have hp2 := blk_drewN hp1a m; have hr2 := blk_drewN hr1a m; have hi2 := blk_drewN hi1a m; have hb2 := pw_below_drewN hb1a m; clear hix hg3 hd0 hd1 hd2 hd3 hd4 hd5 hd6 hd7 hd8 hT1a hp1a hr1a hi1a hb1a; generalize (w1.alloc (.cells #[.int .u32 src, .int .u32 dst, .int .i64 proto, .int .i64 0, .int .i64 id, .int .i64 0, .bool false, .bool false, .string ⟨#[]⟩] 32 (0, 0))).drewN m = W2 at hT2 hp2 hr2 hi2 hb2 ⊢; have hz2 := blk_lt hi2; obtain ⟨hd0, hd1, hd2, hd3, hd4, hd5, hd6, hd7, hd8⟩ := pk_cells' hp2; have hgl2 := blk_lt hT2.blk; have hg3 : W2.cell? ⟨g, 3, none⟩ = some (.slice A0 xs.length c0) := (blk_cell hT2.blk 3).trans rfl; have hg0 : W2.cell? ⟨g, 0, none⟩ = some (.int .i64 room) := (blk_cell hT2.blk 0).trans rfl))
    have hq1 : decide ((i : Int) < 0) = false := decide_eq_false (by omega)
    go_quiet (fail)
    have hT3 := hT2.drewN nq
    have hp3 := blk_drewN hp2 nq
    have hr3' := blk_drewN hr2 nq
    have hi3 := blk_drewN hi2 nq
    have hb3 := pw_below_drewN hb2 nq
    clear hd0 hd1 hd2 hd3 hd4 hd5 hd6 hd7 hd8 hT2 hp2 hr2 hi2 hb2 hz2 hgl2 hg3 hg0
    generalize W2.drewN nq = W2 at hT3 hp3 hr3' hi3 hb3 ⊢
    have hT2 := hT3
    have hp2 := hp3
    have hr2 := hr3'
    have hi2 := hi3
    have hb2 := hb3
    clear hT3 hp3 hr3' hi3 hb3
    have hz2 := blk_lt hi2
    obtain ⟨hd0, hd1, hd2, hd3, hd4, hd5, hd6, hd7, hd8⟩ := pk_cells' hp2
    have hgl2 := blk_lt hT2.blk
    have hg3 : W2.cell? ⟨g, 3, none⟩ = some (.slice A0 xs.length c0) := (blk_cell hT2.blk 3).trans rfl
    have hg0 : W2.cell? ⟨g, 0, none⟩ = some (.int .i64 room) := (blk_cell hT2.blk 0).trans rfl
    go_wp2
    obtain ⟨gr, cr, hv, _, hgrl, hrd⟩ := ptr_read hT2.row (by omega)
    obtain ⟨rfl, rfl⟩ : A0 = some ⟨gr, 0, none⟩ ∧ c0 = cr := by simpa using hv
    have hrx : W2.cell? ⟨gr, i, none⟩ = some (.pointer (some ⟨xs[i], 0, none⟩)) := hrd i hix1
    have hEi := hT2.ents.2 i hix1 hi
    clear hrd hv
    refine start_ (n := 14) (S := fun w' => w'.heap[g]? = some (.cells #[.int .i64 room, .int .i64 age, .int .i64 tnow, .slice (some ⟨gr, 0, none⟩) xs.length c0] 50 (0, 0)) ∧ w'.heap[w.heap.size]? = some (.cells #[.int .u32 src, .int .u32 dst, .int .i64 proto, .int .i64 ttl, .int .i64 id, .int .i64 off, .bool more, .bool whole, .string body] 32 (0, 0)) ∧ w'.cell? ⟨gr, i, none⟩ = some (.pointer (some ⟨xs[i], 0, none⟩))) (ds := []) #[false, false, false, false, false, false, false, false, false, false, false, false, false, false] (by kernel_rfl) rfl rfl ⟨blk_drew hT2.blk, blk_drew hp2, hrx⟩ (fun hHeld => ?_)
    have hT4 := hT2.below (Below.refl _ _).drew
    have hE4 := hEi.below (Below.refl _ _).drew
    have hr4 := blk_drew hr2
    have hp4 := blk_drew hp2
    have hi4 := blk_drew hi2
    have hb4 := hb2.drew
    have hrx4 : W2.drew.cell? ⟨gr, i, none⟩ = some (.pointer (some ⟨xs[i], 0, none⟩)) := hrx
    clear hT2 hEi hr2 hp2 hi2 hb2 hrx hd0 hd1 hd2 hd3 hd4 hd5 hd6 hd7 hd8 hg3 hg0 hgl2 hz2
    generalize W2.drew = W4 at hHeld hT4 hE4 hr4 hp4 hi4 hb4 hrx4 ⊢
    refine pure_ (i := 0) (N := some 79) (v := ?_) (a' := ?_) #[true, false, false, false, false, false, false, false, false, false, false, false, false, false] rfl rfl (by kernel_rfl) (fun _ _ _ h => h) (Or.inl ⟨by rfl, ?_⟩) ?_ ?_
    rotate_left
    · intro w'
      go_simp
      with_reducible rfl
    rotate_left
    · simp only [Act.put, List.setIfInBounds_toArray, List.set_cons_zero, List.set_cons_succ, i64_w, i32_w]
      rfl
    refine pure_ (i := 1) (N := some 80) (v := .bool true) (a' := ?_) #[true, true, false, false, false, false, false, false, false, false, false, false, false, false] rfl rfl (by kernel_rfl) (fun _ _ _ h => h) (Or.inl ⟨by rfl, ?_⟩) ?_ ?_
    · intro w'
      go_simp
    rotate_left
    · simp only [Act.put, List.setIfInBounds_toArray, List.set_cons_zero, List.set_cons_succ, i64_w, i32_w]
      rfl
    refine pure_ (i := 2) (N := some 81) (v := ?_) (a' := ?_) #[true, true, true, false, false, false, false, false, false, false, false, false, false, false] rfl rfl (by kernel_rfl) (fun _ _ _ h => h) (Or.inl ⟨by rfl, ?_⟩) ?_ ?_
    rotate_left
    · intro w'
      go_simp
      with_reducible rfl
    rotate_left
    · simp only [Act.put, List.setIfInBounds_toArray, List.set_cons_zero, List.set_cons_succ, i64_w, i32_w]
      rfl
    refine pure_ (i := 3) (N := some 82) (v := ?_) (a' := ?_) #[true, true, true, true, false, false, false, false, false, false, false, false, false, false] rfl rfl (by kernel_rfl) (fun _ _ _ h => h) (Or.inl ⟨by rfl, ?_⟩) ?_ ?_
    rotate_left
    · intro w'
      go_simp
      with_reducible rfl
    rotate_left
    · simp only [Act.put, List.setIfInBounds_toArray, List.set_cons_zero, List.set_cons_succ, i64_w, i32_w]
      rfl
    refine pure_ (i := 4) (N := some 83) (v := ?_) (a' := ?_) #[true, true, true, true, true, false, false, false, false, false, false, false, false, false] rfl rfl (by kernel_rfl) (fun _ _ _ h => h) (Or.inl ⟨by rfl, ?_⟩) ?_ ?_
    rotate_left
    · intro w'
      go_simp
      with_reducible rfl
    rotate_left
    · simp only [Act.put, List.setIfInBounds_toArray, List.set_cons_zero, List.set_cons_succ, i64_w, i32_w]
      rfl
    refine pure_ (i := 5) (N := some 84) (v := ?_) (a' := ?_) #[true, true, true, true, true, true, false, false, false, false, false, false, false, false] rfl rfl (by kernel_rfl) (fun _ _ _ h => h) (Or.inl ⟨by rfl, ?_⟩) ?_ ?_
    rotate_left
    · intro w'
      go_simp
      with_reducible rfl
    rotate_left
    · simp only [Act.put, List.setIfInBounds_toArray, List.set_cons_zero, List.set_cons_succ, i64_w, i32_w]
      rfl
    refine take_ (i := 6) (N := some 85) (v := ?_) (a' := ?_) #[true, true, true, true, true, true, true, false, false, false, false, false, false, false] rfl rfl (by kernel_rfl) (fun _ _ _ h => h) (Or.inl ⟨by rfl, ?_⟩) hHeld ?_ ?_
    rotate_left
    · rintro w' ⟨s0, s1, s2⟩
      have k3 : w'.cell? ⟨g, 3, none⟩ = some (.slice (some ⟨gr, 0, none⟩) xs.length c0) := (blk_cell s0 3).trans rfl
      go_simp
      with_reducible rfl
    rotate_left
    · simp only [Act.put, List.setIfInBounds_toArray, List.set_cons_zero, List.set_cons_succ, i64_w, i32_w]
      rfl
    refine pure_ (i := 7) (N := some 86) (v := ?_) (a' := ?_) #[true, true, true, true, true, true, true, true, false, false, false, false, false, false] rfl rfl (by kernel_rfl) (fun _ _ _ h => h) (Or.inl ⟨by rfl, ?_⟩) ?_ ?_
    rotate_left
    · intro w'
      go_simp
      with_reducible rfl
    rotate_left
    · simp only [Act.put, List.setIfInBounds_toArray, List.set_cons_zero, List.set_cons_succ, i64_w, i32_w]
      rfl
    refine pure_ (i := 8) (N := some 87) (v := ?_) (a' := ?_) #[true, true, true, true, true, true, true, true, true, false, false, false, false, false] rfl rfl (by kernel_rfl) (fun _ _ _ h => h) (Or.inl ⟨by rfl, ?_⟩) ?_ ?_
    rotate_left
    · intro w'
      go_simp
      with_reducible rfl
    rotate_left
    · simp only [Act.put, List.setIfInBounds_toArray, List.set_cons_zero, List.set_cons_succ, i64_w, i32_w]
      rfl
    refine take_ (i := 9) (N := some 88) (v := ?_) (a' := ?_) #[true, true, true, true, true, true, true, true, true, true, false, false, false, false] rfl rfl (by kernel_rfl) (fun _ _ _ h => h) (Or.inl ⟨by rfl, ?_⟩) hHeld ?_ ?_
    rotate_left
    · rintro w' ⟨s0, s1, s2⟩
      go_simp
      with_reducible rfl
    rotate_left
    · simp only [Act.put, List.setIfInBounds_toArray, List.set_cons_zero, List.set_cons_succ, i64_w, i32_w]
      rfl
    refine take_ (i := 10) (N := some 89) (v := ?_) (a' := ?_) #[true, true, true, true, true, true, true, true, true, true, true, false, false, false] rfl rfl (by kernel_rfl) (fun _ _ _ h => h) (Or.inl ⟨by rfl, ?_⟩) hHeld ?_ ?_
    rotate_left
    · rintro w' ⟨s0, s1, s2⟩
      obtain ⟨q0, q1, q2, q3, q4, q5, q6, q7, q8⟩ := pk_cells' s1
      go_simp
      with_reducible rfl
    rotate_left
    · simp only [Act.put, List.setIfInBounds_toArray, List.set_cons_zero, List.set_cons_succ, i64_w, i32_w]
      rfl
    refine one_ (i := 11) (N := some 90) #[true, true, true, true, true, true, true, true, true, true, true, true, false, false] rfl rfl (by kernel_rfl) (by decide) (fun K hK => ?_)
    refine call_ 24 #[.pointer (some ⟨xs[i], 0, none⟩), .agg #[.int .u32 src, .int .u32 dst, .int .i64 proto, .int .i64 ttl, .int .i64 id, .int .i64 off, .bool more, .bool whole, .string body]] (by rfl) rfl (by go_simp) ?_
    have hwr := wrong_in B xs[i] E[i] ⟨src, dst, proto, ttl, id, off, more, whole, body⟩ ⟨hx0, by show off + (body.size : Int) ≤ 100000; omega⟩ W4 hE4
    rw [HW.out] at hwr
    refine hwr.mono ?_
    rintro e w5 ⟨rfl, o5, rfl⟩
    have hT5 := hT4.alloc o5
    have hE5 := hE4.below ((Below.refl _ _).alloc (Nat.le_refl _) o5)
    have hr5 := blk_alloc hr4 o5
    have hp5 := blk_alloc hp4 o5
    have hi5 := blk_alloc hi4 o5
    have hb5 := hb4.alloc (by have := hb4.size; omega) o5
    have hgr4 := hgrl
    have hrx5 : (W4.alloc o5).cell? ⟨gr, i, none⟩ = some (.pointer (some ⟨xs[i], 0, none⟩)) := Lib.cell?_alloc_some o5 hrx4
    refine ⟨_, rfl, hK.out _ _ ⟨hT5.blk, hp5, hrx5⟩ (fun hHeld => ?_)⟩
    clear hK K hT4 hE4 hr4 hp4 hi4 hb4 hrx4 hwr
    generalize W4.alloc o5 = W2 at hHeld hT5 hE5 hr5 hp5 hi5 hb5 hrx5 ⊢
    refine norm_ (a' := ?_) ?_ ?_
    rotate_left
    · show Act.put _ (some 90) _ = _
      simp only [Act.put, List.setIfInBounds_toArray, List.set_cons_zero, List.set_cons_succ, i64_w, i32_w]
      rfl
    refine pure_ (i := 12) (N := some 91) (v := ?_) (a' := ?_) #[true, true, true, true, true, true, true, true, true, true, true, true, true, false] rfl rfl (by kernel_rfl) (fun _ _ _ h => h) (Or.inl ⟨by rfl, ?_⟩) ?_ ?_
    rotate_left
    · intro w'
      go_simp
      with_reducible rfl
    rotate_left
    · simp only [Act.put, List.setIfInBounds_toArray, List.set_cons_zero, List.set_cons_succ, i64_w, i32_w]
      rfl
    refine pure_ (i := 13) (N := some 78) (v := ?_) (a' := ?_) #[true, true, true, true, true, true, true, true, true, true, true, true, true, true] rfl rfl (by kernel_rfl) (fun _ _ _ h => h) (Or.inl ⟨by rfl, ?_⟩) ?_ ?_
    rotate_left
    · intro w'
      go_simp
      with_reducible rfl
    rotate_left
    · simp only [Act.put, List.setIfInBounds_toArray, List.set_cons_zero, List.set_cons_succ, i64_w, i32_w]
      rfl
    refine done_ (by kernel_rfl) ?_
    have hT2 := hT5
    have hEi := hE5
    have hr2 := hr5
    have hp2 := hp5
    have hi2 := hi5
    have hb2 := hb5
    have hrx := hrx5
    clear hT5 hE5 hr5 hp5 hi5 hb5 hrx5
    obtain ⟨hd0, hd1, hd2, hd3, hd4, hd5, hd6, hd7, hd8⟩ := pk_cells' hp2
    have hgl2 := blk_lt hT2.blk
    have hz2 := blk_lt hi2
    go_wp2_with (first | (refine gate_ (.store 32 (.tmp 6) (.tmp 92)) rfl ?_; refine wpList_store_part rfl 32 (.tmp 6) (.tmp 92) rfl rfl (packV zeroPk) #[.int .u32 0, .int .u32 0, .int .i64 0, .int .i64 0, .int .i64 0, .int .i64 0, .bool false, .bool false, .string ⟨#[]⟩] rfl rfl rfl hr2 sizeP rfl (pk_one _ _ _ _ _ _ _ _ _) _ rfl ?_))
    intro W3 hr3 hg3
    obtain ⟨hc0, hc1, hc2, hc3, hc4, hc5, hc6, hc7, hc8⟩ := pk_cells' hr3
    go_wp2
    refine bodyPost_ret (v := .tuple #[packV zeroPk, .bool false, .int .i64 3]) ?_ rfl ⟨rfl, ?_⟩
    · simp [results, Try.results10, go_sem, packV, zeroPk, hc0, hc1, hc2, hc3, hc4, hc5, hc6, hc7, hc8]
    · exact hb2.grown hg3 (by omega) (fun k hk => by have := Option.some.inj hk; omega)

  clear HK4
  obtain ⟨_, _, _, _, _, hd5, hd6, _, _⟩ := pk_cells' hp1
  by_cases hoff : off = 0
  · obtain rfl : more = true := hfr.resolve_left (fun h => h hoff)
    subst hoff
    go_wp2
    exact hmid _ _ _ _ _ _ _ _ _ _ _ _ _ _ _ _ _ _ _
  · have hob : (off == 0) = false := beq_eq_false_iff_ne.mpr hoff
    go_wp2
    exact hmid _ _ _ _ _ _ _ _ _ _ _ _ _ _ _ _ _ _ _

set_option maxHeartbeats 8000000 in
set_option maxRecDepth 100000 in
/-- A further fragment of a packet, of which some are still missing. -/
theorem in_more (B g : Nat) (room age tnow now : Int) (lv : Value) (xs : List Nat) (E : List Ent) (p : Pk) (hs : p.body.size ≤ 100000) (hc : p.chk = 0) (hfr : p.off ≠ 0 ∨ p.more = true) (hn : 0 ≤ now ∧ now ≤ 1000000000) (hcn : tnow ≤ now) (hl : E.length ≤ 64) (w : World) (hT : TabAt w B g room age tnow lv xs E) (hx : 0 ≤ p.off ∧ p.off + p.body.size ≤ 1500) (i : Nat) (hi : i < E.length) (hik : pkEq E[i].key p.key = true) (hib : ∀ j (hj : j < i), pkEq (E[j]'(by omega)).key p.key = false) (hEok : ∀ y ∈ E[i].ps, 0 ≤ y.1 ∧ y.1 + y.2.size ≤ 1500) (hEl : E[i].ps.length ≤ 90000) (hw : E[i].wrong p = false) (hj : (E[i].add p).joined = none) :
    Calls Try.prog 10 #[.pointer (some ⟨g, 0, none⟩), .agg #[.int .u32 p.src, .int .u32 p.dst, .int .i64 p.proto, .int .i64 p.ttl, .int .i64 p.id, .int .i64 p.off, .bool p.more, .bool p.whole, .string p.body], .int .i64 now] w fun e w' =>
      e = .returned (.tuple #[packV zeroPk, .bool false, .int .i64 0]) ∧ TabAt w' B g room age now lv xs (E.set i (E[i].add p)) ∧ Only (fun k => k = g ∨ some k = lv.ownBlock ∨ k ∈ xs) w w' := by
  have hck := fun W => chk_calls p (by omega) W
  rw [hc] at hck
  have hchk := hc
  clear hc
  obtain ⟨src, dst, proto, ttl, id, off, more, whole, body⟩ := p
  simp only at hck hs hfr ⊢
  have htm := fun W (h : TabBlk W g room age tnow lv) => time_ok room age tnow now lv g hn hcn W h
  go_enter Try.func10, Try.ntmps10
  apply wp_seq_k
  intro K0 hK0
  have HK0 := Lib.hid hK0
  clear hK0
  go_wp2
  refine HK0.out _ _ ?_
  clear HK0
  apply wp_seq_k
  intro K1 hK1
  have HK1 := Lib.hid hK1
  clear hK1
  go_wp2_with (go_at_call 20; refine (hck _).mono ?_; rintro e w1 ⟨rfl, hb⟩; obtain ⟨hp1, hr1, hb1, hz1⟩ := two_new hb)
  have hT1 := hT.below hb1
  clear hb hck
  refine HK1.out _ _ ?_
  clear HK1
  apply wp_seq_k
  intro K2 hK2
  have HK2 := Lib.hid hK2
  clear hK2
  go_wp2_with (go_at_call 21; refine (htm _ hT1.blk).mono ?_; rintro e w2 ⟨rfl, rfl⟩)
  clear htm
  refine HK2.out _ _ ?_
  clear HK2
  apply wp_seq_k
  intro K3 hK3
  have HK3 := Lib.hid hK3
  clear hK3
  go_wp2
  refine HK3.out _ _ ?_
  clear HK3
  apply wp_seq_k
  intro K4 hK4
  have HK4 := Lib.hid hK4
  clear hK4
  have hmid : ∀ (v14 v15 v16 v17 v18 v19 v20 v21 v22 v23 v24 v25 v26 v27 v28 v29 v30 v31 v32 : Value), K4 { tmps := #[.pointer (some ⟨g, 0, none⟩), .agg #[.int .u32 src, .int .u32 dst, .int .i64 proto, .int .i64 ttl, .int .i64 id, .int .i64 off, .bool more, .bool whole, .string body], .int .i64 now, undef, .pointer (some ⟨w.heap.size, 0, none⟩), undef, .pointer (some ⟨w.heap.size + 1, 0, none⟩), .bool false, .int .i64 0, .int .i64 0, undef, undef, undef, undef, v14, v15, v16, v17, v18, v19, v20, v21, v22, v23, v24, v25, v26, v27, v28, v29, v30, v31, v32, undef, undef, undef, undef, undef, undef, undef, undef, undef, undef, undef, undef, undef, undef, undef, undef, undef, undef, undef, undef, undef, undef, undef, undef, undef, undef, undef, undef, undef, undef, undef, undef, undef, undef, undef, undef, undef, undef, undef, undef, undef, undef, undef, undef, undef, undef, undef, undef, undef, undef, undef, undef, undef, undef, undef, undef, undef, undef, undef, undef, undef, undef, undef, undef, undef, undef, undef, undef, undef, undef, undef, undef, undef, undef, undef, undef, undef, undef, undef, undef, undef, undef, undef, undef, undef, undef, undef, undef, undef, undef, undef, undef, undef, undef, undef, undef, undef, undef, undef, undef, undef, undef, undef, undef, undef, undef, undef, undef, undef, undef, undef, undef, undef, undef, undef, undef, undef, undef], defers := [] } w1 := by
    intro v14 v15 v16 v17 v18 v19 v20 v21 v22 v23 v24 v25 v26 v27 v28 v29 v30 v31 v32
    refine HK4.out _ _ ?_
    clear HK4
    obtain ⟨A0, c0, rfl⟩ := own_slice hT1.row
    obtain ⟨hd0, hd1, hd2, hd3, hd4, hd5, hd6, hd7, hd8⟩ := pk_cells' hp1
    have hgl := blk_lt hT1.blk
    have hg3 : w1.cell? ⟨g, 3, none⟩ = some (.slice A0 xs.length c0) := (blk_cell hT1.blk 3).trans rfl
    have hxl : xs.length ≤ 64 := by have := hT.ents.1; omega
    have hix := index_calls B w1.heap.size xs E ⟨src, dst, proto, ttl, id, off, more, whole, body⟩ (.slice A0 xs.length c0) (w1.alloc (.cells #[.int .u32 src, .int .u32 dst, .int .i64 proto, .int .i64 0, .int .i64 id, .int .i64 0, .bool false, .bool false, .string ⟨#[]⟩] 32 (0, 0))) (hT1.alloc _).row (hT1.alloc _).ents (blk_new w1 _) (by omega) i (.inr ⟨i, rfl, hi, hik, hib⟩)
    have hT1a := hT1.alloc (.cells #[.int .u32 src, .int .u32 dst, .int .i64 proto, .int .i64 0, .int .i64 id, .int .i64 0, .bool false, .bool false, .string ⟨#[]⟩] 32 (0, 0))
    have hp1a := blk_alloc hp1 (.cells #[.int .u32 src, .int .u32 dst, .int .i64 proto, .int .i64 0, .int .i64 id, .int .i64 0, .bool false, .bool false, .string ⟨#[]⟩] 32 (0, 0))
    have hr1a := blk_alloc hr1 (.cells #[.int .u32 src, .int .u32 dst, .int .i64 proto, .int .i64 0, .int .i64 id, .int .i64 0, .bool false, .bool false, .string ⟨#[]⟩] 32 (0, 0))
    have hi1a := blk_new w1 (.cells #[.int .u32 src, .int .u32 dst, .int .i64 proto, .int .i64 0, .int .i64 id, .int .i64 0, .bool false, .bool false, .string ⟨#[]⟩] 32 (0, 0))
    have hb1a := hb1.alloc (by omega) (.cells #[.int .u32 src, .int .u32 dst, .int .i64 proto, .int .i64 0, .int .i64 id, .int .i64 0, .bool false, .bool false, .string ⟨#[]⟩] 32 (0, 0))
    have hx1 : off + (body.size : Int) ≤ 1500 := hx.2
    have hx0 : 0 ≤ off := hx.1
    have HJ := Lib.hid hj
    clear hj
    have HW := Lib.hid hw
    clear hw hik hib
    have hn1 : ¬ (i : Int) < 0 := by omega
    have hn2 : 0 ≤ (i : Int) := by omega
    have hix1 : i < xs.length := by rw [hT.ents.1]; exact hi
    have hiz : (i : Int) < (xs.length : Int) := by omega
    have e4 : IntKind.i64.wrap (off + (body.size : Int)) = off + (body.size : Int) := IntWalk.i64_in _ (by omega)
    go_wp2_with (first | (go_at_call 22; refine hix.mono ?_; rintro e w2 ⟨rfl, m, rfl⟩; have hT2 := hT1a.drewN m; have hp2 := blk_drewN hp1a m; have hr2 := blk_drewN hr1a m; have hi2 := blk_drewN hi1a m; have hb2 := pw_below_drewN hb1a m; clear hix hg3 hd0 hd1 hd2 hd3 hd4 hd5 hd6 hd7 hd8 hT1a hp1a hr1a hi1a hb1a; generalize (w1.alloc (.cells #[.int .u32 src, .int .u32 dst, .int .i64 proto, .int .i64 0, .int .i64 id, .int .i64 0, .bool false, .bool false, .string ⟨#[]⟩] 32 (0, 0))).drewN m = W2 at hT2 hp2 hr2 hi2 hb2 ⊢; have hz2 := blk_lt hi2; obtain ⟨hd0, hd1, hd2, hd3, hd4, hd5, hd6, hd7, hd8⟩ := pk_cells' hp2; have hgl2 := blk_lt hT2.blk; have hg3 : W2.cell? ⟨g, 3, none⟩ = some (.slice A0 xs.length c0) := (blk_cell hT2.blk 3).trans rfl; have hg0 : W2.cell? ⟨g, 0, none⟩ = some (.int .i64 room) := (blk_cell hT2.blk 0).trans rfl))
    have hq1 : decide ((i : Int) < 0) = false := decide_eq_false (by omega)
    go_quiet (fail)
    have hT3 := hT2.drewN nq
    have hp3 := blk_drewN hp2 nq
    have hr3' := blk_drewN hr2 nq
    have hi3 := blk_drewN hi2 nq
    have hb3 := pw_below_drewN hb2 nq
    clear hd0 hd1 hd2 hd3 hd4 hd5 hd6 hd7 hd8 hT2 hp2 hr2 hi2 hb2 hz2 hgl2 hg3 hg0
    generalize W2.drewN nq = W2 at hT3 hp3 hr3' hi3 hb3 ⊢
    have hT2 := hT3
    have hp2 := hp3
    have hr2 := hr3'
    have hi2 := hi3
    have hb2 := hb3
    clear hT3 hp3 hr3' hi3 hb3
    have hz2 := blk_lt hi2
    obtain ⟨hd0, hd1, hd2, hd3, hd4, hd5, hd6, hd7, hd8⟩ := pk_cells' hp2
    have hgl2 := blk_lt hT2.blk
    have hg3 : W2.cell? ⟨g, 3, none⟩ = some (.slice A0 xs.length c0) := (blk_cell hT2.blk 3).trans rfl
    have hg0 : W2.cell? ⟨g, 0, none⟩ = some (.int .i64 room) := (blk_cell hT2.blk 0).trans rfl
    go_wp2
    obtain ⟨gr, cr, hv, _, hgrl, hrd⟩ := ptr_read hT2.row (by omega)
    obtain ⟨rfl, rfl⟩ : A0 = some ⟨gr, 0, none⟩ ∧ c0 = cr := by simpa using hv
    have hrx : W2.cell? ⟨gr, i, none⟩ = some (.pointer (some ⟨xs[i], 0, none⟩)) := hrd i hix1
    have hEi := hT2.ents.2 i hix1 hi
    clear hrd hv
    refine start_ (n := 14) (S := fun w' => w'.heap[g]? = some (.cells #[.int .i64 room, .int .i64 age, .int .i64 tnow, .slice (some ⟨gr, 0, none⟩) xs.length c0] 50 (0, 0)) ∧ w'.heap[w.heap.size]? = some (.cells #[.int .u32 src, .int .u32 dst, .int .i64 proto, .int .i64 ttl, .int .i64 id, .int .i64 off, .bool more, .bool whole, .string body] 32 (0, 0)) ∧ w'.cell? ⟨gr, i, none⟩ = some (.pointer (some ⟨xs[i], 0, none⟩))) (ds := []) #[false, false, false, false, false, false, false, false, false, false, false, false, false, false] (by kernel_rfl) rfl rfl ⟨blk_drew hT2.blk, blk_drew hp2, hrx⟩ (fun hHeld => ?_)
    have hT4 := hT2.below (Below.refl _ _).drew
    have hE4 := hEi.below (Below.refl _ _).drew
    have hr4 := blk_drew hr2
    have hp4 := blk_drew hp2
    have hi4 := blk_drew hi2
    have hb4 := hb2.drew
    have hrx4 : W2.drew.cell? ⟨gr, i, none⟩ = some (.pointer (some ⟨xs[i], 0, none⟩)) := hrx
    clear hT2 hEi hr2 hp2 hi2 hb2 hrx hd0 hd1 hd2 hd3 hd4 hd5 hd6 hd7 hd8 hg3 hg0 hgl2 hz2
    generalize W2.drew = W4 at hHeld hT4 hE4 hr4 hp4 hi4 hb4 hrx4 ⊢
    refine pure_ (i := 0) (N := some 79) (v := ?_) (a' := ?_) #[true, false, false, false, false, false, false, false, false, false, false, false, false, false] rfl rfl (by kernel_rfl) (fun _ _ _ h => h) (Or.inl ⟨by rfl, ?_⟩) ?_ ?_
    rotate_left
    · intro w'
      go_simp
      with_reducible rfl
    rotate_left
    · simp only [Act.put, List.setIfInBounds_toArray, List.set_cons_zero, List.set_cons_succ, i64_w, i32_w]
      rfl
    refine pure_ (i := 1) (N := some 80) (v := .bool true) (a' := ?_) #[true, true, false, false, false, false, false, false, false, false, false, false, false, false] rfl rfl (by kernel_rfl) (fun _ _ _ h => h) (Or.inl ⟨by rfl, ?_⟩) ?_ ?_
    · intro w'
      go_simp
    rotate_left
    · simp only [Act.put, List.setIfInBounds_toArray, List.set_cons_zero, List.set_cons_succ, i64_w, i32_w]
      rfl
    refine pure_ (i := 2) (N := some 81) (v := ?_) (a' := ?_) #[true, true, true, false, false, false, false, false, false, false, false, false, false, false] rfl rfl (by kernel_rfl) (fun _ _ _ h => h) (Or.inl ⟨by rfl, ?_⟩) ?_ ?_
    rotate_left
    · intro w'
      go_simp
      with_reducible rfl
    rotate_left
    · simp only [Act.put, List.setIfInBounds_toArray, List.set_cons_zero, List.set_cons_succ, i64_w, i32_w]
      rfl
    refine pure_ (i := 3) (N := some 82) (v := ?_) (a' := ?_) #[true, true, true, true, false, false, false, false, false, false, false, false, false, false] rfl rfl (by kernel_rfl) (fun _ _ _ h => h) (Or.inl ⟨by rfl, ?_⟩) ?_ ?_
    rotate_left
    · intro w'
      go_simp
      with_reducible rfl
    rotate_left
    · simp only [Act.put, List.setIfInBounds_toArray, List.set_cons_zero, List.set_cons_succ, i64_w, i32_w]
      rfl
    refine pure_ (i := 4) (N := some 83) (v := ?_) (a' := ?_) #[true, true, true, true, true, false, false, false, false, false, false, false, false, false] rfl rfl (by kernel_rfl) (fun _ _ _ h => h) (Or.inl ⟨by rfl, ?_⟩) ?_ ?_
    rotate_left
    · intro w'
      go_simp
      with_reducible rfl
    rotate_left
    · simp only [Act.put, List.setIfInBounds_toArray, List.set_cons_zero, List.set_cons_succ, i64_w, i32_w]
      rfl
    refine pure_ (i := 5) (N := some 84) (v := ?_) (a' := ?_) #[true, true, true, true, true, true, false, false, false, false, false, false, false, false] rfl rfl (by kernel_rfl) (fun _ _ _ h => h) (Or.inl ⟨by rfl, ?_⟩) ?_ ?_
    rotate_left
    · intro w'
      go_simp
      with_reducible rfl
    rotate_left
    · simp only [Act.put, List.setIfInBounds_toArray, List.set_cons_zero, List.set_cons_succ, i64_w, i32_w]
      rfl
    refine take_ (i := 6) (N := some 85) (v := ?_) (a' := ?_) #[true, true, true, true, true, true, true, false, false, false, false, false, false, false] rfl rfl (by kernel_rfl) (fun _ _ _ h => h) (Or.inl ⟨by rfl, ?_⟩) hHeld ?_ ?_
    rotate_left
    · rintro w' ⟨s0, s1, s2⟩
      have k3 : w'.cell? ⟨g, 3, none⟩ = some (.slice (some ⟨gr, 0, none⟩) xs.length c0) := (blk_cell s0 3).trans rfl
      go_simp
      with_reducible rfl
    rotate_left
    · simp only [Act.put, List.setIfInBounds_toArray, List.set_cons_zero, List.set_cons_succ, i64_w, i32_w]
      rfl
    refine pure_ (i := 7) (N := some 86) (v := ?_) (a' := ?_) #[true, true, true, true, true, true, true, true, false, false, false, false, false, false] rfl rfl (by kernel_rfl) (fun _ _ _ h => h) (Or.inl ⟨by rfl, ?_⟩) ?_ ?_
    rotate_left
    · intro w'
      go_simp
      with_reducible rfl
    rotate_left
    · simp only [Act.put, List.setIfInBounds_toArray, List.set_cons_zero, List.set_cons_succ, i64_w, i32_w]
      rfl
    refine pure_ (i := 8) (N := some 87) (v := ?_) (a' := ?_) #[true, true, true, true, true, true, true, true, true, false, false, false, false, false] rfl rfl (by kernel_rfl) (fun _ _ _ h => h) (Or.inl ⟨by rfl, ?_⟩) ?_ ?_
    rotate_left
    · intro w'
      go_simp
      with_reducible rfl
    rotate_left
    · simp only [Act.put, List.setIfInBounds_toArray, List.set_cons_zero, List.set_cons_succ, i64_w, i32_w]
      rfl
    refine take_ (i := 9) (N := some 88) (v := ?_) (a' := ?_) #[true, true, true, true, true, true, true, true, true, true, false, false, false, false] rfl rfl (by kernel_rfl) (fun _ _ _ h => h) (Or.inl ⟨by rfl, ?_⟩) hHeld ?_ ?_
    rotate_left
    · rintro w' ⟨s0, s1, s2⟩
      go_simp
      with_reducible rfl
    rotate_left
    · simp only [Act.put, List.setIfInBounds_toArray, List.set_cons_zero, List.set_cons_succ, i64_w, i32_w]
      rfl
    refine take_ (i := 10) (N := some 89) (v := ?_) (a' := ?_) #[true, true, true, true, true, true, true, true, true, true, true, false, false, false] rfl rfl (by kernel_rfl) (fun _ _ _ h => h) (Or.inl ⟨by rfl, ?_⟩) hHeld ?_ ?_
    rotate_left
    · rintro w' ⟨s0, s1, s2⟩
      obtain ⟨q0, q1, q2, q3, q4, q5, q6, q7, q8⟩ := pk_cells' s1
      go_simp
      with_reducible rfl
    rotate_left
    · simp only [Act.put, List.setIfInBounds_toArray, List.set_cons_zero, List.set_cons_succ, i64_w, i32_w]
      rfl
    refine one_ (i := 11) (N := some 90) #[true, true, true, true, true, true, true, true, true, true, true, true, false, false] rfl rfl (by kernel_rfl) (by decide) (fun K hK => ?_)
    refine call_ 24 #[.pointer (some ⟨xs[i], 0, none⟩), .agg #[.int .u32 src, .int .u32 dst, .int .i64 proto, .int .i64 ttl, .int .i64 id, .int .i64 off, .bool more, .bool whole, .string body]] (by rfl) rfl (by go_simp) ?_
    have hwr := wrong_in B xs[i] E[i] ⟨src, dst, proto, ttl, id, off, more, whole, body⟩ ⟨hx0, by show off + (body.size : Int) ≤ 100000; omega⟩ W4 hE4
    rw [HW.out] at hwr
    refine hwr.mono ?_
    rintro e w5 ⟨rfl, o5, rfl⟩
    have hT5 := hT4.alloc o5
    have hE5 := hE4.below ((Below.refl _ _).alloc (Nat.le_refl _) o5)
    have hr5 := blk_alloc hr4 o5
    have hp5 := blk_alloc hp4 o5
    have hi5 := blk_alloc hi4 o5
    have hb5 := hb4.alloc (by have := hb4.size; omega) o5
    have hgr4 := hgrl
    have hrx5 : (W4.alloc o5).cell? ⟨gr, i, none⟩ = some (.pointer (some ⟨xs[i], 0, none⟩)) := Lib.cell?_alloc_some o5 hrx4
    refine ⟨_, rfl, hK.out _ _ ⟨hT5.blk, hp5, hrx5⟩ (fun hHeld => ?_)⟩
    clear hK K hT4 hE4 hr4 hp4 hi4 hb4 hrx4 hwr
    generalize W4.alloc o5 = W2 at hHeld hT5 hE5 hr5 hp5 hi5 hb5 hrx5 ⊢
    refine norm_ (a' := ?_) ?_ ?_
    rotate_left
    · show Act.put _ (some 90) _ = _
      simp only [Act.put, List.setIfInBounds_toArray, List.set_cons_zero, List.set_cons_succ, i64_w, i32_w]
      rfl
    refine pure_ (i := 12) (N := some 91) (v := ?_) (a' := ?_) #[true, true, true, true, true, true, true, true, true, true, true, true, true, false] rfl rfl (by kernel_rfl) (fun _ _ _ h => h) (Or.inl ⟨by rfl, ?_⟩) ?_ ?_
    rotate_left
    · intro w'
      go_simp
      with_reducible rfl
    rotate_left
    · simp only [Act.put, List.setIfInBounds_toArray, List.set_cons_zero, List.set_cons_succ, i64_w, i32_w]
      rfl
    refine pure_ (i := 13) (N := some 78) (v := ?_) (a' := ?_) #[true, true, true, true, true, true, true, true, true, true, true, true, true, true] rfl rfl (by kernel_rfl) (fun _ _ _ h => h) (Or.inl ⟨by rfl, ?_⟩) ?_ ?_
    rotate_left
    · intro w'
      go_simp
      with_reducible rfl
    rotate_left
    · simp only [Act.put, List.setIfInBounds_toArray, List.set_cons_zero, List.set_cons_succ, i64_w, i32_w]
      rfl
    refine done_ (by kernel_rfl) ?_
    have hT2 := hT5
    have hEi := hE5
    have hr2 := hr5
    have hp2 := hp5
    have hi2 := hi5
    have hb2 := hb5
    have hrx := hrx5
    clear hT5 hE5 hr5 hp5 hi5 hb5 hrx5
    obtain ⟨hd0, hd1, hd2, hd3, hd4, hd5, hd6, hd7, hd8⟩ := pk_cells' hp2
    have hgl2 := blk_lt hT2.blk
    have hz2 := blk_lt hi2
    go_wp2_with (first | (refine gate_ (.store 3 (.tmp 96) (.tmp 94)) rfl ?_; refine wpList_store_cell rfl 3 (.tmp 96) (.tmp 94) rfl rfl (.int .i64 now) rfl rfl rfl rfl hT2.blk size1_3 rfl #[.int .i64 room, .int .i64 age, .int .i64 now, .slice (some ⟨gr, 0, none⟩) xs.length c0] rfl ?_))
    intro W3 hx3 hgn
    have hT3 := hT2.now hx3 hgn
    have hgb := blk_lt hT.blk
    have hr3 := blk_grown hr2 hgn (fun e => by have := Option.some.inj e; omega)
    have hp3 := blk_grown hp2 hgn (fun e => by have := Option.some.inj e; omega)
    have ho3 := (Only.of_below (S := fun k => k = g ∨ some k = (Value.slice (some ⟨gr, 0, none⟩) xs.length c0).ownBlock ∨ k ∈ xs) hb2).grown hgn (fun k hk => .inl (.inl (Option.some.inj hk).symm))
    clear hd0 hd1 hd2 hd3 hd4 hd5 hd6 hd7 hd8 hT2 hp2 hr2 hi2 hb2 hgl2 hgn hx3 hrx hEi hz2
    have hg3 : W3.cell? ⟨g, 3, none⟩ = some (.slice (some ⟨gr, 0, none⟩) xs.length c0) := (blk_cell hT3.blk 3).trans rfl
    have hgl3 := blk_lt hT3.blk
    go_wp2
    obtain ⟨gr', cr', hv', _, hgrl', hrd'⟩ := ptr_read hT3.row (by omega)
    obtain ⟨rfl, rfl⟩ : gr = gr' ∧ c0 = cr' := by simpa using hv'
    have hrx : W3.cell? ⟨gr, i, none⟩ = some (.pointer (some ⟨xs[i], 0, none⟩)) := hrd' i hix1
    have hEi := hT3.ents.2 i hix1 hi
    clear hrd' hv'
    refine start_ (n := 9) (S := fun w' => w'.heap[g]? = some (.cells #[.int .i64 room, .int .i64 age, .int .i64 now, .slice (some ⟨gr, 0, none⟩) xs.length c0] 50 (0, 0)) ∧ w'.heap[w.heap.size]? = some (.cells #[.int .u32 src, .int .u32 dst, .int .i64 proto, .int .i64 ttl, .int .i64 id, .int .i64 off, .bool more, .bool whole, .string body] 32 (0, 0)) ∧ w'.cell? ⟨gr, i, none⟩ = some (.pointer (some ⟨xs[i], 0, none⟩))) (ds := [8]) #[false, false, false, false, false, false, false, false, false] (by kernel_rfl) rfl rfl ⟨blk_drew hT3.blk, blk_drew hp3, hrx⟩ (fun hHeld => ?_)
    have hT11 := hT3.below (Below.refl _ _).drew
    have hEx11 := hEi.below (Below.refl _ _).drew
    have hr11 := blk_drew hr3
    have hp11 := blk_drew hp3
    have ho11 := ho3.drew
    clear hT3 hEi hr3 hp3 ho3 hrx hg3 hgl3
    generalize W3.drew = W11 at hHeld hT11 hEx11 hr11 hp11 ho11 ⊢
    refine pure_ (i := 0) (N := some 117) (v := ?_) (a' := ?_) #[true, false, false, false, false, false, false, false, false] rfl rfl (by kernel_rfl) (fun _ _ _ h => h) (Or.inl ⟨by rfl, ?_⟩) ?_ ?_
    rotate_left
    · intro w'
      go_simp
      with_reducible rfl
    rotate_left
    · simp only [Act.put, List.setIfInBounds_toArray, List.set_cons_zero, List.set_cons_succ, i64_w, i32_w]
      rfl
    refine pure_ (i := 1) (N := some 118) (v := ?_) (a' := ?_) #[true, true, false, false, false, false, false, false, false] rfl rfl (by kernel_rfl) (fun _ _ _ h => h) (Or.inl ⟨by rfl, ?_⟩) ?_ ?_
    rotate_left
    · intro w'
      go_simp
      with_reducible rfl
    rotate_left
    · simp only [Act.put, List.setIfInBounds_toArray, List.set_cons_zero, List.set_cons_succ, i64_w, i32_w]
      rfl
    refine pure_ (i := 2) (N := some 119) (v := ?_) (a' := ?_) #[true, true, true, false, false, false, false, false, false] rfl rfl (by kernel_rfl) (fun _ _ _ h => h) (Or.inl ⟨by rfl, ?_⟩) ?_ ?_
    rotate_left
    · intro w'
      go_simp
      with_reducible rfl
    rotate_left
    · simp only [Act.put, List.setIfInBounds_toArray, List.set_cons_zero, List.set_cons_succ, i64_w, i32_w]
      rfl
    refine take_ (i := 3) (N := some 120) (v := ?_) (a' := ?_) #[true, true, true, true, false, false, false, false, false] rfl rfl (by kernel_rfl) (fun _ _ _ h => h) (Or.inl ⟨by rfl, ?_⟩) hHeld ?_ ?_
    rotate_left
    · rintro w' ⟨s0, s1, s2⟩
      have k3 : w'.cell? ⟨g, 3, none⟩ = some (.slice (some ⟨gr, 0, none⟩) xs.length c0) := (blk_cell s0 3).trans rfl
      go_simp
      with_reducible rfl
    rotate_left
    · simp only [Act.put, List.setIfInBounds_toArray, List.set_cons_zero, List.set_cons_succ, i64_w, i32_w]
      rfl
    refine pure_ (i := 4) (N := some 121) (v := ?_) (a' := ?_) #[true, true, true, true, true, false, false, false, false] rfl rfl (by kernel_rfl) (fun _ _ _ h => h) (Or.inl ⟨by rfl, ?_⟩) ?_ ?_
    rotate_left
    · intro w'
      go_simp
      with_reducible rfl
    rotate_left
    · simp only [Act.put, List.setIfInBounds_toArray, List.set_cons_zero, List.set_cons_succ, i64_w, i32_w]
      rfl
    refine pure_ (i := 5) (N := some 122) (v := ?_) (a' := ?_) #[true, true, true, true, true, true, false, false, false] rfl rfl (by kernel_rfl) (fun _ _ _ h => h) (Or.inl ⟨by rfl, ?_⟩) ?_ ?_
    rotate_left
    · intro w'
      go_simp
      with_reducible rfl
    rotate_left
    · simp only [Act.put, List.setIfInBounds_toArray, List.set_cons_zero, List.set_cons_succ, i64_w, i32_w]
      rfl
    refine take_ (i := 6) (N := some 123) (v := ?_) (a' := ?_) #[true, true, true, true, true, true, true, false, false] rfl rfl (by kernel_rfl) (fun _ _ _ h => h) (Or.inl ⟨by rfl, ?_⟩) hHeld ?_ ?_
    rotate_left
    · rintro w' ⟨s0, s1, s2⟩
      go_simp
      with_reducible rfl
    rotate_left
    · simp only [Act.put, List.setIfInBounds_toArray, List.set_cons_zero, List.set_cons_succ, i64_w, i32_w]
      rfl
    refine take_ (i := 7) (N := some 124) (v := ?_) (a' := ?_) #[true, true, true, true, true, true, true, true, false] rfl rfl (by kernel_rfl) (fun _ _ _ h => h) (Or.inl ⟨by rfl, ?_⟩) hHeld ?_ ?_
    rotate_left
    · rintro w' ⟨s0, s1, s2⟩
      obtain ⟨q0, q1, q2, q3, q4, q5, q6, q7, q8⟩ := pk_cells' s1
      go_simp
      with_reducible rfl
    rotate_left
    · simp only [Act.put, List.setIfInBounds_toArray, List.set_cons_zero, List.set_cons_succ, i64_w, i32_w]
      rfl
    refine last_ (i := 8) (N := some 125) #[true, true, true, true, true, true, true, true, true] rfl rfl (by kernel_rfl) (by decide) (fun K hK => ?_)
    refine call_ 25 #[.pointer (some ⟨xs[i], 0, none⟩), .agg #[.int .u32 src, .int .u32 dst, .int .i64 proto, .int .i64 ttl, .int .i64 id, .int .i64 off, .bool more, .bool whole, .string body]] (by rfl) rfl (by go_simp) ?_
    refine (add_calls B xs[i] E[i] ⟨src, dst, proto, ttl, id, off, more, whole, body⟩ hx hEok (by omega) W11 hEx11 hT11.hBw).mono ?_
    rintro e w12 ⟨rfl, hE12, ho12⟩
    refine ⟨_, rfl, hK.out _ _ ?_⟩
    clear hK K
    refine norm_ (a' := ?_) ?_ ?_
    rotate_left
    · show Act.put _ (some 125) _ = _
      simp only [Act.put, List.setIfInBounds_toArray, List.set_cons_zero, List.set_cons_succ, i64_w, i32_w]
      rfl
    refine done_ (by kernel_rfl) ?_
    have hT12 := hT11.upd hix1 hE12 ho12
    have hr12 := ho12.blk hr11 (fun e => blk_ne hr11 (hEx11.2.choose_spec.1) (by decide) e)
    have ho12' := ho11.then_ ho12 (fun k hk => .inl (.inr (.inr (by rw [hk]; exact List.getElem_mem hix1))))
    obtain ⟨gr2, cr2, hv2, _, hgrl2, hrd2⟩ := ptr_read hT12.row (by omega)
    obtain ⟨rfl, rfl⟩ : gr = gr2 ∧ c0 = cr2 := by simpa using hv2
    have hrx3 : w12.cell? ⟨gr, i, none⟩ = some (.pointer (some ⟨xs[i], 0, none⟩)) := hrd2 i hix1
    have hg12 : w12.cell? ⟨g, 3, none⟩ = some (.slice (some ⟨gr, 0, none⟩) xs.length c0) := (blk_cell hT12.blk 3).trans rfl
    have hgl12 := blk_lt hT12.blk
    have hwh := whole_calls B xs[i] (E[i].add ⟨src, dst, proto, ttl, id, off, more, whole, body⟩) (ins_ok 1500 E[i].ps off body hx0 hx1 hEok) (by have h := ins_len E[i].ps off body; show (ins off body E[i].ps).length ≤ _; omega) w12 hE12
    skip
    unfold Ent.wholeV at hwh
    rw [HJ.out] at hwh
    simp only [packV, zeroPk] at hwh
    clear hrd2 hv2 hT11 hEx11 hr11 hp11 ho11 hHeld
    go_wp2_with (first | (go_at_call 26; refine hwh.mono ?_; rintro e w13 ⟨rfl, hb13⟩; have hT13 := (hT12.below hb13).alloc (.cells #[.int .u32 0, .int .u32 0, .int .i64 0, .int .i64 0, .int .i64 0, .int .i64 0, .bool false, .bool false, .string ⟨#[]⟩] 32 (0, 0)); have hr13 := blk_alloc (blk_below hr12 hb13) (.cells #[.int .u32 0, .int .u32 0, .int .i64 0, .int .i64 0, .int .i64 0, .int .i64 0, .bool false, .bool false, .string ⟨#[]⟩] 32 (0, 0)); have ho13 := (ho12'.below1 hb13).alloc (.cells #[.int .u32 0, .int .u32 0, .int .i64 0, .int .i64 0, .int .i64 0, .int .i64 0, .bool false, .bool false, .string ⟨#[]⟩] 32 (0, 0))) | (refine gate_ (.store 32 (.tmp 6) (.tmp 149)) rfl ?_; refine wpList_store_part rfl 32 (.tmp 6) (.tmp 149) rfl rfl (packV zeroPk) #[.int .u32 0, .int .u32 0, .int .i64 0, .int .i64 0, .int .i64 0, .int .i64 0, .bool false, .bool false, .string ⟨#[]⟩] rfl rfl rfl hr13 sizeP rfl (pk_one _ _ _ _ _ _ _ _ _) _ rfl ?_))
    intro W5 hr5 hg5
    obtain ⟨hc0, hc1, hc2, hc3, hc4, hc5, hc6, hc7, hc8⟩ := pk_cells' hr5
    go_wp2
    refine bodyPost_ret (v := .tuple #[packV zeroPk, .bool false, .int .i64 0]) ?_ rfl ⟨rfl, hT13.far hg5 hr13, ho13.grown hg5 (fun k hk => .inr (by have := Option.some.inj hk; omega))⟩
    simp [results, Try.results10, go_sem, packV, zeroPk, hc0, hc1, hc2, hc3, hc4, hc5, hc6, hc7, hc8]

  clear HK4
  obtain ⟨_, _, _, _, _, hd5, hd6, _, _⟩ := pk_cells' hp1
  by_cases hoff : off = 0
  · obtain rfl : more = true := hfr.resolve_left (fun h => h hoff)
    subst hoff
    go_wp2
    exact hmid _ _ _ _ _ _ _ _ _ _ _ _ _ _ _ _ _ _ _
  · have hob : (off == 0) = false := beq_eq_false_iff_ne.mpr hoff
    go_wp2
    exact hmid _ _ _ _ _ _ _ _ _ _ _ _ _ _ _ _ _ _ _

set_option maxHeartbeats 8000000 in
set_option maxRecDepth 100000 in
/-- The last fragment of a packet that was missing. -/
theorem in_done (B g : Nat) (room age tnow now : Int) (lv : Value) (xs : List Nat) (E : List Ent) (p : Pk) (hs : p.body.size ≤ 100000) (hc : p.chk = 0) (hfr : p.off ≠ 0 ∨ p.more = true) (hn : 0 ≤ now ∧ now ≤ 1000000000) (hcn : tnow ≤ now) (hl : E.length ≤ 64) (w : World) (hT : TabAt w B g room age tnow lv xs E) (hx : 0 ≤ p.off ∧ p.off + p.body.size ≤ 1500) (i : Nat) (hi : i < E.length) (hik : pkEq E[i].key p.key = true) (hib : ∀ j (hj : j < i), pkEq (E[j]'(by omega)).key p.key = false) (hEok : ∀ y ∈ E[i].ps, 0 ≤ y.1 ∧ y.1 + y.2.size ≤ 1500) (hEl : E[i].ps.length ≤ 90000) (hw : E[i].wrong p = false) (s : ByteArray) (e2 : Ent) (he2 : E[i].add p = e2) (hj : e2.joined = some s) :
    Calls Try.prog 10 #[.pointer (some ⟨g, 0, none⟩), .agg #[.int .u32 p.src, .int .u32 p.dst, .int .i64 p.proto, .int .i64 p.ttl, .int .i64 p.id, .int .i64 p.off, .bool p.more, .bool p.whole, .string p.body], .int .i64 now] w fun e w' =>
      e = .returned (.tuple #[packV (e2.out s), .bool true, .int .i64 0]) ∧ ∃ lv2, TabAt w' B g room age now lv2 (xs.eraseIdx i) (E.eraseIdx i) ∧ Only (fun k => k = g ∨ some k = lv.ownBlock ∨ k ∈ xs) w w' := by
  have hck := fun W => chk_calls p (by omega) W
  rw [hc] at hck
  have hchk := hc
  clear hc
  obtain ⟨src, dst, proto, ttl, id, off, more, whole, body⟩ := p
  simp only at hck hs hfr ⊢
  have htm := fun W (h : TabBlk W g room age tnow lv) => time_ok room age tnow now lv g hn hcn W h
  go_enter Try.func10, Try.ntmps10
  apply wp_seq_k
  intro K0 hK0
  have HK0 := Lib.hid hK0
  clear hK0
  go_wp2
  refine HK0.out _ _ ?_
  clear HK0
  apply wp_seq_k
  intro K1 hK1
  have HK1 := Lib.hid hK1
  clear hK1
  go_wp2_with (go_at_call 20; refine (hck _).mono ?_; rintro e w1 ⟨rfl, hb⟩; obtain ⟨hp1, hr1, hb1, hz1⟩ := two_new hb)
  have hT1 := hT.below hb1
  clear hb hck
  refine HK1.out _ _ ?_
  clear HK1
  apply wp_seq_k
  intro K2 hK2
  have HK2 := Lib.hid hK2
  clear hK2
  go_wp2_with (go_at_call 21; refine (htm _ hT1.blk).mono ?_; rintro e w2 ⟨rfl, rfl⟩)
  clear htm
  refine HK2.out _ _ ?_
  clear HK2
  apply wp_seq_k
  intro K3 hK3
  have HK3 := Lib.hid hK3
  clear hK3
  go_wp2
  refine HK3.out _ _ ?_
  clear HK3
  apply wp_seq_k
  intro K4 hK4
  have HK4 := Lib.hid hK4
  clear hK4
  have hmid : ∀ (v14 v15 v16 v17 v18 v19 v20 v21 v22 v23 v24 v25 v26 v27 v28 v29 v30 v31 v32 : Value), K4 { tmps := #[.pointer (some ⟨g, 0, none⟩), .agg #[.int .u32 src, .int .u32 dst, .int .i64 proto, .int .i64 ttl, .int .i64 id, .int .i64 off, .bool more, .bool whole, .string body], .int .i64 now, undef, .pointer (some ⟨w.heap.size, 0, none⟩), undef, .pointer (some ⟨w.heap.size + 1, 0, none⟩), .bool false, .int .i64 0, .int .i64 0, undef, undef, undef, undef, v14, v15, v16, v17, v18, v19, v20, v21, v22, v23, v24, v25, v26, v27, v28, v29, v30, v31, v32, undef, undef, undef, undef, undef, undef, undef, undef, undef, undef, undef, undef, undef, undef, undef, undef, undef, undef, undef, undef, undef, undef, undef, undef, undef, undef, undef, undef, undef, undef, undef, undef, undef, undef, undef, undef, undef, undef, undef, undef, undef, undef, undef, undef, undef, undef, undef, undef, undef, undef, undef, undef, undef, undef, undef, undef, undef, undef, undef, undef, undef, undef, undef, undef, undef, undef, undef, undef, undef, undef, undef, undef, undef, undef, undef, undef, undef, undef, undef, undef, undef, undef, undef, undef, undef, undef, undef, undef, undef, undef, undef, undef, undef, undef, undef, undef, undef, undef, undef, undef, undef, undef, undef, undef, undef, undef, undef, undef, undef, undef, undef, undef, undef, undef, undef, undef, undef, undef], defers := [] } w1 := by
    intro v14 v15 v16 v17 v18 v19 v20 v21 v22 v23 v24 v25 v26 v27 v28 v29 v30 v31 v32
    refine HK4.out _ _ ?_
    clear HK4
    obtain ⟨A0, c0, rfl⟩ := own_slice hT1.row
    obtain ⟨hd0, hd1, hd2, hd3, hd4, hd5, hd6, hd7, hd8⟩ := pk_cells' hp1
    have hgl := blk_lt hT1.blk
    have hg3 : w1.cell? ⟨g, 3, none⟩ = some (.slice A0 xs.length c0) := (blk_cell hT1.blk 3).trans rfl
    have hxl : xs.length ≤ 64 := by have := hT.ents.1; omega
    have hix := index_calls B w1.heap.size xs E ⟨src, dst, proto, ttl, id, off, more, whole, body⟩ (.slice A0 xs.length c0) (w1.alloc (.cells #[.int .u32 src, .int .u32 dst, .int .i64 proto, .int .i64 0, .int .i64 id, .int .i64 0, .bool false, .bool false, .string ⟨#[]⟩] 32 (0, 0))) (hT1.alloc _).row (hT1.alloc _).ents (blk_new w1 _) (by omega) i (.inr ⟨i, rfl, hi, hik, hib⟩)
    have hT1a := hT1.alloc (.cells #[.int .u32 src, .int .u32 dst, .int .i64 proto, .int .i64 0, .int .i64 id, .int .i64 0, .bool false, .bool false, .string ⟨#[]⟩] 32 (0, 0))
    have hp1a := blk_alloc hp1 (.cells #[.int .u32 src, .int .u32 dst, .int .i64 proto, .int .i64 0, .int .i64 id, .int .i64 0, .bool false, .bool false, .string ⟨#[]⟩] 32 (0, 0))
    have hr1a := blk_alloc hr1 (.cells #[.int .u32 src, .int .u32 dst, .int .i64 proto, .int .i64 0, .int .i64 id, .int .i64 0, .bool false, .bool false, .string ⟨#[]⟩] 32 (0, 0))
    have hi1a := blk_new w1 (.cells #[.int .u32 src, .int .u32 dst, .int .i64 proto, .int .i64 0, .int .i64 id, .int .i64 0, .bool false, .bool false, .string ⟨#[]⟩] 32 (0, 0))
    have hb1a := hb1.alloc (by omega) (.cells #[.int .u32 src, .int .u32 dst, .int .i64 proto, .int .i64 0, .int .i64 id, .int .i64 0, .bool false, .bool false, .string ⟨#[]⟩] 32 (0, 0))
    have hx1 : off + (body.size : Int) ≤ 1500 := hx.2
    have hx0 : 0 ≤ off := hx.1
    have HE2 := Lib.hid he2
    clear he2
    have HJ := Lib.hid hj
    clear hj
    have HW := Lib.hid hw
    clear hw hik hib
    have hn1 : ¬ (i : Int) < 0 := by omega
    have hn2 : 0 ≤ (i : Int) := by omega
    have hix1 : i < xs.length := by rw [hT.ents.1]; exact hi
    have hiz : (i : Int) < (xs.length : Int) := by omega
    have e4 : IntKind.i64.wrap (off + (body.size : Int)) = off + (body.size : Int) := IntWalk.i64_in _ (by omega)
    go_wp2_with (first | (go_at_call 22; refine hix.mono ?_; rintro e w2 ⟨rfl, m, rfl⟩; have hT2 := hT1a.drewN m; have hp2 := blk_drewN hp1a m; have hr2 := blk_drewN hr1a m; have hi2 := blk_drewN hi1a m; have hb2 := pw_below_drewN hb1a m; clear hix hg3 hd0 hd1 hd2 hd3 hd4 hd5 hd6 hd7 hd8 hT1a hp1a hr1a hi1a hb1a; generalize (w1.alloc (.cells #[.int .u32 src, .int .u32 dst, .int .i64 proto, .int .i64 0, .int .i64 id, .int .i64 0, .bool false, .bool false, .string ⟨#[]⟩] 32 (0, 0))).drewN m = W2 at hT2 hp2 hr2 hi2 hb2 ⊢; have hz2 := blk_lt hi2; obtain ⟨hd0, hd1, hd2, hd3, hd4, hd5, hd6, hd7, hd8⟩ := pk_cells' hp2; have hgl2 := blk_lt hT2.blk; have hg3 : W2.cell? ⟨g, 3, none⟩ = some (.slice A0 xs.length c0) := (blk_cell hT2.blk 3).trans rfl; have hg0 : W2.cell? ⟨g, 0, none⟩ = some (.int .i64 room) := (blk_cell hT2.blk 0).trans rfl))
    have hq1 : decide ((i : Int) < 0) = false := decide_eq_false (by omega)
    go_quiet (fail)
    have hT3 := hT2.drewN nq
    have hp3 := blk_drewN hp2 nq
    have hr3' := blk_drewN hr2 nq
    have hi3 := blk_drewN hi2 nq
    have hb3 := pw_below_drewN hb2 nq
    clear hd0 hd1 hd2 hd3 hd4 hd5 hd6 hd7 hd8 hT2 hp2 hr2 hi2 hb2 hz2 hgl2 hg3 hg0
    generalize W2.drewN nq = W2 at hT3 hp3 hr3' hi3 hb3 ⊢
    have hT2 := hT3
    have hp2 := hp3
    have hr2 := hr3'
    have hi2 := hi3
    have hb2 := hb3
    clear hT3 hp3 hr3' hi3 hb3
    have hz2 := blk_lt hi2
    obtain ⟨hd0, hd1, hd2, hd3, hd4, hd5, hd6, hd7, hd8⟩ := pk_cells' hp2
    have hgl2 := blk_lt hT2.blk
    have hg3 : W2.cell? ⟨g, 3, none⟩ = some (.slice A0 xs.length c0) := (blk_cell hT2.blk 3).trans rfl
    have hg0 : W2.cell? ⟨g, 0, none⟩ = some (.int .i64 room) := (blk_cell hT2.blk 0).trans rfl
    go_wp2
    obtain ⟨gr, cr, hv, _, hgrl, hrd⟩ := ptr_read hT2.row (by omega)
    obtain ⟨rfl, rfl⟩ : A0 = some ⟨gr, 0, none⟩ ∧ c0 = cr := by simpa using hv
    have hrx : W2.cell? ⟨gr, i, none⟩ = some (.pointer (some ⟨xs[i], 0, none⟩)) := hrd i hix1
    have hEi := hT2.ents.2 i hix1 hi
    clear hrd hv
    refine start_ (n := 14) (S := fun w' => w'.heap[g]? = some (.cells #[.int .i64 room, .int .i64 age, .int .i64 tnow, .slice (some ⟨gr, 0, none⟩) xs.length c0] 50 (0, 0)) ∧ w'.heap[w.heap.size]? = some (.cells #[.int .u32 src, .int .u32 dst, .int .i64 proto, .int .i64 ttl, .int .i64 id, .int .i64 off, .bool more, .bool whole, .string body] 32 (0, 0)) ∧ w'.cell? ⟨gr, i, none⟩ = some (.pointer (some ⟨xs[i], 0, none⟩))) (ds := []) #[false, false, false, false, false, false, false, false, false, false, false, false, false, false] (by kernel_rfl) rfl rfl ⟨blk_drew hT2.blk, blk_drew hp2, hrx⟩ (fun hHeld => ?_)
    have hT4 := hT2.below (Below.refl _ _).drew
    have hE4 := hEi.below (Below.refl _ _).drew
    have hr4 := blk_drew hr2
    have hp4 := blk_drew hp2
    have hi4 := blk_drew hi2
    have hb4 := hb2.drew
    have hrx4 : W2.drew.cell? ⟨gr, i, none⟩ = some (.pointer (some ⟨xs[i], 0, none⟩)) := hrx
    clear hT2 hEi hr2 hp2 hi2 hb2 hrx hd0 hd1 hd2 hd3 hd4 hd5 hd6 hd7 hd8 hg3 hg0 hgl2 hz2
    generalize W2.drew = W4 at hHeld hT4 hE4 hr4 hp4 hi4 hb4 hrx4 ⊢
    refine pure_ (i := 0) (N := some 79) (v := ?_) (a' := ?_) #[true, false, false, false, false, false, false, false, false, false, false, false, false, false] rfl rfl (by kernel_rfl) (fun _ _ _ h => h) (Or.inl ⟨by rfl, ?_⟩) ?_ ?_
    rotate_left
    · intro w'
      go_simp
      with_reducible rfl
    rotate_left
    · simp only [Act.put, List.setIfInBounds_toArray, List.set_cons_zero, List.set_cons_succ, i64_w, i32_w]
      rfl
    refine pure_ (i := 1) (N := some 80) (v := .bool true) (a' := ?_) #[true, true, false, false, false, false, false, false, false, false, false, false, false, false] rfl rfl (by kernel_rfl) (fun _ _ _ h => h) (Or.inl ⟨by rfl, ?_⟩) ?_ ?_
    · intro w'
      go_simp
    rotate_left
    · simp only [Act.put, List.setIfInBounds_toArray, List.set_cons_zero, List.set_cons_succ, i64_w, i32_w]
      rfl
    refine pure_ (i := 2) (N := some 81) (v := ?_) (a' := ?_) #[true, true, true, false, false, false, false, false, false, false, false, false, false, false] rfl rfl (by kernel_rfl) (fun _ _ _ h => h) (Or.inl ⟨by rfl, ?_⟩) ?_ ?_
    rotate_left
    · intro w'
      go_simp
      with_reducible rfl
    rotate_left
    · simp only [Act.put, List.setIfInBounds_toArray, List.set_cons_zero, List.set_cons_succ, i64_w, i32_w]
      rfl
    refine pure_ (i := 3) (N := some 82) (v := ?_) (a' := ?_) #[true, true, true, true, false, false, false, false, false, false, false, false, false, false] rfl rfl (by kernel_rfl) (fun _ _ _ h => h) (Or.inl ⟨by rfl, ?_⟩) ?_ ?_
    rotate_left
    · intro w'
      go_simp
      with_reducible rfl
    rotate_left
    · simp only [Act.put, List.setIfInBounds_toArray, List.set_cons_zero, List.set_cons_succ, i64_w, i32_w]
      rfl
    refine pure_ (i := 4) (N := some 83) (v := ?_) (a' := ?_) #[true, true, true, true, true, false, false, false, false, false, false, false, false, false] rfl rfl (by kernel_rfl) (fun _ _ _ h => h) (Or.inl ⟨by rfl, ?_⟩) ?_ ?_
    rotate_left
    · intro w'
      go_simp
      with_reducible rfl
    rotate_left
    · simp only [Act.put, List.setIfInBounds_toArray, List.set_cons_zero, List.set_cons_succ, i64_w, i32_w]
      rfl
    refine pure_ (i := 5) (N := some 84) (v := ?_) (a' := ?_) #[true, true, true, true, true, true, false, false, false, false, false, false, false, false] rfl rfl (by kernel_rfl) (fun _ _ _ h => h) (Or.inl ⟨by rfl, ?_⟩) ?_ ?_
    rotate_left
    · intro w'
      go_simp
      with_reducible rfl
    rotate_left
    · simp only [Act.put, List.setIfInBounds_toArray, List.set_cons_zero, List.set_cons_succ, i64_w, i32_w]
      rfl
    refine take_ (i := 6) (N := some 85) (v := ?_) (a' := ?_) #[true, true, true, true, true, true, true, false, false, false, false, false, false, false] rfl rfl (by kernel_rfl) (fun _ _ _ h => h) (Or.inl ⟨by rfl, ?_⟩) hHeld ?_ ?_
    rotate_left
    · rintro w' ⟨s0, s1, s2⟩
      have k3 : w'.cell? ⟨g, 3, none⟩ = some (.slice (some ⟨gr, 0, none⟩) xs.length c0) := (blk_cell s0 3).trans rfl
      go_simp
      with_reducible rfl
    rotate_left
    · simp only [Act.put, List.setIfInBounds_toArray, List.set_cons_zero, List.set_cons_succ, i64_w, i32_w]
      rfl
    refine pure_ (i := 7) (N := some 86) (v := ?_) (a' := ?_) #[true, true, true, true, true, true, true, true, false, false, false, false, false, false] rfl rfl (by kernel_rfl) (fun _ _ _ h => h) (Or.inl ⟨by rfl, ?_⟩) ?_ ?_
    rotate_left
    · intro w'
      go_simp
      with_reducible rfl
    rotate_left
    · simp only [Act.put, List.setIfInBounds_toArray, List.set_cons_zero, List.set_cons_succ, i64_w, i32_w]
      rfl
    refine pure_ (i := 8) (N := some 87) (v := ?_) (a' := ?_) #[true, true, true, true, true, true, true, true, true, false, false, false, false, false] rfl rfl (by kernel_rfl) (fun _ _ _ h => h) (Or.inl ⟨by rfl, ?_⟩) ?_ ?_
    rotate_left
    · intro w'
      go_simp
      with_reducible rfl
    rotate_left
    · simp only [Act.put, List.setIfInBounds_toArray, List.set_cons_zero, List.set_cons_succ, i64_w, i32_w]
      rfl
    refine take_ (i := 9) (N := some 88) (v := ?_) (a' := ?_) #[true, true, true, true, true, true, true, true, true, true, false, false, false, false] rfl rfl (by kernel_rfl) (fun _ _ _ h => h) (Or.inl ⟨by rfl, ?_⟩) hHeld ?_ ?_
    rotate_left
    · rintro w' ⟨s0, s1, s2⟩
      go_simp
      with_reducible rfl
    rotate_left
    · simp only [Act.put, List.setIfInBounds_toArray, List.set_cons_zero, List.set_cons_succ, i64_w, i32_w]
      rfl
    refine take_ (i := 10) (N := some 89) (v := ?_) (a' := ?_) #[true, true, true, true, true, true, true, true, true, true, true, false, false, false] rfl rfl (by kernel_rfl) (fun _ _ _ h => h) (Or.inl ⟨by rfl, ?_⟩) hHeld ?_ ?_
    rotate_left
    · rintro w' ⟨s0, s1, s2⟩
      obtain ⟨q0, q1, q2, q3, q4, q5, q6, q7, q8⟩ := pk_cells' s1
      go_simp
      with_reducible rfl
    rotate_left
    · simp only [Act.put, List.setIfInBounds_toArray, List.set_cons_zero, List.set_cons_succ, i64_w, i32_w]
      rfl
    refine one_ (i := 11) (N := some 90) #[true, true, true, true, true, true, true, true, true, true, true, true, false, false] rfl rfl (by kernel_rfl) (by decide) (fun K hK => ?_)
    refine call_ 24 #[.pointer (some ⟨xs[i], 0, none⟩), .agg #[.int .u32 src, .int .u32 dst, .int .i64 proto, .int .i64 ttl, .int .i64 id, .int .i64 off, .bool more, .bool whole, .string body]] (by rfl) rfl (by go_simp) ?_
    have hwr := wrong_in B xs[i] E[i] ⟨src, dst, proto, ttl, id, off, more, whole, body⟩ ⟨hx0, by show off + (body.size : Int) ≤ 100000; omega⟩ W4 hE4
    rw [HW.out] at hwr
    refine hwr.mono ?_
    rintro e w5 ⟨rfl, o5, rfl⟩
    have hT5 := hT4.alloc o5
    have hE5 := hE4.below ((Below.refl _ _).alloc (Nat.le_refl _) o5)
    have hr5 := blk_alloc hr4 o5
    have hp5 := blk_alloc hp4 o5
    have hi5 := blk_alloc hi4 o5
    have hb5 := hb4.alloc (by have := hb4.size; omega) o5
    have hgr4 := hgrl
    have hrx5 : (W4.alloc o5).cell? ⟨gr, i, none⟩ = some (.pointer (some ⟨xs[i], 0, none⟩)) := Lib.cell?_alloc_some o5 hrx4
    refine ⟨_, rfl, hK.out _ _ ⟨hT5.blk, hp5, hrx5⟩ (fun hHeld => ?_)⟩
    clear hK K hT4 hE4 hr4 hp4 hi4 hb4 hrx4 hwr
    generalize W4.alloc o5 = W2 at hHeld hT5 hE5 hr5 hp5 hi5 hb5 hrx5 ⊢
    refine norm_ (a' := ?_) ?_ ?_
    rotate_left
    · show Act.put _ (some 90) _ = _
      simp only [Act.put, List.setIfInBounds_toArray, List.set_cons_zero, List.set_cons_succ, i64_w, i32_w]
      rfl
    refine pure_ (i := 12) (N := some 91) (v := ?_) (a' := ?_) #[true, true, true, true, true, true, true, true, true, true, true, true, true, false] rfl rfl (by kernel_rfl) (fun _ _ _ h => h) (Or.inl ⟨by rfl, ?_⟩) ?_ ?_
    rotate_left
    · intro w'
      go_simp
      with_reducible rfl
    rotate_left
    · simp only [Act.put, List.setIfInBounds_toArray, List.set_cons_zero, List.set_cons_succ, i64_w, i32_w]
      rfl
    refine pure_ (i := 13) (N := some 78) (v := ?_) (a' := ?_) #[true, true, true, true, true, true, true, true, true, true, true, true, true, true] rfl rfl (by kernel_rfl) (fun _ _ _ h => h) (Or.inl ⟨by rfl, ?_⟩) ?_ ?_
    rotate_left
    · intro w'
      go_simp
      with_reducible rfl
    rotate_left
    · simp only [Act.put, List.setIfInBounds_toArray, List.set_cons_zero, List.set_cons_succ, i64_w, i32_w]
      rfl
    refine done_ (by kernel_rfl) ?_
    have hT2 := hT5
    have hEi := hE5
    have hr2 := hr5
    have hp2 := hp5
    have hi2 := hi5
    have hb2 := hb5
    have hrx := hrx5
    clear hT5 hE5 hr5 hp5 hi5 hb5 hrx5
    obtain ⟨hd0, hd1, hd2, hd3, hd4, hd5, hd6, hd7, hd8⟩ := pk_cells' hp2
    have hgl2 := blk_lt hT2.blk
    have hz2 := blk_lt hi2
    go_wp2_with (first | (refine gate_ (.store 3 (.tmp 96) (.tmp 94)) rfl ?_; refine wpList_store_cell rfl 3 (.tmp 96) (.tmp 94) rfl rfl (.int .i64 now) rfl rfl rfl rfl hT2.blk size1_3 rfl #[.int .i64 room, .int .i64 age, .int .i64 now, .slice (some ⟨gr, 0, none⟩) xs.length c0] rfl ?_))
    intro W3 hx3 hgn
    have hT3 := hT2.now hx3 hgn
    have hgb := blk_lt hT.blk
    have hr3 := blk_grown hr2 hgn (fun e => by have := Option.some.inj e; omega)
    have hp3 := blk_grown hp2 hgn (fun e => by have := Option.some.inj e; omega)
    have ho3 := (Only.of_below (S := fun k => k = g ∨ some k = (Value.slice (some ⟨gr, 0, none⟩) xs.length c0).ownBlock ∨ k ∈ xs) hb2).grown hgn (fun k hk => .inl (.inl (Option.some.inj hk).symm))
    clear hd0 hd1 hd2 hd3 hd4 hd5 hd6 hd7 hd8 hT2 hp2 hr2 hi2 hb2 hgl2 hgn hx3 hrx hEi hz2
    have hg3 : W3.cell? ⟨g, 3, none⟩ = some (.slice (some ⟨gr, 0, none⟩) xs.length c0) := (blk_cell hT3.blk 3).trans rfl
    have hgl3 := blk_lt hT3.blk
    go_wp2
    obtain ⟨gr', cr', hv', _, hgrl', hrd'⟩ := ptr_read hT3.row (by omega)
    obtain ⟨rfl, rfl⟩ : gr = gr' ∧ c0 = cr' := by simpa using hv'
    have hrx : W3.cell? ⟨gr, i, none⟩ = some (.pointer (some ⟨xs[i], 0, none⟩)) := hrd' i hix1
    have hEi := hT3.ents.2 i hix1 hi
    clear hrd' hv'
    refine start_ (n := 9) (S := fun w' => w'.heap[g]? = some (.cells #[.int .i64 room, .int .i64 age, .int .i64 now, .slice (some ⟨gr, 0, none⟩) xs.length c0] 50 (0, 0)) ∧ w'.heap[w.heap.size]? = some (.cells #[.int .u32 src, .int .u32 dst, .int .i64 proto, .int .i64 ttl, .int .i64 id, .int .i64 off, .bool more, .bool whole, .string body] 32 (0, 0)) ∧ w'.cell? ⟨gr, i, none⟩ = some (.pointer (some ⟨xs[i], 0, none⟩))) (ds := [8]) #[false, false, false, false, false, false, false, false, false] (by kernel_rfl) rfl rfl ⟨blk_drew hT3.blk, blk_drew hp3, hrx⟩ (fun hHeld => ?_)
    have hT11 := hT3.below (Below.refl _ _).drew
    have hEx11 := hEi.below (Below.refl _ _).drew
    have hr11 := blk_drew hr3
    have hp11 := blk_drew hp3
    have ho11 := ho3.drew
    clear hT3 hEi hr3 hp3 ho3 hrx hg3 hgl3
    generalize W3.drew = W11 at hHeld hT11 hEx11 hr11 hp11 ho11 ⊢
    refine pure_ (i := 0) (N := some 117) (v := ?_) (a' := ?_) #[true, false, false, false, false, false, false, false, false] rfl rfl (by kernel_rfl) (fun _ _ _ h => h) (Or.inl ⟨by rfl, ?_⟩) ?_ ?_
    rotate_left
    · intro w'
      go_simp
      with_reducible rfl
    rotate_left
    · simp only [Act.put, List.setIfInBounds_toArray, List.set_cons_zero, List.set_cons_succ, i64_w, i32_w]
      rfl
    refine pure_ (i := 1) (N := some 118) (v := ?_) (a' := ?_) #[true, true, false, false, false, false, false, false, false] rfl rfl (by kernel_rfl) (fun _ _ _ h => h) (Or.inl ⟨by rfl, ?_⟩) ?_ ?_
    rotate_left
    · intro w'
      go_simp
      with_reducible rfl
    rotate_left
    · simp only [Act.put, List.setIfInBounds_toArray, List.set_cons_zero, List.set_cons_succ, i64_w, i32_w]
      rfl
    refine pure_ (i := 2) (N := some 119) (v := ?_) (a' := ?_) #[true, true, true, false, false, false, false, false, false] rfl rfl (by kernel_rfl) (fun _ _ _ h => h) (Or.inl ⟨by rfl, ?_⟩) ?_ ?_
    rotate_left
    · intro w'
      go_simp
      with_reducible rfl
    rotate_left
    · simp only [Act.put, List.setIfInBounds_toArray, List.set_cons_zero, List.set_cons_succ, i64_w, i32_w]
      rfl
    refine take_ (i := 3) (N := some 120) (v := ?_) (a' := ?_) #[true, true, true, true, false, false, false, false, false] rfl rfl (by kernel_rfl) (fun _ _ _ h => h) (Or.inl ⟨by rfl, ?_⟩) hHeld ?_ ?_
    rotate_left
    · rintro w' ⟨s0, s1, s2⟩
      have k3 : w'.cell? ⟨g, 3, none⟩ = some (.slice (some ⟨gr, 0, none⟩) xs.length c0) := (blk_cell s0 3).trans rfl
      go_simp
      with_reducible rfl
    rotate_left
    · simp only [Act.put, List.setIfInBounds_toArray, List.set_cons_zero, List.set_cons_succ, i64_w, i32_w]
      rfl
    refine pure_ (i := 4) (N := some 121) (v := ?_) (a' := ?_) #[true, true, true, true, true, false, false, false, false] rfl rfl (by kernel_rfl) (fun _ _ _ h => h) (Or.inl ⟨by rfl, ?_⟩) ?_ ?_
    rotate_left
    · intro w'
      go_simp
      with_reducible rfl
    rotate_left
    · simp only [Act.put, List.setIfInBounds_toArray, List.set_cons_zero, List.set_cons_succ, i64_w, i32_w]
      rfl
    refine pure_ (i := 5) (N := some 122) (v := ?_) (a' := ?_) #[true, true, true, true, true, true, false, false, false] rfl rfl (by kernel_rfl) (fun _ _ _ h => h) (Or.inl ⟨by rfl, ?_⟩) ?_ ?_
    rotate_left
    · intro w'
      go_simp
      with_reducible rfl
    rotate_left
    · simp only [Act.put, List.setIfInBounds_toArray, List.set_cons_zero, List.set_cons_succ, i64_w, i32_w]
      rfl
    refine take_ (i := 6) (N := some 123) (v := ?_) (a' := ?_) #[true, true, true, true, true, true, true, false, false] rfl rfl (by kernel_rfl) (fun _ _ _ h => h) (Or.inl ⟨by rfl, ?_⟩) hHeld ?_ ?_
    rotate_left
    · rintro w' ⟨s0, s1, s2⟩
      go_simp
      with_reducible rfl
    rotate_left
    · simp only [Act.put, List.setIfInBounds_toArray, List.set_cons_zero, List.set_cons_succ, i64_w, i32_w]
      rfl
    refine take_ (i := 7) (N := some 124) (v := ?_) (a' := ?_) #[true, true, true, true, true, true, true, true, false] rfl rfl (by kernel_rfl) (fun _ _ _ h => h) (Or.inl ⟨by rfl, ?_⟩) hHeld ?_ ?_
    rotate_left
    · rintro w' ⟨s0, s1, s2⟩
      obtain ⟨q0, q1, q2, q3, q4, q5, q6, q7, q8⟩ := pk_cells' s1
      go_simp
      with_reducible rfl
    rotate_left
    · simp only [Act.put, List.setIfInBounds_toArray, List.set_cons_zero, List.set_cons_succ, i64_w, i32_w]
      rfl
    refine last_ (i := 8) (N := some 125) #[true, true, true, true, true, true, true, true, true] rfl rfl (by kernel_rfl) (by decide) (fun K hK => ?_)
    refine call_ 25 #[.pointer (some ⟨xs[i], 0, none⟩), .agg #[.int .u32 src, .int .u32 dst, .int .i64 proto, .int .i64 ttl, .int .i64 id, .int .i64 off, .bool more, .bool whole, .string body]] (by rfl) rfl (by go_simp) ?_
    refine (add_calls B xs[i] E[i] ⟨src, dst, proto, ttl, id, off, more, whole, body⟩ hx hEok (by omega) W11 hEx11 hT11.hBw).mono ?_
    rintro e w12 ⟨rfl, hE12, ho12⟩
    refine ⟨_, rfl, hK.out _ _ ?_⟩
    clear hK K
    refine norm_ (a' := ?_) ?_ ?_
    rotate_left
    · show Act.put _ (some 125) _ = _
      simp only [Act.put, List.setIfInBounds_toArray, List.set_cons_zero, List.set_cons_succ, i64_w, i32_w]
      rfl
    refine done_ (by kernel_rfl) ?_
    have hT12 := hT11.upd hix1 hE12 ho12
    have hr12 := ho12.blk hr11 (fun e => blk_ne hr11 (hEx11.2.choose_spec.1) (by decide) e)
    have ho12' := ho11.then_ ho12 (fun k hk => .inl (.inr (.inr (by rw [hk]; exact List.getElem_mem hix1))))
    obtain ⟨gr2, cr2, hv2, _, hgrl2, hrd2⟩ := ptr_read hT12.row (by omega)
    obtain ⟨rfl, rfl⟩ : gr = gr2 ∧ c0 = cr2 := by simpa using hv2
    have hrx3 : w12.cell? ⟨gr, i, none⟩ = some (.pointer (some ⟨xs[i], 0, none⟩)) := hrd2 i hix1
    have hg12 : w12.cell? ⟨g, 3, none⟩ = some (.slice (some ⟨gr, 0, none⟩) xs.length c0) := (blk_cell hT12.blk 3).trans rfl
    have hgl12 := blk_lt hT12.blk
    have hwh := whole_calls B xs[i] (E[i].add ⟨src, dst, proto, ttl, id, off, more, whole, body⟩) (ins_ok 1500 E[i].ps off body hx0 hx1 hEok) (by have h := ins_len E[i].ps off body; show (ins off body E[i].ps).length ≤ _; omega) w12 hE12
    rw [HE2.out] at hT12 hE12 hwh
    unfold Ent.wholeV at hwh
    rw [HJ.out] at hwh
    simp only [packV, Ent.out] at hwh
    clear hrd2 hv2 hT11 hEx11 hr11 hp11 ho11 hHeld
    go_wp2_with (first | (go_at_call 26; refine hwh.mono ?_; rintro e w13 ⟨rfl, hb13⟩; have hT13 := (hT12.below hb13).alloc (.cells #[.int .u32 e2.src, .int .u32 e2.dst, .int .i64 e2.proto, .int .i64 e2.first.ttl, .int .i64 e2.id, .int .i64 0, .bool false, .bool false, .string s] 32 (0, 0)); have hr13 := blk_alloc (blk_below hr12 hb13) (.cells #[.int .u32 e2.src, .int .u32 e2.dst, .int .i64 e2.proto, .int .i64 e2.first.ttl, .int .i64 e2.id, .int .i64 0, .bool false, .bool false, .string s] 32 (0, 0)); have ho13 := (ho12'.below1 hb13).alloc (.cells #[.int .u32 e2.src, .int .u32 e2.dst, .int .i64 e2.proto, .int .i64 e2.first.ttl, .int .i64 e2.id, .int .i64 0, .bool false, .bool false, .string s] 32 (0, 0)); have hq13 := blk_new w13 (.cells #[.int .u32 e2.src, .int .u32 e2.dst, .int .i64 e2.proto, .int .i64 e2.first.ttl, .int .i64 e2.id, .int .i64 0, .bool false, .bool false, .string s] 32 (0, 0)); have hg13 : (w13.alloc (.cells #[.int .u32 e2.src, .int .u32 e2.dst, .int .i64 e2.proto, .int .i64 e2.first.ttl, .int .i64 e2.id, .int .i64 0, .bool false, .bool false, .string s] 32 (0, 0))).cell? ⟨g, 3, none⟩ = some (.slice (some ⟨gr, 0, none⟩) xs.length c0) := (blk_cell hT13.blk 3).trans rfl; have hgl13 := blk_lt hT13.blk; clear hg12 hgl12 hwh hT12 hr12 ho12' hb13 hrx3) | (go_at_call 27; refine (delete_calls B xs _ _ hT13.row i hix1).mono ?_; rintro e w14 ⟨v14', rfl, hvo, hown14, hg14⟩; obtain ⟨A14, c14, rfl⟩ := own_slice hown14; have hx14 := blk_grown hT13.blk hg14 (own_ne hT13.row hT13.blk (by decide)); have hr14 := blk_grown hr13 hg14 (own_ne hT13.row hr13 (by decide)); have hq14 := blk_grown hq13 hg14 (own_ne hT13.row hq13 (by decide)); have ho14 := ho13.grown hg14 (fun k hk => .inl (.inr (.inl hk.symm)))) | (refine gate_ (.store 48 (.tmp 148) (.tmp 146)) rfl ?_; refine wpList_store_cell rfl 48 (.tmp 148) (.tmp 146) rfl rfl (.slice A14 (xs.eraseIdx i).length c14) rfl rfl rfl rfl hx14 size1_48 rfl #[.int .i64 room, .int .i64 age, .int .i64 now, .slice A14 (xs.eraseIdx i).length c14] rfl ?_))
    intro W15 hx15 hg15
    have hT15 := hT13.erase hown14 hg14 hx15 hg15
    have hr15 := blk_grown hr14 hg15 (fun e => blk_ne hx14 hr14 (by decide) (Option.some.inj e).symm)
    have hq15 := blk_grown hq14 hg15 (fun e => blk_ne hx14 hq14 (by decide) (Option.some.inj e).symm)
    have ho15 := ho14.grown hg15 (fun k hk => .inl (.inl (Option.some.inj hk).symm))
    rw [List.eraseIdx_set_eq] at hT15
    clear hx14 hr14 hq14 ho14 hg14 hx15 hg15 hown14 hT13 hr13 ho13 hq13 hg13 hgl13
    obtain ⟨hd0, hd1, hd2, hd3, hd4, hd5, hd6, hd7, hd8⟩ := pk_cells' hq15
    go_wp2_with (refine gate_ (.store 32 (.tmp 6) (.tmp 149)) rfl ?_; refine wpList_store_part rfl 32 (.tmp 6) (.tmp 149) rfl rfl (packV (e2.out s)) #[.int .u32 e2.src, .int .u32 e2.dst, .int .i64 e2.proto, .int .i64 e2.first.ttl, .int .i64 e2.id, .int .i64 0, .bool false, .bool false, .string s] rfl rfl rfl hr15 sizeP rfl (pk_one _ _ _ _ _ _ _ _ _) _ rfl ?_)
    intro W5 hr5 hg5
    obtain ⟨hc0, hc1, hc2, hc3, hc4, hc5, hc6, hc7, hc8⟩ := pk_cells' hr5
    go_wp2
    refine bodyPost_ret (v := .tuple #[packV (e2.out s), .bool true, .int .i64 0]) ?_ rfl ⟨rfl, _, hT15.far hg5 hr15, ho15.grown hg5 (fun k hk => .inr (by have := Option.some.inj hk; omega))⟩
    simp [results, Try.results10, go_sem, packV, Ent.out, hc0, hc1, hc2, hc3, hc4, hc5, hc6, hc7, hc8]

  clear HK4
  obtain ⟨_, _, _, _, _, hd5, hd6, _, _⟩ := pk_cells' hp1
  by_cases hoff : off = 0
  · obtain rfl : more = true := hfr.resolve_left (fun h => h hoff)
    subst hoff
    go_wp2
    exact hmid _ _ _ _ _ _ _ _ _ _ _ _ _ _ _ _ _ _ _
  · have hob : (off == 0) = false := beq_eq_false_iff_ne.mpr hoff
    go_wp2
    exact hmid _ _ _ _ _ _ _ _ _ _ _ _ _ _ _ _ _ _ _

end Go.Proofs.Ytlhfkkionaemhaa.H
