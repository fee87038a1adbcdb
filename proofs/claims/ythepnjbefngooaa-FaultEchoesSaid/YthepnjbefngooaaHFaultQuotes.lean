/- The walk of FaultQuotes: it returns true at every input that the row speaks of. Conditions: the addresses are uint32, which the row gives. -/
import Derived.Test.YthepnjbefngooaaHQuotesPlain
namespace Go.Proofs.Ythepnjbefngooaa.H
set_option linter.unusedSimpArgs false
set_option linter.unusedVariables false
open Go Go.RowKit Go.Proofs.YthepnjbefngooaaW.PrintWords Go.Proofs.YthepnjbefngooaaW.PrintLast Go.Proofs.YthepnjbefngooaaW.PrintMore Go.Proofs.Ythepnjbefngooaa.Plain

/-- The cells of a note's block. -/
theorem note_cells {W : World} {g : Nat} {t : TypeId} {a0 a1 a2 a3 a4 a5 : Int} {a6 : ByteArray} (h : W.heap[g]? = some (.cells #[.int .i64 a0, .int .u32 a1, .int .u32 a2, .int .i64 a3, .int .i64 a4, .int .i64 a5, .string a6] t (0, 0))) :
    W.cell? ⟨g, 0, none⟩ = some (.int .i64 a0) ∧ W.cell? ⟨g, 1, none⟩ = some (.int .u32 a1) ∧ W.cell? ⟨g, 2, none⟩ = some (.int .u32 a2) ∧ W.cell? ⟨g, 3, none⟩ = some (.int .i64 a3) ∧ W.cell? ⟨g, 4, none⟩ = some (.int .i64 a4) ∧ W.cell? ⟨g, 5, none⟩ = some (.int .i64 a5) ∧ W.cell? ⟨g, 6, none⟩ = some (.string a6) :=
  ⟨(blk_cell h 0).trans rfl, (blk_cell h 1).trans rfl, (blk_cell h 2).trans rfl, (blk_cell h 3).trans rfl, (blk_cell h 4).trans rfl, (blk_cell h 5).trans rfl, (blk_cell h 6).trans rfl⟩

set_option maxHeartbeats 8000000 in
set_option maxRecDepth 100000 in
theorem faultQuotes_calls (a0 a1 a2 a3 a4 a5 : Int) (a6 a7 : Bool) (a8 : ByteArray) (why src : Int) (h0 : 0 ≤ a0 ∧ a0 ≤ 4294967295) (h1 : 0 ≤ a1 ∧ a1 ≤ 4294967295) (hsrc : 0 ≤ src ∧ src ≤ 4294967295) (w : World) :
    Calls Try.prog 10 #[.agg #[.int .u32 a0, .int .u32 a1, .int .i64 a2, .int .i64 a3, .int .i64 a4, .int .i64 a5, .bool a6, .bool a7, .string a8], .int .i64 why, .int .u32 src] w fun e w' => e = .returned (.bool true) ∧ Below w.heap.size w w' := by
  go_enter Try.func10, Try.ntmps10
  go_wp2_with (first | (go_at_call 20; refine (faultLives_calls _).mono ?_; rintro e w1 ⟨rfl, hb⟩; obtain ⟨hc, hf⟩ := bcell hb) | (go_at_call 21; refine (bare_calls _ _ _ _ _ _ _ _ _ _ (by decide) _).mono ?_; rintro e w2 ⟨rfl, rfl⟩) | (refine gate_ (.store 24 (.tmp 3) (.tmp 15)) rfl ?_; refine wpList_store_block rfl 24 (.tmp 3) (.tmp 15) rfl rfl _ #[.int .u32 a0, .int .u32 a1, .int .i64 a2, .int .i64 a3, .int .i64 a4, .int .i64 a5, .bool a6, .bool a7, .string (beg a8 40)] rfl rfl rfl (blk_alloc (blk_alloc (blk_below (blk_new w _) hb) _) _) size24 rfl (pk_one _ _ _ _ _ _ _ _ _) ?_))
  intro w2 hbx hg
  have hbw : Below w.heap.size w w2 := (((((Below.refl _ _).alloc (Nat.le_refl _) _).trans (hb.mono (by simp))).alloc (by have := hb.size; simp at this; omega) _).alloc (by have := hb.size; simp at this ⊢; omega) _).grown hg (by have := hb.size; simp at this ⊢; omega) (fun k hk => by cases hk; exact Nat.le_refl _)
  clear hg hb hc hf
  obtain ⟨hc0, hc1, hc2, hc3, hc4, hc5, hc6, hc7, hc8⟩ := pk_cells hbx
  have hbs : (beg a8 40).size ≤ 40 := by rw [beg_size]; omega
  generalize beg a8 40 = body at hbx hc8 hbs ⊢
  have hwz := blk_lt hbx
  by_cases hck : checkv a2 a3 a4 a5 a6 a7 body.size = 0
  · by_cases hy : why < 1 ∨ 6 < why
    · have ht := fun W => tell_why a0 a1 a2 a3 a4 a5 a6 a7 body why src h0 h1 hck hy W
      clear hck hy hbx
      go_wp2_with (go_at_call 22; refine (ht _).mono ?_; rintro e w3 ⟨rfl, hb⟩)
      go_ret
      exact ⟨rfl, (hbw.trans (hb.mono hbw.size)).alloc (Nat.le_trans hbw.size hb.size) _⟩
    · by_cases hq : silentv a0 a1 a2 a5 body = true ∨ uni src = false
      · have ht := fun W => tell_quiet a0 a1 a2 a3 a4 a5 a6 a7 body why src h0 h1 hsrc hck (by omega) (by omega) hq W
        clear hck hy hbx hq
        go_wp2_with (go_at_call 22; refine (ht _).mono ?_; rintro e w3 ⟨rfl, hb⟩)
        go_ret
        exact ⟨rfl, (hbw.trans (hb.mono hbw.size)).alloc (Nat.le_trans hbw.size hb.size) _⟩
      · have hs1 : silentv a0 a1 a2 a5 body = false := by
          cases h : silentv a0 a1 a2 a5 body
          · rfl
          · exact absurd (.inl h) hq
        have hs2 : uni src = true := by
          cases h : uni src
          · exact absurd (.inr h) hq
          · rfl
        have ht := fun W => tell_msg a0 a1 a2 a3 a4 a5 a6 a7 body why src h0 h1 hsrc hck (by omega) (by omega) hs1 hs2 W
        have hEz := encv_size a0 a1 a2 a3 a4 a5 a6 a7 body
        have hz := tellBody_size why (encv a0 a1 a2 a3 a4 a5 a6 a7 body)
        have hf := tellBody_first why (by omega) (by omega) (encv a0 a1 a2 a3 a4 a5 a6 a7 body)
        obtain ⟨hp4, hp3, hp9⟩ := tell_parts why (by omega) (by omega) (encv a0 a1 a2 a3 a4 a5 a6 a7 body) (by omega)
        obtain ⟨u20, usz, u0, u1, u2, u6, u8, u10, v12, v16, v9, v4, v6, vb⟩ := quoted a0 a1 a2 a3 a4 a5 a6 a7 body h0 h1 hck _ rfl
        obtain ⟨r2, r3, r4, r5, rs, ro, r8, rm, rw_⟩ := check_zero hck
        generalize beg (encv a0 a1 a2 a3 a4 a5 a6 a7 body) 28 = r at *
        generalize tellBody why (encv a0 a1 a2 a3 a4 a5 a6 a7 body) = T at *
        have hc2 : checkv 1 64 0 0 false false T.size = 0 := by
          unfold checkv
          rw [if_neg (by omega), if_neg (by omega), if_neg]
          rintro (h | ⟨h, h'⟩ | ⟨h | h, h'⟩)
          · omega
          · cases h
          · cases h
          · omega
        have hrd := fun W => read_msg src a0 64 0 T r 0 why hc2 (by omega) (by omega) (hp9 (by omega)) hf (by omega) (by omega) hp3 hp4 u20 u0 u1 (by omega) u6 (by omega) u10 (by rw [u2, usz]; split <;> omega) W
        rw [v12, v16, v9, v4, v6, vb] at hrd
        have hT32 : (T.size : Int) ≤ 32 := by omega
        have hbeg : ∀ W, Calls Try.prog 17 #[.string body, .int .i64 8] W fun e w' => e = .returned (.string (beg body 8)) ∧ w' = W := fun W => (begin_calls body 8 (by decide) W).mono fun e w' h => ⟨h.1, h.2.symm⟩
        clear hck hy hq hs1 hs2 hEz hz hf hp4 hp3 hp9 u20 usz u0 u1 u2 u6 u8 u10 v12 v16 v9 v4 v6 vb r8 rm rw_ hc2
        generalize hbb : beg body 8 = B at hrd hbeg
        clear hbb
        go_wp2_with (first | (go_at_call 22; refine (ht _).mono ?_; rintro e w3 ⟨rfl, hb⟩; have hbx3 := blk_below hbx hb; clear hc0 hc1 hc2 hc3 hc4 hc5 hc6 hc7 hc8; have hwz3 := blk_lt hbx3; clear ht) | (go_at_call 25; refine (hrd _).mono ?_; rintro e w4 ⟨rfl, hb4⟩; clear hrd))
        have hsz1 := hbw.size
        have hsz3 := hb.size
        have hsz4 := hb4.size
        simp only [World.size_alloc] at hsz4
        have X1 := blk_alloc (blk_below (blk_alloc hbx3 (.cells #[.int .u32 src, .int .u32 a0, .int .i64 1, .int .i64 64, .int .i64 0, .int .i64 0, .bool false, .bool false, .string T] 24 (0, 0))) hb4) (.cells #[.int .i64 why, .int .u32 a0, .int .u32 a1, .int .i64 a2, .int .i64 a4, .int .i64 a5, .string B] 51 (0, 0))
        have X2 := blk_alloc (blk_below (blk_new w3 (.cells #[.int .u32 src, .int .u32 a0, .int .i64 1, .int .i64 64, .int .i64 0, .int .i64 0, .bool false, .bool false, .string T] 24 (0, 0))) hb4) (.cells #[.int .i64 why, .int .u32 a0, .int .u32 a1, .int .i64 a2, .int .i64 a4, .int .i64 a5, .string B] 51 (0, 0))
        have X3 := blk_new w4 (.cells #[.int .i64 why, .int .u32 a0, .int .u32 a1, .int .i64 a2, .int .i64 a4, .int .i64 a5, .string B] 51 (0, 0))
        have X4 : Below w.heap.size w (w4.alloc (.cells #[.int .i64 why, .int .u32 a0, .int .u32 a1, .int .i64 a2, .int .i64 a4, .int .i64 a5, .string B] 51 (0, 0))) := ((((hbw.trans (hb.mono (by omega))).alloc (by omega) _).trans (hb4.mono (by simp; omega))).alloc (by omega) _)
        clear hbx hbx3 hbw hb hb4 hsz1 hsz3 hsz4 hwz hwz3
        generalize w4.alloc (.cells #[.int .i64 why, .int .u32 a0, .int .u32 a1, .int .i64 a2, .int .i64 a4, .int .i64 a5, .string B] 51 (0, 0)) = Wr at X1 X2 X3 X4 ⊢
        generalize w4.heap.size = g10 at X3 ⊢
        generalize w3.heap.size = g7 at X2 ⊢
        refine start_ (n := 17) (S := fun w' => w'.heap[w.heap.size]? = some (.cells #[.int .u32 a0, .int .u32 a1, .int .i64 a2, .int .i64 a3, .int .i64 a4, .int .i64 a5, .bool a6, .bool a7, .string body] 24 (0, 0))) (ds := []) #[false, false, false, false, false, false, false, false, false, false, false, false, false, false, false, false, false] (by kernel_rfl) rfl rfl (blk_drew X1) (fun hHeld => ?_)
        have X2d := blk_drew X2
        have X3d := blk_drew X3
        have X4d := X4.drew
        clear X1 X2 X3 X4
        generalize Wr.drew = Wd at hHeld X2d X3d X4d ⊢
        refine pure_ (i := 0) (N := some 35) (v := ?_) (a' := ?_) #[true, false, false, false, false, false, false, false, false, false, false, false, false, false, false, false, false] rfl rfl (by kernel_rfl) (fun _ _ _ h => h) (Or.inl ⟨by rfl, ?_⟩) ?_ ?_
        rotate_left
        · intro w'
          go_simp
          with_reducible rfl
        rotate_left
        · simp only [Act.put, List.setIfInBounds_toArray, List.set_cons_zero, List.set_cons_succ, i64_w, i32_w]
          rfl
        refine pure_ (i := 1) (N := some 36) (v := ?_) (a' := ?_) #[true, true, false, false, false, false, false, false, false, false, false, false, false, false, false, false, false] rfl rfl (by kernel_rfl) (fun _ _ _ h => h) (Or.inl ⟨by rfl, ?_⟩) ?_ ?_
        rotate_left
        · intro w'
          go_simp
          with_reducible rfl
        rotate_left
        · simp only [Act.put, List.setIfInBounds_toArray, List.set_cons_zero, List.set_cons_succ, i64_w, i32_w]
          rfl
        refine take_ (i := 2) (N := some 37) (v := ?_) (a' := ?_) #[true, true, true, false, false, false, false, false, false, false, false, false, false, false, false, false, false] rfl rfl (by kernel_rfl) (fun _ _ _ h => h) (Or.inl ⟨by rfl, ?_⟩) hHeld ?_ ?_
        rotate_left
        · rintro w' s0
          obtain ⟨k0, k1, k2, k3, k4, k5, k6, k7, k8⟩ := pk_cells s0
          go_simp
          with_reducible rfl
        rotate_left
        · simp only [Act.put, List.setIfInBounds_toArray, List.set_cons_zero, List.set_cons_succ, i64_w, i32_w]
          rfl
        refine pure_ (i := 3) (N := some 38) (v := ?_) (a' := ?_) #[true, true, true, true, false, false, false, false, false, false, false, false, false, false, false, false, false] rfl rfl (by kernel_rfl) (fun _ _ _ h => h) (Or.inl ⟨by rfl, ?_⟩) ?_ ?_
        rotate_left
        · intro w'
          go_simp
          with_reducible rfl
        rotate_left
        · simp only [Act.put, List.setIfInBounds_toArray, List.set_cons_zero, List.set_cons_succ, i64_w, i32_w]
          rfl
        refine take_ (i := 4) (N := some 39) (v := ?_) (a' := ?_) #[true, true, true, true, true, false, false, false, false, false, false, false, false, false, false, false, false] rfl rfl (by kernel_rfl) (fun _ _ _ h => h) (Or.inl ⟨by rfl, ?_⟩) hHeld ?_ ?_
        rotate_left
        · rintro w' s0
          obtain ⟨k0, k1, k2, k3, k4, k5, k6, k7, k8⟩ := pk_cells s0
          go_simp
          with_reducible rfl
        rotate_left
        · simp only [Act.put, List.setIfInBounds_toArray, List.set_cons_zero, List.set_cons_succ, i64_w, i32_w]
          rfl
        refine pure_ (i := 5) (N := some 40) (v := ?_) (a' := ?_) #[true, true, true, true, true, true, false, false, false, false, false, false, false, false, false, false, false] rfl rfl (by kernel_rfl) (fun _ _ _ h => h) (Or.inl ⟨by rfl, ?_⟩) ?_ ?_
        rotate_left
        · intro w'
          go_simp
          with_reducible rfl
        rotate_left
        · simp only [Act.put, List.setIfInBounds_toArray, List.set_cons_zero, List.set_cons_succ, i64_w, i32_w]
          rfl
        refine take_ (i := 6) (N := some 41) (v := ?_) (a' := ?_) #[true, true, true, true, true, true, true, false, false, false, false, false, false, false, false, false, false] rfl rfl (by kernel_rfl) (fun _ _ _ h => h) (Or.inl ⟨by rfl, ?_⟩) hHeld ?_ ?_
        rotate_left
        · rintro w' s0
          obtain ⟨k0, k1, k2, k3, k4, k5, k6, k7, k8⟩ := pk_cells s0
          go_simp
          with_reducible rfl
        rotate_left
        · simp only [Act.put, List.setIfInBounds_toArray, List.set_cons_zero, List.set_cons_succ, i64_w, i32_w]
          rfl
        refine pure_ (i := 7) (N := some 42) (v := ?_) (a' := ?_) #[true, true, true, true, true, true, true, true, false, false, false, false, false, false, false, false, false] rfl rfl (by kernel_rfl) (fun _ _ _ h => h) (Or.inl ⟨by rfl, ?_⟩) ?_ ?_
        rotate_left
        · intro w'
          go_simp
          with_reducible rfl
        rotate_left
        · simp only [Act.put, List.setIfInBounds_toArray, List.set_cons_zero, List.set_cons_succ, i64_w, i32_w]
          rfl
        refine take_ (i := 8) (N := some 43) (v := ?_) (a' := ?_) #[true, true, true, true, true, true, true, true, true, false, false, false, false, false, false, false, false] rfl rfl (by kernel_rfl) (fun _ _ _ h => h) (Or.inl ⟨by rfl, ?_⟩) hHeld ?_ ?_
        rotate_left
        · rintro w' s0
          obtain ⟨k0, k1, k2, k3, k4, k5, k6, k7, k8⟩ := pk_cells s0
          go_simp
          with_reducible rfl
        rotate_left
        · simp only [Act.put, List.setIfInBounds_toArray, List.set_cons_zero, List.set_cons_succ, i64_w, i32_w]
          rfl
        refine pure_ (i := 9) (N := some 44) (v := ?_) (a' := ?_) #[true, true, true, true, true, true, true, true, true, true, false, false, false, false, false, false, false] rfl rfl (by kernel_rfl) (fun _ _ _ h => h) (Or.inl ⟨by rfl, ?_⟩) ?_ ?_
        rotate_left
        · intro w'
          go_simp
          with_reducible rfl
        rotate_left
        · simp only [Act.put, List.setIfInBounds_toArray, List.set_cons_zero, List.set_cons_succ, i64_w, i32_w]
          rfl
        refine take_ (i := 10) (N := some 45) (v := ?_) (a' := ?_) #[true, true, true, true, true, true, true, true, true, true, true, false, false, false, false, false, false] rfl rfl (by kernel_rfl) (fun _ _ _ h => h) (Or.inl ⟨by rfl, ?_⟩) hHeld ?_ ?_
        rotate_left
        · rintro w' s0
          obtain ⟨k0, k1, k2, k3, k4, k5, k6, k7, k8⟩ := pk_cells s0
          go_simp
          with_reducible rfl
        rotate_left
        · simp only [Act.put, List.setIfInBounds_toArray, List.set_cons_zero, List.set_cons_succ, i64_w, i32_w]
          rfl
        refine pure_ (i := 11) (N := some 46) (v := ?_) (a' := ?_) #[true, true, true, true, true, true, true, true, true, true, true, true, false, false, false, false, false] rfl rfl (by kernel_rfl) (fun _ _ _ h => h) (Or.inl ⟨by rfl, ?_⟩) ?_ ?_
        rotate_left
        · intro w'
          go_simp
          with_reducible rfl
        rotate_left
        · simp only [Act.put, List.setIfInBounds_toArray, List.set_cons_zero, List.set_cons_succ, i64_w, i32_w]
          rfl
        refine take_ (i := 12) (N := some 47) (v := ?_) (a' := ?_) #[true, true, true, true, true, true, true, true, true, true, true, true, true, false, false, false, false] rfl rfl (by kernel_rfl) (fun _ _ _ h => h) (Or.inl ⟨by rfl, ?_⟩) hHeld ?_ ?_
        rotate_left
        · rintro w' s0
          obtain ⟨k0, k1, k2, k3, k4, k5, k6, k7, k8⟩ := pk_cells s0
          go_simp
          with_reducible rfl
        rotate_left
        · simp only [Act.put, List.setIfInBounds_toArray, List.set_cons_zero, List.set_cons_succ, i64_w, i32_w]
          rfl
        refine callF_ 13 #[true, true, true, true, true, true, true, true, true, true, true, true, true, true, false, false, false] (N := some 48) (a' := ?_) rfl rfl (by kernel_rfl) (fun _ _ _ h => h) Try.func17 (by kernel_rfl) rfl #[.string body, .int .i64 8] (by rfl) rfl (by (try simp only [List.map_toArray, List.map_cons, List.map_nil]); first | done | rfl) hbeg ?_ ?_
        rotate_left
        · simp only [Act.put, List.setIfInBounds_toArray, List.set_cons_zero, List.set_cons_succ, i64_w, i32_w]
          rfl
        refine pure_ (i := 14) (N := some 49) (v := ?_) (a' := ?_) #[true, true, true, true, true, true, true, true, true, true, true, true, true, true, true, false, false] rfl rfl (by kernel_rfl) (fun _ _ _ h => h) (Or.inl ⟨by rfl, ?_⟩) ?_ ?_
        rotate_left
        · intro w'
          go_simp
          with_reducible rfl
        rotate_left
        · simp only [Act.put, List.setIfInBounds_toArray, List.set_cons_zero, List.set_cons_succ, i64_w, i32_w]
          rfl
        refine one_ (i := 15) (N := some 11) #[true, true, true, true, true, true, true, true, true, true, true, true, true, true, true, true, false] rfl rfl (by kernel_rfl) (by decide) (fun K hK => ?_)
        refine box_step ?hg (N := 11) ?hd (cs := #[.int .i64 0, .int .u32 0, .int .u32 0, .int .i64 0, .int .i64 0, .int .i64 0, .string ⟨#[]⟩]) (t := 51) ?hr ?_; (case hd => rfl); (case hg => rfl); (case hr => first | (go_simp; done) | (go_simp; rfl))
        intro g11 hg11 w7 hbox hb7
        have Y2 := blk_below X2d hb7
        have Y3 := blk_below X3d hb7
        have Y4 : Below w.heap.size w w7 := X4d.trans (hb7.mono X4d.size)
        have Y5 : g7 < g11 := by rw [hg11]; exact blk_lt X2d
        have Y6 : g10 < g11 := by rw [hg11]; exact blk_lt X3d
        have Y7 : w.heap.size < g11 := by rw [hg11]; exact blk_lt hHeld
        refine hK.out _ _ (blk_below hHeld hb7) (fun hHeld => ?_)
        clear hK K X2d X3d X4d hb7 hg11
        refine norm_ (a' := ?_) ?_ ?_
        rotate_left
        · show Act.put _ (some 11) _ = _
          simp only [Act.put, List.setIfInBounds_toArray, List.set_cons_zero, List.set_cons_succ, i64_w, i32_w]
          rfl
        refine one_ (i := 16) (N := none) #[true, true, true, true, true, true, true, true, true, true, true, true, true, true, true, true, true] rfl rfl (by kernel_rfl) (by decide) (fun K hK => ?_)
        refine store_step (by rfl) 51 (.tmp 11) (.tmp 49) rfl _ #[.int .i64 why, .int .u32 a0, .int .u32 a1, .int .i64 a2, .int .i64 a4, .int .i64 a5, .string B] rfl rfl ?hu hbox size51 rfl (note_one _ _ _ _ _ _ _) ?_
        case hu => rfl
        intro wn hwn hgn
        refine hK.out _ _ (blk_grown hHeld hgn (by simp; omega)) (fun hHeld => ?_)
        clear hK K
        refine done_ (by kernel_rfl) ?_
        have Z2 := blk_grown Y2 hgn (by simp; omega)
        have Z3 := blk_grown Y3 hgn (by simp; omega)
        have Z4 := Y4.grown hgn Y4.size (fun k hk => by cases hk; omega)
        clear Y2 Y3 Y4 Y5 Y6 Y7 hgn hHeld hbox
        obtain ⟨-, -, -, -, -, -, -, -, c8⟩ := pk_cells Z2
        obtain ⟨d0, d1, d2, d3, d4, d5, d6⟩ := note_cells Z3
        obtain ⟨e0, e1, e2, e3, e4, e5, e6⟩ := note_cells hwn
        clear Z2 Z3 hwn
        go_wp2
        go_ret
        exact ⟨rfl, Z4⟩
  · have ht := fun W => tell_bad a0 a1 a2 a3 a4 a5 a6 a7 body why src (by omega) hck W
    generalize checkv a2 a3 a4 a5 a6 a7 body.size = c at hck ht
    have g1 : (c == 0) = false := beq_eq_false_iff_ne.mpr hck
    have g2 : (c != 0) = true := bne_iff_ne.mpr hck
    clear hck hbx
    go_wp2_with (go_at_call 22; refine (ht _).mono ?_; rintro e w3 ⟨rfl, hb⟩)
    go_ret
    exact ⟨rfl, (hbw.trans (hb.mono hbw.size)).alloc (Nat.le_trans hbw.size hb.size) _⟩
end Go.Proofs.Ythepnjbefngooaa.H
