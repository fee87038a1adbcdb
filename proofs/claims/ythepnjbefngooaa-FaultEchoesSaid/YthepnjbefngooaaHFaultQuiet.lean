/- The walk of FaultQuiet: it returns true at every input that the row speaks of. Conditions: the addresses are uint32, which the row gives. -/
import Derived.Test.YthepnjbefngooaaHTell
namespace Go.Proofs.Ythepnjbefngooaa.H
set_option linter.unusedSimpArgs false
set_option linter.unusedVariables false
open Go Go.RowKit Go.Proofs.YthepnjbefngooaaW.PrintWords Go.Proofs.YthepnjbefngooaaW.PrintLast Go.Proofs.YthepnjbefngooaaW.PrintMore Go.Proofs.Ythepnjbefngooaa.Plain

theorem lim1_of (x : Int) (m : Int) (h0 : 0 < m) (h1 : m < 1000) : ∃ n : Int, wrap64 (1 + wrap64 ((IntKind.u64.wrap x).tmod m)) = n ∧ 1 ≤ n ∧ n ≤ m := by
  have hx : 0 ≤ IntKind.u64.wrap x := by rw [wu64]; omega
  have e : (IntKind.u64.wrap x).tmod m = IntKind.u64.wrap x % m := Int.tmod_eq_emod_of_nonneg hx
  have a := Int.emod_nonneg (IntKind.u64.wrap x) (show m ≠ 0 by omega)
  have b := Int.emod_lt_of_pos (IntKind.u64.wrap x) h0
  refine ⟨1 + IntKind.u64.wrap x % m, ?_, by omega, by omega⟩
  rw [e, w64 (n := IntKind.u64.wrap x % m) (by omega) (by omega), w64 (by omega) (by omega)]

theorem tellBody_size (why : Int) (E : ByteArray) : (tellBody why E).size = 4 + min E.size 28 := by
  unfold tellBody
  rw [ByteArray.size_append, size_strOfNums, beg_size]
  rfl
theorem tellBody_first (why : Int) (h0 : 0 ≤ why) (h1 : why < 256) (E : ByteArray) : bt (tellBody why E) 0 = why := by
  unfold tellBody
  have h := bt_left (strOfNums [why, 0, 0, 0]) (beg E 28) 0 (by rw [size_strOfNums]; simp)
  have h2 := bt_strOfNums [why, 0, 0, 0] 0 (by simp) (by simpa using h0) (by simpa using h1)
  exact h.trans h2

set_option maxHeartbeats 8000000 in
set_option maxRecDepth 100000 in
theorem faultQuiet_calls (a0 a1 a2 a3 a4 a5 : Int) (a6 a7 : Bool) (a8 : ByteArray) (why src again third : Int) (h0 : 0 ≤ a0 ∧ a0 ≤ 4294967295) (h1 : 0 ≤ a1 ∧ a1 ≤ 4294967295) (hsrc : 0 ≤ src ∧ src ≤ 4294967295) (hth : 0 ≤ third ∧ third ≤ 4294967295) (w : World) :
    Calls Try.prog 7 #[.agg #[.int .u32 a0, .int .u32 a1, .int .i64 a2, .int .i64 a3, .int .i64 a4, .int .i64 a5, .bool a6, .bool a7, .string a8], .int .i64 why, .int .u32 src, .int .i64 again, .int .u32 third] w fun e w' => e = .returned (.bool true) ∧ Below w.heap.size w w' := by
  go_enter Try.func7, Try.ntmps7
  go_wp2_with (first | (go_at_call 20; refine (faultLives_calls _).mono ?_; rintro e w1 ⟨rfl, hb⟩; obtain ⟨hc, hf⟩ := bcell hb) | (go_at_call 21; refine (bare_calls _ _ _ _ _ _ _ _ _ _ (by decide) _).mono ?_; rintro e w2 ⟨rfl, rfl⟩) | (refine gate_ (.store 24 (.tmp 5) (.tmp 17)) rfl ?_; refine wpList_store_block rfl 24 (.tmp 5) (.tmp 17) rfl rfl _ #[.int .u32 a0, .int .u32 a1, .int .i64 a2, .int .i64 a3, .int .i64 a4, .int .i64 a5, .bool a6, .bool a7, .string (beg a8 40)] rfl rfl rfl (blk_alloc (blk_alloc (blk_below (blk_new w _) hb) _) _) size24 rfl (pk_one _ _ _ _ _ _ _ _ _) ?_))
  intro w2 hbx hg
  have hbw : Below w.heap.size w w2 := (((((Below.refl _ _).alloc (Nat.le_refl _) _).trans (hb.mono (by simp))).alloc (by have := hb.size; simp at this; omega) _).alloc (by have := hb.size; simp at this ⊢; omega) _).grown hg (by have := hb.size; simp at this ⊢; omega) (fun k hk => by cases hk; exact Nat.le_refl _)
  clear hg hb hc hf
  obtain ⟨hc0, hc1, hc2, hc3, hc4, hc5, hc6, hc7, hc8⟩ := pk_cells hbx
  have hbs : (beg a8 40).size ≤ 80 := by rw [beg_size]; omega
  generalize beg a8 40 = body at hbx hc8 hbs ⊢
  have hwz := blk_lt hbx
  obtain ⟨n1, e1, k1, k1'⟩ := lim1_of again 6 (by decide) (by decide)
  by_cases hck : checkv a2 a3 a4 a5 a6 a7 body.size = 0
  · by_cases hy : why < 1 ∨ 6 < why
    · have ht := fun W => tell_why a0 a1 a2 a3 a4 a5 a6 a7 body why src h0 h1 hck hy W
      clear hck hy hbx e1
      go_wp2_with (go_at_call 22; refine (ht _).mono ?_; rintro e w3 ⟨rfl, hb⟩)
      go_ret
      exact ⟨rfl, (hbw.trans (hb.mono hbw.size)).alloc (Nat.le_trans hbw.size hb.size) _⟩
    · by_cases hq : silentv a0 a1 a2 a5 body = true ∨ uni src = false
      · have ht := fun W => tell_quiet a0 a1 a2 a3 a4 a5 a6 a7 body why src h0 h1 hsrc hck (by omega) (by omega) hq W
        clear hck hy hbx e1 hq
        go_wp2_with (go_at_call 22; refine (ht _).mono ?_; rintro e w3 ⟨rfl, hb⟩)
        go_ret
        exact ⟨rfl, (hbw.trans (hb.mono hbw.size)).alloc (Nat.le_trans hbw.size hb.size) _⟩
      · have hs1 : silentv a0 a1 a2 a5 body = false := by
          cases h : silentv a0 a1 a2 a5 body
          · rfl
          · exact absurd (.inl h) hq
        have hs2 : uni src = true := by
          cases h : uni src
          · exact absurd (.inr h) hq
          · rfl
        have ht := fun W => tell_msg a0 a1 a2 a3 a4 a5 a6 a7 body why src h0 h1 hsrc hck (by omega) (by omega) hs1 hs2 W
        have hz := tellBody_size why (encv a0 a1 a2 a3 a4 a5 a6 a7 body)
        have hf := tellBody_first why (by omega) (by omega) (encv a0 a1 a2 a3 a4 a5 a6 a7 body)
        generalize tellBody why (encv a0 a1 a2 a3 a4 a5 a6 a7 body) = T at ht hz hf
        have hc2 : checkv 1 64 0 0 false false T.size = 0 := by
          unfold checkv
          rw [if_neg (by omega), if_neg (by omega), if_neg]
          rintro (h | ⟨h, h'⟩ | ⟨h | h, h'⟩)
          · omega
          · cases h
          · cases h
          · omega
        have hsil : silentv src a0 1 0 T = true := by
          have : echoB T = false := by
            unfold echoB
            rw [hf]
            simp; omega
          unfold silentv
          rw [this]
          simp
        have ht2 := fun W => tell_quiet src a0 1 64 0 0 false false T n1 third hsrc h0 hth hc2 k1 k1' (.inl hsil) W
        have HS := Lib.hid hs1
        clear hck hy hbx hq hs1 hs2 hz hf hc2 hsil
        go_wp2_with (go_at_call 22; first | ((with_reducible refine (ht _).mono ?_); rintro e w3 ⟨rfl, hb⟩; obtain ⟨hbc, hbf⟩ := bcell hb; rw [← hbc _ _ hwz] at hc0 hc1; clear hbc hbf ht hc2 hc3 hc4 hc5 hc6 hc7 hc8; have hwz3 := Nat.lt_of_lt_of_le hwz hb.size) | ((with_reducible refine (ht2 _).mono ?_); rintro e w4 ⟨rfl, hb4⟩; obtain ⟨hbc4, hbf4⟩ := bcell hb4))
        go_ret
        have hb34 := ((hbw.trans (hb.mono hbw.size)).alloc (Nat.le_trans hbw.size hb.size) _).trans (hb4.mono (by have h1 := hbw.size; have h2 := hb.size; simp; omega))
        exact ⟨rfl, hb34⟩
  · have ht := fun W => tell_bad a0 a1 a2 a3 a4 a5 a6 a7 body why src (by omega) hck W
    generalize checkv a2 a3 a4 a5 a6 a7 body.size = c at hck ht
    have g1 : (c == 0) = false := beq_eq_false_iff_ne.mpr hck
    have g2 : (c != 0) = true := bne_iff_ne.mpr hck
    clear hck hbx e1
    go_wp2_with (go_at_call 22; refine (ht _).mono ?_; rintro e w3 ⟨rfl, hb⟩)
    go_ret
    exact ⟨rfl, (hbw.trans (hb.mono hbw.size)).alloc (Nat.le_trans hbw.size hb.size) _⟩
end Go.Proofs.Ythepnjbefngooaa.H
