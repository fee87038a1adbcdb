/- Walks of fault.Tell. Conditions: sizes that the rows give. -/
import Derived.Test.YthepnjbefngooaaHFault
namespace Go.Proofs.Ythepnjbefngooaa.H
set_option linter.unusedSimpArgs false
set_option linter.unusedVariables false
open Go Go.RowKit Go.Proofs.YthepnjbefngooaaW.PrintWords Go.Proofs.YthepnjbefngooaaW.PrintLast Go.Proofs.YthepnjbefngooaaW.PrintMore Go.Proofs.Ythepnjbefngooaa.Plain

/-- The first bytes of a message about a packet. -/
def tellBody (why : Int) (enc : ByteArray) : ByteArray := strOfNums [why, 0, 0, 0] ++ beg enc 28

theorem beg_max' (s : ByteArray) (n : Nat) (h : n ≤ s.size) : s.extract 0 n = beg s n := by unfold beg; rw [Nat.min_eq_right h]
theorem blk_new' (w : World) (o : Obj) {g : Nat} (h : g = w.heap.size) : (w.alloc o).heap[g]? = some o := h ▸ blk_new w o
set_option maxHeartbeats 4000000 in
set_option maxRecDepth 100000 in
theorem tell_msg (a0 a1 a2 a3 a4 a5 : Int) (a6 a7 : Bool) (a8 : ByteArray) (why src : Int) (h0 : 0 ≤ a0 ∧ a0 ≤ 4294967295) (h1 : 0 ≤ a1 ∧ a1 ≤ 4294967295) (hsrc : 0 ≤ src ∧ src ≤ 4294967295)
    (hc : checkv a2 a3 a4 a5 a6 a7 a8.size = 0) (hy : 1 ≤ why) (hy' : why ≤ 6) (hsil : silentv a0 a1 a2 a5 a8 = false) (hu : uni src = true) (w : World) :
    Calls Try.prog 22 #[.agg #[.int .u32 a0, .int .u32 a1, .int .i64 a2, .int .i64 a3, .int .i64 a4, .int .i64 a5, .bool a6, .bool a7, .string a8], .int .i64 why, .int .u32 src] w fun e w' =>
      e = .returned (.tuple #[.agg #[.int .u32 src, .int .u32 a0, .int .i64 1, .int .i64 64, .int .i64 0, .int .i64 0, .bool false, .bool false, .string (tellBody why (encv a0 a1 a2 a3 a4 a5 a6 a7 a8))], .bool true, .int .i64 0]) ∧ Below w.heap.size w w' := by
  obtain ⟨r2, r3, r4, r5, rs, ro, r8, rm, rw_⟩ := check_zero hc
  have henc := fun W => encode_calls a0 a1 a2 a3 a4 a5 a6 a7 a8 h0 h1 hc W
  have hes := encv_size a0 a1 a2 a3 a4 a5 a6 a7 a8
  have hsl := fun W => silent_calls a0 a1 a2 a3 a4 a5 a6 a7 a8 h0 h1 rs W
  have hun := fun W => unicast_calls src hsrc.1 hsrc.2 W
  rw [hsil] at hsl
  rw [hu] at hun
  generalize encv a0 a1 a2 a3 a4 a5 a6 a7 a8 = E at henc hes ⊢
  have hE1 : 20 ≤ E.size := by omega
  have hE2 : E.size ≤ 1520 := by omega
  clear hes hc hsil hu rm rw_ r8
  have hM : (strOfNums [why, 0, 0, 0]).size ≤ 4 := by rw [size_strOfNums]; simp
  by_cases h28 : (E.size : Int) ≤ 28
  · have hT : tellBody why E = strOfNums [why, 0, 0, 0] ++ E := by unfold tellBody; rw [← beg_min E 28 (by omega)]
    rw [hT]
    clear hT
    obtain ⟨M, hMe⟩ : ∃ M, strOfNums [why, 0, 0, 0] = M := ⟨_, rfl⟩
    have HM := Lib.hid hMe
    rw [hMe] at hM ⊢
    clear hMe
    go_enter Try.func22, Try.ntmps22
    go_wp2_with (first | (go_at_call 23; refine (henc _).mono ?_; rintro e w1 ⟨rfl, hb⟩; have hbx : w1.heap[w.heap.size]? = some (.cells #[.int .u32 a0, .int .u32 a1, .int .i64 a2, .int .i64 a3, .int .i64 a4, .int .i64 a5, .bool a6, .bool a7, .string a8] 24 (0, 0)) := blk_below (blk_alloc (blk_new w _) _) hb; have hry : w1.heap[w.heap.size + 1]? = some (.cells #[.int .u32 0, .int .u32 0, .int .i64 0, .int .i64 0, .int .i64 0, .int .i64 0, .bool false, .bool false, .string ⟨#[]⟩] 24 (0, 0)) := blk_below (blk_new' _ _ (by simp)) hb; obtain ⟨hc0, hc1, hc2, hc3, hc4, hc5, hc6, hc7, hc8⟩ := pk_cells hbx; have hwz := blk_lt hry; have hbw : Below w.heap.size w w1 := (((Below.refl _ _).alloc (Nat.le_refl _) _).alloc (by simp) _).trans (hb.mono (by simp; omega)); clear hb henc) | (go_at_call 31; refine (hsl _).mono ?_; rintro e w2 ⟨rfl, hb2⟩; obtain ⟨hbc, hbf⟩ := bcell hb2; rw [← hbc _ _ (by omega)] at hc0; clear hbc hbf hc1 hc2 hc3 hc4 hc5 hc6 hc7 hc8 hsl) | (go_at_call 32; refine (hun _).mono ?_; rintro e w3 ⟨rfl, rfl⟩))
    have hwz2 : w.heap.size + 1 < w2.heap.size := Nat.lt_of_lt_of_le hwz hb2.size
    have hwz3 : w.heap.size < w2.heap.size := by omega
    have hown4 : ((w2.alloc (.cells #[.int .u8 why, .int .u8 0, .int .u8 0, .int .u8 0] 5 (0, 0))).drew).ownsRow 0 5 1 (.slice (some ⟨w2.heap.size, 0, none⟩) 4 4) 4 (nums .u8 [why, 0, 0, 0]) :=
      ⟨rfl, .inr ⟨w2.heap.size, 4, #[.int .u8 why, .int .u8 0, .int .u8 0, .int .u8 0], rfl, Nat.zero_le _, blk_new w2 _, by decide, by decide, rfl, rfl⟩⟩
    have hcv := own_string (P := Try.prog) Try.underlying37 Try.underlying5 Try.underlying9 hown4
    rw [HM.out] at hcv
    clear hown4
    go_region
    clear hcv
    all_goals go_wp2_with (refine gate_ (.store 24 (.tmp 6) (.tmp 53)) rfl ?_; refine wpList_store_block rfl 24 (.tmp 6) (.tmp 53) rfl rfl _ #[.int .u32 src, .int .u32 a0, .int .i64 1, .int .i64 64, .int .i64 0, .int .i64 0, .bool false, .bool false, .string (M ++ E)] rfl rfl rfl (blk_drew (blk_alloc (blk_below hry hb2) _)) size24 rfl (pk_one _ _ _ _ _ _ _ _ _) ?_)
    all_goals
      intro w4 hw4 hg4
      go_wp2
      refine bodyPost_ret (results_ctt rfl _ _ (w.heap.size + 1) 24 _ (0, 0) _ rfl hw4 Try.underlying24 rfl size24) rfl ⟨rfl, ?_⟩
      exact (((hbw.trans (hb2.mono (by omega))).alloc (by omega) _).drew).grown hg4 (by simp; omega) (fun k hk => by cases hk; omega)
  · have hT : tellBody why E = strOfNums [why, 0, 0, 0] ++ E.extract 0 28 := by unfold tellBody; rw [← beg_max' E 28 (by omega)]
    rw [hT]
    clear hT
    obtain ⟨M, hMe⟩ : ∃ M, strOfNums [why, 0, 0, 0] = M := ⟨_, rfl⟩
    have HM := Lib.hid hMe
    rw [hMe] at hM ⊢
    clear hMe
    go_enter Try.func22, Try.ntmps22
    go_wp2_with (first | (go_at_call 23; refine (henc _).mono ?_; rintro e w1 ⟨rfl, hb⟩; have hbx : w1.heap[w.heap.size]? = some (.cells #[.int .u32 a0, .int .u32 a1, .int .i64 a2, .int .i64 a3, .int .i64 a4, .int .i64 a5, .bool a6, .bool a7, .string a8] 24 (0, 0)) := blk_below (blk_alloc (blk_new w _) _) hb; have hry : w1.heap[w.heap.size + 1]? = some (.cells #[.int .u32 0, .int .u32 0, .int .i64 0, .int .i64 0, .int .i64 0, .int .i64 0, .bool false, .bool false, .string ⟨#[]⟩] 24 (0, 0)) := blk_below (blk_new' _ _ (by simp)) hb; obtain ⟨hc0, hc1, hc2, hc3, hc4, hc5, hc6, hc7, hc8⟩ := pk_cells hbx; have hwz := blk_lt hry; have hbw : Below w.heap.size w w1 := (((Below.refl _ _).alloc (Nat.le_refl _) _).alloc (by simp) _).trans (hb.mono (by simp; omega)); clear hb henc) | (go_at_call 31; refine (hsl _).mono ?_; rintro e w2 ⟨rfl, hb2⟩; obtain ⟨hbc, hbf⟩ := bcell hb2; rw [← hbc _ _ (by omega)] at hc0; clear hbc hbf hc1 hc2 hc3 hc4 hc5 hc6 hc7 hc8 hsl) | (go_at_call 32; refine (hun _).mono ?_; rintro e w3 ⟨rfl, rfl⟩))
    have hwz2 : w.heap.size + 1 < w2.heap.size := Nat.lt_of_lt_of_le hwz hb2.size
    have hwz3 : w.heap.size < w2.heap.size := by omega
    have hown4 : ((w2.alloc (.cells #[.int .u8 why, .int .u8 0, .int .u8 0, .int .u8 0] 5 (0, 0))).drew).ownsRow 0 5 1 (.slice (some ⟨w2.heap.size, 0, none⟩) 4 4) 4 (nums .u8 [why, 0, 0, 0]) :=
      ⟨rfl, .inr ⟨w2.heap.size, 4, #[.int .u8 why, .int .u8 0, .int .u8 0, .int .u8 0], rfl, Nat.zero_le _, blk_new w2 _, by decide, by decide, rfl, rfl⟩⟩
    have hcv := own_string (P := Try.prog) Try.underlying37 Try.underlying5 Try.underlying9 hown4
    rw [HM.out] at hcv
    clear hown4
    go_region
    clear hcv
    all_goals go_wp2_with (refine gate_ (.store 24 (.tmp 6) (.tmp 53)) rfl ?_; refine wpList_store_block rfl 24 (.tmp 6) (.tmp 53) rfl rfl _ #[.int .u32 src, .int .u32 a0, .int .i64 1, .int .i64 64, .int .i64 0, .int .i64 0, .bool false, .bool false, .string (M ++ E.extract 0 28)] rfl rfl rfl (blk_drew (blk_alloc (blk_below hry hb2) _)) size24 rfl (pk_one _ _ _ _ _ _ _ _ _) ?_)
    all_goals
      intro w4 hw4 hg4
      go_wp2
      refine bodyPost_ret (results_ctt rfl _ _ (w.heap.size + 1) 24 _ (0, 0) _ rfl hw4 Try.underlying24 rfl size24) rfl ⟨rfl, ?_⟩
      exact (((hbw.trans (hb2.mono (by omega))).alloc (by omega) _).drew).grown hg4 (by simp; omega) (fun k hk => by cases hk; omega)

set_option maxHeartbeats 1000000 in
/-- Tell about what is no packet. -/
theorem tell_bad (a0 a1 a2 a3 a4 a5 : Int) (a6 a7 : Bool) (a8 : ByteArray) (why src : Int) (hs : a8.size ≤ 140737488351232) (hc : checkv a2 a3 a4 a5 a6 a7 a8.size ≠ 0) (w : World) :
    Calls Try.prog 22 #[.agg #[.int .u32 a0, .int .u32 a1, .int .i64 a2, .int .i64 a3, .int .i64 a4, .int .i64 a5, .bool a6, .bool a7, .string a8], .int .i64 why, .int .u32 src] w fun e w' =>
      e = .returned (.tuple #[.agg #[.int .u32 0, .int .u32 0, .int .i64 0, .int .i64 0, .int .i64 0, .int .i64 0, .bool false, .bool false, .string ⟨#[]⟩], .bool false, .int .i64 (checkv a2 a3 a4 a5 a6 a7 a8.size)]) ∧ Below w.heap.size w w' := by
  have henc := fun W => encode_calls_bad a0 a1 a2 a3 a4 a5 a6 a7 a8 hs hc W
  generalize checkv a2 a3 a4 a5 a6 a7 a8.size = c at hc henc ⊢
  have h1 : (c == 0) = false := beq_eq_false_iff_ne.mpr hc
  have h2 : (c != 0) = true := bne_iff_ne.mpr hc
  clear hc
  go_enter Try.func22, Try.ntmps22
  go_wp2_with (first | (go_at_call 23; refine (henc _).mono ?_; rintro e w1 ⟨rfl, hb⟩; have hbx : w1.heap[w.heap.size]? = some (.cells #[.int .u32 a0, .int .u32 a1, .int .i64 a2, .int .i64 a3, .int .i64 a4, .int .i64 a5, .bool a6, .bool a7, .string a8] 24 (0, 0)) := blk_below (blk_alloc (blk_new w _) _) hb; have hry : w1.heap[w.heap.size + 1]? = some (.cells #[.int .u32 0, .int .u32 0, .int .i64 0, .int .i64 0, .int .i64 0, .int .i64 0, .bool false, .bool false, .string ⟨#[]⟩] 24 (0, 0)) := blk_below (blk_new' _ _ (by simp)) hb; obtain ⟨hc0, hc1, hc2, hc3, hc4, hc5, hc6, hc7, hc8⟩ := pk_cells hbx; have hwz := blk_lt hry; have hbw : Below w.heap.size w w1 := (((Below.refl _ _).alloc (Nat.le_refl _) _).alloc (by simp) _).trans (hb.mono (by simp; omega)); clear hb henc) | (refine gate_ (.store 24 (.tmp 6) (.tmp 20)) rfl ?_; refine wpList_store_block rfl 24 (.tmp 6) (.tmp 20) rfl rfl _ #[.int .u32 0, .int .u32 0, .int .i64 0, .int .i64 0, .int .i64 0, .int .i64 0, .bool false, .bool false, .string ⟨#[]⟩] rfl rfl rfl hry size24 rfl (pk_one _ _ _ _ _ _ _ _ _) ?_))
  intro w4 hw4 hg4
  go_wp2
  refine bodyPost_ret (results_ctt rfl _ _ (w.heap.size + 1) 24 _ (0, 0) _ rfl hw4 Try.underlying24 rfl size24) rfl ⟨rfl, ?_⟩
  exact hbw.grown hg4 (by omega) (fun k hk => by cases hk; omega)

set_option maxHeartbeats 1000000 in
/-- Tell without a reason. -/
theorem tell_why (a0 a1 a2 a3 a4 a5 : Int) (a6 a7 : Bool) (a8 : ByteArray) (why src : Int) (h0 : 0 ≤ a0 ∧ a0 ≤ 4294967295) (h1 : 0 ≤ a1 ∧ a1 ≤ 4294967295) (hc : checkv a2 a3 a4 a5 a6 a7 a8.size = 0) (hy : why < 1 ∨ 6 < why) (w : World) :
    Calls Try.prog 22 #[.agg #[.int .u32 a0, .int .u32 a1, .int .i64 a2, .int .i64 a3, .int .i64 a4, .int .i64 a5, .bool a6, .bool a7, .string a8], .int .i64 why, .int .u32 src] w fun e w' =>
      e = .returned (.tuple #[.agg #[.int .u32 0, .int .u32 0, .int .i64 0, .int .i64 0, .int .i64 0, .int .i64 0, .bool false, .bool false, .string ⟨#[]⟩], .bool false, .int .i64 1]) ∧ Below w.heap.size w w' := by
  have henc := fun W => encode_calls a0 a1 a2 a3 a4 a5 a6 a7 a8 h0 h1 hc W
  generalize encv a0 a1 a2 a3 a4 a5 a6 a7 a8 = E at henc
  clear hc
  rcases hy with hy | hy
  all_goals
    go_enter Try.func22, Try.ntmps22
    go_wp2_with (first | (go_at_call 23; refine (henc _).mono ?_; rintro e w1 ⟨rfl, hb⟩; have hbx : w1.heap[w.heap.size]? = some (.cells #[.int .u32 a0, .int .u32 a1, .int .i64 a2, .int .i64 a3, .int .i64 a4, .int .i64 a5, .bool a6, .bool a7, .string a8] 24 (0, 0)) := blk_below (blk_alloc (blk_new w _) _) hb; have hry : w1.heap[w.heap.size + 1]? = some (.cells #[.int .u32 0, .int .u32 0, .int .i64 0, .int .i64 0, .int .i64 0, .int .i64 0, .bool false, .bool false, .string ⟨#[]⟩] 24 (0, 0)) := blk_below (blk_new' _ _ (by simp)) hb; obtain ⟨hc0, hc1, hc2, hc3, hc4, hc5, hc6, hc7, hc8⟩ := pk_cells hbx; have hwz := blk_lt hry; have hbw : Below w.heap.size w w1 := (((Below.refl _ _).alloc (Nat.le_refl _) _).alloc (by simp) _).trans (hb.mono (by simp; omega)); clear hb henc) | (refine gate_ (.store 24 (.tmp 6) (.tmp 29)) rfl ?_; refine wpList_store_block rfl 24 (.tmp 6) (.tmp 29) rfl rfl _ #[.int .u32 0, .int .u32 0, .int .i64 0, .int .i64 0, .int .i64 0, .int .i64 0, .bool false, .bool false, .string ⟨#[]⟩] rfl rfl rfl hry size24 rfl (pk_one _ _ _ _ _ _ _ _ _) ?_))
    intro w4 hw4 hg4
    go_wp2
    refine bodyPost_ret (results_ctt rfl _ _ (w.heap.size + 1) 24 _ (0, 0) _ rfl hw4 Try.underlying24 rfl size24) rfl ⟨rfl, ?_⟩
    exact hbw.grown hg4 (by omega) (fun k hk => by cases hk; omega)

set_option maxHeartbeats 2000000 in
/-- Tell where nothing is told. -/
theorem tell_quiet (a0 a1 a2 a3 a4 a5 : Int) (a6 a7 : Bool) (a8 : ByteArray) (why src : Int) (h0 : 0 ≤ a0 ∧ a0 ≤ 4294967295) (h1 : 0 ≤ a1 ∧ a1 ≤ 4294967295) (hsrc : 0 ≤ src ∧ src ≤ 4294967295) (hc : checkv a2 a3 a4 a5 a6 a7 a8.size = 0) (hy : 1 ≤ why) (hy' : why ≤ 6) (hq : silentv a0 a1 a2 a5 a8 = true ∨ uni src = false) (w : World) :
    Calls Try.prog 22 #[.agg #[.int .u32 a0, .int .u32 a1, .int .i64 a2, .int .i64 a3, .int .i64 a4, .int .i64 a5, .bool a6, .bool a7, .string a8], .int .i64 why, .int .u32 src] w fun e w' =>
      e = .returned (.tuple #[.agg #[.int .u32 0, .int .u32 0, .int .i64 0, .int .i64 0, .int .i64 0, .int .i64 0, .bool false, .bool false, .string ⟨#[]⟩], .bool false, .int .i64 0]) ∧ Below w.heap.size w w' := by
  obtain ⟨r2, r3, r4, r5, rs, ro, r8, rm, rw_⟩ := check_zero hc
  have henc := fun W => encode_calls a0 a1 a2 a3 a4 a5 a6 a7 a8 h0 h1 hc W
  have hsl := fun W => silent_calls a0 a1 a2 a3 a4 a5 a6 a7 a8 h0 h1 rs W
  have hun := fun W => unicast_calls src hsrc.1 hsrc.2 W
  generalize encv a0 a1 a2 a3 a4 a5 a6 a7 a8 = E at henc
  generalize silentv a0 a1 a2 a5 a8 = S at hsl hq
  generalize uni src = U at hun hq
  clear hc rm rw_ r8
  cases S
  · obtain rfl : U = false := by
      rcases hq with hq | hq
      · cases hq
      · exact hq
    clear hq
    go_enter Try.func22, Try.ntmps22
    go_wp2_with (first | (go_at_call 23; refine (henc _).mono ?_; rintro e w1 ⟨rfl, hb⟩; have hbx : w1.heap[w.heap.size]? = some (.cells #[.int .u32 a0, .int .u32 a1, .int .i64 a2, .int .i64 a3, .int .i64 a4, .int .i64 a5, .bool a6, .bool a7, .string a8] 24 (0, 0)) := blk_below (blk_alloc (blk_new w _) _) hb; have hry : w1.heap[w.heap.size + 1]? = some (.cells #[.int .u32 0, .int .u32 0, .int .i64 0, .int .i64 0, .int .i64 0, .int .i64 0, .bool false, .bool false, .string ⟨#[]⟩] 24 (0, 0)) := blk_below (blk_new' _ _ (by simp)) hb; obtain ⟨hc0, hc1, hc2, hc3, hc4, hc5, hc6, hc7, hc8⟩ := pk_cells hbx; have hwz := blk_lt hry; have hbw : Below w.heap.size w w1 := (((Below.refl _ _).alloc (Nat.le_refl _) _).alloc (by simp) _).trans (hb.mono (by simp; omega)); clear hb henc) | (go_at_call 31; refine (hsl _).mono ?_; rintro e w2 ⟨rfl, hb2⟩; clear hc0 hc1 hc2 hc3 hc4 hc5 hc6 hc7 hc8 hsl) | (go_at_call 32; refine (hun _).mono ?_; rintro e w3 ⟨rfl, rfl⟩) | (refine gate_ (.store 24 (.tmp 6) (.tmp 38)) rfl ?_; refine wpList_store_block rfl 24 (.tmp 6) (.tmp 38) rfl rfl _ #[.int .u32 0, .int .u32 0, .int .i64 0, .int .i64 0, .int .i64 0, .int .i64 0, .bool false, .bool false, .string ⟨#[]⟩] rfl rfl rfl (blk_below hry hb2) size24 rfl (pk_one _ _ _ _ _ _ _ _ _) ?_))
    intro w4 hw4 hg4
    go_wp2
    refine bodyPost_ret (results_ctt rfl _ _ (w.heap.size + 1) 24 _ (0, 0) _ rfl hw4 Try.underlying24 rfl size24) rfl ⟨rfl, ?_⟩
    have hz := hb2.size
    exact (hbw.trans (hb2.mono (by omega))).grown hg4 (by omega) (fun k hk => by cases hk; omega)
  · clear hq
    go_enter Try.func22, Try.ntmps22
    go_wp2_with (first | (go_at_call 23; refine (henc _).mono ?_; rintro e w1 ⟨rfl, hb⟩; have hbx : w1.heap[w.heap.size]? = some (.cells #[.int .u32 a0, .int .u32 a1, .int .i64 a2, .int .i64 a3, .int .i64 a4, .int .i64 a5, .bool a6, .bool a7, .string a8] 24 (0, 0)) := blk_below (blk_alloc (blk_new w _) _) hb; have hry : w1.heap[w.heap.size + 1]? = some (.cells #[.int .u32 0, .int .u32 0, .int .i64 0, .int .i64 0, .int .i64 0, .int .i64 0, .bool false, .bool false, .string ⟨#[]⟩] 24 (0, 0)) := blk_below (blk_new' _ _ (by simp)) hb; obtain ⟨hc0, hc1, hc2, hc3, hc4, hc5, hc6, hc7, hc8⟩ := pk_cells hbx; have hwz := blk_lt hry; have hbw : Below w.heap.size w w1 := (((Below.refl _ _).alloc (Nat.le_refl _) _).alloc (by simp) _).trans (hb.mono (by simp; omega)); clear hb henc) | (go_at_call 31; refine (hsl _).mono ?_; rintro e w2 ⟨rfl, hb2⟩; clear hc0 hc1 hc2 hc3 hc4 hc5 hc6 hc7 hc8 hsl) | (refine gate_ (.store 24 (.tmp 6) (.tmp 38)) rfl ?_; refine wpList_store_block rfl 24 (.tmp 6) (.tmp 38) rfl rfl _ #[.int .u32 0, .int .u32 0, .int .i64 0, .int .i64 0, .int .i64 0, .int .i64 0, .bool false, .bool false, .string ⟨#[]⟩] rfl rfl rfl (blk_below hry hb2) size24 rfl (pk_one _ _ _ _ _ _ _ _ _) ?_))
    intro w4 hw4 hg4
    go_wp2
    refine bodyPost_ret (results_ctt rfl _ _ (w.heap.size + 1) 24 _ (0, 0) _ rfl hw4 Try.underlying24 rfl size24) rfl ⟨rfl, ?_⟩
    have hz := hb2.size
    exact (hbw.trans (hb2.mono (by omega))).grown hg4 (by omega) (fun k hk => by cases hk; omega)

theorem faultLives_calls (w : World) : Calls Try.prog 20 #[] w fun e w' => e = .returned (.bool true) ∧ Below w.heap.size w w' := by
  have ht := fun W => tell_msg 1 2 0 1 0 0 false false ⟨#[]⟩ 2 3 (by decide) (by decide) (by decide) (by kernel_rfl) (by decide) (by decide) (by kernel_rfl) (by kernel_rfl) W
  generalize tellBody 2 (encv 1 2 0 1 0 0 false false ⟨#[]⟩) = T at ht
  go_enter Try.func20, Try.ntmps20
  go_wp2_with (go_at_call 22; refine (ht _).mono ?_; rintro e w1 ⟨rfl, hb⟩)
  go_ret
  exact ⟨rfl, hb.alloc hb.size _⟩

end Go.Proofs.Ythepnjbefngooaa.H
