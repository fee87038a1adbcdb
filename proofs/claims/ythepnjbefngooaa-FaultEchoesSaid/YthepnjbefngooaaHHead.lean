/- Walks of pkt.Head where it refuses: get and Sum by what they compute. Conditions: the string has at least the length of a header and at most 2000 bytes. -/
import Derived.Deep.QuietTactic
import Derived.BigQuiet
import Derived.IntWalk
import Derived.Test.YthepnjbefngooaaHCutAid
import Derived.Test.YthepnjbefngooaaMPktOrderSum
import Derived.Test.YthepnjbefngooaaPFaultQuotesx5
namespace Go.Proofs.Ythepnjbefngooaa.H
set_option linter.unusedSimpArgs false
set_option linter.unusedVariables false
open Go Go.RowKit Go.Proofs.YthepnjbefngooaaW.PrintWords Go.Proofs.YthepnjbefngooaaW.PrintLast Go.Proofs.YthepnjbefngooaaW.PrintMore Go.Proofs.Ythepnjbefngooaa.Plain

theorem or_byte {x y : Int} (h0 : 0 ≤ x) (h1 : x < 36028797018963968) (h2 : 0 ≤ y) (h3 : y < 256) : bits .or .i64 (wrap64 (x * 256)) (wrap64 y) = x * 256 + y := by
  rw [w64 (n := x * 256) (by omega) (by omega), w64 (n := y) (by omega) (by omega)]
  have := bits_join .i64 63 (by decide) wraps_i64 8 (x * 256) y (by omega) (by omega) (by omega) h2 (by simpa using h3) (by omega)
  exact this
/-- Two bytes as a number. -/
def get2v (s : ByteArray) (i : Nat) : Int := bt s (i : Nat) * 256 + bt s ((i + 1 : Nat) : Int)
def get4v (s : ByteArray) (i : Nat) : Int := ((bt s (i : Nat) * 256 + bt s ((i + 1 : Nat) : Int)) * 256 + bt s ((i + 2 : Nat) : Int)) * 256 + bt s ((i + 3 : Nat) : Int)
theorem get2v_range (s : ByteArray) (i : Nat) : 0 ≤ get2v s i ∧ get2v s i ≤ 65535 := by
  have h1 := bt_range s (i : Nat)
  have h2 := bt_range s ((i + 1 : Nat) : Int)
  unfold get2v; omega
theorem get4v_range (s : ByteArray) (i : Nat) : 0 ≤ get4v s i ∧ get4v s i ≤ 4294967295 := by
  have h1 := bt_range s (i : Nat)
  have h2 := bt_range s ((i + 1 : Nat) : Int)
  have h3 := bt_range s ((i + 2 : Nat) : Int)
  have h4 := bt_range s ((i + 3 : Nat) : Int)
  unfold get4v; omega

theorem get_step (k : Nat) (s : ByteArray) (i : Nat) (x n : Int) (j : Nat) (hs : s.size ≤ 2000) (hi : i + j < s.size) (hj : (j : Int) < n) (h0 : 0 ≤ x) (h1 : x < 36028797018963968) :
    PFaultQuotes.pkt_get.l0 (k + 1) s (i : Int) x n (j : Int) = PFaultQuotes.pkt_get.l0 k s (i : Int) (x * 256 + bt s ((i + j : Nat) : Int)) n ((j + 1 : Nat) : Int) := by
  have e1 : wrap64 ((i : Int) + (j : Int)) = ((i + j : Nat) : Int) := by rw [w64 (by omega) (by omega)]; omega
  have e2 : wrap64 ((j : Int) + 1) = ((j + 1 : Nat) : Int) := by rw [w64 (by omega) (by omega)]; omega
  have hb := bt_range s ((i + j : Nat) : Int)
  simp only [PFaultQuotes.pkt_get.l0]
  rw [if_pos hj, e1, e2, if_pos (by omega), if_pos (by omega), or_byte h0 h1 hb.1 (by omega)]
theorem get_done (k : Nat) (s : ByteArray) (i : Nat) (x n : Int) (j : Nat) (hj : ¬ (j : Int) < n) : PFaultQuotes.pkt_get.l0 (k + 1) s (i : Int) x n (j : Int) = some x := by
  simp only [PFaultQuotes.pkt_get.l0]
  rw [if_neg hj]

theorem get2_calls (s : ByteArray) (i : Nat) (hs : s.size ≤ 2000) (hi : i + 2 ≤ s.size) (w : World) :
    Calls Try.prog 38 #[.string s, .int .i64 (i : Int), .int .i64 2] w fun e w' => e = .returned (.int .i64 (get2v s i)) ∧ ∃ m, w' = w.drewN m := by
  have h : PFaultQuotes.pkt_get.f 3 s (i : Int) 2 = some (get2v s i) := by
    have b0 := bt_range s ((i + 0 : Nat) : Int)
    show PFaultQuotes.pkt_get.l0 (2 + 1) s (i : Int) 0 2 ((0 : Nat) : Int) = _
    rw [get_step 2 s i 0 2 0 hs (by omega) (by decide) (by decide) (by decide), get_step 1 s i _ 2 1 hs (by omega) (by decide) (by omega) (by omega), get_done _ _ _ _ _ _ (by decide)]
    unfold get2v
    simp only [Nat.add_zero]
    congr 1
    omega
  exact (PFaultQuotes.pkt_get.calls 3 s (i : Int) 2 _ w h).mono fun e w' ⟨he, hd⟩ => ⟨he, hd.out⟩
theorem get4_calls (s : ByteArray) (i : Nat) (hs : s.size ≤ 2000) (hi : i + 4 ≤ s.size) (w : World) :
    Calls Try.prog 38 #[.string s, .int .i64 (i : Int), .int .i64 4] w fun e w' => e = .returned (.int .i64 (get4v s i)) ∧ ∃ m, w' = w.drewN m := by
  have h : PFaultQuotes.pkt_get.f 5 s (i : Int) 4 = some (get4v s i) := by
    have b0 := bt_range s ((i + 0 : Nat) : Int)
    have b1 := bt_range s ((i + 1 : Nat) : Int)
    have b2 := bt_range s ((i + 2 : Nat) : Int)
    show PFaultQuotes.pkt_get.l0 (4 + 1) s (i : Int) 0 4 ((0 : Nat) : Int) = _
    rw [get_step 4 s i 0 4 0 hs (by omega) (by decide) (by decide) (by decide), get_step 3 s i _ 4 1 hs (by omega) (by decide) (by omega) (by omega), get_step 2 s i _ 4 2 hs (by omega) (by decide) (by omega) (by omega), get_step 1 s i _ 4 3 hs (by omega) (by decide) (by omega) (by omega), get_done _ _ _ _ _ _ (by decide)]
    unfold get4v
    simp only [Nat.add_zero]
    congr 1
    omega
  exact (PFaultQuotes.pkt_get.calls 5 s (i : Int) 4 _ w h).mono fun e w' ⟨he, hd⟩ => ⟨he, hd.out⟩
theorem sum_calls (s : ByteArray) (hs : s.size ≤ 1000000) (w : World) :
    Calls Try.prog 18 #[.string s] w fun e w' => e = .returned (.int .i64 (PPktOrder.sumv s)) ∧ ∃ m, w' = w.drewN m := by
  obtain ⟨k, hk⟩ := Ev.rounds (PPktOrder.sum_ev s hs)
  exact (PPktOrder.pkt_Sum.calls k s _ w hk).mono fun e w' ⟨he, hd⟩ => ⟨he, hd.out⟩

/-- A header with zeros for its checksum. -/
def blank (s : ByteArray) : ByteArray := s.extract 0 10 ++ ⟨#[0, 0]⟩ ++ s.extract 12 20

theorem blank_size (s : ByteArray) (hs : 20 ≤ s.size) : (blank s).size = 20 := by
  have h : ((⟨#[0, 0]⟩ : ByteArray)).size = 2 := rfl
  unfold blank
  rw [ByteArray.size_append, ByteArray.size_append, size_ext, size_ext, h]
  omega
theorem idx_bt (s : ByteArray) (i : Nat) (h : i < s.size) : bt s (i : Nat) = ((s[i]'h).toNat : Int) := by
  have := bt_at s (i : Int) (by simpa using h)
  exact this.symm

theorem and_high {n : Int} (h0 : 32768 ≤ n) (h1 : n ≤ 65535) : bits .and .i64 n 32768 = 32768 := by
  obtain ⟨a, rfl⟩ := Int.eq_ofNat_of_zero_le (by omega : 0 ≤ n)
  have h := (bits_nat .i64 63 (by decide) wraps_i64 a 32768 (by omega) (by decide)).1
  rw [show ((32768 : Nat) : Int) = 32768 by rfl] at h
  rw [h]
  have : a &&& 32768 = 32768 := by
    have hb : a.testBit 15 = true := by
      rw [Nat.testBit_eq_decide_div_mod_eq]
      simp; omega
    apply Nat.eq_of_testBit_eq
    intro i
    rw [Nat.testBit_and, show (32768 : Nat) = 2 ^ 15 by rfl, Nat.testBit_two_pow]
    by_cases h15 : 15 = i
    · subst h15; simp [hb]
    · simp [h15]
  rw [this]; rfl
theorem and_low {n : Int} (h0 : 0 ≤ n) (h1 : n < 32768) : bits .and .i64 n 32768 = 0 := by
  obtain ⟨a, rfl⟩ := Int.eq_ofNat_of_zero_le h0
  have h := (bits_nat .i64 63 (by decide) wraps_i64 a 32768 (by omega) (by decide)).1
  rw [show ((32768 : Nat) : Int) = 32768 by rfl] at h
  rw [h]
  have : a &&& 32768 = 0 := by
    have hb : a.testBit 15 = false := Nat.testBit_lt_two_pow (by omega)
    apply Nat.eq_of_testBit_eq
    intro i
    rw [Nat.testBit_and, show (32768 : Nat) = 2 ^ 15 by rfl, Nat.testBit_two_pow]
    by_cases h15 : 15 = i
    · subst h15; simp [hb]
    · simp [h15]
  rw [this]; rfl

set_option maxHeartbeats 2000000 in
set_option maxRecDepth 100000 in
theorem head_bad (s : ByteArray) (hs : 20 ≤ s.size) (hs' : s.size ≤ 2000) (hbad : ¬ (bt s (0 : Nat) = 69 ∧ bt s (1 : Nat) = 0 ∧ 20 ≤ get2v s 2 ∧ get2v s 6 < 32768 ∧ bt s (8 : Nat) ≠ 0 ∧ get2v s 10 = PPktOrder.sumv (blank s))) (w : World) :
    Calls Try.prog 34 #[.string s] w fun e w' => ∃ c : Int, c ≠ 0 ∧ e = .returned (.tuple #[.agg #[.int .u32 0, .int .u32 0, .int .i64 0, .int .i64 0, .int .i64 0, .int .i64 0, .bool false, .bool false, .string ⟨#[]⟩], .int .i64 0, .int .i64 c]) ∧ Below w.heap.size w w' := by
  have g2 : ∀ W, Calls Try.prog 38 #[.string s, .int .i64 2, .int .i64 2] W fun e w' => e = .returned (.int .i64 (get2v s 2)) ∧ ∃ m, w' = W.drewN m := fun W => get2_calls s 2 hs' (by omega) W
  have g6 : ∀ W, Calls Try.prog 38 #[.string s, .int .i64 6, .int .i64 2] W fun e w' => e = .returned (.int .i64 (get2v s 6)) ∧ ∃ m, w' = W.drewN m := fun W => get2_calls s 6 hs' (by omega) W
  have g10 : ∀ W, Calls Try.prog 38 #[.string s, .int .i64 10, .int .i64 2] W fun e w' => e = .returned (.int .i64 (get2v s 10)) ∧ ∃ m, w' = W.drewN m := fun W => get2_calls s 10 hs' (by omega) W
  have r2 := get2v_range s 2
  have r6 := get2v_range s 6
  have r10 := get2v_range s 10
  rw [idx_bt s 0 (by omega), idx_bt s 1 (by omega), idx_bt s 8 (by omega)] at hbad
  generalize get2v s 2 = n2 at g2 r2 hbad
  generalize get2v s 6 = n6 at g6 r6 hbad
  generalize get2v s 10 = n10 at g10 r10 hbad
  have p0 : 0 < s.size := by omega
  have p1 : 1 < s.size := by omega
  have p8 : 8 < s.size := by omega
  generalize hx0 : ((s[0]'p0).toNat : Int) = x0 at hbad
  generalize hx1 : ((s[1]'p1).toNat : Int) = x1 at hbad
  generalize hx8 : ((s[8]'p8).toNat : Int) = x8 at hbad
  by_cases c0 : ¬ x0 = 69
  · have f0 : (x0 != 69) = true := bne_iff_ne.mpr c0
    clear hbad c0 g10 hx1 hx8
    go_enter Try.func34, Try.ntmps34
    go_wp2_with (first | (go_at_call 38; first | ((with_reducible refine (g2 _).mono ?_); rintro e w1 ⟨rfl, m1, rfl⟩) | ((with_reducible refine (g6 _).mono ?_); rintro e w2 ⟨rfl, m2, rfl⟩)) | (refine gate_ (.store 24 (.tmp 2) (.tmp 39)) rfl ?_; refine wpList_store_block rfl 24 (.tmp 2) (.tmp 39) rfl rfl _ #[.int .u32 0, .int .u32 0, .int .i64 0, .int .i64 0, .int .i64 0, .int .i64 0, .bool false, .bool false, .string ⟨#[]⟩] rfl rfl rfl (blk_drewN (blk_new w _) _) size24 rfl (pk_one _ _ _ _ _ _ _ _ _) ?_))
    intro w4 hw4 hg4
    go_wp2
    refine bodyPost_ret (results_ctt rfl _ _ w.heap.size 24 _ (0, 0) _ rfl hw4 Try.underlying24 rfl size24) rfl ⟨3, by decide, rfl, ?_⟩
    exact (pw_below_drewN ((Below.refl _ _).alloc (Nat.le_refl _) _) _).grown hg4 (by simp) (fun k hk => by cases hk; exact Nat.le_refl _)
  have c0 : x0 = 69 := Decidable.not_not.mp c0
  have f0 : (x0 != 69) = false := bne_eq_false_iff_eq.mpr c0
  by_cases c1 : ¬ x1 = 0
  · have f1 : (x1 != 0) = true := bne_iff_ne.mpr c1
    clear hbad c0 c1 g10 hx8
    go_enter Try.func34, Try.ntmps34
    go_wp2_with (first | (go_at_call 38; first | ((with_reducible refine (g2 _).mono ?_); rintro e w1 ⟨rfl, m1, rfl⟩) | ((with_reducible refine (g6 _).mono ?_); rintro e w2 ⟨rfl, m2, rfl⟩)) | (refine gate_ (.store 24 (.tmp 2) (.tmp 39)) rfl ?_; refine wpList_store_block rfl 24 (.tmp 2) (.tmp 39) rfl rfl _ #[.int .u32 0, .int .u32 0, .int .i64 0, .int .i64 0, .int .i64 0, .int .i64 0, .bool false, .bool false, .string ⟨#[]⟩] rfl rfl rfl (blk_drewN (blk_new w _) _) size24 rfl (pk_one _ _ _ _ _ _ _ _ _) ?_))
    intro w4 hw4 hg4
    go_wp2
    refine bodyPost_ret (results_ctt rfl _ _ w.heap.size 24 _ (0, 0) _ rfl hw4 Try.underlying24 rfl size24) rfl ⟨3, by decide, rfl, ?_⟩
    exact (pw_below_drewN ((Below.refl _ _).alloc (Nat.le_refl _) _) _).grown hg4 (by simp) (fun k hk => by cases hk; exact Nat.le_refl _)
  have c1 : x1 = 0 := Decidable.not_not.mp c1
  have f1 : (x1 != 0) = false := bne_eq_false_iff_eq.mpr c1
  by_cases c2 : n2 < 20
  · clear hbad c0 c1 g10 hx8
    go_enter Try.func34, Try.ntmps34
    go_wp2_with (first | (go_at_call 38; first | ((with_reducible refine (g2 _).mono ?_); rintro e w1 ⟨rfl, m1, rfl⟩) | ((with_reducible refine (g6 _).mono ?_); rintro e w2 ⟨rfl, m2, rfl⟩)) | (refine gate_ (.store 24 (.tmp 2) (.tmp 39)) rfl ?_; refine wpList_store_block rfl 24 (.tmp 2) (.tmp 39) rfl rfl _ #[.int .u32 0, .int .u32 0, .int .i64 0, .int .i64 0, .int .i64 0, .int .i64 0, .bool false, .bool false, .string ⟨#[]⟩] rfl rfl rfl (blk_drewN (blk_new w _) _) size24 rfl (pk_one _ _ _ _ _ _ _ _ _) ?_))
    intro w4 hw4 hg4
    go_wp2
    refine bodyPost_ret (results_ctt rfl _ _ w.heap.size 24 _ (0, 0) _ rfl hw4 Try.underlying24 rfl size24) rfl ⟨3, by decide, rfl, ?_⟩
    exact (pw_below_drewN ((Below.refl _ _).alloc (Nat.le_refl _) _) _).grown hg4 (by simp) (fun k hk => by cases hk; exact Nat.le_refl _)
  by_cases c6 : 32768 ≤ n6
  · have f6 : bits .and .i64 n6 32768 = 32768 := and_high c6 r6.2
    clear hbad c0 c1 g10 hx8
    go_enter Try.func34, Try.ntmps34
    go_wp2_with (first | (go_at_call 38; first | ((with_reducible refine (g2 _).mono ?_); rintro e w1 ⟨rfl, m1, rfl⟩) | ((with_reducible refine (g6 _).mono ?_); rintro e w2 ⟨rfl, m2, rfl⟩)) | (refine gate_ (.store 24 (.tmp 2) (.tmp 39)) rfl ?_; refine wpList_store_block rfl 24 (.tmp 2) (.tmp 39) rfl rfl _ #[.int .u32 0, .int .u32 0, .int .i64 0, .int .i64 0, .int .i64 0, .int .i64 0, .bool false, .bool false, .string ⟨#[]⟩] rfl rfl rfl (blk_drewN (blk_new w _) _) size24 rfl (pk_one _ _ _ _ _ _ _ _ _) ?_))
    intro w4 hw4 hg4
    go_wp2
    refine bodyPost_ret (results_ctt rfl _ _ w.heap.size 24 _ (0, 0) _ rfl hw4 Try.underlying24 rfl size24) rfl ⟨3, by decide, rfl, ?_⟩
    exact (pw_below_drewN ((Below.refl _ _).alloc (Nat.le_refl _) _) _).grown hg4 (by simp) (fun k hk => by cases hk; exact Nat.le_refl _)
  have f6 : bits .and .i64 n6 32768 = 0 := and_low r6.1 (by omega)
  by_cases c8 : x8 = 0
  · have f8 : (x8 == 0) = true := beq_iff_eq.mpr c8
    clear hbad c0 c1 g10 c8
    go_enter Try.func34, Try.ntmps34
    go_wp2_with (first | (go_at_call 38; first | ((with_reducible refine (g2 _).mono ?_); rintro e w1 ⟨rfl, m1, rfl⟩) | ((with_reducible refine (g6 _).mono ?_); rintro e w2 ⟨rfl, m2, rfl⟩)) | (refine gate_ (.store 24 (.tmp 2) (.tmp 39)) rfl ?_; refine wpList_store_block rfl 24 (.tmp 2) (.tmp 39) rfl rfl _ #[.int .u32 0, .int .u32 0, .int .i64 0, .int .i64 0, .int .i64 0, .int .i64 0, .bool false, .bool false, .string ⟨#[]⟩] rfl rfl rfl (blk_drewN (blk_new w _) _) size24 rfl (pk_one _ _ _ _ _ _ _ _ _) ?_))
    intro w4 hw4 hg4
    go_wp2
    refine bodyPost_ret (results_ctt rfl _ _ w.heap.size 24 _ (0, 0) _ rfl hw4 Try.underlying24 rfl size24) rfl ⟨3, by decide, rfl, ?_⟩
    exact (pw_below_drewN ((Below.refl _ _).alloc (Nat.le_refl _) _) _).grown hg4 (by simp) (fun k hk => by cases hk; exact Nat.le_refl _)
  have f8 : (x8 == 0) = false := beq_eq_false_iff_ne.mpr c8
  have hne : n10 ≠ PPktOrder.sumv (blank s) := fun h => hbad ⟨c0, c1, by omega, by omega, c8, h⟩
  have gs := fun W => sum_calls (blank s) (by rw [blank_size s hs]; decide) W
  have hbl : blank s = s.extract 0 10 ++ ⟨#[0, 0]⟩ ++ s.extract 12 20 := rfl
  generalize PPktOrder.sumv (blank s) = sm at gs hne
  rw [hbl] at gs
  have hbn : (n10 != sm) = true := bne_iff_ne.mpr hne
  clear hbad c0 c1 c8 hne hbl
  go_enter Try.func34, Try.ntmps34
  go_wp2_with (go_at_call 38; first | ((with_reducible refine (g2 _).mono ?_); rintro e w1 ⟨rfl, m1, rfl⟩) | ((with_reducible refine (g6 _).mono ?_); rintro e w2 ⟨rfl, m2, rfl⟩))
  have hx := blk_drewN (blk_new w (.cells #[.int .u32 0, .int .u32 0, .int .i64 0, .int .i64 0, .int .i64 0, .int .i64 0, .bool false, .bool false, .string ⟨#[]⟩] 24 (0, 0))) (m1 + m2)
  have hbw : Below w.heap.size w _ := pw_below_drewN ((Below.refl w.heap.size w).alloc (Nat.le_refl _) (.cells #[.int .u32 0, .int .u32 0, .int .i64 0, .int .i64 0, .int .i64 0, .int .i64 0, .bool false, .bool false, .string ⟨#[]⟩] 24 (0, 0))) (m1 + m2)
  generalize (w.alloc (.cells #[.int .u32 0, .int .u32 0, .int .i64 0, .int .i64 0, .int .i64 0, .int .i64 0, .bool false, .bool false, .string ⟨#[]⟩] 24 (0, 0))).drewN (m1 + m2) = W0 at hx hbw ⊢
  go_quiet ((first | (go_at_call 38; exact Calls.quiet_of (g10 _)) | (go_at_call 18; exact Calls.quiet_of (gs _))))
  go_wp2_with (refine gate_ (.store 24 (.tmp 2) (.tmp 51)) rfl ?_; refine wpList_store_block rfl 24 (.tmp 2) (.tmp 51) rfl rfl _ #[.int .u32 0, .int .u32 0, .int .i64 0, .int .i64 0, .int .i64 0, .int .i64 0, .bool false, .bool false, .string ⟨#[]⟩] rfl rfl rfl (blk_drewN hx _) size24 rfl (pk_one _ _ _ _ _ _ _ _ _) ?_)
  intro w4 hw4 hg4
  go_wp2
  refine bodyPost_ret (results_ctt rfl _ _ w.heap.size 24 _ (0, 0) _ rfl hw4 Try.underlying24 rfl size24) rfl ⟨8, by decide, rfl, ?_⟩
  exact (pw_below_drewN hbw _).grown hg4 hbw.size (fun k hk => by cases hk; exact Nat.le_refl _)
end Go.Proofs.Ythepnjbefngooaa.H
