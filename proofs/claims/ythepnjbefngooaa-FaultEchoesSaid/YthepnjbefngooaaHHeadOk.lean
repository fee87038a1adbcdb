/- The walk of pkt.Head where it answers. Conditions: the string is a right header and has at most 2000 bytes. -/
import Derived.Test.YthepnjbefngooaaPlainFirst
import Derived.Test.YthepnjbefngooaaHGet
import Derived.Test.YthepnjbefngooaaHHeadPlain
namespace Go.Proofs.Ythepnjbefngooaa.H
set_option linter.unusedSimpArgs false
set_option linter.unusedVariables false
open Go Go.RowKit Go.Proofs.YthepnjbefngooaaW.PrintWords Go.Proofs.YthepnjbefngooaaW.PrintLast Go.Proofs.YthepnjbefngooaaW.PrintMore Go.Proofs.Ythepnjbefngooaa.Plain

theorem getn2 (s : ByteArray) (i : Nat) : getn s i 2 = get2v s i := by
  simp only [getn, get2v, Nat.add_zero]; omega
theorem getn4 (s : ByteArray) (i : Nat) : getn s i 4 = get4v s i := by
  simp only [getn, get4v, Nat.add_zero]; omega
theorem and_any8191 (x : Int) : bits .and .i64 x 8191 = x % 8192 := by
  have h := bits_and_nat .i64 x 8191 (by decide)
  rw [show (8191 : Nat) = 2 ^ 13 - 1 by rfl, Nat.and_two_pow_sub_one_eq_mod, IntKind.wrap_i64] at h
  simp only [IntKind.bits] at h
  exact h.trans (by omega)

set_option maxHeartbeats 4000000 in
set_option maxRecDepth 100000 in
theorem head_ok (s : ByteArray) (hs : 20 ≤ s.size) (hs' : s.size ≤ 2000) (h0 : bt s (0 : Nat) = 69) (h1 : bt s (1 : Nat) = 0) (h2 : 20 ≤ get2v s 2) (h6 : get2v s 6 < 32768) (h8 : bt s (8 : Nat) ≠ 0) (h10 : get2v s 10 = PPktOrder.sumv (blank s)) (w : World) :
    Calls Try.prog 34 #[.string s] w fun e w' => e = .returned (.tuple #[.agg #[.int .u32 (get4v s 12), .int .u32 (get4v s 16), .int .i64 (bt s (9 : Nat)), .int .i64 (bt s (8 : Nat)), .int .i64 (get2v s 4), .int .i64 (get2v s 6 % 8192 * 8), .bool (bits .and .i64 (get2v s 6) 8192 != 0), .bool (bits .and .i64 (get2v s 6) 16384 != 0), .string ⟨#[]⟩], .int .i64 (get2v s 2), .int .i64 0]) ∧ Below w.heap.size w w' := by
  have g2 : ∀ W, Calls Try.prog 38 #[.string s, .int .i64 2, .int .i64 2] W fun e w' => e = .returned (.int .i64 (get2v s 2)) ∧ ∃ m, w' = W.drewN m := fun W => get2_calls s 2 hs' (by omega) W
  have g6 : ∀ W, Calls Try.prog 38 #[.string s, .int .i64 6, .int .i64 2] W fun e w' => e = .returned (.int .i64 (get2v s 6)) ∧ ∃ m, w' = W.drewN m := fun W => get2_calls s 6 hs' (by omega) W
  have g10 : ∀ W, Calls Try.prog 38 #[.string s, .int .i64 10, .int .i64 2] W fun e w' => e = .returned (.int .i64 (get2v s 10)) ∧ ∃ m, w' = W.drewN m := fun W => get2_calls s 10 hs' (by omega) W
  have g4 : ∀ W, Calls Try.prog 38 #[.string s, .int .i64 4, .int .i64 2] W fun e w' => e = .returned (.int .i64 (get2v s 4)) ∧ w' = W := fun W => (get_calls s 4 2 hs' (by decide) (by omega) W).mono fun e w' ⟨he, hw⟩ => ⟨by rw [he, getn2], hw⟩
  have g12 : ∀ W, Calls Try.prog 38 #[.string s, .int .i64 12, .int .i64 4] W fun e w' => e = .returned (.int .i64 (get4v s 12)) ∧ w' = W := fun W => (get_calls s 12 4 hs' (by decide) (by omega) W).mono fun e w' ⟨he, hw⟩ => ⟨by rw [he, getn4], hw⟩
  have g16 : ∀ W, Calls Try.prog 38 #[.string s, .int .i64 16, .int .i64 4] W fun e w' => e = .returned (.int .i64 (get4v s 16)) ∧ w' = W := fun W => (get_calls s 16 4 hs' (by decide) (by omega) W).mono fun e w' ⟨he, hw⟩ => ⟨by rw [he, getn4], hw⟩
  have gs := fun W => sum_calls (blank s) (by rw [blank_size s hs]; decide) W
  rw [← h10] at gs
  have hbl : blank s = s.extract 0 10 ++ ⟨#[0, 0]⟩ ++ s.extract 12 20 := rfl
  rw [hbl] at gs
  have r2 := get2v_range s 2
  have r6 := get2v_range s 6
  have r10 := get2v_range s 10
  have r4 := get2v_range s 4
  have r12 := get4v_range s 12
  have r16 := get4v_range s 16
  have p0 : 0 < s.size := by omega
  have p1 : 1 < s.size := by omega
  have p8 : 8 < s.size := by omega
  have p9 : 9 < s.size := by omega
  have r8 := bt_range s (8 : Nat)
  have r9 := bt_range s (9 : Nat)
  have hx0 := (idx_bt s 0 p0).symm
  have hx1 := (idx_bt s 1 p1).symm
  have hx8 := (idx_bt s 8 p8).symm
  have hx9 := (idx_bt s 9 p9).symm
  rw [h0] at hx0
  rw [h1] at hx1
  have f6 : bits .and .i64 (get2v s 6) 32768 = 0 := and_low r6.1 h6
  have f13 : bits .and .i64 (get2v s 6) 8191 = get2v s 6 % 8192 := and_any8191 _
  clear h10 hbl h0 h1
  generalize get2v s 2 = n2 at g2 r2 h2 ⊢
  generalize get2v s 6 = n6 at g6 r6 h6 f6 f13 ⊢
  generalize get2v s 10 = n10 at g10 gs r10
  generalize get2v s 4 = n4 at g4 r4 ⊢
  generalize get4v s 12 = n12 at g12 r12 ⊢
  generalize get4v s 16 = n16 at g16 r16 ⊢
  generalize bt s (8 : Nat) = x8 at hx8 h8 r8 ⊢
  generalize bt s (9 : Nat) = x9 at hx9 r9 ⊢
  have f8 : (x8 == 0) = false := beq_eq_false_iff_ne.mpr h8
  generalize hm8 : bits .and .i64 n6 8192 = q8
  generalize hm16 : bits .and .i64 n6 16384 = q16
  clear h8
  go_enter Try.func34, Try.ntmps34
  go_wp2_with (go_at_call 38; first | ((with_reducible refine (g2 _).mono ?_); rintro e w1 ⟨rfl, m1, rfl⟩) | ((with_reducible refine (g6 _).mono ?_); rintro e w2 ⟨rfl, m2, rfl⟩))
  have hx := blk_drewN (blk_new w (.cells #[.int .u32 0, .int .u32 0, .int .i64 0, .int .i64 0, .int .i64 0, .int .i64 0, .bool false, .bool false, .string ⟨#[]⟩] 24 (0, 0))) (m1 + m2)
  have hbw : Below w.heap.size w _ := pw_below_drewN ((Below.refl w.heap.size w).alloc (Nat.le_refl _) (.cells #[.int .u32 0, .int .u32 0, .int .i64 0, .int .i64 0, .int .i64 0, .int .i64 0, .bool false, .bool false, .string ⟨#[]⟩] 24 (0, 0))) (m1 + m2)
  generalize (w.alloc (.cells #[.int .u32 0, .int .u32 0, .int .i64 0, .int .i64 0, .int .i64 0, .int .i64 0, .bool false, .bool false, .string ⟨#[]⟩] 24 (0, 0))).drewN (m1 + m2) = W0 at hx hbw ⊢
  go_quiet ((first | (go_at_call 38; exact Calls.quiet_of (g10 _)) | (go_at_call 18; exact Calls.quiet_of (gs _))))
  go_wp2
  have hx1' := blk_drewN hx nq
  have hbw1 := pw_below_drewN hbw nq
  clear g2 g6 g10 gs hx hbw hx0 hx1 f6 f8
  generalize W0.drewN nq = W1 at hx1' hbw1 ⊢
  have e12 : IntKind.u32.wrap n12 = n12 := by rw [IntKind.wrap_u32]; omega
  have e16 : IntKind.u32.wrap n16 = n16 := by rw [IntKind.wrap_u32]; omega
  have e6 : IntKind.i64.wrap (n6 % 8192 * 8) = n6 % 8192 * 8 := IntWalk.i64_in _ (by omega)
  have m12 : n12 % 4294967296 = n12 := by omega
  have m16 : n16 % 4294967296 = n16 := by omega
  have m9 : wrap64 x9 = x9 := w64 (by omega) (by omega)
  have m8 : wrap64 x8 = x8 := w64 (by omega) (by omega)
  have m6 : wrap64 (n6 % 8192 * 8) = n6 % 8192 * 8 := w64 (by omega) (by omega)
  have q9' : ((9 : Int) < (s.size : Int)) = True := eq_true (by omega)
  have q8' : ((8 : Int) < (s.size : Int)) = True := eq_true (by omega)
  refine start_ (n := 26) (S := fun _ => True) (ds := []) #[false, false, false, false, false, false, false, false, false, false, false, false, false, false, false, false, false, false, false, false, false, false, false, false, false, false] (by kernel_rfl) rfl rfl trivial (fun hHeld => ?_)
  refine pure_ (i := 0) (N := some 52) (v := ?_) (a' := ?_) #[true, false, false, false, false, false, false, false, false, false, false, false, false, false, false, false, false, false, false, false, false, false, false, false, false, false] rfl rfl (by kernel_rfl) (fun _ _ _ h => h) (Or.inl ⟨by rfl, ?_⟩) ?_ ?_
  rotate_left
  · intro w'
    go_simp
    with_reducible rfl
  rotate_left
  · simp only [Act.put, List.setIfInBounds_toArray, List.set_cons_zero, List.set_cons_succ, i64_w, i32_w]
    rfl
  refine callF_ 1 #[true, true, false, false, false, false, false, false, false, false, false, false, false, false, false, false, false, false, false, false, false, false, false, false, false, false] (N := some 53) (a' := ?_) rfl rfl (by kernel_rfl) (fun _ _ _ h => h) Try.func38 (by kernel_rfl) rfl #[.string s, .int .i64 12, .int .i64 4] (by rfl) rfl (by (try simp only [List.map_toArray, List.map_cons, List.map_nil]); first | done | rfl) g12 ?_ ?_
  rotate_left
  · simp only [Act.put, List.setIfInBounds_toArray, List.set_cons_zero, List.set_cons_succ, i64_w, i32_w]
    rfl
  refine pure_ (i := 2) (N := some 54) (v := ?_) (a' := ?_) #[true, true, true, false, false, false, false, false, false, false, false, false, false, false, false, false, false, false, false, false, false, false, false, false, false, false] rfl rfl (by kernel_rfl) (fun _ _ _ h => h) (Or.inl ⟨by rfl, ?_⟩) ?_ ?_
  rotate_left
  · intro w'
    go_simp
    with_reducible rfl
  rotate_left
  · simp only [Act.put, List.setIfInBounds_toArray, List.set_cons_zero, List.set_cons_succ, i64_w, i32_w]
    rfl
  refine pure_ (i := 3) (N := some 55) (v := ?_) (a' := ?_) #[true, true, true, true, false, false, false, false, false, false, false, false, false, false, false, false, false, false, false, false, false, false, false, false, false, false] rfl rfl (by kernel_rfl) (fun _ _ _ h => h) (Or.inl ⟨by rfl, ?_⟩) ?_ ?_
  rotate_left
  · intro w'
    go_simp
    with_reducible rfl
  rotate_left
  · simp only [Act.put, List.setIfInBounds_toArray, List.set_cons_zero, List.set_cons_succ, i64_w, i32_w]
    rfl
  refine callF_ 4 #[true, true, true, true, true, false, false, false, false, false, false, false, false, false, false, false, false, false, false, false, false, false, false, false, false, false] (N := some 56) (a' := ?_) rfl rfl (by kernel_rfl) (fun _ _ _ h => h) Try.func38 (by kernel_rfl) rfl #[.string s, .int .i64 16, .int .i64 4] (by rfl) rfl (by (try simp only [List.map_toArray, List.map_cons, List.map_nil]); first | done | rfl) g16 ?_ ?_
  rotate_left
  · simp only [Act.put, List.setIfInBounds_toArray, List.set_cons_zero, List.set_cons_succ, i64_w, i32_w]
    rfl
  refine pure_ (i := 5) (N := some 57) (v := ?_) (a' := ?_) #[true, true, true, true, true, true, false, false, false, false, false, false, false, false, false, false, false, false, false, false, false, false, false, false, false, false] rfl rfl (by kernel_rfl) (fun _ _ _ h => h) (Or.inl ⟨by rfl, ?_⟩) ?_ ?_
  rotate_left
  · intro w'
    go_simp
    with_reducible rfl
  rotate_left
  · simp only [Act.put, List.setIfInBounds_toArray, List.set_cons_zero, List.set_cons_succ, i64_w, i32_w]
    rfl
  refine pure_ (i := 6) (N := some 58) (v := ?_) (a' := ?_) #[true, true, true, true, true, true, true, false, false, false, false, false, false, false, false, false, false, false, false, false, false, false, false, false, false, false] rfl rfl (by kernel_rfl) (fun _ _ _ h => h) (Or.inl ⟨by rfl, ?_⟩) ?_ ?_
  rotate_left
  · intro w'
    go_simp
    with_reducible rfl
  rotate_left
  · simp only [Act.put, List.setIfInBounds_toArray, List.set_cons_zero, List.set_cons_succ, i64_w, i32_w]
    rfl
  refine pure_ (i := 7) (N := some 59) (v := ?_) (a' := ?_) #[true, true, true, true, true, true, true, true, false, false, false, false, false, false, false, false, false, false, false, false, false, false, false, false, false, false] rfl rfl (by kernel_rfl) (fun _ _ _ h => h) (Or.inl ⟨by rfl, ?_⟩) ?_ ?_
  rotate_left
  · intro w'
    go_simp
    with_reducible rfl
  rotate_left
  · simp only [Act.put, List.setIfInBounds_toArray, List.set_cons_zero, List.set_cons_succ, i64_w, i32_w]
    rfl
  refine pure_ (i := 8) (N := some 60) (v := ?_) (a' := ?_) #[true, true, true, true, true, true, true, true, true, false, false, false, false, false, false, false, false, false, false, false, false, false, false, false, false, false] rfl rfl (by kernel_rfl) (fun _ _ _ h => h) (Or.inl ⟨by rfl, ?_⟩) ?_ ?_
  rotate_left
  · intro w'
    go_simp
    with_reducible rfl
  rotate_left
  · simp only [Act.put, List.setIfInBounds_toArray, List.set_cons_zero, List.set_cons_succ, i64_w, i32_w]
    rfl
  refine pure_ (i := 9) (N := some 61) (v := ?_) (a' := ?_) #[true, true, true, true, true, true, true, true, true, true, false, false, false, false, false, false, false, false, false, false, false, false, false, false, false, false] rfl rfl (by kernel_rfl) (fun _ _ _ h => h) (Or.inl ⟨by rfl, ?_⟩) ?_ ?_
  rotate_left
  · intro w'
    go_simp
    with_reducible rfl
  rotate_left
  · simp only [Act.put, List.setIfInBounds_toArray, List.set_cons_zero, List.set_cons_succ, i64_w, i32_w]
    rfl
  refine pure_ (i := 10) (N := some 62) (v := ?_) (a' := ?_) #[true, true, true, true, true, true, true, true, true, true, true, false, false, false, false, false, false, false, false, false, false, false, false, false, false, false] rfl rfl (by kernel_rfl) (fun _ _ _ h => h) (Or.inl ⟨by rfl, ?_⟩) ?_ ?_
  rotate_left
  · intro w'
    go_simp
    with_reducible rfl
  rotate_left
  · simp only [Act.put, List.setIfInBounds_toArray, List.set_cons_zero, List.set_cons_succ, i64_w, i32_w]
    rfl
  refine pure_ (i := 11) (N := some 63) (v := ?_) (a' := ?_) #[true, true, true, true, true, true, true, true, true, true, true, true, false, false, false, false, false, false, false, false, false, false, false, false, false, false] rfl rfl (by kernel_rfl) (fun _ _ _ h => h) (Or.inl ⟨by rfl, ?_⟩) ?_ ?_
  rotate_left
  · intro w'
    go_simp
    with_reducible rfl
  rotate_left
  · simp only [Act.put, List.setIfInBounds_toArray, List.set_cons_zero, List.set_cons_succ, i64_w, i32_w]
    rfl
  refine pure_ (i := 12) (N := some 64) (v := ?_) (a' := ?_) #[true, true, true, true, true, true, true, true, true, true, true, true, true, false, false, false, false, false, false, false, false, false, false, false, false, false] rfl rfl (by kernel_rfl) (fun _ _ _ h => h) (Or.inl ⟨by rfl, ?_⟩) ?_ ?_
  rotate_left
  · intro w'
    go_simp
    with_reducible rfl
  rotate_left
  · simp only [Act.put, List.setIfInBounds_toArray, List.set_cons_zero, List.set_cons_succ, i64_w, i32_w]
    rfl
  refine callF_ 13 #[true, true, true, true, true, true, true, true, true, true, true, true, true, true, false, false, false, false, false, false, false, false, false, false, false, false] (N := some 65) (a' := ?_) rfl rfl (by kernel_rfl) (fun _ _ _ h => h) Try.func38 (by kernel_rfl) rfl #[.string s, .int .i64 4, .int .i64 2] (by rfl) rfl (by (try simp only [List.map_toArray, List.map_cons, List.map_nil]); first | done | rfl) g4 ?_ ?_
  rotate_left
  · simp only [Act.put, List.setIfInBounds_toArray, List.set_cons_zero, List.set_cons_succ, i64_w, i32_w]
    rfl
  refine pure_ (i := 14) (N := some 66) (v := ?_) (a' := ?_) #[true, true, true, true, true, true, true, true, true, true, true, true, true, true, true, false, false, false, false, false, false, false, false, false, false, false] rfl rfl (by kernel_rfl) (fun _ _ _ h => h) (Or.inl ⟨by rfl, ?_⟩) ?_ ?_
  rotate_left
  · intro w'
    go_simp
    with_reducible rfl
  rotate_left
  · simp only [Act.put, List.setIfInBounds_toArray, List.set_cons_zero, List.set_cons_succ, i64_w, i32_w]
    rfl
  refine pure_ (i := 15) (N := some 67) (v := ?_) (a' := ?_) #[true, true, true, true, true, true, true, true, true, true, true, true, true, true, true, true, false, false, false, false, false, false, false, false, false, false] rfl rfl (by kernel_rfl) (fun _ _ _ h => h) (Or.inl ⟨by rfl, ?_⟩) ?_ ?_
  rotate_left
  · intro w'
    go_simp
    with_reducible rfl
  rotate_left
  · simp only [Act.put, List.setIfInBounds_toArray, List.set_cons_zero, List.set_cons_succ, i64_w, i32_w]
    rfl
  refine pure_ (i := 16) (N := some 68) (v := ?_) (a' := ?_) #[true, true, true, true, true, true, true, true, true, true, true, true, true, true, true, true, true, false, false, false, false, false, false, false, false, false] rfl rfl (by kernel_rfl) (fun _ _ _ h => h) (Or.inl ⟨by rfl, ?_⟩) ?_ ?_
  rotate_left
  · intro w'
    go_simp
    with_reducible rfl
  rotate_left
  · simp only [Act.put, List.setIfInBounds_toArray, List.set_cons_zero, List.set_cons_succ, i64_w, i32_w]
    rfl
  refine pure_ (i := 17) (N := some 69) (v := ?_) (a' := ?_) #[true, true, true, true, true, true, true, true, true, true, true, true, true, true, true, true, true, true, false, false, false, false, false, false, false, false] rfl rfl (by kernel_rfl) (fun _ _ _ h => h) (Or.inl ⟨by rfl, ?_⟩) ?_ ?_
  rotate_left
  · intro w'
    go_simp
    with_reducible rfl
  rotate_left
  · simp only [Act.put, List.setIfInBounds_toArray, List.set_cons_zero, List.set_cons_succ, i64_w, i32_w]
    rfl
  refine pure_ (i := 18) (N := some 70) (v := ?_) (a' := ?_) #[true, true, true, true, true, true, true, true, true, true, true, true, true, true, true, true, true, true, true, false, false, false, false, false, false, false] rfl rfl (by kernel_rfl) (fun _ _ _ h => h) (Or.inl ⟨by rfl, ?_⟩) ?_ ?_
  rotate_left
  · intro w'
    go_simp
    with_reducible rfl
  rotate_left
  · simp only [Act.put, List.setIfInBounds_toArray, List.set_cons_zero, List.set_cons_succ, i64_w, i32_w]
    rfl
  refine pure_ (i := 19) (N := some 71) (v := ?_) (a' := ?_) #[true, true, true, true, true, true, true, true, true, true, true, true, true, true, true, true, true, true, true, true, false, false, false, false, false, false] rfl rfl (by kernel_rfl) (fun _ _ _ h => h) (Or.inl ⟨by rfl, ?_⟩) ?_ ?_
  rotate_left
  · intro w'
    go_simp
    with_reducible rfl
  rotate_left
  · simp only [Act.put, List.setIfInBounds_toArray, List.set_cons_zero, List.set_cons_succ, i64_w, i32_w]
    rfl
  refine pure_ (i := 20) (N := some 72) (v := ?_) (a' := ?_) #[true, true, true, true, true, true, true, true, true, true, true, true, true, true, true, true, true, true, true, true, true, false, false, false, false, false] rfl rfl (by kernel_rfl) (fun _ _ _ h => h) (Or.inl ⟨by rfl, ?_⟩) ?_ ?_
  rotate_left
  · intro w'
    go_simp
    with_reducible rfl
  rotate_left
  · simp only [Act.put, List.setIfInBounds_toArray, List.set_cons_zero, List.set_cons_succ, i64_w, i32_w]
    rfl
  refine pure_ (i := 21) (N := some 73) (v := ?_) (a' := ?_) #[true, true, true, true, true, true, true, true, true, true, true, true, true, true, true, true, true, true, true, true, true, true, false, false, false, false] rfl rfl (by kernel_rfl) (fun _ _ _ h => h) (Or.inl ⟨by rfl, ?_⟩) ?_ ?_
  rotate_left
  · intro w'
    go_simp
    with_reducible rfl
  rotate_left
  · simp only [Act.put, List.setIfInBounds_toArray, List.set_cons_zero, List.set_cons_succ, i64_w, i32_w]
    rfl
  refine pure_ (i := 22) (N := some 74) (v := ?_) (a' := ?_) #[true, true, true, true, true, true, true, true, true, true, true, true, true, true, true, true, true, true, true, true, true, true, true, false, false, false] rfl rfl (by kernel_rfl) (fun _ _ _ h => h) (Or.inl ⟨by rfl, ?_⟩) ?_ ?_
  rotate_left
  · intro w'
    go_simp
    with_reducible rfl
  rotate_left
  · simp only [Act.put, List.setIfInBounds_toArray, List.set_cons_zero, List.set_cons_succ, i64_w, i32_w]
    rfl
  refine pure_ (i := 23) (N := some 75) (v := ?_) (a' := ?_) #[true, true, true, true, true, true, true, true, true, true, true, true, true, true, true, true, true, true, true, true, true, true, true, true, false, false] rfl rfl (by kernel_rfl) (fun _ _ _ h => h) (Or.inl ⟨by rfl, ?_⟩) ?_ ?_
  rotate_left
  · intro w'
    go_simp
    with_reducible rfl
  rotate_left
  · simp only [Act.put, List.setIfInBounds_toArray, List.set_cons_zero, List.set_cons_succ, i64_w, i32_w]
    rfl
  refine one_ (i := 24) (N := some 7) #[true, true, true, true, true, true, true, true, true, true, true, true, true, true, true, true, true, true, true, true, true, true, true, true, true, false] rfl rfl (by kernel_rfl) (by decide) (fun K hK => ?_)
  refine box_step ?hg (N := 7) ?hd (cs := #[.int .u32 0, .int .u32 0, .int .i64 0, .int .i64 0, .int .i64 0, .int .i64 0, .bool false, .bool false, .string ⟨#[]⟩]) (t := 24) ?hr ?_; (case hd => rfl); (case hg => rfl); (case hr => first | (go_simp; done) | (go_simp; rfl))
  intro g7 hg7 w7 hbox hb7
  refine hK.out _ _ trivial (fun hHeld => ?_)
  clear hK K
  refine norm_ (a' := ?_) ?_ ?_
  rotate_left
  · show Act.put _ (some 7) _ = _
    simp only [Act.put, List.setIfInBounds_toArray, List.set_cons_zero, List.set_cons_succ, i64_w, i32_w]
    rfl
  refine one_ (i := 25) (N := none) #[true, true, true, true, true, true, true, true, true, true, true, true, true, true, true, true, true, true, true, true, true, true, true, true, true, true] rfl rfl (by kernel_rfl) (by decide) (fun K hK => ?_)
  refine store_step (by rfl) 24 (.tmp 7) (.tmp 75) rfl _ #[.int .u32 n12, .int .u32 n16, .int .i64 x9, .int .i64 x8, .int .i64 n4, .int .i64 (n6 % 8192 * 8), .bool (q8 != 0), .bool (q16 != 0), .string ⟨#[]⟩] rfl rfl ?hu hbox size24 rfl (pk_one _ _ _ _ _ _ _ _ _) ?_
  case hu => simp [Act.eval, Value.cells, m12, m16, m9, m8, m6]
  intro w8 hbox8 hg8
  refine hK.out _ _ trivial (fun hHeld => ?_)
  clear hK K
  refine done_ (by kernel_rfl) ?_
  have hbw8 : Below w.heap.size w w8 := (hbw1.drew.trans (hb7.mono hbw1.drew.size)).grown hg8 (by have h1 := hbw1.drew.size; have h2 := hb7.size; omega) (fun k hk => by cases hk; rw [hg7]; exact hbw1.drew.size)
  have hne : w.heap.size ≠ g7 := by rw [hg7]; exact Nat.ne_of_lt (blk_lt (blk_drew hx1'))
  have hz8 := blk_grown (blk_below (blk_drew hx1') hb7) hg8 (by simpa using hne)
  clear hg8 hbox hb7 hg7 m12 m16 m9 m8 m6 hx8 hx9 q9' q8' e12 e16 e6
  obtain ⟨hc0, hc1, hc2, hc3, hc4, hc5, hc6, hc7, hc8⟩ := pk_cells hbox8
  go_wp2_with (refine gate_ (.store 24 (.tmp 2) (.tmp 76)) rfl ?_; refine wpList_store_block rfl 24 (.tmp 2) (.tmp 76) rfl rfl _ #[.int .u32 n12, .int .u32 n16, .int .i64 x9, .int .i64 x8, .int .i64 n4, .int .i64 (n6 % 8192 * 8), .bool (q8 != 0), .bool (q16 != 0), .string ⟨#[]⟩] rfl rfl rfl hz8 size24 rfl (pk_one _ _ _ _ _ _ _ _ _) ?_)
  intro w9 hw9 hg9
  clear hc0 hc1 hc2 hc3 hc4 hc5 hc6 hc7 hc8
  go_wp2
  refine bodyPost_ret (results_ctt rfl _ _ w.heap.size 24 _ (0, 0) _ rfl hw9 Try.underlying24 rfl size24) rfl ⟨rfl, ?_⟩
  exact hbw8.grown hg9 hbw8.size (fun k hk => by cases hk; exact Nat.le_refl _)
end Go.Proofs.Ythepnjbefngooaa.H
