/- Walks of fault.reply and fault.Read where the message is a reply. Conditions: sizes that the rows give. -/
import Derived.Test.YthepnjbefngooaaHEcho
namespace Go.Proofs.Ythepnjbefngooaa.H
set_option linter.unusedSimpArgs false
set_option linter.unusedVariables false
open Go Go.RowKit Go.Proofs.YthepnjbefngooaaW.PrintWords Go.Proofs.YthepnjbefngooaaW.PrintLast Go.Proofs.YthepnjbefngooaaW.PrintMore Go.Proofs.Ythepnjbefngooaa.Plain

set_option maxHeartbeats 4000000 in
set_option maxRecDepth 100000 in
theorem reply_yes (a0 a1 : Int) (a8 B : ByteArray) (x4 x5 x6 x7 id seq : Int) (hs : 8 ≤ a8.size) (hs' : a8.size ≤ 1500) (h9 : (a8.extract 0 4).toList = [9, 0, 0, 0])
    (h4 : bt a8 (4 : Nat) = x4) (h5 : bt a8 (5 : Nat) = x5) (h6 : bt a8 (6 : Nat) = x6) (h7 : bt a8 (7 : Nat) = x7)
    (r4 : 0 ≤ x4 ∧ x4 ≤ 255) (r5 : 0 ≤ x5 ∧ x5 ≤ 255) (r6 : 0 ≤ x6 ∧ x6 ≤ 255) (r7 : 0 ≤ x7 ∧ x7 ≤ 255)
    (hid : bits .or .i64 (x4 * 256) x5 = id) (hsq : bits .or .i64 (x6 * 256) x7 = seq) (hB : a8.extract 8 (min a8.size 16) = B) (w : World) :
    Calls Try.prog 35 #[.agg #[.int .u32 a0, .int .u32 a1, .int .i64 1, .int .i64 64, .int .i64 0, .int .i64 0, .bool false, .bool false, .string a8]] w fun e w' => e = .returned (.tuple #[.agg #[.int .i64 9, .int .u32 a0, .int .u32 a1, .int .i64 1, .int .i64 id, .int .i64 seq, .string B], .bool true]) ∧ Below w.heap.size w w' := by
  have hE : (4 : Int) ≤ a8.size := by omega
  have hq : ((a8.extract 0 4).toList == [9, 0, 0, 0]) = true := beq_iff_eq.mpr h9
  have p4 : 4 < a8.size := by omega
  have p5 : 5 < a8.size := by omega
  have p6 : 6 < a8.size := by omega
  have p7 : 7 < a8.size := by omega
  have hx4 := (idx_bt a8 4 p4).symm
  have hx5 := (idx_bt a8 5 p5).symm
  have hx6 := (idx_bt a8 6 p6).symm
  have hx7 := (idx_bt a8 7 p7).symm
  rw [h4] at hx4
  rw [h5] at hx5
  rw [h6] at hx6
  rw [h7] at hx7
  have hcl := fun W => clone_calls B (by rw [← hB, size_ext]; omega) W
  clear h9 h4 h5 h6 h7
  go_enter Try.func35, Try.ntmps35
  go_wp2
  have m4 : wrap64 x4 = x4 := w64 (by omega) (by omega)
  have m5 : wrap64 x5 = x5 := w64 (by omega) (by omega)
  have m6 : wrap64 x6 = x6 := w64 (by omega) (by omega)
  have m7 : wrap64 x7 = x7 := w64 (by omega) (by omega)
  have n4 : wrap64 (x4 * 256) = x4 * 256 := w64 (by omega) (by omega)
  have n6 : wrap64 (x6 * 256) = x6 * 256 := w64 (by omega) (by omega)
  go_quiet (fail)
  have X1 := blk_drewN (blk_alloc (blk_new w (.cells #[.int .u32 a0, .int .u32 a1, .int .i64 1, .int .i64 64, .int .i64 0, .int .i64 0, .bool false, .bool false, .string a8] 24 (0, 0))) (.cells #[.int .i64 0, .int .u32 0, .int .u32 0, .int .i64 0, .int .i64 0, .int .i64 0, .string ⟨#[]⟩] 51 (0, 0))) nq
  have X3 := blk_drewN (blk_new' (w.alloc (.cells #[.int .u32 a0, .int .u32 a1, .int .i64 1, .int .i64 64, .int .i64 0, .int .i64 0, .bool false, .bool false, .string a8] 24 (0, 0))) (.cells #[.int .i64 0, .int .u32 0, .int .u32 0, .int .i64 0, .int .i64 0, .int .i64 0, .string ⟨#[]⟩] 51 (0, 0)) (g := w.heap.size + 1) (by simp)) nq
  have X4 : Below w.heap.size w _ := pw_below_drewN (((Below.refl w.heap.size w).alloc (Nat.le_refl _) (.cells #[.int .u32 a0, .int .u32 a1, .int .i64 1, .int .i64 64, .int .i64 0, .int .i64 0, .bool false, .bool false, .string a8] 24 (0, 0))).alloc (by simp) (.cells #[.int .i64 0, .int .u32 0, .int .u32 0, .int .i64 0, .int .i64 0, .int .i64 0, .string ⟨#[]⟩] 51 (0, 0))) nq
  generalize ((w.alloc (.cells #[.int .u32 a0, .int .u32 a1, .int .i64 1, .int .i64 64, .int .i64 0, .int .i64 0, .bool false, .bool false, .string a8] 24 (0, 0))).alloc (.cells #[.int .i64 0, .int .u32 0, .int .u32 0, .int .i64 0, .int .i64 0, .int .i64 0, .string ⟨#[]⟩] 51 (0, 0))).drewN nq = W1 at X1 X3 X4 ⊢
  obtain ⟨hc0, hc1, hc2, hc3, hc4, hc5, hc6, hc7, hc8⟩ := pk_cells X1
  have HB := Lib.hid hB
  clear hB m4 m5 m6 m7 n4 n6 hid hsq hx4 hx5 hx6 hx7
  by_cases h16 : (16 : Int) < a8.size
  · have HB' : a8.extract 8 16 = B := by rw [← HB.out, Nat.min_eq_right (by omega)]
    have i16 : (16 : Int) ≤ a8.size := by omega
    have m16 : min (a8.size : Int) 16 = 16 := by omega
    go_wp2
    refine start_ (n := 13) (S := fun w' => w'.heap[w.heap.size]? = some (.cells #[.int .u32 a0, .int .u32 a1, .int .i64 1, .int .i64 64, .int .i64 0, .int .i64 0, .bool false, .bool false, .string a8] 24 (0, 0))) (ds := []) #[false, false, false, false, false, false, false, false, false, false, false, false, false] (by kernel_rfl) rfl rfl (blk_drew X1) (fun hHeld => ?_)
    have X3d := blk_drew X3
    have X4d := X4.drew
    clear X1 X3 X4
    generalize W1.drew = Wd at hHeld X3d X4d ⊢
    refine pure_ (i := 0) (N := some 54) (v := ?_) (a' := ?_) #[true, false, false, false, false, false, false, false, false, false, false, false, false] rfl rfl (by kernel_rfl) (fun _ _ _ h => h) (Or.inl ⟨by rfl, ?_⟩) ?_ ?_
    rotate_left
    · intro w'
      go_simp
      with_reducible rfl
    rotate_left
    · simp only [Act.put, List.setIfInBounds_toArray, List.set_cons_zero, List.set_cons_succ, i64_w, i32_w]
      rfl
    refine take_ (i := 1) (N := some 55) (v := ?_) (a' := ?_) #[true, true, false, false, false, false, false, false, false, false, false, false, false] rfl rfl (by kernel_rfl) (fun _ _ _ h => h) (Or.inl ⟨by rfl, ?_⟩) hHeld ?_ ?_
    rotate_left
    · rintro w' s0
      obtain ⟨k0, k1, k2, k3, k4, k5, k6, k7, k8⟩ := pk_cells s0
      go_simp
      with_reducible rfl
    rotate_left
    · simp only [Act.put, List.setIfInBounds_toArray, List.set_cons_zero, List.set_cons_succ, i64_w, i32_w]
      rfl
    refine pure_ (i := 2) (N := some 56) (v := ?_) (a' := ?_) #[true, true, true, false, false, false, false, false, false, false, false, false, false] rfl rfl (by kernel_rfl) (fun _ _ _ h => h) (Or.inl ⟨by rfl, ?_⟩) ?_ ?_
    rotate_left
    · intro w'
      go_simp
      with_reducible rfl
    rotate_left
    · simp only [Act.put, List.setIfInBounds_toArray, List.set_cons_zero, List.set_cons_succ, i64_w, i32_w]
      rfl
    refine take_ (i := 3) (N := some 57) (v := ?_) (a' := ?_) #[true, true, true, true, false, false, false, false, false, false, false, false, false] rfl rfl (by kernel_rfl) (fun _ _ _ h => h) (Or.inl ⟨by rfl, ?_⟩) hHeld ?_ ?_
    rotate_left
    · rintro w' s0
      obtain ⟨k0, k1, k2, k3, k4, k5, k6, k7, k8⟩ := pk_cells s0
      go_simp
      with_reducible rfl
    rotate_left
    · simp only [Act.put, List.setIfInBounds_toArray, List.set_cons_zero, List.set_cons_succ, i64_w, i32_w]
      rfl
    refine pure_ (i := 4) (N := some 58) (v := ?_) (a' := ?_) #[true, true, true, true, true, false, false, false, false, false, false, false, false] rfl rfl (by kernel_rfl) (fun _ _ _ h => h) (Or.inl ⟨by rfl, ?_⟩) ?_ ?_
    rotate_left
    · intro w'
      go_simp
      with_reducible rfl
    rotate_left
    · simp only [Act.put, List.setIfInBounds_toArray, List.set_cons_zero, List.set_cons_succ, i64_w, i32_w]
      rfl
    refine take_ (i := 5) (N := some 59) (v := ?_) (a' := ?_) #[true, true, true, true, true, true, false, false, false, false, false, false, false] rfl rfl (by kernel_rfl) (fun _ _ _ h => h) (Or.inl ⟨by rfl, ?_⟩) hHeld ?_ ?_
    rotate_left
    · rintro w' s0
      obtain ⟨k0, k1, k2, k3, k4, k5, k6, k7, k8⟩ := pk_cells s0
      go_simp
      with_reducible rfl
    rotate_left
    · simp only [Act.put, List.setIfInBounds_toArray, List.set_cons_zero, List.set_cons_succ, i64_w, i32_w]
      rfl
    refine pure_ (i := 6) (N := some 60) (v := ?_) (a' := ?_) #[true, true, true, true, true, true, true, false, false, false, false, false, false] rfl rfl (by kernel_rfl) (fun _ _ _ h => h) (Or.inl ⟨by rfl, ?_⟩) ?_ ?_
    rotate_left
    · intro w'
      go_simp
      with_reducible rfl
    rotate_left
    · simp only [Act.put, List.setIfInBounds_toArray, List.set_cons_zero, List.set_cons_succ, i64_w, i32_w]
      rfl
    refine pure_ (i := 7) (N := some 61) (v := ?_) (a' := ?_) #[true, true, true, true, true, true, true, true, false, false, false, false, false] rfl rfl (by kernel_rfl) (fun _ _ _ h => h) (Or.inl ⟨by rfl, ?_⟩) ?_ ?_
    rotate_left
    · intro w'
      go_simp
      with_reducible rfl
    rotate_left
    · simp only [Act.put, List.setIfInBounds_toArray, List.set_cons_zero, List.set_cons_succ, i64_w, i32_w]
      rfl
    refine pure_ (i := 8) (N := some 62) (v := ?_) (a' := ?_) #[true, true, true, true, true, true, true, true, true, false, false, false, false] rfl rfl (by kernel_rfl) (fun _ _ _ h => h) (Or.inl ⟨by rfl, ?_⟩) ?_ ?_
    rotate_left
    · intro w'
      go_simp
      with_reducible rfl
    rotate_left
    · simp only [Act.put, List.setIfInBounds_toArray, List.set_cons_zero, List.set_cons_succ, i64_w, i32_w]
      rfl
    refine one_ (i := 9) (N := some 63) #[true, true, true, true, true, true, true, true, true, true, false, false, false] rfl rfl (by kernel_rfl) (by decide) (fun K hK => ?_)
    refine goes_ Try.func36 (by kernel_rfl) rfl #[.string B] (by rfl) rfl rfl (by (try simp only [List.map_toArray, List.map_cons, List.map_nil]); first | done | rfl) ?_
    refine (hcl _).mono ?_
    rintro e wc ⟨rfl, hbc⟩
    refine ⟨_, rfl, ?_⟩
    have Y3 := blk_below X3d hbc
    have Y4 : Below w.heap.size w wc := X4d.trans (hbc.mono X4d.size)
    refine hK.out _ _ (blk_below hHeld hbc) (fun hHeld => ?_)
    clear hK K X3d X4d hbc
    refine norm_ (a' := ?_) ?_ ?_
    rotate_left
    · show Act.put _ (some 63) _ = _
      simp only [Act.put, List.setIfInBounds_toArray, List.set_cons_zero, List.set_cons_succ, i64_w, i32_w]
      rfl
    refine pure_ (i := 10) (N := some 64) (v := ?_) (a' := ?_) #[true, true, true, true, true, true, true, true, true, true, true, false, false] rfl rfl (by kernel_rfl) (fun _ _ _ h => h) (Or.inl ⟨by rfl, ?_⟩) ?_ ?_
    rotate_left
    · intro w'
      go_simp
      with_reducible rfl
    rotate_left
    · simp only [Act.put, List.setIfInBounds_toArray, List.set_cons_zero, List.set_cons_succ, i64_w, i32_w]
      rfl
    refine one_ (i := 11) (N := none) #[true, true, true, true, true, true, true, true, true, true, true, true, false] rfl rfl (by kernel_rfl) (by decide) (fun K hK => ?_)
    refine store_step (by rfl) 51 (.tmp 2) (.tmp 64) rfl _ #[.int .i64 9, .int .u32 a0, .int .u32 a1, .int .i64 1, .int .i64 id, .int .i64 seq, .string B] rfl rfl ?hu Y3 size51 rfl (note_one _ _ _ _ _ _ _) ?_
    case hu => rfl
    intro wn hwn hgn
    refine hK.out _ _ (blk_grown hHeld hgn (by simp)) (fun hHeld => ?_)
    clear hK K
    refine pure_ (i := 12) (N := some 3) (v := ?_) (a' := ?_) #[true, true, true, true, true, true, true, true, true, true, true, true, true] rfl rfl (by kernel_rfl) (fun _ _ _ h => h) (Or.inl ⟨by rfl, ?_⟩) ?_ ?_
    rotate_left
    · intro w'
      go_simp
      with_reducible rfl
    rotate_left
    · simp only [Act.put, List.setIfInBounds_toArray, List.set_cons_zero, List.set_cons_succ, i64_w, i32_w]
      rfl
    refine done_ (by kernel_rfl) ?_
    go_wp2
    refine bodyPost_ret (results_ct rfl _ _ (w.heap.size + 1) 51 _ (0, 0) _ rfl hwn Try.underlying51 rfl size51) rfl ⟨rfl, ?_⟩
    exact Y4.grown hgn Y4.size (fun k hk => by cases hk; omega)
  · have HB' : a8.extract 8 a8.size = B := by rw [← HB.out, Nat.min_eq_left (by omega)]
    have i8 : (8 : Int) ≤ a8.size := by omega
    have m16 : min (a8.size : Int) 16 = a8.size := by omega
    go_wp2
    refine start_ (n := 13) (S := fun w' => w'.heap[w.heap.size]? = some (.cells #[.int .u32 a0, .int .u32 a1, .int .i64 1, .int .i64 64, .int .i64 0, .int .i64 0, .bool false, .bool false, .string a8] 24 (0, 0))) (ds := []) #[false, false, false, false, false, false, false, false, false, false, false, false, false] (by kernel_rfl) rfl rfl (blk_drew X1) (fun hHeld => ?_)
    have X3d := blk_drew X3
    have X4d := X4.drew
    clear X1 X3 X4
    generalize W1.drew = Wd at hHeld X3d X4d ⊢
    refine pure_ (i := 0) (N := some 54) (v := ?_) (a' := ?_) #[true, false, false, false, false, false, false, false, false, false, false, false, false] rfl rfl (by kernel_rfl) (fun _ _ _ h => h) (Or.inl ⟨by rfl, ?_⟩) ?_ ?_
    rotate_left
    · intro w'
      go_simp
      with_reducible rfl
    rotate_left
    · simp only [Act.put, List.setIfInBounds_toArray, List.set_cons_zero, List.set_cons_succ, i64_w, i32_w]
      rfl
    refine take_ (i := 1) (N := some 55) (v := ?_) (a' := ?_) #[true, true, false, false, false, false, false, false, false, false, false, false, false] rfl rfl (by kernel_rfl) (fun _ _ _ h => h) (Or.inl ⟨by rfl, ?_⟩) hHeld ?_ ?_
    rotate_left
    · rintro w' s0
      obtain ⟨k0, k1, k2, k3, k4, k5, k6, k7, k8⟩ := pk_cells s0
      go_simp
      with_reducible rfl
    rotate_left
    · simp only [Act.put, List.setIfInBounds_toArray, List.set_cons_zero, List.set_cons_succ, i64_w, i32_w]
      rfl
    refine pure_ (i := 2) (N := some 56) (v := ?_) (a' := ?_) #[true, true, true, false, false, false, false, false, false, false, false, false, false] rfl rfl (by kernel_rfl) (fun _ _ _ h => h) (Or.inl ⟨by rfl, ?_⟩) ?_ ?_
    rotate_left
    · intro w'
      go_simp
      with_reducible rfl
    rotate_left
    · simp only [Act.put, List.setIfInBounds_toArray, List.set_cons_zero, List.set_cons_succ, i64_w, i32_w]
      rfl
    refine take_ (i := 3) (N := some 57) (v := ?_) (a' := ?_) #[true, true, true, true, false, false, false, false, false, false, false, false, false] rfl rfl (by kernel_rfl) (fun _ _ _ h => h) (Or.inl ⟨by rfl, ?_⟩) hHeld ?_ ?_
    rotate_left
    · rintro w' s0
      obtain ⟨k0, k1, k2, k3, k4, k5, k6, k7, k8⟩ := pk_cells s0
      go_simp
      with_reducible rfl
    rotate_left
    · simp only [Act.put, List.setIfInBounds_toArray, List.set_cons_zero, List.set_cons_succ, i64_w, i32_w]
      rfl
    refine pure_ (i := 4) (N := some 58) (v := ?_) (a' := ?_) #[true, true, true, true, true, false, false, false, false, false, false, false, false] rfl rfl (by kernel_rfl) (fun _ _ _ h => h) (Or.inl ⟨by rfl, ?_⟩) ?_ ?_
    rotate_left
    · intro w'
      go_simp
      with_reducible rfl
    rotate_left
    · simp only [Act.put, List.setIfInBounds_toArray, List.set_cons_zero, List.set_cons_succ, i64_w, i32_w]
      rfl
    refine take_ (i := 5) (N := some 59) (v := ?_) (a' := ?_) #[true, true, true, true, true, true, false, false, false, false, false, false, false] rfl rfl (by kernel_rfl) (fun _ _ _ h => h) (Or.inl ⟨by rfl, ?_⟩) hHeld ?_ ?_
    rotate_left
    · rintro w' s0
      obtain ⟨k0, k1, k2, k3, k4, k5, k6, k7, k8⟩ := pk_cells s0
      go_simp
      with_reducible rfl
    rotate_left
    · simp only [Act.put, List.setIfInBounds_toArray, List.set_cons_zero, List.set_cons_succ, i64_w, i32_w]
      rfl
    refine pure_ (i := 6) (N := some 60) (v := ?_) (a' := ?_) #[true, true, true, true, true, true, true, false, false, false, false, false, false] rfl rfl (by kernel_rfl) (fun _ _ _ h => h) (Or.inl ⟨by rfl, ?_⟩) ?_ ?_
    rotate_left
    · intro w'
      go_simp
      with_reducible rfl
    rotate_left
    · simp only [Act.put, List.setIfInBounds_toArray, List.set_cons_zero, List.set_cons_succ, i64_w, i32_w]
      rfl
    refine pure_ (i := 7) (N := some 61) (v := ?_) (a' := ?_) #[true, true, true, true, true, true, true, true, false, false, false, false, false] rfl rfl (by kernel_rfl) (fun _ _ _ h => h) (Or.inl ⟨by rfl, ?_⟩) ?_ ?_
    rotate_left
    · intro w'
      go_simp
      with_reducible rfl
    rotate_left
    · simp only [Act.put, List.setIfInBounds_toArray, List.set_cons_zero, List.set_cons_succ, i64_w, i32_w]
      rfl
    refine pure_ (i := 8) (N := some 62) (v := ?_) (a' := ?_) #[true, true, true, true, true, true, true, true, true, false, false, false, false] rfl rfl (by kernel_rfl) (fun _ _ _ h => h) (Or.inl ⟨by rfl, ?_⟩) ?_ ?_
    rotate_left
    · intro w'
      go_simp
      with_reducible rfl
    rotate_left
    · simp only [Act.put, List.setIfInBounds_toArray, List.set_cons_zero, List.set_cons_succ, i64_w, i32_w]
      rfl
    refine one_ (i := 9) (N := some 63) #[true, true, true, true, true, true, true, true, true, true, false, false, false] rfl rfl (by kernel_rfl) (by decide) (fun K hK => ?_)
    refine goes_ Try.func36 (by kernel_rfl) rfl #[.string B] (by rfl) rfl rfl (by (try simp only [List.map_toArray, List.map_cons, List.map_nil]); first | done | rfl) ?_
    refine (hcl _).mono ?_
    rintro e wc ⟨rfl, hbc⟩
    refine ⟨_, rfl, ?_⟩
    have Y3 := blk_below X3d hbc
    have Y4 : Below w.heap.size w wc := X4d.trans (hbc.mono X4d.size)
    refine hK.out _ _ (blk_below hHeld hbc) (fun hHeld => ?_)
    clear hK K X3d X4d hbc
    refine norm_ (a' := ?_) ?_ ?_
    rotate_left
    · show Act.put _ (some 63) _ = _
      simp only [Act.put, List.setIfInBounds_toArray, List.set_cons_zero, List.set_cons_succ, i64_w, i32_w]
      rfl
    refine pure_ (i := 10) (N := some 64) (v := ?_) (a' := ?_) #[true, true, true, true, true, true, true, true, true, true, true, false, false] rfl rfl (by kernel_rfl) (fun _ _ _ h => h) (Or.inl ⟨by rfl, ?_⟩) ?_ ?_
    rotate_left
    · intro w'
      go_simp
      with_reducible rfl
    rotate_left
    · simp only [Act.put, List.setIfInBounds_toArray, List.set_cons_zero, List.set_cons_succ, i64_w, i32_w]
      rfl
    refine one_ (i := 11) (N := none) #[true, true, true, true, true, true, true, true, true, true, true, true, false] rfl rfl (by kernel_rfl) (by decide) (fun K hK => ?_)
    refine store_step (by rfl) 51 (.tmp 2) (.tmp 64) rfl _ #[.int .i64 9, .int .u32 a0, .int .u32 a1, .int .i64 1, .int .i64 id, .int .i64 seq, .string B] rfl rfl ?hu Y3 size51 rfl (note_one _ _ _ _ _ _ _) ?_
    case hu => rfl
    intro wn hwn hgn
    refine hK.out _ _ (blk_grown hHeld hgn (by simp)) (fun hHeld => ?_)
    clear hK K
    refine pure_ (i := 12) (N := some 3) (v := ?_) (a' := ?_) #[true, true, true, true, true, true, true, true, true, true, true, true, true] rfl rfl (by kernel_rfl) (fun _ _ _ h => h) (Or.inl ⟨by rfl, ?_⟩) ?_ ?_
    rotate_left
    · intro w'
      go_simp
      with_reducible rfl
    rotate_left
    · simp only [Act.put, List.setIfInBounds_toArray, List.set_cons_zero, List.set_cons_succ, i64_w, i32_w]
      rfl
    refine done_ (by kernel_rfl) ?_
    go_wp2
    refine bodyPost_ret (results_ct rfl _ _ (w.heap.size + 1) 51 _ (0, 0) _ rfl hwn Try.underlying51 rfl size51) rfl ⟨rfl, ?_⟩
    exact Y4.grown hgn Y4.size (fun k hk => by cases hk; omega)
end Go.Proofs.Ythepnjbefngooaa.H
