/- Walks of strings.Clone and fault.reply. Conditions: sizes that the rows give. -/
import Derived.Test.YthepnjbefngooaaShelfPlain
import Derived.Test.YthepnjbefngooaaHHeadOk
import Derived.Test.YthepnjbefngooaaHTell
namespace Go.Proofs.Ythepnjbefngooaa.H
set_option linter.unusedSimpArgs false
set_option linter.unusedVariables false
open Go Go.RowKit Go.Proofs.YthepnjbefngooaaW.PrintWords Go.Proofs.YthepnjbefngooaaW.PrintLast Go.Proofs.YthepnjbefngooaaW.PrintMore Go.Proofs.Ythepnjbefngooaa.Plain

theorem clone_calls (s : ByteArray) (hs : s.size ≤ 281474976710656) (w : World) :
    Calls Try.prog 36 #[.string s] w fun e w' => e = .returned (.string s) ∧ Below w.heap.size w w' := by
  go_enter Try.func36, Try.ntmps36
  go_wp2_with (go_at_call 39; refine (Try.stringslite_Clone s _ hs).mono ?_; rintro e w1 ⟨rfl, hb⟩)
  go_ret
  exact ⟨rfl, hb⟩

set_option maxHeartbeats 2000000 in
theorem reply_no (a0 a1 a3 a4 : Int) (a7 : Bool) (a8 : ByteArray) (hs : 8 ≤ a8.size) (hs' : a8.size ≤ 1500) (hne : (a8.extract 0 4).toList ≠ [9, 0, 0, 0]) (w : World) :
    Calls Try.prog 35 #[.agg #[.int .u32 a0, .int .u32 a1, .int .i64 1, .int .i64 a3, .int .i64 a4, .int .i64 0, .bool false, .bool a7, .string a8]] w fun e w' => e = .returned (.tuple #[.agg #[.int .i64 0, .int .u32 0, .int .u32 0, .int .i64 0, .int .i64 0, .int .i64 0, .string ⟨#[]⟩], .bool false]) ∧ Below w.heap.size w w' := by
  have hE : (4 : Int) ≤ a8.size := by omega
  have hq : ((a8.extract 0 4).toList == [9, 0, 0, 0]) = false := beq_eq_false_iff_ne.mpr hne
  clear hne
  go_enter Try.func35, Try.ntmps35
  go_wp2
  refine bodyPost_ret (v := .tuple #[.agg #[.int .i64 0, .int .u32 0, .int .u32 0, .int .i64 0, .int .i64 0, .int .i64 0, .string ⟨#[]⟩], .bool false]) ?_ rfl ⟨rfl, ?_⟩
  · simp [results, Try.results35, go_sem]
  · exact ((Below.refl _ _).alloc (Nat.le_refl _) _).alloc (by simp) _

theorem note_one (a0 a1 a2 a3 a4 a5 : Int) (a6 : ByteArray) : ∀ q ∈ (#[Value.int .i64 a0, .int .u32 a1, .int .u32 a2, .int .i64 a3, .int .i64 a4, .int .i64 a5, .string a6] : Array Value).toList, q.oneCell' = true := by
  intro u hu
  simp only [List.mem_cons, List.not_mem_nil, or_false] at hu
  rcases hu with rfl | rfl | rfl | rfl | rfl | rfl | rfl <;> rfl
theorem size51 : (Try.prog.info? 51).map (·.size) = some 7 := by kernel_rfl

set_option maxHeartbeats 4000000 in
set_option maxRecDepth 100000 in
theorem read_msg (a0 a1 a3 a4 : Int) (a8 rest : ByteArray) (c why : Int) (hck : checkv 1 a3 a4 0 false false a8.size = 0) (hs : 24 ≤ a8.size) (hs' : a8.size ≤ 1500) (h9 : (a8.extract 0 4).toList ≠ [9, 0, 0, 0]) (h0 : bt a8 (0 : Nat) = why) (hy : 1 ≤ why) (hy' : why ≤ 6) (h3 : (a8.extract 1 4).toList = [0, 0, 0])
    (hrest : a8.extract 4 a8.size = rest) (hrs : 20 ≤ rest.size) (hr0 : bt rest (0 : Nat) = 69) (hr1 : bt rest (1 : Nat) = 0) (hr2 : 20 ≤ get2v rest 2) (hr6 : get2v rest 6 < 32768) (hr8 : bt rest (8 : Nat) ≠ 0) (hr10 : get2v rest 10 = PPktOrder.sumv (blank rest))
    (hlen : (rest.size : Int) = if 28 < get2v rest 2 then 28 else get2v rest 2) (w : World) :
    Calls Try.prog 25 #[.agg #[.int .u32 a0, .int .u32 a1, .int .i64 1, .int .i64 a3, .int .i64 a4, .int .i64 0, .bool false, .bool false, .string a8]] w fun e w' =>
      e = .returned (.tuple #[.agg #[.int .i64 why, .int .u32 (get4v rest 12), .int .u32 (get4v rest 16), .int .i64 (bt rest (9 : Nat)), .int .i64 (get2v rest 4), .int .i64 (get2v rest 6 % 8192 * 8), .string (rest.extract 20 rest.size)], .int .i64 0]) ∧ Below w.heap.size w w' := by
  have hck' := fun W => check_calls a0 a1 1 a3 a4 0 false false a8 (by omega) W
  rw [hck] at hck'
  have hrep := fun W => reply_no a0 a1 a3 a4 false a8 (by omega) hs' h9 W
  have hrz : rest.size ≤ 1500 := by rw [← hrest, size_ext]; omega
  have hhead := fun W => head_ok rest hrs (by omega) hr0 hr1 hr2 hr6 hr8 hr10 W
  have hcl := fun W => clone_calls (rest.extract 20 rest.size) (by rw [size_ext]; omega) W
  have r2 := get2v_range rest 2
  have p0 : 0 < a8.size := by omega
  have hx0 := (idx_bt a8 0 p0).symm
  rw [h0] at hx0
  have hq3 : ((a8.extract 1 4).toList == [0, 0, 0]) = true := beq_iff_eq.mpr h3
  generalize get2v rest 2 = n2 at hhead r2 hr2 hlen
  generalize get2v rest 4 = n4 at hhead ⊢
  generalize get2v rest 6 % 8192 * 8 = n6 at hhead ⊢
  generalize get4v rest 12 = n12 at hhead ⊢
  generalize get4v rest 16 = n16 at hhead ⊢
  generalize bt rest (9 : Nat) = x9 at hhead ⊢
  generalize bt rest (8 : Nat) = x8 at hhead
  generalize (bits .and .i64 (get2v rest 6) 8192 != 0) = q8 at hhead
  generalize (bits .and .i64 (get2v rest 6) 16384 != 0) = q16 at hhead
  have HL := Lib.hid hlen
  clear hck h9 h0 h3 hr0 hr1 hr2 hr6 hr8 hr10 hlen
  have i4 : (4 : Int) ≤ a8.size := by omega
  have i20 : (20 : Int) ≤ rest.size := by omega
  by_cases h28 : 28 < n2
  · have f28 : ((rest.size : Int) != 28) = false := by
      have := HL.out
      rw [if_pos h28] at this
      exact bne_eq_false_iff_eq.mpr this
    go_enter Try.func25, Try.ntmps25
    go_wp2_with (first | (go_at_call 30; refine (hck' _).mono ?_; rintro e w1 ⟨rfl, hb⟩; have hbx : w1.heap[w.heap.size]? = some (.cells #[.int .u32 a0, .int .u32 a1, .int .i64 1, .int .i64 a3, .int .i64 a4, .int .i64 0, .bool false, .bool false, .string a8] 24 (0, 0)) := blk_below (blk_alloc (blk_new w _) _) hb; have hry : w1.heap[w.heap.size + 1]? = some (.cells #[.int .i64 0, .int .u32 0, .int .u32 0, .int .i64 0, .int .i64 0, .int .i64 0, .string ⟨#[]⟩] 51 (0, 0)) := blk_below (blk_new' _ _ (by simp)) hb; obtain ⟨hc0, hc1, hc2, hc3, hc4, hc5, hc6, hc7, hc8⟩ := pk_cells hbx; have hwz := blk_lt hbx; have hbw : Below w.heap.size w w1 := (((Below.refl _ _).alloc (Nat.le_refl _) _).alloc (by simp) _).trans (hb.mono (by simp; omega)); clear hb hck') | (go_at_call 35; refine (hrep _).mono ?_; rintro e w2 ⟨rfl, hb2⟩; clear hc0 hc1 hc2 hc3 hc4 hc5 hc6 hc7 hc8; have hbx2 := blk_below hbx hb2; obtain ⟨hc0, hc1, hc2, hc3, hc4, hc5, hc6, hc7, hc8⟩ := pk_cells hbx2; have hwz2 := blk_lt hbx2; clear hrep) | (go_at_call 34; refine (hhead _).mono ?_; rintro e w3 ⟨rfl, hb3⟩; clear hhead))
    have X1 := blk_alloc (blk_below (blk_alloc hbx2 (.cells #[.int .i64 0, .int .u32 0, .int .u32 0, .int .i64 0, .int .i64 0, .int .i64 0, .string ⟨#[]⟩] 51 (0, 0))) hb3) (.cells #[.int .u32 n12, .int .u32 n16, .int .i64 x9, .int .i64 x8, .int .i64 n4, .int .i64 n6, .bool q8, .bool q16, .string ⟨#[]⟩] 24 (0, 0))
    have X2 := blk_new w3 (.cells #[.int .u32 n12, .int .u32 n16, .int .i64 x9, .int .i64 x8, .int .i64 n4, .int .i64 n6, .bool q8, .bool q16, .string ⟨#[]⟩] 24 (0, 0))
    have X3 := blk_alloc (blk_below (blk_alloc (blk_below hry hb2) (.cells #[.int .i64 0, .int .u32 0, .int .u32 0, .int .i64 0, .int .i64 0, .int .i64 0, .string ⟨#[]⟩] 51 (0, 0))) hb3) (.cells #[.int .u32 n12, .int .u32 n16, .int .i64 x9, .int .i64 x8, .int .i64 n4, .int .i64 n6, .bool q8, .bool q16, .string ⟨#[]⟩] 24 (0, 0))
    have hsz2 := hb2.size
    have hsz3 := hb3.size
    simp only [World.size_alloc] at hsz3
    have X4 : Below w.heap.size w (w3.alloc (.cells #[.int .u32 n12, .int .u32 n16, .int .i64 x9, .int .i64 x8, .int .i64 n4, .int .i64 n6, .bool q8, .bool q16, .string ⟨#[]⟩] 24 (0, 0))) := (((hbw.trans (hb2.mono (by omega))).alloc (by omega) _).trans (hb3.mono (by simp; omega))).alloc (by omega) _
    have hg8 : w.heap.size + 1 < w3.heap.size := by omega
    generalize w3.alloc (.cells #[.int .u32 n12, .int .u32 n16, .int .i64 x9, .int .i64 x8, .int .i64 n4, .int .i64 n6, .bool q8, .bool q16, .string ⟨#[]⟩] 24 (0, 0)) = Wr at X1 X2 X3 X4 ⊢
    generalize w3.heap.size = g8 at X2 hg8 ⊢
    clear hbx hry hbx2 hbw hb2 hb3 hc0 hc1 hc2 hc3 hc4 hc5 hc6 hc7 hc8 hwz hwz2 hsz2 hsz3
    have q0' : ((0 : Int) < (a8.size : Int)) = True := eq_true (by omega)
    have q20' : ((20 : Int) ≤ (rest.size : Int)) = True := eq_true (by omega)
    have mwhy : wrap64 why = why := w64 (by omega) (by omega)
    refine start_ (n := 20) (S := fun w' => w'.heap[w.heap.size]? = some (.cells #[.int .u32 a0, .int .u32 a1, .int .i64 1, .int .i64 a3, .int .i64 a4, .int .i64 0, .bool false, .bool false, .string a8] 24 (0, 0)) ∧ w'.heap[g8]? = some (.cells #[.int .u32 n12, .int .u32 n16, .int .i64 x9, .int .i64 x8, .int .i64 n4, .int .i64 n6, .bool q8, .bool q16, .string ⟨#[]⟩] 24 (0, 0))) (ds := []) #[false, false, false, false, false, false, false, false, false, false, false, false, false, false, false, false, false, false, false, false] (by kernel_rfl) rfl rfl ⟨blk_drew X1, blk_drew X2⟩ (fun hHeld => ?_)
    have X3d := blk_drew X3
    have X4d := X4.drew
    clear X1 X2 X3 X4
    generalize Wr.drew = Wd at hHeld X3d X4d ⊢
    refine pure_ (i := 0) (N := some 80) (v := ?_) (a' := ?_) #[true, false, false, false, false, false, false, false, false, false, false, false, false, false, false, false, false, false, false, false] rfl rfl (by kernel_rfl) (fun _ _ _ h => h) (Or.inl ⟨by rfl, ?_⟩) ?_ ?_
    rotate_left
    · intro w'
      go_simp
      with_reducible rfl
    rotate_left
    · simp only [Act.put, List.setIfInBounds_toArray, List.set_cons_zero, List.set_cons_succ, i64_w, i32_w]
      rfl
    refine take_ (i := 1) (N := some 81) (v := ?_) (a' := ?_) #[true, true, false, false, false, false, false, false, false, false, false, false, false, false, false, false, false, false, false, false] rfl rfl (by kernel_rfl) (fun _ _ _ h => h) (Or.inl ⟨by rfl, ?_⟩) hHeld ?_ ?_
    rotate_left
    · rintro w' ⟨s0, s1⟩
      obtain ⟨k0, k1, k2, k3, k4, k5, k6, k7, k8⟩ := pk_cells s0
      obtain ⟨j0, j1, j2, j3, j4, j5, j6, j7, j8⟩ := pk_cells s1
      go_simp
      with_reducible rfl
    rotate_left
    · simp only [Act.put, List.setIfInBounds_toArray, List.set_cons_zero, List.set_cons_succ, i64_w, i32_w]
      rfl
    refine pure_ (i := 2) (N := some 82) (v := ?_) (a' := ?_) #[true, true, true, false, false, false, false, false, false, false, false, false, false, false, false, false, false, false, false, false] rfl rfl (by kernel_rfl) (fun _ _ _ h => h) (Or.inl ⟨by rfl, ?_⟩) ?_ ?_
    rotate_left
    · intro w'
      go_simp
      with_reducible rfl
    rotate_left
    · simp only [Act.put, List.setIfInBounds_toArray, List.set_cons_zero, List.set_cons_succ, i64_w, i32_w]
      rfl
    refine pure_ (i := 3) (N := some 83) (v := ?_) (a' := ?_) #[true, true, true, true, false, false, false, false, false, false, false, false, false, false, false, false, false, false, false, false] rfl rfl (by kernel_rfl) (fun _ _ _ h => h) (Or.inl ⟨by rfl, ?_⟩) ?_ ?_
    rotate_left
    · intro w'
      go_simp
      with_reducible rfl
    rotate_left
    · simp only [Act.put, List.setIfInBounds_toArray, List.set_cons_zero, List.set_cons_succ, i64_w, i32_w]
      rfl
    refine pure_ (i := 4) (N := some 84) (v := ?_) (a' := ?_) #[true, true, true, true, true, false, false, false, false, false, false, false, false, false, false, false, false, false, false, false] rfl rfl (by kernel_rfl) (fun _ _ _ h => h) (Or.inl ⟨by rfl, ?_⟩) ?_ ?_
    rotate_left
    · intro w'
      go_simp
      with_reducible rfl
    rotate_left
    · simp only [Act.put, List.setIfInBounds_toArray, List.set_cons_zero, List.set_cons_succ, i64_w, i32_w]
      rfl
    refine take_ (i := 5) (N := some 85) (v := ?_) (a' := ?_) #[true, true, true, true, true, true, false, false, false, false, false, false, false, false, false, false, false, false, false, false] rfl rfl (by kernel_rfl) (fun _ _ _ h => h) (Or.inl ⟨by rfl, ?_⟩) hHeld ?_ ?_
    rotate_left
    · rintro w' ⟨s0, s1⟩
      obtain ⟨k0, k1, k2, k3, k4, k5, k6, k7, k8⟩ := pk_cells s0
      obtain ⟨j0, j1, j2, j3, j4, j5, j6, j7, j8⟩ := pk_cells s1
      go_simp
      with_reducible rfl
    rotate_left
    · simp only [Act.put, List.setIfInBounds_toArray, List.set_cons_zero, List.set_cons_succ, i64_w, i32_w]
      rfl
    refine pure_ (i := 6) (N := some 86) (v := ?_) (a' := ?_) #[true, true, true, true, true, true, true, false, false, false, false, false, false, false, false, false, false, false, false, false] rfl rfl (by kernel_rfl) (fun _ _ _ h => h) (Or.inl ⟨by rfl, ?_⟩) ?_ ?_
    rotate_left
    · intro w'
      go_simp
      with_reducible rfl
    rotate_left
    · simp only [Act.put, List.setIfInBounds_toArray, List.set_cons_zero, List.set_cons_succ, i64_w, i32_w]
      rfl
    refine take_ (i := 7) (N := some 87) (v := ?_) (a' := ?_) #[true, true, true, true, true, true, true, true, false, false, false, false, false, false, false, false, false, false, false, false] rfl rfl (by kernel_rfl) (fun _ _ _ h => h) (Or.inl ⟨by rfl, ?_⟩) hHeld ?_ ?_
    rotate_left
    · rintro w' ⟨s0, s1⟩
      obtain ⟨k0, k1, k2, k3, k4, k5, k6, k7, k8⟩ := pk_cells s0
      obtain ⟨j0, j1, j2, j3, j4, j5, j6, j7, j8⟩ := pk_cells s1
      go_simp
      with_reducible rfl
    rotate_left
    · simp only [Act.put, List.setIfInBounds_toArray, List.set_cons_zero, List.set_cons_succ, i64_w, i32_w]
      rfl
    refine pure_ (i := 8) (N := some 88) (v := ?_) (a' := ?_) #[true, true, true, true, true, true, true, true, true, false, false, false, false, false, false, false, false, false, false, false] rfl rfl (by kernel_rfl) (fun _ _ _ h => h) (Or.inl ⟨by rfl, ?_⟩) ?_ ?_
    rotate_left
    · intro w'
      go_simp
      with_reducible rfl
    rotate_left
    · simp only [Act.put, List.setIfInBounds_toArray, List.set_cons_zero, List.set_cons_succ, i64_w, i32_w]
      rfl
    refine take_ (i := 9) (N := some 89) (v := ?_) (a' := ?_) #[true, true, true, true, true, true, true, true, true, true, false, false, false, false, false, false, false, false, false, false] rfl rfl (by kernel_rfl) (fun _ _ _ h => h) (Or.inl ⟨by rfl, ?_⟩) hHeld ?_ ?_
    rotate_left
    · rintro w' ⟨s0, s1⟩
      obtain ⟨k0, k1, k2, k3, k4, k5, k6, k7, k8⟩ := pk_cells s0
      obtain ⟨j0, j1, j2, j3, j4, j5, j6, j7, j8⟩ := pk_cells s1
      go_simp
      with_reducible rfl
    rotate_left
    · simp only [Act.put, List.setIfInBounds_toArray, List.set_cons_zero, List.set_cons_succ, i64_w, i32_w]
      rfl
    refine pure_ (i := 10) (N := some 90) (v := ?_) (a' := ?_) #[true, true, true, true, true, true, true, true, true, true, true, false, false, false, false, false, false, false, false, false] rfl rfl (by kernel_rfl) (fun _ _ _ h => h) (Or.inl ⟨by rfl, ?_⟩) ?_ ?_
    rotate_left
    · intro w'
      go_simp
      with_reducible rfl
    rotate_left
    · simp only [Act.put, List.setIfInBounds_toArray, List.set_cons_zero, List.set_cons_succ, i64_w, i32_w]
      rfl
    refine take_ (i := 11) (N := some 91) (v := ?_) (a' := ?_) #[true, true, true, true, true, true, true, true, true, true, true, true, false, false, false, false, false, false, false, false] rfl rfl (by kernel_rfl) (fun _ _ _ h => h) (Or.inl ⟨by rfl, ?_⟩) hHeld ?_ ?_
    rotate_left
    · rintro w' ⟨s0, s1⟩
      obtain ⟨k0, k1, k2, k3, k4, k5, k6, k7, k8⟩ := pk_cells s0
      obtain ⟨j0, j1, j2, j3, j4, j5, j6, j7, j8⟩ := pk_cells s1
      go_simp
      with_reducible rfl
    rotate_left
    · simp only [Act.put, List.setIfInBounds_toArray, List.set_cons_zero, List.set_cons_succ, i64_w, i32_w]
      rfl
    refine pure_ (i := 12) (N := some 92) (v := ?_) (a' := ?_) #[true, true, true, true, true, true, true, true, true, true, true, true, true, false, false, false, false, false, false, false] rfl rfl (by kernel_rfl) (fun _ _ _ h => h) (Or.inl ⟨by rfl, ?_⟩) ?_ ?_
    rotate_left
    · intro w'
      go_simp
      with_reducible rfl
    rotate_left
    · simp only [Act.put, List.setIfInBounds_toArray, List.set_cons_zero, List.set_cons_succ, i64_w, i32_w]
      rfl
    refine take_ (i := 13) (N := some 93) (v := ?_) (a' := ?_) #[true, true, true, true, true, true, true, true, true, true, true, true, true, true, false, false, false, false, false, false] rfl rfl (by kernel_rfl) (fun _ _ _ h => h) (Or.inl ⟨by rfl, ?_⟩) hHeld ?_ ?_
    rotate_left
    · rintro w' ⟨s0, s1⟩
      obtain ⟨k0, k1, k2, k3, k4, k5, k6, k7, k8⟩ := pk_cells s0
      obtain ⟨j0, j1, j2, j3, j4, j5, j6, j7, j8⟩ := pk_cells s1
      go_simp
      with_reducible rfl
    rotate_left
    · simp only [Act.put, List.setIfInBounds_toArray, List.set_cons_zero, List.set_cons_succ, i64_w, i32_w]
      rfl
    refine pure_ (i := 14) (N := some 94) (v := ?_) (a' := ?_) #[true, true, true, true, true, true, true, true, true, true, true, true, true, true, true, false, false, false, false, false] rfl rfl (by kernel_rfl) (fun _ _ _ h => h) (Or.inl ⟨by rfl, ?_⟩) ?_ ?_
    rotate_left
    · intro w'
      go_simp
      with_reducible rfl
    rotate_left
    · simp only [Act.put, List.setIfInBounds_toArray, List.set_cons_zero, List.set_cons_succ, i64_w, i32_w]
      rfl
    refine pure_ (i := 15) (N := some 95) (v := ?_) (a' := ?_) #[true, true, true, true, true, true, true, true, true, true, true, true, true, true, true, true, false, false, false, false] rfl rfl (by kernel_rfl) (fun _ _ _ h => h) (Or.inl ⟨by rfl, ?_⟩) ?_ ?_
    rotate_left
    · intro w'
      go_simp
      with_reducible rfl
    rotate_left
    · simp only [Act.put, List.setIfInBounds_toArray, List.set_cons_zero, List.set_cons_succ, i64_w, i32_w]
      rfl
    refine one_ (i := 16) (N := some 96) #[true, true, true, true, true, true, true, true, true, true, true, true, true, true, true, true, true, false, false, false] rfl rfl (by kernel_rfl) (by decide) (fun K hK => ?_)
    refine goes_ Try.func36 (by kernel_rfl) rfl #[.string (rest.extract 20 rest.size)] (by rfl) rfl rfl (by (try simp only [List.map_toArray, List.map_cons, List.map_nil]); first | done | rfl) ?_
    refine (hcl _).mono ?_
    rintro e wc ⟨rfl, hbc⟩
    refine ⟨_, rfl, ?_⟩
    have Y3 := blk_below X3d hbc
    have Y4 : Below w.heap.size w wc := X4d.trans (hbc.mono X4d.size)
    refine hK.out _ _ ⟨blk_below hHeld.1 hbc, blk_below hHeld.2 hbc⟩ (fun hHeld => ?_)
    clear hK K X3d X4d hbc
    refine norm_ (a' := ?_) ?_ ?_
    rotate_left
    · show Act.put _ (some 96) _ = _
      simp only [Act.put, List.setIfInBounds_toArray, List.set_cons_zero, List.set_cons_succ, i64_w, i32_w]
      rfl
    refine pure_ (i := 17) (N := some 97) (v := ?_) (a' := ?_) #[true, true, true, true, true, true, true, true, true, true, true, true, true, true, true, true, true, true, false, false] rfl rfl (by kernel_rfl) (fun _ _ _ h => h) (Or.inl ⟨by rfl, ?_⟩) ?_ ?_
    rotate_left
    · intro w'
      go_simp
      with_reducible rfl
    rotate_left
    · simp only [Act.put, List.setIfInBounds_toArray, List.set_cons_zero, List.set_cons_succ, i64_w, i32_w]
      rfl
    refine one_ (i := 18) (N := none) #[true, true, true, true, true, true, true, true, true, true, true, true, true, true, true, true, true, true, true, false] rfl rfl (by kernel_rfl) (by decide) (fun K hK => ?_)
    refine store_step (by rfl) 51 (.tmp 2) (.tmp 97) rfl _ #[.int .i64 why, .int .u32 n12, .int .u32 n16, .int .i64 x9, .int .i64 n4, .int .i64 n6, .string (rest.extract 20 rest.size)] rfl rfl ?hu Y3 size51 rfl (note_one _ _ _ _ _ _ _) ?_
    case hu => simp [Act.eval, Value.cells, mwhy]
    intro wn hwn hgn
    refine hK.out _ _ ⟨blk_grown hHeld.1 hgn (by simp), blk_grown hHeld.2 hgn (by simp; omega)⟩ (fun hHeld => ?_)
    clear hK K
    refine pure_ (i := 19) (N := some 3) (v := ?_) (a' := ?_) #[true, true, true, true, true, true, true, true, true, true, true, true, true, true, true, true, true, true, true, true] rfl rfl (by kernel_rfl) (fun _ _ _ h => h) (Or.inl ⟨by rfl, ?_⟩) ?_ ?_
    rotate_left
    · intro w'
      go_simp
      with_reducible rfl
    rotate_left
    · simp only [Act.put, List.setIfInBounds_toArray, List.set_cons_zero, List.set_cons_succ, i64_w, i32_w]
      rfl
    refine done_ (by kernel_rfl) ?_
    go_wp2
    refine bodyPost_ret (results_ct rfl _ _ (w.heap.size + 1) 51 _ (0, 0) _ rfl hwn Try.underlying51 rfl size51) rfl ⟨rfl, ?_⟩
    exact Y4.grown hgn Y4.size (fun k hk => by cases hk; omega)
  · have f28 : ((rest.size : Int) != n2) = false := by
      have := HL.out
      rw [if_neg h28] at this
      exact bne_eq_false_iff_eq.mpr this
    go_enter Try.func25, Try.ntmps25
    go_wp2_with (first | (go_at_call 30; refine (hck' _).mono ?_; rintro e w1 ⟨rfl, hb⟩; have hbx : w1.heap[w.heap.size]? = some (.cells #[.int .u32 a0, .int .u32 a1, .int .i64 1, .int .i64 a3, .int .i64 a4, .int .i64 0, .bool false, .bool false, .string a8] 24 (0, 0)) := blk_below (blk_alloc (blk_new w _) _) hb; have hry : w1.heap[w.heap.size + 1]? = some (.cells #[.int .i64 0, .int .u32 0, .int .u32 0, .int .i64 0, .int .i64 0, .int .i64 0, .string ⟨#[]⟩] 51 (0, 0)) := blk_below (blk_new' _ _ (by simp)) hb; obtain ⟨hc0, hc1, hc2, hc3, hc4, hc5, hc6, hc7, hc8⟩ := pk_cells hbx; have hwz := blk_lt hbx; have hbw : Below w.heap.size w w1 := (((Below.refl _ _).alloc (Nat.le_refl _) _).alloc (by simp) _).trans (hb.mono (by simp; omega)); clear hb hck') | (go_at_call 35; refine (hrep _).mono ?_; rintro e w2 ⟨rfl, hb2⟩; clear hc0 hc1 hc2 hc3 hc4 hc5 hc6 hc7 hc8; have hbx2 := blk_below hbx hb2; obtain ⟨hc0, hc1, hc2, hc3, hc4, hc5, hc6, hc7, hc8⟩ := pk_cells hbx2; have hwz2 := blk_lt hbx2; clear hrep) | (go_at_call 34; refine (hhead _).mono ?_; rintro e w3 ⟨rfl, hb3⟩; clear hhead))
    have X1 := blk_alloc (blk_below (blk_alloc hbx2 (.cells #[.int .i64 0, .int .u32 0, .int .u32 0, .int .i64 0, .int .i64 0, .int .i64 0, .string ⟨#[]⟩] 51 (0, 0))) hb3) (.cells #[.int .u32 n12, .int .u32 n16, .int .i64 x9, .int .i64 x8, .int .i64 n4, .int .i64 n6, .bool q8, .bool q16, .string ⟨#[]⟩] 24 (0, 0))
    have X2 := blk_new w3 (.cells #[.int .u32 n12, .int .u32 n16, .int .i64 x9, .int .i64 x8, .int .i64 n4, .int .i64 n6, .bool q8, .bool q16, .string ⟨#[]⟩] 24 (0, 0))
    have X3 := blk_alloc (blk_below (blk_alloc (blk_below hry hb2) (.cells #[.int .i64 0, .int .u32 0, .int .u32 0, .int .i64 0, .int .i64 0, .int .i64 0, .string ⟨#[]⟩] 51 (0, 0))) hb3) (.cells #[.int .u32 n12, .int .u32 n16, .int .i64 x9, .int .i64 x8, .int .i64 n4, .int .i64 n6, .bool q8, .bool q16, .string ⟨#[]⟩] 24 (0, 0))
    have hsz2 := hb2.size
    have hsz3 := hb3.size
    simp only [World.size_alloc] at hsz3
    have X4 : Below w.heap.size w (w3.alloc (.cells #[.int .u32 n12, .int .u32 n16, .int .i64 x9, .int .i64 x8, .int .i64 n4, .int .i64 n6, .bool q8, .bool q16, .string ⟨#[]⟩] 24 (0, 0))) := (((hbw.trans (hb2.mono (by omega))).alloc (by omega) _).trans (hb3.mono (by simp; omega))).alloc (by omega) _
    have hg8 : w.heap.size + 1 < w3.heap.size := by omega
    generalize w3.alloc (.cells #[.int .u32 n12, .int .u32 n16, .int .i64 x9, .int .i64 x8, .int .i64 n4, .int .i64 n6, .bool q8, .bool q16, .string ⟨#[]⟩] 24 (0, 0)) = Wr at X1 X2 X3 X4 ⊢
    generalize w3.heap.size = g8 at X2 hg8 ⊢
    clear hbx hry hbx2 hbw hb2 hb3 hc0 hc1 hc2 hc3 hc4 hc5 hc6 hc7 hc8 hwz hwz2 hsz2 hsz3
    have q0' : ((0 : Int) < (a8.size : Int)) = True := eq_true (by omega)
    have q20' : ((20 : Int) ≤ (rest.size : Int)) = True := eq_true (by omega)
    have mwhy : wrap64 why = why := w64 (by omega) (by omega)
    refine start_ (n := 20) (S := fun w' => w'.heap[w.heap.size]? = some (.cells #[.int .u32 a0, .int .u32 a1, .int .i64 1, .int .i64 a3, .int .i64 a4, .int .i64 0, .bool false, .bool false, .string a8] 24 (0, 0)) ∧ w'.heap[g8]? = some (.cells #[.int .u32 n12, .int .u32 n16, .int .i64 x9, .int .i64 x8, .int .i64 n4, .int .i64 n6, .bool q8, .bool q16, .string ⟨#[]⟩] 24 (0, 0))) (ds := []) #[false, false, false, false, false, false, false, false, false, false, false, false, false, false, false, false, false, false, false, false] (by kernel_rfl) rfl rfl ⟨blk_drew X1, blk_drew X2⟩ (fun hHeld => ?_)
    have X3d := blk_drew X3
    have X4d := X4.drew
    clear X1 X2 X3 X4
    generalize Wr.drew = Wd at hHeld X3d X4d ⊢
    refine pure_ (i := 0) (N := some 80) (v := ?_) (a' := ?_) #[true, false, false, false, false, false, false, false, false, false, false, false, false, false, false, false, false, false, false, false] rfl rfl (by kernel_rfl) (fun _ _ _ h => h) (Or.inl ⟨by rfl, ?_⟩) ?_ ?_
    rotate_left
    · intro w'
      go_simp
      with_reducible rfl
    rotate_left
    · simp only [Act.put, List.setIfInBounds_toArray, List.set_cons_zero, List.set_cons_succ, i64_w, i32_w]
      rfl
    refine take_ (i := 1) (N := some 81) (v := ?_) (a' := ?_) #[true, true, false, false, false, false, false, false, false, false, false, false, false, false, false, false, false, false, false, false] rfl rfl (by kernel_rfl) (fun _ _ _ h => h) (Or.inl ⟨by rfl, ?_⟩) hHeld ?_ ?_
    rotate_left
    · rintro w' ⟨s0, s1⟩
      obtain ⟨k0, k1, k2, k3, k4, k5, k6, k7, k8⟩ := pk_cells s0
      obtain ⟨j0, j1, j2, j3, j4, j5, j6, j7, j8⟩ := pk_cells s1
      go_simp
      with_reducible rfl
    rotate_left
    · simp only [Act.put, List.setIfInBounds_toArray, List.set_cons_zero, List.set_cons_succ, i64_w, i32_w]
      rfl
    refine pure_ (i := 2) (N := some 82) (v := ?_) (a' := ?_) #[true, true, true, false, false, false, false, false, false, false, false, false, false, false, false, false, false, false, false, false] rfl rfl (by kernel_rfl) (fun _ _ _ h => h) (Or.inl ⟨by rfl, ?_⟩) ?_ ?_
    rotate_left
    · intro w'
      go_simp
      with_reducible rfl
    rotate_left
    · simp only [Act.put, List.setIfInBounds_toArray, List.set_cons_zero, List.set_cons_succ, i64_w, i32_w]
      rfl
    refine pure_ (i := 3) (N := some 83) (v := ?_) (a' := ?_) #[true, true, true, true, false, false, false, false, false, false, false, false, false, false, false, false, false, false, false, false] rfl rfl (by kernel_rfl) (fun _ _ _ h => h) (Or.inl ⟨by rfl, ?_⟩) ?_ ?_
    rotate_left
    · intro w'
      go_simp
      with_reducible rfl
    rotate_left
    · simp only [Act.put, List.setIfInBounds_toArray, List.set_cons_zero, List.set_cons_succ, i64_w, i32_w]
      rfl
    refine pure_ (i := 4) (N := some 84) (v := ?_) (a' := ?_) #[true, true, true, true, true, false, false, false, false, false, false, false, false, false, false, false, false, false, false, false] rfl rfl (by kernel_rfl) (fun _ _ _ h => h) (Or.inl ⟨by rfl, ?_⟩) ?_ ?_
    rotate_left
    · intro w'
      go_simp
      with_reducible rfl
    rotate_left
    · simp only [Act.put, List.setIfInBounds_toArray, List.set_cons_zero, List.set_cons_succ, i64_w, i32_w]
      rfl
    refine take_ (i := 5) (N := some 85) (v := ?_) (a' := ?_) #[true, true, true, true, true, true, false, false, false, false, false, false, false, false, false, false, false, false, false, false] rfl rfl (by kernel_rfl) (fun _ _ _ h => h) (Or.inl ⟨by rfl, ?_⟩) hHeld ?_ ?_
    rotate_left
    · rintro w' ⟨s0, s1⟩
      obtain ⟨k0, k1, k2, k3, k4, k5, k6, k7, k8⟩ := pk_cells s0
      obtain ⟨j0, j1, j2, j3, j4, j5, j6, j7, j8⟩ := pk_cells s1
      go_simp
      with_reducible rfl
    rotate_left
    · simp only [Act.put, List.setIfInBounds_toArray, List.set_cons_zero, List.set_cons_succ, i64_w, i32_w]
      rfl
    refine pure_ (i := 6) (N := some 86) (v := ?_) (a' := ?_) #[true, true, true, true, true, true, true, false, false, false, false, false, false, false, false, false, false, false, false, false] rfl rfl (by kernel_rfl) (fun _ _ _ h => h) (Or.inl ⟨by rfl, ?_⟩) ?_ ?_
    rotate_left
    · intro w'
      go_simp
      with_reducible rfl
    rotate_left
    · simp only [Act.put, List.setIfInBounds_toArray, List.set_cons_zero, List.set_cons_succ, i64_w, i32_w]
      rfl
    refine take_ (i := 7) (N := some 87) (v := ?_) (a' := ?_) #[true, true, true, true, true, true, true, true, false, false, false, false, false, false, false, false, false, false, false, false] rfl rfl (by kernel_rfl) (fun _ _ _ h => h) (Or.inl ⟨by rfl, ?_⟩) hHeld ?_ ?_
    rotate_left
    · rintro w' ⟨s0, s1⟩
      obtain ⟨k0, k1, k2, k3, k4, k5, k6, k7, k8⟩ := pk_cells s0
      obtain ⟨j0, j1, j2, j3, j4, j5, j6, j7, j8⟩ := pk_cells s1
      go_simp
      with_reducible rfl
    rotate_left
    · simp only [Act.put, List.setIfInBounds_toArray, List.set_cons_zero, List.set_cons_succ, i64_w, i32_w]
      rfl
    refine pure_ (i := 8) (N := some 88) (v := ?_) (a' := ?_) #[true, true, true, true, true, true, true, true, true, false, false, false, false, false, false, false, false, false, false, false] rfl rfl (by kernel_rfl) (fun _ _ _ h => h) (Or.inl ⟨by rfl, ?_⟩) ?_ ?_
    rotate_left
    · intro w'
      go_simp
      with_reducible rfl
    rotate_left
    · simp only [Act.put, List.setIfInBounds_toArray, List.set_cons_zero, List.set_cons_succ, i64_w, i32_w]
      rfl
    refine take_ (i := 9) (N := some 89) (v := ?_) (a' := ?_) #[true, true, true, true, true, true, true, true, true, true, false, false, false, false, false, false, false, false, false, false] rfl rfl (by kernel_rfl) (fun _ _ _ h => h) (Or.inl ⟨by rfl, ?_⟩) hHeld ?_ ?_
    rotate_left
    · rintro w' ⟨s0, s1⟩
      obtain ⟨k0, k1, k2, k3, k4, k5, k6, k7, k8⟩ := pk_cells s0
      obtain ⟨j0, j1, j2, j3, j4, j5, j6, j7, j8⟩ := pk_cells s1
      go_simp
      with_reducible rfl
    rotate_left
    · simp only [Act.put, List.setIfInBounds_toArray, List.set_cons_zero, List.set_cons_succ, i64_w, i32_w]
      rfl
    refine pure_ (i := 10) (N := some 90) (v := ?_) (a' := ?_) #[true, true, true, true, true, true, true, true, true, true, true, false, false, false, false, false, false, false, false, false] rfl rfl (by kernel_rfl) (fun _ _ _ h => h) (Or.inl ⟨by rfl, ?_⟩) ?_ ?_
    rotate_left
    · intro w'
      go_simp
      with_reducible rfl
    rotate_left
    · simp only [Act.put, List.setIfInBounds_toArray, List.set_cons_zero, List.set_cons_succ, i64_w, i32_w]
      rfl
    refine take_ (i := 11) (N := some 91) (v := ?_) (a' := ?_) #[true, true, true, true, true, true, true, true, true, true, true, true, false, false, false, false, false, false, false, false] rfl rfl (by kernel_rfl) (fun _ _ _ h => h) (Or.inl ⟨by rfl, ?_⟩) hHeld ?_ ?_
    rotate_left
    · rintro w' ⟨s0, s1⟩
      obtain ⟨k0, k1, k2, k3, k4, k5, k6, k7, k8⟩ := pk_cells s0
      obtain ⟨j0, j1, j2, j3, j4, j5, j6, j7, j8⟩ := pk_cells s1
      go_simp
      with_reducible rfl
    rotate_left
    · simp only [Act.put, List.setIfInBounds_toArray, List.set_cons_zero, List.set_cons_succ, i64_w, i32_w]
      rfl
    refine pure_ (i := 12) (N := some 92) (v := ?_) (a' := ?_) #[true, true, true, true, true, true, true, true, true, true, true, true, true, false, false, false, false, false, false, false] rfl rfl (by kernel_rfl) (fun _ _ _ h => h) (Or.inl ⟨by rfl, ?_⟩) ?_ ?_
    rotate_left
    · intro w'
      go_simp
      with_reducible rfl
    rotate_left
    · simp only [Act.put, List.setIfInBounds_toArray, List.set_cons_zero, List.set_cons_succ, i64_w, i32_w]
      rfl
    refine take_ (i := 13) (N := some 93) (v := ?_) (a' := ?_) #[true, true, true, true, true, true, true, true, true, true, true, true, true, true, false, false, false, false, false, false] rfl rfl (by kernel_rfl) (fun _ _ _ h => h) (Or.inl ⟨by rfl, ?_⟩) hHeld ?_ ?_
    rotate_left
    · rintro w' ⟨s0, s1⟩
      obtain ⟨k0, k1, k2, k3, k4, k5, k6, k7, k8⟩ := pk_cells s0
      obtain ⟨j0, j1, j2, j3, j4, j5, j6, j7, j8⟩ := pk_cells s1
      go_simp
      with_reducible rfl
    rotate_left
    · simp only [Act.put, List.setIfInBounds_toArray, List.set_cons_zero, List.set_cons_succ, i64_w, i32_w]
      rfl
    refine pure_ (i := 14) (N := some 94) (v := ?_) (a' := ?_) #[true, true, true, true, true, true, true, true, true, true, true, true, true, true, true, false, false, false, false, false] rfl rfl (by kernel_rfl) (fun _ _ _ h => h) (Or.inl ⟨by rfl, ?_⟩) ?_ ?_
    rotate_left
    · intro w'
      go_simp
      with_reducible rfl
    rotate_left
    · simp only [Act.put, List.setIfInBounds_toArray, List.set_cons_zero, List.set_cons_succ, i64_w, i32_w]
      rfl
    refine pure_ (i := 15) (N := some 95) (v := ?_) (a' := ?_) #[true, true, true, true, true, true, true, true, true, true, true, true, true, true, true, true, false, false, false, false] rfl rfl (by kernel_rfl) (fun _ _ _ h => h) (Or.inl ⟨by rfl, ?_⟩) ?_ ?_
    rotate_left
    · intro w'
      go_simp
      with_reducible rfl
    rotate_left
    · simp only [Act.put, List.setIfInBounds_toArray, List.set_cons_zero, List.set_cons_succ, i64_w, i32_w]
      rfl
    refine one_ (i := 16) (N := some 96) #[true, true, true, true, true, true, true, true, true, true, true, true, true, true, true, true, true, false, false, false] rfl rfl (by kernel_rfl) (by decide) (fun K hK => ?_)
    refine goes_ Try.func36 (by kernel_rfl) rfl #[.string (rest.extract 20 rest.size)] (by rfl) rfl rfl (by (try simp only [List.map_toArray, List.map_cons, List.map_nil]); first | done | rfl) ?_
    refine (hcl _).mono ?_
    rintro e wc ⟨rfl, hbc⟩
    refine ⟨_, rfl, ?_⟩
    have Y3 := blk_below X3d hbc
    have Y4 : Below w.heap.size w wc := X4d.trans (hbc.mono X4d.size)
    refine hK.out _ _ ⟨blk_below hHeld.1 hbc, blk_below hHeld.2 hbc⟩ (fun hHeld => ?_)
    clear hK K X3d X4d hbc
    refine norm_ (a' := ?_) ?_ ?_
    rotate_left
    · show Act.put _ (some 96) _ = _
      simp only [Act.put, List.setIfInBounds_toArray, List.set_cons_zero, List.set_cons_succ, i64_w, i32_w]
      rfl
    refine pure_ (i := 17) (N := some 97) (v := ?_) (a' := ?_) #[true, true, true, true, true, true, true, true, true, true, true, true, true, true, true, true, true, true, false, false] rfl rfl (by kernel_rfl) (fun _ _ _ h => h) (Or.inl ⟨by rfl, ?_⟩) ?_ ?_
    rotate_left
    · intro w'
      go_simp
      with_reducible rfl
    rotate_left
    · simp only [Act.put, List.setIfInBounds_toArray, List.set_cons_zero, List.set_cons_succ, i64_w, i32_w]
      rfl
    refine one_ (i := 18) (N := none) #[true, true, true, true, true, true, true, true, true, true, true, true, true, true, true, true, true, true, true, false] rfl rfl (by kernel_rfl) (by decide) (fun K hK => ?_)
    refine store_step (by rfl) 51 (.tmp 2) (.tmp 97) rfl _ #[.int .i64 why, .int .u32 n12, .int .u32 n16, .int .i64 x9, .int .i64 n4, .int .i64 n6, .string (rest.extract 20 rest.size)] rfl rfl ?hu Y3 size51 rfl (note_one _ _ _ _ _ _ _) ?_
    case hu => simp [Act.eval, Value.cells, mwhy]
    intro wn hwn hgn
    refine hK.out _ _ ⟨blk_grown hHeld.1 hgn (by simp), blk_grown hHeld.2 hgn (by simp; omega)⟩ (fun hHeld => ?_)
    clear hK K
    refine pure_ (i := 19) (N := some 3) (v := ?_) (a' := ?_) #[true, true, true, true, true, true, true, true, true, true, true, true, true, true, true, true, true, true, true, true] rfl rfl (by kernel_rfl) (fun _ _ _ h => h) (Or.inl ⟨by rfl, ?_⟩) ?_ ?_
    rotate_left
    · intro w'
      go_simp
      with_reducible rfl
    rotate_left
    · simp only [Act.put, List.setIfInBounds_toArray, List.set_cons_zero, List.set_cons_succ, i64_w, i32_w]
      rfl
    refine done_ (by kernel_rfl) ?_
    go_wp2
    refine bodyPost_ret (results_ct rfl _ _ (w.heap.size + 1) 51 _ (0, 0) _ rfl hwn Try.underlying51 rfl size51) rfl ⟨rfl, ?_⟩
    exact Y4.grown hgn Y4.size (fun k hk => by cases hk; omega)
end Go.Proofs.Ythepnjbefngooaa.H
