/- Walks of bare, entire, cut.Cut and cut.Count: what each returns. Conditions: sizes that the rows give. -/
import Derived.Lib.Hide
import Derived.Test.YtlhfkkionaemhaaHCheck
namespace Go.Proofs.Ytlhfkkionaemhaa.H
set_option linter.unusedSimpArgs false
set_option linter.unusedVariables false
open Go Go.RowKit Go.Proofs.YtlhfkkionaemhaaW.PrintWords Go.Proofs.YtlhfkkionaemhaaW.PrintLast Go.Proofs.YtlhfkkionaemhaaW.PrintMore Go.Proofs.Ytlhfkkionaemhaa.Plain

theorem bcell {W w1 : World} (hb : Below W.heap.size W w1) : (∀ b o, b < W.heap.size → w1.cell? ⟨b, o, none⟩ = W.cell? ⟨b, o, none⟩) ∧ (∀ b o, b < W.heap.size → w1.frozen? ⟨b, o, none⟩ = W.frozen? ⟨b, o, none⟩) :=
  ⟨fun b o h => hb.cell (p := ⟨b, o, none⟩) h, fun b o h => hb.frozen (p := ⟨b, o, none⟩) h⟩

theorem ext_all (s : ByteArray) (m : Nat) (h : s.size ≤ m) : s.extract 0 (min s.size m) = s := by
  rw [Nat.min_eq_left h]; simp
/-- The first n bytes. -/
def beg (s : ByteArray) (n : Nat) : ByteArray := s.extract 0 (min s.size n)
theorem beg_size (s : ByteArray) (n : Nat) : (beg s n).size = min s.size n := by unfold beg; rw [size_ext]; omega
theorem beg_max (s : ByteArray) (n : Nat) (h : n < s.size) : s.extract 0 n = beg s n := by unfold beg; rw [Nat.min_eq_right (by omega)]
theorem beg_min (s : ByteArray) (n : Nat) (h : s.size ≤ n) : s = beg s n := (ext_all s n h).symm

theorem begin_calls (s : ByteArray) (n : Nat) (hn : n ≤ 1000000) (w : World) :
    Calls Try.prog 28 #[.string s, .int .i64 n] w fun e w' => e = .returned (.string (beg s n)) ∧ w = w' := by
  go_enter Try.func28, Try.ntmps28
  go_wp2
  · have h : n < s.size := by assumption
    go_ret
    exact ⟨by rw [← beg_max s n (by omega)]; rfl, rfl⟩
  · have h : ¬ n < s.size := by assumption
    go_ret
    exact ⟨by rw [← beg_min s n (by omega)]; rfl, rfl⟩

theorem bare_calls (a0 a1 a2 a3 a4 a5 : Int) (a6 a7 : Bool) (a8 : ByteArray) (n : Nat) (hn : n ≤ 1000000) (w : World) :
    Calls Try.prog 11 #[.agg #[.int .u32 a0, .int .u32 a1, .int .i64 a2, .int .i64 a3, .int .i64 a4, .int .i64 a5, .bool a6, .bool a7, .string a8], .int .i64 n] w fun e w' => e = .returned (.agg #[.int .u32 a0, .int .u32 a1, .int .i64 a2, .int .i64 a3, .int .i64 a4, .int .i64 a5, .bool a6, .bool a7, .string (beg a8 n)]) ∧ w' = (w.alloc (.cells #[.int .u32 a0, .int .u32 a1, .int .i64 a2, .int .i64 a3, .int .i64 a4, .int .i64 a5, .bool a6, .bool a7, .string (beg a8 n)] 32 (0, 0))).alloc (.cells #[.int .u32 a0, .int .u32 a1, .int .i64 a2, .int .i64 a3, .int .i64 a4, .int .i64 a5, .bool a6, .bool a7, .string (beg a8 n)] 32 (0, 0)) := by
  go_enter Try.func11, Try.ntmps11
  go_wp2_with (go_at_call 28; refine (begin_calls _ _ hn _).mono ?_; rintro e w' ⟨rfl, rfl⟩)
  refine bodyPost_ret (v := .agg #[.int .u32 a0, .int .u32 a1, .int .i64 a2, .int .i64 a3, .int .i64 a4, .int .i64 a5, .bool a6, .bool a7, .string (beg a8 n)]) ?_ rfl ⟨rfl, ?_⟩
  · simp [results, Try.results11, go_sem]
  · rfl

set_option maxHeartbeats 1000000 in
theorem entire_calls (a0 a1 a2 a3 a4 a5 : Int) (a6 a7 : Bool) (a8 : ByteArray) (n : Nat) (hn : n ≤ 1000000) (w : World) :
    Calls Try.prog 15 #[.agg #[.int .u32 a0, .int .u32 a1, .int .i64 a2, .int .i64 a3, .int .i64 a4, .int .i64 a5, .bool a6, .bool a7, .string a8], .int .i64 n] w fun e w' => e = .returned (.agg #[.int .u32 a0, .int .u32 a1, .int .i64 (a2 % 256), .int .i64 (a3 % 128 + 1), .int .i64 (a4 % 65536), .int .i64 0, .bool false, .bool false, .string (beg a8 n)]) ∧ ∃ o1 o2 o3 o4, w' = (((w.alloc o1).alloc o2).alloc o3).alloc o4 := by
  go_enter Try.func15, Try.ntmps15
  go_wp2_with (go_at_call 11; refine (bare_calls _ _ _ _ _ _ _ _ _ _ hn _).mono ?_; rintro e w1 ⟨rfl, rfl⟩)
  refine bodyPost_ret (v := .agg #[.int .u32 a0, .int .u32 a1, .int .i64 (a2 % 256), .int .i64 (a3 % 128 + 1), .int .i64 (a4 % 65536), .int .i64 0, .bool false, .bool false, .string (beg a8 n)]) ?_ rfl ⟨rfl, ?_⟩
  · rw [← and_any255, ← and_any127, ← and_any65535]
    have hr : wrap64 (bits BinOp.and IntKind.i64 a3 127 + 1) = bits BinOp.and IntKind.i64 a3 127 + 1 := by
      rw [and_any127]; exact w64 (by omega) (by omega)
    simp [results, Try.results15, go_sem, hr]
  · exact ⟨_, _, _, _, rfl⟩

theorem ret_int {k : IntKind} {a b : Int} (h : a = b) : Ending.returned (.int k a) = .returned (.int k b) := by rw [h]
/-- What is wrong with the arguments of a division. -/
def wrongv (a2 a3 a4 a5 : Int) (a6 a7 : Bool) (size : Nat) (n : Int) : Int :=
  if checkv a2 a3 a4 a5 a6 a7 size ≠ 0 then checkv a2 a3 a4 a5 a6 a7 size
  else if n < 28 ∨ n > 1520 then 10
  else if a7 = true ∧ 20 + (size : Int) > n then 14
  else 0

theorem checkv_range (a2 a3 a4 a5 : Int) (a6 a7 : Bool) (size : Nat) : 0 ≤ checkv a2 a3 a4 a5 a6 a7 size ∧ checkv a2 a3 a4 a5 a6 a7 size ≤ 10 := by
  unfold checkv; repeat' split
  all_goals omega

set_option maxHeartbeats 1000000 in
theorem wrong_calls (a0 a1 a2 a3 a4 a5 : Int) (a6 a7 : Bool) (a8 : ByteArray) (n : Int) (hs : a8.size ≤ 140737488351232) (w : World) :
    Calls Try.prog 31 #[.agg #[.int .u32 a0, .int .u32 a1, .int .i64 a2, .int .i64 a3, .int .i64 a4, .int .i64 a5, .bool a6, .bool a7, .string a8], .int .i64 n] w fun e w' => e = .returned (.int .i64 (wrongv a2 a3 a4 a5 a6 a7 a8.size n)) ∧ Below w.heap.size w w' := by
  have hcr := checkv_range a2 a3 a4 a5 a6 a7 a8.size
  generalize hk : checkv a2 a3 a4 a5 a6 a7 a8.size = c at hcr
  have hck := fun W => check_calls a0 a1 a2 a3 a4 a5 a6 a7 a8 hs W
  rw [hk] at hck
  have hv : wrongv a2 a3 a4 a5 a6 a7 a8.size n = if c ≠ 0 then c else if n < 28 ∨ n > 1520 then 10 else if a7 = true ∧ 20 + (a8.size : Int) > n then 14 else 0 := by unfold wrongv; rw [hk]
  have HV := Lib.hid hv
  clear hv hk
  have fin : ∀ (w1 : World) (o : Obj), Below (w.alloc o).heap.size (w.alloc o) w1 → Below w.heap.size w w1 := fun w1 o hb => ((Below.refl _ _).alloc (Nat.le_refl _) o).trans (hb.mono (by simp))
  by_cases h0 : c = 0
  · subst h0
    by_cases h1 : n < 28
    · go_enter Try.func31, Try.ntmps31
      go_wp2_with (go_at_call 20; refine (hck _).mono ?_; rintro e w1 ⟨rfl, hb⟩; obtain ⟨hc, hf⟩ := bcell hb)
      go_ret
      exact ⟨ret_int (by rw [HV.out, if_neg (by omega), if_pos (by omega)]), fin _ _ hb⟩
    · by_cases h2 : n > 1520
      · go_enter Try.func31, Try.ntmps31
        go_wp2_with (go_at_call 20; refine (hck _).mono ?_; rintro e w1 ⟨rfl, hb⟩; obtain ⟨hc, hf⟩ := bcell hb)
        go_ret
        exact ⟨ret_int (by rw [HV.out, if_neg (by omega), if_pos (by omega)]), fin _ _ hb⟩
      · cases a7
        · go_enter Try.func31, Try.ntmps31
          go_wp2_with (go_at_call 20; refine (hck _).mono ?_; rintro e w1 ⟨rfl, hb⟩; obtain ⟨hc, hf⟩ := bcell hb)
          go_ret
          exact ⟨ret_int (by rw [HV.out, if_neg (by omega), if_neg (by omega), if_neg (by simp)]), fin _ _ hb⟩
        · by_cases h3 : 20 + (a8.size : Int) > n
          · go_enter Try.func31, Try.ntmps31
            go_wp2_with (go_at_call 20; refine (hck _).mono ?_; rintro e w1 ⟨rfl, hb⟩; obtain ⟨hc, hf⟩ := bcell hb)
            go_ret
            exact ⟨ret_int (by rw [HV.out, if_neg (by omega), if_neg (by omega), if_pos ⟨trivial, h3⟩]), fin _ _ hb⟩
          · go_enter Try.func31, Try.ntmps31
            go_wp2_with (go_at_call 20; refine (hck _).mono ?_; rintro e w1 ⟨rfl, hb⟩; obtain ⟨hc, hf⟩ := bcell hb)
            go_ret
            exact ⟨ret_int (by rw [HV.out, if_neg (by omega), if_neg (by omega), if_neg (fun h => by have := h.2; omega)]), fin _ _ hb⟩
  · have h0' : (c == 0) = false := beq_eq_false_iff_ne.mpr h0
    have h0'' : (c != 0) = true := bne_iff_ne.mpr h0
    go_enter Try.func31, Try.ntmps31
    go_wp2_with (go_at_call 20; refine (hck _).mono ?_; rintro e w1 ⟨rfl, hb⟩; obtain ⟨hc, hf⟩ := bcell hb)
    go_ret
    exact ⟨ret_int (by rw [HV.out, if_pos h0]), fin _ _ hb⟩

/-- The cells of a packet's block. -/
theorem pk_cells {W : World} {g : Nat} {t : TypeId} {a0 a1 a2 a3 a4 a5 : Int} {a6 a7 : Bool} {a8 : ByteArray} (h : W.heap[g]? = some (.cells #[.int .u32 a0, .int .u32 a1, .int .i64 a2, .int .i64 a3, .int .i64 a4, .int .i64 a5, .bool a6, .bool a7, .string a8] t (0, 0))) :
    W.cell? ⟨g, 0, none⟩ = some (.int .u32 a0) ∧ W.cell? ⟨g, 1, none⟩ = some (.int .u32 a1) ∧ W.cell? ⟨g, 2, none⟩ = some (.int .i64 a2) ∧ W.cell? ⟨g, 3, none⟩ = some (.int .i64 a3) ∧ W.cell? ⟨g, 4, none⟩ = some (.int .i64 a4) ∧ W.cell? ⟨g, 5, none⟩ = some (.int .i64 a5) ∧ W.cell? ⟨g, 6, none⟩ = some (.bool a6) ∧ W.cell? ⟨g, 7, none⟩ = some (.bool a7) ∧ W.cell? ⟨g, 8, none⟩ = some (.string a8) :=
  ⟨(blk_cell h 0).trans rfl, (blk_cell h 1).trans rfl, (blk_cell h 2).trans rfl, (blk_cell h 3).trans rfl, (blk_cell h 4).trans rfl, (blk_cell h 5).trans rfl, (blk_cell h 6).trans rfl, (blk_cell h 7).trans rfl, (blk_cell h 8).trans rfl⟩
end Go.Proofs.Ytlhfkkionaemhaa.H
