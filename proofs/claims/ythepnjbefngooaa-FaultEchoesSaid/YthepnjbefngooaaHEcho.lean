/- Walks of fault.Echo and fault.Answer. Conditions: sizes that the rows give. -/
import Derived.Test.YthepnjbefngooaaHReply
namespace Go.Proofs.Ythepnjbefngooaa.H
set_option linter.unusedSimpArgs false
set_option linter.unusedVariables false
open Go Go.RowKit Go.Proofs.YthepnjbefngooaaW.PrintWords Go.Proofs.YthepnjbefngooaaW.PrintLast Go.Proofs.YthepnjbefngooaaW.PrintMore Go.Proofs.Ythepnjbefngooaa.Plain

/-- The eight bytes before an echo message's body. -/
def echoHead (b4 b5 b6 b7 : Int) : ByteArray := strOfNums [8, 0, 0, 0, b4, b5, b6, b7]

set_option maxHeartbeats 4000000 in
set_option maxRecDepth 100000 in
theorem echo_calls (src dst id seq : Int) (s : ByteArray) (hi : 0 ≤ id ∧ id ≤ 65535) (hq : 0 ≤ seq ∧ seq ≤ 65535) (hs : s.size ≤ 40) (w : World) :
    Calls Try.prog 26 #[.int .u32 src, .int .u32 dst, .int .i64 id, .int .i64 seq, .string s] w fun e w' =>
      e = .returned (.tuple #[.agg #[.int .u32 src, .int .u32 dst, .int .i64 1, .int .i64 64, .int .i64 0, .int .i64 0, .bool false, .bool false, .string (echoHead (id / 256) (id % 256) (seq / 256) (seq % 256) ++ s)], .int .i64 0]) ∧ Below w.heap.size w w' := by
  have hM : (strOfNums [8, 0, 0, 0, id / 256, id % 256, seq / 256, seq % 256]).size ≤ 8 := by rw [size_strOfNums]; simp
  unfold echoHead
  obtain ⟨M, hMe⟩ : ∃ M, strOfNums [8, 0, 0, 0, id / 256, id % 256, seq / 256, seq % 256] = M := ⟨_, rfl⟩
  have HM := Lib.hid hMe
  rw [hMe] at hM ⊢
  clear hMe
  have hown : ((w.alloc (.cells #[.int .u32 0, .int .u32 0, .int .i64 0, .int .i64 0, .int .i64 0, .int .i64 0, .bool false, .bool false, .string ⟨#[]⟩] 24 (0, 0))).alloc (.cells #[.int .u8 8, .int .u8 0, .int .u8 0, .int .u8 0, .int .u8 (id / 256), .int .u8 (id % 256), .int .u8 (seq / 256), .int .u8 (seq % 256)] 5 (0, 0))).ownsRow 0 5 1 (.slice (some ⟨w.heap.size + 1, 0, none⟩) 8 8) 8 (nums .u8 [8, 0, 0, 0, id / 256, id % 256, seq / 256, seq % 256]) :=
    ⟨rfl, .inr ⟨w.heap.size + 1, 8, #[.int .u8 8, .int .u8 0, .int .u8 0, .int .u8 0, .int .u8 (id / 256), .int .u8 (id % 256), .int .u8 (seq / 256), .int .u8 (seq % 256)], rfl, Nat.zero_le _, blk_new' _ _ (by simp), by decide, by decide, rfl, rfl⟩⟩
  have hcv := own_string (P := Try.prog) Try.underlying37 Try.underlying5 Try.underlying9 hown
  rw [HM.out] at hcv
  clear hown
  go_enter Try.func26, Try.ntmps26
  go_wp2
  have hx := blk_alloc (blk_new w (.cells #[.int .u32 src, .int .u32 dst, .int .i64 1, .int .i64 64, .int .i64 0, .int .i64 0, .bool false, .bool false, .string (M ++ s)] 24 (0, 0))) (.cells #[.int .u8 8, .int .u8 0, .int .u8 0, .int .u8 0, .int .u8 (id / 256), .int .u8 (id % 256), .int .u8 (seq / 256), .int .u8 (seq % 256)] 5 (0, 0))
  refine bodyPost_ret (results_ct rfl _ _ w.heap.size 24 _ (0, 0) _ rfl hx Try.underlying24 rfl size24) rfl ⟨rfl, ?_⟩
  exact ((Below.refl _ _).alloc (Nat.le_refl _) _).alloc (by simp) _

theorem strip_beq {a : ByteArray} {l : List UInt8} (h : (a.extract 0 4).toList = l) : ((a.extract 0 4).toList == l) = true := beq_iff_eq.mpr h

set_option maxHeartbeats 4000000 in
set_option maxRecDepth 100000 in
theorem answer_yes (a0 a1 : Int) (a8 : ByteArray) (h0 : 0 ≤ a0 ∧ a0 ≤ 4294967295) (h1 : 0 ≤ a1 ∧ a1 ≤ 4294967295) (hs : 8 ≤ a8.size) (hs' : a8.size ≤ 1500) (h8 : (a8.extract 0 4).toList = [8, 0, 0, 0]) (hu0 : uni a0 = true) (hu1 : uni a1 = true) (w : World) :
    Calls Try.prog 27 #[.agg #[.int .u32 a0, .int .u32 a1, .int .i64 1, .int .i64 64, .int .i64 0, .int .i64 0, .bool false, .bool false, .string a8]] w fun e w' =>
      e = .returned (.tuple #[.agg #[.int .u32 a1, .int .u32 a0, .int .i64 1, .int .i64 64, .int .i64 0, .int .i64 0, .bool false, .bool false, .string (strOfNums [9] ++ a8.extract 1 a8.size)], .bool true, .int .i64 0]) ∧ Below w.heap.size w w' := by
  have hck' := fun W => check_calls a0 a1 1 64 0 0 false false a8 (by omega) W
  have hck : checkv 1 64 0 0 false false a8.size = 0 := by
    unfold checkv
    rw [if_neg (by omega), if_neg (by omega), if_neg]
    rintro (h | ⟨h, h'⟩ | ⟨h | h, h'⟩)
    · omega
    · cases h
    · cases h
    · omega
  rw [hck] at hck'
  have hun0 := fun W => unicast_calls a0 h0.1 h0.2 W
  have hun1 := fun W => unicast_calls a1 h1.1 h1.2 W
  rw [hu0] at hun0
  rw [hu1] at hun1
  have hq8 : ((a8.extract 0 4).toList == [8, 0, 0, 0]) = true := beq_iff_eq.mpr h8
  have hq8' : ((a8.extract 0 4).toList != [8, 0, 0, 0]) = false := by rw [bne, hq8]; rfl
  have i4 : (4 : Int) ≤ a8.size := by omega
  clear hck h8 hu0 hu1
  have hM : (strOfNums [9]).size ≤ 1 := by rw [size_strOfNums]; simp
  obtain ⟨M, hMe⟩ : ∃ M, strOfNums [9] = M := ⟨_, rfl⟩
  have HM := Lib.hid hMe
  rw [hMe] at hM ⊢
  clear hMe
  go_enter Try.func27, Try.ntmps27
  go_wp2_with (first | (go_at_call 30; refine (hck' _).mono ?_; rintro e w1 ⟨rfl, hb⟩; have hbx : w1.heap[w.heap.size]? = some (.cells #[.int .u32 a0, .int .u32 a1, .int .i64 1, .int .i64 64, .int .i64 0, .int .i64 0, .bool false, .bool false, .string a8] 24 (0, 0)) := blk_below (blk_alloc (blk_new w _) _) hb; have hry : w1.heap[w.heap.size + 1]? = some (.cells #[.int .u32 0, .int .u32 0, .int .i64 0, .int .i64 0, .int .i64 0, .int .i64 0, .bool false, .bool false, .string ⟨#[]⟩] 24 (0, 0)) := blk_below (blk_new' _ _ (by simp)) hb; obtain ⟨hc0, hc1, hc2, hc3, hc4, hc5, hc6, hc7, hc8⟩ := pk_cells hbx; have hwz := blk_lt hry; have hbw : Below w.heap.size w w1 := (((Below.refl _ _).alloc (Nat.le_refl _) _).alloc (by simp) _).trans (hb.mono (by simp; omega)); clear hb hck') | (go_at_call 32; refine (hun0 _).mono ?_; rintro e w3 ⟨rfl, rfl⟩; clear hun0) | (go_at_call 32; refine (hun1 _).mono ?_; rintro e w4 ⟨rfl, rfl⟩; clear hun1))
  have hwz3 : w.heap.size < w1.heap.size := by omega
  have hown4 : ((w1.alloc (.cells #[.int .u8 9] 5 (0, 0))).drew).ownsRow 0 5 1 (.slice (some ⟨w1.heap.size, 0, none⟩) 1 1) 1 (nums .u8 [9]) :=
    ⟨rfl, .inr ⟨w1.heap.size, 1, #[.int .u8 9], rfl, Nat.zero_le _, blk_new w1 _, by decide, by decide, rfl, rfl⟩⟩
  have hcv := own_string (P := Try.prog) Try.underlying37 Try.underlying5 Try.underlying9 hown4
  rw [HM.out] at hcv
  have i1 : (1 : Int) ≤ a8.size := by omega
  clear hown4
  go_region
  clear hcv
  all_goals go_wp2_with (refine gate_ (.store 24 (.tmp 2) (.tmp 61)) rfl ?_; refine wpList_store_block rfl 24 (.tmp 2) (.tmp 61) rfl rfl _ #[.int .u32 a1, .int .u32 a0, .int .i64 1, .int .i64 64, .int .i64 0, .int .i64 0, .bool false, .bool false, .string (M ++ a8.extract 1 a8.size)] rfl rfl rfl (blk_drew (blk_alloc hry _)) size24 rfl (pk_one _ _ _ _ _ _ _ _ _) ?_)
  all_goals
    intro w4 hw4 hg4
    go_wp2
    refine bodyPost_ret (results_ctt rfl _ _ (w.heap.size + 1) 24 _ (0, 0) _ rfl hw4 Try.underlying24 rfl size24) rfl ⟨rfl, ?_⟩
    exact ((hbw.alloc (by omega) _).drew).grown hg4 (by simp; omega) (fun k hk => by cases hk; omega)

set_option maxHeartbeats 4000000 in
/-- Answer where nothing is answered. -/
theorem answer_no (a0 a1 : Int) (a8 : ByteArray) (h0 : 0 ≤ a0 ∧ a0 ≤ 4294967295) (h1 : 0 ≤ a1 ∧ a1 ≤ 4294967295) (hs : 8 ≤ a8.size) (hs' : a8.size ≤ 1500) (hn : (a8.extract 0 4).toList ≠ [8, 0, 0, 0] ∨ uni a0 = false ∨ uni a1 = false) (w : World) :
    Calls Try.prog 27 #[.agg #[.int .u32 a0, .int .u32 a1, .int .i64 1, .int .i64 64, .int .i64 0, .int .i64 0, .bool false, .bool false, .string a8]] w fun e w' =>
      e = .returned (.tuple #[.agg #[.int .u32 0, .int .u32 0, .int .i64 0, .int .i64 0, .int .i64 0, .int .i64 0, .bool false, .bool false, .string ⟨#[]⟩], .bool false, .int .i64 0]) ∧ Below w.heap.size w w' := by
  have hck' := fun W => check_calls a0 a1 1 64 0 0 false false a8 (by omega) W
  have hck : checkv 1 64 0 0 false false a8.size = 0 := by
    unfold checkv
    rw [if_neg (by omega), if_neg (by omega), if_neg]
    rintro (h | ⟨h, h'⟩ | ⟨h | h, h'⟩)
    · omega
    · cases h
    · cases h
    · omega
  rw [hck] at hck'
  have hun0 := fun W => unicast_calls a0 h0.1 h0.2 W
  have hun1 := fun W => unicast_calls a1 h1.1 h1.2 W
  have i4 : (4 : Int) ≤ a8.size := by omega
  clear hck
  by_cases h8 : (a8.extract 0 4).toList = [8, 0, 0, 0]
  · have hq8 : ((a8.extract 0 4).toList == [8, 0, 0, 0]) = true := beq_iff_eq.mpr h8
    have hu : uni a0 = false ∨ uni a1 = false := hn.resolve_left (fun h => h h8)
    clear hn h8
    generalize uni a0 = U0 at hun0 hu
    generalize uni a1 = U1 at hun1 hu
    cases U0
    · clear hu hun1
      go_enter Try.func27, Try.ntmps27
      go_wp2_with (first | (go_at_call 30; refine (hck' _).mono ?_; rintro e w1 ⟨rfl, hb⟩; have hbx : w1.heap[w.heap.size]? = some (.cells #[.int .u32 a0, .int .u32 a1, .int .i64 1, .int .i64 64, .int .i64 0, .int .i64 0, .bool false, .bool false, .string a8] 24 (0, 0)) := blk_below (blk_alloc (blk_new w _) _) hb; have hry : w1.heap[w.heap.size + 1]? = some (.cells #[.int .u32 0, .int .u32 0, .int .i64 0, .int .i64 0, .int .i64 0, .int .i64 0, .bool false, .bool false, .string ⟨#[]⟩] 24 (0, 0)) := blk_below (blk_new' _ _ (by simp)) hb; obtain ⟨hc0, hc1, hc2, hc3, hc4, hc5, hc6, hc7, hc8⟩ := pk_cells hbx; have hwz := blk_lt hry; have hbw : Below w.heap.size w w1 := (((Below.refl _ _).alloc (Nat.le_refl _) _).alloc (by simp) _).trans (hb.mono (by simp; omega)); clear hb hck') | (go_at_call 32; refine (hun0 _).mono ?_; rintro e w3 ⟨rfl, rfl⟩; clear hun0) | (refine gate_ (.store 24 (.tmp 2) (.tmp 49)) rfl ?_; refine wpList_store_block rfl 24 (.tmp 2) (.tmp 49) rfl rfl _ #[.int .u32 0, .int .u32 0, .int .i64 0, .int .i64 0, .int .i64 0, .int .i64 0, .bool false, .bool false, .string ⟨#[]⟩] rfl rfl rfl hry size24 rfl (pk_one _ _ _ _ _ _ _ _ _) ?_))
      intro w4 hw4 hg4
      go_wp2
      refine bodyPost_ret (results_ctt rfl _ _ (w.heap.size + 1) 24 _ (0, 0) _ rfl hw4 Try.underlying24 rfl size24) rfl ⟨rfl, ?_⟩
      exact hbw.grown hg4 (by omega) (fun k hk => by cases hk; omega)
    · obtain rfl : U1 = false := by
        rcases hu with hu | hu
        · cases hu
        · exact hu
      clear hu
      go_enter Try.func27, Try.ntmps27
      go_wp2_with (first | (go_at_call 30; refine (hck' _).mono ?_; rintro e w1 ⟨rfl, hb⟩; have hbx : w1.heap[w.heap.size]? = some (.cells #[.int .u32 a0, .int .u32 a1, .int .i64 1, .int .i64 64, .int .i64 0, .int .i64 0, .bool false, .bool false, .string a8] 24 (0, 0)) := blk_below (blk_alloc (blk_new w _) _) hb; have hry : w1.heap[w.heap.size + 1]? = some (.cells #[.int .u32 0, .int .u32 0, .int .i64 0, .int .i64 0, .int .i64 0, .int .i64 0, .bool false, .bool false, .string ⟨#[]⟩] 24 (0, 0)) := blk_below (blk_new' _ _ (by simp)) hb; obtain ⟨hc0, hc1, hc2, hc3, hc4, hc5, hc6, hc7, hc8⟩ := pk_cells hbx; have hwz := blk_lt hry; have hbw : Below w.heap.size w w1 := (((Below.refl _ _).alloc (Nat.le_refl _) _).alloc (by simp) _).trans (hb.mono (by simp; omega)); clear hb hck') | (go_at_call 32; refine (hun0 _).mono ?_; rintro e w3 ⟨rfl, rfl⟩; clear hun0) | (go_at_call 32; refine (hun1 _).mono ?_; rintro e w3 ⟨rfl, rfl⟩; clear hun1) | (refine gate_ (.store 24 (.tmp 2) (.tmp 49)) rfl ?_; refine wpList_store_block rfl 24 (.tmp 2) (.tmp 49) rfl rfl _ #[.int .u32 0, .int .u32 0, .int .i64 0, .int .i64 0, .int .i64 0, .int .i64 0, .bool false, .bool false, .string ⟨#[]⟩] rfl rfl rfl hry size24 rfl (pk_one _ _ _ _ _ _ _ _ _) ?_))
      intro w4 hw4 hg4
      go_wp2
      refine bodyPost_ret (results_ctt rfl _ _ (w.heap.size + 1) 24 _ (0, 0) _ rfl hw4 Try.underlying24 rfl size24) rfl ⟨rfl, ?_⟩
      exact hbw.grown hg4 (by omega) (fun k hk => by cases hk; omega)
  · have hq8 : ((a8.extract 0 4).toList == [8, 0, 0, 0]) = false := beq_eq_false_iff_ne.mpr h8
    clear hn h8
    go_enter Try.func27, Try.ntmps27
    go_wp2_with (first | (go_at_call 30; refine (hck' _).mono ?_; rintro e w1 ⟨rfl, hb⟩; have hbx : w1.heap[w.heap.size]? = some (.cells #[.int .u32 a0, .int .u32 a1, .int .i64 1, .int .i64 64, .int .i64 0, .int .i64 0, .bool false, .bool false, .string a8] 24 (0, 0)) := blk_below (blk_alloc (blk_new w _) _) hb; have hry : w1.heap[w.heap.size + 1]? = some (.cells #[.int .u32 0, .int .u32 0, .int .i64 0, .int .i64 0, .int .i64 0, .int .i64 0, .bool false, .bool false, .string ⟨#[]⟩] 24 (0, 0)) := blk_below (blk_new' _ _ (by simp)) hb; obtain ⟨hc0, hc1, hc2, hc3, hc4, hc5, hc6, hc7, hc8⟩ := pk_cells hbx; have hwz := blk_lt hry; have hbw : Below w.heap.size w w1 := (((Below.refl _ _).alloc (Nat.le_refl _) _).alloc (by simp) _).trans (hb.mono (by simp; omega)); clear hb hck') | (refine gate_ (.store 24 (.tmp 2) (.tmp 49)) rfl ?_; refine wpList_store_block rfl 24 (.tmp 2) (.tmp 49) rfl rfl _ #[.int .u32 0, .int .u32 0, .int .i64 0, .int .i64 0, .int .i64 0, .int .i64 0, .bool false, .bool false, .string ⟨#[]⟩] rfl rfl rfl hry size24 rfl (pk_one _ _ _ _ _ _ _ _ _) ?_))
    intro w4 hw4 hg4
    go_wp2
    refine bodyPost_ret (results_ctt rfl _ _ (w.heap.size + 1) 24 _ (0, 0) _ rfl hw4 Try.underlying24 rfl size24) rfl ⟨rfl, ?_⟩
    exact hbw.grown hg4 (by omega) (fun k hk => by cases hk; omega)
end Go.Proofs.Ythepnjbefngooaa.H
