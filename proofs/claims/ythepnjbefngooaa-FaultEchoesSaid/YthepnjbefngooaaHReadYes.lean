/- Walk of fault.Read where the message is a reply. Conditions: sizes that the rows give. -/
import Derived.Test.YthepnjbefngooaaHYes
namespace Go.Proofs.Ythepnjbefngooaa.H
set_option linter.unusedSimpArgs false
set_option linter.unusedVariables false
open Go Go.RowKit Go.Proofs.YthepnjbefngooaaW.PrintWords Go.Proofs.YthepnjbefngooaaW.PrintLast Go.Proofs.YthepnjbefngooaaW.PrintMore Go.Proofs.Ythepnjbefngooaa.Plain

set_option maxHeartbeats 4000000 in
set_option maxRecDepth 100000 in
theorem read_yes (a0 a1 : Int) (a8 B : ByteArray) (id seq : Int) (hs : 8 ≤ a8.size) (hs' : a8.size ≤ 1500)
    (hrep : ∀ W, Calls Try.prog 35 #[.agg #[.int .u32 a0, .int .u32 a1, .int .i64 1, .int .i64 64, .int .i64 0, .int .i64 0, .bool false, .bool false, .string a8]] W fun e w' => e = .returned (.tuple #[.agg #[.int .i64 9, .int .u32 a0, .int .u32 a1, .int .i64 1, .int .i64 id, .int .i64 seq, .string B], .bool true]) ∧ Below W.heap.size W w') (w : World) :
    Calls Try.prog 25 #[.agg #[.int .u32 a0, .int .u32 a1, .int .i64 1, .int .i64 64, .int .i64 0, .int .i64 0, .bool false, .bool false, .string a8]] w fun e w' =>
      e = .returned (.tuple #[.agg #[.int .i64 9, .int .u32 a0, .int .u32 a1, .int .i64 1, .int .i64 id, .int .i64 seq, .string B], .int .i64 0]) ∧ Below w.heap.size w w' := by
  have hck' := fun W => check_calls a0 a1 1 64 0 0 false false a8 (by omega) W
  have hck : checkv 1 64 0 0 false false a8.size = 0 := by
    unfold checkv
    rw [if_neg (by omega), if_neg (by omega), if_neg]
    rintro (h | ⟨h, h'⟩ | ⟨h | h, h'⟩)
    · omega
    · cases h
    · cases h
    · omega
  rw [hck] at hck'
  clear hck
  go_enter Try.func25, Try.ntmps25
  go_wp2_with (first | (go_at_call 30; refine (hck' _).mono ?_; rintro e w1 ⟨rfl, hb⟩; have hbx : w1.heap[w.heap.size]? = some (.cells #[.int .u32 a0, .int .u32 a1, .int .i64 1, .int .i64 64, .int .i64 0, .int .i64 0, .bool false, .bool false, .string a8] 24 (0, 0)) := blk_below (blk_alloc (blk_new w _) _) hb; have hry : w1.heap[w.heap.size + 1]? = some (.cells #[.int .i64 0, .int .u32 0, .int .u32 0, .int .i64 0, .int .i64 0, .int .i64 0, .string ⟨#[]⟩] 51 (0, 0)) := blk_below (blk_new' _ _ (by simp)) hb; obtain ⟨hc0, hc1, hc2, hc3, hc4, hc5, hc6, hc7, hc8⟩ := pk_cells hbx; have hwz := blk_lt hbx; have hbw : Below w.heap.size w w1 := (((Below.refl _ _).alloc (Nat.le_refl _) _).alloc (by simp) _).trans (hb.mono (by simp; omega)); clear hb hck') | (go_at_call 35; refine (hrep _).mono ?_; rintro e w2 ⟨rfl, hb2⟩; clear hc0 hc1 hc2 hc3 hc4 hc5 hc6 hc7 hc8; clear hrep) | (refine gate_ (.store 51 (.tmp 2) (.tmp 23)) rfl ?_; refine wpList_store_block rfl 51 (.tmp 2) (.tmp 23) rfl rfl _ #[.int .i64 9, .int .u32 a0, .int .u32 a1, .int .i64 1, .int .i64 id, .int .i64 seq, .string B] rfl rfl rfl (blk_alloc (blk_below hry hb2) _) size51 rfl (note_one _ _ _ _ _ _ _) ?_))
  intro w4 hw4 hg4
  go_wp2
  have hz2 := hb2.size
  have hlt := blk_lt hry
  refine bodyPost_ret (results_ct rfl _ _ (w.heap.size + 1) 51 _ (0, 0) _ rfl hw4 Try.underlying51 rfl size51) rfl ⟨rfl, ?_⟩
  exact ((hbw.trans (hb2.mono (by omega))).alloc (by omega) _).grown hg4 (by simp; omega) (fun k hk => by cases hk; omega)
end Go.Proofs.Ythepnjbefngooaa.H
