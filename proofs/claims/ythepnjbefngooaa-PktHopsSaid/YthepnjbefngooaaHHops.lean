/- The walks of pkt.Hop and of PktHops: it returns true at every input that the row speaks of. No condition. -/
import Derived.Deep.QuietTactic
import Derived.BigQuiet
import Derived.IntWalk
import Derived.Test.YthepnjbefngooaaHCutAid
import Derived.Test.YthepnjbefngooaaPPktOrderx3
namespace Go.Proofs.Ythepnjbefngooaa.H
set_option linter.unusedSimpArgs false
set_option linter.unusedVariables false
open Go Go.RowKit Go.Proofs.YthepnjbefngooaaW.PrintWords Go.Proofs.YthepnjbefngooaaW.PrintLast Go.Proofs.YthepnjbefngooaaW.PrintMore Go.Proofs.Ythepnjbefngooaa.Plain

theorem pktLives_calls (w : World) : Calls Try.prog 16 #[] w fun e w' => e = .returned (.bool true) ∧ Below w.heap.size w w' :=
  PPktOrder.patchbaykeep2_pktLives.calls 40 true w (by kernel_rfl)

theorem blk_new' (w : World) (o : Obj) {g : Nat} (h : g = w.heap.size) : (w.alloc o).heap[g]? = some o := h ▸ blk_new w o
set_option maxHeartbeats 1000000 in
theorem hop_calls (a0 a1 a2 a3 a4 a5 : Int) (a6 a7 : Bool) (a8 : ByteArray) (hs : a8.size ≤ 1500) (hc : checkv a2 a3 a4 a5 a6 a7 a8.size = 0) (h3 : 2 ≤ a3) (h3' : a3 ≤ 255) (w : World) :
    Calls Try.prog 19 #[.agg #[.int .u32 a0, .int .u32 a1, .int .i64 a2, .int .i64 a3, .int .i64 a4, .int .i64 a5, .bool a6, .bool a7, .string a8]] w fun e w' => e = .returned (.tuple #[.agg #[.int .u32 a0, .int .u32 a1, .int .i64 a2, .int .i64 (a3 - 1), .int .i64 a4, .int .i64 a5, .bool a6, .bool a7, .string a8], .int .i64 0]) ∧ Below w.heap.size w w' := by
  have hck := fun W => check_calls a0 a1 a2 a3 a4 a5 a6 a7 a8 (by omega) W
  rw [hc] at hck
  clear hc
  go_enter Try.func19, Try.ntmps19
  go_wp2_with (first | (go_at_call 30; refine (hck _).mono ?_; rintro e w1 ⟨rfl, hb⟩; have hbx : w1.heap[w.heap.size]? = some (.cells #[.int .u32 a0, .int .u32 a1, .int .i64 a2, .int .i64 a3, .int .i64 a4, .int .i64 a5, .bool a6, .bool a7, .string a8] 24 (0, 0)) := blk_below (blk_alloc (blk_new w _) _) hb; have hry : w1.heap[w.heap.size + 1]? = some (.cells #[.int .u32 0, .int .u32 0, .int .i64 0, .int .i64 0, .int .i64 0, .int .i64 0, .bool false, .bool false, .string ⟨#[]⟩] 24 (0, 0)) := blk_below (blk_new' _ _ (by simp)) hb; obtain ⟨hc0, hc1, hc2, hc3, hc4, hc5, hc6, hc7, hc8⟩ := pk_cells hbx; have hfz := fun j => blk_frozen hbx j; have hbw : Below w.heap.size w w1 := (((Below.refl _ _).alloc (Nat.le_refl _) _).alloc (by simp) _).trans (hb.mono (by simp; omega)); clear hb hbx) | (refine gate_ (.store 24 (.tmp 2) (.tmp 19)) rfl ?_; refine wpList_store_block rfl 24 (.tmp 2) (.tmp 19) rfl rfl _ #[.int .u32 a0, .int .u32 a1, .int .i64 a2, .int .i64 (a3 - 1), .int .i64 a4, .int .i64 a5, .bool a6, .bool a7, .string a8] rfl rfl rfl (blk_far hry (by simp) _) size24 rfl (pk_one _ _ _ _ _ _ _ _ _) ?_))
  intro w2 hw2 hg
  go_wp2
  refine bodyPost_ret (results_ct rfl _ _ (w.heap.size + 1) 24 _ (0, 0) _ rfl hw2 Try.underlying24 rfl size24) rfl ⟨rfl, ?_⟩
  exact (hbw.setCell (Nat.le_refl _) _).grown hg (by have := hbw.size; simp [World.setCell]; omega) (fun k hk => by cases hk; omega)

/-- A packet's first hop too many. -/
theorem hop_last (a0 a1 a2 a4 a5 : Int) (a6 a7 : Bool) (a8 : ByteArray) (hs : a8.size ≤ 1500) (hc : checkv a2 1 a4 a5 a6 a7 a8.size = 0) (w : World) :
    Calls Try.prog 19 #[.agg #[.int .u32 a0, .int .u32 a1, .int .i64 a2, .int .i64 1, .int .i64 a4, .int .i64 a5, .bool a6, .bool a7, .string a8]] w fun e w' => e = .returned (.tuple #[.agg #[.int .u32 0, .int .u32 0, .int .i64 0, .int .i64 0, .int .i64 0, .int .i64 0, .bool false, .bool false, .string ⟨#[]⟩], .int .i64 16]) ∧ Below w.heap.size w w' := by
  have hck := fun W => check_calls a0 a1 a2 1 a4 a5 a6 a7 a8 (by omega) W
  rw [hc] at hck
  clear hc
  go_enter Try.func19, Try.ntmps19
  go_wp2_with (first | (go_at_call 30; refine (hck _).mono ?_; rintro e w1 ⟨rfl, hb⟩; have hbx : w1.heap[w.heap.size]? = some (.cells #[.int .u32 a0, .int .u32 a1, .int .i64 a2, .int .i64 1, .int .i64 a4, .int .i64 a5, .bool a6, .bool a7, .string a8] 24 (0, 0)) := blk_below (blk_alloc (blk_new w _) _) hb; have hry : w1.heap[w.heap.size + 1]? = some (.cells #[.int .u32 0, .int .u32 0, .int .i64 0, .int .i64 0, .int .i64 0, .int .i64 0, .bool false, .bool false, .string ⟨#[]⟩] 24 (0, 0)) := blk_below (blk_new' _ _ (by simp)) hb; obtain ⟨hc0, hc1, hc2, hc3, hc4, hc5, hc6, hc7, hc8⟩ := pk_cells hbx; have hfz := fun j => blk_frozen hbx j; have hbw : Below w.heap.size w w1 := (((Below.refl _ _).alloc (Nat.le_refl _) _).alloc (by simp) _).trans (hb.mono (by simp; omega)); clear hb hbx) | (refine gate_ (.store 24 (.tmp 2) (.tmp 14)) rfl ?_; refine wpList_store_block rfl 24 (.tmp 2) (.tmp 14) rfl rfl _ #[.int .u32 0, .int .u32 0, .int .i64 0, .int .i64 0, .int .i64 0, .int .i64 0, .bool false, .bool false, .string ⟨#[]⟩] rfl rfl rfl hry size24 rfl (pk_one _ _ _ _ _ _ _ _ _) ?_))
  intro w2 hw2 hg
  go_wp2
  refine bodyPost_ret (results_ct rfl _ _ (w.heap.size + 1) 24 _ (0, 0) _ rfl hw2 Try.underlying24 rfl size24) rfl ⟨rfl, ?_⟩
  exact hbw.grown hg (by have := hbw.size; omega) (fun k hk => by cases hk; omega)

set_option maxHeartbeats 4000000 in
set_option maxRecDepth 100000 in
theorem pktHops_calls (a0 a1 a2 a3 a4 a5 : Int) (a6 a7 : Bool) (a8 : ByteArray) (w : World) :
    Calls Try.prog 6 #[.agg #[.int .u32 a0, .int .u32 a1, .int .i64 a2, .int .i64 a3, .int .i64 a4, .int .i64 a5, .bool a6, .bool a7, .string a8]] w fun e w' => e = .returned (.bool true) ∧ Below w.heap.size w w' := by
  go_enter Try.func6, Try.ntmps6
  go_wp2_with (first | (go_at_call 16; refine (pktLives_calls _).mono ?_; rintro e w1 ⟨rfl, hb⟩; obtain ⟨hc, hf⟩ := bcell hb) | (go_at_call 13; refine (entire_calls _ _ _ _ _ _ _ _ _ _ (by decide) _).mono ?_; rintro e w2 ⟨rfl, o1, o2, o3, o4, rfl⟩) | (refine gate_ (.store 24 (.tmp 1) (.tmp 11)) rfl ?_; refine wpList_store_block rfl 24 (.tmp 1) (.tmp 11) rfl rfl _ #[.int .u32 a0, .int .u32 a1, .int .i64 (a2 % 256), .int .i64 (a3 % 128 + 1), .int .i64 (a4 % 65536), .int .i64 0, .bool false, .bool false, .string (beg a8 8)] rfl rfl rfl (blk_alloc (blk_alloc (blk_alloc (blk_alloc (blk_below (blk_new w _) hb) o1) o2) o3) o4) size24 rfl (pk_one _ _ _ _ _ _ _ _ _) ?_))
  intro w2 hbx hg
  have hbw : Below w.heap.size w w2 := (((((((Below.refl _ _).alloc (Nat.le_refl _) _).trans (hb.mono (by simp))).alloc (by have := hb.size; simp at this; omega) o1).alloc (by have := hb.size; simp at this ⊢; omega) o2).alloc (by have := hb.size; simp at this ⊢; omega) o3).alloc (by have := hb.size; simp at this ⊢; omega) o4).grown hg (by have := hb.size; simp at this ⊢; omega) (fun k hk => by cases hk; exact Nat.le_refl _)
  clear hg hb hc hf
  obtain ⟨hc0, hc1, hc2, hc3, hc4, hc5, hc6, hc7, hc8⟩ := pk_cells hbx
  have hbs : (beg a8 8).size ≤ 80 := by rw [beg_size]; omega
  generalize beg a8 8 = body at hbx hc8 hbs ⊢
  have hok : OkPiece 80 (0, false, body) := ⟨Int.le_refl _, rfl, by simp only; omega, (fun h => by cases h), (fun h => by rcases h with h | h; (cases h); (simp only at h; omega))⟩
  have r2 : 0 ≤ a2 % 256 ∧ a2 % 256 ≤ 255 := by omega
  have r3 : 1 ≤ a3 % 128 + 1 ∧ a3 % 128 + 1 ≤ 255 := by omega
  have r4 : 0 ≤ a4 % 65536 ∧ a4 % 65536 ≤ 65535 := by omega
  generalize a2 % 256 = b2 at r2 hbx hc2 ⊢
  generalize a3 % 128 + 1 = b3 at r3 hbx hc3 ⊢
  generalize a4 % 65536 = b4 at r4 hbx hc4 ⊢
  have hchk : ∀ t : Int, 1 ≤ t → t ≤ 255 → checkv b2 t b4 0 false false body.size = 0 := fun t h1 h2 => check_ok r2 ⟨h1, h2⟩ r4 hok (by omega) rfl
  go_wp2
  clear hc0 hc1 hc2 hc3 hc4 hc5 hc6 hc7 hc8 hok
  go_loopw [16] (fun i wr => ∃ k : Nat, (k : Int) ≤ b3 - 1 ∧ i = .int .i64 k ∧ wr.heap[w.heap.size]? = some (.cells #[.int .u32 a0, .int .u32 a1, .int .i64 b2, .int .i64 (b3 - k), .int .i64 b4, .int .i64 0, .bool false, .bool false, .string body] 24 (0, 0)) ∧ Below w.heap.size w wr) (fun i _ => 300 - (intOf i).toNat)
  case atStart => exact ⟨0, by omega, rfl, by simpa using hbx, hbw⟩
  case round =>
    clear hbx hbw
    obtain ⟨k, hk, rfl, hbx, hbw⟩ := hrel
    obtain ⟨hc0, hc1, hc2, hc3, hc4, hc5, hc6, hc7, hc8⟩ := pk_cells hbx
    have hfz := fun j => blk_frozen hbx j
    have hwz := blk_lt hbx
    by_cases hlt : (k : Int) < b3 - 1
    · have hh := fun W => hop_calls a0 a1 b2 (b3 - k) b4 0 false false body (by omega) (hchk _ (by omega) (by omega)) (by omega) (by omega) W
      go_wp2_with (first | (go_at_call 19; refine (hh _).mono ?_; rintro e w3 ⟨rfl, hb⟩; obtain ⟨hbc, hbf⟩ := bcell hb; rw [← hbc _ _ hwz] at hc0 hc1 hc2 hc3 hc4 hc5 hc6 hc7 hc8; clear hbc hbf hh; have hwz3 := Nat.lt_of_lt_of_le hwz hb.size) | (refine gate_ (.store 24 (.tmp 1) (.tmp 40)) rfl ?_; refine wpList_store_block rfl 24 (.tmp 1) (.tmp 40) rfl rfl _ #[.int .u32 a0, .int .u32 a1, .int .i64 b2, .int .i64 (b3 - k - 1), .int .i64 b4, .int .i64 0, .bool false, .bool false, .string body] rfl rfl rfl (blk_alloc (blk_below hbx hb) _) size24 rfl (pk_one _ _ _ _ _ _ _ _ _) ?_))
      intro w4 hbx4 hg4
      have hz1 := hbw.size
      have hz2 := hb.size
      have hz3 := Nat.le_trans hz1 hz2
      have hbw4 : Below w.heap.size w w4 := ((hbw.trans (hb.mono hbw.size)).alloc hz3 _).grown hg4 (by simp; omega) (fun k hk => by cases hk; exact Nat.le_refl _)
      clear hc0 hc1 hc2 hc3 hc4 hc5 hc6 hc7 hc8 hfz hg4 hb hz1 hz2 hz3
      go_wp2
      go_roundw
      case rel => exact ⟨k + 1, by omega, by go_num, by rw [show b3 - ((k + 1 : Nat) : Int) = b3 - k - 1 by omega]; exact hbx4, hbw4⟩
      case measure => simp [intOf]; omega
    · have hk' : b3 - k = 1 := by omega
      have hh := fun W => hop_last a0 a1 b2 b4 0 false false body (by omega) (hchk 1 (by omega) (by omega)) W
      rw [hk'] at hc3
      clear hk' hchk
      go_wp2_with (go_at_call 19; refine (hh _).mono ?_; rintro e w3 ⟨rfl, hb⟩)
      go_ret
      exact ⟨rfl, (hbw.trans (hb.mono hbw.size)).alloc (Nat.le_trans hbw.size hb.size) _⟩
end Go.Proofs.Ythepnjbefngooaa.H
