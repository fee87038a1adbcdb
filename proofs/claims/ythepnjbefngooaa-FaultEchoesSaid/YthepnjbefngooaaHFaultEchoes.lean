/- The walk of FaultEchoes. Conditions: the addresses are uint32, which the row gives. -/
import Derived.Test.YthepnjbefngooaaHEchoPlain
import Derived.Test.YthepnjbefngooaaHReadYes
import Derived.Test.YthepnjbefngooaaHFaultQuotes
namespace Go.Proofs.Ythepnjbefngooaa.H
set_option linter.unusedSimpArgs false
set_option linter.unusedVariables false
open Go Go.RowKit Go.Proofs.YthepnjbefngooaaW.PrintWords Go.Proofs.YthepnjbefngooaaW.PrintLast Go.Proofs.YthepnjbefngooaaW.PrintMore Go.Proofs.Ythepnjbefngooaa.Plain

theorem and_any65535 (x : Int) : bits .and .i64 x 65535 = x % 65536 := by
  have h := bits_and_nat .i64 x 65535 (by decide)
  rw [show (65535 : Nat) = 2 ^ 16 - 1 by rfl, Nat.and_two_pow_sub_one_eq_mod, IntKind.wrap_i64] at h
  simp only [IntKind.bits] at h
  exact h.trans (by omega)

set_option maxHeartbeats 8000000 in
set_option maxRecDepth 100000 in
theorem faultEchoes_calls (src dst id0 seq0 : Int) (s0 : ByteArray) (h0 : 0 ≤ src ∧ src ≤ 4294967295) (h1 : 0 ≤ dst ∧ dst ≤ 4294967295) (w : World) :
    Calls Try.prog 11 #[.int .u32 src, .int .u32 dst, .int .i64 id0, .int .i64 seq0, .string s0] w fun e w' => e = .returned (.bool true) ∧ Below w.heap.size w w' := by
  have fi := and_any65535 id0
  have fs := and_any65535 seq0
  have ri : 0 ≤ id0 % 65536 ∧ id0 % 65536 ≤ 65535 := by omega
  have rs : 0 ≤ seq0 % 65536 ∧ seq0 % 65536 ≤ 65535 := by omega
  have hbs : (beg s0 40).size ≤ 40 := by rw [beg_size]; omega
  have hbeg0 : ∀ W, Calls Try.prog 17 #[.string s0, .int .i64 40] W fun e w' => e = .returned (.string (beg s0 40)) ∧ w' = W := fun W => (begin_calls s0 40 (by decide) W).mono fun e w' h => ⟨h.1, h.2.symm⟩
  generalize beg s0 40 = s at hbs hbeg0
  generalize id0 % 65536 = id at fi ri
  generalize seq0 % 65536 = seq at fs rs
  have hbeg : ∀ W, Calls Try.prog 17 #[.string s, .int .i64 8] W fun e w' => e = .returned (.string (beg s 8)) ∧ w' = W := fun W => (begin_calls s 8 (by decide) W).mono fun e w' h => ⟨h.1, h.2.symm⟩
  have hec := fun W => echo_calls src dst id seq s ri rs hbs W
  have hEz := echo_size (id / 256) (id % 256) (seq / 256) (seq % 256) s
  have hE8 := echo_first (id / 256) (id % 256) (seq / 256) (seq % 256) s
  by_cases hu : uni src = true ∧ uni dst = true
  · have hA := fun W => answer_yes src dst (echoHead (id / 256) (id % 256) (seq / 256) (seq % 256) ++ s) h0 h1 (by omega) (by omega) hE8 hu.1 hu.2 W
    have hAz := ans_size (id / 256) (id % 256) (seq / 256) (seq % 256) s
    have hA9 := ans_first (id / 256) (id % 256) (seq / 256) (seq % 256) s
    have hp := fun W => reply_yes dst src (ansBody (id / 256) (id % 256) (seq / 256) (seq % 256) s) (beg s 8) (id / 256) (id % 256) (seq / 256) (seq % 256) id seq (by omega) (by omega) hA9
      (ans_b4 _ _ _ _ _ (by omega) (by omega)) (ans_b5 _ _ _ _ _ (by omega) (by omega)) (ans_b6 _ _ _ _ _ (by omega) (by omega)) (ans_b7 _ _ _ _ _ (by omega) (by omega))
      (by omega) (by omega) (by omega) (by omega) ((or_plain (by omega) (by omega) (by omega) (by omega)).trans (by omega)) ((or_plain (by omega) (by omega) (by omega) (by omega)).trans (by omega)) (ans_rest _ _ _ _ _) W
    have hrd := fun W => read_yes dst src (ansBody (id / 256) (id % 256) (seq / 256) (seq % 256) s) (beg s 8) id seq (by omega) (by omega) hp W
    have hN := fun W => answer_no dst src (ansBody (id / 256) (id % 256) (seq / 256) (seq % 256) s) h1 h0 (by omega) (by omega) (.inl (by rw [hA9]; decide)) W
    change ∀ W, Calls Try.prog 27 #[_] W fun e w' => e = .returned (.tuple #[.agg #[.int .u32 dst, .int .u32 src, .int .i64 1, .int .i64 64, .int .i64 0, .int .i64 0, .bool false, .bool false, .string (ansBody (id / 256) (id % 256) (seq / 256) (seq % 256) s)], .bool true, .int .i64 0]) ∧ Below W.heap.size W w' at hA
    generalize ansBody (id / 256) (id % 256) (seq / 256) (seq % 256) s = A at *
    generalize echoHead (id / 256) (id % 256) (seq / 256) (seq % 256) ++ s = E at *
    generalize beg s 8 = B at *
    clear hp hA9 hAz hE8 hEz hu
    go_enter Try.func11, Try.ntmps11
    go_wp2_with (first | (go_at_call 20; refine (faultLives_calls _).mono ?_; rintro e w1 ⟨rfl, hb⟩) | (go_at_call 17; refine (hbeg0 _).mono ?_; rintro e w2 ⟨rfl, rfl⟩) | (go_at_call 26; refine (hec _).mono ?_; rintro e w3 ⟨rfl, hb3⟩; clear hec) | (go_at_call 27; refine (hA _).mono ?_; rintro e w4 ⟨rfl, hb4⟩; clear hA) | (go_at_call 25; refine (hrd _).mono ?_; rintro e w5 ⟨rfl, hb5⟩; have hbx : w5.heap[w4.heap.size]? = some (.cells #[.int .u32 dst, .int .u32 src, .int .i64 1, .int .i64 64, .int .i64 0, .int .i64 0, .bool false, .bool false, .string A] 24 (0, 0)) := blk_below (blk_new w4 _) hb5; obtain ⟨hc0, hc1, hc2, hc3, hc4, hc5, hc6, hc7, hc8⟩ := pk_cells hbx; have hwz := blk_lt hbx; clear hrd) | (go_at_call 27; refine (hN _).mono ?_; rintro e w6 ⟨rfl, hb6⟩; clear hN))
    have z1 := hb.size
    have z3 := hb3.size
    have z4 := hb4.size
    have z5 := hb5.size
    have z6 := hb6.size
    simp only [World.size_alloc] at z3 z4 z5 z6
    have X3 := blk_alloc (blk_below (blk_new w5 (.cells #[.int .i64 9, .int .u32 dst, .int .u32 src, .int .i64 1, .int .i64 id, .int .i64 seq, .string B] 51 (0, 0))) hb6) (.cells #[.int .u32 0, .int .u32 0, .int .i64 0, .int .i64 0, .int .i64 0, .int .i64 0, .bool false, .bool false, .string ⟨#[]⟩] 24 (0, 0))
    have X4 : Below w.heap.size w (w6.alloc (.cells #[.int .u32 0, .int .u32 0, .int .i64 0, .int .i64 0, .int .i64 0, .int .i64 0, .bool false, .bool false, .string ⟨#[]⟩] 24 (0, 0))) := (((((((hb.trans (hb3.mono (by omega))).alloc (by omega) _).trans (hb4.mono (by simp; omega))).alloc (by omega) _).trans (hb5.mono (by simp; omega))).alloc (by omega) _).trans (hb6.mono (by simp; omega))).alloc (by omega) _
    generalize w6.alloc (.cells #[.int .u32 0, .int .u32 0, .int .i64 0, .int .i64 0, .int .i64 0, .int .i64 0, .bool false, .bool false, .string ⟨#[]⟩] 24 (0, 0)) = W7 at X3 X4 ⊢
    generalize w5.heap.size = g5 at X3 ⊢
    clear hc0 hc1 hc2 hc3 hc4 hc5 hc6 hc7 hc8 hwz hbx hb hb3 hb4 hb5 hb6 z1 z3 z4 z5 z6
    obtain ⟨e0, e1, e2, e3, e4, e5, e6⟩ := note_cells X3
    have hbegQ : ∀ W, Calls Try.prog 17 #[.string s, .int .i64 8] W fun e w' => e = .returned (.string B) ∧ ∃ m, w' = W.drewN m := fun W => (hbeg W).mono fun e w' h => ⟨h.1, 0, h.2⟩
    go_quiet ((first | (go_at_call 17; exact Calls.quiet_of (hbegQ _))))
    go_wp2
    go_ret
    exact ⟨rfl, pw_below_drewN X4 nq⟩
  · have hu' : uni src = false ∨ uni dst = false := by
      cases h : uni src
      · exact .inl rfl
      · cases h' : uni dst
        · exact .inr rfl
        · exact absurd ⟨h, h'⟩ hu
    have hN := fun W => answer_no src dst (echoHead (id / 256) (id % 256) (seq / 256) (seq % 256) ++ s) h0 h1 (by omega) (by omega) (.inr hu') W
    generalize echoHead (id / 256) (id % 256) (seq / 256) (seq % 256) ++ s = E at *
    clear hE8 hEz hu hu'
    go_enter Try.func11, Try.ntmps11
    go_wp2_with (first | (go_at_call 20; refine (faultLives_calls _).mono ?_; rintro e w1 ⟨rfl, hb⟩) | (go_at_call 17; refine (hbeg0 _).mono ?_; rintro e w2 ⟨rfl, rfl⟩) | (go_at_call 26; refine (hec _).mono ?_; rintro e w3 ⟨rfl, hb3⟩; clear hec) | (go_at_call 27; refine (hN _).mono ?_; rintro e w4 ⟨rfl, hb4⟩; clear hN))
    go_ret
    have z1 := hb.size
    have z3 := hb3.size
    have z4 := hb4.size
    simp only [World.size_alloc] at z3 z4
    exact ⟨rfl, (((hb.trans (hb3.mono (by omega))).alloc (by omega) _).trans (hb4.mono (by simp; omega))).alloc (by omega) _⟩
end Go.Proofs.Ythepnjbefngooaa.H
