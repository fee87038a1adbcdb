/- The walk of CutFewest: it returns true at every input that the row speaks of. No condition. -/
import Derived.Deep.QuietTactic
import Derived.BigQuiet
import Derived.Test.YthepnjbefngooaaHCutAid
namespace Go.Proofs.Ythepnjbefngooaa.H
set_option linter.unusedSimpArgs false
set_option linter.unusedVariables false
open Go Go.RowKit Go.Proofs.YthepnjbefngooaaW.PrintWords Go.Proofs.YthepnjbefngooaaW.PrintLast Go.Proofs.YthepnjbefngooaaW.PrintMore Go.Proofs.Ythepnjbefngooaa.Plain

/-- With a greater limit, and a body that is not longer, there are not more pieces. -/
theorem pieces_fewer {l1 l2 : Nat} (h8 : 8 ≤ l1) (hl : l1 ≤ l2) (m1 m2 : Bool) : ∀ (d1 d2 : Nat) (o1 o2 : Int) (b1 b2 : ByteArray), b1.size ≤ d1 → b2.size ≤ d2 → b2.size ≤ b1.size → (pieces l2 m2 d2 o2 b2).length ≤ (pieces l1 m1 d1 o1 b1).length
  | d1, 0, o1, o2, b1, b2, _, _, _ => by
    have := pieces_pos l1 m1 d1 o1 b1
    simp only [pieces, List.length_singleton]; omega
  | 0, d2 + 1, o1, o2, b1, b2, h1, _, h => by
    unfold pieces
    rw [if_pos (by omega)]
    simp
  | d1 + 1, d2 + 1, o1, o2, b1, b2, h1, h2, h => by
    by_cases c2 : b2.size ≤ l2
    · have := pieces_pos l1 m1 (d1 + 1) o1 b1
      unfold pieces at this ⊢
      rw [if_pos c2]
      simp only [List.length_singleton]; omega
    · have e1 := size_ext b1 (l1 / 8 * 8) b1.size
      have e2 := size_ext b2 (l2 / 8 * 8) b2.size
      unfold pieces
      rw [if_neg c2, if_neg (by omega)]
      have := pieces_fewer h8 hl m1 m2 d1 d2 (o1 + (l1 / 8 * 8 : Nat)) (o2 + (l2 / 8 * 8 : Nat)) (b1.extract (l1 / 8 * 8) b1.size) (b2.extract (l2 / 8 * 8) b2.size) (by omega) (by omega) (by omega)
      simp only [List.length_cons]; omega
theorem pieces_single (l : Nat) (m : Bool) (d : Nat) (o : Int) (b : ByteArray) (hd : b.size ≤ d) (hl : 8 ≤ l) : (pieces l m d o b).length = 1 ↔ b.size ≤ l := by
  cases d with
  | zero => simp [pieces]; omega
  | succ d =>
    unfold pieces
    split
    · simp_all
    · have := pieces_pos l m d (o + (l / 8 * 8 : Nat)) (b.extract (l / 8 * 8) b.size)
      simp only [List.length_cons]
      constructor
      · intro h; omega
      · intro h; omega

set_option maxHeartbeats 1000000 in
theorem count_calls (a0 a1 a2 a3 a4 a5 : Int) (a6 a7 : Bool) (a8 : ByteArray) (n : Int) (hv : wrongv a2 a3 a4 a5 a6 a7 a8.size n = 0) (hn : 28 ≤ n) (hn' : n ≤ 1520) (hs : a8.size ≤ 1500) (h5 : 0 ≤ a5) (h5' : a5 ≤ 65528) (w : World) :
    Calls Try.prog 15 #[.agg #[.int .u32 a0, .int .u32 a1, .int .i64 a2, .int .i64 a3, .int .i64 a4, .int .i64 a5, .bool a6, .bool a7, .string a8], .int .i64 n] w fun e w' =>
      e = .returned (.tuple #[.int .i64 ((pieces (n - 20).toNat a6 a8.size a5 a8).length : Int), .int .i64 0]) ∧ Below w.heap.size w w' := by
  have hc := fun W => cut_calls a0 a1 a2 a3 a4 a5 a6 a7 a8 n hv hn hn' hs h5 h5' W
  have hpp := pieces_pos (n - 20).toNat a6 a8.size a5 a8
  generalize pieces (n - 20).toNat a6 a8.size a5 a8 = L at hc hpp ⊢
  clear hv
  go_enter Try.func15, Try.ntmps15
  go_wp2_with (go_at_call 14; refine (hc _).mono ?_; rintro e w1 ⟨v, rfl, hown, hb⟩; obtain ⟨g, cap, rfl, hg, hgl, hr⟩ := own_read hown rfl hpp)
  go_ret2
  exact ⟨rfl, ((Below.refl _ _).alloc (Nat.le_refl _) _).trans (hb.mono (by simp))⟩

set_option maxHeartbeats 4000000 in
set_option maxRecDepth 100000 in
theorem cutFewest_calls (a0 a1 a2 a3 a4 a5 : Int) (a6 a7 : Bool) (a8 : ByteArray) (one two : Int) (w : World) :
    Calls Try.prog 4 #[.agg #[.int .u32 a0, .int .u32 a1, .int .i64 a2, .int .i64 a3, .int .i64 a4, .int .i64 a5, .bool a6, .bool a7, .string a8], .int .i64 one, .int .i64 two] w fun e w' => e = .returned (.bool true) ∧ Below w.heap.size w w' := by
  go_enter Try.func4, Try.ntmps4
  go_wp2_with (first | (go_at_call 12; refine (lives_calls _).mono ?_; rintro e w1 ⟨rfl, hb⟩; obtain ⟨hc, hf⟩ := bcell hb) | (go_at_call 13; refine (entire_calls _ _ _ _ _ _ _ _ _ _ (by decide) _).mono ?_; rintro e w2 ⟨rfl, o1, o2, o3, o4, rfl⟩) | (refine gate_ (.store 24 (.tmp 3) (.tmp 16)) rfl ?_; refine wpList_store_block rfl 24 (.tmp 3) (.tmp 16) rfl rfl _ #[.int .u32 a0, .int .u32 a1, .int .i64 (a2 % 256), .int .i64 (a3 % 128 + 1), .int .i64 (a4 % 65536), .int .i64 0, .bool false, .bool false, .string (beg a8 80)] rfl rfl rfl (blk_alloc (blk_alloc (blk_alloc (blk_alloc (blk_below (blk_new w _) hb) o1) o2) o3) o4) size24 rfl (pk_one _ _ _ _ _ _ _ _ _) ?_))
  intro w2 hbx hg
  have hbw : Below w.heap.size w w2 := (((((((Below.refl _ _).alloc (Nat.le_refl _) _).trans (hb.mono (by simp))).alloc (by have := hb.size; simp at this; omega) o1).alloc (by have := hb.size; simp at this ⊢; omega) o2).alloc (by have := hb.size; simp at this ⊢; omega) o3).alloc (by have := hb.size; simp at this ⊢; omega) o4).grown hg (by have := hb.size; simp at this ⊢; omega) (fun k hk => by cases hk; exact Nat.le_refl _)
  clear hg hb hc hf
  obtain ⟨hc0, hc1, hc2, hc3, hc4, hc5, hc6, hc7, hc8⟩ := pk_cells hbx
  obtain ⟨n1, e1, k1, k1'⟩ := lim_of one 80 (by decide) (by decide)
  obtain ⟨n2, e2, k2, k2'⟩ := lim_of two 80 (by decide) (by decide)
  have hbs : (beg a8 80).size ≤ 80 := by rw [beg_size]; omega
  generalize beg a8 80 = body at hbx hc8 hbs ⊢
  have hok : OkPiece 80 (0, false, body) := ⟨Int.le_refl _, rfl, by simp only; omega, (fun h => by cases h), (fun h => by rcases h with h | h; (cases h); (simp only at h; omega))⟩
  have r2 : 0 ≤ a2 % 256 ∧ a2 % 256 ≤ 255 := by omega
  have r3 : 1 ≤ a3 % 128 + 1 ∧ a3 % 128 + 1 ≤ 255 := by omega
  have r4 : 0 ≤ a4 % 65536 ∧ a4 % 65536 ≤ 65535 := by omega
  generalize a2 % 256 = b2 at r2 hbx hc2 ⊢
  generalize a3 % 128 + 1 = b3 at r3 hbx hc3 ⊢
  generalize a4 % 65536 = b4 at r4 hbx hc4 ⊢
  have hwz := blk_lt hbx
  have hcl : ∀ n : Int, 28 ≤ n → n ≤ 1520 → ∀ W, Calls Try.prog 15 #[.agg #[.int .u32 a0, .int .u32 a1, .int .i64 b2, .int .i64 b3, .int .i64 b4, .int .i64 0, .bool false, .bool false, .string body], .int .i64 n] W fun e w' =>
      ∃ c : Int, (c = ((pieces (n - 20).toNat false body.size 0 body).length : Int)) ∧ e = .returned (.tuple #[.int .i64 c, .int .i64 0]) ∧ Below W.heap.size W w' :=
    fun n h1 h2 W => (count_calls a0 a1 b2 b3 b4 0 false false body n (wrong_ok r2 r3 r4 hok (by omega) h1 h2) h1 h2 (by omega) (by omega) (by omega) W).mono fun e w' ⟨he, hw⟩ => ⟨_, rfl, he, hw⟩
  have hfew : ∀ n m : Int, 28 ≤ n → n ≤ m → (pieces (m - 20).toNat false body.size 0 body).length ≤ (pieces (n - 20).toNat false body.size 0 body).length :=
    fun n m h1 h2 => pieces_fewer (by omega) (by omega) false false body.size body.size 0 0 body body (Nat.le_refl _) (Nat.le_refl _) (Nat.le_refl _)
  have hone : ∀ n : Int, 28 ≤ n → ((pieces (n - 20).toNat false body.size 0 body).length = 1 ↔ 20 + (body.size : Int) ≤ n) :=
    fun n h1 => (pieces_single _ false body.size 0 body (Nat.le_refl _) (by omega)).trans (by omega)
  by_cases hle : n2 < n1
  · -- the smaller limit is the second one
    have C1 := hcl n2 (by omega) (by omega)
    have C2 := hcl n1 (by omega) (by omega)
    have F1 := hfew n2 n1 (by omega) (by omega)
    have F2 := hone n2 (by omega)
    generalize ((pieces (n2 - 20).toNat false body.size 0 body).length) = p1 at C1 F1 F2
    generalize ((pieces (n1 - 20).toNat false body.size 0 body).length) = p2 at C2 F1
    clear hcl hfew hone hok hbx
    by_cases hfit : 20 + (body.size : Int) ≤ n2
    · obtain rfl : p1 = 1 := F2.mpr hfit
      clear F2
      have F3 : ((p2 : Nat) : Int) ≤ 1 := by omega
      go_wp2_with (go_at_call 15; first | ((with_reducible refine (C1 _).mono ?_); rintro e w3 ⟨c1, rfl, rfl, hb1⟩; obtain ⟨hcc1, hcf1⟩ := bcell hb1; rw [← hcc1 _ _ hwz] at hc0 hc1 hc2 hc3 hc4 hc5 hc6 hc7 hc8; clear C1 hcc1 hcf1) | ((with_reducible refine (C2 _).mono ?_); rintro e w4 ⟨c2, rfl, rfl, hb2⟩; obtain ⟨hcc2, hcf2⟩ := bcell hb2; have hwz2 := Nat.lt_of_lt_of_le hwz hb1.size; rw [← hcc2 _ _ hwz2] at hc0 hc1 hc2 hc3 hc4 hc5 hc6 hc7 hc8; clear hcc2 hcf2 C2))
      go_ret
      exact ⟨rfl, (hbw.trans (hb1.mono hbw.size)).trans (hb2.mono (by have := hbw.size; have := hb1.size; omega))⟩
    · have hne : p1 ≠ 1 := fun h => hfit (F2.mp h)
      have hne' : (((p1 : Nat) : Int) == 1) = false := beq_eq_false_iff_ne.mpr (by omega)
      have F3 : ((p2 : Nat) : Int) ≤ p1 := by omega
      have hd := decide_eq_false hfit
      clear F2 hne
      go_wp2_with (go_at_call 15; first | ((with_reducible refine (C1 _).mono ?_); rintro e w3 ⟨c1, rfl, rfl, hb1⟩; obtain ⟨hcc1, hcf1⟩ := bcell hb1; rw [← hcc1 _ _ hwz] at hc0 hc1 hc2 hc3 hc4 hc5 hc6 hc7 hc8; clear C1 hcc1 hcf1) | ((with_reducible refine (C2 _).mono ?_); rintro e w4 ⟨c2, rfl, rfl, hb2⟩; obtain ⟨hcc2, hcf2⟩ := bcell hb2; have hwz2 := Nat.lt_of_lt_of_le hwz hb1.size; rw [← hcc2 _ _ hwz2] at hc0 hc1 hc2 hc3 hc4 hc5 hc6 hc7 hc8; clear hcc2 hcf2 C2))
      go_ret
      exact ⟨rfl, (hbw.trans (hb1.mono hbw.size)).trans (hb2.mono (by have := hbw.size; have := hb1.size; omega))⟩
  · by_cases heq : n1 = n2
    · -- both limits are the same
      subst heq
      have C1 := hcl n1 (by omega) (by omega)
      have C2 := hcl n1 (by omega) (by omega)
      have F1 := hfew n1 n1 (by omega) (by omega)
      have F2 := hone n1 (by omega)
      generalize ((pieces (n1 - 20).toNat false body.size 0 body).length) = p1 at C1 C2 F1 F2
      clear hcl hfew hone hok hbx
      by_cases hfit : 20 + (body.size : Int) ≤ n1
      · obtain rfl : p1 = 1 := F2.mpr hfit
        clear F2
        go_wp2_with (go_at_call 15; first | ((with_reducible refine (C1 _).mono ?_); rintro e w3 ⟨c1, rfl, rfl, hb1⟩; obtain ⟨hcc1, hcf1⟩ := bcell hb1; rw [← hcc1 _ _ hwz] at hc0 hc1 hc2 hc3 hc4 hc5 hc6 hc7 hc8; clear C1 hcc1 hcf1) | ((with_reducible refine (C2 _).mono ?_); rintro e w4 ⟨c2, rfl, rfl, hb2⟩; obtain ⟨hcc2, hcf2⟩ := bcell hb2; have hwz2 := Nat.lt_of_lt_of_le hwz hb1.size; rw [← hcc2 _ _ hwz2] at hc0 hc1 hc2 hc3 hc4 hc5 hc6 hc7 hc8; clear hcc2 hcf2 C2))
        go_ret
        exact ⟨rfl, (hbw.trans (hb1.mono hbw.size)).trans (hb2.mono (by have := hbw.size; have := hb1.size; omega))⟩
      · have hne : p1 ≠ 1 := fun h => hfit (F2.mp h)
        have hne' : (((p1 : Nat) : Int) == 1) = false := beq_eq_false_iff_ne.mpr (by omega)
        have hd := decide_eq_false hfit
        clear F2 hne
        go_wp2_with (go_at_call 15; first | ((with_reducible refine (C1 _).mono ?_); rintro e w3 ⟨c1, rfl, rfl, hb1⟩; obtain ⟨hcc1, hcf1⟩ := bcell hb1; rw [← hcc1 _ _ hwz] at hc0 hc1 hc2 hc3 hc4 hc5 hc6 hc7 hc8; clear C1 hcc1 hcf1) | ((with_reducible refine (C2 _).mono ?_); rintro e w4 ⟨c2, rfl, rfl, hb2⟩; obtain ⟨hcc2, hcf2⟩ := bcell hb2; have hwz2 := Nat.lt_of_lt_of_le hwz hb1.size; rw [← hcc2 _ _ hwz2] at hc0 hc1 hc2 hc3 hc4 hc5 hc6 hc7 hc8; clear hcc2 hcf2 C2))
        go_ret
        exact ⟨rfl, (hbw.trans (hb1.mono hbw.size)).trans (hb2.mono (by have := hbw.size; have := hb1.size; omega))⟩

    · -- the smaller limit is the first one
      have hlt12 : n1 < n2 := by omega
      have C1 := hcl n1 (by omega) (by omega)
      have C2 := hcl n2 (by omega) (by omega)
      have F1 := hfew n1 n2 (by omega) (by omega)
      have F2 := hone n1 (by omega)
      generalize ((pieces (n1 - 20).toNat false body.size 0 body).length) = p1 at C1 F1 F2
      generalize ((pieces (n2 - 20).toNat false body.size 0 body).length) = p2 at C2 F1
      clear hcl hfew hone hok hbx
      by_cases hfit : 20 + (body.size : Int) ≤ n1
      · obtain rfl : p1 = 1 := F2.mpr hfit
        clear F2
        have F3 : ((p2 : Nat) : Int) ≤ 1 := by omega
        go_wp2_with (go_at_call 15; first | ((with_reducible refine (C1 _).mono ?_); rintro e w3 ⟨c1, rfl, rfl, hb1⟩; obtain ⟨hcc1, hcf1⟩ := bcell hb1; rw [← hcc1 _ _ hwz] at hc0 hc1 hc2 hc3 hc4 hc5 hc6 hc7 hc8; clear C1 hcc1 hcf1) | ((with_reducible refine (C2 _).mono ?_); rintro e w4 ⟨c2, rfl, rfl, hb2⟩; obtain ⟨hcc2, hcf2⟩ := bcell hb2; have hwz2 := Nat.lt_of_lt_of_le hwz hb1.size; rw [← hcc2 _ _ hwz2] at hc0 hc1 hc2 hc3 hc4 hc5 hc6 hc7 hc8; clear hcc2 hcf2 C2))
        go_ret
        exact ⟨rfl, (hbw.trans (hb1.mono hbw.size)).trans (hb2.mono (by have := hbw.size; have := hb1.size; omega))⟩
      · have hne : p1 ≠ 1 := fun h => hfit (F2.mp h)
        have hne' : (((p1 : Nat) : Int) == 1) = false := beq_eq_false_iff_ne.mpr (by omega)
        have F3 : ((p2 : Nat) : Int) ≤ p1 := by omega
        have hd := decide_eq_false hfit
        clear F2 hne
        go_wp2_with (go_at_call 15; first | ((with_reducible refine (C1 _).mono ?_); rintro e w3 ⟨c1, rfl, rfl, hb1⟩; obtain ⟨hcc1, hcf1⟩ := bcell hb1; rw [← hcc1 _ _ hwz] at hc0 hc1 hc2 hc3 hc4 hc5 hc6 hc7 hc8; clear C1 hcc1 hcf1) | ((with_reducible refine (C2 _).mono ?_); rintro e w4 ⟨c2, rfl, rfl, hb2⟩; obtain ⟨hcc2, hcf2⟩ := bcell hb2; have hwz2 := Nat.lt_of_lt_of_le hwz hb1.size; rw [← hcc2 _ _ hwz2] at hc0 hc1 hc2 hc3 hc4 hc5 hc6 hc7 hc8; clear hcc2 hcf2 C2))
        go_ret
        exact ⟨rfl, (hbw.trans (hb1.mono hbw.size)).trans (hb2.mono (by have := hbw.size; have := hb1.size; omega))⟩

end Go.Proofs.Ythepnjbefngooaa.H
