/- The walk of CutCovers: it returns true at every input that the row speaks of. Conditions: the two addresses are uint32, which the row gives. -/
import Derived.Deep.QuietTactic
import Derived.BigQuiet
import Derived.IntWalk
import Derived.Test.YthepnjbefngooaaHCutAid
import Derived.Test.YthepnjbefngooaaHEnc
namespace Go.Proofs.Ythepnjbefngooaa.H
set_option linter.unusedSimpArgs false
set_option linter.unusedVariables false
open Go Go.RowKit Go.Proofs.YthepnjbefngooaaW.PrintWords Go.Proofs.YthepnjbefngooaaW.PrintLast Go.Proofs.YthepnjbefngooaaW.PrintMore Go.Proofs.Ythepnjbefngooaa.Plain

/-- cut.Cut of what it refuses. -/
theorem cut_calls_bad (a0 a1 a2 a3 a4 a5 : Int) (a6 a7 : Bool) (a8 : ByteArray) (n : Int) (hs : a8.size ≤ 140737488351232) (hv : wrongv a2 a3 a4 a5 a6 a7 a8.size n ≠ 0) (w : World) :
    Calls Try.prog 14 #[.agg #[.int .u32 a0, .int .u32 a1, .int .i64 a2, .int .i64 a3, .int .i64 a4, .int .i64 a5, .bool a6, .bool a7, .string a8], .int .i64 n] w fun e w' =>
      ∃ c : Int, c ≠ 0 ∧ e = .returned (.tuple #[.slice none 0 0, .int .i64 c]) ∧ Below w.heap.size w w' := by
  have hwr := fun W => wrong_calls a0 a1 a2 a3 a4 a5 a6 a7 a8 n hs W
  generalize wrongv a2 a3 a4 a5 a6 a7 a8.size n = c at hv hwr
  have h1 : (c == 0) = false := beq_eq_false_iff_ne.mpr hv
  have h2 : (c != 0) = true := bne_iff_ne.mpr hv
  have HV := Lib.hid hv
  clear hv
  go_enter Try.func14, Try.ntmps14
  go_wp2_with (go_at_call 28; refine (hwr _).mono ?_; rintro e w1 ⟨rfl, hb⟩)
  go_ret2
  exact ⟨c, HV.out, rfl, ((Below.refl _ _).alloc (Nat.le_refl _) _).trans (hb.mono (by simp))⟩

theorem wrong_zero {a2 a3 a4 a5 : Int} {a6 a7 : Bool} {s : Nat} {n : Int} (h : wrongv a2 a3 a4 a5 a6 a7 s n = 0) : checkv a2 a3 a4 a5 a6 a7 s = 0 ∧ 28 ≤ n ∧ n ≤ 1520 ∧ (a7 = true → 20 + (s : Int) ≤ n) := by
  unfold wrongv at h
  split at h
  · omega
  split at h
  · omega
  split at h
  · omega
  rename_i c1 c2 c3
  exact ⟨by omega, by omega, by omega, fun h7 => by
    apply Decidable.byContradiction
    intro hn
    exact c3 ⟨h7, by omega⟩⟩

/-- What each piece is: short enough; and if more come, it says so; the last one says what the packet said. -/
def Told (lim : Nat) (more : Bool) : List (Int × Bool × ByteArray) → Prop
  | [] => False
  | [x] => x.2.2.size ≤ lim ∧ x.2.1 = more
  | x :: y :: t => x.2.2.size ≤ lim ∧ x.2.1 = true ∧ Told lim more (y :: t)
theorem told_cons {lim : Nat} {more : Bool} {x : Int × Bool × ByteArray} {l : List (Int × Bool × ByteArray)} (h : Told lim more l) (h1 : x.2.2.size ≤ lim) (h2 : x.2.1 = true) : Told lim more (x :: l) := by
  cases l with
  | nil => exact h.elim
  | cons y t => exact ⟨h1, h2, h⟩
theorem pieces_told (lim : Nat) (more : Bool) : ∀ (d : Nat) (off : Int) (b : ByteArray), b.size ≤ d → 8 ≤ lim → Told lim more (pieces lim more d off b)
  | 0, off, b, h, h8 => ⟨by simp only; omega, rfl⟩
  | d + 1, off, b, h, h8 => by
    unfold pieces
    split
    · exact ⟨by assumption, rfl⟩
    · have e := size_ext b (lim / 8 * 8) b.size
      have e' := size_ext b 0 (lim / 8 * 8)
      refine told_cons (pieces_told lim more d _ _ (by omega) h8) ?_ rfl
      simp only; omega
theorem told_at {lim : Nat} {more : Bool} : ∀ (l : List (Int × Bool × ByteArray)), Told lim more l → ∀ i (hi : i < l.length), (l[i]).2.2.size ≤ lim ∧ (i + 1 < l.length → (l[i]).2.1 = true) ∧ (i + 1 = l.length → (l[i]).2.1 = more)
  | [], h, i, hi => absurd hi (by simp)
  | [x], h, i, hi => by
    have : i = 0 := by simpa using hi
    subst this
    exact ⟨h.1, fun h' => by simp at h', fun _ => h.2⟩
  | x :: y :: t, h, 0, hi => ⟨h.1, fun _ => h.2.1, fun h' => by simp at h'⟩
  | x :: y :: t, h, i + 1, hi => by
    have := told_at (y :: t) h.2.2 i (by simpa using hi)
    refine ⟨this.1, fun h' => this.2.1 (by simpa using h'), fun h' => this.2.2 (by simpa using h')⟩

theorem check_ok2 {a2 a3 a4 off : Int} {m a7 : Bool} {most : Int} {b : ByteArray} (h2 : 0 ≤ a2 ∧ a2 ≤ 255) (h3 : 1 ≤ a3 ∧ a3 ≤ 255) (h4 : 0 ≤ a4 ∧ a4 ≤ 65535) (h : OkPiece most (off, m, b)) (hm : most ≤ 65535) (hs : b.size ≤ 1500) (h7 : (m = true ∨ 0 < off) → a7 = false) :
    checkv a2 a3 a4 off m a7 b.size = 0 := by
  obtain ⟨k0, k1, k2, k3, k4⟩ := h
  simp only at k0 k1 k2 k3 k4
  have ko : off ≤ 65528 := by
    by_cases hz : 0 < off
    · have := k4 (.inr hz); omega
    · omega
  unfold checkv
  rw [if_neg (by omega), if_neg (by omega), if_neg]
  rintro (h | ⟨h, h'⟩ | ⟨h, h' | h'⟩)
  · omega
  · have := k3 h; omega
  · have := k4 h; omega
  · rw [h7 h] at h'; cases h'

set_option maxHeartbeats 4000000 in
set_option maxRecDepth 100000 in
theorem cutCovers_calls (a0 a1 a2 a3 a4 a5 : Int) (a6 a7 : Bool) (a8 : ByteArray) (most : Int) (h0 : 0 ≤ a0 ∧ a0 ≤ 4294967295) (h1 : 0 ≤ a1 ∧ a1 ≤ 4294967295) (w : World) :
    Calls Try.prog 8 #[.agg #[.int .u32 a0, .int .u32 a1, .int .i64 a2, .int .i64 a3, .int .i64 a4, .int .i64 a5, .bool a6, .bool a7, .string a8], .int .i64 most] w fun e w' => e = .returned (.bool true) ∧ Below w.heap.size w w' := by
  go_enter Try.func8, Try.ntmps8
  go_wp2_with (first | (go_at_call 12; refine (lives_calls _).mono ?_; rintro e w1 ⟨rfl, hb⟩; obtain ⟨hc, hf⟩ := bcell hb) | (go_at_call 21; refine (bare_calls _ _ _ _ _ _ _ _ _ _ (by decide) _).mono ?_; rintro e w2 ⟨rfl, rfl⟩) | (refine gate_ (.store 24 (.tmp 2) (.tmp 15)) rfl ?_; refine wpList_store_block rfl 24 (.tmp 2) (.tmp 15) rfl rfl _ #[.int .u32 a0, .int .u32 a1, .int .i64 a2, .int .i64 a3, .int .i64 a4, .int .i64 a5, .bool a6, .bool a7, .string (beg a8 80)] rfl rfl rfl (blk_alloc (blk_alloc (blk_below (blk_new w _) hb) _) _) size24 rfl (pk_one _ _ _ _ _ _ _ _ _) ?_))
  intro w2 hbx hg
  have hbw : Below w.heap.size w w2 := (((((Below.refl _ _).alloc (Nat.le_refl _) _).trans (hb.mono (by simp))).alloc (by have := hb.size; simp at this; omega) _).alloc (by have := hb.size; simp at this ⊢; omega) _).grown hg (by have := hb.size; simp at this ⊢; omega) (fun k hk => by cases hk; exact Nat.le_refl _)
  clear hg hb hc hf
  obtain ⟨hc0, hc1, hc2, hc3, hc4, hc5, hc6, hc7, hc8⟩ := pk_cells hbx
  have hbs : (beg a8 80).size ≤ 80 := by rw [beg_size]; omega
  generalize beg a8 80 = body at hbx hc8 hbs ⊢
  by_cases hv : wrongv a2 a3 a4 a5 a6 a7 body.size most = 0
  · obtain ⟨hck, k1, k2, k7⟩ := wrong_zero hv
    obtain ⟨r2, r3, r4, r5, rs, ro, r8, rm, rw_⟩ := check_zero hck
    have hcut := fun W => cut_calls a0 a1 a2 a3 a4 a5 a6 a7 body most hv k1 (by omega) (by omega) (by omega) (by omega) W
    have hok : OkPiece (a5 + body.size) (a5, a6, body) := ⟨r5.1, r8, Int.le_refl _, rm, fun h => (rw_ h).1⟩
    obtain ⟨lim, rfl⟩ : ∃ lim : Nat, most = (lim : Int) + 20 := ⟨(most - 20).toNat, by omega⟩
    rw [show ((lim : Int) + 20 - 20).toNat = lim by omega] at hcut
    have hpo := pieces_ok lim (by omega) a6 (a5 + body.size) body.size a5 body hok
    have hpc := pieces_chain lim a6 body.size a5 body
    have hpp := pieces_pos lim a6 body.size a5 body
    have hpl : (pieces lim a6 body.size a5 body).length ≤ 81 := Nat.le_trans (pieces_len _ _ _ _ _) (by omega)
    have hpt := told_at _ (pieces_told lim a6 body.size a5 body (Nat.le_refl _) (by omega))
    have hpk : ∀ x ∈ pieces lim a6 body.size a5 body, x.2.2.size ≤ lim → checkv a2 a3 a4 x.1 x.2.1 a7 x.2.2.size = 0 := by
      intro x hx hxl
      cases h7 : a7
      · exact check_ok2 (off := x.1) (m := x.2.1) (b := x.2.2) r2 r3 r4 (hpo x hx) (by omega) (by omega) (fun _ => rfl)
      · have hz := k7 h7
        have e : pieces lim a6 body.size a5 body = [(a5, a6, body)] := by
          cases body.size with
          | zero => rfl
          | succ d => unfold pieces; rw [if_pos (by omega)]
        rw [e] at hx
        simp only [List.mem_singleton] at hx
        subst hx
        rw [h7] at hck
        exact hck
    generalize pieces lim a6 body.size a5 body = L at hcut hpo hpc hpp hpl hpt hpk
    have HPO := Lib.hid hpo
    have HPT := Lib.hid hpt
    have HPK := Lib.hid hpk
    clear hpo hpt hpk hok hv hck rm rw_ k7 r8
    have hl0 : (((L.length : Nat) : Int) == 0) = false := beq_eq_false_iff_ne.mpr (by omega)
    go_wp2_with (go_at_call 14; refine (hcut _).mono ?_; rintro e w3 ⟨v, rfl, hown, hb⟩; obtain ⟨hc, hf⟩ := bcell hb; obtain ⟨g, cap, rfl, hg, hgl, hr⟩ := own_read hown rfl hpp)
    have hbx3 := blk_below hbx hb
    have hbw3 : Below w.heap.size w w3 := hbw.trans (hb.mono hbw.size)
    have hwz : w.heap.size < w3.heap.size := blk_lt hbx3
    clear hc hf hc0 hc1 hc2 hc3 hc4 hc5 hc6 hc7 hc8 hb hbw hbx hg hown hcut
    have HR := Lib.hid hr
    clear hr
    go_loopw [7, 38] (fun acc i wr => ∃ (k : Nat) (A rest : ByteArray), k ≤ L.length ∧ i = .int .i64 k ∧ acc = .string A ∧ A.size ≤ 80 ∧ Hid (Chain (a5 + A.size) (L.drop k) rest) ∧ Hid (A ++ rest = body) ∧ Below w3.heap.size w3 wr) (fun _ i _ => L.length - (intOf i).toNat)
    case atStart => exact ⟨0, ⟨#[]⟩, body, Nat.zero_le _, rfl, rfl, by decide, (by show Chain (a5 + ((0 : Nat) : Int)) L body; simpa using hpc), nil_app _ _ rfl, Below.refl _ _⟩
    case round =>
      clear hpc
      obtain ⟨k, A, rest, hk, rfl, rfl, hA, HC, HJ, hbr⟩ := hrel
      obtain ⟨hb0, hb1, hb2, hb3, hb4, hb5, hb6, hb7, hb8⟩ := pk_cells (blk_below hbx3 hbr)
      by_cases hlt : k < L.length
      · have hel := L.getElem_mem hlt
        have hdr := List.drop_eq_getElem_cons hlt
        obtain ⟨ho, rest2, hrest, hch2⟩ : (L[k]).1 = a5 + A.size ∧ ∃ rest2, rest = (L[k]).2.2 ++ rest2 ∧ Chain ((a5 + A.size) + (L[k]).2.2.size) (L.drop (k + 1)) rest2 := by
          have := HC.out
          rw [hdr] at this
          exact this
        have hokq := HPO.out _ hel
        have hrk := HR.out k hlt
        obtain ⟨ht1, ht2, ht3⟩ := HPT.out k hlt
        have hckq := HPK.out _ hel ht1
        clear hel hdr HC
        generalize hq : L[k] = q at ho hrest hch2 hokq hrk ht1 ht2 ht3 hckq
        obtain ⟨qo, qm, qx⟩ := q
        simp only at ho hrest hch2 ht1 ht2 ht3 hckq
        subst ho
        clear hq
        have hc0 := hrk 0 _ rfl
        have hc1 := hrk 1 _ rfl
        have hc2 := hrk 2 _ rfl
        have hc3 := hrk 3 _ rfl
        have hc4 := hrk 4 _ rfl
        have hc5 := hrk 5 _ rfl
        have hc6 := hrk 6 _ rfl
        have hc7 := hrk 7 _ rfl
        have hc8 := hrk 8 _ rfl
        simp only [Nat.add_zero] at hc0
        clear hrk
        obtain ⟨hbc, hbf⟩ := bcell hbr
        rw [← hbc _ _ hgl] at hc0 hc1 hc2 hc3 hc4 hc5 hc6 hc7 hc8
        clear hbc hbf
        have henc := fun W => encode_calls a0 a1 a2 a3 a4 (a5 + A.size) qm a7 qx h0 h1 hckq W
        have hes := encv_size a0 a1 a2 a3 a4 (a5 + A.size) qm a7 qx
        generalize encv a0 a1 a2 a3 a4 (a5 + A.size) qm a7 qx = E at henc hes
        have hes' : E.size ≤ lim + 20 := by omega
        have hqs : qx.size ≤ 80 := by have := hokq.2.2.1; simp only at this; omega
        have hwr2 := Nat.lt_of_lt_of_le hwz hbr.size
        have hgl2 := Nat.lt_of_lt_of_le hgl hbr.size
        have HR2 := Lib.hid hrest
        have HC2 := Lib.hid hch2
        clear hes hckq hokq hrest hch2
        have fin : ∀ W' : World, Below wr.heap.size wr W' → ∃ (k' : Nat) (A' rest' : ByteArray), k' ≤ L.length ∧ Value.int .i64 ((k : Int) + 1) = .int .i64 k' ∧ Value.string (A ++ qx) = .string A' ∧ A'.size ≤ 80 ∧ Hid (Chain (a5 + A'.size) (L.drop k') rest') ∧ Hid (A' ++ rest' = body) ∧ Below w3.heap.size w3 W' := by
          intro W' hW
          refine ⟨k + 1, A ++ qx, rest2, by omega, by go_num, rfl, ?_, ?_, ?_, hbr.trans (hW.mono hbr.size)⟩
          · have h2 := congrArg ByteArray.size HJ.out
            rw [HR2.out] at h2
            simp only [ByteArray.size_append] at h2 ⊢
            omega
          · have := HC2.out
            rw [ByteArray.size_append]
            have e : a5 + ((A.size + qx.size : Nat) : Int) = a5 + (A.size : Int) + (qx.size : Int) := by omega
            rw [e]
            exact this
          · show A ++ qx ++ rest2 = body
            rw [app_assoc, ← HR2.out]; exact HJ.out
        have FIN := Lib.hid fin
        clear fin
        by_cases hlast : k + 1 < L.length
        · obtain rfl := ht2 hlast
          clear ht2 ht3
          go_wp2_with (go_at_call 23; refine (henc _).mono ?_; rintro e w5 ⟨rfl, hb⟩; obtain ⟨hbc, hbf⟩ := bcell hb; clear henc)
          go_roundw
          case rel => exact FIN.out _ (((Below.refl _ _).alloc (Nat.le_refl _) _).trans (hb.mono (by simp)))
          case measure => simp [intOf]; omega
        · obtain rfl : qm = a6 := ht3 (by omega)
          clear ht2 ht3
          go_wp2_with (go_at_call 23; refine (henc _).mono ?_; rintro e w5 ⟨rfl, hb⟩; obtain ⟨hbc, hbf⟩ := bcell hb; clear henc)
          go_roundw
          case rel => exact FIN.out _ (((Below.refl _ _).alloc (Nat.le_refl _) _).trans (hb.mono (by simp)))
          case measure => simp [intOf]; omega
      · obtain rfl : k = L.length := by omega
        have hrest : rest.size = 0 := by
          have := HC.out
          rw [List.drop_length] at this
          exact this
        have hAb : A = body := by
          have := HJ.out
          rw [app_nil _ _ hrest] at this
          exact this
        subst hAb
        clear HC HJ
        obtain ⟨hbc, hbf⟩ := bcell hbr
        have hl6 : wr.cell? ⟨g, (L.length - 1) * 9 + 6, none⟩ = some (.bool a6) := by
          rw [hbc _ _ hgl]
          have h1 := HR.out (L.length - 1) (by omega) 6 (.bool (L[L.length - 1]'(by omega)).2.1) rfl
          rw [(HPT.out (L.length - 1) (by omega)).2.2 (by omega)] at h1
          exact h1
        clear hbc hbf
        go_wp2
        have e1 : IntKind.i64.wrap ((L.length : Int) - 1) = (L.length : Int) - 1 := IntWalk.i64_in _ (by omega)
        have e2 : (0 : Int) ≤ (L.length : Int) - 1 := by omega
        have e3 : ((L.length : Int) - 1).toNat = L.length - 1 := by omega
        have e4 : (L.length : Int) - 1 < L.length := by omega
        go_quiet (fail)
        clear e1 e2 e3 e4
        go_wp2
        go_ret
        exact ⟨rfl, pw_below_drewN (hbw3.trans (hbr.mono (by omega))) _⟩
  · have hcut := fun W => cut_calls_bad a0 a1 a2 a3 a4 a5 a6 a7 body most (by omega) hv W
    clear hv hbx
    go_wp2_with (go_at_call 14; refine (hcut _).mono ?_; rintro e w3 ⟨c, hc, rfl, hb⟩; have hc' : (c == 0) = false := beq_eq_false_iff_ne.mpr hc; have hc'' : (c != 0) = true := bne_iff_ne.mpr hc; clear hc)
    go_ret
    exact ⟨rfl, hbw.trans (hb.mono hbw.size)⟩
end Go.Proofs.Ythepnjbefngooaa.H
