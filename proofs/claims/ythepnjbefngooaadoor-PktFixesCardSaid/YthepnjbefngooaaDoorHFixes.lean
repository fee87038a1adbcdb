/- The walk of PktFixes. Conditions: sizes that the row gives. -/
import Derived.RegionTactic
import Derived.ChangeAlike
import Derived.BigRegion
import Derived.IntWalk
import Derived.Deep.QuietTactic
import Derived.BigQuiet
import Derived.Test.YthepnjbefngooaaDoorMSum
import Derived.Test.YthepnjbefngooaaDoorPPktFixesx3
import Derived.Test.YthepnjbefngooaaDoorPPktFixesx4
import Derived.Lib.Hide
namespace Go.Proofs.YthepnjbefngooaaDoor.PPktFixes
set_option linter.unusedSimpArgs false
set_option linter.unusedVariables false
open Go Go.RowKit Go.Proofs.YthepnjbefngooaaDoorW.PrintWords Go.Proofs.YthepnjbefngooaaDoorW.PrintLast Go.Proofs.YthepnjbefngooaaDoorW.PrintMore Go.Proofs.YthepnjbefngooaaDoor.Plain

/-! ### Trim at the byte 0 -/
def AllZ (s : ByteArray) : Prop := ∀ i : Nat, i < s.size → bt s i = 0
theorem right_ev : ∀ (d : Nat) (s : ByteArray), s.size = d → d ≤ 1000 → ∃ r, Ev (fun k => strings_trimRightByte.l0 k s 0) r ∧ r.size ≤ s.size ∧ (AllZ s → AllZ r ∧ r.size = 0)
  | 0, s, h, _ => ⟨s, Ev.step (f := fun _ => some s) (fun k => by simp only [strings_trimRightByte.l0]; rw [if_neg (by omega)]) (Ev.ret rfl), Nat.le_refl _, fun ha => ⟨ha, h⟩⟩
  | d + 1, s, h, hd => by
    have e1 : wrap64 ((s.size : Int) - 1) = (d : Int) := by rw [w64 (by omega) (by omega)]; omega
    by_cases hz : bt s (d : Nat) = 0
    · have hs : (s.extract 0 d).size = d := by rw [size_ext]; omega
      obtain ⟨r, hr, hl, hzr⟩ := right_ev d (s.extract 0 d) hs (by omega)
      refine ⟨r, Ev.step (f := fun k => strings_trimRightByte.l0 k (s.extract 0 d) 0) (fun k => ?_) hr, by omega, fun ha => hzr (fun i hi => ?_)⟩
      · simp only [strings_trimRightByte.l0]
        rw [e1, if_pos (by omega), if_pos (by omega), if_pos (by omega), if_pos hz, if_pos (by omega), Int.toNat_natCast]
      · rw [bt_ext _ _ _ _ (by omega), Nat.zero_add]; exact ha i (by omega)
    · refine ⟨s, Ev.step (f := fun _ => some s) (fun k => ?_) (Ev.ret rfl), Nat.le_refl _, fun ha => absurd (ha d (by omega)) hz⟩
      simp only [strings_trimRightByte.l0]
      rw [e1, if_pos (by omega), if_pos (by omega), if_pos (by omega), if_neg hz]
theorem left_ev : ∀ (d : Nat) (s : ByteArray), s.size = d → d ≤ 1000 → ∃ r, Ev (fun k => strings_trimLeftByte.l0 k s 0) r ∧ r.size ≤ s.size ∧ (AllZ s → r.size = 0)
  | 0, s, h, _ => ⟨s, Ev.step (f := fun _ => some s) (fun k => by simp only [strings_trimLeftByte.l0]; rw [if_neg (by omega)]) (Ev.ret rfl), Nat.le_refl _, fun _ => h⟩
  | d + 1, s, h, hd => by
    by_cases hz : bt s 0 = 0
    · have hs : (s.extract 1 s.size).size = d := by rw [size_ext]; omega
      obtain ⟨r, hr, hl, hzr⟩ := left_ev d (s.extract 1 s.size) hs (by omega)
      refine ⟨r, Ev.step (f := fun k => strings_trimLeftByte.l0 k (s.extract 1 s.size) 0) (fun k => ?_) hr, by omega, fun ha => hzr (fun i hi => ?_)⟩
      · simp only [strings_trimLeftByte.l0]
        rw [if_pos (by omega), if_pos (by omega), if_pos hz, if_pos (by omega)]
      · rw [bt_ext _ _ _ _ (by omega)]; exact ha (1 + i) (by omega)
    · refine ⟨s, Ev.step (f := fun _ => some s) (fun k => ?_) (Ev.ret rfl), Nat.le_refl _, fun ha => absurd (ha 0 (by omega)) hz⟩
      simp only [strings_trimLeftByte.l0]
      rw [if_pos (by omega), if_pos (by omega), if_neg hz]

theorem toList_nil (s : ByteArray) : s.toList = ([] : List UInt8) ↔ s.size = 0 := by
  rw [ByteArray.toList_eq]
  exact List.eq_nil_iff_length_eq_zero

set_option maxRecDepth 100000 in
theorem trim_calls (t : ByteArray) (h0 : 0 < t.size) (h1 : t.size ≤ 40) : ∃ r : ByteArray, (AllZ t → r.size = 0) ∧ ∀ W, Calls Tryd.prog 7 #[.string t, .string ⟨#[0]⟩] W fun e w' => e = .returned (.string r) ∧ ∃ n, w' = W.drewN n := by
  obtain ⟨r1, hr1, hl1, hz1⟩ := right_ev t.size t rfl (by omega)
  obtain ⟨r2, hr2, hl2, hz2⟩ := left_ev r1.size r1 rfl (by omega)
  obtain ⟨k1, hk1⟩ := Ev.rounds hr1
  obtain ⟨k2, hk2⟩ := Ev.rounds hr2
  have hR : ∀ W, Calls Tryd.prog 12 #[.string t, .int .u8 0] W fun e w' => e = .returned (.string r1) ∧ ∃ n, w' = W.drewN n := fun W => (strings_trimRightByte.calls k1 t 0 r1 W hk1).mono fun e w' h => ⟨h.1, h.2.out⟩
  have hL : ∀ W, Calls Tryd.prog 11 #[.string r1, .int .u8 0] W fun e w' => e = .returned (.string r2) ∧ ∃ n, w' = W.drewN n := fun W => (strings_trimLeftByte.calls k2 r1 0 r2 W hk2).mono fun e w' h => ⟨h.1, h.2.out⟩
  refine ⟨r2, fun ha => hz2 (hz1 ha).1, fun W => ?_⟩
  have hne : t.toList ≠ [] := fun e => by
    have := (toList_nil t).mp e
    omega
  have hne2 : (!t.toList.isEmpty) = true := by simpa using hne
  have hne3 : t.toList.isEmpty = false := by simpa using hne
  clear hr1 hr2 hk1 hk2 hz1 hz2
  go_enter Tryd.func7, Tryd.ntmps7
  go_wp2
  go_quiet ((first | (go_at_call 12; exact Calls.quiet_of (hR _)) | (go_at_call 11; exact Calls.quiet_of (hL _))))
  go_wp2
  go_ret
  exact ⟨rfl, _, rfl⟩

/-! ### one word changed -/
theorem ext_join (b : ByteArray) (m : Nat) (h : m ≤ b.size) : b = b.extract 0 m ++ b.extract m b.size := by
  refine eq_of_bt (by rw [ByteArray.size_append, size_ext, size_ext]; omega) (fun i hi => ?_)
  have e : (b.extract 0 m).size = m := by rw [size_ext]; omega
  by_cases hl : i < m
  · rw [bt_left _ _ _ (by rw [e]; exact hl), bt_ext _ _ _ _ (by omega), Nat.zero_add]
  · obtain ⟨j, rfl⟩ : ∃ j, i = m + j := ⟨i - m, by omega⟩
    have := bt_right (b.extract 0 m) (b.extract m b.size) j
    rw [e] at this
    rw [this, bt_ext _ _ _ _ (by omega)]
theorem raw_two (m : ByteArray) (h : m.size = 2) : raw m m.size = bt m (0 : Nat) * 256 + bt m (1 : Nat) := by
  rw [h]
  simp [raw]
theorem raw_three (a m b : ByteArray) (ha : a.size % 2 = 0) (hm : m.size = 2) : raw (a ++ m ++ b) (a ++ m ++ b).size = raw a a.size + (bt m (0 : Nat) * 256 + bt m (1 : Nat)) + raw b b.size := by
  rw [raw_both (a ++ m) b (by rw [ByteArray.size_append]; omega), raw_both a m ha, raw_two m hm]
theorem raw_changed (s m : ByteArray) (k : Nat) (hk : k % 2 = 0) (hks : k + 2 ≤ s.size) (hm : m.size = 2) :
    raw (s.extract 0 k ++ m ++ s.extract (k + 2) s.size) (s.extract 0 k ++ m ++ s.extract (k + 2) s.size).size = raw s s.size - (bt s (k : Nat) * 256 + bt s ((k + 1 : Nat) : Int)) + (bt m (0 : Nat) * 256 + bt m (1 : Nat)) := by
  have e0 : (s.extract 0 k).size = k := by rw [size_ext]; omega
  have e1 : (s.extract k (k + 2)).size = 2 := by rw [size_ext]; omega
  have e2 : (s.extract k s.size).extract 0 2 = s.extract k (k + 2) := by
    refine eq_of_bt (by rw [size_ext, size_ext, size_ext]; omega) (fun i hi => ?_)
    rw [size_ext, size_ext] at hi
    rw [bt_ext _ _ _ _ (by rw [size_ext]; omega), bt_ext _ _ _ _ (by omega), bt_ext _ _ _ _ (by omega)]
    congr 1
    omega
  have e3 : (s.extract k s.size).extract 2 (s.extract k s.size).size = s.extract (k + 2) s.size := by
    refine eq_of_bt (by rw [size_ext, size_ext, size_ext]; omega) (fun i hi => ?_)
    rw [size_ext, size_ext] at hi
    rw [bt_ext _ _ _ _ (by rw [size_ext]; omega), bt_ext _ _ _ _ (by omega), bt_ext _ _ _ _ (by omega)]
    congr 1
    omega
  have hs : s = s.extract 0 k ++ s.extract k (k + 2) ++ s.extract (k + 2) s.size := by
    have h2 := ext_join (s.extract k s.size) 2 (by rw [size_ext]; omega)
    rw [e2, e3] at h2
    have h1 := ext_join s k (by omega)
    rw [h2] at h1
    exact h1.trans (ByteArray.append_assoc).symm
  have h1 := raw_three (s.extract 0 k) (s.extract k (k + 2)) (s.extract (k + 2) s.size) (by rw [e0]; exact hk) e1
  rw [← hs, bt_ext _ _ _ _ (by omega), bt_ext _ _ _ _ (by omega)] at h1
  rw [raw_three _ m _ (by rw [e0]; exact hk) hm, h1]
  simp only [Nat.add_zero]
  omega

theorem raw_zero (s : ByteArray) : ∀ n : Nat, raw s n = 0 → ∀ i : Nat, i < n → bt s i = 0
  | 0, _, i, h => by omega
  | n + 1, h, i, hi => by
    have h1 := raw_range s n
    have h2 := bt_range s n
    rw [raw_succ] at h
    have h3 : raw s n = 0 := by split at h <;> omega
    have h4 : bt s n = 0 := by split at h <;> omega
    by_cases e : i = n
    · rw [e]; exact h4
    · exact raw_zero s n h3 i (by omega)

theorem fold_changed (S was is_ : Int) (h0 : 0 ≤ S) (hw : 0 ≤ was) (hw' : was ≤ 65535) (hws : was ≤ S) (hi : 0 ≤ is_) (hi' : is_ ≤ 65535) (hT : S - was + is_ ≠ 0) : foldv (foldv S + (65535 - was) + is_) = foldv (S - was + is_) := by
  unfold foldv
  by_cases hS : S = 0
  · rw [if_pos hS, if_neg hT, if_neg (by omega)]
    omega
  · rw [if_neg hS, if_neg hT, if_neg (by omega)]
    omega

theorem fix_calls (sum was is_ : Int) (hs : 0 ≤ sum ∧ sum ≤ 65535) (hw : 0 ≤ was ∧ was ≤ 65535) (hi : 0 ≤ is_ ∧ is_ ≤ 65535) (w : World) :
    Calls Tryd.prog 8 #[.int .i64 sum, .int .i64 was, .int .i64 is_] w fun e w' => e = .returned (.int .i64 (65535 - foldv (65535 - sum + (65535 - was) + is_))) ∧ ∃ n, w' = w.drewN n := by
  have hf := fold_ev (65535 - sum + (65535 - was) + is_).toNat (65535 - sum + (65535 - was) + is_) (by omega) (by omega) (Nat.le_refl _)
  obtain ⟨k, hk⟩ := Ev.rounds hf
  refine (pkt_Fix.calls k sum was is_ (65535 - foldv (65535 - sum + (65535 - was) + is_)) w ?_).mono fun e w' h => ⟨h.1, h.2.out⟩
  have hr := foldv_range (65535 - sum + (65535 - was) + is_)
  unfold pkt_Fix.f pkt_fold.f
  rw [xor16 hs.1 hs.2, xor16 hw.1 hw.2, and_any65535, and_any65535, and_any65535, Int.emod_eq_of_lt (by omega) (by omega), Int.emod_eq_of_lt (by omega) (by omega), Int.emod_eq_of_lt (by omega) (by omega), w64 (n := 65535 - sum + (65535 - was)) (by omega) (by omega), w64 (by omega) (by omega), hk]
  simp only [Option.bind_some]
  rw [xor16 hr.1 hr.2]

theorem sum_calls (s : ByteArray) (hs : s.size ≤ 1000000) (w : World) :
    Calls Tryd.prog 6 #[.string s] w fun e w' => e = .returned (.int .i64 (sumv s)) ∧ ∃ n, w' = w.drewN n := by
  obtain ⟨k, hk⟩ := Ev.rounds (sum_ev s hs)
  exact (pkt_Sum.calls k s _ w hk).mono fun e w' h => ⟨h.1, h.2.out⟩

theorem ext_all (s : ByteArray) (m : Nat) (h : s.size ≤ m) : s.extract 0 (min s.size m) = s := by
  rw [Nat.min_eq_left h]
  simp
def beg (s : ByteArray) (n : Nat) : ByteArray := s.extract 0 (min s.size n)
theorem beg_size (s : ByteArray) (n : Nat) : (beg s n).size = min s.size n := by unfold beg; simp
theorem beg_max (s : ByteArray) (n : Nat) (h : n < s.size) : s.extract 0 n = beg s n := by unfold beg; rw [Nat.min_eq_right (by omega)]
theorem beg_min (s : ByteArray) (n : Nat) (h : s.size ≤ n) : s = beg s n := (ext_all s n h).symm

theorem begin_calls (s : ByteArray) (n : Nat) (hn : n ≤ 1000000) (w : World) :
    Calls Tryd.prog 5 #[.string s, .int .i64 n] w fun e w' => e = .returned (.string (beg s n)) ∧ w = w' := by
  go_enter Tryd.func5, Tryd.ntmps5
  go_wp2
  · have h : n < s.size := by assumption
    go_ret
    exact ⟨by rw [← beg_max s n (by omega)]; rfl, rfl⟩
  · have h : ¬ n < s.size := by assumption
    go_ret
    exact ⟨by rw [← beg_min s n (by omega)]; rfl, rfl⟩


theorem or_byte {x y : Int} (h0 : 0 ≤ x) (h1 : x < 36028797018963968) (h2 : 0 ≤ y) (h3 : y < 256) : bits .or .i64 (wrap64 (x * 256)) (wrap64 y) = x * 256 + y := by
  rw [w64 (n := x * 256) (by omega) (by omega), w64 (n := y) (by omega) (by omega)]
  have := bits_join .i64 63 (by decide) wraps_i64 8 (x * 256) y (by omega) (by omega) (by omega) h2 (by simpa using h3) (by omega)
  exact this
theorem or_plain {x y : Int} (h0 : 0 ≤ x) (h1 : x ≤ 255) (h2 : 0 ≤ y) (h3 : y ≤ 255) : bits .or .i64 (x * 256) y = x * 256 + y := by
  have h := or_byte (x := x) (y := y) h0 (by omega) h2 (by omega)
  rw [w64 (n := x * 256) (by omega) (by omega), w64 (n := y) (by omega) (by omega)] at h
  exact h

theorem word_or (s : ByteArray) (k : Nat) (k0 : k < s.size) (k1 : k + 1 < s.size) : bits .or .i64 (wrap64 (wrap64 ((s[k]'k0).toNat : Int) * 256)) (wrap64 ((s[k + 1]'k1).toNat : Int)) = bt s k * 256 + bt s ((k + 1 : Nat) : Int) := by
  have b0 : ((s[k]'k0).toNat : Int) = bt s k := by have := bt_at s (k : Int) (by simpa using k0); exact this
  have b1 : ((s[k + 1]'k1).toNat : Int) = bt s ((k + 1 : Nat) : Int) := by have := bt_at s ((k + 1 : Nat) : Int) (by simpa using k1); exact this
  have r0 := bt_range s k
  have r1 := bt_range s ((k + 1 : Nat) : Int)
  rw [b0, b1, w64 (n := bt s k) (by omega) (by omega), w64 (n := bt s ((k + 1 : Nat) : Int)) (by omega) (by omega), w64 (by omega) (by omega)]
  exact or_plain (by omega) (by omega) (by omega) (by omega)
theorem word_le (s : ByteArray) (k : Nat) (hk2 : k % 2 = 0) (hks : k + 2 ≤ s.size) : bt s k * 256 + bt s ((k + 1 : Nat) : Int) ≤ raw s s.size := by
  have h3 := raw_changed s ⟨#[0, 0]⟩ k hk2 hks rfl
  have h4 := raw_range (s.extract 0 k ++ ⟨#[0, 0]⟩ ++ s.extract (k + 2) s.size) (s.extract 0 k ++ ⟨#[0, 0]⟩ ++ s.extract (k + 2) s.size).size
  have h5 : bt (⟨#[0, 0]⟩ : ByteArray) (0 : Nat) = 0 := rfl
  have h6 : bt (⟨#[0, 0]⟩ : ByteArray) (1 : Nat) = 0 := rfl
  rw [h3, h5, h6] at h4
  omega
theorem fix_same (s t : ByteArray) (k : Nat) (is_ : Int) (hi : 0 ≤ is_ ∧ is_ ≤ 65535) (hraw : raw t t.size = raw s s.size - (bt s k * 256 + bt s ((k + 1 : Nat) : Int)) + (is_ / 256 * 256 + is_ % 256)) (hT0 : raw t t.size ≠ 0) (hk2 : k % 2 = 0) (hks : k + 2 ≤ s.size) (k0 : k < s.size) (k1 : k + 1 < s.size) :
    ∀ W, Calls Tryd.prog 8 #[.int .i64 (sumv s), .int .i64 (bits .or .i64 (wrap64 (wrap64 ((s[k]'k0).toNat : Int) * 256)) (wrap64 ((s[k + 1]'k1).toNat : Int))), .int .i64 is_] W fun e w' => e = .returned (.int .i64 (sumv t)) ∧ ∃ n, w' = W.drewN n := fun W => by
  have r0 := bt_range s k
  have r1 := bt_range s ((k + 1 : Nat) : Int)
  have hsr := sumv_range s
  have h1 := raw_range s s.size
  have h2 := word_le s k hk2 hks
  rw [word_or s k k0 k1]
  have hs : sumv t = 65535 - foldv (65535 - sumv s + (65535 - (bt s k * 256 + bt s ((k + 1 : Nat) : Int))) + is_) := by
    generalize hq : bt s k * 256 + bt s ((k + 1 : Nat) : Int) = q at h2 hraw
    have hqr : 0 ≤ q ∧ q ≤ 65535 := by omega
    have e : raw t t.size = raw s s.size - q + is_ := by omega
    have h3 := fold_changed (raw s s.size) q is_ h1.1 hqr.1 hqr.2 h2 hi.1 hi.2 (by omega)
    unfold sumv
    rw [show (65535 : Int) - (65535 - foldv (raw s s.size)) = foldv (raw s s.size) by omega, h3, e]
  rw [hs]
  exact fix_calls (sumv s) _ is_ hsr ⟨by omega, by omega⟩ hi W

theorem pick_of (x m : Int) (h0 : 0 < m) (h1 : m ≤ 16) : ∃ j : Nat, wrap64 (wrap64 ((IntKind.u64.wrap x).tmod (IntKind.u64.wrap m)) * 2) = ((2 * j : Nat) : Int) ∧ (j : Int) < m := by
  have hx : 0 ≤ IntKind.u64.wrap x := by rw [wu64]; omega
  have em : IntKind.u64.wrap m = m := by rw [wu64]; omega
  rw [em]
  have e : (IntKind.u64.wrap x).tmod m = IntKind.u64.wrap x % m := Int.tmod_eq_emod_of_nonneg hx
  have h3 := Int.emod_nonneg (IntKind.u64.wrap x) (show m ≠ 0 by omega)
  have h4 := Int.emod_lt_of_pos (IntKind.u64.wrap x) h0
  rw [e]
  generalize IntKind.u64.wrap x % m = y at h3 h4
  refine ⟨y.toNat, ?_, by omega⟩
  rw [w64 (n := y) (by omega) (by omega), w64 (by omega) (by omega)]
  omega

set_option maxHeartbeats 4000000 in
set_option maxRecDepth 100000 in
theorem pktFixes_calls (s0 : ByteArray) (x is_ : Int) (hi : 0 ≤ is_ ∧ is_ ≤ 65535) (w : World) :
    Calls Tryd.prog 3 #[.string s0, .int .i64 x, .int .u16 is_] w fun e w' => e = .returned (.bool true) ∧ Below w.heap.size w w' := by
  have hlives := fun W => patchbaykeep2_pktLives.calls 40 true W (by kernel_rfl)
  have hbs : (beg s0 32).size ≤ 32 := by rw [beg_size]; omega
  have hbeg := fun W => begin_calls s0 32 (by decide) W
  generalize beg s0 32 = b at hbs hbeg
  have hss : (b.extract 0 (b.size / 2 * 2)).size = b.size / 2 * 2 := by rw [size_ext]; omega
  have e1 : ((b.size : Int) / 2 * 2).toNat = b.size / 2 * 2 := by omega
  have e2 : (0 : Int) ≤ (b.size : Int) / 2 * 2 := by omega
  have e3 : (b.size : Int) / 2 * 2 ≤ b.size := by omega
  obtain ⟨s, hs⟩ : ∃ s, b.extract 0 (b.size / 2 * 2) = s := ⟨_, rfl⟩
  rw [hs] at hss
  by_cases hz : s.size = 0
  · obtain rfl : s = ⟨#[]⟩ := ByteArray.ext (Array.eq_empty_of_size_eq_zero hz)
    have hsum : ∀ W, Calls Tryd.prog 6 #[.string ⟨#[]⟩] W fun e w' => e = .returned (.int .i64 65535) ∧ ∃ n, w' = W.drewN n := fun W => sum_calls ⟨#[]⟩ (by decide) W
    clear hss hz
    go_enter Tryd.func3, Tryd.ntmps3
    go_wp2_with (first | (go_at_call 4; refine (hlives _).mono ?_; rintro e w1 ⟨rfl, hb⟩) | (go_at_call 5; refine (hbeg _).mono ?_; rintro e w2 ⟨rfl, rfl⟩) | (go_at_call 6; refine (hsum _).mono ?_; rintro e w3 ⟨rfl, n3, rfl⟩))
    go_ret
    exact ⟨rfl, pw_below_drewN hb _⟩
  · have hne : s.toList ≠ [] := fun e => hz ((toList_nil s).mp e)
    have hne2 : (!s.toList.isEmpty) = true := by simpa using hne
    have hne3 : s.toList.isEmpty = false := by simpa using hne
    have hev : s.size % 2 = 0 := by omega
    have hle : s.size ≤ 32 := by omega
    obtain ⟨m, hm⟩ : ∃ m : Nat, s.size = 2 * m := ⟨s.size / 2, by omega⟩
    have hm2 : (s.size : Int) / 2 = (m : Int) := by omega
    have hm0 : IntKind.u64.wrap (m : Int) = (m : Int) := by rw [wu64]; omega
    have hm1 : ((m : Int) == 0) = false := beq_eq_false_iff_ne.mpr (by omega)
    obtain ⟨j, hj, hjm⟩ := pick_of x m (by omega) (by omega)
    rw [hm0] at hj
    have HM := Lib.hid hm
    clear hss hm
    go_enter Tryd.func3, Tryd.ntmps3
    go_wp2_with (first | (go_at_call 4; refine (hlives _).mono ?_; rintro e w1 ⟨rfl, hb⟩) | (go_at_call 5; refine (hbeg _).mono ?_; rintro e w2 ⟨rfl, rfl⟩))
    rw [hj]
    have hbw : Below w.heap.size w w1 := hb
    have hown1 : ((w1.alloc (.cells #[.int .u8 (is_ / 256), .int .u8 (is_ % 256)] 5 (0, 0))).drew).ownsRow 0 5 1 (.slice (some ⟨w1.heap.size, 0, none⟩) 2 2) 2 (nums .u8 [is_ / 256, is_ % 256]) :=
      ⟨rfl, .inr ⟨w1.heap.size, 2, #[.int .u8 (is_ / 256), .int .u8 (is_ % 256)], rfl, Nat.zero_le _, blk_new w1 _, by decide, by decide, rfl, rfl⟩⟩
    have hcv := own_string (P := Tryd.prog) Tryd.underlying27 Tryd.underlying5 Tryd.underlying9 hown1
    obtain ⟨M, hMe⟩ : ∃ M, strOfNums [is_ / 256, is_ % 256] = M := ⟨_, rfl⟩
    have hM2 : M.size = 2 := by rw [← hMe, size_strOfNums]; rfl
    have hM0 : bt M (0 : Nat) = is_ / 256 := by rw [← hMe]; exact bt_strOfNums [is_ / 256, is_ % 256] 0 (by simp) (by simp; omega) (by simp; omega)
    have hM1 : bt M (1 : Nat) = is_ % 256 := by rw [← hMe]; exact bt_strOfNums [is_ / 256, is_ % 256] 1 (by simp) (by simp; omega) (by simp; omega)
    rw [hMe] at hcv
    have HM0 := Lib.hid hM0
    have HM1 := Lib.hid hM1
    have HM2 := Lib.hid hM2
    have hM : M.size ≤ 2 := by omega
    clear hMe hown1 hM0 hM1 hM2 hj hm0 hm1 hm2 hne hne2 hne3 hs e1 e2 e3 hbeg hlives
    obtain ⟨k, hk⟩ : ∃ k, 2 * j = k := ⟨_, rfl⟩
    rw [hk]
    have hks : k + 2 ≤ s.size := by have := HM.out; omega
    have hk2 : k % 2 = 0 := by omega
    clear hk
    have f1 : IntKind.u8.wrap (is_ / 256) = is_ / 256 := by simp [IntKind.wrap, IntKind.bits, IntKind.signed]; omega
    have f2 : IntKind.u8.wrap is_ = is_ % 256 := by simp [IntKind.wrap, IntKind.bits, IntKind.signed]
    have e2 : IntKind.i64.wrap ((k : Int) + 2) = (k : Int) + 2 := IntWalk.i64_in _ (by omega)
    have e3 : ((k : Int) + 2).toNat = k + 2 := by omega
    have e4 : (k : Int) ≤ s.size := by omega
    have e5 : (0 : Int) ≤ (k : Int) + 2 := by omega
    have e6 : (k : Int) + 2 ≤ s.size := by omega
    have hraw := raw_changed s M k hk2 hks HM2.out
    rw [HM0.out, HM1.out] at hraw
    have hts : (s.extract 0 k ++ M ++ s.extract (k + 2) s.size).size = s.size := by rw [ByteArray.size_append, ByteArray.size_append, size_ext, size_ext]; have := HM2.out; omega
    have HR := Lib.hid hraw
    have HT := Lib.hid hts
    clear hraw hts
    go_region
    have hraw := HR.out
    have hts := HT.out
    clear HR HT hcv f1 f2 e2 e3 e4 e5 e6 hM
    generalize s.extract 0 k ++ M ++ s.extract (k + 2) s.size = t at hraw hts ⊢
    obtain ⟨r, hrz, htrim⟩ := trim_calls t (by omega) (by omega)
    have hbw2 : Below w.heap.size w ((w1.alloc (.cells #[.int .u8 (is_ / 256), .int .u8 (is_ % 256)] 5 (0, 0))).drew) := (hbw.alloc hbw.size _).drew
    generalize (w1.alloc (.cells #[.int .u8 (is_ / 256), .int .u8 (is_ % 256)] 5 (0, 0))).drew = w2 at hbw2 ⊢
    by_cases hr0 : r.size = 0
    · obtain rfl : r = ⟨#[]⟩ := ByteArray.ext (Array.eq_empty_of_size_eq_zero hr0)
      clear hraw hts hrz hr0
      go_wp2_with (go_at_call 7; refine (htrim _).mono ?_; rintro e w3 ⟨rfl, n3, rfl⟩)
      go_ret
      exact ⟨rfl, pw_below_drewN hbw2 _⟩
    · have hT0 : raw t t.size ≠ 0 := fun h => hr0 (hrz (fun i hi => raw_zero t t.size h i hi))
      have hrr : r.toList ≠ [] := fun e => hr0 ((toList_nil r).mp e)
      have hr2 : (!r.toList.isEmpty) = true := by simpa using hrr
      have hr3 : r.toList.isEmpty = false := by simpa using hrr
      go_wp2_with (go_at_call 7; refine (htrim _).mono ?_; rintro e w3 ⟨rfl, n3, rfl⟩)
      have hbw3 : Below w.heap.size w (w2.drewN n3) := pw_below_drewN hbw2 n3
      generalize w2.drewN n3 = w3 at hbw3 ⊢
      have k0 : k < s.size := by omega
      have k1 : k + 1 < s.size := by omega
      have e1 : IntKind.i64.wrap ((k : Int) + 1) = (k : Int) + 1 := IntWalk.i64_in _ (by omega)
      have e2 : ((k : Int) + 1).toNat = k + 1 := by omega
      have e3 : (0 : Int) ≤ (k : Int) + 1 := by omega
      have e4 : (k : Int) < s.size := by omega
      have e5 : (k : Int) + 1 < s.size := by omega
      have hF := fix_same s t k is_ hi hraw hT0 hk2 hks k0 k1
      have zs : s.size ≤ 1000000 := by omega
      have zt : t.size ≤ 1000000 := by omega
      clear hbw2 hbw hb htrim hraw hT0 hrz
      go_quiet ((first | (go_at_call 6; exact Calls.quiet_of (sum_calls _ (by first | exact zs | exact zt) _)) | (go_at_call 8; exact Calls.quiet_of (hF _))))
      go_wp2
      go_ret
      exact ⟨rfl, pw_below_drewN hbw3 _⟩
end Go.Proofs.YthepnjbefngooaaDoor.PPktFixes
