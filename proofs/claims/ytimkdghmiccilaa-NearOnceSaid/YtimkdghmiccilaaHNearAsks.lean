/- The walk of NearAsks. Conditions: sizes that the row gives. -/
import Derived.Test.YtimkdghmiccilaaHNearTick
namespace Go.Proofs.Ytimkdghmiccilaa.H
set_option linter.unusedSimpArgs false
set_option linter.unusedVariables false
open Go Go.RowKit Go.Maps Go.Proofs.YtimkdghmiccilaaW.PrintWords Go.Proofs.YtimkdghmiccilaaW.PrintLast Go.Proofs.YtimkdghmiccilaaW.PrintMore

theorem lim1_of (x m : Int) (h0 : 0 < m) (h1 : m < 1000) : ∃ n : Nat, wrap64 (1 + wrap64 ((IntKind.u64.wrap x).tmod m)) = (n : Int) ∧ 1 ≤ n ∧ (n : Int) ≤ m := by
  obtain ⟨y, hy, h2, h3⟩ := mod_of x m h0 (by omega)
  rw [hy]
  exact ⟨(1 + y).toNat, by unfold wrap64; omega, by omega, by omega⟩

/-- What the law knows before the tick at t. -/
def AskAt (B g mb : Nat) (a b : Int) (tr t j : Nat) (wr : World) : Prop :=
  (t ≤ 8 * tr ∧ 1 ≤ j ∧ j ≤ tr ∧ 8 * (j - 1) < t ∧ t ≤ 8 * j ∧ ∃ (e : Ent) (D : DataW Unit), C2 B wr g mb 1 30 tr ((t : Int) - 1) a b (some e) none D ∧ e.known = false ∧ e.asked = j ∧ e.next = 8 * j ∧ e.held.length = 1) ∨ (t = 8 * tr + 1 ∧ j = tr)

theorem ask_tick (B g mb : Nat) (a b : Int) (tr t j : Nat) (wr : World) (ha : (Lit.int .u32 a).wf = true) (hb : (Lit.int .u32 b).wf = true) (htr : 1 ≤ tr ∧ tr ≤ 10) (ht : t ≤ 8 * tr) (hB : B ≤ wr.heap.size) (h : AskAt B g mb a b tr t j wr) :
    ∃ (p q : Nat), ((p = 0 ∧ q = 0 ∧ t < 8 * j ∧ t < 8 * tr) ∨ (p = 1 ∧ q = 0 ∧ t = 8 * j ∧ t < 8 * tr) ∨ (p = 0 ∧ q = 1 ∧ t = 8 * tr)) ∧
      Calls Try.prog 15 #[.pointer (some ⟨g, 0, none⟩), .int .i64 (t : Int)] wr fun e w' => ∃ (A1 A2 : Option Addr) (c1 c2 : Nat), e = .returned (.tuple #[.slice A1 p c1, .slice A2 q c2, .int .i64 0]) ∧ AskAt B g mb a b tr (t + 1) (j + p) w' ∧ Below B wr w' := by
  rcases h with ⟨h1, h2, h3, h4, h5, e, D, hC, hk, has, hne, hh⟩ | ⟨h1, _⟩
  rotate_left
  · omega
  have ht1 : 1 ≤ t := by omega
  have hcast : ((t + 1 : Nat) : Int) - 1 = (t : Int) := by omega
  have htick := tick_c2 hC (t : Int) ha hb (by omega) (by omega) (by omega) hB
  simp only [tk, ag, lo, Nat.add_zero] at htick
  by_cases hA : t < 8 * j
  · have e1 : tkE (t : Int) tr e = some e := by simp [tkE, hk, hne]; omega
    have e2 : agE (t : Int) tr e = 0 := by simp [agE, hk, hne]; omega
    have e3 : loE (t : Int) tr e = 0 := by simp [loE, hk, hne]; omega
    rw [e1, e2, e3] at htick
    refine ⟨0, 0, .inl ⟨rfl, rfl, hA, by omega⟩, htick.mono ?_⟩
    rintro e' w' ⟨A1, A2, c1, c2, D', rfl, hC', hb'⟩
    exact ⟨A1, A2, c1, c2, rfl, .inl ⟨by omega, h2, h3, by omega, by omega, e, D', by rw [hcast]; exact hC', hk, has, hne, hh⟩, hb'⟩
  · by_cases hj : j < tr
    · have e1 : tkE (t : Int) tr e = some { e with asked := e.asked + 1, next := (t : Int) + 8 } := by
        unfold tkE
        rw [if_neg (by simp [hk]), if_neg (by omega), if_pos (by omega)]
      have e2 : agE (t : Int) tr e = 1 := by
        unfold agE
        rw [if_neg (by simp [hk]), if_neg (by omega), if_pos (by omega)]
      have e3 : loE (t : Int) tr e = 0 := by
        unfold loE
        rw [if_neg (by simp [hk]), if_neg (by omega), if_pos (by omega)]
      rw [e1, e2, e3] at htick
      refine ⟨1, 0, .inr (.inl ⟨rfl, rfl, by omega, by omega⟩), htick.mono ?_⟩
      rintro e' w' ⟨A1, A2, c1, c2, D', rfl, hC', hb'⟩
      exact ⟨A1, A2, c1, c2, rfl, .inl ⟨by omega, by omega, by omega, by omega, by omega, { e with asked := e.asked + 1, next := (t : Int) + 8 }, D', by rw [hcast]; exact hC', hk, by simp only; omega, by simp only; omega, hh⟩, hb'⟩
    · have e1 : tkE (t : Int) tr e = none := by
        unfold tkE
        rw [if_neg (by simp [hk]), if_neg (by omega), if_neg (by omega)]
      have e2 : agE (t : Int) tr e = 0 := by
        unfold agE
        rw [if_neg (by simp [hk]), if_neg (by omega), if_neg (by omega)]
      have e3 : loE (t : Int) tr e = 1 := by
        unfold loE
        rw [if_neg (by simp [hk]), if_neg (by omega), if_neg (by omega), hh]
      rw [e1, e2, e3] at htick
      refine ⟨0, 1, .inr (.inr ⟨rfl, rfl, by omega⟩), htick.mono ?_⟩
      rintro e' w' ⟨A1, A2, c1, c2, D', rfl, hC', hb'⟩
      exact ⟨A1, A2, c1, c2, rfl, .inr ⟨by omega, by omega⟩, hb'⟩

set_option maxHeartbeats 400000 in
set_option maxRecDepth 100000 in
theorem nearAsks_calls (a tries : Int) (h0 : 0 ≤ a ∧ a ≤ 4294967295) (w : World) :
    Calls Try.prog 5 #[.int .u32 a, .int .i64 tries] w fun e w' => e = .returned (.bool true) ∧ Below w.heap.size w w' := by
  have ha := u32_wf h0
  obtain ⟨b, hb, hab⟩ : ∃ b : Int, (Lit.int .u32 b).wf = true ∧ a ≠ b := by
    by_cases h : a = 0
    · exact ⟨1, u32_wf (by decide), by omega⟩
    · exact ⟨0, u32_wf (by decide), h⟩
  obtain ⟨tr, et, ht0, ht1⟩ := lim1_of tries 10 (by decide) (by decide)
  have hnew := fun W => new_cache 30 (tr : Int) (by decide) (by omega) W
  have hlives := fun W => nearLives_calls W
  go_enter Try.func5, Try.ntmps5
  go_wp2_with (first | (go_at_call 6; refine (hlives _).mono ?_; rintro e w1 ⟨rfl, hb1⟩) | (go_at_call 7; refine (hnew _).mono ?_; rintro e w2 ⟨g, mb, rfl, hg, hmb, hC1, ho1⟩) | (go_at_call 10; refine (send_first 30 (tr : Int) 0 0 a ⟨#[120]⟩ mb g 0 (.map []) ha (by decide) (by decide) (by decide) (by decide) w2 hC1 (atKey_empty _ _)).mono ?_; rintro e w3 ⟨rfl, x, hv, hx, hvb, hC3, hE3, ho3⟩))
  have z1 := ho1.size
  have z3 := ho3.size
  have hb3 : Below w.heap.size w w3 := (hb1.trans (ho1.below _ hb1.size (fun k hk => hk.elim))).trans (ho3.below _ (by have := hb1.size; omega) (fun k hk => by have := hb1.size; rcases hk with rfl | rfl <;> omega))
  have hz := hb1.size
  have hA : AskAt w.heap.size g mb a b tr 1 1 w3 := by
    refine .inl ⟨by omega, Nat.le_refl _, by omega, by omega, by omega, ⟨x, hv, false, 0, 0, [⟨#[120]⟩], 1, 8⟩, (DataW.map []).put (.int .u32 a) (.lit (.int .i64 x)), ?_, rfl, rfl, rfl, rfl⟩
    refine (C2.start hC1 (by omega) (by omega) hab).put ⟨x, hv, false, 0, 0, [⟨#[120]⟩], 1, 8⟩ hC3 ho3 (fun f hf => (nomatch hf)) ⟨hE3, ⟨fun e => (nomatch e), fun _ => ⟨by simp, by simp, by simp, by simp⟩, by simp, by simp⟩, by simp only; omega, fun j hj => by have := hvb j hj; omega⟩ (fun f hf => (nomatch hf))
  clear et hnew hlives hC1 ho1 hC3 hE3 ho3 hx hvb
  go_loopw [11, 12] (fun s i wr => ∃ t j : Nat, s = .int .i64 j ∧ i = .int .i64 t ∧ 1 ≤ t ∧ j ≤ 10 ∧ t ≤ 8 * tr + 1 ∧ AskAt w.heap.size g mb a b tr t j wr ∧ Below w.heap.size w wr) (fun _ i _ => 8 * tr + 1 - (intOf i).toNat)
  case atStart => exact ⟨1, 1, rfl, rfl, Nat.le_refl _, by omega, by omega, hA, hb3⟩
  case round =>
    clear hA hb3
    obtain ⟨t, j, rfl, rfl, h1, hj, h8, hA, hbw⟩ := hrel
    by_cases hlt : t ≤ 8 * tr
    · obtain ⟨p, q, hpq, htick⟩ := ask_tick w.heap.size g mb a b tr t j wr ha hb ⟨ht0, by omega⟩ hlt hbw.size hA
      clear hA
      have hle : (t : Int) ≤ 8 * (tr : Int) := by omega
      rcases hpq with ⟨rfl, rfl, hp1, hp2⟩ | ⟨rfl, rfl, hp1, hp2⟩ | ⟨rfl, rfl, hp1⟩
      · have hf : ((t : Int) == 8 * (tr : Int)) = false := beq_eq_false_iff_ne.mpr (by omega)
        go_wp2_with (go_at_call 15; refine htick.mono ?_; rintro e w4 ⟨A1, A2, c1, c2, rfl, hA4, hb4⟩)
        go_roundw
        case rel => exact ⟨t + 1, j + 0, by go_num, by go_num, by omega, by omega, by omega, hA4, hbw.trans hb4⟩
        case measure => simp [intOf]; omega
      · have hf : ((t : Int) == 8 * (tr : Int)) = false := beq_eq_false_iff_ne.mpr (by omega)
        have hm : (t : Int) % 8 = 0 := by omega
        have hp3 : t ≤ 8 * j ∧ 8 * j ≤ t := by omega
        clear hp1
        go_wp2_with (go_at_call 15; refine htick.mono ?_; rintro e w4 ⟨A1, A2, c1, c2, rfl, hA4, hb4⟩)
        go_roundw
        case rel => exact ⟨t + 1, j + 1, by go_num, by go_num, by omega, by omega, by omega, hA4, hbw.trans hb4⟩
        case measure => simp [intOf]; omega
      · have hf : ((t : Int) == 8 * (tr : Int)) = true := beq_iff_eq.mpr (by omega)
        have hp3 : t ≤ 8 * tr ∧ 8 * tr ≤ t := by omega
        clear hp1
        go_wp2_with (go_at_call 15; refine htick.mono ?_; rintro e w4 ⟨A1, A2, c1, c2, rfl, hA4, hb4⟩)
        go_roundw
        case rel => exact ⟨t + 1, j + 0, by go_num, by go_num, by omega, by omega, by omega, hA4, hbw.trans hb4⟩
        case measure => simp [intOf]; omega
    · have hjt : j = tr := by
        rcases hA with h | h
        · omega
        · exact h.2
      subst hjt
      have hgt : ¬ (t : Int) ≤ 8 * (j : Int) := by omega
      go_wp2
      go_ret
      exact ⟨rfl, hbw⟩
end Go.Proofs.Ytimkdghmiccilaa.H
