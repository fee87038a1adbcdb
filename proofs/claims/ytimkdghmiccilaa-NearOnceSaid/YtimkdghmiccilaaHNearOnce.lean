/- The walk of NearOnce. Conditions: sizes that the row gives. -/
import Derived.Test.YtimkdghmiccilaaHNearAsks
namespace Go.Proofs.Ytimkdghmiccilaa.H
set_option linter.unusedSimpArgs false
set_option linter.unusedVariables false
open Go Go.RowKit Go.Maps Go.Proofs.YtimkdghmiccilaaW.PrintWords Go.Proofs.YtimkdghmiccilaaW.PrintLast Go.Proofs.YtimkdghmiccilaaW.PrintMore

/-! ### what a tick keeps -/
theorem tk_hl {now tries : Int} {P : Option Ent} (h : ∀ e, P = some e → e.ok) : hl (tk now tries P) + lo now tries P = hl P := by
  cases P with
  | none => rfl
  | some e =>
    have hok := h e rfl
    simp only [tk, lo, tkE, loE]
    by_cases hk : e.known = true
    · have hh := hok.1 hk
      rw [if_pos hk, if_pos hk]
      split <;> simp [hl, hh]
    · rw [if_neg hk, if_neg hk]
      by_cases hn : now < e.next
      · rw [if_pos hn, if_pos hn]; rfl
      · rw [if_neg hn, if_neg hn]
        by_cases ht : e.asked < tries
        · rw [if_pos ht, if_pos ht]; rfl
        · rw [if_neg ht, if_neg ht]; simp [hl]
theorem tk_fit {now now' tries : Int} {P : Option Ent} (h : Fit now tries P) (hn : now ≤ now') : Fit now' tries (tk now' tries P) := by
  cases P with
  | none => exact fun e he => (nomatch he)
  | some e =>
    intro e' he hk
    simp only [tk, tkE] at he
    by_cases hk0 : e.known = true
    · rw [if_pos hk0] at he
      split at he
      · cases he
      · cases he; rw [hk0] at hk; cases hk
    · have hkf : e.known = false := by simpa using hk0
      have := h e rfl hkf
      rw [if_neg hk0] at he
      split at he
      · cases he; exact ⟨by omega, this.2⟩
      · split at he
        · cases he; exact ⟨by simp, by simp only; omega⟩
        · cases he
/-- Behind i ticks at the end. -/
def Left (tries : Int) (i : Nat) (P : Option Ent) : Prop := ∀ e, P = some e → e.known = false → (i : Int) + 1 ≤ e.asked ∧ (0 < i → e.asked ≤ tries)
theorem Left.start {now tries : Int} {P : Option Ent} (h : Fit now tries P) : Left tries 0 P := fun e he hk => ⟨by have := (h e he hk).2; omega, fun h => by omega⟩
theorem Left.tick {now tries : Int} {i : Nat} {P : Option Ent} (h : Left tries i P) (hF : Fit now tries P) : Left tries (i + 1) (tk (now + 8) tries P) := by
  cases P with
  | none => exact fun e he => (nomatch he)
  | some e =>
    intro e' he hk
    simp only [tk, tkE] at he
    by_cases hk0 : e.known = true
    · rw [if_pos hk0] at he
      split at he
      · cases he
      · cases he; rw [hk0] at hk; cases hk
    · have hkf : e.known = false := by simpa using hk0
      have h1 := h e rfl hkf
      have h2 := hF e rfl hkf
      rw [if_neg hk0, if_neg (by omega)] at he
      split at he
      · cases he; exact ⟨by simp only; omega, fun _ => by simp only; omega⟩
      · cases he
theorem Left.empty {tries : Int} {i : Nat} {P : Option Ent} (h : Left tries i P) (hok : ∀ e, P = some e → e.ok) (ht : tries ≤ 3) (hi : 3 ≤ i) : hl P = 0 := by
  cases P with
  | none => rfl
  | some e =>
    cases hk : e.known with
    | true => simp [hl, (hok e rfl).1 hk]
    | false =>
      have := h e rfl hk
      have := this.2 (by omega)
      omega

/-- What the law knows: held strings are those handed back and those in the cache. -/
def OnceAt (B g mb : Nat) (tr : Int) (H O T k : Nat) (wr : World) : Prop := ∃ (n : Nat) (cn : Int) (P Q : Option Ent) (D : DataW Unit), C2 B wr g mb n 30 tr cn 0 1 P Q D ∧ n ≤ k ∧ cn ≤ (T : Int) ∧ H = O + hl P + hl Q ∧ Fit T tr P ∧ Fit T tr Q

section
variable {B g mb : Nat} {tr : Int} {H O T k : Nat} {wr : World}
theorem w0_ : (Lit.int .u32 0).wf = true := u32_wf (by decide)
theorem w1_ : (Lit.int .u32 1).wf = true := u32_wf (by decide)

theorem once_send (h : OnceAt B g mb tr H O T k wr) (a : Int) (ha : a = 0 ∨ a = 1) (s : ByteArray) (hs : s.size ≤ 4096) (hT : T ≤ 100000) (hk : k ≤ 100) (hB : B ≤ wr.heap.size) :
    Calls Try.prog 10 #[.pointer (some ⟨g, 0, none⟩), .int .u32 a, .string s, .int .i64 (T : Int)] wr fun e w' => ∃ (lk : Int) (ready ask : Bool) (err : Int), e = .returned (.tuple #[.int .i64 lk, .bool ready, .bool ask, .int .i64 err]) ∧ Below B wr w' ∧
      ((err = 0 ∧ ready = false ∧ OnceAt B g mb tr (H + 1) O T (k + 1) w') ∨ (((err = 5 ∧ ready = false) ∨ (err = 0 ∧ ready = true)) ∧ OnceAt B g mb tr H O T (k + 1) w')) := by
  obtain ⟨n, cn, P, Q, D, hC, hn, hc, hH, hP, hQ⟩ := h
  rcases ha with rfl | rfl
  · refine (send_c2 hC (T : Int) s w0_ hs (by omega) hc (by omega) hB hP).mono ?_
    rintro e w' ⟨lk, ready, ask, err, P', D', now', rfl, hC', hb, h1, h2, hF, hor⟩
    refine ⟨lk, ready, ask, err, rfl, hb, ?_⟩
    rcases hor with ⟨e1, e2, e3⟩ | ⟨e1, e3⟩
    · exact .inl ⟨e1, e2, n + 1, now', P', Q, D', hC', by omega, h2, by omega, hF, hQ⟩
    · exact .inr ⟨e1, n + 1, now', P', Q, D', hC', by omega, h2, by omega, hF, hQ⟩
  · refine (send_c2 hC.swap (T : Int) s w1_ hs (by omega) hc (by omega) hB hQ).mono ?_
    rintro e w' ⟨lk, ready, ask, err, P', D', now', rfl, hC', hb, h1, h2, hF, hor⟩
    refine ⟨lk, ready, ask, err, rfl, hb, ?_⟩
    rcases hor with ⟨e1, e2, e3⟩ | ⟨e1, e3⟩
    · exact .inl ⟨e1, e2, n + 1, now', P, P', D', hC'.swap, by omega, h2, by omega, hP, hF⟩
    · exact .inr ⟨e1, n + 1, now', P, P', D', hC'.swap, by omega, h2, by omega, hP, hF⟩

theorem once_learn (h : OnceAt B g mb tr H O T k wr) (a : Int) (ha : a = 0 ∨ a = 1) (hT : T ≤ 100000) (hk : k ≤ 100) (hB : B ≤ wr.heap.size) :
    Calls Try.prog 11 #[.pointer (some ⟨g, 0, none⟩), .int .u32 a, .int .i64 5, .int .i64 (T : Int)] wr fun e w' => ∃ (A : Option Addr) (m c : Nat), e = .returned (.tuple #[.slice A m c, .int .i64 0]) ∧ Below B wr w' ∧ m ≤ 4 ∧ OnceAt B g mb tr H (O + m) T (k + 1) w' := by
  obtain ⟨n, cn, P, Q, D, hC, hn, hc, hH, hP, hQ⟩ := h
  have l4 : ∀ (P : Option Ent), (∀ e, P = some e → e.ok) → hl P ≤ 4 := fun P h => by
    cases P with
    | none => simp [hl]
    | some e =>
      have := h e rfl
      cases hk : e.known with
      | true => simp [hl, this.1 hk]
      | false => exact (this.2.1 hk).2.1
  rcases ha with rfl | rfl
  · refine (learn_c2 hC 5 (T : Int) w0_ (by decide) (by decide) (by omega) hc (by omega) hB).mono ?_
    rintro e w' ⟨A, c, P', D', rfl, hC', hb, hF, h0⟩
    exact ⟨A, hl P, c, rfl, hb, l4 P (fun e he => (hC.entA e he).2.1), n + 1, T, P', Q, D', hC', by omega, Int.le_refl _, by omega, hF, hQ⟩
  · refine (learn_c2 hC.swap 5 (T : Int) w1_ (by decide) (by decide) (by omega) hc (by omega) hB).mono ?_
    rintro e w' ⟨A, c, P', D', rfl, hC', hb, hF, h0⟩
    exact ⟨A, hl Q, c, rfl, hb, l4 Q (fun e he => (hC.entB e he).2.1), n + 1, T, P, P', D', hC'.swap, by omega, Int.le_refl _, by omega, hP, hF⟩

theorem once_tick (h : OnceAt B g mb tr H O T k wr) (T' : Nat) (hT' : T ≤ T') (hT : T' ≤ 100000) (hk : k ≤ 100) (htr : 1 ≤ tr ∧ tr ≤ 10) (hB : B ≤ wr.heap.size) :
    Calls Try.prog 15 #[.pointer (some ⟨g, 0, none⟩), .int .i64 (T' : Int)] wr fun e w' => ∃ (A1 A2 : Option Addr) (p q c1 c2 : Nat), e = .returned (.tuple #[.slice A1 p c1, .slice A2 q c2, .int .i64 0]) ∧ Below B wr w' ∧ q ≤ 8 ∧ OnceAt B g mb tr H (O + q) T' (k + 1) w' := by
  obtain ⟨n, cn, P, Q, D, hC, hn, hc, hH, hP, hQ⟩ := h
  have oP : ∀ e, P = some e → e.ok := fun e he => (hC.entA e he).2.1
  have oQ : ∀ e, Q = some e → e.ok := fun e he => (hC.entB e he).2.1
  refine (tick_c2 hC (T' : Int) w0_ w1_ (by omega) (by omega) htr hB).mono ?_
  rintro e w' ⟨A1, A2, c1, c2, D', rfl, hC', hb⟩
  have h1 := tk_hl (now := (T' : Int)) (tries := tr) oP
  have h2 := tk_hl (now := (T' : Int)) (tries := tr) oQ
  have h3 := lo_le (now := (T' : Int)) (tries := tr) oP
  have h4 := lo_le (now := (T' : Int)) (tries := tr) oQ
  exact ⟨A1, A2, _, _, c1, c2, rfl, hb, by omega, n, T', _, _, D', hC', by omega, Int.le_refl _, by omega, tk_fit hP (by omega), tk_fit hQ (by omega)⟩

/-- The last ticks. -/
def OnceEnd (B g mb : Nat) (tr : Int) (H O T i : Nat) (wr : World) : Prop := ∃ (n : Nat) (cn : Int) (P Q : Option Ent) (D : DataW Unit), C2 B wr g mb n 30 tr cn 0 1 P Q D ∧ cn ≤ (T : Int) ∧ H = O + hl P + hl Q ∧ Fit T tr P ∧ Fit T tr Q ∧ Left tr i P ∧ Left tr i Q
theorem end_start (h : OnceAt B g mb tr H O T k wr) : OnceEnd B g mb tr H O T 0 wr := by
  obtain ⟨n, cn, P, Q, D, hC, hn, hc, hH, hP, hQ⟩ := h
  exact ⟨n, cn, P, Q, D, hC, hc, hH, hP, hQ, Left.start hP, Left.start hQ⟩
theorem end_tick {i : Nat} (h : OnceEnd B g mb tr H O T i wr) (hT : T ≤ 100000) (htr : 1 ≤ tr ∧ tr ≤ 10) (hB : B ≤ wr.heap.size) :
    Calls Try.prog 15 #[.pointer (some ⟨g, 0, none⟩), .int .i64 ((T : Int) + 8)] wr fun e w' => ∃ (A1 A2 : Option Addr) (p q c1 c2 : Nat), e = .returned (.tuple #[.slice A1 p c1, .slice A2 q c2, .int .i64 0]) ∧ Below B wr w' ∧ q ≤ 8 ∧ OnceEnd B g mb tr H (O + q) (T + 8) (i + 1) w' := by
  obtain ⟨n, cn, P, Q, D, hC, hc, hH, hP, hQ, lP, lQ⟩ := h
  have oP : ∀ e, P = some e → e.ok := fun e he => (hC.entA e he).2.1
  have oQ : ∀ e, Q = some e → e.ok := fun e he => (hC.entB e he).2.1
  refine (tick_c2 hC ((T : Int) + 8) w0_ w1_ (by omega) (by omega) htr hB).mono ?_
  rintro e w' ⟨A1, A2, c1, c2, D', rfl, hC', hb⟩
  have h1 := tk_hl (now := (T : Int) + 8) (tries := tr) oP
  have h2 := tk_hl (now := (T : Int) + 8) (tries := tr) oQ
  have h3 := lo_le (now := (T : Int) + 8) (tries := tr) oP
  have h4 := lo_le (now := (T : Int) + 8) (tries := tr) oQ
  have hcast : ((T + 8 : Nat) : Int) = (T : Int) + 8 := by omega
  exact ⟨A1, A2, _, _, c1, c2, rfl, hb, by omega, n, (T : Int) + 8, _, _, D', hC', by omega, by omega, by rw [hcast]; exact tk_fit hP (by omega), by rw [hcast]; exact tk_fit hQ (by omega), lP.tick hP, lQ.tick hQ⟩
theorem end_empty {i : Nat} (h : OnceEnd B g mb tr H O T i wr) (ht : tr ≤ 3) (hi : 3 ≤ i) : H = O := by
  obtain ⟨n, cn, P, Q, D, hC, hc, hH, hP, hQ, lP, lQ⟩ := h
  have h1 := lP.empty (fun e he => (hC.entA e he).2.1) ht hi
  have h2 := lQ.empty (fun e he => (hC.entB e he).2.1) ht hi
  omega
end

theorem OnceAt.alloc {B g mb : Nat} {tr : Int} {H O T k : Nat} {wr : World} (h : OnceAt B g mb tr H O T k wr) (o : Obj) : OnceAt B g mb tr H O T k (wr.alloc o) := by
  obtain ⟨n, cn, P, Q, D, hC, r⟩ := h
  exact ⟨n, cn, P, Q, D, hC.same (S := fun _ => False) ⟨blk_alloc hC.cache.1 o, hC.cache.2.alloc o⟩ ((Only.refl _ wr).alloc o) (fun f hf => ⟨id, fun j hj => id⟩) (fun f hf => ⟨id, fun j hj => id⟩), r⟩
theorem bits_and_nat (k : IntKind) (x : Int) (b : Nat) (hb : b < 2 ^ k.bits) : bits .and k x b = k.wrap (((x % 2 ^ k.bits).toNat &&& b : Nat) : Int) := by
  have hb' : b % 2 ^ k.bits = b := Nat.mod_eq_of_lt hb
  simp only [bits, BitVec.ofInt_natCast, BitVec.toNat_and, BitVec.toNat_ofNat, BitVec.toNat_ofInt, hb']
  rw [show ((2 ^ k.bits : Nat) : Int) = 2 ^ k.bits by simp]
theorem and_any1 (x : Int) : bits .and .i64 x 1 = x % 2 := by
  have h := bits_and_nat .i64 x 1 (by decide)
  rw [show (1 : Nat) = 2 ^ 1 - 1 by rfl, Nat.and_two_pow_sub_one_eq_mod, IntKind.wrap_i64] at h
  simp only [IntKind.bits] at h
  exact h.trans (by omega)
theorem and_any3 (x : Int) : bits .and .i64 x 3 = x % 4 := by
  have h := bits_and_nat .i64 x 3 (by decide)
  rw [show (3 : Nat) = 2 ^ 2 - 1 by rfl, Nat.and_two_pow_sub_one_eq_mod, IntKind.wrap_i64] at h
  simp only [IntKind.bits] at h
  exact h.trans (by omega)
theorem and_any15 (x : Int) : bits .and .i64 x 15 = x % 16 := by
  have h := bits_and_nat .i64 x 15 (by decide)
  rw [show (15 : Nat) = 2 ^ 4 - 1 by rfl, Nat.and_two_pow_sub_one_eq_mod, IntKind.wrap_i64] at h
  simp only [IntKind.bits] at h
  exact h.trans (by omega)
theorem u32_two (x : Int) : IntKind.u32.wrap (x % 2) = x % 2 := by simp [IntKind.wrap, IntKind.bits, IntKind.signed]; omega

theorem someI_calls (ad : Addr) (len cap n : Nat) (hl : len ≤ cap) (hc : cap ≤ maxLen) (hn : n ≤ 1000000) (w : World) :
    Calls Try.prog 14 #[.slice (some ad) len cap, .int .i64 n] w fun e w' => e = .returned (.slice (some ad) (min len n) cap) ∧ w = w' := by
  unfold maxLen at hc
  go_enter Try.func14, Try.ntmps14
  go_wp2
  · have h : n < len := by assumption
    go_ret
    exact ⟨by rw [Nat.min_eq_right (by omega)]; rfl, rfl⟩
  · have h : ¬ n < len := by assumption
    go_ret
    exact ⟨by rw [Nat.min_eq_left (by omega)]; rfl, rfl⟩
theorem someI_nil (n : Nat) (hn : n ≤ 1000000) (w : World) :
    Calls Try.prog 14 #[.slice none 0 0, .int .i64 n] w fun e w' => e = .returned (.slice none 0 0) ∧ w = w' := by
  go_enter Try.func14, Try.ntmps14
  go_wp2
  go_ret
  exact ⟨rfl, rfl⟩

set_option maxHeartbeats 1000000 in
set_option maxRecDepth 100000 in
theorem nearOnce_some (tries : Int) (ad : Addr) (len cap : Nat) (zs : List Int) (hlc : len ≤ cap) (hcap : cap ≤ maxLen) (w : World)
    (hcell : ∀ i, i < len → w.cell? (ad.add i) = some (.int .i64 (zs.getD i 0))) :
    Calls Try.prog 4 #[.slice (some ad) len cap, .int .i64 tries] w fun e w' => e = .returned (.bool true) ∧ Below w.heap.size w w' := by
  obtain ⟨tr, et, ht0, ht1⟩ := lim1_of tries 3 (by decide) (by decide)
  have hnew := fun W => new_cache 30 (tr : Int) (by decide) (by omega) W
  have hlives := fun W => nearLives_calls W
  have hsome := fun W => someI_calls ad len cap 8 hlc hcap (by decide) W
  go_enter Try.func4, Try.ntmps4
  go_wp2_with (first | (go_at_call 6; refine (hlives _).mono ?_; rintro e w1 ⟨rfl, hb1⟩) | (go_at_call 7; refine (hnew _).mono ?_; rintro e w2 ⟨g, mb, rfl, hg, hmb, hC1, ho1⟩) | (go_at_call 14; refine (hsome _).mono ?_; rintro e w3 ⟨rfl, rfl⟩))
  have z1 := ho1.size
  have hz := hb1.size
  have hb2 : Below w.heap.size w w2 := hb1.trans (ho1.below _ hb1.size (fun k hk => hk.elim))
  have hA : OnceAt w.heap.size g mb tr 0 0 0 0 w2 := ⟨0, 0, none, none, _, C2.start hC1 (by omega) (by omega) (by decide), Nat.le_refl _, Int.le_refl _, rfl, fun e he => (nomatch he), fun e he => (nomatch he)⟩
  obtain ⟨m, hm⟩ : ∃ m, min len 8 = m := ⟨_, rfl⟩
  have hml : m ≤ len := by omega
  have hm8 : m ≤ 8 := by omega
  rw [hm]
  clear hm et hnew hlives hsome hC1 ho1
  go_loopw [7, 8, 9, 45] (fun h o t i wr => ∃ (k H O T : Nat), h = .int .i64 H ∧ o = .int .i64 O ∧ t = .int .i64 T ∧ i = .int .i64 k ∧ k ≤ m ∧ H ≤ k ∧ O ≤ 8 * k ∧ T ≤ 16 * k ∧ OnceAt w.heap.size g mb tr H O T k wr ∧ Below w.heap.size w wr) (fun _ _ _ i _ => m - (intOf i).toNat)
  case atStart => exact ⟨0, 0, 0, 0, rfl, rfl, rfl, rfl, Nat.zero_le _, Nat.le_refl _, Nat.le_refl _, Nat.le_refl _, hA, hb2⟩
  case round =>
    clear hA hb2
    obtain ⟨k, H, O, T, rfl, rfl, rfl, rfl, hk, hH, hO, hT, hA, hbw⟩ := hrel
    have hBr := hbw.size
    by_cases hlt : k < m
    · have hck := pw_cell_below hbw (hcell k (by omega))
      generalize zs.getD k 0 = kv at hck
      have f1 := and_any1 kv
      have f2 := u32_two kv
      have f3 := and_any3 (kv / 2)
      have f4 := and_any15 (kv / 8)
      have g1 : kv % 2 = 0 ∨ kv % 2 = 1 := by omega
      have g3 : kv / 2 % 4 = 0 ∨ kv / 2 % 4 = 1 ∨ kv / 2 % 4 = 2 ∨ kv / 2 % 4 = 3 := by omega
      have g4 : 0 ≤ kv / 8 % 16 ∧ kv / 8 % 16 ≤ 15 := by omega
      generalize kv % 2 = c at f1 f2 g1
      generalize kv / 2 % 4 = d at f3 g3
      generalize kv / 8 % 16 = f at f4 g4
      clear hcell
      rcases g3 with rfl | rfl | rfl | rfl
      · have hBa : w.heap.size ≤ (wr.alloc (.cells #[.int .u8 (k : Int)] 5 (0, 0))).heap.size := by simp; omega
        have hown1 : (wr.alloc (.cells #[.int .u8 (k : Int)] 5 (0, 0))).ownsRow 0 5 1 (.slice (some ⟨wr.heap.size, 0, none⟩) 1 1) 1 (nums .u8 [(k : Int)]) :=
          ⟨rfl, .inr ⟨wr.heap.size, 1, #[.int .u8 (k : Int)], rfl, Nat.zero_le _, blk_new wr _, by decide, by decide, rfl, rfl⟩⟩
        have hcv := own_string (P := Try.prog) Try.underlying42 Try.underlying5 Try.underlying9 hown1
        have hM : (strOfNums [(k : Int)]).size ≤ 4096 := by simp [strOfNums, ByteArray.size]
        have hsend := once_send (hA.alloc (.cells #[.int .u8 (k : Int)] 5 (0, 0))) c g1 (strOfNums [(k : Int)]) hM (by omega) (by omega) hBa
        have hba : Below w.heap.size w (wr.alloc (.cells #[.int .u8 (k : Int)] 5 (0, 0))) := hbw.alloc hBr _
        have fk : IntKind.u8.wrap (k : Int) = (k : Int) := by simp [IntKind.wrap, IntKind.bits, IntKind.signed]; omega
        clear hA hown1 hbw
        generalize strOfNums [(k : Int)] = M at *
        go_wp2_with (go_at_call 10; refine hsend.mono ?_; rintro e w4 ⟨lk, ready, ask, err, rfl, hb4, ⟨rfl, rfl, hA4⟩ | ⟨⟨rfl, rfl⟩ | ⟨rfl, rfl⟩, hA4⟩⟩)
        · go_roundw
          case rel => exact ⟨k + 1, H + 1, O, T, by go_num, rfl, rfl, by go_num, by omega, by omega, by omega, by omega, hA4, hba.trans hb4⟩
          case measure => simp [intOf]; omega
        · go_roundw
          case rel => exact ⟨k + 1, H, O, T, rfl, rfl, rfl, by go_num, by omega, by omega, by omega, by omega, hA4, hba.trans hb4⟩
          case measure => simp [intOf]; omega
        · go_roundw
          case rel => exact ⟨k + 1, H, O, T, rfl, rfl, rfl, by go_num, by omega, by omega, by omega, by omega, hA4, hba.trans hb4⟩
          case measure => simp [intOf]; omega
      · have hBa : w.heap.size ≤ (wr.alloc (.cells #[.int .u8 (k : Int)] 5 (0, 0))).heap.size := by simp; omega
        have hown1 : (wr.alloc (.cells #[.int .u8 (k : Int)] 5 (0, 0))).ownsRow 0 5 1 (.slice (some ⟨wr.heap.size, 0, none⟩) 1 1) 1 (nums .u8 [(k : Int)]) :=
          ⟨rfl, .inr ⟨wr.heap.size, 1, #[.int .u8 (k : Int)], rfl, Nat.zero_le _, blk_new wr _, by decide, by decide, rfl, rfl⟩⟩
        have hcv := own_string (P := Try.prog) Try.underlying42 Try.underlying5 Try.underlying9 hown1
        have hM : (strOfNums [(k : Int)]).size ≤ 4096 := by simp [strOfNums, ByteArray.size]
        have hsend := once_send (hA.alloc (.cells #[.int .u8 (k : Int)] 5 (0, 0))) c g1 (strOfNums [(k : Int)]) hM (by omega) (by omega) hBa
        have hba : Below w.heap.size w (wr.alloc (.cells #[.int .u8 (k : Int)] 5 (0, 0))) := hbw.alloc hBr _
        have fk : IntKind.u8.wrap (k : Int) = (k : Int) := by simp [IntKind.wrap, IntKind.bits, IntKind.signed]; omega
        clear hA hown1 hbw
        generalize strOfNums [(k : Int)] = M at *
        go_wp2_with (go_at_call 10; refine hsend.mono ?_; rintro e w4 ⟨lk, ready, ask, err, rfl, hb4, ⟨rfl, rfl, hA4⟩ | ⟨⟨rfl, rfl⟩ | ⟨rfl, rfl⟩, hA4⟩⟩)
        · go_roundw
          case rel => exact ⟨k + 1, H + 1, O, T, by go_num, rfl, rfl, by go_num, by omega, by omega, by omega, by omega, hA4, hba.trans hb4⟩
          case measure => simp [intOf]; omega
        · go_roundw
          case rel => exact ⟨k + 1, H, O, T, rfl, rfl, rfl, by go_num, by omega, by omega, by omega, by omega, hA4, hba.trans hb4⟩
          case measure => simp [intOf]; omega
        · go_roundw
          case rel => exact ⟨k + 1, H, O, T, rfl, rfl, rfl, by go_num, by omega, by omega, by omega, by omega, hA4, hba.trans hb4⟩
          case measure => simp [intOf]; omega
      · have hlearn := once_learn hA c g1 (by omega) (by omega) hBr
        clear hA
        go_wp2_with (go_at_call 11; refine hlearn.mono ?_; rintro e w4 ⟨A, q, c1, rfl, hb4, hq, hA4⟩)
        go_roundw
        case rel => exact ⟨k + 1, H, O + q, T, rfl, by go_num, rfl, by go_num, by omega, by omega, by omega, by omega, hA4, hbw.trans hb4⟩
        case measure => simp [intOf]; omega
      · obtain ⟨F, rfl⟩ : ∃ F : Nat, f = (F : Int) := ⟨f.toNat, by omega⟩
        have htick := once_tick hA (T + (1 + F)) (by omega) (by omega) (by omega) ⟨by omega, by omega⟩ hBr
        have hcs : ((T + (1 + F) : Nat) : Int) = (T : Int) + (1 + (F : Int)) := by omega
        rw [hcs] at htick
        clear hA hcs
        go_wp2_with (go_at_call 15; refine htick.mono ?_; rintro e w4 ⟨A1, A2, p, q, c1, c2, rfl, hb4, hq, hA4⟩)
        go_roundw
        case rel => exact ⟨k + 1, H, O + q, T + (1 + F), rfl, by go_num, by go_num, by go_num, by omega, by omega, by omega, by omega, hA4, hbw.trans hb4⟩
        case measure => simp [intOf]; omega
    · have hE := end_start hA
      have hkm : k ≤ 8 := by omega
      clear hA hcell
      go_wp2
      go_loopw [8, 9, 115] (fun o t i wr => ∃ (j O T : Nat), o = .int .i64 O ∧ t = .int .i64 T ∧ i = .int .i64 j ∧ j ≤ 4 ∧ O ≤ 64 + 8 * j ∧ T ≤ 128 + 8 * j ∧ OnceEnd w.heap.size g mb tr H O T j wr ∧ Below w.heap.size w wr) (fun _ _ i _ => 4 - (intOf i).toNat)
      case atStart => exact ⟨0, O, T, rfl, rfl, rfl, by omega, by omega, by omega, hE, hbw⟩
      case round =>
        clear hE hbw hBr
        obtain ⟨j, O', T', rfl, rfl, rfl, hj, hO', hT', hE, hbw⟩ := hrel
        by_cases hj4 : j < 4
        · have htick := end_tick hE (by omega) ⟨by omega, by omega⟩ hbw.size
          clear hE
          go_wp2_with (go_at_call 15; refine htick.mono ?_; rintro e w4 ⟨A1, A2, p, q, c1, c2, rfl, hb4, hq, hA4⟩)
          go_roundw
          case rel => exact ⟨j + 1, O' + q, T' + 8, by go_num, by go_num, by go_num, by omega, by omega, by omega, hA4, hbw.trans hb4⟩
          case measure => simp [intOf]; omega
        · have hHO := end_empty hE (by omega) (by omega)
          subst hHO
          clear hE
          go_wp2
          go_ret
          exact ⟨rfl, hbw⟩

set_option maxHeartbeats 1000000 in
set_option maxRecDepth 100000 in
theorem nearOnce_nil (tries : Int) (w : World) :
    Calls Try.prog 4 #[.slice none 0 0, .int .i64 tries] w fun e w' => e = .returned (.bool true) ∧ Below w.heap.size w w' := by
  obtain ⟨tr, et, ht0, ht1⟩ := lim1_of tries 3 (by decide) (by decide)
  have hnew := fun W => new_cache 30 (tr : Int) (by decide) (by omega) W
  have hlives := fun W => nearLives_calls W
  have hsome := fun W => someI_nil 8 (by decide) W
  go_enter Try.func4, Try.ntmps4
  go_wp2_with (first | (go_at_call 6; refine (hlives _).mono ?_; rintro e w1 ⟨rfl, hb1⟩) | (go_at_call 7; refine (hnew _).mono ?_; rintro e w2 ⟨g, mb, rfl, hg, hmb, hC1, ho1⟩) | (go_at_call 14; refine (hsome _).mono ?_; rintro e w3 ⟨rfl, rfl⟩))
  have z1 := ho1.size
  have hz := hb1.size
  have hb2 : Below w.heap.size w w2 := hb1.trans (ho1.below _ hb1.size (fun k hk => hk.elim))
  have hA : OnceAt w.heap.size g mb tr 0 0 0 0 w2 := ⟨0, 0, none, none, _, C2.start hC1 (by omega) (by omega) (by decide), Nat.le_refl _, Int.le_refl _, rfl, fun e he => (nomatch he), fun e he => (nomatch he)⟩
  clear et hnew hlives hsome hC1 ho1
  go_loopw [7, 8, 9, 45] (fun h o t i wr => h = .int .i64 0 ∧ o = .int .i64 0 ∧ t = .int .i64 0 ∧ i = .int .i64 0 ∧ wr = w2) (fun _ _ _ i _ => 0)
  case atStart => exact ⟨rfl, rfl, rfl, rfl, rfl⟩
  case round =>
    obtain ⟨rfl, rfl, rfl, rfl, rfl⟩ := hrel
    · have hE := end_start hA
      have hbw := hb2
      clear hA hb2
      go_wp2
      go_loopw [8, 9, 115] (fun o t i wr => ∃ (j O T : Nat), o = .int .i64 O ∧ t = .int .i64 T ∧ i = .int .i64 j ∧ j ≤ 4 ∧ O ≤ 64 + 8 * j ∧ T ≤ 128 + 8 * j ∧ OnceEnd w.heap.size g mb tr 0 O T j wr ∧ Below w.heap.size w wr) (fun _ _ i _ => 4 - (intOf i).toNat)
      case atStart => exact ⟨0, 0, 0, rfl, rfl, rfl, by omega, by omega, by omega, hE, hbw⟩
      case round =>
        clear hE hbw
        obtain ⟨j, O', T', rfl, rfl, rfl, hj, hO', hT', hE, hbw⟩ := hrel
        by_cases hj4 : j < 4
        · have htick := end_tick hE (by omega) ⟨by omega, by omega⟩ hbw.size
          clear hE
          go_wp2_with (go_at_call 15; refine htick.mono ?_; rintro e w4 ⟨A1, A2, p, q, c1, c2, rfl, hb4, hq, hA4⟩)
          go_roundw
          case rel => exact ⟨j + 1, O' + q, T' + 8, by go_num, by go_num, by go_num, by omega, by omega, by omega, hA4, hbw.trans hb4⟩
          case measure => simp [intOf]; omega
        · have hHO := end_empty hE (by omega) (by omega)
          subst hHO
          clear hE
          go_wp2
          go_ret
          exact ⟨rfl, hbw⟩

/-- A slice of ints that came in. -/
def IntsAt (w : World) (v : Value) : Prop := v = .slice none 0 0 ∨ ∃ (ad : Addr) (len cap : Nat) (zs : List Int), v = .slice (some ad) len cap ∧ len ≤ cap ∧ cap ≤ maxLen ∧ ∀ i, i < len → w.cell? (ad.add i) = some (.int .i64 (zs.getD i 0))
theorem nearOnce_calls (v : Value) (tries : Int) (w : World) (hv : IntsAt w v) :
    Calls Try.prog 4 #[v, .int .i64 tries] w fun e w' => e = .returned (.bool true) ∧ Below w.heap.size w w' := by
  rcases hv with rfl | ⟨ad, len, cap, zs, rfl, hl, hc, hcell⟩
  · exact nearOnce_nil tries w
  · exact nearOnce_some tries ad len cap zs hl hc w hcell
end Go.Proofs.Ytimkdghmiccilaa.H
