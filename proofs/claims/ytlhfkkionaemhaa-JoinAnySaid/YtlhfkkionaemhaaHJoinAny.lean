/- join: the walk of JoinAny: the pieces of a packet in any order are joined to it by the last one. Conditions: none but the arguments' sizes. -/
import Derived.Test.YtlhfkkionaemhaaHJoinTop
namespace Go.Proofs.Ytlhfkkionaemhaa.H
set_option linter.unusedSimpArgs false
set_option linter.unusedVariables false
open Go Go.RowKit Go.Maps Go.Proofs.YtlhfkkionaemhaaW.PrintWords Go.Proofs.YtlhfkkionaemhaaW.PrintLast Go.Proofs.YtlhfkkionaemhaaW.PrintMore Go.Proofs.Ytlhfkkionaemhaa.Plain

theorem AnySt.alloc {P : Pk} {L : List Pk} {g k : Nat} {w : World} (h : AnySt P L g k w) (o : Obj) : AnySt P L g k (w.alloc o) := by
  obtain ⟨q, h1, h2⟩ := h
  exact ⟨q, h1.alloc o, h2⟩
/-- What the law knows before the piece at k. -/
structure AnyAt (w0 : World) (P : Pk) (L : List Pk) (g g5 : Nat) (cur : Array Value) (k : Nat) (wr : World) : Prop where
  st : AnySt P L g k wr
  row : wr.heap[g5]? = some (.cells cur 32 (0, 0))
  pk : wr.heap[w0.heap.size]? = some (.cells #[.int .u32 P.src, .int .u32 P.dst, .int .i64 P.proto, .int .i64 P.ttl, .int .i64 P.id, .int .i64 P.off, .bool P.more, .bool P.whole, .string P.body] 32 (0, 0))
  fr : Below w0.heap.size w0 wr
set_option maxHeartbeats 8000000 in
set_option maxRecDepth 100000 in
theorem joinAny_calls (a0 a1 a2 a3 a4 a5 : Int) (a6 a7 : Bool) (a8 : ByteArray) (most : Int) (by_ : Value) (w : World) (hi : IntsAt w by_) :
    Calls Try.prog 4 #[.agg #[.int .u32 a0, .int .u32 a1, .int .i64 a2, .int .i64 a3, .int .i64 a4, .int .i64 a5, .bool a6, .bool a7, .string a8], .int .i64 most, by_] w fun e w' => e = .returned (.bool true) ∧ Below w.heap.size w w' := by
  have hent := fun W => entire_pk ⟨a0, a1, a2, a3, a4, a5, a6, a7, a8⟩ 60 (by decide) W
  obtain ⟨hP, hP60⟩ := whole_base ⟨a0, a1, a2, a3, a4, a5, a6, a7, a8⟩ 60 (by decide)
  generalize whole_ ⟨a0, a1, a2, a3, a4, a5, a6, a7, a8⟩ 60 = P at hent hP hP60
  obtain ⟨n1, e1, k1, k1'⟩ := lim_of most 40 (by decide) (by decide)
  have hcut := fun W => cut_pk P n1 hP k1 (by omega) W
  obtain ⟨hl0, hl1⟩ := cutL_len P n1 k1
  have hmix := fun B0 v W hR hI => mixed_calls B0 v by_ (cutL P n1) hl0 (by omega) W hR hI
  have hin := fun (L : List Pk) (g k : Nat) hp hk hl W hA => any_in P n1 L g k hP k1 hp hk hl W hA
  have hnew := fun W => new_table 1 9 (by decide) (by decide) W
  simp only [packV] at hent hcut hin
  generalize cutL P n1 = L0 at hcut hl0 hl1 hmix hin
  go_enter Try.func4, Try.ntmps4
  go_wp2_with (first | (go_at_call 7; refine (joinLives_calls _).mono ?_; rintro e w1 ⟨rfl, hb1⟩) | (go_at_call 14; refine (lives_calls _).mono ?_; rintro e w2 ⟨rfl, hb2⟩; have hq := blk_below (blk_below (blk_new w (.cells #[.int .u32 a0, .int .u32 a1, .int .i64 a2, .int .i64 a3, .int .i64 a4, .int .i64 a5, .bool a6, .bool a7, .string a8] 32 (0, 0))) hb1) hb2; obtain ⟨hd0, hd1, hd2, hd3, hd4, hd5, hd6, hd7, hd8⟩ := pk_cells' hq) | (go_at_call 15; refine (hent _).mono ?_; rintro e w3 ⟨rfl, o1, o2, o3, o4, rfl⟩) | (refine gate_ (.store 32 (.tmp 3) (.tmp 23)) rfl ?_; refine wpList_store_part rfl 32 (.tmp 3) (.tmp 23) rfl rfl (packV P) #[.int .u32 P.src, .int .u32 P.dst, .int .i64 P.proto, .int .i64 P.ttl, .int .i64 P.id, .int .i64 P.off, .bool P.more, .bool P.whole, .string P.body] rfl rfl rfl (blk_alloc (blk_alloc (blk_alloc (blk_alloc hq o1) o2) o3) o4) sizeP rfl (pk_one _ _ _ _ _ _ _ _ _) _ rfl ?_))
  intro W2 hbx hg
  have hz1 := hb1.size
  have hz2 := hb2.size
  simp only [World.size_alloc] at hz1
  have hbw : Below w.heap.size w W2 := (((((((Below.refl _ _).alloc (Nat.le_refl _) _).trans (hb1.mono (by simp))).trans (hb2.mono (by omega))).alloc (by omega) o1).alloc (by simp; omega) o2).alloc (by simp; omega) o3 |>.alloc (by simp; omega) o4).grown hg (by simp; omega) (fun k hk => by cases hk; exact Nat.le_refl _)
  clear hd0 hd1 hd2 hd3 hd4 hd5 hd6 hd7 hd8 hq hg hb1 hb2 hent hz1 hz2
  obtain ⟨hc0, hc1, hc2, hc3, hc4, hc5, hc6, hc7, hc8⟩ := pk_cells' hbx
  have hW2 := hbw.size
  go_wp2_with (first | (go_at_call 16; refine (hcut _).mono ?_; rintro e w3 ⟨v3, rfl, hR3, hb3⟩; obtain ⟨g3, cap3, cur3, rfl, hg3, hh3, hcap3, _, _, _⟩ := prow_open hR3 hl0) | (go_at_call 8; refine (hnew _).mono ?_; rintro e w4 ⟨rfl, hT4, hb4⟩; have hbw4 := (hbw.trans (hb3.mono hW2)).trans (hb4.mono (Nat.le_trans hW2 hb3.size)); have hmx := hmix _ _ w4 (show PRow w4 _ _ _ from own_move hR3 (fun k hk => hb4.block k (own_lt hR3 k hk))) (hi.below hbw4)) | (go_at_call 17; refine hmx.mono ?_; rintro e w5 ⟨v5, L, rfl, hp5, hR5, hb5⟩; obtain ⟨g5, cap5, cur, rfl, hg5, hh5, hcap5, hcm5, hcs5, hct5⟩ := prow_open hR5 (by rw [hp5.length_eq]; exact hl0)))
  have hlen := hp5.length_eq
  have hgw : w.heap.size ≤ w3.heap.size := Nat.le_trans hW2 hb3.size
  have hA : AnyAt w P L w3.heap.size g5 cur 0 w5 := ⟨⟨none, ⟨_, [], [], hT4.below hb5, .inl rfl, (fun e he => by cases he)⟩, fun _ => .inl ⟨rfl, rfl⟩, fun _ => rfl, fun _ => rfl⟩, hh5, blk_below (blk_below (blk_below hbx hb3) hb4) hb5, hbw4.trans (hb5.mono hbw4.size)⟩
  have hle : L.length ≤ 8 := by omega
  clear hc0 hc1 hc2 hc3 hc4 hc5 hc6 hc7 hc8 hbx hbw hb3 hb4 hb5 hT4 hR5 hR3 hh3 hcut hnew hmx hmix hbw4 hh5 hi hcm5 hcs5 hg3 hcap3 e1
  generalize w3.heap.size = g at hA hgw hg5 ⊢
  have HC := Lib.hid hct5
  have HP := Lib.hid hp5
  have HIN := Lib.hid hin
  clear hct5 hp5 hin
  have HLen := Lib.hid hlen
  have hlz : (L.length : Int) = (L0.length : Int) := by omega
  have HLz := Lib.hid hlz
  clear hlen hlz
  go_loopw [52] (fun i wr => ∃ k : Nat, i = .int .i64 k ∧ k ≤ L.length ∧ AnyAt w P L g g5 cur k wr) (fun i _ => L.length - (intOf i).toNat)
  case atStart => exact ⟨0, rfl, Nat.zero_le _, hA⟩
  case round =>
    clear hA
    obtain ⟨k, rfl, hk, hA⟩ := hrel
    obtain ⟨hst, hrow, hpk, hfr⟩ := hA
    by_cases hlt : k < L.length
    · have hcall := fun W hW => HIN.out L g k HP.out hlt (by omega) W hW
      obtain ⟨q0, q1, q2, q3, q4, q5, q6, q7, q8⟩ := prow_nine hrow HC.out k hlt
      generalize L[k] = f at hcall q0 q1 q2 q3 q4 q5 q6 q7 q8
      have hz := hfr.size
      by_cases hkn : k + 1 = L.length
      · have hbe : ((k : Int) == (L0.length : Int) - 1) = true := beq_iff_eq.mpr (by have := HLz.out; omega)
        have hne : ∀ W, (binOp .neq 32 (.agg #[.int .u32 P.src, .int .u32 P.dst, .int .i64 P.proto, .int .i64 P.ttl, .int .i64 P.id, .int .i64 P.off, .bool P.more, .bool P.whole, .string P.body]) (.agg #[.int .u32 P.src, .int .u32 P.dst, .int .i64 P.proto, .int .i64 P.ttl, .int .i64 P.id, .int .i64 P.off, .bool P.more, .bool P.whole, .string P.body])).run Try.prog W = .ok (.bool false) W := fun W => by
          have h := nePk P P W
          rw [(pkEq_iff P P).mpr rfl] at h
          exact h
        have hcl := fun W (hW : AnySt P L g k W) => (hcall W hW).mono (fun e w' (hh : AnyIn P L g k W e w') => (show e = .returned (.tuple #[.agg #[.int .u32 P.src, .int .u32 P.dst, .int .i64 P.proto, .int .i64 P.ttl, .int .i64 P.id, .int .i64 P.off, .bool P.more, .bool P.whole, .string P.body], .bool true, .int .i64 0]) ∧ AnySt P L g (k + 1) w' ∧ Below g W w' ∧ Keep32 W w' by
          obtain ⟨h1, h2⟩ := hh
          rw [if_pos hkn, decide_eq_true hkn] at h1
          exact ⟨h1, h2⟩))
        clear hcall
        have HK := Lib.hid hkn
        clear hkn
        go_wp2_with (go_at_call 10; refine (hcl _ (hst.alloc _)).mono ?_; rintro e w6 ⟨rfl, hst6, hb6, hk6⟩; have hp6 := hk6 _ _ (blk_alloc hpk _); have hr6 := hk6 _ _ (blk_alloc hrow _); obtain ⟨hc0, hc1, hc2, hc3, hc4, hc5, hc6, hc7, hc8⟩ := pk_cells' hp6; have hl6 := blk_lt hp6)
        go_roundw
        case rel => exact ⟨k + 1, by go_num, hlt, hst6.alloc _, blk_alloc hr6 _, blk_alloc hp6 _, (((hfr.alloc hz _).trans (hb6.mono hgw)).alloc (by have := hb6.size; simp at this; omega) _)⟩
        case measure => simp [intOf]; omega
      · have hbe : ((k : Int) == (L0.length : Int) - 1) = false := beq_eq_false_iff_ne.mpr (by have := HLz.out; omega)
        have hcl := fun W (hW : AnySt P L g k W) => (hcall W hW).mono (fun e w' (hh : AnyIn P L g k W e w') => (show e = .returned (.tuple #[.agg #[.int .u32 0, .int .u32 0, .int .i64 0, .int .i64 0, .int .i64 0, .int .i64 0, .bool false, .bool false, .string ⟨#[]⟩], .bool false, .int .i64 0]) ∧ AnySt P L g (k + 1) w' ∧ Below g W w' ∧ Keep32 W w' by
          obtain ⟨h1, h2⟩ := hh
          rw [if_neg hkn, decide_eq_false hkn] at h1
          exact ⟨h1, h2⟩))
        clear hcall
        have HK := Lib.hid hkn
        clear hkn
        go_wp2_with (go_at_call 10; refine (hcl _ (hst.alloc _)).mono ?_; rintro e w6 ⟨rfl, hst6, hb6, hk6⟩; have hp6 := hk6 _ _ (blk_alloc hpk _); have hr6 := hk6 _ _ (blk_alloc hrow _); have hl6 := blk_lt hp6)
        go_roundw
        case rel => exact ⟨k + 1, by go_num, hlt, hst6.alloc _, blk_alloc hr6 _, blk_alloc hp6 _, (((hfr.alloc hz _).trans (hb6.mono hgw)).alloc (by have := hb6.size; simp at this; omega) _)⟩
        case measure => simp [intOf]; omega
    · obtain rfl : k = L.length := by omega
      obtain ⟨o, ⟨lv, xs, E, hT, h2, _⟩, _, ho, _⟩ := hst
      have ho' := ho rfl
      subst ho'
      have hE : E.length = 0 := by have := two_len h2; simpa using this
      have hx : xs.length = 0 := by have := hT.ents.1; omega
      obtain ⟨A, c, rfl⟩ := own_slice hT.row
      have hwt := wait_calls 1 9 0 A xs.length c g wr hT.blk
      rw [hx] at hwt
      clear hx hE hT ho hrow hpk
      have hlz : ¬ (L.length : Int) < (L.length : Int) := by omega
      go_wp2_with (go_at_call 12; refine hwt.mono ?_; rintro e w6 ⟨rfl, rfl⟩)
      go_ret
      exact ⟨rfl, hfr⟩
end Go.Proofs.Ytlhfkkionaemhaa.H
