/- join: slices.Concat and slices.Grow at packets; slices.Contains. Conditions: sizes. -/
import Derived.Test.YtlhfkkionaemhaaHJoinTop
namespace Go.Proofs.Ytlhfkkionaemhaa.H
set_option linter.unusedSimpArgs false
set_option linter.unusedVariables false
open Go Go.RowKit Go.Maps Go.Proofs.YtlhfkkionaemhaaW.PrintWords Go.Proofs.YtlhfkkionaemhaaW.PrintLast Go.Proofs.YtlhfkkionaemhaaW.PrintMore Go.Proofs.Ytlhfkkionaemhaa.Plain

/-- append(nil, make([]T, n)...). -/
theorem run_append_zeros {P : Program} (w : World) (t u ty e : TypeId) (i : TypeInfo) (z : Value) (ht : P.underlying t = some (.slice e)) (hu : P.underlying u = some (.int .i64)) (hi : P.info? e = some i) (hz : i.zero = some z)
    (n : Nat) (h0 : 0 < n) (hn : n ≤ 1000000) (hs : 0 < i.size) (hb : i.bytes ≤ 1000) :
    (Builtin.append_ #[t, u] ty #[.slice none 0 0, .int .i64 n]).run P w =
      .ok (.slice (some ⟨w.heap.size, 0, none⟩) n (grownCap w n 0 e)) (w.drew.alloc (.cells (Builtin.zeroCells z.cells n ++ Builtin.zeroCells z.cells (grownCap w n 0 e - n)) e)) := by
  have hn0 : n ≠ 0 := by omega
  have hw : IntKind.i64.wrap (n : Int) = (n : Int) := IntWalk.i64_in _ (by omega)
  have hm : n * i.bytes ≤ 1000000000 := by
    have := Nat.mul_le_mul hn hb
    omega
  have h1 : ¬ ((n : Int) < 0) := by omega
  have h2 : ¬ (281474976710656 < (n : Int) * (i.bytes : Int)) := by
    have : ((n * i.bytes : Nat) : Int) = (n : Int) * (i.bytes : Int) := by simp
    omega
  have h63' : ¬ (9223372036854775807 < (n : Int)) := by omega
  have h48' : ¬ (281474976710656 < Builtin.nextslicecap n 0 * i.bytes) := by rw [nextslicecap_zero h0]; omega
  have hns : ¬ (n * i.size = 0) := by
    have := Nat.mul_pos h0 hs
    omega
  have hs0 : i.size ≠ 0 := by omega
  simp [Builtin.append_, run_underlying ht, run_underlying hu, sizeOf, typeInfo, zeroValue, hi, hz, Builtin.lenOf, hn0, hw, h1, h2, h63', h48', hns, hs0, Question.forced, run_firstCells_none, newRow, grownCap, asInt, asIntOf]

/-- The same, at the operation. -/
theorem wpList_append_zeros {P : Program} {ops : Array Oper} {rest : List Oper} {o : Oper} {a : Act} {Q : Exit → Act → World → Prop} {w : World} (hgd : o.guard = none) (s x : Operand) (t u : TypeId)
    (ho : o.op = .call { callee := .builtin .append, args := #[s, x], argTypes := #[t, u] }) (e : TypeId) (i : TypeInfo) (z : Value) (ht : P.underlying t = some (.slice e)) (hu : P.underlying u = some (.int .i64)) (hi : P.info? e = some i) (hz : i.zero = some z) (hzs : z.cells.size = i.size)
    (n : Nat) (h0 : 0 < n) (hn : n ≤ 1000000) (hs : 0 < i.size) (hb : i.bytes ≤ 1000) (hsv : a.eval s = .slice none 0 0) (hx : a.eval x = .int .i64 n)
    (h : ∀ c cur w1, w1.heap[w.heap.size]? = some (.cells cur e (0, 0)) → n ≤ c → c ≤ maxLen → cur.size = c * i.size → Below w.heap.size w w1 → wpList P ops Q rest (a.put o.dst (.slice (some ⟨w.heap.size, 0, none⟩) n c)) w1) :
    wpList P ops Q (o :: rest) a w := by
  refine wpList_plain hgd fun K hK => ?_
  have hr := run_append_zeros (P := P) w t u o.type e i z ht hu hi hz n h0 hn hs hb
  have hge := grownCap_ge w n 0 e
  have hcm : grownCap w n 0 e ≤ maxLen := grownCap_le_maxLen w n 0 e (by unfold maxLen; omega)
  unfold Oper.wp execOp
  simp only [ho, resolve, invoke, builtin, Sem.run_bind, Sem.run_pure, Result.andThen_ok, List.map_toArray, List.map_cons, List.map_nil, hsv, hx, hr]
  refine hK _ _ (h _ _ _ (heap_alloc_new w.drew _) hge hcm ?_ (((Below.refl w.heap.size w).drew).alloc (Nat.le_refl _) _))
  rw [Array.size_append, size_zeroCells, size_zeroCells, hzs, ← Nat.add_mul]
  congr 1
  omega
set_option maxHeartbeats 1000000 in
theorem grow_calls (n : Nat) (h0 : 0 < n) (hn : n ≤ 1000) (w : World) :
    Calls Try.prog 33 #[.slice none 0 0, .int .i64 n] w fun e w' => ∃ v, e = .returned v ∧ PRow w' w.heap.size v [] ∧ Below w.heap.size w w' := by
  obtain ⟨i0, hi, hz0, hz1, hz2⟩ := info_parts info32
  have hz : (0 : Int) < n := by omega
  go_enter Try.func33, Try.ntmps33
  go_wp2_with (at_builtin; refine wpList_append_zeros rfl (.tmp 20) (.tmp 21) 22 3 rfl 32 i0 _ Try.underlying22 Try.underlying3 hi hz0 (by rw [hz1]; rfl) n h0 (by omega) (by rw [hz1]; decide) (by rw [hz2]; decide) rfl rfl ?_)
  intro c cur w1 hh hc1 hc2 hcs hb
  have hnc : ¬ (c : Int) < 0 := by omega
  have hl1 := blk_lt hh
  unfold maxLen at hc2
  go_wp2
  go_ret
  exact ⟨_, rfl, ⟨rfl, .inr ⟨w.heap.size, c, cur, rfl, Nat.le_refl _, hh, Nat.zero_le _, by unfold maxLen; omega, hcs, rfl⟩⟩, hb⟩

def flat2 (vs : List (Value × List Pk)) : List Pk := vs.flatMap (·.2)
theorem flat2_take (vs : List (Value × List Pk)) (k : Nat) (h : k < vs.length) : flat2 (vs.take (k + 1)) = flat2 (vs.take k) ++ vs[k].2 := by
  unfold flat2
  rw [List.take_succ_eq_append_getElem h, List.flatMap_append]
  simp
theorem flat2_len (vs : List (Value × List Pk)) (M : Nat) (h : ∀ p ∈ vs, p.2.length ≤ M) : (flat2 vs).length ≤ vs.length * M := by
  induction vs with
  | nil => simp [flat2]
  | cons p vs ih =>
    have h1 := h p List.mem_cons_self
    have h2 := ih (fun q hq => h q (List.mem_cons_of_mem _ hq))
    unfold flat2 at h2 ⊢
    rw [List.flatMap_cons, List.length_append, List.length_cons, Nat.succ_mul]
    omega
set_option maxHeartbeats 4000000 in
set_option maxRecDepth 100000 in
theorem concat_calls (B0 b cp : Nat) (vs : List (Value × List Pk)) (hm : 0 < vs.length) (hm2 : vs.length ≤ 3) (w : World) (hb : b < w.heap.size) (hcell : ∀ i (hi : i < vs.length), w.cell? ⟨b, i, none⟩ = some vs[i].1) (hrow : ∀ p ∈ vs, PRow w B0 p.1 p.2 ∧ 0 < p.2.length ∧ p.2.length ≤ 20) :
    Calls Try.prog 18 #[.slice (some ⟨b, 0, none⟩) vs.length cp] w fun e w' => ∃ v', e = .returned v' ∧ PRow w' w.heap.size v' (flat2 vs) ∧ Below w.heap.size w w' := by
  obtain ⟨i0, hi, hz0, hz1, hz2⟩ := info_parts info32
  have hfl := flat2_len vs 20 (fun p hp => (hrow p hp).2.2)
  have hf0 : 0 < (flat2 vs).length := by
    have e := flat2_take vs 0 hm
    have h0 := (hrow vs[0] (List.getElem_mem hm)).2.1
    have : flat2 (vs.take 1) <+: flat2 vs := by
      refine ⟨flat2 (vs.drop 1), ?_⟩
      unfold flat2
      rw [← List.flatMap_append, List.take_append_drop]
    have h1 := this.length_le
    rw [e, List.length_append] at h1
    omega
  have HC := Lib.hid hcell
  have HR := Lib.hid hrow
  clear hcell hrow
  have hgrow := fun W => grow_calls (flat2 vs).length hf0 (by omega) W
  go_enter Try.func18, Try.ntmps18
  go_wp2
  go_loop [3, 5, 11] (fun s _ i => ∃ k : Nat, i = .int .i64 k ∧ k ≤ vs.length ∧ s = .int .i64 ((flat2 (vs.take k)).length : Nat)) (fun _ _ i => vs.length - (intOf i).toNat)
  case atStart => exact ⟨0, rfl, Nat.zero_le _, rfl⟩
  case round =>
    obtain ⟨k, rfl, hk, rfl⟩ := hrel
    by_cases hlt : k < vs.length
    · obtain ⟨r1, r2, r3⟩ := HR.out _ (List.getElem_mem hlt)
      obtain ⟨g, cap, cur, hv, _, _, hcap, _, _, _⟩ := prow_open r1 r2
      have hck := HC.out k hlt
      rw [hv] at hck
      have hsum := flat2_take vs k hlt
      have hs2 : (flat2 (vs.take (k + 1))).length = (flat2 (vs.take k)).length + vs[k].2.length := by rw [hsum, List.length_append]
      have hbd := flat2_len (vs.take k) 20 (fun p hp => (HR.out p (List.mem_of_mem_take hp)).2.2)
      have hkl : (vs.take k).length = k := by simp; omega
      rw [hkl] at hbd
      generalize vs[k].2.length = n at hck r2 r3 hs2 hcap
      generalize (flat2 (vs.take k)).length = S at hs2 hbd
      have HS := Lib.hid hs2
      clear hs2 hsum hkl r1 hv
      have hneg : ¬ ((S : Int) + (n : Int) < 0) := by omega
      have hq : decide ((S : Int) + (n : Int) < 0) = false := decide_eq_false hneg
      go_wp2
      go_round
      case rel => exact ⟨k + 1, by go_num, by omega, by rw [HS.out]; go_num⟩
      case measure => simp [intOf]; omega
    · obtain rfl : k = vs.length := by omega
      rw [List.take_length]
      have hlz : ¬ (vs.length : Int) < (vs.length : Int) := by omega
      go_wp2_with (go_at_call 33; refine (hgrow _).mono ?_; rintro e w1 ⟨v1, rfl, hR1, hb1⟩)
      clear hgrow
      go_loopw [6, 8, 27] (fun v _ i wr => ∃ k : Nat, i = .int .i64 k ∧ k ≤ vs.length ∧ PRow wr w.heap.size v (flat2 (vs.take k)) ∧ Below w.heap.size w wr) (fun _ _ i _ => vs.length - (intOf i).toNat)
      case atStart => exact ⟨0, rfl, Nat.zero_le _, hR1, hb1⟩
      case round =>
        clear hR1 hb1
        obtain ⟨k, rfl, hk, hRr, hbr⟩ := hrel
        have hbz := hbr.size
        by_cases hlt : k < vs.length
        · obtain ⟨r1, r2, r3⟩ := HR.out _ (List.getElem_mem hlt)
          obtain ⟨g, cap, cur, hv, _, hh, hcap, _, _, hct⟩ := prow_open r1 r2
          have hck := HC.out k hlt
          rw [hv] at hck
          have hck2 := pw_cell_below hbr hck
          have hh2 := blk_below hh hbr
          have hsum := flat2_take vs k hlt
          have hbd := flat2_len (vs.take k) 20 (fun p hp => (HR.out p (List.mem_of_mem_take hp)).2.2)
          have hkl : (vs.take k).length = k := by simp; omega
          rw [hkl] at hbd
          have hfl2 := flat_len vs[k].2
          have hnew : ∀ j u, (vs[k].2.flatMap pkc)[j]? = some u → wr.cell? ((⟨g, 0, none⟩ : Addr).add j) = some u := fun j u hu => by
            rw [show ((⟨g, 0, none⟩ : Addr).add j) = ⟨g, j, none⟩ by simp [Addr.add] <;> omega, blk_cell hh2, ← hu, ← hct, List.getElem?_take_of_lt (by have := (List.getElem?_eq_some_iff.mp hu).1; rw [flat_len] at this; omega)]
            simp
          generalize vs[k].2 = Lk at hck2 r2 r3 hcap hfl2 hnew hsum
          have HS := Lib.hid hsum
          clear hsum hkl r1 hv hck hct hh hh2
          obtain ⟨A, c, rfl⟩ := own_slice hRr
          go_wp2_with (at_builtin; refine wpList_append_own_at _ rfl (.tmp 31) (.tmp 32) 22 rfl w.heap.size 32 i0 _ 9 64 Try.underlying22 hi hz0 hz1 hz2 rfl (by decide) _ _ _ rfl hRr ⟨g, 0, none⟩ Lk.length cap (Lk.flatMap pkc) rfl hfl2 hnew (flat_one Lk) ?c1 ?c2 ?c3 ?_)
          case c1 => unfold maxLen; omega
          case c2 => omega
          case c3 => omega
          intro v' w' hown' hg' _ _
          go_wp2
          go_roundw
          case rel =>
            refine ⟨k + 1, by go_num, by omega, ?_, hbr.grown hg' hbz (fun q hq => ownBlock_le hRr hq)⟩
            show w'.ownsRow _ _ _ _ _ _
            rw [HS.out, List.length_append, List.flatMap_append]
            exact hown'
          case measure => simp [intOf]; omega
        · obtain rfl : k = vs.length := by omega
          rw [List.take_length] at hRr
          have hlz : ¬ (vs.length : Int) < (vs.length : Int) := by omega
          go_wp2
          go_ret
          exact ⟨_, rfl, hRr, hbr⟩
end Go.Proofs.Ytlhfkkionaemhaa.H
