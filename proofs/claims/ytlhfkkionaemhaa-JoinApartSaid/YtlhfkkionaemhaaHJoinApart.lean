/- join: the walk of JoinApart: pieces of two packets that come in turns are joined to both. Conditions: none but the arguments' sizes. -/
import Derived.Shelf.SlicesQ.Contains
import Derived.Test.YtlhfkkionaemhaaHJoinApartLaw
namespace Go.Proofs
open Go.Shelf
def Try.lCon_ren : Go.Shelf.Ren := ⟨fun | 6 => 34 | 7 => 19 | n => n, fun | 22 => 22 | 24 => 32 | 3 => 3 | 4 => 4 | 0 => 0 | n => n, fun | n => n⟩
theorem Try.lCon : Go.Proofs.SlLaysQ.n7 Try.prog Try.lCon_ren := {
  mixed := by kernel_rfl
  f6 := ⟨Try.f34.name, by decide, Try.func34.trans (congrArg some (by kernel_rfl))⟩
  f7 := ⟨Try.f19.name, by decide, Try.func19.trans (congrArg some (by kernel_rfl))⟩
  t0 := Try.underlying0
  a0 := Try.isAgg0
  z0 := Try.sizeOf0
  v0 := Try.zeroValue0
  t3 := Try.underlying3
  a3 := Try.isAgg3
  z3 := Try.sizeOf3
  v3 := Try.zeroValue3
  t4 := Try.underlying4
  a4 := Try.isAgg4
  z4 := Try.sizeOf4
  v4 := Try.zeroValue4
  t22 := Try.underlying22
  a22 := Try.isAgg22
  z22 := Try.sizeOf22
  v22 := Try.zeroValue22 }
end Go.Proofs
namespace Go.Proofs.Ytlhfkkionaemhaa.H
set_option linter.unusedSimpArgs false
set_option linter.unusedVariables false
open Go Go.RowKit Go.Maps Go.Proofs.YtlhfkkionaemhaaW.PrintWords Go.Proofs.YtlhfkkionaemhaaW.PrintLast Go.Proofs.YtlhfkkionaemhaaW.PrintMore Go.Proofs.Ytlhfkkionaemhaa.Plain

theorem eql_pk : EqlAt Try.prog 32 (fun x : Pk => .agg (pkc x).toArray) pkEq :=
  ⟨fun x y w => eqPk x y w, GuardAt.agg (fun x : Pk => (pkc x).toArray) (by kernel_rfl)⟩
theorem contains_calls (B0 : Nat) (v : Value) (L : List Pk) (hl : 0 < L.length) (hl2 : L.length ≤ 1000) (p : Pk) (hp : p ∈ L) (w : World) (hR : PRow w B0 v L) :
    Calls Try.prog 19 #[v, packV p] w fun e w' => e = .returned (.bool true) ∧ Below w.heap.size w w' := by
  obtain ⟨g, cap, cur, rfl, hg, hh, h1, h2, h3, h4⟩ := prow_open hR hl
  have : Inhabited Pk := ⟨zeroPk⟩
  have hc : ∀ j, j < L.length → ∀ i v, (pkc L[j]!)[i]? = some v → w.cell? ⟨g, 0 + j * 9 + i, none⟩ = some v := fun j hj i v hi => by
    rw [Nat.zero_add]
    rw [getElem!_pos L j hj] at hi
    exact prow_cells hh h4 j hj i v hi
  have h := AnyQ.slices_Contains (P := Try.prog) (ρ := Try.lCon_ren) Try.lCon 9 Try.isAgg32 Try.sizeOf32 pkc (fun _ => rfl) pkEq eql_pk g 0 L.length cap L p w (Nat.le_refl _) (by omega) hc
  have ha : ((L.take L.length).any fun y => pkEq p y) = true := List.any_eq_true.mpr ⟨p, by rw [List.take_length]; exact hp, (pkEq_iff p p).mpr rfl⟩
  rw [ha] at h
  exact h
theorem PRow.keep {w w' : World} {B : Nat} {v : Value} {L : List Pk} (h : PRow w B v L) (hk : Keep32 w w') : PRow w' B v L := by
  obtain ⟨h0, h⟩ := h
  refine ⟨h0, ?_⟩
  rcases h with h | ⟨g, cap, cur, hv, hg, hh, r⟩
  · exact .inl h
  · exact .inr ⟨g, cap, cur, hv, hg, hk _ _ hh, r⟩
theorem PRow.below {w w' : World} {B : Nat} {v : Value} {L : List Pk} (h : PRow w B v L) (hb : Below w.heap.size w w') : PRow w' B v L := own_move h (fun k hk => hb.block k (own_lt h k hk))
/-- The second packet, with a number of its own. -/
def other (P Q : Pk) : Pk := { Q with id := (P.id + 1) % 65536 }
theorem other_base {P Q : Pk} (h : Base Q) : Base (other P Q) := ⟨h.proto, h.ttl, by show 0 ≤ (P.id + 1) % 65536 ∧ (P.id + 1) % 65536 ≤ 65535; omega, h.off, h.more, h.whole, h.size⟩
theorem other_ne {P Q : Pk} (h : Base P) : P.id ≠ (other P Q).id := by
  have := h.id
  show P.id ≠ (P.id + 1) % 65536
  omega
theorem ap_rows {w3 w4 w5 : World} {v3 v4 : Value} {LA LB : List Pk} {B3 B4 : Nat} (h3 : PRow w3 B3 v3 LA) (h4 : PRow w4 B4 v4 LB) (hb4 : Below w3.heap.size w3 w4) (hb5 : Below w4.heap.size w4 w5) (o : Obj) : PRow (w5.alloc o) 0 v3 LA ∧ PRow (w5.alloc o) 0 v4 LB :=
  ⟨own_less (World.ownsRow.alloc ((h3.below hb4).below hb5) o) (Nat.zero_le _), own_less (World.ownsRow.alloc (h4.below hb5) o) (Nat.zero_le _)⟩
theorem ap_cells (w : World) (a b : Value) {LA LB : List Pk} : ∀ i (hi : i < [(a, LA), (b, LB)].length), (w.alloc (.cells #[a, b] 22 (0, 0))).cell? ⟨w.heap.size, i, none⟩ = some ([(a, LA), (b, LB)][i]).1 := by
  intro i hi
  rw [blk_cell (blk_new w _)]
  match i, hi with
  | 0, _ => rfl
  | 1, _ => rfl
theorem ap_hrow {W : World} {a b : Value} {LA LB : List Pk} (h1 : PRow W 0 a LA) (h2 : PRow W 0 b LB) (p1 : 0 < LA.length) (p2 : 0 < LB.length) (q1 : LA.length ≤ 20) (q2 : LB.length ≤ 20) : ∀ p ∈ [(a, LA), (b, LB)], PRow W 0 p.1 p.2 ∧ 0 < p.2.length ∧ p.2.length ≤ 20 := by
  intro p hp
  simp only [List.mem_cons, List.not_mem_nil, or_false] at hp
  rcases hp with rfl | rfl
  · exact ⟨h1, p1, q1⟩
  · exact ⟨h2, p2, q2⟩
theorem ap_len0 {a b : Value} {LA LB : List Pk} (h : 0 < LA.length) : 0 < (flat2 [(a, LA), (b, LB)]).length := by
  simp [flat2]; omega
theorem ap_len1 {a b : Value} {LA LB : List Pk} (h : LA.length ≤ 20) (h2 : LB.length ≤ 20) : (flat2 [(a, LA), (b, LB)]).length ≤ 1000 := by
  simp [flat2]; omega
theorem rows_apart {w w1 : World} {C n : Nat} {v : Value} {ys : List Value} (ho : w.ownsRow C 32 9 v n ys) (hg : w.grownBy w1 v.ownBlock) {m base size : Nat} {e : TypeId} {u : Value} {zs : List Value} (hz : w.ownsRow base e size u m zs) (he : e ≠ 32) : w1.ownsRow base e size u m zs := by
  refine own_move hz (fun k hk => hg.block k (own_lt hz k hk) ?_)
  intro heq
  obtain ⟨c1, hc1⟩ := own_typed hz k hk
  obtain ⟨c2, hc2⟩ := own_typed ho k heq.symm
  rw [hc1] at hc2
  simp only [Option.some.injEq, Obj.cells.injEq] at hc2
  exact he hc2.2.1
theorem TabTwo.rowed {w w1 : World} {B g L C n : Nat} {room : Int} {oP oQ : Option Ent} {v : Value} {ys : List Value} (h : TabTwo w B g room L oP oQ) (ho : w.ownsRow C 32 9 v n ys) (hg : w.grownBy w1 v.ownBlock) : TabTwo w1 B g room L oP oQ := by
  obtain ⟨lv, xs, E, h1, h2, h3⟩ := h
  refine ⟨lv, xs, E, ⟨h1.hB, by have := h1.hBw; have := hg.size; omega, blk_grown h1.blk hg (own_ne ho h1.blk (by decide)), rows_apart ho hg h1.row (by decide), ⟨h1.ents.1, fun i hi hi2 => ?_⟩, h1.nodup⟩, h2, h3⟩
  obtain ⟨e1, pv, e2, e3⟩ := h1.ents.2 i hi hi2
  exact ⟨e1, pv, blk_grown e2 hg (own_ne ho e2 (by decide)), rows_apart ho hg e3 (by decide)⟩
theorem ap_fr {w wr w6 : World} {o : Obj} {g : Nat} (h1 : Below w.heap.size w wr) (hz : w.heap.size ≤ wr.heap.size) (h6 : Below g (wr.alloc o) w6) (hg : w.heap.size ≤ g) (o1 o2 : Obj) : Below w.heap.size w ((w6.alloc o1).alloc o2) := by
  have a6 := h6.size
  simp only [World.size_alloc] at a6
  exact (((h1.alloc hz o).trans (h6.mono hg)).alloc (by omega) o1).alloc (by simp; omega) o2
theorem tw_fr {w W2 w3 w4 w5 w6 : World} {o : Obj} (h1 : Below w.heap.size w W2) (h3 : Below W2.heap.size W2 w3) (h4 : Below w3.heap.size w3 w4) (h5 : Below w4.heap.size w4 w5) (h6 : Below (w5.alloc o).heap.size (w5.alloc o) w6) : Below w.heap.size w w6 := by
  have a1 := h1.size
  have a3 := h3.size
  have a4 := h4.size
  have a5 := h5.size
  exact (((((h1.trans (h3.mono a1)).trans (h4.mono (by omega))).trans (h5.mono (by omega))).alloc (by omega) o).trans (h6.mono (by simp; omega)))
/-- What the law knows before the piece at k. -/
structure ApAt (w0 : World) (P Q : Pk) (L : List Pk) (g g5 B : Nat) (cur : Array Value) (v : Value) (k : Nat) (wr : World) : Prop where
  st : ApSt P Q L g k wr
  row : wr.heap[g5]? = some (.cells cur 32 (0, 0))
  pk : wr.heap[w0.heap.size]? = some (.cells #[.int .u32 P.src, .int .u32 P.dst, .int .i64 P.proto, .int .i64 P.ttl, .int .i64 P.id, .int .i64 P.off, .bool P.more, .bool P.whole, .string P.body] 32 (0, 0))
  qk : wr.heap[w0.heap.size + 1]? = some (.cells #[.int .u32 Q.src, .int .u32 Q.dst, .int .i64 Q.proto, .int .i64 Q.ttl, .int .i64 Q.id, .int .i64 Q.off, .bool Q.more, .bool Q.whole, .string Q.body] 32 (0, 0))
  fr : Below w0.heap.size w0 wr
  out : ∃ outs, PRow wr B v outs ∧ ApOut P Q L k outs
  hB : B ≤ wr.heap.size
set_option maxHeartbeats 8000000 in
set_option maxRecDepth 100000 in
theorem joinApart_calls (a0 a1 a2 a3 a4 a5 : Int) (a6 a7 : Bool) (a8 : ByteArray) (b0 b1 b2 b3 b4 b5 : Int) (b6 b7 : Bool) (b8 : ByteArray) (by_ : Value) (w : World) (hi : IntsAt w by_) :
    Calls Try.prog 6 #[.agg #[.int .u32 a0, .int .u32 a1, .int .i64 a2, .int .i64 a3, .int .i64 a4, .int .i64 a5, .bool a6, .bool a7, .string a8], .agg #[.int .u32 b0, .int .u32 b1, .int .i64 b2, .int .i64 b3, .int .i64 b4, .int .i64 b5, .bool b6, .bool b7, .string b8], by_] w fun e w' => e = .returned (.bool true) ∧ Below w.heap.size w w' := by
  have hentP := fun W => entire_pk ⟨a0, a1, a2, a3, a4, a5, a6, a7, a8⟩ 40 (by decide) W
  have hentQ := fun W => entire_pk ⟨b0, b1, b2, b3, b4, b5, b6, b7, b8⟩ 40 (by decide) W
  obtain ⟨hP, hP40⟩ := whole_base ⟨a0, a1, a2, a3, a4, a5, a6, a7, a8⟩ 40 (by decide)
  obtain ⟨hQ0, hQ40⟩ := whole_base ⟨b0, b1, b2, b3, b4, b5, b6, b7, b8⟩ 40 (by decide)
  generalize whole_ ⟨a0, a1, a2, a3, a4, a5, a6, a7, a8⟩ 40 = P at hentP hP hP40
  generalize whole_ ⟨b0, b1, b2, b3, b4, b5, b6, b7, b8⟩ 40 = Q0 at hentQ hQ0 hQ40
  simp only [packV] at hentP hentQ
  have hidP := hP.id
  go_enter Try.func6, Try.ntmps6
  go_wp2_with (first | (go_at_call 7; refine (joinLives_calls _).mono ?_; rintro e w1 ⟨rfl, hb1⟩) | (go_at_call 14; refine (lives_calls _).mono ?_; rintro e w2 ⟨rfl, hb2⟩))
  have hp2 := blk_below (blk_below (blk_alloc (blk_new w (.cells #[.int .u32 a0, .int .u32 a1, .int .i64 a2, .int .i64 a3, .int .i64 a4, .int .i64 a5, .bool a6, .bool a7, .string a8] 32 (0, 0))) (.cells #[.int .u32 b0, .int .u32 b1, .int .i64 b2, .int .i64 b3, .int .i64 b4, .int .i64 b5, .bool b6, .bool b7, .string b8] 32 (0, 0))) hb1) hb2
  have hq2 := blk_below (blk_below (blk_new (w.alloc (.cells #[.int .u32 a0, .int .u32 a1, .int .i64 a2, .int .i64 a3, .int .i64 a4, .int .i64 a5, .bool a6, .bool a7, .string a8] 32 (0, 0))) (.cells #[.int .u32 b0, .int .u32 b1, .int .i64 b2, .int .i64 b3, .int .i64 b4, .int .i64 b5, .bool b6, .bool b7, .string b8] 32 (0, 0))) hb1) hb2
  rw [World.size_alloc] at hq2
  have hz1 := hb1.size
  have hz2 := hb2.size
  simp only [World.size_alloc] at hz1
  have hbw : Below w.heap.size w w2 := ((((Below.refl _ _).alloc (Nat.le_refl _) _).alloc (by simp) _).trans (hb1.mono (by simp; omega))).trans (hb2.mono (by omega))
  have hzw : w.heap.size + 2 ≤ w2.heap.size := by omega
  clear hb1 hb2 hz1 hz2
  refine start_ (n := 6) (S := fun w' => w'.heap[w.heap.size]? = some (.cells #[.int .u32 a0, .int .u32 a1, .int .i64 a2, .int .i64 a3, .int .i64 a4, .int .i64 a5, .bool a6, .bool a7, .string a8] 32 (0, 0)) ∧ w'.heap[w.heap.size + 1]? = some (.cells #[.int .u32 b0, .int .u32 b1, .int .i64 b2, .int .i64 b3, .int .i64 b4, .int .i64 b5, .bool b6, .bool b7, .string b8] 32 (0, 0))) (ds := [4, 5]) #[false, false, false, false, false, false] (by kernel_rfl) rfl rfl ⟨blk_drew hp2, blk_drew hq2⟩ (fun hHeld => ?_)
  have hb3 := hbw.drew
  have hz3 : w.heap.size + 2 ≤ w2.drew.heap.size := hzw
  clear hbw hzw hp2 hq2
  generalize w2.drew = W3 at hHeld hb3 hz3 ⊢
  refine take_ (i := 0) (N := some 25) (v := ?_) (a' := ?_) #[true, false, false, false, false, false] rfl rfl (by kernel_rfl) (fun _ _ _ h => h) (Or.inl ⟨by rfl, ?_⟩) hHeld ?_ ?_
  rotate_left
  · rintro w' ⟨s0, s1⟩
    obtain ⟨q0, q1, q2, q3, q4, q5, q6, q7, q8⟩ := pk_cells' s0
    go_simp
    with_reducible rfl
  rotate_left
  · simp only [Act.put, List.setIfInBounds_toArray, List.set_cons_zero, List.set_cons_succ, i64_w, i32_w]
    rfl
  refine take_ (i := 2) (N := some 27) (v := ?_) (a' := ?_) #[true, false, true, false, false, false] rfl rfl (by kernel_rfl) (fun _ _ _ h => h) (Or.inl ⟨by rfl, ?_⟩) hHeld ?_ ?_
  rotate_left
  · rintro w' ⟨s0, s1⟩
    obtain ⟨q0, q1, q2, q3, q4, q5, q6, q7, q8⟩ := pk_cells' s1
    go_simp
    with_reducible rfl
  rotate_left
  · simp only [Act.put, List.setIfInBounds_toArray, List.set_cons_zero, List.set_cons_succ, i64_w, i32_w]
    rfl
  refine one_ (i := 1) (N := some 26) #[true, true, true, false, false, false] rfl rfl (by kernel_rfl) (by decide) (fun K hK => ?_)
  refine call_ 15 #[.agg #[.int .u32 a0, .int .u32 a1, .int .i64 a2, .int .i64 a3, .int .i64 a4, .int .i64 a5, .bool a6, .bool a7, .string a8], .int .i64 40] (by rfl) rfl (by go_simp) ?_
  refine (hentP W3).mono ?_
  rintro e w4 ⟨rfl, o1, o2, o3, o4, rfl⟩
  have hs4 := (⟨blk_alloc (blk_alloc (blk_alloc (blk_alloc hHeld.1 o1) o2) o3) o4, blk_alloc (blk_alloc (blk_alloc (blk_alloc hHeld.2 o1) o2) o3) o4⟩ : _ ∧ _)
  have hb4 := (((hb3.alloc (by omega) o1).alloc (by simp; omega) o2).alloc (by simp; omega) o3).alloc (by simp; omega) o4
  have hz4 : w.heap.size + 2 ≤ ((((W3.alloc o1).alloc o2).alloc o3).alloc o4).heap.size := by simp; omega
  refine ⟨_, rfl, hK.out _ _ hs4 (fun hHeld2 => ?_)⟩
  clear hK K hs4 hb3 hz3 hHeld
  have hHeld := hHeld2
  clear hHeld2
  generalize (((W3.alloc o1).alloc o2).alloc o3).alloc o4 = W4 at hHeld hb4 hz4 ⊢
  refine norm_ (a' := ?_) ?_ ?_
  rotate_left
  · show Act.put _ (some 26) _ = _
    simp only [Act.put, List.setIfInBounds_toArray, List.set_cons_zero, List.set_cons_succ, i64_w, i32_w]
    rfl
  refine one_ (i := 3) (N := some 28) #[true, true, true, true, false, false] rfl rfl (by kernel_rfl) (by decide) (fun K hK => ?_)
  refine call_ 15 #[.agg #[.int .u32 b0, .int .u32 b1, .int .i64 b2, .int .i64 b3, .int .i64 b4, .int .i64 b5, .bool b6, .bool b7, .string b8], .int .i64 40] (by rfl) rfl (by go_simp) ?_
  refine (hentQ W4).mono ?_
  rintro e w5 ⟨rfl, o5, o6, o7, o8, rfl⟩
  have hs5 := (⟨blk_alloc (blk_alloc (blk_alloc (blk_alloc hHeld.1 o5) o6) o7) o8, blk_alloc (blk_alloc (blk_alloc (blk_alloc hHeld.2 o5) o6) o7) o8⟩ : _ ∧ _)
  have hb5 := (((hb4.alloc (by omega) o5).alloc (by simp; omega) o6).alloc (by simp; omega) o7).alloc (by simp; omega) o8
  have hz5 : w.heap.size + 2 ≤ ((((W4.alloc o5).alloc o6).alloc o7).alloc o8).heap.size := by simp; omega
  refine ⟨_, rfl, hK.out _ _ hs5 (fun hHeld2 => ?_)⟩
  clear hK K hs5 hb4 hz4 hHeld
  have hHeld := hHeld2
  clear hHeld2
  generalize (((W4.alloc o5).alloc o6).alloc o7).alloc o8 = W5 at hHeld hb5 hz5 ⊢
  refine norm_ (a' := ?_) ?_ ?_
  rotate_left
  · show Act.put _ (some 28) _ = _
    simp only [Act.put, List.setIfInBounds_toArray, List.set_cons_zero, List.set_cons_succ, i64_w, i32_w]
    rfl
  refine last_ (i := 4) (N := none) #[true, true, true, true, true, false] rfl rfl (by kernel_rfl) (by decide) (fun K hK => ?_)
  refine part_step (by rfl) 32 (.tmp 3) (.tmp 26) rfl (packV P) #[.int .u32 P.src, .int .u32 P.dst, .int .i64 P.proto, .int .i64 P.ttl, .int .i64 P.id, .int .i64 P.off, .bool P.more, .bool P.whole, .string P.body] rfl rfl rfl hHeld.1 sizeP rfl (pk_one _ _ _ _ _ _ _ _ _) _ rfl ?_
  intro W6 hp6 hg6
  have hq6 := blk_grown hHeld.2 hg6 (fun e => by have := Option.some.inj e; omega)
  have hb6 := hb5.grown hg6 (by omega) (fun k hk => by have := Option.some.inj hk; omega)
  have hz6 : w.heap.size + 2 ≤ W6.heap.size := Nat.le_trans hz5 hg6.size
  refine hK.out _ _ ?_
  clear hK K hHeld hb5 hz5 hg6
  refine norm_ (a' := ?_) ?_ ?_
  rotate_left
  · show Act.put _ (none) _ = _
    simp only [Act.put, List.setIfInBounds_toArray, List.set_cons_zero, List.set_cons_succ, i64_w, i32_w]
    rfl
  refine last_ (i := 5) (N := none) #[true, true, true, true, true, true] rfl rfl (by kernel_rfl) (by decide) (fun K hK => ?_)
  refine part_step (by rfl) 32 (.tmp 4) (.tmp 28) rfl (packV Q0) #[.int .u32 Q0.src, .int .u32 Q0.dst, .int .i64 Q0.proto, .int .i64 Q0.ttl, .int .i64 Q0.id, .int .i64 Q0.off, .bool Q0.more, .bool Q0.whole, .string Q0.body] rfl rfl rfl hq6 sizeP rfl (pk_one _ _ _ _ _ _ _ _ _) _ rfl ?_
  intro W7 hq7 hg7
  have hp7 := blk_grown hp6 hg7 (fun e => by have := Option.some.inj e; omega)
  have hb7 := hb6.grown hg7 (by omega) (fun k hk => by have := Option.some.inj hk; omega)
  have hz7 : w.heap.size + 2 ≤ W7.heap.size := Nat.le_trans hz6 hg7.size
  refine hK.out _ _ ?_
  clear hK K hb6 hz6 hg7 hp6 hq6
  refine norm_ (a' := ?_) ?_ ?_
  rotate_left
  · show Act.put _ (none) _ = _
    simp only [Act.put, List.setIfInBounds_toArray, List.set_cons_zero, List.set_cons_succ, i64_w, i32_w]
    rfl
  refine done_ (by kernel_rfl) ?_
  clear hentP hentQ
  obtain ⟨hc0, hc1, hc2, hc3, hc4, hc5, hc6, hc7, hc8⟩ := pk_cells' hp7
  have e5 : IntKind.i64.wrap (P.id + 1) = P.id + 1 := IntWalk.i64_in _ (by omega)
  go_wp2_with (refine gate_ (.store 3 (.tmp 33) (.tmp 32)) rfl ?_; refine wpList_store_cell rfl 3 (.tmp 33) (.tmp 32) rfl rfl (.int .i64 (bits BinOp.and IntKind.i64 (P.id + 1) 65535)) rfl rfl rfl rfl hq7 size1_3 rfl _ rfl ?_)
  intro W8 hq8 hg8
  have hp8 : W8.heap[w.heap.size]? = some (.cells #[.int .u32 P.src, .int .u32 P.dst, .int .i64 P.proto, .int .i64 P.ttl, .int .i64 P.id, .int .i64 P.off, .bool P.more, .bool P.whole, .string P.body] 32 (0, 0)) := blk_grown hp7 hg8 (fun e => by have := Option.some.inj e; omega)
  have hb8 := hb7.grown hg8 (by omega) (fun k hk => by have := Option.some.inj hk; omega)
  have hz8 : w.heap.size + 2 ≤ W8.heap.size := Nat.le_trans hz7 hg8.size
  rw [and_any65535] at hq8
  have hQ := other_base (P := P) hQ0
  have hne := other_ne (Q := Q0) hP
  have hq9 : W8.heap[w.heap.size + 1]? = some (.cells #[.int .u32 (other P Q0).src, .int .u32 (other P Q0).dst, .int .i64 (other P Q0).proto, .int .i64 (other P Q0).ttl, .int .i64 (other P Q0).id, .int .i64 (other P Q0).off, .bool (other P Q0).more, .bool (other P Q0).whole, .string (other P Q0).body] 32 (0, 0)) := hq8
  have hQ40' : (other P Q0).body.size ≤ 40 := hQ40
  clear hc0 hc1 hc2 hc3 hc4 hc5 hc6 hc7 hc8 hb7 hz7 hp7 hq7 hq8 hg8 hQ0 hQ40 e5
  generalize other P Q0 = Q at hQ hne hq9 hQ40'
  have hcut1 := fun W => cut_pk P 28 hP (by decide) (by decide) W
  have hcut2 := fun W => cut_pk Q 28 hQ (by decide) (by decide) W
  obtain ⟨hl0, hl1⟩ := cutL_len P 28 (by decide)
  obtain ⟨hm0, hm1⟩ := cutL_len Q 28 (by decide)
  have hnew := fun W => new_table 2 9 (by decide) (by decide) W
  simp only [packV] at hcut1 hcut2
  obtain ⟨hc0, hc1, hc2, hc3, hc4, hc5, hc6, hc7, hc8⟩ := pk_cells' hp8
  have hW8a : w.heap.size < W8.heap.size := by omega
  go_wp2_with (first | (go_at_call 16; refine (hcut1 _).mono ?_; rintro e w3 ⟨v3, rfl, hR3, hb3⟩; obtain ⟨g3, cap3, cur3, rfl, _, _, _, _, _, _⟩ := prow_open hR3 hl0; have hbx3 := blk_below hq9 hb3; clear hc0 hc1 hc2 hc3 hc4 hc5 hc6 hc7 hc8 hcut1; obtain ⟨hc0, hc1, hc2, hc3, hc4, hc5, hc6, hc7, hc8⟩ := pk_cells' hbx3) | (go_at_call 16; refine (hcut2 _).mono ?_; rintro e w4 ⟨v4, rfl, hR4, hb4⟩; obtain ⟨g4, cap4, cur4, rfl, _, _, _, _, _, _⟩ := prow_open hR4 hm0; clear hcut2 hc0 hc1 hc2 hc3 hc4 hc5 hc6 hc7 hc8))
  refine (hnew _).mono ?_
  rintro e w5 ⟨rfl, hT5, hb5⟩
  clear hnew
  have hR5a := ap_rows hR3 hR4 hb4 hb5 (.cells #[.slice (some ⟨g3, 0, none⟩) (cutL P 28).length cap3, .slice (some ⟨g4, 0, none⟩) (cutL Q 28).length cap4] 22 (0, 0))
  have hcc := concat_calls 0 w5.heap.size 2 [((.slice (some ⟨g3, 0, none⟩) (cutL P 28).length cap3 : Value), cutL P 28), (.slice (some ⟨g4, 0, none⟩) (cutL Q 28).length cap4, cutL Q 28)] (by simp) (by simp) (w5.alloc (.cells #[.slice (some ⟨g3, 0, none⟩) (cutL P 28).length cap3, .slice (some ⟨g4, 0, none⟩) (cutL Q 28).length cap4] 22 (0, 0))) (by simp) (ap_cells w5 _ _) (ap_hrow hR5a.1 hR5a.2 hl0 hm0 (by omega) (by omega))
  go_wp2_with (go_at_call 18; refine hcc.mono ?_; rintro e w6 ⟨v6, rfl, hR6, hb6⟩)
  refine (mixed_calls _ _ by_ _ (ap_len0 hl0) (ap_len1 (by omega) (by omega)) w6 hR6 ?hint).mono ?_
  case hint => exact hi.below (tw_fr hb8 hb3 hb4 hb5 hb6)
  rintro e w7 ⟨v7, L, rfl, hp7, hR7, hb7⟩
  obtain ⟨g5, cap5, cur, rfl, hg5, hh5, hcap5, hcm5, hcs5, hct5⟩ := prow_open hR7 (by rw [hp7.length_eq]; exact ap_len0 hl0)
  go_wp2
  have hz3 := hb3.size
  have hz4 := hb4.size
  have hz5 := hb5.size
  have hz6 := hb6.size
  have hz7 := hb7.size
  simp only [World.size_alloc] at hz6
  have hpair : Pair P Q L := ⟨hP, hQ, hne, by have h := hp7; simp only [flat2, List.flatMap_cons, List.flatMap_nil, List.append_nil] at h; exact h⟩
  have hlL : L.length ≤ 18 := by
    have h1 := hpair.perm.length_eq
    rw [List.length_append] at h1
    omega
  have hT7 : TabTwo w7 w4.heap.size w4.heap.size 2 (1500 * 0) none none := ⟨_, [], [], ((hT5.alloc _).below hb6).below hb7, .inl rfl, (fun e he => by cases he)⟩
  have hS0 : ∀ X : Pk, StOne X (cutL X 28) [] none := fun X => ⟨fun _ => .inl ⟨rfl, rfl⟩, fun _ => rfl, fun _ => rfl⟩
  have hS1 : StOne P (cutL P 28) (TP P L 0) none := by
    have : TP P L 0 = [] := by simp [TP]
    rw [this]; exact hS0 P
  have hS2 : StOne Q (cutL Q 28) (TQ P L 0) none := by
    have : TQ P L 0 = [] := by simp [TQ]
    rw [this]; exact hS0 Q
  have hA : ApAt w P Q L w4.heap.size g5 w7.heap.size cur (.slice none 0 0) 0 w7 := ⟨⟨none, none, hT7, hS1, hS2⟩, hh5, blk_below (blk_below (blk_alloc (blk_below (blk_below (blk_below hp8 hb3) hb4) hb5) _) hb6) hb7, blk_below (blk_below (blk_alloc (blk_below (blk_below hbx3 hb4) hb5) _) hb6) hb7, (tw_fr hb8 hb3 hb4 hb5 hb6).trans (hb7.mono (by omega)), ⟨[], own_nil _ _ _ _, ap_start hpair⟩, Nat.le_refl _⟩
  have hgw : w.heap.size ≤ w4.heap.size := by omega
  have hg5B := blk_lt hh5
  have hwB : w.heap.size + 1 < w7.heap.size := by omega
  clear hp8 hb8 hq9 hb3 hb4 hb5 hb6 hb7 hT5 hT7 hR3 hR4 hR6 hR7 hh5 hbx3 hcc hR5a hi hcm5 hcs5 hz3 hz4 hz5 hz6 hz7 hz8 hS0 hS1 hS2 hp7 hW8a
  generalize w4.heap.size = g at hA hgw ⊢
  generalize w7.heap.size = B at hA hg5B hwB
  have HC := Lib.hid hct5
  have HP := Lib.hid hpair
  clear hct5 hpair
  obtain ⟨i0, hi, hz0, hz1, hz2⟩ := info_parts info32
  go_loopw [13, 69] (fun o i wr => ∃ k : Nat, i = .int .i64 k ∧ k ≤ L.length ∧ ApAt w P Q L g g5 B cur o k wr) (fun _ i _ => L.length - (intOf i).toNat)
  case atStart => exact ⟨0, rfl, Nat.zero_le _, hA⟩
  case round =>
    clear hA
    obtain ⟨k, rfl, hk, hst, hrow, hpk, hqk, hfr, ⟨outs, hR, hout⟩, hBr⟩ := hrel
    obtain ⟨AO, cO, rfl⟩ := own_slice hR
    have hz := hfr.size
    by_cases hlt : k < L.length
    · have hcall := fun W hW => ap_in HP.out g k hlt (by omega) W hW
      obtain ⟨q0, q1, q2, q3, q4, q5, q6, q7, q8⟩ := prow_nine hrow HC.out k hlt
      generalize L[k] = f at hcall q0 q1 q2 q3 q4 q5 q6 q7 q8
      unfold ApIn at hcall
      simp only [packV] at hcall
      have hno : outs.length ≤ 2 := by have := hout.1; split at this <;> split at this <;> omega
      have HO := Lib.hid hout
      clear hout
      go_wp2_with (first | (go_at_call 10; refine (hcall _ (hst.alloc _)).mono ?_; rintro e w6 ⟨d, X, rfl, hst6, hout6, hb6, hk6⟩; have HO6 := Lib.hid hout6; clear hout6 hcall; have hz6 := hb6.size; simp only [World.size_alloc] at hz6; have hR6 : ((w6.alloc (.cells #[.int .u32 X.src, .int .u32 X.dst, .int .i64 X.proto, .int .i64 X.ttl, .int .i64 X.id, .int .i64 X.off, .bool X.more, .bool X.whole, .string X.body] 32 (0, 0))).alloc (.cells #[.int .u32 X.src, .int .u32 X.dst, .int .i64 X.proto, .int .i64 X.ttl, .int .i64 X.id, .int .i64 X.off, .bool X.more, .bool X.whole, .string X.body] 32 (0, 0))).ownsRow B 32 9 (.slice AO outs.length cO) outs.length (outs.flatMap pkc) := World.ownsRow.alloc (World.ownsRow.alloc (PRow.keep (World.ownsRow.alloc hR _) hk6) _) _; have hfr6 := ap_fr hfr hz hb6 hgw (.cells #[.int .u32 X.src, .int .u32 X.dst, .int .i64 X.proto, .int .i64 X.ttl, .int .i64 X.id, .int .i64 X.off, .bool X.more, .bool X.whole, .string X.body] 32 (0, 0)) (.cells #[.int .u32 X.src, .int .u32 X.dst, .int .i64 X.proto, .int .i64 X.ttl, .int .i64 X.id, .int .i64 X.off, .bool X.more, .bool X.whole, .string X.body] 32 (0, 0)); have hn6 := news_cells (w6.alloc (.cells #[.int .u32 X.src, .int .u32 X.dst, .int .i64 X.proto, .int .i64 X.ttl, .int .i64 X.id, .int .i64 X.off, .bool X.more, .bool X.whole, .string X.body] 32 (0, 0))) (w6.heap.size + 1) (by simp) #[.int .u32 X.src, .int .u32 X.dst, .int .i64 X.proto, .int .i64 X.ttl, .int .i64 X.id, .int .i64 X.off, .bool X.more, .bool X.whole, .string X.body] 32 (pkc X) rfl; rcases d with _ | _) | (at_builtin; refine wpList_append_own_at _ rfl (.tmp 83) (.tmp 85) 22 rfl B 32 i0 _ 9 64 Try.underlying22 hi hz0 hz1 hz2 rfl (by decide) _ _ _ rfl hR6 ⟨w6.heap.size + 1, 0, none⟩ 1 1 (pkc X) ?hx rfl hn6 (pkc_one X) ?c1 ?c2 ?c3 ?_; (case hx => rfl); (case c1 => unfold maxLen; omega); (case c2 => omega); (case c3 => simp; omega); intro v9 w9 hown9 hg9 _ _))
      · go_roundw
        case rel => exact ⟨k + 1, by go_num, hlt, hst6.alloc _, blk_alloc (hk6 _ _ (blk_alloc hrow _)) _, blk_alloc (hk6 _ _ (blk_alloc hpk _)) _, blk_alloc (hk6 _ _ (blk_alloc hqk _)) _, ((hfr.alloc hz _).trans (hb6.mono hgw)).alloc (by have := hb6.size; simp at this; omega) _, ⟨outs, World.ownsRow.alloc (PRow.keep (World.ownsRow.alloc hR _) hk6) _, HO6.out outs HO.out⟩, by simp; omega⟩
        case measure => simp [intOf]; omega
      · have hg9' : ((w6.alloc (.cells #[.int .u32 X.src, .int .u32 X.dst, .int .i64 X.proto, .int .i64 X.ttl, .int .i64 X.id, .int .i64 X.off, .bool X.more, .bool X.whole, .string X.body] 32 (0, 0))).alloc (.cells #[.int .u32 X.src, .int .u32 X.dst, .int .i64 X.proto, .int .i64 X.ttl, .int .i64 X.id, .int .i64 X.off, .bool X.more, .bool X.whole, .string X.body] 32 (0, 0))).grownBy w9 (Value.slice AO outs.length cO).ownBlock := hg9
        clear hg9
        have hfr9 := hfr6.grown hg9' (by simp; omega) (fun q hq => by have := ownBlock_le hR6 hq; omega)
        have hz9 := hg9'.size
        simp only [World.size_alloc] at hz9
        have mv : ∀ {b : Nat} {cs : Array Value}, wr.heap[b]? = some (.cells cs 32 (0, 0)) → b < B → w9.heap[b]? = some (.cells cs 32 (0, 0)) := fun hb hlb => blk_grown (blk_alloc (blk_alloc (hk6 _ _ (blk_alloc hb _)) _) _) hg9' (fun e => by have := ownBlock_le hR6 e.symm; omega)
        have hst9 : ApSt P Q L g (k + 1) w9 := by
          obtain ⟨x, y, t1, t2⟩ := hst6
          exact ⟨x, y, ((t1.alloc _).alloc _).rowed hR6 hg9', t2⟩
        go_roundw
        case rel =>
          refine ⟨k + 1, by go_num, hlt, hst9, mv hrow hg5B, mv hpk (by omega), mv hqk (by omega), hfr9, ⟨outs ++ [X], ?_, HO6.out outs HO.out⟩, by omega⟩
          show w9.ownsRow _ _ _ _ _ _
          rw [List.length_append, List.flatMap_append, List.flatMap_cons, List.flatMap_nil, List.append_nil]
          exact hown9
        case measure => simp [intOf]; omega
    · obtain rfl : k = L.length := by omega
      obtain ⟨ho2, hoP, hoQ⟩ := ap_end HP.out hout
      have hcp := contains_calls B _ outs (by omega) (by omega) P hoP wr hR
      have hcq := fun W (hW : PRow W B (.slice AO outs.length cO) outs) => contains_calls B _ outs (by omega) (by omega) Q hoQ W hW
      simp only [packV] at hcp hcq
      have hbe : ((outs.length : Int) == 2) = true := beq_iff_eq.mpr (by omega)
      obtain ⟨hc0, hc1, hc2, hc3, hc4, hc5, hc6, hc7, hc8⟩ := pk_cells' hpk
      have hlw := blk_lt hpk
      have hlz : ¬ (L.length : Int) < (L.length : Int) := by omega
      have HB := Lib.hid ho2
      clear ho2 hoP hoQ hout hst hrow
      go_wp2_with (first | (go_at_call 19; refine hcp.mono ?_; rintro e w8 ⟨rfl, hb8⟩; have hq8 := blk_below hqk hb8; clear hc0 hc1 hc2 hc3 hc4 hc5 hc6 hc7 hc8 hcp; obtain ⟨hc0, hc1, hc2, hc3, hc4, hc5, hc6, hc7, hc8⟩ := pk_cells' hq8; have hl8 := blk_lt hq8) | (go_at_call 19; refine (hcq _ (hR.below hb8)).mono ?_; rintro e w10 ⟨rfl, hb10⟩))
      go_ret
      exact ⟨rfl, (hfr.trans (hb8.mono hz)).trans (hb10.mono (Nat.le_trans hz hb8.size))⟩
end Go.Proofs.Ytlhfkkionaemhaa.H
