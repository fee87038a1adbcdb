/- join: the walk of JoinTwice: pieces of two divisions, some twice, in any order, lead to the packet. Conditions: none but the arguments' sizes. -/
import Derived.Test.YtlhfkkionaemhaaHJoinCat
namespace Go.Proofs.Ytlhfkkionaemhaa.H
set_option linter.unusedSimpArgs false
set_option linter.unusedVariables false
open Go Go.RowKit Go.Maps Go.Proofs.YtlhfkkionaemhaaW.PrintWords Go.Proofs.YtlhfkkionaemhaaW.PrintLast Go.Proofs.YtlhfkkionaemhaaW.PrintMore Go.Proofs.Ytlhfkkionaemhaa.Plain

/-! ### pieces of two divisions -/
def TwSt (P : Pk) (L : List Pk) (g : Nat) (k : Nat) (w : World) : Prop := ∃ o, TabTwo w g g 1 (1500 * k) o none ∧ Ost P (L.take k) o ∧ ¬ FullBy P (L.take k)
theorem TwSt.alloc {P : Pk} {L : List Pk} {g k : Nat} {w : World} (h : TwSt P L g k w) (o : Obj) : TwSt P L g k (w.alloc o) := by
  obtain ⟨q, h1, h2⟩ := h
  exact ⟨q, h1.alloc o, h2⟩
def TwIn (P : Pk) (L : List Pk) (g k : Nat) (w : World) (e : Ending) (w' : World) : Prop :=
  (Below g w w' ∧ Keep32 w w') ∧ ((e = .returned (.tuple #[packV P, .bool true, .int .i64 0]) ∧ ∃ lv, TabBlk w' g 1 9 0 lv ∧ ∃ A c, lv = .slice A 0 c) ∨ (e = .returned (.tuple #[packV zeroPk, .bool false, .int .i64 0]) ∧ TwSt P L g (k + 1) w'))
theorem tw_in (P : Pk) (L : List Pk) (g k : Nat) (hP : Base P) (hs : 0 < P.body.size) (hf : ∀ f ∈ L, IsFrag P f ∧ (f.off ≠ 0 ∨ f.more = true)) (hk : k < L.length) (hl : L.length ≤ 50) (w : World) (hA : TwSt P L g k w) :
    Calls Try.prog 10 #[.pointer (some ⟨g, 0, none⟩), packV L[k], .int .i64 0] w (TwIn P L g k w) := by
  obtain ⟨o, hT, hO, hn⟩ := hA
  obtain ⟨f1, f2⟩ := hf _ (List.getElem_mem hk)
  refine (in_frag g g 1 (1500 * k) (by omega) (by decide) P L[k] (L.take k) o none hP hs hO (fun e he => by cases he) f1 f2 (by decide) w hT).mono ?_
  rintro e w' ⟨hb, h⟩
  refine ⟨hb, ?_⟩
  rcases h with ⟨c, rfl, lv, xs, E, hT', h2, _⟩ | ⟨c, rfl, o', hO', hT'⟩
  · left
    have hE : E.length = 0 := by have := two_len h2; simpa using this
    have hx : xs.length = 0 := by have := hT'.ents.1; omega
    obtain ⟨A, q, rfl⟩ := own_slice hT'.row
    exact ⟨rfl, _, hT'.blk, A, q, by rw [hx]⟩
  · right
    refine ⟨rfl, o', hT', ?_, ?_⟩
    · rw [take_snoc' L k hk]; exact hO'
    · rw [take_snoc' L k hk]; exact c
theorem tw_rows {w3 w4 w5 : World} {v3 v4 : Value} {LA LB : List Pk} {B3 B4 : Nat} (h3 : PRow w3 B3 v3 LA) (h4 : PRow w4 B4 v4 LB) (hb4 : Below w3.heap.size w3 w4) (hb5 : Below w4.heap.size w4 w5) (o : Obj) : PRow (w5.alloc o) 0 v3 LA ∧ PRow (w5.alloc o) 0 v4 LB := by
  have mv : ∀ {a b : World} {B : Nat} {v : Value} {L : List Pk}, PRow a B v L → Below a.heap.size a b → PRow b B v L := fun h hb => own_move h (fun k hk => hb.block k (own_lt h k hk))
  refine ⟨own_less (World.ownsRow.alloc (mv (mv h3 hb4) hb5) o) (Nat.zero_le _), own_less (World.ownsRow.alloc (mv h4 hb5) o) (Nat.zero_le _)⟩
theorem tw_cells (w : World) (a b c : Value) {LA LB LC : List Pk} : ∀ i (hi : i < [(a, LA), (b, LB), (c, LC)].length), (w.alloc (.cells #[a, b, c] 22 (0, 0))).cell? ⟨w.heap.size, i, none⟩ = some ([(a, LA), (b, LB), (c, LC)][i]).1 := by
  intro i hi
  rw [blk_cell (blk_new w _)]
  match i, hi with
  | 0, _ => rfl
  | 1, _ => rfl
  | 2, _ => rfl
theorem tw_hrow {W : World} {a b : Value} {LA LB : List Pk} (h1 : PRow W 0 a LA) (h2 : PRow W 0 b LB) (p1 : 0 < LA.length) (p2 : 0 < LB.length) (q1 : LA.length ≤ 20) (q2 : LB.length ≤ 20) : ∀ p ∈ [(a, LA), (b, LB), (a, LA)], PRow W 0 p.1 p.2 ∧ 0 < p.2.length ∧ p.2.length ≤ 20 := by
  intro p hp
  simp only [List.mem_cons, List.not_mem_nil, or_false] at hp
  rcases hp with rfl | rfl | rfl
  · exact ⟨h1, p1, q1⟩
  · exact ⟨h2, p2, q2⟩
  · exact ⟨h1, p1, q1⟩
theorem tw_len0 {a b c : Value} {LA LB LC : List Pk} (h : 0 < LA.length) : 0 < (flat2 [(a, LA), (b, LB), (c, LC)]).length := by
  simp [flat2]; omega
theorem tw_len1 {a b : Value} {LA LB : List Pk} (h : LA.length ≤ 20) (h2 : LB.length ≤ 20) : (flat2 [(a, LA), (b, LB), (a, LA)]).length ≤ 1000 := by
  simp [flat2]; omega
theorem tw_fr {w W2 w3 w4 w5 w6 : World} {o : Obj} (h1 : Below w.heap.size w W2) (h3 : Below W2.heap.size W2 w3) (h4 : Below w3.heap.size w3 w4) (h5 : Below w4.heap.size w4 w5) (h6 : Below (w5.alloc o).heap.size (w5.alloc o) w6) : Below w.heap.size w w6 := by
  have a1 := h1.size
  have a3 := h3.size
  have a4 := h4.size
  have a5 := h5.size
  exact (((((h1.trans (h3.mono a1)).trans (h4.mono (by omega))).trans (h5.mono (by omega))).alloc (by omega) o).trans (h6.mono (by simp; omega)))
/-- What the law knows before the piece at k. -/
structure TwAt (w0 : World) (P : Pk) (L : List Pk) (g g5 : Nat) (cur : Array Value) (k : Nat) (wr : World) : Prop where
  st : TwSt P L g k wr
  row : wr.heap[g5]? = some (.cells cur 32 (0, 0))
  pk : wr.heap[w0.heap.size]? = some (.cells #[.int .u32 P.src, .int .u32 P.dst, .int .i64 P.proto, .int .i64 P.ttl, .int .i64 P.id, .int .i64 P.off, .bool P.more, .bool P.whole, .string P.body] 32 (0, 0))
  fr : Below w0.heap.size w0 wr
set_option maxHeartbeats 8000000 in
set_option maxRecDepth 100000 in
theorem joinTwice_calls (a0 a1 a2 a3 a4 a5 : Int) (a6 a7 : Bool) (a8 : ByteArray) (one two : Int) (by_ : Value) (w : World) (hi : IntsAt w by_) :
    Calls Try.prog 5 #[.agg #[.int .u32 a0, .int .u32 a1, .int .i64 a2, .int .i64 a3, .int .i64 a4, .int .i64 a5, .bool a6, .bool a7, .string a8], .int .i64 one, .int .i64 two, by_] w fun e w' => e = .returned (.bool true) ∧ Below w.heap.size w w' := by
  have hent := fun W => entire_pk ⟨a0, a1, a2, a3, a4, a5, a6, a7, a8⟩ 40 (by decide) W
  obtain ⟨hP, hP60⟩ := whole_base ⟨a0, a1, a2, a3, a4, a5, a6, a7, a8⟩ 40 (by decide)
  generalize whole_ ⟨a0, a1, a2, a3, a4, a5, a6, a7, a8⟩ 40 = P at hent hP hP60
  obtain ⟨n1, e1, k1, k1'⟩ := lim_of one 12 (by decide) (by decide)
  obtain ⟨n2, e2, k2, k2'⟩ := lim_of two 12 (by decide) (by decide)
  simp only [packV] at hent
  have hpre : ∀ (Q : Exit → Act → World → Prop), True := fun _ => trivial
  clear hpre
  by_cases hsz : P.body.size < 20
  · have hszi : (P.body.size : Int) < 20 := by omega
    go_enter Try.func5, Try.ntmps5
    go_wp2_with (first | (go_at_call 7; refine (joinLives_calls _).mono ?_; rintro e w1 ⟨rfl, hb1⟩) | (go_at_call 14; refine (lives_calls _).mono ?_; rintro e w2 ⟨rfl, hb2⟩; have hq := blk_below (blk_below (blk_new w (.cells #[.int .u32 a0, .int .u32 a1, .int .i64 a2, .int .i64 a3, .int .i64 a4, .int .i64 a5, .bool a6, .bool a7, .string a8] 32 (0, 0))) hb1) hb2; obtain ⟨hd0, hd1, hd2, hd3, hd4, hd5, hd6, hd7, hd8⟩ := pk_cells' hq) | (go_at_call 15; refine (hent _).mono ?_; rintro e w3 ⟨rfl, o1, o2, o3, o4, rfl⟩) | (refine gate_ (.store 32 (.tmp 4) (.tmp 27)) rfl ?_; refine wpList_store_part rfl 32 (.tmp 4) (.tmp 27) rfl rfl (packV P) #[.int .u32 P.src, .int .u32 P.dst, .int .i64 P.proto, .int .i64 P.ttl, .int .i64 P.id, .int .i64 P.off, .bool P.more, .bool P.whole, .string P.body] rfl rfl rfl (blk_alloc (blk_alloc (blk_alloc (blk_alloc hq o1) o2) o3) o4) sizeP rfl (pk_one _ _ _ _ _ _ _ _ _) _ rfl ?_))
    intro W2 hbx hg
    have hz1 := hb1.size
    have hz2 := hb2.size
    simp only [World.size_alloc] at hz1
    have hbw : Below w.heap.size w W2 := (((((((Below.refl _ _).alloc (Nat.le_refl _) _).trans (hb1.mono (by simp))).trans (hb2.mono (by omega))).alloc (by omega) o1).alloc (by simp; omega) o2).alloc (by simp; omega) o3 |>.alloc (by simp; omega) o4).grown hg (by simp; omega) (fun k hk => by cases hk; exact Nat.le_refl _)
    clear hd0 hd1 hd2 hd3 hd4 hd5 hd6 hd7 hd8 hq hg hb1 hb2 hent hz1 hz2
    obtain ⟨hc0, hc1, hc2, hc3, hc4, hc5, hc6, hc7, hc8⟩ := pk_cells' hbx
    go_wp2
    go_ret
    exact ⟨rfl, hbw⟩
  · have hszi : ¬ (P.body.size : Int) < 20 := by omega
    have hs0 : 0 < P.body.size := by omega
    have hcut1 := fun W => cut_pk P n1 hP k1 (by omega) W
    have hcut2 := fun W => cut_pk P n2 hP k2 (by omega) W
    obtain ⟨hl0, hl1⟩ := cutL_len P n1 k1
    obtain ⟨hm0, hm1⟩ := cutL_len P n2 k2
    have hpa := cut_pieces hP hs0 (n1 - 20).toNat (by omega)
    have hpb := cut_pieces hP hs0 (n2 - 20).toNat (by omega)
    have hfa := cut_fr hP hs0 k1 (by omega)
    have hfb := cut_fr hP hs0 k2 (by omega)
    have hpa' : Pieces P (cutL P n1) := hpa
    have hpb' : Pieces P (cutL P n2) := hpb
    clear hpa hpb
    have hnew := fun W => new_table 1 9 (by decide) (by decide) W
    simp only [packV] at hcut1 hcut2
    generalize cutL P n1 = LA at hcut1 hl0 hl1 hpa' hfa
    generalize cutL P n2 = LB at hcut2 hm0 hm1 hpb' hfb
    have hall : ∀ f ∈ flat2 [((.slice none 0 0 : Value), LA), (.slice none 0 0, LB), (.slice none 0 0, LA)], IsFrag P f ∧ (f.off ≠ 0 ∨ f.more = true) := by
      intro f hf
      simp only [flat2, List.flatMap_cons, List.flatMap_nil, List.append_nil, List.mem_append] at hf
      rcases hf with h | h | h
      · exact ⟨hpa'.frag f h, hfa f h⟩
      · exact ⟨hpb'.frag f h, hfb f h⟩
      · exact ⟨hpa'.frag f h, hfa f h⟩
    have hfull : FullBy P LA := hpa'.full hs0
    clear hpa' hpb' hfa hfb
    go_enter Try.func5, Try.ntmps5
    go_wp2_with (first | (go_at_call 7; refine (joinLives_calls _).mono ?_; rintro e w1 ⟨rfl, hb1⟩) | (go_at_call 14; refine (lives_calls _).mono ?_; rintro e w2 ⟨rfl, hb2⟩; have hq := blk_below (blk_below (blk_new w (.cells #[.int .u32 a0, .int .u32 a1, .int .i64 a2, .int .i64 a3, .int .i64 a4, .int .i64 a5, .bool a6, .bool a7, .string a8] 32 (0, 0))) hb1) hb2; obtain ⟨hd0, hd1, hd2, hd3, hd4, hd5, hd6, hd7, hd8⟩ := pk_cells' hq) | (go_at_call 15; refine (hent _).mono ?_; rintro e w3 ⟨rfl, o1, o2, o3, o4, rfl⟩) | (refine gate_ (.store 32 (.tmp 4) (.tmp 27)) rfl ?_; refine wpList_store_part rfl 32 (.tmp 4) (.tmp 27) rfl rfl (packV P) #[.int .u32 P.src, .int .u32 P.dst, .int .i64 P.proto, .int .i64 P.ttl, .int .i64 P.id, .int .i64 P.off, .bool P.more, .bool P.whole, .string P.body] rfl rfl rfl (blk_alloc (blk_alloc (blk_alloc (blk_alloc hq o1) o2) o3) o4) sizeP rfl (pk_one _ _ _ _ _ _ _ _ _) _ rfl ?_))
    intro W2 hbx hg
    have hz1 := hb1.size
    have hz2 := hb2.size
    simp only [World.size_alloc] at hz1
    have hbw : Below w.heap.size w W2 := (((((((Below.refl _ _).alloc (Nat.le_refl _) _).trans (hb1.mono (by simp))).trans (hb2.mono (by omega))).alloc (by omega) o1).alloc (by simp; omega) o2).alloc (by simp; omega) o3 |>.alloc (by simp; omega) o4).grown hg (by simp; omega) (fun k hk => by cases hk; exact Nat.le_refl _)
    clear hd0 hd1 hd2 hd3 hd4 hd5 hd6 hd7 hd8 hq hg hb1 hb2 hent hz1 hz2
    obtain ⟨hc0, hc1, hc2, hc3, hc4, hc5, hc6, hc7, hc8⟩ := pk_cells' hbx
    have hW2 := hbw.size
    go_wp2_with (first | (go_at_call 16; refine (hcut1 _).mono ?_; rintro e w3 ⟨v3, rfl, hR3, hb3⟩; obtain ⟨g3, cap3, cur3, rfl, _, _, _, _, _, _⟩ := prow_open hR3 hl0; have hbx3 := blk_below hbx hb3; clear hc0 hc1 hc2 hc3 hc4 hc5 hc6 hc7 hc8 hcut1; obtain ⟨hc0, hc1, hc2, hc3, hc4, hc5, hc6, hc7, hc8⟩ := pk_cells' hbx3) | (go_at_call 16; refine (hcut2 _).mono ?_; rintro e w4 ⟨v4, rfl, hR4, hb4⟩; obtain ⟨g4, cap4, cur4, rfl, _, _, _, _, _, _⟩ := prow_open hR4 hm0; clear hcut2 hc0 hc1 hc2 hc3 hc4 hc5 hc6 hc7 hc8))
    refine (hnew _).mono ?_
    rintro e w5 ⟨rfl, hT5, hb5⟩
    clear hnew
    have hR5a := (tw_rows hR3 hR4 hb4 hb5 (.cells #[.slice (some ⟨g3, 0, none⟩) LA.length cap3, .slice (some ⟨g4, 0, none⟩) LB.length cap4, .slice (some ⟨g3, 0, none⟩) LA.length cap3] 22 (0, 0)))
    have hcc := concat_calls 0 w5.heap.size 3 [((.slice (some ⟨g3, 0, none⟩) LA.length cap3 : Value), LA), (.slice (some ⟨g4, 0, none⟩) LB.length cap4, LB), (.slice (some ⟨g3, 0, none⟩) LA.length cap3, LA)] (by simp) (by simp) (w5.alloc (.cells #[.slice (some ⟨g3, 0, none⟩) LA.length cap3, .slice (some ⟨g4, 0, none⟩) LB.length cap4, .slice (some ⟨g3, 0, none⟩) LA.length cap3] 22 (0, 0))) (by simp) (tw_cells w5 _ _ _) (tw_hrow hR5a.1 hR5a.2 hl0 hm0 (by omega) (by omega))
    go_wp2_with (go_at_call 18; refine hcc.mono ?_; rintro e w6 ⟨v6, rfl, hR6, hb6⟩)
    refine (mixed_calls _ _ by_ _ (tw_len0 hl0) (tw_len1 (by omega) (by omega)) w6 hR6 ?hint).mono ?_
    case hint => exact hi.below (tw_fr hbw hb3 hb4 hb5 hb6)
    rintro e w7 ⟨v7, L, rfl, hp7, hR7, hb7⟩
    obtain ⟨g5, cap5, cur, rfl, hg5, hh5, hcap5, hcm5, hcs5, hct5⟩ := prow_open hR7 (by rw [hp7.length_eq]; exact tw_len0 hl0)
    go_wp2
    have hz3 := hb3.size
    have hz4 := hb4.size
    have hz5 := hb5.size
    have hz6 := hb6.size
    simp only [World.size_alloc] at hz6
    have hT7 : TabTwo w7 w4.heap.size w4.heap.size 1 (1500 * 0) none none := ⟨_, [], [], ((hT5.alloc _).below hb6).below hb7, .inl rfl, (fun e he => by cases he)⟩
    have hmem : ∀ f ∈ L, IsFrag P f ∧ (f.off ≠ 0 ∨ f.more = true) := fun f hf => hall f (hp7.mem_iff.mp hf)
    have hfl : FullBy P L := hfull.sub (fun f hf => hp7.mem_iff.mpr (by simp [flat2]; exact .inl hf))
    have hlL : L.length ≤ 18 := by
      have h1 := hp7.length_eq
      have h2 : (flat2 [((.slice (some ⟨g3, 0, none⟩) LA.length cap3 : Value), LA), (.slice (some ⟨g4, 0, none⟩) LB.length cap4, LB), (.slice (some ⟨g3, 0, none⟩) LA.length cap3, LA)]).length = LA.length + (LB.length + LA.length) := by simp [flat2]
      rw [h2] at h1
      omega
    have hA : TwAt w P L w4.heap.size g5 cur 0 w7 := ⟨⟨none, hT7, .inl ⟨rfl, rfl⟩, (fun h => by obtain ⟨⟨f, hf, _⟩, _⟩ := h; cases hf)⟩, hh5, blk_below (blk_below (blk_alloc (blk_below (blk_below hbx3 hb4) hb5) _) hb6) hb7, (tw_fr hbw hb3 hb4 hb5 hb6).trans (hb7.mono (by omega))⟩
    have hgw : w.heap.size ≤ w4.heap.size := by omega
    clear hbx hbw hb3 hb4 hb5 hb6 hb7 hT5 hT7 hR3 hR4 hR6 hR7 hh5 hbx3 hall hfull hcc hR5a hi hcm5 hcs5 e1 e2 hz3 hz4 hz5 hz6 hW2
    generalize w4.heap.size = g at hA hgw ⊢
    have HC := Lib.hid hct5
    have HM := Lib.hid hmem
    have HF := Lib.hid hfl
    clear hct5 hp7 hmem hfl
    go_loopw [78] (fun i wr => ∃ k : Nat, i = .int .i64 k ∧ k ≤ L.length ∧ TwAt w P L g g5 cur k wr) (fun i _ => L.length - (intOf i).toNat)
    case atStart => exact ⟨0, rfl, Nat.zero_le _, hA⟩
    case round =>
      clear hA
      obtain ⟨k, rfl, hk, hA⟩ := hrel
      obtain ⟨hst, hrow, hpk, hfr⟩ := hA
      by_cases hlt : k < L.length
      · have hcall := fun W hW => tw_in P L g k hP hs0 HM.out hlt (by omega) W hW
        obtain ⟨q0, q1, q2, q3, q4, q5, q6, q7, q8⟩ := prow_nine hrow HC.out k hlt
        generalize L[k] = f at hcall q0 q1 q2 q3 q4 q5 q6 q7 q8
        have hz := hfr.size
        have hne : ∀ W, (binOp .eql 32 (.agg #[.int .u32 P.src, .int .u32 P.dst, .int .i64 P.proto, .int .i64 P.ttl, .int .i64 P.id, .int .i64 P.off, .bool P.more, .bool P.whole, .string P.body]) (.agg #[.int .u32 P.src, .int .u32 P.dst, .int .i64 P.proto, .int .i64 P.ttl, .int .i64 P.id, .int .i64 P.off, .bool P.more, .bool P.whole, .string P.body])).run Try.prog W = .ok (.bool true) W := fun W => by
          have h := eqPk P P W
          rw [(pkEq_iff P P).mpr rfl] at h
          exact h
        unfold TwIn at hcall
        simp only [packV, zeroPk] at hcall
        go_wp2_with (go_at_call 10; refine (hcall _ (hst.alloc _)).mono ?_; rintro e w6 ⟨⟨hb6, hk6⟩, ⟨rfl, lv, hbk, A, c, rfl⟩ | ⟨rfl, hst6⟩⟩; have hp6 := hk6 _ _ (blk_alloc hpk _); have hr6 := hk6 _ _ (blk_alloc hrow _); obtain ⟨hc0, hc1, hc2, hc3, hc4, hc5, hc6, hc7, hc8⟩ := pk_cells' hp6; have hl6 := blk_lt hp6)
        · refine (wait_calls 1 9 0 A 0 c g _ (blk_alloc hbk _)).mono ?_
          rintro e w8 ⟨rfl, rfl⟩
          go_wp2
          go_ret
          exact ⟨rfl, ((hfr.alloc hz _).trans (hb6.mono hgw)).alloc (by have := hb6.size; simp at this; omega) _⟩
        · go_roundw
          case rel => exact ⟨k + 1, by go_num, hlt, hst6.alloc _, blk_alloc (hk6 _ _ (blk_alloc hrow _)) _, blk_alloc (hk6 _ _ (blk_alloc hpk _)) _, (((hfr.alloc hz _).trans (hb6.mono hgw)).alloc (by have := hb6.size; simp at this; omega) _)⟩
          case measure => simp [intOf]; omega
      · obtain rfl : k = L.length := by omega
        exfalso
        obtain ⟨_, _, _, hn⟩ := hst
        rw [List.take_length] at hn
        exact hn HF.out
end Go.Proofs.Ytlhfkkionaemhaa.H
