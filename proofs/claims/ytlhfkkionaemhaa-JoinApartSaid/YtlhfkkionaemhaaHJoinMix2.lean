/- join: mixed returns the packets of a list in another order. Conditions: sizes. -/
import Derived.Test.YtlhfkkionaemhaaHJoinMix
namespace Go.Proofs.Ytlhfkkionaemhaa.H
set_option linter.unusedSimpArgs false
set_option linter.unusedVariables false
open Go Go.RowKit Go.Maps Go.Proofs.YtlhfkkionaemhaaW.PrintWords Go.Proofs.YtlhfkkionaemhaaW.PrintLast Go.Proofs.YtlhfkkionaemhaaW.PrintMore Go.Proofs.Ytlhfkkionaemhaa.Plain

/-- A slice of ints that came in. -/
def IntsAt (w : World) (v : Value) : Prop := v = .slice none 0 0 ∨ ∃ (ad : Addr) (len cap : Nat) (zs : List Int), v = .slice (some ad) len cap ∧ len ≤ cap ∧ cap ≤ maxLen ∧ ∀ i, i < len → w.cell? (ad.add i) = some (.int .i64 (zs.getD i 0))
/-- How long such a slice is. -/
def vlen : Value → Nat
  | .slice _ n _ => n
  | _ => 0
theorem u64_rest (x : Int) (k n : Nat) (h : k < n) (hn : n ≤ 1000) : ∃ j : Nat, wrap64 ((k : Int) + wrap64 ((IntKind.u64.wrap x).tmod ((n : Int) - k))) = (j : Int) ∧ k ≤ j ∧ j < n := by
  have hx : 0 ≤ IntKind.u64.wrap x := by simp only [IntKind.wrap, IntKind.bits, IntKind.signed]; first | omega | (simp; omega)
  have e : (IntKind.u64.wrap x).tmod ((n : Int) - k) = IntKind.u64.wrap x % ((n : Int) - k) := Int.tmod_eq_emod_of_nonneg hx
  have a := Int.emod_nonneg (IntKind.u64.wrap x) (show (n : Int) - k ≠ 0 by omega)
  have b := Int.emod_lt_of_pos (IntKind.u64.wrap x) (show 0 < (n : Int) - k by omega)
  rw [e]
  generalize IntKind.u64.wrap x % ((n : Int) - k) = r at a b
  exact ⟨(k + r).toNat, by unfold wrap64; omega, by omega, by omega⟩
/-- What mixed knows before a round. -/
def MixAt (w0 : World) (g cap : Nat) (L : List Pk) (wr : World) : Prop :=
  ∃ (L' : List Pk) (cur : Array Value), L'.Perm L ∧ wr.heap[g]? = some (.cells cur 32 (0, 0)) ∧ cur.size = cap * 9 ∧ cur.toList.take (L.length * 9) = L'.flatMap pkc ∧ Below w0.heap.size w0 wr
def MixPost (L : List Pk) (w : World) (e : Ending) (w' : World) : Prop := ∃ (v' : Value) (L' : List Pk), e = .returned v' ∧ L'.Perm L ∧ PRow w' w.heap.size v' L' ∧ Below w.heap.size w w'
theorem take_splice (cur : Array Value) (n i : Nat) (hi : i + 9 ≤ n) (hn : n ≤ cur.size) (s : List Value) (hs : s.length = 9) :
    ((cur.toList.take i ++ s ++ cur.toList.drop (i + 9)).toArray.size = cur.size) ∧ (cur.toList.take i ++ s ++ cur.toList.drop (i + 9)).toArray.toList.take n = (cur.toList.take n).take i ++ s ++ (cur.toList.take n).drop (i + 9) := by
  constructor
  · simp; omega
  · show (cur.toList.take i ++ s ++ cur.toList.drop (i + 9)).take n = _
    rw [List.take_append, List.take_append, List.take_of_length_le (l := cur.toList.take i) (by simp; omega), List.take_take, Nat.min_eq_left (by omega), List.drop_take]
    congr 2
    · rw [List.take_of_length_le]; simp; omega
    · simp; omega
/-- One packet of a row is another one now. -/
theorem row_set {cur : Array Value} {n : Nat} {L : List Pk} (hn : L.length = n) (h3 : n * 9 ≤ cur.size) (h4 : cur.toList.take (n * 9) = L.flatMap pkc) (i : Nat) (hi : i < n) (q : Pk) :
    ((cur.toList.take (i * 9) ++ pkc q ++ cur.toList.drop (i * 9 + 9)).toArray.size = cur.size) ∧ (cur.toList.take (i * 9) ++ pkc q ++ cur.toList.drop (i * 9 + 9)).toArray.toList.take (n * 9) = (L.set i q).flatMap pkc := by
  obtain ⟨a, b⟩ := take_splice cur (n * 9) (i * 9) (by omega) h3 (pkc q) rfl
  refine ⟨a, ?_⟩
  rw [b, h4, flat_set L i (by omega) q]
set_option maxHeartbeats 4000000 in
set_option maxRecDepth 100000 in
theorem mixed_some (B0 : Nat) (v : Value) (L : List Pk) (hl : 0 < L.length) (hl2 : L.length ≤ 1000) (ad : Addr) (len cp : Nat) (zs : List Int) (hlc : len ≤ cp) (hcap : cp ≤ maxLen) (w : World) (hR : PRow w B0 v L)
    (hcell : ∀ i, i < len → w.cell? (ad.add i) = some (.int .i64 (zs.getD i 0))) :
    Calls Try.prog 17 #[v, .slice (some ad) len cp] w (MixPost L w) := by
  have hcl := clone_calls B0 v L hl hl2 w hR
  clear hR
  unfold maxLen at hcap
  have fin : ∀ (g cap : Nat) (wr : World), L.length ≤ cap → cap ≤ maxLen → w.heap.size ≤ g → MixAt w g cap L wr → MixPost L w (.returned (.slice (some ⟨g, 0, none⟩) L.length cap)) wr := by
    intro g cap wr h1 h2 hg ⟨L', cur, hp, hh, hs, ht, hb⟩
    refine ⟨_, L', rfl, hp, ?_, hb⟩
    have hlen := hp.length_eq
    show wr.ownsRow _ _ _ _ _ _
    rw [hlen]
    exact ⟨by rw [flat_len, hlen], .inr ⟨g, cap, cur, rfl, hg, hh, h1, h2, hs, ht⟩⟩
  have FIN := Lib.hid fin
  clear fin
  go_enter Try.func17, Try.ntmps17
  go_wp2_with (go_at_call 32; refine hcl.mono ?_; rintro e w1 ⟨v1, rfl, hR1, hb1⟩; obtain ⟨g, cap, cur, rfl, hg, hh, h1, h2, h3, h4⟩ := prow_open hR1 hl)
  have hA : MixAt w g cap L w1 := ⟨L, cur, List.Perm.refl _, hh, h3, h4, hb1⟩
  clear hh h4 hR1 hb1 h3 hcl
  have HL := Lib.hid hl2
  go_loopw [6, 7, 12] (fun _ _ i wr => ∃ k : Nat, i = .int .i64 k ∧ k ≤ L.length ∧ MixAt w g cap L wr) (fun _ _ i _ => L.length - (intOf i).toNat)
  case atStart => exact ⟨0, rfl, Nat.zero_le _, hA⟩
  case round =>
    clear hA
    obtain ⟨k, rfl, hk, hA⟩ := hrel
    by_cases hlt : k < L.length
    · by_cases hkl : k < len
      · obtain ⟨L', cur, hp, hh, hs, ht, hb⟩ := hA
        have hck := pw_cell_below hb (hcell k hkl)
        obtain ⟨j, hj, hj1, hj2⟩ := u64_rest (zs.getD k 0) k L.length hlt hl2
        have hlen := hp.length_eq
        have c1 := fun (w' : World) (hh' : w'.heap[g]? = some (.cells cur 32 (0, 0))) => prow_nine hh' (by rw [hlen]; exact ht) k (by omega)
        have c2 := fun (w' : World) (hh' : w'.heap[g]? = some (.cells cur 32 (0, 0))) => prow_nine hh' (by rw [hlen]; exact ht) j (by omega)
        have hr1 := row_set hlen (by rw [hs]; omega) ht k hlt (L'[j]'(by omega))
        have hperm : ((L'.set k (L'[j]'(by omega))).set j (L'[k]'(by omega))).Perm L := (List.set_set_perm (by omega) (by omega)).trans hp
        generalize hpk : L'[k]'(by omega) = pk at c1 hperm
        generalize hpj : L'[j]'(by omega) = pj at c2 hr1 hperm
        have hgl := blk_lt hh
        clear hcell hpk hpj
        have C1 := Lib.hid c1
        have C2 := Lib.hid c2
        clear c1 c2
        have HT := Lib.hid ht
        have HP := Lib.hid hperm
        have HS := Lib.hid hs
        have HR1 := Lib.hid hr1
        have HL2 := Lib.hid hlen
        clear ht hperm hs hlen hr1 hp
        generalize zs.getD k 0 = z at hck hj
        go_wp2

        refine start_ (n := 16) (S := fun w' => w'.heap[g]? = some (.cells cur 32 (0, 0))) (ds := [13, 15]) #[false, false, false, false, false, false, false, false, false, false, false, false, false, false, false, false] (by kernel_rfl) rfl rfl (blk_drew hh) (fun hHeld => ?_)
        have hb2 := hb.drew
        clear hb hh hck
        generalize wr.drew = W2 at hHeld hb2 ⊢
        refine pure_ (i := 0) (N := some 33) (v := ?_) (a' := ?_) #[true, false, false, false, false, false, false, false, false, false, false, false, false, false, false, false] rfl rfl (by kernel_rfl) (fun _ _ _ h => h) (Or.inl ⟨by rfl, ?_⟩) ?_ ?_
        rotate_left
        · intro w'
          go_simp
          with_reducible rfl
        rotate_left
        · simp only [Act.put, List.setIfInBounds_toArray, List.set_cons_zero, List.set_cons_succ, i64_w, i32_w]
          rfl
        refine pure_ (i := 1) (N := some 34) (v := ?_) (a' := ?_) #[true, true, false, false, false, false, false, false, false, false, false, false, false, false, false, false] rfl rfl (by kernel_rfl) (fun _ _ _ h => h) (Or.inl ⟨by rfl, ?_⟩) ?_ ?_
        rotate_left
        · intro w'
          go_simp
          with_reducible rfl
        rotate_left
        · simp only [Act.put, List.setIfInBounds_toArray, List.set_cons_zero, List.set_cons_succ, i64_w, i32_w]
          rfl
        refine pure_ (i := 2) (N := some 35) (v := ?_) (a' := ?_) #[true, true, true, false, false, false, false, false, false, false, false, false, false, false, false, false] rfl rfl (by kernel_rfl) (fun _ _ _ h => h) (Or.inl ⟨by rfl, ?_⟩) ?_ ?_
        rotate_left
        · intro w'
          go_simp
          with_reducible rfl
        rotate_left
        · simp only [Act.put, List.setIfInBounds_toArray, List.set_cons_zero, List.set_cons_succ, i64_w, i32_w]
          rfl
        refine pure_ (i := 3) (N := some 36) (v := ?_) (a' := ?_) #[true, true, true, true, false, false, false, false, false, false, false, false, false, false, false, false] rfl rfl (by kernel_rfl) (fun _ _ _ h => h) (Or.inl ⟨by rfl, ?_⟩) ?_ ?_
        rotate_left
        · intro w'
          go_simp
          with_reducible rfl
        rotate_left
        · simp only [Act.put, List.setIfInBounds_toArray, List.set_cons_zero, List.set_cons_succ, i64_w, i32_w]
          rfl
        refine pure_ (i := 4) (N := some 37) (v := ?_) (a' := ?_) #[true, true, true, true, true, false, false, false, false, false, false, false, false, false, false, false] rfl rfl (by kernel_rfl) (fun _ _ _ h => h) (Or.inl ⟨by rfl, ?_⟩) ?_ ?_
        rotate_left
        · intro w'
          go_simp
          with_reducible rfl
        rotate_left
        · simp only [Act.put, List.setIfInBounds_toArray, List.set_cons_zero, List.set_cons_succ, i64_w, i32_w]
          rfl
        refine pure_ (i := 5) (N := some 38) (v := ?_) (a' := ?_) #[true, true, true, true, true, true, false, false, false, false, false, false, false, false, false, false] rfl rfl (by kernel_rfl) (fun _ _ _ h => h) (Or.inl ⟨by rfl, ?_⟩) ?_ ?_
        rotate_left
        · intro w'
          go_simp
          with_reducible rfl
        rotate_left
        · simp only [Act.put, List.setIfInBounds_toArray, List.set_cons_zero, List.set_cons_succ, i64_w, i32_w]
          rfl
        refine pure_ (i := 6) (N := some 39) (v := ?_) (a' := ?_) #[true, true, true, true, true, true, true, false, false, false, false, false, false, false, false, false] rfl rfl (by kernel_rfl) (fun _ _ _ h => h) (Or.inl ⟨by rfl, ?_⟩) ?_ ?_
        rotate_left
        · intro w'
          go_simp
          with_reducible rfl
        rotate_left
        · simp only [Act.put, List.setIfInBounds_toArray, List.set_cons_zero, List.set_cons_succ, i64_w, i32_w]
          rfl
        refine take_ (i := 7) (N := some 40) (v := ?_) (a' := ?_) #[true, true, true, true, true, true, true, true, false, false, false, false, false, false, false, false] rfl rfl (by kernel_rfl) (fun _ _ _ h => h) (Or.inl ⟨by rfl, ?_⟩) hHeld ?_ ?_
        rotate_left
        · rintro w' s0
          obtain ⟨q0, q1, q2, q3, q4, q5, q6, q7, q8⟩ := C2.out _ s0
          go_simp
          with_reducible rfl
        rotate_left
        · simp only [Act.put, List.setIfInBounds_toArray, List.set_cons_zero, List.set_cons_succ, i64_w, i32_w]
          rfl
        refine pure_ (i := 8) (N := some 41) (v := ?_) (a' := ?_) #[true, true, true, true, true, true, true, true, true, false, false, false, false, false, false, false] rfl rfl (by kernel_rfl) (fun _ _ _ h => h) (Or.inl ⟨by rfl, ?_⟩) ?_ ?_
        rotate_left
        · intro w'
          go_simp
          with_reducible rfl
        rotate_left
        · simp only [Act.put, List.setIfInBounds_toArray, List.set_cons_zero, List.set_cons_succ, i64_w, i32_w]
          rfl
        refine pure_ (i := 9) (N := some 42) (v := ?_) (a' := ?_) #[true, true, true, true, true, true, true, true, true, true, false, false, false, false, false, false] rfl rfl (by kernel_rfl) (fun _ _ _ h => h) (Or.inl ⟨by rfl, ?_⟩) ?_ ?_
        rotate_left
        · intro w'
          go_simp
          with_reducible rfl
        rotate_left
        · simp only [Act.put, List.setIfInBounds_toArray, List.set_cons_zero, List.set_cons_succ, i64_w, i32_w]
          rfl
        refine pure_ (i := 10) (N := some 43) (v := ?_) (a' := ?_) #[true, true, true, true, true, true, true, true, true, true, true, false, false, false, false, false] rfl rfl (by kernel_rfl) (fun _ _ _ h => h) (Or.inl ⟨by rfl, ?_⟩) ?_ ?_
        rotate_left
        · intro w'
          go_simp
          with_reducible rfl
        rotate_left
        · simp only [Act.put, List.setIfInBounds_toArray, List.set_cons_zero, List.set_cons_succ, i64_w, i32_w]
          rfl
        refine take_ (i := 11) (N := some 44) (v := ?_) (a' := ?_) #[true, true, true, true, true, true, true, true, true, true, true, true, false, false, false, false] rfl rfl (by kernel_rfl) (fun _ _ _ h => h) (Or.inl ⟨by rfl, ?_⟩) hHeld ?_ ?_
        rotate_left
        · rintro w' s0
          obtain ⟨q0, q1, q2, q3, q4, q5, q6, q7, q8⟩ := C1.out _ s0
          go_simp
          with_reducible rfl
        rotate_left
        · simp only [Act.put, List.setIfInBounds_toArray, List.set_cons_zero, List.set_cons_succ, i64_w, i32_w]
          rfl
        refine pure_ (i := 12) (N := some 45) (v := ?_) (a' := ?_) #[true, true, true, true, true, true, true, true, true, true, true, true, true, false, false, false] rfl rfl (by kernel_rfl) (fun _ _ _ h => h) (Or.inl ⟨by rfl, ?_⟩) ?_ ?_
        rotate_left
        · intro w'
          go_simp
          with_reducible rfl
        rotate_left
        · simp only [Act.put, List.setIfInBounds_toArray, List.set_cons_zero, List.set_cons_succ, i64_w, i32_w]
          rfl
        refine last_ (i := 13) (N := none) #[true, true, true, true, true, true, true, true, true, true, true, true, true, true, false, false] rfl rfl (by kernel_rfl) (by decide) (fun K hK => ?_)
        refine part_step (by rfl) 32 (.tmp 45) (.tmp 40) rfl (packV pj) #[.int .u32 pj.src, .int .u32 pj.dst, .int .i64 pj.proto, .int .i64 pj.ttl, .int .i64 pj.id, .int .i64 pj.off, .bool pj.more, .bool pj.whole, .string pj.body] rfl rfl rfl hHeld sizeP (decide_eq_true (by have := HS.out; simp; omega)) (pkc_one pj) (cur.toList.take (k * 9) ++ pkc pj ++ cur.toList.drop (k * 9 + 9)).toArray rfl ?_
        intro w4 hh4 hg4
        have hb4 := hb2.grown hg4 (by have := hb2.size; omega) (fun q hq => by have := Option.some.inj hq; omega)
        refine hK.out _ _ ?_
        clear hK K
        refine norm_ (a' := ?_) ?_ ?_
        rotate_left
        · show Act.put _ (none) _ = _
          simp only [Act.put, List.setIfInBounds_toArray, List.set_cons_zero, List.set_cons_succ, i64_w, i32_w]
          rfl
        refine pure_ (i := 14) (N := some 46) (v := ?_) (a' := ?_) #[true, true, true, true, true, true, true, true, true, true, true, true, true, true, true, false] rfl rfl (by kernel_rfl) (fun _ _ _ h => h) (Or.inl ⟨by rfl, ?_⟩) ?_ ?_
        rotate_left
        · intro w'
          go_simp
          with_reducible rfl
        rotate_left
        · simp only [Act.put, List.setIfInBounds_toArray, List.set_cons_zero, List.set_cons_succ, i64_w, i32_w]
          rfl
        refine last_ (i := 15) (N := none) #[true, true, true, true, true, true, true, true, true, true, true, true, true, true, true, true] rfl rfl (by kernel_rfl) (by decide) (fun K hK => ?_)
        obtain ⟨hs4, ht4⟩ := HR1.out
        have hr2 := row_set (n := L.length) (by simpa using HL2.out) (by rw [hs4, HS.out]; omega) ht4 j hj2 pk
        refine part_step (by rfl) 32 (.tmp 46) (.tmp 44) rfl (packV pk) #[.int .u32 pk.src, .int .u32 pk.dst, .int .i64 pk.proto, .int .i64 pk.ttl, .int .i64 pk.id, .int .i64 pk.off, .bool pk.more, .bool pk.whole, .string pk.body] rfl rfl rfl hh4 sizeP (decide_eq_true (by rw [hs4]; have := HS.out; simp; omega)) (pkc_one pk) _ rfl ?_
        intro w5 hh5 hg5
        have hb5 := hb4.grown hg5 (by have := hb4.size; omega) (fun q hq => by have := Option.some.inj hq; omega)
        refine hK.out _ _ ?_
        clear hK K
        refine norm_ (a' := ?_) ?_ ?_
        rotate_left
        · show Act.put _ (none) _ = _
          simp only [Act.put, List.setIfInBounds_toArray, List.set_cons_zero, List.set_cons_succ, i64_w, i32_w]
          rfl
        refine done_ (by kernel_rfl) ?_
        go_wp2
        go_roundw
        case rel => exact ⟨k + 1, by go_num, by omega, _, _, HP.out, hh5, hr2.1.trans (hs4.trans HS.out), hr2.2, hb5⟩
        case measure => simp [intOf]; omega
      · have hnk : ¬ (k : Int) < (len : Int) := by omega
        clear hcell
        go_wp2
        go_roundw
        case rel => exact ⟨k + 1, by go_num, by omega, hA⟩
        case measure => simp [intOf]; omega
    · obtain rfl : k = L.length := by omega
      have hlz : ¬ (L.length : Int) < (L.length : Int) := by omega
      have hf := FIN.out g cap wr h1 h2 hg hA
      have HF := Lib.hid hf
      clear hcell hf hA
      go_wp2
      go_ret
      exact HF.out
set_option maxHeartbeats 4000000 in
set_option maxRecDepth 100000 in
theorem mixed_nil (B0 : Nat) (v : Value) (L : List Pk) (hl : 0 < L.length) (hl2 : L.length ≤ 1000) (w : World) (hR : PRow w B0 v L) :
    Calls Try.prog 17 #[v, .slice none 0 0] w (MixPost L w) := by
  have hcl := clone_calls B0 v L hl hl2 w hR
  clear hR
  have fin : ∀ (g cap : Nat) (wr : World), PRow wr w.heap.size (.slice (some ⟨g, 0, none⟩) L.length cap) L → Below w.heap.size w wr → MixPost L w (.returned (.slice (some ⟨g, 0, none⟩) L.length cap)) wr := fun g cap wr h1 h2 => ⟨_, L, rfl, List.Perm.refl _, h1, h2⟩
  have FIN := Lib.hid fin
  clear fin
  go_enter Try.func17, Try.ntmps17
  go_wp2_with (go_at_call 32; refine hcl.mono ?_; rintro e w1 ⟨v1, rfl, hR1, hb1⟩; obtain ⟨g, cap, cur, rfl, hg, hh, h1, h2, h3, h4⟩ := prow_open hR1 hl)
  have hf := FIN.out g cap w1 hR1 hb1
  have HF := Lib.hid hf
  clear hh h4 hR1 hb1 h3 hcl hf
  have HL := Lib.hid hl2
  go_loop [6, 12] (fun _ i => ∃ k : Nat, i = .int .i64 k ∧ k ≤ L.length) (fun _ i => L.length - (intOf i).toNat)
  case atStart => exact ⟨0, rfl, Nat.zero_le _⟩
  case round =>
    obtain ⟨k, rfl, hk⟩ := hrel
    by_cases hlt : k < L.length
    · have hnk : ¬ (k : Int) < 0 := by omega
      have hq1 : decide ((k : Int) < 0) = false := decide_eq_false hnk
      go_wp2
      go_round
      case rel => exact ⟨k + 1, by go_num, by omega⟩
      case measure => simp [intOf]; omega
    · obtain rfl : k = L.length := by omega
      have hlz : ¬ (L.length : Int) < (L.length : Int) := by omega
      go_wp2
      go_ret
      exact HF.out
theorem mixed_calls (B0 : Nat) (v by_ : Value) (L : List Pk) (hl : 0 < L.length) (hl2 : L.length ≤ 1000) (w : World) (hR : PRow w B0 v L) (hi : IntsAt w by_) :
    Calls Try.prog 17 #[v, by_] w (MixPost L w) := by
  rcases hi with rfl | ⟨ad, len, cp, zs, rfl, h1, h2, h3⟩
  · exact mixed_nil B0 v L hl hl2 w hR
  · exact mixed_some B0 v L hl hl2 ad len cp zs h1 h2 w hR h3
end Go.Proofs.Ytlhfkkionaemhaa.H
