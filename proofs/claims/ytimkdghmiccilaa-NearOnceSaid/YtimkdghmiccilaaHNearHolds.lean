/- Walks of nearLives, some, begin and NearHolds. Conditions: sizes that the rows give. -/
import Derived.Test.YtimkdghmiccilaaHNearLearn
import Derived.Test.YtimkdghmiccilaaPNearHoldsx1
import Derived.Lib.Hide
namespace Go.Proofs.Ytimkdghmiccilaa.H
set_option linter.unusedSimpArgs false
set_option linter.unusedVariables false
open Go Go.RowKit Go.Maps Go.Proofs.YtimkdghmiccilaaW.PrintWords Go.Proofs.YtimkdghmiccilaaW.PrintLast Go.Proofs.YtimkdghmiccilaaW.PrintMore

theorem ext_all (s : ByteArray) (m : Nat) (h : s.size ≤ m) : s.extract 0 (min s.size m) = s := by
  rw [Nat.min_eq_left h]
  simp
def beg (s : ByteArray) (n : Nat) : ByteArray := s.extract 0 (min s.size n)
theorem beg_size (s : ByteArray) (n : Nat) : (beg s n).size = min s.size n := by unfold beg; simp
theorem beg_max (s : ByteArray) (n : Nat) (h : n < s.size) : s.extract 0 n = beg s n := by unfold beg; rw [Nat.min_eq_right (by omega)]
theorem beg_min (s : ByteArray) (n : Nat) (h : s.size ≤ n) : s = beg s n := (ext_all s n h).symm

theorem begin_calls (s : ByteArray) (n : Nat) (hn : n ≤ 1000000) (w : World) :
    Calls Try.prog 9 #[.string s, .int .i64 n] w fun e w' => e = .returned (.string (beg s n)) ∧ w = w' := by
  go_enter Try.func9, Try.ntmps9
  go_wp2
  · have h : n < s.size := by assumption
    go_ret
    exact ⟨by rw [← beg_max s n (by omega)]; rfl, rfl⟩
  · have h : ¬ n < s.size := by assumption
    go_ret
    exact ⟨by rw [← beg_min s n (by omega)]; rfl, rfl⟩

theorem some_calls (ad : Addr) (len cap n : Nat) (hl : len ≤ cap) (hc : cap ≤ maxLen) (hn : n ≤ 1000000) (w : World) :
    Calls Try.prog 8 #[.slice (some ad) len cap, .int .i64 n] w fun e w' => e = .returned (.slice (some ad) (min len n) cap) ∧ w = w' := by
  unfold maxLen at hc
  go_enter Try.func8, Try.ntmps8
  go_wp2
  · have h : n < len := by assumption
    go_ret
    exact ⟨by rw [Nat.min_eq_right (by omega)]; rfl, rfl⟩
  · have h : ¬ n < len := by assumption
    go_ret
    exact ⟨by rw [Nat.min_eq_left (by omega)]; rfl, rfl⟩
theorem some_nil (n : Nat) (hn : n ≤ 1000000) (w : World) :
    Calls Try.prog 8 #[.slice none 0 0, .int .i64 n] w fun e w' => e = .returned (.slice none 0 0) ∧ w = w' := by
  go_enter Try.func8, Try.ntmps8
  go_wp2
  go_ret
  exact ⟨rfl, rfl⟩

theorem u32_wf {a : Int} (h : 0 ≤ a ∧ a ≤ 4294967295) : (Lit.int .u32 a).wf = true := by
  simp [Lit.wf, IntKind.min, IntKind.max, IntKind.signed, IntKind.bits]; omega

theorem isKey_u32 {a : Int} (h : (Lit.int .u32 a).wf = true) : WideAt.IsKeyLit (.int .u32 a) := by
  first | exact trivial | (simp [WideAt.IsKeyLit]; done) | (unfold WideAt.IsKeyLit; exact h)

theorem new_cache (age tries : Int) (ha : 1 ≤ age ∧ age ≤ 1000000000) (ht : 1 ≤ tries ∧ tries ≤ 10) (w : World) :
    Calls Try.prog 7 #[.int .i64 age, .int .i64 tries] w fun e w' => ∃ g mb, e = .returned (.tuple #[.pointer (some ⟨g, 0, none⟩), .int .i64 0]) ∧ w.heap.size ≤ g ∧ w.heap.size ≤ mb ∧ CacheAt w' g mb 0 age tries 0 (.map []) ∧ Only (fun _ => False) w w' := by
  refine (new_calls age tries ha ht w).mono ?_
  rintro e w' ⟨rfl, rfl⟩
  refine ⟨w.heap.size + 1, w.heap.size, rfl, by omega, Nat.le_refl _, ⟨?_, (World.ownsMap_made _ _ _ _).alloc _⟩, ((Only.refl _ w).alloc _).alloc _⟩
  have := blk_new (w.alloc (.map #[] 0)) (.cells #[.int .i64 age, .int .i64 tries, .int .i64 0, .map (some w.heap.size)] 50 (0, 0))
  rw [World.size_alloc] at this
  exact this

theorem atKey_empty (k : Lit) (z : DataW Unit) : (DataW.map []).atKey k z = z := rfl
theorem isMap_put {D : DataW Unit} (h : IsMap D) (k : Lit) (d : DataW Unit) : IsMap (D.put k d) := h.put k d

/-- One string of a row of strings. -/
theorem own_str {w : World} {base : Nat} {v : Value} {l : List ByteArray} (h : w.ownsRow base 9 1 v l.length (l.map Value.string)) (i : Nat) (hi : i < l.length) : ∃ g c, v = .slice (some ⟨g, 0, none⟩) l.length c ∧ w.cell? ⟨g, i, none⟩ = some (.string l[i]) := by
  obtain ⟨hl, ⟨rfl, hn⟩ | ⟨g, cap, cur, rfl, hg, hh, h1, h2, h3, h4⟩⟩ := h
  · omega
  · refine ⟨g, cap, rfl, (blk_cell hh i).trans ?_⟩
    have e1 : cur[i]? = cur.toList[i]? := by simp
    have e2 : (cur.toList.take (l.length * 1))[i]? = cur.toList[i]? := List.getElem?_take_of_lt (by omega)
    rw [e1, ← e2, h4]
    simp [hi]

theorem cache_apart {w : World} {g mb n : Nat} {age tries now : Int} {D : DataW Unit} (hC : CacheAt w g mb n age tries now D) {base m : Nat} {v : Value} {xs : List Value} (h : w.ownsRow base 9 1 v m xs) : ∀ k, v.ownBlock = some k → ¬ (k = g ∨ k = mb) := by
  rintro k hk (rfl | rfl)
  · exact own_ne h hC.1 (by decide) hk.symm
  · exact map_own_ne hC.2 h hk.symm

theorem nearLives_calls (w : World) : Calls Try.prog 6 #[] w fun e w' => e = .returned (.bool true) ∧ Below w.heap.size w w' := by
  have hw7 : (Lit.int .u32 7).wf = true := u32_wf (by decide)
  have hnew := fun W => new_cache 5 1 (by decide) (by decide) W
  go_enter Try.func6, Try.ntmps6
  go_wp2_with (first | (go_at_call 7; refine (hnew _).mono ?_; rintro e w1 ⟨g, mb, rfl, hg, hmb, hC1, ho1⟩) | (go_at_call 10; refine (send_first 5 1 0 0 7 ⟨#[120]⟩ mb g 0 (.map []) hw7 (by decide) (by decide) (by decide) (by decide) w1 hC1 (atKey_empty _ _)).mono ?_; rintro e w2 ⟨rfl, x, hv, hx, hvb, hC2, hE2, ho2⟩) | (go_at_call 11; refine (learn_some x hv _ _ _ _ _ _ 5 1 0 1 99 7 mb g _ _ hw7 (by decide) (by decide) (by decide) (by decide) (by decide) w2 hC2 hE2 (atKey_put_same isMap_empty (isKey_u32 hw7) _ _)).mono ?_; rintro e w3 ⟨rfl, x3, hx3, hC3, hE3, ho3⟩; have hown3 := ho3.own hE2.2 (cache_apart hC2 hE2.2); obtain ⟨gh, ch, rfl, hcell⟩ := own_str hown3 0 (by decide); clear hown3))
  go_ret
  refine ⟨rfl, ?_⟩
  have z1 := ho1.size
  have z2 := ho2.size
  refine (ho1.then_ (ho2.then_ ho3 ?_) ?_).below _ (Nat.le_refl _) (fun k hk => hk.elim)
  · exact fun k hk => .inl hk
  · rintro k (rfl | rfl) <;> exact .inr (by omega)

/-- The cache behind k strings for one neighbour: the row av is none of its blocks. -/
def HCache (B g mb : Nat) (age a : Int) (bs : List ByteArray) (k : Nat) (wr : World) (av : Option Nat) : Prop :=
  (k = 0 ∧ CacheAt wr g mb 0 age 3 0 (.map [])) ∨ (0 < k ∧ ∃ (x : Nat) (hv : Value) (D : DataW Unit), CacheAt wr g mb 1 age 3 0 D ∧ D.atKey (.int .u32 a) (.lit (.int .i64 (-1))) = .lit (.int .i64 x) ∧ EntAt wr x hv false 0 0 (bs.take k) 1 8 ∧ B ≤ x ∧ (∀ j, hv.ownBlock = some j → B ≤ j) ∧ (hv.ownBlock = none ∨ hv.ownBlock ≠ av))

theorem take_snoc {α : Type} (l : List α) (k : Nat) (h : k < l.length) : l.take (k + 1) = l.take k ++ [l[k]] := by
  rw [List.take_succ_eq_append_getElem h]

theorem hold_send (B g mb : Nat) (age a : Int) (bs : List ByteArray) (k : Nat) (hk : k < bs.length) (hk4 : k < 4) (wr : World) (v : Value) (xs : List Value) (ha : (Lit.int .u32 a).wf = true) (hB : B ≤ wr.heap.size) (hg : B ≤ g) (hmb : B ≤ mb) (hs : bs[k].size ≤ 4096)
    (hC : HCache B g mb age a bs k wr v.ownBlock) (hv : wr.ownsRow B 9 1 v k xs) :
    Calls Try.prog 10 #[.pointer (some ⟨g, 0, none⟩), .int .u32 a, .string bs[k], .int .i64 0] wr fun e w' => e = .returned (.tuple #[.int .i64 0, .bool false, .bool ((k : Int) == 0), .int .i64 0]) ∧ HCache B g mb age a bs (k + 1) w' v.ownBlock ∧ w'.ownsRow B 9 1 v k xs ∧ Below B wr w' := by
  rcases hC with ⟨rfl, hC⟩ | ⟨hk0, x, hw, D, hC, hD, hE, hx, hwb, hap⟩
  · refine (send_first age 3 0 0 a bs[0] mb g 0 (.map []) ha hs (by decide) (by decide) (by decide) wr hC (atKey_empty _ _)).mono ?_
    rintro e w' ⟨rfl, x, hw, hx, hwb, hC', hE', ho⟩
    refine ⟨rfl, .inr ⟨by omega, x, hw, _, hC', atKey_put_same isMap_empty (isKey_u32 ha) _ _, ?_, by omega, fun j hj => by have := hwb j hj; omega, ?_⟩, ho.own hv (cache_apart hC hv), ho.below B hB (fun k hk => by rcases hk with rfl | rfl <;> assumption)⟩
    · rw [take_snoc bs 0 hk]; simpa using hE'
    · cases hj : hw.ownBlock with
      | none => exact .inl rfl
      | some j => exact .inr (fun e => by have h1 := hwb j hj; have h2 := own_lt hv j e.symm; omega)
  · have hlen : (bs.take k).length = k := by simp; omega
    refine (send_more x hw 0 0 1 8 (bs.take k) (by omega) age 3 0 0 a bs[k] mb g 1 D ha hs (by decide) (by decide) wr hC hE hD).mono ?_
    rintro e w' ⟨rfl, hw', hat, hC', hE', ho⟩
    have hno : ∀ j, v.ownBlock = some j → ¬ (j = g ∨ j = x ∨ some j = hw.ownBlock) := by
      rintro j hj (rfl | rfl | e)
      · exact own_ne hv hC.1 (by decide) hj.symm
      · exact own_ne hv hE.1 (by decide) hj.symm
      · rcases hap with h | h
        · rw [h] at e; cases e
        · exact h (e.symm.trans hj.symm)
    have hf : ((k : Int) == 0) = false := beq_eq_false_iff_ne.mpr (by omega)
    refine ⟨by rw [hf], .inr ⟨by omega, x, hw', D, hC', hD, ?_, hx, ?_, ?_⟩, ho.own hv hno, ho.below B hB (fun j hj => by rcases hj with rfl | rfl | e; exact hg; exact hx; exact hwb j e.symm)⟩
    · rw [take_snoc bs k hk]; exact hE'
    · intro j hj
      rcases hat with h | h
      · rw [h] at hj; exact hwb j hj
      · have := h j hj; omega
    · rcases hat with h | h
      · rw [h]; exact hap
      · cases hj : hw'.ownBlock with
        | none => exact .inl rfl
        | some j => exact .inr (fun e => by have h1 := h j hj; have h2 := own_lt hv j e.symm; omega)

theorem hold_grown {B g mb : Nat} {age a : Int} {bs : List ByteArray} {k m : Nat} {wr w' : World} {v v' : Value} {xs : List Value} (hC : HCache B g mb age a bs k wr v.ownBlock) (hv : wr.ownsRow B 9 1 v m xs) (hg : wr.grownBy w' v.ownBlock) (hat : v'.ownBlock = v.ownBlock ∨ v'.ownBlock = some wr.heap.size) : HCache B g mb age a bs k w' v'.ownBlock := by
  have cache : ∀ {n : Nat} {D : DataW Unit}, CacheAt wr g mb n age 3 0 D → CacheAt w' g mb n age 3 0 D := fun hC => ⟨blk_grown hC.1 hg (own_ne hv hC.1 (by decide)), hC.2.kept hg (map_own_ne hC.2 hv)⟩
  rcases hC with ⟨rfl, hC⟩ | ⟨hk0, x, hw, D, hC, hD, hE, hx, hwb, hap⟩
  · exact .inl ⟨rfl, cache hC⟩
  · refine .inr ⟨hk0, x, hw, D, cache hC, hD, ⟨blk_grown hE.1 hg (own_ne hv hE.1 (by decide)), hE.2.kept hg hap⟩, hx, hwb, ?_⟩
    rcases hat with h | h
    · rw [h]; exact hap
    · rw [h]
      cases hj : hw.ownBlock with
      | none => exact .inl rfl
      | some j => exact .inr (fun e => by have h2 := own_lt hE.2 j hj; cases e; omega)

theorem equal_l0 (l : List ByteArray) (hl : l.length ≤ 1000000) : ∀ (d i : Nat), i + d = l.length → PNearHolds.slices_Equal_string_string.l0 (d + 1) l l (l.length : Int) (i : Int) = some true
  | 0, i, h => by
    unfold PNearHolds.slices_Equal_string_string.l0
    rw [if_neg (by omega)]
  | d + 1, i, h => by
    unfold PNearHolds.slices_Equal_string_string.l0
    rw [if_pos (by omega), if_pos (by omega), if_pos (by omega), if_pos (by omega), if_pos rfl]
    have e : wrap64 ((i : Int) + 1) = ((i + 1 : Nat) : Int) := by unfold wrap64; omega
    rw [e]
    exact equal_l0 l hl d (i + 1) (by omega)
theorem equal_same {w : World} {b1 b2 : Nat} {v1 v2 : Value} {l : List ByteArray} (hl : l.length ≤ 1000000) (h1 : w.ownsRow b1 9 1 v1 l.length (l.map Value.string)) (h2 : w.ownsRow b2 9 1 v2 l.length (l.map Value.string)) :
    Calls Try.prog 12 #[v1, v2] w fun e w' => e = .returned (.bool true) ∧ ∃ m, w' = w.drewN m := by
  obtain ⟨A1, c1, rfl, hc1, r1⟩ := own_reads_of_le (d := ByteArray.empty) h1
  obtain ⟨A2, c2, rfl, hc2, r2⟩ := own_reads_of_le (d := ByteArray.empty) h2
  refine (PNearHolds.slices_Equal_string_string.calls (l.length + 1) A1 c1 l A2 c2 l true w (Kd.C_of_reads r1) hc1 (Kd.C_of_reads r2) hc2 ?_).mono ?_
  · unfold PNearHolds.slices_Equal_string_string.f
    rw [if_pos rfl]
    exact equal_l0 l hl l.length 0 (by omega)
  · rintro e w' ⟨rfl, m, h⟩
    exact ⟨rfl, m, h⟩

theorem hold_learn (B g mb : Nat) (age a link : Int) (bs : List ByteArray) (wr : World) (v : Value) (ha : (Lit.int .u32 a).wf = true) (hag : 1 ≤ age ∧ age ≤ 1000000000) (hl : 0 ≤ link ∧ link < 281474976710655) (hB : B ≤ wr.heap.size) (hg : B ≤ g) (hmb : B ≤ mb)
    (hC : HCache B g mb age a bs bs.length wr v.ownBlock) (hv : wr.ownsRow B 9 1 v bs.length (bs.map Value.string)) :
    Calls Try.prog 11 #[.pointer (some ⟨g, 0, none⟩), .int .u32 a, .int .i64 link, .int .i64 1] wr fun e w' => ∃ (vo : Value) (x n : Nat) (D : DataW Unit), e = .returned (.tuple #[vo, .int .i64 0]) ∧ w'.ownsRow 0 9 1 vo bs.length (bs.map Value.string) ∧ w'.ownsRow B 9 1 v bs.length (bs.map Value.string) ∧
      CacheAt w' g mb n age 3 1 D ∧ D.atKey (.int .u32 a) (.lit (.int .i64 (-1))) = .lit (.int .i64 x) ∧ EntAt w' x (.slice none 0 0) true link (1 + age) [] 0 0 ∧ B ≤ x ∧ Below B wr w' := by
  have hS : ∀ k, (k = g ∨ k = mb) → B ≤ k := fun k hk => by rcases hk with rfl | rfl <;> assumption
  rcases hC with ⟨hk, hC⟩ | ⟨hk0, x, hw, D, hC, hD, hE, hx, hwb, hap⟩
  · refine (learn_none age 3 0 1 link a mb g 0 (.map []) ha hag hl (by decide) (by decide) (by decide) wr hC (atKey_empty _ _)).mono ?_
    rintro e w' ⟨rfl, x, hx, hC', hE', ho⟩
    obtain rfl : bs = [] := List.eq_nil_of_length_eq_zero hk
    exact ⟨_, x, _, _, rfl, own_nil _ _ _ _, ho.own hv (cache_apart hC hv), hC', atKey_put_same isMap_empty (isKey_u32 ha) _ _, hE', by omega, ho.below B hB hS⟩
  · rw [List.take_length] at hE
    refine (learn_some x hw false 0 0 1 8 bs age 3 0 1 link a mb g 1 D ha hag hl (by decide) (by decide) (by decide) wr hC hE hD).mono ?_
    rintro e w' ⟨rfl, x', hx', hC', hE', ho⟩
    exact ⟨_, x', _, _, rfl, ho.own hE.2 (cache_apart hC hE.2), ho.own hv (cache_apart hC hv), hC', atKey_put_same hC.2.isMap (isKey_u32 ha) _ _, hE', by omega, ho.below B hB hS⟩

theorem hold_alloc {B g mb : Nat} {age a : Int} {bs : List ByteArray} {k : Nat} {wr : World} {av : Option Nat} (hC : HCache B g mb age a bs k wr av) (o : Obj) : HCache B g mb age a bs k (wr.alloc o) av := by
  rcases hC with ⟨rfl, hC⟩ | ⟨hk0, x, hw, D, hC, hD, hE, hx, hwb, hap⟩
  · exact .inl ⟨rfl, blk_alloc hC.1 o, hC.2.alloc o⟩
  · exact .inr ⟨hk0, x, hw, D, ⟨blk_alloc hC.1 o, hC.2.alloc o⟩, hD, ⟨blk_alloc hE.1 o, hE.2.alloc o⟩, hx, hwb, hap⟩

theorem mod_of (x m : Int) (h0 : 0 < m) (h1 : m < 10000) : ∃ n : Int, wrap64 ((IntKind.u64.wrap x).tmod m) = n ∧ 0 ≤ n ∧ n < m := by
  have e : IntKind.u64.wrap x = x % 18446744073709551616 := by simp [IntKind.wrap, IntKind.bits, IntKind.signed]
  have h2 : 0 ≤ x % 18446744073709551616 := by omega
  rw [e, Int.tmod_eq_emod_of_nonneg h2]
  have h3 := Int.emod_nonneg (x % 18446744073709551616) (show m ≠ 0 by omega)
  have h4 := Int.emod_lt_of_pos (x % 18446744073709551616) h0
  exact ⟨_, rfl, by unfold wrap64; omega, by unfold wrap64; omega⟩

set_option maxHeartbeats 1000000 in
theorem nearHolds_some (a link0 age0 : Int) (ad : Addr) (len cap : Nat) (ss : List ByteArray) (h0 : 0 ≤ a ∧ a ≤ 4294967295) (hlc : len ≤ cap) (hcap : cap ≤ maxLen) (hss : len ≤ ss.length) (w : World)
    (hcell : ∀ i, i < len → w.cell? (ad.add i) = some (.string (ss.getD i ByteArray.empty))) :
    Calls Try.prog 3 #[.int .u32 a, .slice (some ad) len cap, .int .i64 link0, .int .i64 age0] w fun e w' => e = .returned (.bool true) ∧ Below w.heap.size w w' := by
  have ha := u32_wf h0
  obtain ⟨link, el, hl0, hl1⟩ := mod_of link0 1000 (by decide) (by decide)
  obtain ⟨ag, ea, ha0, ha1⟩ := mod_of age0 100 (by decide) (by decide)
  have ea2 : wrap64 (1 + ag) = 1 + ag := by unfold wrap64; omega
  obtain ⟨age, he⟩ : ∃ age, 1 + ag = age := ⟨_, rfl⟩
  rw [he] at ea2
  have hr : 1 ≤ age ∧ age ≤ 100 := by omega
  have hsome := fun W => some_calls ad len cap 4 hlc hcap (by decide) W
  have hnew := fun W => new_cache age 3 (by omega) (by decide) W
  go_enter Try.func3, Try.ntmps3
  go_wp2_with (first | (go_at_call 6; refine (nearLives_calls _).mono ?_; rintro e w1 ⟨rfl, hb1⟩) | (go_at_call 7; refine (hnew _).mono ?_; rintro e w2 ⟨g, mb, rfl, hg, hmb, hC1, ho1⟩) | (go_at_call 8; refine (hsome _).mono ?_; rintro e w3 ⟨rfl, rfl⟩))
  clear el ea ea2 he hsome hnew
  obtain ⟨m, hm⟩ : ∃ m, min len 4 = m := ⟨_, rfl⟩
  have hml : m ≤ len := by omega
  have hm4 : m ≤ 4 := by omega
  rw [hm]
  clear hm
  obtain ⟨bs, hbs⟩ : ∃ bs, (ss.take m).map (fun s => beg s 20) = bs := ⟨_, rfl⟩
  have hbl : bs.length = m := by rw [← hbs]; simp; omega
  have hbk : ∀ k, (hk : k < bs.length) → bs[k] = beg (ss.getD k ByteArray.empty) 20 := by
    intro k hk
    subst hbs
    have : k < ss.length := by omega
    simp [this]
  clear hbs
  have hb2 := hb1.trans ((ho1.below w1.heap.size (Nat.le_refl _) (fun k hk => hk.elim)).mono hb1.size)
  have hz1 := hb1.size
  have hz2 := hb2.size
  clear hb1 ho1
  obtain ⟨i0, hi, hz0, hz3, hz4⟩ := info_parts info9
  go_loopw [11, 47] (fun v i wr => ∃ k : Nat, k ≤ m ∧ i = .int .i64 k ∧ wr.ownsRow w.heap.size 9 1 v k ((bs.take k).map Value.string) ∧ HCache w.heap.size g mb age a bs k wr v.ownBlock ∧ Below w.heap.size w wr) (fun _ i _ => m - (intOf i).toNat)
  case atStart => exact ⟨0, Nat.zero_le _, rfl, own_nil _ _ _ _, .inl ⟨rfl, hC1⟩, hb2⟩
  case round =>
    clear hC1 hb2 hz2
    obtain ⟨k, hk, rfl, hown, hC, hbw⟩ := hrel
    by_cases hlt : k < m
    · have hck := pw_cell_below hbw (hcell k (by omega))
      have hzr := hbw.size
      have hbeg := fun W => begin_calls (ss.getD k ByteArray.empty) 20 (by decide) W
      rw [← hbk k (by omega)] at hbeg
      have hsz : bs[k].size ≤ 20 := by rw [hbk k (by omega), beg_size]; omega
      have hsend := hold_send w.heap.size g mb age a bs k (by omega) (by omega) wr _ _ ha hzr (by omega) (by omega) (by omega) hC hown
      have hts := take_snoc bs k (by omega)
      have HTS := Lib.hid hts
      clear hbk hC hown hts
      generalize bs[k] = s at *
      go_wp2_with (first | (go_at_call 9; refine (hbeg _).mono ?_; rintro e w3 ⟨rfl, rfl⟩) | (go_at_call 10; refine hsend.mono ?_; rintro e w4 ⟨rfl, hC4, hown4, hb4⟩; clear hsend) | (at_builtin; refine wpList_append_own_at _ rfl (.tmp 74) (.tmp 76) 23 rfl w.heap.size 9 i0 _ 1 16 Try.underlying23 hi hz0 hz3 hz4 rfl (by decide) _ k _ rfl (hown4.alloc _) ⟨w4.heap.size, 0, none⟩ 1 1 [.string s] rfl rfl (cell_one_new _ _ _) ?c2 ?c3 ?c4 ?c5 ?_))
      clear hbeg
      case c2 => exact fun u hu => by simp at hu; subst hu; rfl
      case c3 => unfold maxLen; omega
      case c4 => omega
      case c5 => have := hb4.size; simp; omega
      intro v' W5 hown5 hg5 _ hat5
      have hC5 := hold_grown (hold_alloc hC4 (.cells #[.string s] 9 (0, 0))) (hown4.alloc _) hg5 (by rw [World.size_alloc]; exact hat5)
      have hz4 := hb4.size
      have hb5 : Below w.heap.size w W5 := ((hbw.trans hb4).alloc (by omega) (.cells #[.string s] 9 (0, 0))).grown hg5 (by simp; omega) (fun j hj => own_base hown4 j hj)
      have hown6 : W5.ownsRow w.heap.size 9 1 v' (k + 1) ((bs.take (k + 1)).map Value.string) := by rw [HTS.out, List.map_append, List.map_take]; exact hown5
      clear hown4 hg5 hat5 hC4 hown5 HTS hbw hb4 hck
      go_wp2
      go_roundw
      case rel => exact ⟨k + 1, by omega, by go_num, hown6, hC5, hb5⟩
      case measure => simp [intOf]; omega
    · have hkm : k = bs.length := by omega
      subst hkm
      have hkm := hbl
      subst hkm
      clear hbk hcell
      rw [List.take_length] at hown
      have hlearn := hold_learn w.heap.size g mb age a link bs wr _ ha (by omega) (by omega) hbw.size (by omega) (by omega) hC hown
      clear hC hown
      have he1 : IntKind.i64.wrap (age + 1) = age + 1 := IntWalk.i64_in _ (by omega)
      go_wp2_with (first | (go_at_call 11; refine hlearn.mono ?_; rintro e w4 ⟨vo, x, n, D, rfl, hvo, hvh, hC4, hD4, hE4, hx4, hb4⟩; clear hlearn; have heq := equal_same (by omega) hvo hvh) | (go_at_call 12; refine heq.mono ?_; rintro e w5 ⟨rfl, m5, rfl⟩; clear heq; have hC5 : CacheAt (w4.drewN m5) g mb n age 3 1 D := hC4; have hE5 : EntAt (w4.drewN m5) x (.slice none 0 0) true link (1 + age) [] 0 0 := hE4; have hb5 : Below w.heap.size wr (w4.drewN m5) := pw_below_drewN hb4 m5; clear hC4 hE4 hb4 hvo hvh; generalize w4.drewN m5 = W5 at hC5 hE5 hb5 ⊢; have hsk := send_known x (.slice none 0 0) link (1 + age) 0 0 [] age 3 1 age a ⟨#[]⟩ mb g n D ha (by decide) (by omega) (by omega) W5 hC5 hE5 (by omega) hD4) | (go_at_call 10; refine hsk.mono ?_; rintro e w6 ⟨rfl, hC6, ho6⟩; clear hsk; have hE6 : EntAt w6 x (.slice none 0 0) true link (1 + age) [] 0 0 := ⟨ho6.blk hE5.1 (fun e => blk_ne hC5.1 hE5.1 (by decide) e.symm), own_nil _ _ _ _⟩; have hb6 := hb5.trans (ho6.below w.heap.size (Nat.le_trans hbw.size hb5.size) (fun k hk => by cases hk; omega)); have hfo := find_old x (.slice none 0 0) link (1 + age) 0 0 [] age 3 age (age + 1) a mb g n D ha (by omega) (by omega) w6 hC6 hE6 (by omega) hD4; clear hC5 hE5 hb5 ho6) | (go_at_call 13; refine hfo.mono ?_; rintro e w7 ⟨rfl, m7, rfl⟩; clear hfo))
      go_ret
      exact ⟨rfl, pw_below_drewN (hbw.trans hb6) _⟩

set_option maxHeartbeats 1000000 in
theorem nearHolds_nil (a link0 age0 : Int) (h0 : 0 ≤ a ∧ a ≤ 4294967295) (w : World) :
    Calls Try.prog 3 #[.int .u32 a, .slice none 0 0, .int .i64 link0, .int .i64 age0] w fun e w' => e = .returned (.bool true) ∧ Below w.heap.size w w' := by
  have ha := u32_wf h0
  obtain ⟨link, el, hl0, hl1⟩ := mod_of link0 1000 (by decide) (by decide)
  obtain ⟨ag, ea, ha0, ha1⟩ := mod_of age0 100 (by decide) (by decide)
  have ea2 : wrap64 (1 + ag) = 1 + ag := by unfold wrap64; omega
  obtain ⟨age, he⟩ : ∃ age, 1 + ag = age := ⟨_, rfl⟩
  rw [he] at ea2
  have hr : 1 ≤ age ∧ age ≤ 100 := by omega
  have hsome := fun W => some_nil 4 (by decide) W
  have hnew := fun W => new_cache age 3 (by omega) (by decide) W
  go_enter Try.func3, Try.ntmps3
  go_wp2_with (first | (go_at_call 6; refine (nearLives_calls _).mono ?_; rintro e w1 ⟨rfl, hb1⟩) | (go_at_call 7; refine (hnew _).mono ?_; rintro e w2 ⟨g, mb, rfl, hg, hmb, hC1, ho1⟩) | (go_at_call 8; refine (hsome _).mono ?_; rintro e w3 ⟨rfl, rfl⟩))
  clear el ea ea2 he hsome hnew
  have hb2 := hb1.trans ((ho1.below w1.heap.size (Nat.le_refl _) (fun k hk => hk.elim)).mono hb1.size)
  have hz1 := hb1.size
  have hz2 := hb2.size
  clear hb1 ho1
  go_loopw [11, 47] (fun v i wr => i = .int .i64 0 ∧ wr.ownsRow w.heap.size 9 1 v 0 [] ∧ HCache w.heap.size g mb age a [] 0 wr v.ownBlock ∧ Below w.heap.size w wr) (fun _ i _ => 0)
  case atStart => exact ⟨rfl, own_nil _ _ _ _, .inl ⟨rfl, hC1⟩, hb2⟩
  case round =>
    clear hC1 hb2 hz2
    obtain ⟨rfl, hown, hC, hbw⟩ := hrel
    · have hlearn := hold_learn w.heap.size g mb age a link [] wr _ ha (by omega) (by omega) hbw.size (by omega) (by omega) hC hown
      clear hC hown
      have he1 : IntKind.i64.wrap (age + 1) = age + 1 := IntWalk.i64_in _ (by omega)
      go_wp2_with (first | (go_at_call 11; refine hlearn.mono ?_; rintro e w4 ⟨vo, x, n, D, rfl, hvo, hvh, hC4, hD4, hE4, hx4, hb4⟩; clear hlearn; have heq := equal_same (Nat.zero_le _) hvo hvh) | (go_at_call 12; refine heq.mono ?_; rintro e w5 ⟨rfl, m5, rfl⟩; clear heq; have hC5 : CacheAt (w4.drewN m5) g mb n age 3 1 D := hC4; have hE5 : EntAt (w4.drewN m5) x (.slice none 0 0) true link (1 + age) [] 0 0 := hE4; have hb5 : Below w.heap.size wr (w4.drewN m5) := pw_below_drewN hb4 m5; clear hC4 hE4 hb4 hvo hvh; generalize w4.drewN m5 = W5 at hC5 hE5 hb5 ⊢; have hsk := send_known x (.slice none 0 0) link (1 + age) 0 0 [] age 3 1 age a ⟨#[]⟩ mb g n D ha (by decide) (by omega) (by omega) W5 hC5 hE5 (by omega) hD4) | (go_at_call 10; refine hsk.mono ?_; rintro e w6 ⟨rfl, hC6, ho6⟩; clear hsk; have hE6 : EntAt w6 x (.slice none 0 0) true link (1 + age) [] 0 0 := ⟨ho6.blk hE5.1 (fun e => blk_ne hC5.1 hE5.1 (by decide) e.symm), own_nil _ _ _ _⟩; have hb6 := hb5.trans (ho6.below w.heap.size (Nat.le_trans hbw.size hb5.size) (fun k hk => by cases hk; omega)); have hfo := find_old x (.slice none 0 0) link (1 + age) 0 0 [] age 3 age (age + 1) a mb g n D ha (by omega) (by omega) w6 hC6 hE6 (by omega) hD4; clear hC5 hE5 hb5 ho6) | (go_at_call 13; refine hfo.mono ?_; rintro e w7 ⟨rfl, m7, rfl⟩; clear hfo))
      go_ret
      exact ⟨rfl, pw_below_drewN (hbw.trans hb6) _⟩

/-- A slice of strings that came in. -/
def StrsAt (w : World) (v : Value) : Prop := v = .slice none 0 0 ∨ ∃ (ad : Addr) (len cap : Nat) (ss : List ByteArray), v = .slice (some ad) len cap ∧ len ≤ cap ∧ cap ≤ maxLen ∧ len ≤ ss.length ∧ ∀ i, i < len → w.cell? (ad.add i) = some (.string (ss.getD i ByteArray.empty))
theorem nearHolds_calls (a : Int) (v : Value) (link age : Int) (h0 : 0 ≤ a ∧ a ≤ 4294967295) (w : World) (hv : StrsAt w v) :
    Calls Try.prog 3 #[.int .u32 a, v, .int .i64 link, .int .i64 age] w fun e w' => e = .returned (.bool true) ∧ Below w.heap.size w w' := by
  rcases hv with rfl | ⟨ad, len, cap, ss, rfl, hl, hc, hs, hcell⟩
  · exact nearHolds_nil a link age h0 w
  · exact nearHolds_some a link age ad len cap ss h0 hl hc hs w hcell
end Go.Proofs.Ytimkdghmiccilaa.H
