/- join: the fixed example of joining; a new table; some packets of a list. No conditions but sizes. -/
import Derived.Deep.QuietTactic
import Derived.BigQuiet
import Derived.Test.YtlhfkkionaemhaaHJoinModel
import Derived.Test.YtlhfkkionaemhaaHJoinTick
import Derived.Test.YtlhfkkionaemhaaHCut
namespace Go.Proofs.Ytlhfkkionaemhaa.H
set_option linter.unusedSimpArgs false
set_option linter.unusedVariables false
open Go Go.RowKit Go.Maps Go.Proofs.YtlhfkkionaemhaaW.PrintWords Go.Proofs.YtlhfkkionaemhaaW.PrintLast Go.Proofs.YtlhfkkionaemhaaW.PrintMore Go.Proofs.Ytlhfkkionaemhaa.Plain

/-- A new table. -/
theorem new_table (room age : Int) (hr : 1 ≤ room ∧ room ≤ 64) (ha : 1 ≤ age ∧ age ≤ 1000000000) (w : World) :
    Calls Try.prog 8 #[.int .i64 room, .int .i64 age] w fun e w' => e = .returned (.tuple #[.pointer (some ⟨w.heap.size, 0, none⟩), .int .i64 0]) ∧ TabAt w' w.heap.size w.heap.size room age 0 (.slice none 0 0) [] [] ∧ Below w.heap.size w w' := by
  refine (new_calls room age hr ha w).mono ?_
  rintro e w' ⟨rfl, rfl⟩
  exact ⟨rfl, ⟨Nat.le_refl _, by simp, blk_new w _, own_nil _ _ _ _, ⟨rfl, fun i hi => absurd hi (Nat.not_lt_zero _)⟩, List.nodup_nil⟩, (Below.refl _ _).alloc (Nat.le_refl _) _⟩

def exA : Pk := ⟨0, 0, 0, 1, 0, 8, false, false, ⟨#[105, 106, 107, 108]⟩⟩
def exB : Pk := ⟨0, 0, 0, 1, 0, 0, true, false, ⟨#[97, 98, 99, 100, 101, 102, 103, 104]⟩⟩
theorem ex_step : stepE [exA.ent 0] exB 1 = (some ⟨0, 0, 0, 1, 0, 0, false, false, ⟨#[97, 98, 99, 100, 101, 102, 103, 104, 105, 106, 107, 108]⟩⟩, []) := by kernel_rfl
theorem ex_wrong : (exA.ent 0).wrong exB = false := by kernel_rfl
theorem ex_key : pkEq (exA.ent 0).key exB.key = true := by kernel_rfl
theorem lives_in1 (B g : Nat) (w : World) (hT : TabAt w B g 2 9 0 (.slice none 0 0) [] []) :
    Calls Try.prog 10 #[.pointer (some ⟨g, 0, none⟩), .agg #[.int .u32 0, .int .u32 0, .int .i64 0, .int .i64 1, .int .i64 0, .int .i64 8, .bool false, .bool false, .string ⟨#[105, 106, 107, 108]⟩], .int .i64 0] w fun e w' =>
      e = .returned (.tuple #[.agg #[.int .u32 0, .int .u32 0, .int .i64 0, .int .i64 0, .int .i64 0, .int .i64 0, .bool false, .bool false, .string ⟨#[]⟩], .bool false, .int .i64 0]) ∧ (∃ lv xs, TabAt w' B g 2 9 0 lv xs [exA.ent 0]) ∧ Below B w w' :=
  (in_step B g 2 9 0 0 _ [] [] exA 0 (by decide) (by decide) (by decide) (by decide) (by decide) (fun e he => by cases he) (by kernel_rfl) (.inl (by decide)) (by decide) (fun _ => by decide) (fun e he => by cases he) w hT).mono fun e w' hh => ⟨hh.1, hh.2.1, hh.2.2.1⟩
theorem lives_in2 (B g : Nat) (lv : Value) (xs : List Nat) (w : World) (hT : TabAt w B g 2 9 0 lv xs [exA.ent 0]) :
    Calls Try.prog 10 #[.pointer (some ⟨g, 0, none⟩), .agg #[.int .u32 0, .int .u32 0, .int .i64 0, .int .i64 1, .int .i64 0, .int .i64 0, .bool true, .bool false, .string ⟨#[97, 98, 99, 100, 101, 102, 103, 104]⟩], .int .i64 1] w fun e w' =>
      e = .returned (.tuple #[.agg #[.int .u32 0, .int .u32 0, .int .i64 0, .int .i64 1, .int .i64 0, .int .i64 0, .bool false, .bool false, .string ⟨#[97, 98, 99, 100, 101, 102, 103, 104, 105, 106, 107, 108]⟩], .bool true, .int .i64 0]) ∧ Below B w w' := by
  have h := in_step B g 2 9 0 1 lv xs [exA.ent 0] exB 1500 (by decide) (by decide) (by decide) (by decide) (by decide) (fun e he => by simp only [List.mem_singleton] at he; subst he; exact ent_ok (by decide)) (by kernel_rfl) (.inr rfl) (by decide) (fun _ => by decide)
    (fun e he _ => by simp only [List.mem_singleton] at he; subst he; exact ex_wrong) w hT
  rw [ex_step] at h
  exact h.mono fun e w' hh => ⟨hh.1, hh.2.2.1⟩

set_option maxHeartbeats 2000000 in
set_option maxRecDepth 100000 in
theorem joinLives_calls (w : World) : Calls Try.prog 7 #[] w fun e w' => e = .returned (.bool true) ∧ Below w.heap.size w w' := by
  have hnew := new_table 2 9 (by decide) (by decide) w
  go_enter Try.func7, Try.ntmps7
  go_wp2_with (first | (go_at_call 8; refine hnew.mono ?_; rintro e w1 ⟨rfl, hT1, hb1⟩; have hin1 := lives_in1 _ _ _ hT1) | (go_at_call 10; refine hin1.mono ?_; rintro e w2 ⟨rfl, ⟨lv, xs, hT2⟩, hb2⟩; clear hin1; have hin2 := lives_in2 _ _ _ _ _ (hT2.alloc (.cells #[.int .u32 0, .int .u32 0, .int .i64 0, .int .i64 0, .int .i64 0, .int .i64 0, .bool false, .bool false, .string ⟨#[]⟩] 32 (0, 0)))) | (go_at_call 10; refine hin2.mono ?_; rintro e w3 ⟨rfl, hb3⟩))
  go_ret
  exact ⟨rfl, (((hb1.trans hb2).alloc (by have := hb1.size; have := hb2.size; omega) _).trans hb3).alloc (by have := hb1.size; have := hb2.size; have := hb3.size; simp at this; omega) _⟩

theorem some_calls (ad : Addr) (len cap n : Nat) (hl : len ≤ cap) (hc : cap ≤ maxLen) (hn : n ≤ 1000000) (w : World) :
    Calls Try.prog 9 #[.slice (some ad) len cap, .int .i64 n] w fun e w' => e = .returned (.slice (some ad) (min len n) cap) ∧ w = w' := by
  unfold maxLen at hc
  go_enter Try.func9, Try.ntmps9
  go_wp2
  go_ret
  exact ⟨by rw [show (min (len : Int) (n : Int)).toNat = min len n by omega]; rfl, rfl⟩
theorem some_nil (n : Nat) (hn : n ≤ 1000000) (w : World) :
    Calls Try.prog 9 #[.slice none 0 0, .int .i64 n] w fun e w' => e = .returned (.slice none 0 0) ∧ w = w' := by
  go_enter Try.func9, Try.ntmps9
  go_wp2
  go_ret
  exact ⟨rfl, rfl⟩

/-- A packet's cells. -/
def pkc (p : Pk) : List Value := [.int .u32 p.src, .int .u32 p.dst, .int .i64 p.proto, .int .i64 p.ttl, .int .i64 p.id, .int .i64 p.off, .bool p.more, .bool p.whole, .string p.body]
/-- A slice of packets that came in. -/
def PksAt (w : World) (v : Value) : Prop := v = .slice none 0 0 ∨ ∃ (ad : Addr) (len cap : Nat) (ps : Nat → Pk), v = .slice (some ad) len cap ∧ len ≤ cap ∧ cap ≤ maxLen ∧ ∀ i, i < len → ∀ j u, (pkc (ps i))[j]? = some u → w.cell? (ad.add (i * 9 + j)) = some u

theorem u64_mod (x m : Int) (h0 : 0 < m) (h1 : m < 1000) : ∃ n : Int, wrap64 (1 + wrap64 ((IntKind.u64.wrap x).tmod m)) = n ∧ 1 ≤ n ∧ n ≤ m := by
  have hx : 0 ≤ IntKind.u64.wrap x := by simp only [IntKind.wrap, IntKind.bits, IntKind.signed]; first | omega | (simp; omega)
  have e : (IntKind.u64.wrap x).tmod m = IntKind.u64.wrap x % m := Int.tmod_eq_emod_of_nonneg hx
  have a := Int.emod_nonneg (IntKind.u64.wrap x) (show m ≠ 0 by omega)
  have b := Int.emod_lt_of_pos (IntKind.u64.wrap x) h0
  refine ⟨1 + IntKind.u64.wrap x % m, ?_, by omega, by omega⟩
  rw [e]
  unfold wrap64
  omega

theorem add_split (ad : Addr) (a j : Nat) (hj : 0 < j) : ad.add (a + j) = ⟨(ad.add a).block, (ad.add a).off + j, none⟩ := by
  unfold Addr.add
  rw [if_neg (by omega)]
  by_cases h : a = 0
  · subst h; simp
  · rw [if_neg h]; simp; omega
/-- The cells of a packet of a slice that came in. -/
theorem pks_cells {w : World} {ad : Addr} {k : Nat} {p : Pk} (h : ∀ j u, (pkc p)[j]? = some u → w.cell? (ad.add (k * 9 + j)) = some u) :
    w.cell? (ad.add (k * 9)) = some (.int .u32 p.src) ∧ w.cell? ⟨(ad.add (k * 9)).block, (ad.add (k * 9)).off + 1, none⟩ = some (.int .u32 p.dst) ∧ w.cell? ⟨(ad.add (k * 9)).block, (ad.add (k * 9)).off + 2, none⟩ = some (.int .i64 p.proto) ∧ w.cell? ⟨(ad.add (k * 9)).block, (ad.add (k * 9)).off + 3, none⟩ = some (.int .i64 p.ttl) ∧ w.cell? ⟨(ad.add (k * 9)).block, (ad.add (k * 9)).off + 4, none⟩ = some (.int .i64 p.id) ∧ w.cell? ⟨(ad.add (k * 9)).block, (ad.add (k * 9)).off + 5, none⟩ = some (.int .i64 p.off) ∧ w.cell? ⟨(ad.add (k * 9)).block, (ad.add (k * 9)).off + 6, none⟩ = some (.bool p.more) ∧ w.cell? ⟨(ad.add (k * 9)).block, (ad.add (k * 9)).off + 7, none⟩ = some (.bool p.whole) ∧ w.cell? ⟨(ad.add (k * 9)).block, (ad.add (k * 9)).off + 8, none⟩ = some (.string p.body) := by
  refine ⟨h 0 _ rfl, ?_, ?_, ?_, ?_, ?_, ?_, ?_, ?_⟩
  all_goals rw [← add_split _ _ _ (by decide)]
  · exact h 1 _ rfl
  · exact h 2 _ rfl
  · exact h 3 _ rfl
  · exact h 4 _ rfl
  · exact h 5 _ rfl
  · exact h 6 _ rfl
  · exact h 7 _ rfl
  · exact h 8 _ rfl
/-- What the law knows before the packet at k. -/
def RoomAt (w0 : World) (g : Nat) (rm ag : Int) (k : Nat) (wr : World) : Prop :=
  ∃ tn lv xs E, TabAt wr g g rm ag tn lv xs E ∧ 0 ≤ tn ∧ tn ≤ (k : Int) ∧ (E.length : Int) ≤ rm ∧ EOk (1500 * k) E ∧ (∀ e ∈ E, 0 ≤ e.begun ∧ e.begun ≤ 9) ∧ Below w0.heap.size w0 wr
set_option maxHeartbeats 4000000 in
set_option maxRecDepth 100000 in
theorem joinRoom_some (room age : Int) (ad : Addr) (len cap : Nat) (ps : Nat → Pk) (hlc : len ≤ cap) (hcap : cap ≤ maxLen) (w : World)
    (hcell : ∀ i, i < len → ∀ j u, (pkc (ps i))[j]? = some u → w.cell? (ad.add (i * 9 + j)) = some u) :
    Calls Try.prog 3 #[.int .i64 room, .int .i64 age, .slice (some ad) len cap] w fun e w' => e = .returned (.bool true) ∧ Below w.heap.size w w' := by
  obtain ⟨rm, er, hr0, hr1⟩ := u64_mod room 4 (by decide) (by decide)
  obtain ⟨ag, ea, ha0, ha1⟩ := u64_mod age 20 (by decide) (by decide)
  have hnew := fun W => new_table rm ag ⟨hr0, by omega⟩ ⟨ha0, by omega⟩ W
  have hlives := fun W => joinLives_calls W
  have hsome := fun W => some_calls ad len cap 10 hlc hcap (by decide) W
  go_enter Try.func3, Try.ntmps3
  go_wp2_with (first | (go_at_call 7; refine (hlives _).mono ?_; rintro e w1 ⟨rfl, hb1⟩) | (go_at_call 8; refine (hnew _).mono ?_; rintro e w2 ⟨rfl, hT2, hb2⟩) | (go_at_call 9; refine (hsome _).mono ?_; rintro e w3 ⟨rfl, rfl⟩))
  have hAt : RoomAt w w1.heap.size rm ag 0 w2 := ⟨0, .slice none 0 0, [], [], hT2, Int.le_refl _, by omega, by simp; omega, (fun e he => by cases he), (fun e he => by cases he), hb1.trans (hb2.mono hb1.size)⟩
  obtain ⟨m, hm⟩ : ∃ m, min len 10 = m := ⟨_, rfl⟩
  have hml : m ≤ len := by omega
  have hm10 : m ≤ 10 := by omega
  rw [hm]
  clear hm er ea hnew hlives hsome hT2 hb2
  have hwg := hb1.size
  clear hb1
  generalize w1.heap.size = g at hAt hwg ⊢
  go_loopw [39] (fun i wr => ∃ k : Nat, i = .int .i64 k ∧ k ≤ m ∧ RoomAt w g rm ag k wr) (fun i _ => m - (intOf i).toNat)
  case atStart => exact ⟨0, rfl, Nat.zero_le _, hAt⟩
  case round =>
    clear hAt
    obtain ⟨k, rfl, hk, hA⟩ := hrel
    by_cases hlt : k < m
    · obtain ⟨tn, lv, xs, E, hT, h0, h1, h2, h3, h4, hb⟩ := hA
      obtain ⟨q0, q1, q2, q3, q4, q5, q6, q7, q8⟩ := pks_cells (fun j u hu => pw_cell_below hb (hcell k (by omega) j u hu))
      have hin := fun W hW => in_any g g rm ag tn k lv xs E ⟨(ps k).src, (ps k).dst, (ps k).proto, (ps k).ttl, (ps k).id, (ps k).off, (ps k).more, (ps k).whole, beg (ps k).body 24⟩ (1500 * k) 9 (by show (beg (ps k).body 24).size ≤ 1500; rw [beg_size]; omega) (by omega) (by omega) (by omega) h1 (by omega) h2 h3 h4 W hW
      unfold packV at hin
      simp only at hin
      have hbr := fun W => bare_calls (ps k).src (ps k).dst (ps k).proto (ps k).ttl (ps k).id (ps k).off (ps k).more (ps k).whole (ps k).body 24 (by decide) W
      clear hcell h3 h4
      generalize ps k = p at hin hbr q0 q1 q2 q3 q4 q5 q6 q7 q8
      obtain ⟨p0, p1, p2, p3, p4, p5, p6, p7, p8⟩ := p
      simp only at hin hbr q0 q1 q2 q3 q4 q5 q6 q7 q8
      generalize beg p8 24 = b8 at hin hbr
      go_wp2_with (first | (go_at_call 11; refine (hbr _).mono ?_; rintro e w3 ⟨rfl, rfl⟩) | (go_at_call 10; refine (hin _ (((hT.alloc _).alloc _).alloc _)).mono ?_; rintro e w4 ⟨pq, bb, cc, rfl, tn', lv', xs', E', hT', g1, g2, g3, g4, g5, g6⟩; obtain ⟨A', c', rfl⟩ := own_slice hT'.row; have hwt := wait_calls rm ag tn' A' xs'.length c' g w4 hT'.blk; have hne : ¬ rm < (xs'.length : Int) := (by have := hT'.ents.1; omega)) | (go_at_call 12; refine hwt.mono ?_; rintro e w5 ⟨rfl, rfl⟩))
      go_roundw
      case rel => exact ⟨k + 1, by go_num, by omega, tn', _, xs', E', hT', by omega, by omega, g3, by rw [Nat.mul_succ]; exact g4, g5, hb.trans (((((Below.refl _ _).alloc (by have := hb.size; omega) _).alloc (by have := hb.size; simp; omega) _).alloc (by have := hb.size; simp; omega) _).trans (g6.mono (by omega)))⟩
      case measure => simp [intOf]; omega
    · obtain rfl : k = m := by omega
      obtain ⟨tn, lv, xs, E, hT, h0, h1, h2, h3, h4, hb⟩ := hA
      have hlen := hT.ents.1
      have htk := tick_calls g g rm ag tn (10 + ag) lv xs E (by omega) (fun e he => by have := h4 e he; omega) (by omega) (by omega) wr hT
      have hxr : (xs.length : Int) ≤ rm := by omega
      clear hcell h3 h4 hlen
      have e5 : IntKind.i64.wrap (10 + ag) = 10 + ag := IntWalk.i64_in _ (by omega)
      go_wp2_with (first | (go_at_call 13; refine htk.mono ?_; rintro e w5 ⟨A, n, c, A2, c2, rfl, hn, hbk, hb5⟩; have hwt := wait_calls rm ag _ A2 0 c2 g w5 hbk; have hnr : (n : Int) ≤ rm := (by omega)) | (go_at_call 12; refine hwt.mono ?_; rintro e w6 ⟨rfl, rfl⟩))
      go_ret
      exact ⟨rfl, hb.trans (hb5.mono hwg)⟩

set_option maxHeartbeats 4000000 in
set_option maxRecDepth 100000 in
theorem joinRoom_nil (room age : Int) (w : World) :
    Calls Try.prog 3 #[.int .i64 room, .int .i64 age, .slice none 0 0] w fun e w' => e = .returned (.bool true) ∧ Below w.heap.size w w' := by
  obtain ⟨rm, er, hr0, hr1⟩ := u64_mod room 4 (by decide) (by decide)
  obtain ⟨ag, ea, ha0, ha1⟩ := u64_mod age 20 (by decide) (by decide)
  have hnew := fun W => new_table rm ag ⟨hr0, by omega⟩ ⟨ha0, by omega⟩ W
  have hlives := fun W => joinLives_calls W
  have hsome := fun W => some_nil 10 (by decide) W
  go_enter Try.func3, Try.ntmps3
  go_wp2_with (first | (go_at_call 7; refine (hlives _).mono ?_; rintro e w1 ⟨rfl, hb1⟩) | (go_at_call 8; refine (hnew _).mono ?_; rintro e w2 ⟨rfl, hT2, hb2⟩) | (go_at_call 9; refine (hsome _).mono ?_; rintro e w3 ⟨rfl, rfl⟩))
  have hbb := hb1.trans (hb2.mono hb1.size)
  have hwg := hb1.size
  clear er ea hnew hlives hsome hb1 hb2
  generalize w1.heap.size = g at hT2 hwg ⊢
  have htk := tick_calls g g rm ag 0 (10 + ag) (.slice none 0 0) [] [] (by decide) (fun e he => by cases he) (by omega) (by omega) w2 hT2
  have e5 : IntKind.i64.wrap (10 + ag) = 10 + ag := IntWalk.i64_in _ (by omega)
  refine wp_loop_rounds 1 ?_
  rw [rounds_succ]
  go_wp2_with (first | (go_at_call 13; refine htk.mono ?_; rintro e w5 ⟨A, n, c, A2, c2, rfl, hn, hbk, hb5⟩; have hwt := wait_calls rm ag _ A2 0 c2 g w5 hbk; have hnr : (n : Int) ≤ rm := (by simp at hn; omega)) | (go_at_call 12; refine hwt.mono ?_; rintro e w6 ⟨rfl, rfl⟩))
  go_ret
  exact ⟨rfl, hbb.trans (hb5.mono hwg)⟩
theorem joinRoom_calls (room age : Int) (v : Value) (w : World) (hv : PksAt w v) :
    Calls Try.prog 3 #[.int .i64 room, .int .i64 age, v] w fun e w' => e = .returned (.bool true) ∧ Below w.heap.size w w' := by
  rcases hv with rfl | ⟨ad, len, cap, ps, rfl, hl, hc, hcell⟩
  · exact joinRoom_nil room age w
  · exact joinRoom_some room age ad len cap ps hl hc w hcell
end Go.Proofs.Ytlhfkkionaemhaa.H
