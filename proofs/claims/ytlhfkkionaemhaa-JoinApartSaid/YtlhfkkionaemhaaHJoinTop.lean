/- join: what the laws share: a valid packet, its division, what In answers at a piece in whatever order. Conditions: sizes. -/
import Derived.Test.YtlhfkkionaemhaaHJoinParts
namespace Go.Proofs.Ytlhfkkionaemhaa.H
set_option linter.unusedSimpArgs false
set_option linter.unusedVariables false
open Go Go.RowKit Go.Maps Go.Proofs.YtlhfkkionaemhaaW.PrintWords Go.Proofs.YtlhfkkionaemhaaW.PrintLast Go.Proofs.YtlhfkkionaemhaaW.PrintMore Go.Proofs.Ytlhfkkionaemhaa.Plain

/-- Any packet made a valid one that is no fragment. -/
def whole_ (p : Pk) (n : Nat) : Pk := ⟨p.src, p.dst, p.proto % 256, p.ttl % 128 + 1, p.id % 65536, 0, false, false, beg p.body n⟩
theorem whole_base (p : Pk) (n : Nat) (hn : n ≤ 1500) : Base (whole_ p n) ∧ (whole_ p n).body.size ≤ n := by
  have hs : (whole_ p n).body.size ≤ n := by show (beg p.body n).size ≤ n; rw [beg_size]; omega
  refine ⟨⟨?_, ?_, ?_, rfl, rfl, rfl, by omega⟩, hs⟩
  · show 0 ≤ p.proto % 256 ∧ p.proto % 256 ≤ 255; omega
  · show 1 ≤ p.ttl % 128 + 1 ∧ p.ttl % 128 + 1 ≤ 255; omega
  · show 0 ≤ p.id % 65536 ∧ p.id % 65536 ≤ 65535; omega
theorem entire_pk (p : Pk) (n : Nat) (hn : n ≤ 1000000) (w : World) :
    Calls Try.prog 15 #[packV p, .int .i64 n] w fun e w' => e = .returned (packV (whole_ p n)) ∧ ∃ o1 o2 o3 o4, w' = (((w.alloc o1).alloc o2).alloc o3).alloc o4 :=
  entire_calls p.src p.dst p.proto p.ttl p.id p.off p.more p.whole p.body n hn w
/-- The pieces of a packet. -/
def cutL (P : Pk) (n : Int) : List Pk := (pieces (n - 20).toNat false P.body.size 0 P.body).map (mkP P)
theorem cutL_len (P : Pk) (n : Int) (hn : 28 ≤ n) : 0 < (cutL P n).length ∧ (cutL P n).length * 8 ≤ P.body.size + 8 := by
  unfold cutL
  rw [List.length_map]
  exact pieces_count _ (by omega) _ _ _ _
theorem cut_pk (P : Pk) (n : Int) (hP : Base P) (hn : 28 ≤ n) (hn' : n ≤ 1520) (w : World) :
    Calls Try.prog 16 #[packV P, .int .i64 n] w fun e w' => ∃ v, e = .returned (.tuple #[v, .int .i64 0]) ∧ PRow w' (w.heap.size + 1) v (cutL P n) ∧ Below w.heap.size w w' := by
  have hok : OkPiece P.body.size (P.off, P.more, P.body) := by
    refine ⟨by show 0 ≤ P.off; rw [hP.off]; exact Int.le_refl _, by show P.off % 8 = 0; rw [hP.off]; rfl, by show P.off + (P.body.size : Int) ≤ _; rw [hP.off]; omega, fun h => ?_, fun h => ?_⟩
    · have h' : P.more = true := h
      rw [hP.more] at h'; cases h'
    · rcases h with h | h
      · have h' : P.more = true := h
        rw [hP.more] at h'; cases h'
      · have h' : 0 < P.off := h
        rw [hP.off] at h'; omega
  have hw : wrongv P.proto P.ttl P.id P.off P.more P.whole P.body.size n = 0 := by
    have h := wrong_ok hP.proto hP.ttl hP.id hok (by have := hP.size; omega) hn hn'
    rw [hP.whole]
    exact h
  refine (cut_calls P.src P.dst P.proto P.ttl P.id P.off P.more P.whole P.body n hw hn hn' hP.size (by rw [hP.off]; exact Int.le_refl _) (by rw [hP.off]; decide) w).mono ?_
  rintro e w' ⟨v, rfl, hown, hb⟩
  refine ⟨v, rfl, ?_, hb⟩
  rw [hP.off, hP.more] at hown
  unfold PRow cutL
  rw [List.length_map, List.flatMap_map]
  exact hown
theorem pieces_small (lim : Nat) (more : Bool) : ∀ (d : Nat) (off : Int) (b : ByteArray), b.size ≤ d → 8 ≤ lim → ∀ x ∈ pieces lim more d off b, x.2.2.size ≤ lim
  | 0, off, b, hd, h8, x, hx => by
    simp only [pieces, List.mem_singleton] at hx
    subst hx
    show b.size ≤ lim
    omega
  | d + 1, off, b, hd, h8, x, hx => by
    unfold pieces at hx
    split at hx
    · simp only [List.mem_singleton] at hx
      subst hx
      assumption
    · have e1 := size_ext b 0 (lim / 8 * 8)
      have e2 := size_ext b (lim / 8 * 8) b.size
      rcases List.mem_cons.mp hx with rfl | hx
      · show (b.extract 0 (lim / 8 * 8)).size ≤ lim
        omega
      · exact pieces_small lim more d _ _ (by omega) h8 x hx
/-- A packet that is divided has no piece that is no fragment. -/
theorem cut_fr {P : Pk} {n : Int} (hP : Base P) (hs : 0 < P.body.size) (hn : 28 ≤ n) (hb : ¬ P.body.size ≤ (n - 20).toNat) : ∀ f ∈ cutL P n, f.off ≠ 0 ∨ f.more = true := by
  intro f hf
  have hF := (cut_pieces hP hs (n - 20).toNat (by omega)).frag f hf
  obtain ⟨x, hx, rfl⟩ := List.mem_map.mp hf
  have h1 := pieces_small (n - 20).toNat false P.body.size 0 P.body (Nat.le_refl _) (by omega) x hx
  have h2 := hF.more
  have h3 : (mkP P x).body.size ≤ (n - 20).toNat := h1
  cases c : (mkP P x).more with
  | true => exact .inr rfl
  | false =>
    left
    intro h0
    rw [c] at h2
    have : (mkP P x).off + ((mkP P x).body.size : Int) < P.body.size := by omega
    exact absurd (h2.mpr this) (by simp)
theorem lim_of (x : Int) (m : Int) (h0 : 0 < m) (h1 : m < 1000) : ∃ n : Int, wrap64 (28 + wrap64 ((IntKind.u64.wrap x).tmod m)) = n ∧ 28 ≤ n ∧ n < 28 + m := by
  have hx : 0 ≤ IntKind.u64.wrap x := by rw [wu64]; omega
  have e : (IntKind.u64.wrap x).tmod m = IntKind.u64.wrap x % m := Int.tmod_eq_emod_of_nonneg hx
  have a := Int.emod_nonneg (IntKind.u64.wrap x) (show m ≠ 0 by omega)
  have b := Int.emod_lt_of_pos (IntKind.u64.wrap x) h0
  refine ⟨28 + IntKind.u64.wrap x % m, ?_, by omega, by omega⟩
  rw [e, w64 (n := IntKind.u64.wrap x % m) (by omega) (by omega), w64 (by omega) (by omega)]
theorem nePk (p q : Pk) (w : World) : (binOp .neq 32 (packV p) (packV q)).run Try.prog w = .ok (.bool (!pkEq p q)) w := by
  have h := eqPk p q w
  unfold packV at h ⊢
  rw [run_eql_struct] at h
  rw [run_neq_struct]
  generalize (Op.equalIn 10000 32 (.agg #[.int .u32 p.src, .int .u32 p.dst, .int .i64 p.proto, .int .i64 p.ttl, .int .i64 p.id, .int .i64 p.off, .bool p.more, .bool p.whole, .string p.body]) (.agg #[.int .u32 q.src, .int .u32 q.dst, .int .i64 q.proto, .int .i64 q.ttl, .int .i64 q.id, .int .i64 q.off, .bool q.more, .bool q.whole, .string q.body])).run Try.prog w = r at h ⊢
  cases r with
  | ok b w1 =>
    simp only [Result.andThen_ok, Result.ok.injEq, Value.bool.injEq] at h ⊢
    rw [h.1, h.2]
    exact ⟨rfl, rfl⟩
  | halt a b => simp [Result.andThen] at h
theorem TabTwo.below {w w1 : World} {B g L : Nat} {room : Int} {oP oQ : Option Ent} (h : TabTwo w B g room L oP oQ) (hb : Below w.heap.size w w1) : TabTwo w1 B g room L oP oQ := by
  obtain ⟨lv, xs, E, h1, h2, h3⟩ := h
  exact ⟨lv, xs, E, h1.below hb, h2, h3⟩
theorem TabTwo.alloc {w : World} {B g L : Nat} {room : Int} {oP oQ : Option Ent} (h : TabTwo w B g room L oP oQ) (o : Obj) : TabTwo (w.alloc o) B g room L oP oQ := h.below ((Below.refl _ _).alloc (Nat.le_refl _) o)
theorem IntsAt.below {w w1 : World} {v : Value} (h : IntsAt w v) (hb : Below w.heap.size w w1) : IntsAt w1 v := by
  rcases h with rfl | ⟨ad, len, cap, zs, rfl, h1, h2, h3⟩
  · exact .inl rfl
  · exact .inr ⟨ad, len, cap, zs, rfl, h1, h2, fun i hi => pw_cell_below hb (h3 i hi)⟩

/-! ### the pieces of one division, in whatever order -/
def AnySt (P : Pk) (L : List Pk) (g : Nat) (k : Nat) (w : World) : Prop := ∃ o, TabTwo w g g 1 (1500 * k) o none ∧ (k < L.length → Ost P (L.take k) o) ∧ (k = L.length → o = none) ∧ (k = 0 → o = none)
theorem take_snoc' {α : Type} (L : List α) (k : Nat) (h : k < L.length) : L.take (k + 1) = L.take k ++ [L[k]] := by
  rw [List.take_succ_eq_append_getElem h]
def AnyIn (P : Pk) (L : List Pk) (g k : Nat) (w : World) (e : Ending) (w' : World) : Prop :=
  e = .returned (.tuple #[packV (if k + 1 = L.length then P else zeroPk), .bool (decide (k + 1 = L.length)), .int .i64 0]) ∧ AnySt P L g (k + 1) w' ∧ Below g w w' ∧ Keep32 w w'
theorem any_in (P : Pk) (n : Int) (L : List Pk) (g k : Nat) (hP : Base P) (hn : 28 ≤ n) (hp : L.Perm (cutL P n)) (hk : k < L.length) (hl : L.length ≤ 50) (w : World) (hA : AnySt P L g k w) :
    Calls Try.prog 10 #[.pointer (some ⟨g, 0, none⟩), packV L[k], .int .i64 0] w (AnyIn P L g k w) := by
  obtain ⟨o, hT, hO, _, ho0⟩ := hA
  have hO := hO hk
  by_cases hb : P.body.size ≤ (n - 20).toNat
  · have e : cutL P n = [P] := cut_one hP _ hb
    rw [e] at hp
    have hL : L = [P] := List.perm_singleton.mp hp
    subst hL
    have hk0 : k = 0 := by simp at hk; omega
    subst hk0
    have ho : o = none := ho0 rfl
    subst ho
    refine (in_whole g g 1 (1500 * 0) P none none hP w hT).mono ?_
    rintro e w' ⟨rfl, h1, h2, h3⟩
    obtain ⟨lv, xs, E, t1, t2, t3⟩ := h1
    exact ⟨rfl, ⟨none, ⟨lv, xs, E, t1, t2, t3.mono (by omega)⟩, fun h => absurd h (by simp), fun _ => rfl, fun _ => rfl⟩, h2, h3⟩
  · have hs : 0 < P.body.size := by omega
    have hpc := cut_pieces hP hs (n - 20).toNat (by omega)
    have hmem : L[k] ∈ cutL P n := hp.mem_iff.mp (List.getElem_mem hk)
    refine (in_frag g g 1 (1500 * k) (by omega) (by decide) P L[k] (L.take k) o none hP hs hO (fun e he => by cases he) (hpc.frag _ hmem) (cut_fr hP hs hn hb _ hmem) (by decide) w hT).mono ?_
    rintro e w' ⟨⟨hb1, hb2⟩, h⟩
    have hfi := full_iff hpc hs hp (k + 1) (by omega)
    rw [take_snoc' L k hk] at hfi
    rcases h with ⟨c, rfl, hT'⟩ | ⟨c, rfl, o', hO', hT'⟩
    · have hkn := hfi.mp c
      refine ⟨by rw [if_pos hkn, decide_eq_true hkn], ⟨none, hT', fun h => by omega, fun _ => rfl, fun _ => rfl⟩, hb1, hb2⟩
    · have hkn : ¬ k + 1 = L.length := fun h => c (hfi.mpr h)
      refine ⟨by rw [if_neg hkn, decide_eq_false hkn], ⟨o', hT', fun h => by rw [take_snoc' L k hk]; exact hO', fun h => absurd h hkn, fun h => absurd h (Nat.succ_ne_zero k)⟩, hb1, hb2⟩
end Go.Proofs.Ytlhfkkionaemhaa.H
