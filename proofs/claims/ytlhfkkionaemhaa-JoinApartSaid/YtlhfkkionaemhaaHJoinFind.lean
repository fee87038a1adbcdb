/- join: whether two packets are one; the closure of In; slices.IndexFunc over the entries. Conditions: sizes. -/
import Derived.Laws.StructEq
import Derived.Test.YtlhfkkionaemhaaWEqStruct
import Derived.Test.YtlhfkkionaemhaaHJoinWhole
namespace Go.Proofs.Ytlhfkkionaemhaa.H
set_option linter.unusedSimpArgs false
set_option linter.unusedVariables false
open Go Go.RowKit Go.Maps Go.Proofs.YtlhfkkionaemhaaW.PrintWords Go.Proofs.YtlhfkkionaemhaaW.PrintLast Go.Proofs.YtlhfkkionaemhaaW.PrintMore Go.Proofs.Ytlhfkkionaemhaa.Plain

/-- Whether two packets are one, field by field. -/
def pkEq (p q : Pk) : Bool := p.src == q.src && (p.dst == q.dst && (p.proto == q.proto && (p.ttl == q.ttl && (p.id == q.id && (p.off == q.off && (p.more == q.more && (p.whole == q.whole && p.body == q.body)))))))

theorem equ32 (d : Nat) (a b : Int) (w : World) : (Op.equalIn (d + 1) 30 (.int .u32 a) (.int .u32 b)).run Try.prog w = .ok (a == b) w := by
  have u := Try.underlying30
  simp [Op.equalIn, run_underlying u, go_sem]
theorem equi64 (d : Nat) (a b : Int) (w : World) : (Op.equalIn (d + 1) 3 (.int .i64 a) (.int .i64 b)).run Try.prog w = .ok (a == b) w := by
  have u := Try.underlying3
  simp [Op.equalIn, run_underlying u, go_sem]
theorem equbool (d : Nat) (a b : Bool) (w : World) : (Op.equalIn (d + 1) 4 (.bool a) (.bool b)).run Try.prog w = .ok (a == b) w := by
  have u := Try.underlying4
  simp [Op.equalIn, run_underlying u, go_sem]
theorem equstr (d : Nat) (a b : ByteArray) (w : World) : (Op.equalIn (d + 1) 9 (.string a) (.string b)).run Try.prog w = .ok (a == b) w := by
  have u := Try.underlying9
  simp [Op.equalIn, run_underlying u, go_sem]

theorem eqPk (p q : Pk) (w : World) : (binOp .eql 32 (packV p) (packV q)).run Try.prog w = .ok (.bool (pkEq p q)) w := by
  have hS : Try.prog.underlying 32 = some (.struct (Try.prog.fieldsOf 32)) := by kernel_rfl
  have hp : Try.prog.stoodInHeld 32 = false := by kernel_rfl
  unfold packV
  have a30 := Try.isAgg30
  have z30 := Try.sizeOf30
  have a3 := Try.isAgg3
  have z3 := Try.sizeOf3
  have a4 := Try.isAgg4
  have z4 := Try.sizeOf4
  have a9 := Try.isAgg9
  have z9 := Try.sizeOf9
  rw [run_eql_struct, show (10000 : Nat) = 9999 + 1 from rfl]
  have h := eqA_of (P := Try.prog) (d := 9999) (w := w) (t := 32) (xs := #[.int .u32 p.src, .int .u32 p.dst, .int .i64 p.proto, .int .i64 p.ttl, .int .i64 p.id, .int .i64 p.off, .bool p.more, .bool p.whole, .string p.body]) (ys := #[.int .u32 q.src, .int .u32 q.dst, .int .i64 q.proto, .int .i64 q.ttl, .int .i64 q.id, .int .i64 q.off, .bool q.more, .bool q.whole, .string q.body]) Try.underlying32 hp
    (eqf_cons rfl (by go_simp) (by go_simp) (equ32 9998 p.src q.src w) (eqf_cons rfl (by go_simp) (by go_simp) (equ32 9998 p.dst q.dst w) (eqf_cons rfl (by go_simp) (by go_simp) (equi64 9998 p.proto q.proto w) (eqf_cons rfl (by go_simp) (by go_simp) (equi64 9998 p.ttl q.ttl w) (eqf_cons rfl (by go_simp) (by go_simp) (equi64 9998 p.id q.id w) (eqf_cons rfl (by go_simp) (by go_simp) (equi64 9998 p.off q.off w) (eqf_cons rfl (by go_simp) (by go_simp) (equbool 9998 p.more q.more w) (eqf_cons rfl (by go_simp) (by go_simp) (equbool 9998 p.whole q.whole w) (eqf_last rfl (by go_simp) (by go_simp) (equstr 9998 p.body q.body w))))))))))
  rw [h]
  rfl
theorem beq_bytes (a b : ByteArray) : (a == b) = true ↔ a = b := by
  rw [beq_toListBytes, beq_iff_eq, ByteArray.toList_eq, ByteArray.toList_eq]
  constructor
  · intro h; exact ByteArray.ext (Array.toList_inj.mp h)
  · rintro rfl; rfl
theorem pkEq_iff (p q : Pk) : pkEq p q = true ↔ p = q := by
  obtain ⟨a0, a1, a2, a3, a4, a5, a6, a7, a8⟩ := p
  obtain ⟨b0, b1, b2, b3, b4, b5, b6, b7, b8⟩ := q
  simp [pkEq, beq_bytes]

def Ent.key (e : Ent) : Pk := ⟨e.src, e.dst, e.proto, 0, e.id, 0, false, false, ⟨#[]⟩⟩
def Pk.key (p : Pk) : Pk := ⟨p.src, p.dst, p.proto, 0, p.id, 0, false, false, ⟨#[]⟩⟩

set_option maxHeartbeats 2000000 in
set_option maxRecDepth 100000 in
/-- The closure of In: is it this packet's entry? -/
theorem inf_calls (B x b : Nat) (e : Ent) (p : Pk) (w : World) (hE : EntAt w B x e) (hb : w.heap[b]? = some (.cells #[.int .u32 p.src, .int .u32 p.dst, .int .i64 p.proto, .int .i64 0, .int .i64 p.id, .int .i64 0, .bool false, .bool false, .string ⟨#[]⟩] 32 (0, 0))) :
    Calls Try.prog 23 #[.pointer (some ⟨x, 0, none⟩), .pointer (some ⟨b, 0, none⟩)] w fun r w' => r = .returned (.bool (pkEq e.key p.key)) ∧ ∃ m, w' = w.drewN m := by
  obtain ⟨hBx, pv, hx, hown⟩ := hE
  obtain ⟨hc0, hc1, hc2, hc3, hc4, hc5, hc6, hc7, hc8, _⟩ := id_cells hx
  obtain ⟨hd0, hd1, hd2, hd3, hd4, hd5, hd6, hd7, hd8⟩ := pk_cells' hb
  have heq := fun W => eqPk e.key p.key W
  simp only [packV, Ent.key, Pk.key] at heq
  clear hx hb hown
  go_enter Try.func23, Try.ntmps23
  go_wp2
  go_quiet (fail)
  go_wp2
  go_ret
  exact ⟨rfl, _, rfl⟩

/-- A pointer to an entry. -/
def ptrV (x : Nat) : Value := .pointer (some ⟨x, 0, none⟩)
/-- The entries' blocks. -/
def EntsAt (w : World) (B : Nat) (xs : List Nat) (E : List Ent) : Prop := xs.length = E.length ∧ ∀ i (hi : i < xs.length) (hi2 : i < E.length), EntAt w B xs[i] E[i]

/-- A pointer of a row of pointers, read. -/
theorem ptr_read {W : World} {base : Nat} {v : Value} {xs : List Nat} (h : W.ownsRow base 54 1 v xs.length (xs.map ptrV)) (hl : 0 < xs.length) :
    ∃ g cap, v = .slice (some ⟨g, 0, none⟩) xs.length cap ∧ base ≤ g ∧ g < W.heap.size ∧ ∀ i (hi : i < xs.length), W.cell? ⟨g, i, none⟩ = some (ptrV xs[i]) := by
  obtain ⟨hlen, h⟩ := h
  rcases h with ⟨rfl, h⟩ | ⟨g, cap, cur, rfl, hg, hh, h1, h2, h3, h4⟩
  · omega
  · refine ⟨g, cap, rfl, hg, blk_lt hh, fun i hi => ?_⟩
    have e : (xs.map ptrV)[i]? = some (ptrV xs[i]) := by simp [hi]
    rw [blk_cell hh, ← e, ← h4, List.getElem?_take_of_lt (by omega)]
    simp

set_option maxHeartbeats 4000000 in
set_option maxRecDepth 100000 in
/-- slices.IndexFunc with the closure of In: it is the first of the entries, or none. -/
theorem index_calls (B b : Nat) (xs : List Nat) (E : List Ent) (p : Pk) (lv : Value) (w : World) (hrow : w.ownsRow B 54 1 lv xs.length (xs.map ptrV)) (hE : EntsAt w B xs E) (hb : w.heap[b]? = some (.cells #[.int .u32 p.src, .int .u32 p.dst, .int .i64 p.proto, .int .i64 0, .int .i64 p.id, .int .i64 0, .bool false, .bool false, .string ⟨#[]⟩] 32 (0, 0))) (hl : E.length ≤ 1000)
    (r : Int) (hr : (r = -1 ∧ ∀ e ∈ E, pkEq e.key p.key = false) ∨ ∃ i : Nat, r = (i : Int) ∧ ∃ hi : i < E.length, pkEq E[i].key p.key = true ∧ ∀ j (hj : j < i), pkEq (E[j]'(by omega)).key p.key = false) :
    Calls Try.prog 22 #[lv, .func (.func 23) #[] #[.pointer (some ⟨b, 0, none⟩)]] w fun e w' => e = .returned (.int .i64 r) ∧ ∃ m, w' = w.drewN m := by
  obtain ⟨hlen, hE⟩ := hE
  obtain ⟨A0, c0, rfl⟩ := own_slice hrow
  have hxl : xs.length ≤ 1000 := by omega
  have HL := Lib.hid hlen
  clear hlen
  go_enter Try.func22, Try.ntmps22
  go_wp2
  go_loopw [5, 8] (fun t i wr => ∃ (k m : Nat), k ≤ xs.length ∧ i = .int .i64 k ∧ wr = w.drewN m ∧ (∀ j, r = (j : Nat) → k ≤ j)) (fun _ i _ => xs.length - (intOf i).toNat)
  case atStart => exact ⟨0, 0, Nat.zero_le _, rfl, rfl, fun _ _ => Nat.zero_le _⟩
  case round =>
    obtain ⟨k, m, hk, rfl, rfl, hkr⟩ := hrel
    by_cases hlt : k < xs.length
    · obtain ⟨g, cap, hv, hgB, hgl, hrd⟩ := ptr_read hrow (by omega)
      cases hv
      have hr1 : (w.drewN m).cell? ⟨g, k, none⟩ = some (.pointer (some ⟨xs[k], 0, none⟩)) := hrd k hlt
      have hEk : EntAt (w.drewN m) B xs[k] (E[k]'(by have := HL.out; omega)) := by
        obtain ⟨h1, pv, h2, h3⟩ := hE k hlt (by have := HL.out; omega)
        exact ⟨h1, pv, blk_drewN h2 m, pw_own_drewN h3 m⟩
      have hin := inf_calls B xs[k] b (E[k]'(by have := HL.out; omega)) p (w.drewN m) hEk (blk_drewN hb m)
      have hne : pkEq (E[k]'(by have := HL.out; omega)).key p.key = decide (r = (k : Int)) := by
        rcases hr with ⟨rfl, h⟩ | ⟨i, rfl, hi, h1, h2⟩
        · rw [h _ (List.getElem_mem _)]; exact (decide_eq_false (by omega)).symm
        · by_cases e : i = k
          · subst e; rw [h1]; simp
          · have := hkr i rfl
            rw [h2 k (by omega)]; exact (decide_eq_false (by omega)).symm
      rw [hne] at hin
      clear hne hrd hr
      generalize xs[k] = x at hr1 hin
      by_cases hk2 : r = (k : Int)
      · have hd : decide (r = (k : Int)) = true := decide_eq_true hk2
        rw [hd] at hin
        subst hk2
        go_wp2_with (go_at_call 23; refine hin.mono ?_; rintro e w2 ⟨rfl, m2, rfl⟩)
        go_ret
        exact ⟨rfl, _, rfl⟩
      · have hd : decide (r = (k : Int)) = false := decide_eq_false hk2
        rw [hd] at hin
        go_wp2_with (go_at_call 23; refine hin.mono ?_; rintro e w2 ⟨rfl, m2, rfl⟩)
        go_roundw
        case rel => exact ⟨k + 1, m + m2, by omega, by go_num, by simp, fun j hj => by have := hkr j hj; omega⟩
        case measure => simp [intOf]; omega
    · obtain rfl : k = xs.length := by omega
      have : r = -1 := by
        rcases hr with ⟨rfl, h⟩ | ⟨i, rfl, hi, _⟩
        · rfl
        · have := hkr i rfl; have := HL.out; omega
      subst this
      go_wp2
      go_ret
      exact ⟨rfl, _, rfl⟩
end Go.Proofs.Ytlhfkkionaemhaa.H
