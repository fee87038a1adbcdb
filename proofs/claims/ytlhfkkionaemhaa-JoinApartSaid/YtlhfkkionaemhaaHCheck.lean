/- What the program's check of a packet answers, as a function of its fields; no conditions but the body's size. -/
import Derived.Laws.Strings
import Derived.Test.YtlhfkkionaemhaaPlain
import Derived.Test.YtlhfkkionaemhaaPJoinRoomx2
namespace Go.Proofs.Ytlhfkkionaemhaa.H
set_option linter.unusedSimpArgs false
set_option linter.unusedVariables false
open Go Go.RowKit Go.Proofs.Ytlhfkkionaemhaa.PJoinRoom Go.Proofs.YtlhfkkionaemhaaW.PrintWords Go.Proofs.YtlhfkkionaemhaaW.PrintLast Go.Proofs.YtlhfkkionaemhaaW.PrintMore Go.Proofs.Ytlhfkkionaemhaa.Plain

/-- The number of what is wrong with a packet. -/
def checkv (proto ttl id off : Int) (more whole : Bool) (size : Nat) : Int :=
  if proto < 0 ∨ proto > 255 ∨ ttl < 1 ∨ ttl > 255 ∨ id < 0 ∨ id > 65535 ∨ off < 0 ∨ off > 65528 then 10
  else if (size : Int) > 1500 ∨ off + size > 65535 then 2
  else if off % 8 ≠ 0 ∨ (more = true ∧ size % 8 ≠ 0) ∨ ((more = true ∨ 0 < off) ∧ (size = 0 ∨ whole = true)) then 3
  else 0

theorem toList_nil (s : ByteArray) : s.toList = ([] : List UInt8) ↔ s.size = 0 := by
  rw [ByteArray.toList_eq]
  exact List.eq_nil_iff_length_eq_zero

theorem check_j1 (k : Nat) (a0 a1 a2 a3 a4 a5 : Int) (a6 a7 : Bool) (a8 : ByteArray) (b : Bool) (h0 : 0 ≤ a5) (hb : b = decide (a8.size > 1500 ∨ a5 + a8.size > 65535)) :
    pkt_Check.j1 (k + 1) b a0 a1 a2 a3 a4 a5 a6 a7 a8 = some (if (a8.size : Int) > 1500 ∨ a5 + a8.size > 65535 then 2 else if a5 % 8 ≠ 0 ∨ (a6 = true ∧ a8.size % 8 ≠ 0) ∨ ((a6 = true ∨ 0 < a5) ∧ (a8.size = 0 ∨ a7 = true)) then 3 else 0) := by
  simp only [pkt_Check.j1]
  rw [Int.tmod_eq_emod_of_nonneg h0]
  simp only [toList_nil]
  by_cases c : (a8.size : Int) > 1500 ∨ a5 + a8.size > 65535
  · rw [if_pos c, if_pos]
    rw [hb]; simp; omega
  · rw [if_neg c, if_neg (by rw [hb]; simp; omega)]
    clear hb c
    by_cases c1 : a5 % 8 = 0
    · rw [if_pos c1]
      cases a6 <;> cases a7
      · by_cases c2 : a5 > 0
        · by_cases c3 : a8.size = 0
          · simp [c1, c2, c3]
          · simp [c1, c2, c3]
        · simp [c1, c2]
      · by_cases c2 : a5 > 0
        · simp [c1, c2]
        · simp [c1, c2]
      · have e : ((a8.size : Int) % 8 = 0) = (a8.size % 8 = 0) := by simp only [eq_iff_iff]; omega
        simp only [e]
        by_cases c2 : a8.size % 8 = 0
        · by_cases c3 : a8.size = 0
          · simp [c1, c2, c3]
          · simp [c1, c2, c3]
        · simp [c1, c2]
      · have e : ((a8.size : Int) % 8 = 0) = (a8.size % 8 = 0) := by simp only [eq_iff_iff]; omega
        simp only [e]
        by_cases c2 : a8.size % 8 = 0
        · simp [c1, c2]
        · simp [c1, c2]
    · rw [if_neg c1, if_pos (Or.inl c1)]

theorem check_j0 (k : Nat) (a0 a1 a2 a3 a4 a5 : Int) (a6 a7 : Bool) (a8 : ByteArray) (hs : a8.size ≤ 140737488351232) (b : Bool)
    (hb : b = decide (a2 < 0 ∨ a2 > 255 ∨ a3 < 1 ∨ a3 > 255 ∨ a4 < 0 ∨ a4 > 65535 ∨ a5 < 0 ∨ a5 > 65528)) :
    pkt_Check.j0 (k + 2) b a0 a1 a2 a3 a4 a5 a6 a7 a8 = some (checkv a2 a3 a4 a5 a6 a7 a8.size) := by
  unfold checkv
  simp only [pkt_Check.j0]
  by_cases c : a2 < 0 ∨ a2 > 255 ∨ a3 < 1 ∨ a3 > 255 ∨ a4 < 0 ∨ a4 > 65535 ∨ a5 < 0 ∨ a5 > 65528
  · rw [if_pos c, if_pos (by rw [hb]; exact decide_eq_true c)]
  · rw [if_neg c, if_neg (by rw [hb]; simpa using c)]
    by_cases c1 : (a8.size : Int) > 1500
    · rw [if_pos c1, check_j1 k _ _ _ _ _ _ _ _ _ true (by omega) (by simp; omega)]
    · rw [if_neg c1, check_j1 k _ _ _ _ _ _ _ _ _ _ (by omega) ?_]
      rw [w64 (by omega) (by omega)]
      rw [decide_eq_decide]
      omega

theorem check_eval (a0 a1 a2 a3 a4 a5 : Int) (a6 a7 : Bool) (a8 : ByteArray) (hs : a8.size ≤ 140737488351232) :
    pkt_Check.f 2 a0 a1 a2 a3 a4 a5 a6 a7 a8 = some (checkv a2 a3 a4 a5 a6 a7 a8.size) := by
  unfold pkt_Check.f
  by_cases c0 : a2 < 0
  · rw [if_pos c0]; exact check_j0 0 _ _ _ _ _ _ _ _ _ hs _ (by simp [c0])
  rw [if_neg c0]
  by_cases c1 : a2 > 255
  · rw [if_pos c1]; exact check_j0 0 _ _ _ _ _ _ _ _ _ hs _ (by simp [c1])
  rw [if_neg c1]
  by_cases c2 : a3 < 1
  · rw [if_pos c2]; exact check_j0 0 _ _ _ _ _ _ _ _ _ hs _ (by simp [c2])
  rw [if_neg c2]
  by_cases c3 : a3 > 255
  · rw [if_pos c3]; exact check_j0 0 _ _ _ _ _ _ _ _ _ hs _ (by simp [c3])
  rw [if_neg c3]
  by_cases c4 : a4 < 0
  · rw [if_pos c4]; exact check_j0 0 _ _ _ _ _ _ _ _ _ hs _ (by simp [c4])
  rw [if_neg c4]
  by_cases c5 : a4 > 65535
  · rw [if_pos c5]; exact check_j0 0 _ _ _ _ _ _ _ _ _ hs _ (by simp [c5])
  rw [if_neg c5]
  by_cases c6 : a5 < 0
  · rw [if_pos c6]; exact check_j0 0 _ _ _ _ _ _ _ _ _ hs _ (by simp [c6])
  rw [if_neg c6]
  exact check_j0 0 _ _ _ _ _ _ _ _ _ hs _ (by rw [decide_eq_decide]; omega)

/-- pkt.Check, called with any packet. -/
theorem check_calls (a0 a1 a2 a3 a4 a5 : Int) (a6 a7 : Bool) (a8 : ByteArray) (hs : a8.size ≤ 140737488351232) (w : World) :
    Calls Try.prog 20 #[.agg #[.int .u32 a0, .int .u32 a1, .int .i64 a2, .int .i64 a3, .int .i64 a4, .int .i64 a5, .bool a6, .bool a7, .string a8]] w fun e w' => e = .returned (.int .i64 (checkv a2 a3 a4 a5 a6 a7 a8.size)) ∧ Below w.heap.size w w' :=
  pkt_Check.calls 2 a0 a1 a2 a3 a4 a5 a6 a7 a8 _ w (check_eval a0 a1 a2 a3 a4 a5 a6 a7 a8 hs)

end Go.Proofs.Ytlhfkkionaemhaa.H
