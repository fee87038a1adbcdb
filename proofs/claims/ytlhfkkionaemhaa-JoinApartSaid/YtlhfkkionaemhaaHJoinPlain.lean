/- join: plain facts on the pieces with what is new of a fragment. No program in sight. -/
import Derived.Test.YtlhfkkionaemhaaHJoinIn
namespace Go.Proofs.Ytlhfkkionaemhaa.H
set_option linter.unusedSimpArgs false
set_option linter.unusedVariables false
open Go Go.RowKit Go.Maps Go.Proofs.YtlhfkkionaemhaaW.PrintWords Go.Proofs.YtlhfkkionaemhaaW.PrintLast Go.Proofs.YtlhfkkionaemhaaW.PrintMore Go.Proofs.Ytlhfkkionaemhaa.Plain

theorem mn_le_l (a b : Int) : mn a b ≤ a := by rw [mn_eq]; split <;> omega
theorem mn_le_r (a b : Int) : mn a b ≤ b := by rw [mn_eq]; split <;> omega

theorem ins_ok (M : Int) : ∀ (ps : List (Int × ByteArray)) (at_ : Int) (left : ByteArray), 0 ≤ at_ → at_ + left.size ≤ M → (∀ y ∈ ps, 0 ≤ y.1 ∧ y.1 + y.2.size ≤ M) → ∀ y ∈ ins at_ left ps, 0 ≤ y.1 ∧ y.1 + y.2.size ≤ M
  | [], at_, left, h0, h1, _, y, hy => by
    rw [ins] at hy
    split at hy
    · cases hy
    · simp at hy; subst hy; exact ⟨h0, h1⟩
  | (yf, ys) :: ps, at_, left, h0, h1, hps, y, hy => by
    have hp1 := hps (yf, ys) List.mem_cons_self
    have hp2 : ∀ z ∈ ps, 0 ≤ z.1 ∧ z.1 + z.2.size ≤ M := fun z hz => hps z (List.mem_cons_of_mem _ hz)
    have hT : ∀ (a : Int) (l : ByteArray), 0 ≤ a → a + l.size ≤ M → ∀ z ∈ insT a l (yf + ys.size) ps, 0 ≤ z.1 ∧ z.1 + z.2.size ≤ M := by
      intro a l ha hl z hz
      by_cases c : 0 < mn (l.size : Int) (yf + ys.size - a)
      · rw [insT_yes rfl c] at hz
        have hm := mn_le_l (l.size : Int) (yf + ys.size - a)
        exact ins_ok M ps _ _ (by omega) (by rw [size_ext]; omega) hp2 z hz
      · rw [insT_no rfl c] at hz
        exact ins_ok M ps _ _ ha hl hp2 z hz
    by_cases c : 0 < mn (left.size : Int) (yf - at_)
    · rw [ins_yes rfl c] at hy
      have hm := mn_le_l (left.size : Int) (yf - at_)
      have hr := mn_le_r (left.size : Int) (yf - at_)
      rcases List.mem_append.mp hy with hy | hy
      · simp at hy; subst hy
        refine ⟨h0, ?_⟩
        simp only [size_ext]; omega
      · rcases List.mem_cons.mp hy with rfl | hy
        · exact hp1
        · exact hT _ _ (by omega) (by rw [size_ext]; omega) y hy
    · rw [ins_no rfl c] at hy
      rcases List.mem_cons.mp hy with rfl | hy
      · exact hp1
      · exact hT _ _ h0 h1 y hy

theorem ins_len : ∀ (ps : List (Int × ByteArray)) (at_ : Int) (left : ByteArray), (ins at_ left ps).length ≤ ps.length + left.size
  | [], at_, left => by
    rw [ins]
    split
    · simp
    · simp; omega
  | (yf, ys) :: ps, at_, left => by
    have hT : ∀ (a : Int) (l : ByteArray), (insT a l (yf + ys.size) ps).length ≤ ps.length + l.size := by
      intro a l
      by_cases c : 0 < mn (l.size : Int) (yf + ys.size - a)
      · rw [insT_yes rfl c]
        have h := ins_len ps (a + mn (l.size : Int) (yf + ys.size - a)) (l.extract (mn (l.size : Int) (yf + ys.size - a)).toNat l.size)
        rw [size_ext] at h; omega
      · rw [insT_no rfl c]
        exact ins_len ps _ _
    by_cases c : 0 < mn (left.size : Int) (yf - at_)
    · rw [ins_yes rfl c]
      have hm := mn_le_l (left.size : Int) (yf - at_)
      have h := hT (at_ + mn (left.size : Int) (yf - at_)) (left.extract (mn (left.size : Int) (yf - at_)).toNat left.size)
      rw [size_ext] at h
      simp only [List.length_append, List.length_cons, List.length_nil]; omega
    · rw [ins_no rfl c]
      have h := hT at_ left
      simp only [List.length_cons]; omega
end Go.Proofs.Ytlhfkkionaemhaa.H
