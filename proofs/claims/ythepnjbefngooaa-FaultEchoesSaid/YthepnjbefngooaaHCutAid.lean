/- Small lemmas for the laws over divisions. No conditions. -/
import Derived.Test.YthepnjbefngooaaPlainStore
import Derived.Test.YthepnjbefngooaaHCutRead
namespace Go.Proofs.Ythepnjbefngooaa.H
set_option linter.unusedSimpArgs false
set_option linter.unusedVariables false
open Go Go.RowKit Go.Proofs.YthepnjbefngooaaW.PrintWords Go.Proofs.YthepnjbefngooaaW.PrintLast Go.Proofs.YthepnjbefngooaaW.PrintMore Go.Proofs.Ythepnjbefngooaa.Plain

theorem pk_one (a0 a1 a2 a3 a4 a5 : Int) (a6 a7 : Bool) (a8 : ByteArray) : ∀ q ∈ (#[Value.int .u32 a0, .int .u32 a1, .int .i64 a2, .int .i64 a3, .int .i64 a4, .int .i64 a5, .bool a6, .bool a7, .string a8] : Array Value).toList, q.oneCell' = true := by
  intro u hu
  simp only [List.mem_cons, List.not_mem_nil, or_false] at hu
  rcases hu with rfl | rfl | rfl | rfl | rfl | rfl | rfl | rfl | rfl <;> rfl
theorem lim_of (x : Int) (m : Int) (h0 : 0 < m) (h1 : m < 1000) : ∃ n : Int, wrap64 (28 + wrap64 ((IntKind.u64.wrap x).tmod m)) = n ∧ 28 ≤ n ∧ n < 28 + m := by
  have hx : 0 ≤ IntKind.u64.wrap x := by rw [wu64]; omega
  have e : (IntKind.u64.wrap x).tmod m = IntKind.u64.wrap x % m := Int.tmod_eq_emod_of_nonneg hx
  have a := Int.emod_nonneg (IntKind.u64.wrap x) (show m ≠ 0 by omega)
  have b := Int.emod_lt_of_pos (IntKind.u64.wrap x) h0
  refine ⟨28 + IntKind.u64.wrap x % m, ?_, by omega, by omega⟩
  rw [e, w64 (n := IntKind.u64.wrap x % m) (by omega) (by omega), w64 (by omega) (by omega)]
theorem pieces_pos (lim : Nat) (more : Bool) (d : Nat) (off : Int) (b : ByteArray) : 0 < (pieces lim more d off b).length := by
  cases d <;> unfold pieces <;> (try split) <;> simp
theorem pieces_len (lim : Nat) (more : Bool) : ∀ (d : Nat) (off : Int) (b : ByteArray), (pieces lim more d off b).length ≤ d + 1
  | 0, off, b => by simp [pieces]
  | d + 1, off, b => by
    unfold pieces
    split
    · simp
    · have := pieces_len lim more d (off + (lim / 8 * 8 : Nat)) (b.extract (lim / 8 * 8) b.size)
      simp only [List.length_cons]; omega
theorem size24 : (Try.prog.info? 24).map (·.size) = some 9 := by kernel_rfl

end Go.Proofs.Ythepnjbefngooaa.H
