/- What the program's checksum computes: 65535 less the words' sum folded; no conditions but sizes. -/
import Derived.Test.YthepnjbefngooaaDoorPlain
import Derived.Test.YthepnjbefngooaaDoorPPktFixesx1
namespace Go.Proofs.YthepnjbefngooaaDoor.PPktFixes
open Go Go.RowKit Go.Proofs.YthepnjbefngooaaDoorW.PrintWords Go.Proofs.YthepnjbefngooaaDoorW.PrintLast Go.Proofs.YthepnjbefngooaaDoorW.PrintMore Go.Proofs.YthepnjbefngooaaDoor.Plain

/-- The carries added. -/
def foldv (n : Int) : Int := if n = 0 then 0 else (n - 1) % 65535 + 1
theorem foldv_range (n : Int) : 0 ≤ foldv n ∧ foldv n ≤ 65535 := by unfold foldv; split <;> omega
theorem foldv_small {n : Int} (h0 : 0 ≤ n) (h1 : n ≤ 65535) : foldv n = n := by unfold foldv; split <;> omega

theorem fold_ev (d : Nat) : ∀ n : Int, 0 ≤ n → n < 9223372036854775807 → n.toNat ≤ d → Ev (fun k => pkt_fold.l0 k n) (foldv n) := by
  induction d with
  | zero =>
    intro n h0 h1 hd
    refine Ev.step (f := fun k => some n) (fun k => ?_) (Ev.ret (by rw [foldv_small h0 (by omega)]))
    simp only [pkt_fold.l0]
    rw [if_neg (by omega)]
  | succ d ih =>
    intro n h0 h1 hd
    by_cases hn : n > 65535
    · refine Ev.step (f := fun k => pkt_fold.l0 k (n / 65536 + n % 65536)) (fun k => ?_) ?_
      · simp only [pkt_fold.l0]
        rw [if_pos hn, and_any65535, w64 (by omega) (by omega)]
      · refine Ev.eq (ih _ (by omega) (by omega) (by omega)) ?_
        unfold foldv
        rw [if_neg (by omega), if_neg (by omega)]
        omega
    · refine Ev.step (f := fun k => some n) (fun k => ?_) (Ev.ret (by rw [foldv_small h0 (by omega)]))
      simp only [pkt_fold.l0]
      rw [if_neg hn]

/-- The sum of the words of the first i bytes. -/
def raw (s : ByteArray) : Nat → Int
  | 0 => 0
  | i + 1 => raw s i + (if i % 2 = 0 then bt s i * 256 else bt s i)
theorem raw_succ (s : ByteArray) (i : Nat) : raw s (i + 1) = raw s i + (if i % 2 = 0 then bt s i * 256 else bt s i) := rfl
theorem raw_range (s : ByteArray) (i : Nat) : 0 ≤ raw s i ∧ raw s i ≤ 65280 * i := by
  induction i with
  | zero => exact ⟨Int.le_refl _, by simp [raw]⟩
  | succ i ih =>
    have := bt_range s i
    unfold raw
    split <;> omega
def sumv (s : ByteArray) : Int := 65535 - foldv (raw s s.size)
theorem sumv_range (s : ByteArray) : 0 ≤ sumv s ∧ sumv s ≤ 65535 := by
  have := foldv_range (raw s s.size)
  unfold sumv; omega

theorem sum_loop (s : ByteArray) (hs : s.size ≤ 1000000) (d : Nat) : ∀ i : Nat, i + d = s.size → Ev (fun k => pkt_Sum.l0 k s (raw s i) (s.size : Int) (i : Int)) (sumv s) := by
  induction d with
  | zero =>
    intro i hi
    obtain rfl : i = s.size := by omega
    have hr := raw_range s s.size
    refine Ev.step (f := fun k => (pkt_fold.f k (raw s s.size)).bind fun t => some (Go.bits .xor .i64 t 65535)) (fun k => ?_) ?_
    · simp only [pkt_Sum.l0]
      rw [if_neg (by omega)]
    · refine Ev.bind (fold_ev _ _ (by omega) (by omega) (Nat.le_refl _)) (Ev.ret ?_)
      have := foldv_range (raw s s.size)
      rw [xor16 (by omega) (by omega)]
      rfl
  | succ d ih =>
    intro i hi
    have hr := raw_range s i
    have hb := bt_range s i
    refine Ev.step (f := fun k => pkt_Sum.l0 k s (raw s (i + 1)) (s.size : Int) ((i + 1 : Nat) : Int)) (fun k => ?_) (ih (i + 1) (by omega))
    have e1 : raw s (i + 1) = raw s i + (if i % 2 = 0 then bt s i * 256 else bt s i) := rfl
    have e2 : wrap64 ((i : Int) + 1) = ((i + 1 : Nat) : Int) := by rw [w64 (by omega) (by omega)]; rfl
    have e3 : Int.tmod (i : Int) 2 = ((i % 2 : Nat) : Int) := by rw [Int.tmod_eq_emod_of_nonneg (by omega)]; rfl
    have e4 : wrap64 (bt s i) = bt s i := w64 (by omega) (by omega)
    simp only [pkt_Sum.l0]
    rw [if_pos (by omega), e1, e2, e3, e4]
    by_cases hp : i % 2 = 0
    · rw [if_pos (by omega), if_pos hp, if_pos (by omega), if_pos (by omega), w64 (n := bt s i * 256) (by omega) (by omega), w64 (by omega) (by omega)]
    · rw [if_neg (by omega), if_neg hp, if_pos (by omega), if_pos (by omega), w64 (by omega) (by omega)]

theorem sum_ev (s : ByteArray) (hs : s.size ≤ 1000000) : Ev (fun k => pkt_Sum.f k s) (sumv s) := sum_loop s hs s.size 0 (by omega)

/-- The words of two strings one after the other, the first of an even length. -/
theorem raw_left (a b : ByteArray) (i : Nat) (h : i ≤ a.size) : raw (a ++ b) i = raw a i := by
  induction i with
  | zero => rfl
  | succ i ih => unfold raw; rw [ih (by omega), bt_left a b i (by omega)]
theorem raw_append (a b : ByteArray) (h : a.size % 2 = 0) (i : Nat) : raw (a ++ b) (a.size + i) = raw a a.size + raw b i := by
  induction i with
  | zero => rw [Nat.add_zero, raw_left a b _ (Nat.le_refl _)]; unfold raw; omega
  | succ i ih =>
    have e : (a.size + i) % 2 = i % 2 := by omega
    rw [show a.size + (i + 1) = (a.size + i) + 1 by omega, raw_succ, raw_succ, ih, bt_right, e]
    omega
theorem raw_both (a b : ByteArray) (h : a.size % 2 = 0) : raw (a ++ b) (a ++ b).size = raw a a.size + raw b b.size := by
  rw [ByteArray.size_append, raw_append a b h]

end Go.Proofs.YthepnjbefngooaaDoor.PPktFixes
