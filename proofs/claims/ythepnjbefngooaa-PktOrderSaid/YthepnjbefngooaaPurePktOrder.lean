/- PktOrder: the checksum of two even strings does not depend on their order, and the string with its checksum behind it has the checksum 0. No condition but the sizes that the row gives. -/
import Derived.Test.YthepnjbefngooaaPPktOrderx4
import Derived.Test.YthepnjbefngooaaMPktOrderSum
namespace Go.Proofs.Ythepnjbefngooaa.Pure
open Go Go.RowKit Go.Proofs.Ythepnjbefngooaa.PPktOrder Go.Proofs.YthepnjbefngooaaW.PrintWords Go.Proofs.YthepnjbefngooaaW.PrintLast Go.Proofs.YthepnjbefngooaaW.PrintMore Go.Proofs.Ythepnjbefngooaa.Plain

theorem lives_order : Ev (fun k => patchbaykeep2_pktLives.f k) true := Ev.of (fun k => patchbaykeep2_pktLives.mono k) (k := 40) (by kernel_rfl)

theorem begin_order (s : ByteArray) : patchbaykeep2_begin.f s 16 = some (s.extract 0 (min s.size 16)) := by
  have e : mn (s.size : Int) 16 = ((min s.size 16 : Nat) : Int) := by rw [mn_eq]; split <;> omega
  unfold patchbaykeep2_begin.f
  rw [e, if_pos (by omega), if_pos (by omega), Int.toNat_natCast]

theorem two_bytes (n : Int) (h0 : 0 ≤ n) (h1 : n ≤ 65535) : raw (strOfNums [(n / 256) % 256, n % 256]) 2 = n := by
  have a := bt_strOfNums [(n / 256) % 256, n % 256] 0 (by simp) (by simp; omega) (by simp; omega)
  have b := bt_strOfNums [(n / 256) % 256, n % 256] 1 (by simp) (by simp; omega) (by simp; omega)
  simp only [List.getElem_cons_zero, List.getElem_cons_succ] at a b
  have e : raw (strOfNums [(n / 256) % 256, n % 256]) 2 = 0 + bt (strOfNums [(n / 256) % 256, n % 256]) (0 : Nat) * 256 + bt (strOfNums [(n / 256) % 256, n % 256]) (1 : Nat) := rfl
  rw [e, a, b]
  omega

theorem PktOrder : patchbaykeep2_PktOrder.Pure := by
  intro a0 a1 h0 h1
  apply Ev.rounds
  unfold patchbaykeep2_PktOrder.f
  refine Ev.bind lives_order ?_
  refine Ev.pos rfl ?_
  refine Ev.bindK (begin_order a0) ?_
  refine Ev.bindK (begin_order a1) ?_
  have cut : ∀ s : ByteArray, s.size ≤ 16 → ∃ m : Nat, wrap64 (wrap64 ((s.size : Int) / 2) * 2) = (m : Int) ∧ m % 2 = 0 ∧ m ≤ s.size := by
    intro s hs
    refine ⟨s.size / 2 * 2, ?_, by omega, by omega⟩
    rw [w64 (n := (s.size : Int) / 2) (by omega) (by omega), w64 (by omega) (by omega)]
    omega
  generalize hs : a0.extract 0 (min a0.size 16) = s
  generalize ht : a1.extract 0 (min a1.size 16) = t
  have hs16 : s.size ≤ 16 := by rw [← hs, size_ext]; omega
  have ht16 : t.size ≤ 16 := by rw [← ht, size_ext]; omega
  obtain ⟨m, em, hm2, hms⟩ := cut s hs16
  obtain ⟨n, en, hn2, hnt⟩ := cut t ht16
  rw [em, en]
  simp only [Int.toNat_natCast]
  have zs : (s.extract 0 m).size = m := by rw [size_ext]; omega
  have zt : (t.extract 0 n).size = n := by rw [size_ext]; omega
  generalize s.extract 0 m = S at zs
  generalize t.extract 0 n = T at zt
  refine Ev.pos (by omega) ?_
  refine Ev.pos (by omega) ?_
  refine Ev.pos (by omega) ?_
  refine Ev.pos (by omega) ?_
  refine Ev.pos (by omega) ?_
  have z1 : (S ++ T).size ≤ 32 := by rw [ByteArray.size_append]; omega
  have z2 : (T ++ S).size ≤ 32 := by rw [ByteArray.size_append]; omega
  refine Ev.bind (sum_ev _ (by omega)) ?_
  refine Ev.pos (by omega) ?_
  refine Ev.bind (sum_ev _ (by omega)) ?_
  have e1 : raw (S ++ T) (S ++ T).size = raw S S.size + raw T T.size := raw_both S T (by omega)
  have e2 : raw (T ++ S) (T ++ S).size = raw T T.size + raw S S.size := raw_both T S (by omega)
  have e3 : sumv (S ++ T) = sumv (T ++ S) := by unfold sumv; rw [e1, e2, Int.add_comm]
  refine Ev.pos e3 ?_
  refine Ev.bindS ?_
  have hr := sumv_range (S ++ T)
  have hR := raw_range (S ++ T) (S ++ T).size
  have hv : sumv (S ++ T) = 65535 - foldv (raw (S ++ T) (S ++ T).size) := rfl
  generalize sumv (S ++ T) = v at hr hv
  have z3 : (strOfNums [(v / 256) % 256, v % 256]).size = 2 := size_strOfNums _
  refine Ev.pos (by omega) ?_
  refine Ev.bind (sum_ev _ (by rw [ByteArray.size_append]; omega)) (Ev.ret ?_)
  have e4 := raw_both (S ++ T) (strOfNums [(v / 256) % 256, v % 256]) (by rw [ByteArray.size_append]; omega)
  rw [z3, two_bytes v hr.1 hr.2] at e4
  have e5 : sumv (S ++ T ++ strOfNums [(v / 256) % 256, v % 256]) = 0 := by
    unfold sumv
    rw [e4]
    unfold foldv at hv ⊢
    split at hv <;> split <;> omega
  rw [e5]
  rfl

end Go.Proofs.Ythepnjbefngooaa.Pure
