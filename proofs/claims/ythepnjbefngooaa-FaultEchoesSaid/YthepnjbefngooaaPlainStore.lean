/- A store of a whole struct into a block that is known whole: the world behind it under a name. No conditions. -/
import Derived.Test.YthepnjbefngooaaWMore
namespace Go.Proofs.Ythepnjbefngooaa.Plain
open Go Go.RowKit Go.Proofs.YthepnjbefngooaaW.PrintWords Go.Proofs.YthepnjbefngooaaW.PrintLast Go.Proofs.YthepnjbefngooaaW.PrintMore

theorem wpList_store_block {P : Program} {ops : Array Oper} {rest : List Oper} {o : Oper} {a : Act} {Q : Exit → Act → World → Prop} {W : World} (hgd : o.guard = none) (t : TypeId) (p x : Operand) (ho : o.op = .store t p x) (hN : o.dst = none)
    {g : Nat} {e : TypeId} {cur : Array Value} (u : Value) (seg : Array Value) (haddr : a.eval p = .pointer (some ⟨g, 0, none⟩)) (hx : a.eval x = u) (hu : u.cells = seg) (hh : W.heap[g]? = some (.cells cur e (0, 0))) (ht : (P.info? t).map (·.size) = some seg.size)
    (hs : cur.size = seg.size) (h1 : ∀ q ∈ seg.toList, q.oneCell' = true)
    (h : ∀ w1, w1.heap[g]? = some (.cells seg e (0, 0)) → W.grownBy w1 (some g) → wpList P ops Q rest a w1) : wpList P ops Q (o :: rest) a W := by
  refine wpList_plain hgd fun K hK => ?_
  have hrun := run_store_run (P := P) (o := 0) t u seg.toList hh (by rw [hu]) (by simpa using ht) (by simp [hs]) h1
  unfold Oper.wp execOp
  simp only [ho, haddr, hx, Sem.run_bind, Sem.run_pure, Result.andThen_ok, hrun]
  show K (a.put o.dst undef) _
  rw [hN]
  obtain ⟨cur', h3, h4, h5⟩ := setCells_row seg.toList 0 W cur hh (by simp [hs])
  obtain ⟨s1, s2, s3, s4⟩ := setCells_same g seg.toList 0 W
  have e1 : cur' = seg := by
    apply Array.toList_inj.mp
    rw [h5]
    simp [hs]
  rw [e1] at h3
  exact hK _ _ (h _ h3 ⟨s1, s2, s3, by rw [s4]; exact Nat.le_refl _, fun k _ hk => setCells_far _ _ k (fun he => hk (by rw [he]))⟩)

end Go.Proofs.Ythepnjbefngooaa.Plain
