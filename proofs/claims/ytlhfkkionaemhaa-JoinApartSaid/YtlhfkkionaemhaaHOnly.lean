/- What a call leaves as it was (all but the blocks of S and what is new), and laws that store one cell or hand a new block on under a name. No conditions but those typed. -/
import Derived.Test.YtlhfkkionaemhaaProg
import Derived.Test.YtlhfkkionaemhaaWMore
import Derived.WalkKit
import Derived.ProofKit
import Derived.Maps.Own
import Derived.Maps.OwnSet
import Derived.Maps.OwnOps
import Derived.Maps.AppendAt
namespace Go.Proofs.Ytlhfkkionaemhaa.H
set_option linter.unusedSimpArgs false
set_option linter.unusedVariables false
open Go Go.RowKit Go.Maps Go.Proofs.YtlhfkkionaemhaaW.PrintWords Go.Proofs.YtlhfkkionaemhaaW.PrintLast Go.Proofs.YtlhfkkionaemhaaW.PrintMore

/-- All but the blocks of S, and what is new, is as it was. -/
structure Only (S : Nat → Prop) (w w' : World) : Prop where
  os : w'.os = w.os
  tape : w'.tape = w.tape
  output : w'.output = w.output
  kept : Kept w w' S

section
variable {S S2 S' : Nat → Prop} {w w1 w2 : World}
theorem Only.refl (S : Nat → Prop) (w : World) : Only S w w := ⟨rfl, rfl, rfl, Kept.refl w S⟩
theorem Only.then_ (h : Only S w w1) (k : Only S2 w1 w2) (hs : ∀ k, S2 k → S k ∨ w.heap.size ≤ k) : Only S w w2 := ⟨k.os.trans h.os, k.tape.trans h.tape, k.output.trans h.output, h.kept.then_ k.kept hs⟩
theorem Only.mono (h : Only S w w1) (hs : ∀ k, S k → S' k) : Only S' w w1 := ⟨h.os, h.tape, h.output, h.kept.mono hs⟩
theorem Only.size (h : Only S w w1) : w.heap.size ≤ w1.heap.size := h.kept.1
theorem Only.alloc (h : Only S w w1) (o : Obj) : Only S w (w1.alloc o) := ⟨h.os, h.tape, h.output, h.kept.alloc o⟩
theorem Only.drew (h : Only S w w1) : Only S w w1.drew := ⟨h.os, h.tape, h.output, h.kept⟩
theorem Only.drewN (h : Only S w w1) (m : Nat) : Only S w (w1.drewN m) := ⟨h.os, h.tape, h.output, h.kept⟩
theorem Only.setCell (h : Only S w w1) {p : Addr} (hp : S p.block ∨ w.heap.size ≤ p.block) (u : Value) : Only S w (w1.setCell p u) := ⟨h.os, h.tape, h.output, h.kept.setCell hp u⟩
theorem Only.grown {row : Option Nat} (h : Only S w w1) (hg : w1.grownBy w2 row) (hr : ∀ k, row = some k → S k ∨ w.heap.size ≤ k) : Only S w w2 := ⟨hg.os.trans h.os, hg.tape.trans h.tape, hg.output.trans h.output, h.kept.of_grown hg hr⟩
theorem Only.below1 (h : Only S w w1) (hb : Below w1.heap.size w1 w2) : Only S w w2 := ⟨hb.os.trans h.os, hb.tape.trans h.tape, hb.output.trans h.output, h.kept.below hb⟩
theorem Only.of_below (hb : Below w.heap.size w w1) : Only S w w1 := (Only.refl S w).below1 hb
theorem Only.turned {b : Nat} (h : Only S w w1) (ht : w1.mapTurned w2 b) (hr : S b ∨ w.heap.size ≤ b) : Only S w w2 := h.grown ht.grown (fun k hk => by cases hk; exact hr)
theorem Only.below (h : Only S w w1) (B : Nat) (hB : B ≤ w.heap.size) (hS : ∀ k, S k → B ≤ k) : Below B w w1 :=
  ⟨h.os, h.tape, h.output, h.size, fun k hk => h.kept.2 k (by omega) (fun hs => by have := hS k hs; omega)⟩
theorem Only.blk (h : Only S w w1) {g : Nat} {o : Obj} (hb : w.heap[g]? = some o) (hne : ¬ S g) : w1.heap[g]? = some o := blk_kept hb h.kept hne
theorem Only.own (h : Only S w w1) {base : Nat} {e : TypeId} {size n : Nat} {v : Value} {xs : List Value} (ho : w.ownsRow base e size v n xs) (hne : ∀ k, v.ownBlock = some k → ¬ S k) : w1.ownsRow base e size v n xs :=
  own_move ho (fun k hk => h.kept.2 k (own_lt ho k hk) (hne k hk))
theorem Only.map {H : Type} (h : Only S w w1) {P : Program} {k : TypeId} {R : Value → Option (DataW H × List MemPlace)} {b n : Nat} {D : DataW H} (ho : w.ownsMap P k R b n D) (hne : ¬ S b) : w1.ownsMap P k R b n D := by
  obtain ⟨es, clock, hb, r⟩ := ho
  exact ⟨es, clock, h.blk hb hne, r⟩
end

theorem map_ne {H : Type} {P : Program} {k : TypeId} {R : Value → Option (DataW H × List MemPlace)} {w : World} {b n g : Nat} {D : DataW H} {cs : Array Value} {t : TypeId} (h : w.ownsMap P k R b n D) (hg : w.heap[g]? = some (.cells cs t (0, 0))) : g ≠ b := by
  obtain ⟨es, clock, hb, _⟩ := h
  rintro rfl
  rw [hb] at hg
  cases hg
theorem map_own_ne {H : Type} {P : Program} {k : TypeId} {R : Value → Option (DataW H × List MemPlace)} {w : World} {b n m : Nat} {D : DataW H} {base : Nat} {e : TypeId} {size : Nat} {v : Value} {xs : List Value} (h : w.ownsMap P k R b n D) (ho : w.ownsRow base e size v m xs) : some b ≠ v.ownBlock := by
  intro he
  obtain ⟨cells, hc⟩ := own_typed ho b he.symm
  exact map_ne h hc rfl

/-- One cell is stored into a block that is known whole: the world behind it under a name. -/
theorem wpList_store_cell {P : Program} {ops : Array Oper} {rest : List Oper} {o : Oper} {a : Act} {Q : Exit → Act → World → Prop} {W : World} (hgd : o.guard = none) (t : TypeId) (p x : Operand) (ho : o.op = .store t p x) (hN : o.dst = none)
    {g i : Nat} {e : TypeId} {cur : Array Value} (u : Value) (haddr : a.eval p = .pointer (some ⟨g, i, none⟩)) (hx : a.eval x = u) (hu : u.cells = #[u]) (h1 : u.oneCell' = true) (hh : W.heap[g]? = some (.cells cur e (0, 0))) (ht : (P.info? t).map (·.size) = some 1)
    (hi0 : decide (i < cur.size) = true) (cur' : Array Value) (hcur : cur.setIfInBounds i u = cur')
    (h : ∀ w1, w1.heap[g]? = some (.cells cur' e (0, 0)) → W.grownBy w1 (some g) → wpList P ops Q rest a w1) : wpList P ops Q (o :: rest) a W := by
  refine wpList_plain hgd fun K hK => ?_
  have hi := of_decide_eq_true hi0
  have hrun := run_store_run (P := P) (o := i) t u [u] hh (by rw [hu]) (by simpa using ht) (by simp; omega) (by simpa using h1)
  unfold Oper.wp execOp
  simp only [ho, haddr, hx, Sem.run_bind, Sem.run_pure, Result.andThen_ok, hrun]
  show K (a.put o.dst undef) _
  rw [hN]
  simp only [World.setCells]
  refine hK _ _ (h _ (blk_put hh i u hcur) ⟨rfl, rfl, rfl, by simp [World.setCell], fun k _ hk => Below.heap_setCell _ _ _ k (fun e => hk (by rw [e]))⟩)

/-- A map of the call's own is written, inside a region that draws. -/
theorem mapUpdate_step {H : Type} {P : Program} {ops : Array Oper} {Q : Exit → Act → World → Prop} {oi : Oper} {a : Act} {W : World} {Kc : Act → World → Prop} (hw : Region.wanted oi (yielded ops a.tmps) = true) (m x v : Operand) (t : TypeId) (hop : oi.op = Op.mapUpdate t m x v)
    (k e : TypeId) (K : Keyed P k) (ht : P.underlying t = some (.map k e)) (R : Value → Option (DataW H × List MemPlace)) (b n : Nat) (D : DataW H)
    (hm : a.eval m = .map (some b)) (hown : W.ownsMap P k R b n D) (hn : n < maxLen) (key val : Value) (kl : Lit) (hx : a.eval x = key) (hv : a.eval v = val) (hkey : keyOf P k key = some kl)
    (d : DataW H) (ps : List MemPlace) (hval : R val = some (d, ps))
    (h : ∀ w', w'.ownsMap P k R b (n + 1) (D.put kl d) → W.grownBy w' (some b) → Kc (a.put oi.dst undef) w') : if Region.wanted oi (yielded ops a.tmps) = true then Oper.wp P oi a W Kc Q else Kc (a.put none undef) W := by
  rw [if_pos hw]
  obtain ⟨w', hrun, r1, r2⟩ := hown.update K ht hn hkey hval
  unfold Oper.wp
  simp [execOp, hop, hm, hx, hv, hrun, Result.andThen]
  exact h w' r1 r2

end Go.Proofs.Ytlhfkkionaemhaa.H
