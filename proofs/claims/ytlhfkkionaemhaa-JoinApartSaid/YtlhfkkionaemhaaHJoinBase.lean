/- join: the words for a table, an entry, a packet; walks of New, time, to, wrong, Waiting. Conditions: sizes. -/
import Derived.Laws.Strings
import Derived.IntWalk
import Derived.Lib.Hide
import Derived.Test.YtlhfkkionaemhaaPlain
import Derived.Test.YtlhfkkionaemhaaHOnly
namespace Go.Proofs.Ytlhfkkionaemhaa.H
set_option linter.unusedSimpArgs false
set_option linter.unusedVariables false
open Go Go.RowKit Go.Maps Go.Proofs.YtlhfkkionaemhaaW.PrintWords Go.Proofs.YtlhfkkionaemhaaW.PrintLast Go.Proofs.YtlhfkkionaemhaaW.PrintMore Go.Proofs.Ytlhfkkionaemhaa.Plain

/-- A packet. -/
structure Pk where
  src : Int
  dst : Int
  proto : Int
  ttl : Int
  id : Int
  off : Int
  more : Bool
  whole : Bool
  body : ByteArray
/-- A packet of which fragments have arrived. -/
structure Ent where
  src : Int
  dst : Int
  proto : Int
  id : Int
  begun : Int
  first : Pk
  has : Bool
  ps : List (Int × ByteArray)
  most : Int
  end_ : Int

/-- The pieces with what is new of a fragment. -/
def ins : Int → ByteArray → List (Int × ByteArray) → List (Int × ByteArray)
  | at_, left, [] => if left.size = 0 then [] else [(at_, left)]
  | at_, left, y :: ps =>
    let n := mn (left.size : Int) (y.1 - at_)
    let r := if 0 < n then (at_ + n, left.extract n.toNat left.size) else (at_, left)
    let m := mn (r.2.size : Int) (y.1 + y.2.size - r.1)
    let t := if 0 < m then (r.1 + m, r.2.extract m.toNat r.2.size) else r
    (if 0 < n then [(at_, left.extract 0 n.toNat)] else []) ++ y :: ins t.1 t.2 ps

def Ent.add (e : Ent) (p : Pk) : Ent :=
  { e with first := if p.off = 0 ∧ e.has = false then p else e.first, has := e.has || decide (p.off = 0), most := if p.more = true then (if e.most < p.off + p.body.size then p.off + p.body.size else e.most) else e.most, end_ := if p.more = true then e.end_ else p.off + p.body.size, ps := ins p.off p.body e.ps }
def Ent.wrong (e : Ent) (p : Pk) : Bool :=
  if p.more = true then decide (0 ≤ e.end_ ∧ e.end_ ≤ p.off + p.body.size) else decide ((0 ≤ e.end_ ∧ p.off + p.body.size ≠ e.end_) ∨ p.off + p.body.size ≤ e.most)

def pieceCells (y : Int × ByteArray) : List Value := [.int .i64 y.1, .string y.2]

/-- An entry's block and its pieces. -/
def EntAt (w : World) (B x : Nat) (e : Ent) : Prop :=
  B ≤ x ∧ ∃ pv, w.heap[x]? = some (.cells #[.int .u32 e.src, .int .u32 e.dst, .int .i64 e.proto, .int .i64 0, .int .i64 e.id, .int .i64 0, .bool false, .bool false, .string ⟨#[]⟩, .int .i64 e.begun, .int .u32 e.first.src, .int .u32 e.first.dst, .int .i64 e.first.proto, .int .i64 e.first.ttl, .int .i64 e.first.id, .int .i64 e.first.off, .bool e.first.more, .bool e.first.whole, .string e.first.body, .bool e.has, pv, .int .i64 e.most, .int .i64 e.end_] 57 (0, 0)) ∧
    w.ownsRow B 71 2 pv e.ps.length (e.ps.flatMap pieceCells)
/-- The table's block. -/
def TabBlk (w : World) (g : Nat) (room age now : Int) (lv : Value) : Prop :=
  w.heap[g]? = some (.cells #[.int .i64 room, .int .i64 age, .int .i64 now, lv] 50 (0, 0))

theorem blk_cell {w : World} {g : Nat} {vs : Array Value} {t : TypeId} {z : Nat × Nat} (h : w.heap[g]? = some (.cells vs t z)) (i : Nat) : w.cell? ⟨g, i, none⟩ = vs[i]? := by
  simp [World.cell?, h]

theorem new_calls (room age : Int) (hr : 1 ≤ room ∧ room ≤ 64) (ha : 1 ≤ age ∧ age ≤ 1000000000) (w : World) :
    Calls Try.prog 8 #[.int .i64 room, .int .i64 age] w fun e w' => e = .returned (.tuple #[.pointer (some ⟨w.heap.size, 0, none⟩), .int .i64 0]) ∧ w' = w.alloc (.cells #[.int .i64 room, .int .i64 age, .int .i64 0, .slice none 0 0] 50 (0, 0)) := by
  go_enter Try.func8, Try.ntmps8
  go_wp2
  refine bodyPost_ret (v := .tuple #[.pointer (some ⟨w.heap.size, 0, none⟩), .int .i64 0]) ?_ rfl ⟨rfl, rfl⟩
  simp [results, Try.results8, go_sem]

theorem time_ok (room age tnow now : Int) (lv : Value) (g : Nat) (hn : 0 ≤ now ∧ now ≤ 1000000000) (hc : tnow ≤ now) (w : World) (hx : TabBlk w g room age tnow lv) :
    Calls Try.prog 21 #[.pointer (some ⟨g, 0, none⟩), .int .i64 now] w fun e w' => e = .returned (.int .i64 0) ∧ w = w' := by
  have hc2 : w.cell? ⟨g, 2, none⟩ = some (.int .i64 tnow) := (blk_cell hx 2).trans rfl
  go_enter Try.func21, Try.ntmps21
  go_wp2
  go_ret
  exact ⟨rfl, rfl⟩

theorem wait_calls (room age tnow : Int) (av : Option Addr) (n c : Nat) (g : Nat) (w : World) (hx : TabBlk w g room age tnow (.slice av n c)) :
    Calls Try.prog 12 #[.pointer (some ⟨g, 0, none⟩)] w fun e w' => e = .returned (.int .i64 n) ∧ w = w' := by
  have hc2 : w.cell? ⟨g, 3, none⟩ = some (.slice av n c) := (blk_cell hx 3).trans rfl
  go_enter Try.func12, Try.ntmps12
  go_wp2
  go_ret
  exact ⟨rfl, rfl⟩

theorem to_calls (f : Int) (s : ByteArray) (hf : 0 ≤ f ∧ f ≤ 100000) (hs : s.size ≤ 100000) (w : World) :
    Calls Try.prog 35 #[.agg #[.int .i64 f, .string s]] w fun e w' => e = .returned (.int .i64 (f + s.size)) ∧ ∃ o, w' = w.alloc o := by
  have e4 : IntKind.i64.wrap (f + (s.size : Int)) = f + (s.size : Int) := IntWalk.i64_in _ (by omega)
  go_enter Try.func35, Try.ntmps35
  go_wp2
  go_ret
  exact ⟨rfl, _, rfl⟩

/-- The cells of an entry's block that the walks read. -/
theorem ent_cells {w : World} {x : Nat} {a0 a1 a2 a3 a4 a5 : Int} {a6 a7 : Bool} {a8 : ByteArray} {b : Int} {f0 f1 f2 f3 f4 f5 : Int} {f6 f7 : Bool} {f8 : ByteArray} {h : Bool} {pv : Value} {m n : Int} {t : TypeId} (hx : w.heap[x]? = some (.cells #[.int .u32 a0, .int .u32 a1, .int .i64 a2, .int .i64 a3, .int .i64 a4, .int .i64 a5, .bool a6, .bool a7, .string a8, .int .i64 b, .int .u32 f0, .int .u32 f1, .int .i64 f2, .int .i64 f3, .int .i64 f4, .int .i64 f5, .bool f6, .bool f7, .string f8, .bool h, pv, .int .i64 m, .int .i64 n] t (0, 0))) :
    w.cell? ⟨x, 19, none⟩ = some (.bool h) ∧ w.cell? ⟨x, 20, none⟩ = some pv ∧ w.cell? ⟨x, 21, none⟩ = some (.int .i64 m) ∧ w.cell? ⟨x, 22, none⟩ = some (.int .i64 n) :=
  ⟨(blk_cell hx 19).trans rfl, (blk_cell hx 20).trans rfl, (blk_cell hx 21).trans rfl, (blk_cell hx 22).trans rfl⟩

theorem wrong_in (B x : Nat) (e : Ent) (p : Pk) (hp : 0 ≤ p.off ∧ p.off + p.body.size ≤ 100000) (w : World) (hE : EntAt w B x e) :
    Calls Try.prog 24 #[.pointer (some ⟨x, 0, none⟩), .agg #[.int .u32 p.src, .int .u32 p.dst, .int .i64 p.proto, .int .i64 p.ttl, .int .i64 p.id, .int .i64 p.off, .bool p.more, .bool p.whole, .string p.body]] w fun r w' => r = .returned (.bool (e.wrong p)) ∧ ∃ o, w' = w.alloc o := by
  obtain ⟨_, pv, hx, _⟩ := hE
  obtain ⟨src, dst, proto, ttl, id, off, more, whole, body⟩ := p
  obtain ⟨e0, e1, e2, e3, e4, e5, e6, e7, most, end_⟩ := e
  simp only at hx hp ⊢
  obtain ⟨_, _, hm, hn⟩ := ent_cells hx
  have hxl := blk_lt hx
  clear hx
  have e4 : IntKind.i64.wrap (off + (body.size : Int)) = off + (body.size : Int) := IntWalk.i64_in _ (by omega)
  cases more
  · by_cases h1 : 0 ≤ end_
    · by_cases h2 : off + (body.size : Int) = end_
      · have h2' : (off + (body.size : Int) == end_) = true := beq_iff_eq.mpr h2
        have h2'' : (off + (body.size : Int) != end_) = false := by simp [h2]
        go_enter Try.func24, Try.ntmps24
        go_wp2
        go_ret
        exact ⟨by simp [Ent.wrong, h1, h2], _, rfl⟩
      · have h2'' : (off + (body.size : Int) != end_) = true := by simp [h2]
        go_enter Try.func24, Try.ntmps24
        go_wp2
        go_ret
        exact ⟨by simp [Ent.wrong, h1, h2], _, rfl⟩
    · go_enter Try.func24, Try.ntmps24
      go_wp2
      go_ret
      exact ⟨by simp [Ent.wrong, h1] <;> (intros; omega), _, rfl⟩
  · by_cases h1 : 0 ≤ end_
    · go_enter Try.func24, Try.ntmps24
      go_wp2
      go_ret
      exact ⟨by simp [Ent.wrong, h1] <;> (intros; omega), _, rfl⟩
    · go_enter Try.func24, Try.ntmps24
      go_wp2
      go_ret
      exact ⟨by simp [Ent.wrong, h1] <;> (intros; omega), _, rfl⟩
/-- A run of cells is stored into a block that is known whole: the world behind it under a name. -/
theorem wpList_store_part {P : Program} {ops : Array Oper} {rest : List Oper} {o : Oper} {a : Act} {Q : Exit → Act → World → Prop} {W : World} (hgd : o.guard = none) (t : TypeId) (p x : Operand) (ho : o.op = .store t p x) (hN : o.dst = none)
    {g i : Nat} {e : TypeId} {cur : Array Value} (u : Value) (seg : Array Value) (haddr : a.eval p = .pointer (some ⟨g, i, none⟩)) (hx : a.eval x = u) (hu : u.cells = seg) (hh : W.heap[g]? = some (.cells cur e (0, 0))) (ht : (P.info? t).map (·.size) = some seg.size)
    (hi0 : decide (i + seg.size ≤ cur.size) = true) (h1 : ∀ q ∈ seg.toList, q.oneCell' = true) (cur' : Array Value) (hcur : (cur.toList.take i ++ seg.toList ++ cur.toList.drop (i + seg.size)).toArray = cur')
    (h : ∀ w1, w1.heap[g]? = some (.cells cur' e (0, 0)) → W.grownBy w1 (some g) → wpList P ops Q rest a w1) : wpList P ops Q (o :: rest) a W := by
  refine wpList_plain hgd fun K hK => ?_
  have hi := of_decide_eq_true hi0
  have hrun := run_store_run (P := P) (o := i) t u seg.toList hh (by rw [hu]) (by simpa using ht) (by simp; omega) h1
  unfold Oper.wp execOp
  simp only [ho, haddr, hx, Sem.run_bind, Sem.run_pure, Result.andThen_ok, hrun]
  show K (a.put o.dst undef) _
  rw [hN]
  obtain ⟨cur2, h3, h4, h5⟩ := setCells_row seg.toList i W cur hh (by simp; omega)
  obtain ⟨s1, s2, s3, s4⟩ := setCells_same g seg.toList i W
  have e1 : cur2 = cur' := by
    rw [← hcur]
    apply Array.toList_inj.mp
    rw [h5]
    simp
  rw [e1] at h3
  exact hK _ _ (h _ h3 ⟨s1, s2, s3, by rw [s4]; exact Nat.le_refl _, fun k _ hk => setCells_far _ _ k (fun he => hk (by rw [he]))⟩)
/-- A run of cells is stored into a block that is known whole, inside a region that draws. -/
theorem part_step {P : Program} {ops : Array Oper} {Q : Exit → Act → World → Prop} {oi : Oper} {a : Act} {W : World} {K : Act → World → Prop} (hw : Region.wanted oi (yielded ops a.tmps) = true) (t : TypeId) (p x : Operand) (ho : oi.op = .store t p x)
    {g i : Nat} {e : TypeId} {cur : Array Value} (u : Value) (seg : Array Value) (haddr : a.eval p = .pointer (some ⟨g, i, none⟩)) (hx : a.eval x = u) (hu : u.cells = seg) (hh : W.heap[g]? = some (.cells cur e (0, 0))) (ht : (P.info? t).map (·.size) = some seg.size)
    (hi0 : decide (i + seg.size ≤ cur.size) = true) (h1 : ∀ q ∈ seg.toList, q.oneCell' = true) (cur' : Array Value) (hcur : (cur.toList.take i ++ seg.toList ++ cur.toList.drop (i + seg.size)).toArray = cur')
    (h : ∀ w1, w1.heap[g]? = some (.cells cur' e (0, 0)) → W.grownBy w1 (some g) → K (a.put oi.dst undef) w1) : if Region.wanted oi (yielded ops a.tmps) = true then Oper.wp P oi a W K Q else K (a.put none undef) W := by
  rw [if_pos hw]
  have hi := of_decide_eq_true hi0
  have hrun := run_store_run (P := P) (o := i) t u seg.toList hh (by rw [hu]) (by simpa using ht) (by simp; omega) h1
  unfold Oper.wp execOp
  simp only [ho, haddr, hx, Sem.run_bind, Sem.run_pure, Result.andThen_ok, hrun]
  show K (a.put oi.dst undef) _
  obtain ⟨cur2, h3, h4, h5⟩ := setCells_row seg.toList i W cur hh (by simp; omega)
  obtain ⟨s1, s2, s3, s4⟩ := setCells_same g seg.toList i W
  have e1 : cur2 = cur' := by
    rw [← hcur]
    apply Array.toList_inj.mp
    rw [h5]
    simp
  rw [e1] at h3
  exact h _ h3 ⟨s1, s2, s3, by rw [s4]; exact Nat.le_refl _, fun k _ hk => setCells_far _ _ k (fun he => hk (by rw [he]))⟩
theorem one_int (k : IntKind) (x : Int) : ∀ q ∈ (#[Value.int k x] : Array Value).toList, q.oneCell' = true := by
  intro q hq; simp at hq; subst hq; rfl
theorem one_str (x : ByteArray) : ∀ q ∈ (#[Value.string x] : Array Value).toList, q.oneCell' = true := by
  intro q hq; simp at hq; subst hq; rfl
theorem size1_9 : (Try.prog.info? 9).map (·.size) = some 1 := by kernel_rfl
theorem pk_one (a0 a1 a2 a3 a4 a5 : Int) (a6 a7 : Bool) (a8 : ByteArray) : ∀ q ∈ (#[Value.int .u32 a0, .int .u32 a1, .int .i64 a2, .int .i64 a3, .int .i64 a4, .int .i64 a5, .bool a6, .bool a7, .string a8] : Array Value).toList, q.oneCell' = true := by
  intro u hu
  simp only [List.mem_cons, List.not_mem_nil, or_false] at hu
  rcases hu with rfl | rfl | rfl | rfl | rfl | rfl | rfl | rfl | rfl <;> rfl
/-- The cells of a packet's block. -/
theorem pk_cells' {W : World} {g : Nat} {t : TypeId} {a0 a1 a2 a3 a4 a5 : Int} {a6 a7 : Bool} {a8 : ByteArray} (h : W.heap[g]? = some (.cells #[.int .u32 a0, .int .u32 a1, .int .i64 a2, .int .i64 a3, .int .i64 a4, .int .i64 a5, .bool a6, .bool a7, .string a8] t (0, 0))) :
    W.cell? ⟨g, 0, none⟩ = some (.int .u32 a0) ∧ W.cell? ⟨g, 1, none⟩ = some (.int .u32 a1) ∧ W.cell? ⟨g, 2, none⟩ = some (.int .i64 a2) ∧ W.cell? ⟨g, 3, none⟩ = some (.int .i64 a3) ∧ W.cell? ⟨g, 4, none⟩ = some (.int .i64 a4) ∧ W.cell? ⟨g, 5, none⟩ = some (.int .i64 a5) ∧ W.cell? ⟨g, 6, none⟩ = some (.bool a6) ∧ W.cell? ⟨g, 7, none⟩ = some (.bool a7) ∧ W.cell? ⟨g, 8, none⟩ = some (.string a8) :=
  ⟨(blk_cell h 0).trans rfl, (blk_cell h 1).trans rfl, (blk_cell h 2).trans rfl, (blk_cell h 3).trans rfl, (blk_cell h 4).trans rfl, (blk_cell h 5).trans rfl, (blk_cell h 6).trans rfl, (blk_cell h 7).trans rfl, (blk_cell h 8).trans rfl⟩
/-- Go's min and max of two, told by a word. -/
theorem min2_mn (k k' : IntKind) (x y : Int) : Builtin.min2 (.int k x) (.int k' y) = pure (.int k (mn x y)) := min2_int k k' x y
theorem max2_mx (k k' : IntKind) (x y : Int) : Builtin.max2 (.int k x) (.int k' y) = pure (.int k (mx x y)) := max2_int k k' x y
theorem pieceCells_one (y : Int × ByteArray) : ∀ u ∈ pieceCells y, u.oneCell' = true := by
  intro u hu
  simp only [pieceCells, List.mem_cons, List.not_mem_nil, or_false] at hu
  rcases hu with rfl | rfl <;> rfl
theorem news_cells (W : World) (g : Nat) (hg : g = W.heap.size) (cs : Array Value) (t : TypeId) (l : List Value) (hl : cs.toList = l) : ∀ j u, l[j]? = some u → (W.alloc (.cells cs t (0, 0))).cell? ((⟨g, 0, none⟩ : Addr).add j) = some u := by
  intro j u h
  subst hl
  subst hg
  have := blk_cell (blk_new W (.cells cs t (0, 0))) j
  rw [show ((⟨W.heap.size, 0, none⟩ : Addr).add j) = ⟨W.heap.size, j, none⟩ by simp [Addr.add] <;> omega]
  rw [this]
  simpa using h

theorem flat_snoc {α β : Type} (f : α → List β) (l : List α) (x : α) : l.flatMap f ++ f x = (l ++ [x]).flatMap f := by simp

theorem ownBlock_le {W : World} {base : Nat} {e : TypeId} {size n : Nat} {v : Value} {xs : List Value} (h : W.ownsRow base e size v n xs) {k : Nat} (hk : v.ownBlock = some k) : base ≤ k := by
  obtain ⟨_, h⟩ := h
  rcases h with ⟨rfl, _⟩ | ⟨g, cap, cur, rfl, hg, _⟩
  · cases hk
  · cases hk; exact hg
theorem toList_nil (s : ByteArray) : s.toList = ([] : List UInt8) ↔ s.size = 0 := by
  rw [ByteArray.toList_eq]
  exact List.eq_nil_iff_length_eq_zero
theorem not_empty_false {s : ByteArray} (h : s.size = 0) : (!s.toList.isEmpty) = false := by
  rw [(toList_nil s).mpr h]; rfl
theorem not_empty_true {s : ByteArray} (h : ¬ s.size = 0) : (!s.toList.isEmpty) = true := by
  cases hh : s.toList with
  | nil => exact absurd ((toList_nil s).mp hh) h
  | cons a l => rfl
theorem sizeP : (Try.prog.info? 32).map (·.size) = some 9 := by kernel_rfl
theorem size1_3 : (Try.prog.info? 3).map (·.size) = some 1 := by kernel_rfl
theorem size1_4 : (Try.prog.info? 4).map (·.size) = some 1 := by kernel_rfl
theorem size1_55 : (Try.prog.info? 55).map (·.size) = some 1 := by kernel_rfl
theorem size1_48 : (Try.prog.info? 48).map (·.size) = some 1 := by kernel_rfl
theorem info71 : (Try.prog.info? 71).map (fun i => (i.zero, i.size, i.bytes)) = some (some (.agg #[.int .i64 0, .string ⟨#[]⟩]), 2, 24) := by kernel_rfl
end Go.Proofs.Ytlhfkkionaemhaa.H
