/- join: the walk of Table.In. Conditions: sizes. -/
import Derived.Test.YtlhfkkionaemhaaHCheck
import Derived.Test.YtlhfkkionaemhaaHJoinDel
namespace Go.Proofs.Ytlhfkkionaemhaa.H
set_option linter.unusedSimpArgs false
set_option linter.unusedVariables false
open Go Go.RowKit Go.Maps Go.Proofs.YtlhfkkionaemhaaW.PrintWords Go.Proofs.YtlhfkkionaemhaaW.PrintLast Go.Proofs.YtlhfkkionaemhaaW.PrintMore Go.Proofs.Ytlhfkkionaemhaa.Plain

theorem EntAt.below {w w1 : World} {B x : Nat} {e : Ent} (h : EntAt w B x e) (hb : Below w.heap.size w w1) : EntAt w1 B x e := by
  obtain ⟨h1, pv, h2, h3⟩ := h
  exact ⟨h1, pv, blk_below h2 hb, own_move h3 (fun k hk => hb.block k (own_lt h3 k hk))⟩
theorem EntAt.only {S : Nat → Prop} {w w1 : World} {B x : Nat} {e : Ent} (h : EntAt w B x e) (ho : Only S w w1) (hx : ¬ S x) (hS : ∀ k cs, w.heap[k]? = some (.cells cs 71 (0, 0)) → ¬ S k) : EntAt w1 B x e := by
  obtain ⟨h1, pv, h2, h3⟩ := h
  exact ⟨h1, pv, ho.blk h2 hx, ho.own h3 (fun k hk => by obtain ⟨cs, hc⟩ := own_typed h3 k hk; exact hS k cs hc)⟩

/-- The table, its entries and their blocks. -/
structure TabAt (w : World) (B g : Nat) (room age now : Int) (lv : Value) (xs : List Nat) (E : List Ent) : Prop where
  hB : B ≤ g
  hBw : B ≤ w.heap.size
  blk : TabBlk w g room age now lv
  row : w.ownsRow B 54 1 lv xs.length (xs.map ptrV)
  ents : EntsAt w B xs E
  nodup : xs.Nodup
theorem TabAt.below {w w1 : World} {B g : Nat} {room age now : Int} {lv : Value} {xs : List Nat} {E : List Ent} (h : TabAt w B g room age now lv xs E) (hb : Below w.heap.size w w1) : TabAt w1 B g room age now lv xs E :=
  ⟨h.hB, by have := h.hBw; have := hb.size; omega, blk_below h.blk hb, own_move h.row (fun k hk => hb.block k (own_lt h.row k hk)), ⟨h.ents.1, fun i hi hi2 => (h.ents.2 i hi hi2).below hb⟩, h.nodup⟩

theorem EntAt.grown {w w1 : World} {B x r : Nat} {e : Ent} (h : EntAt w B x e) (hg : w.grownBy w1 (some r)) (hx : r ≠ x) {cs : Array Value} {t : TypeId} (hr : w.heap[r]? = some (.cells cs t (0, 0))) (ht : t ≠ 71) : EntAt w1 B x e := by
  obtain ⟨h1, pv, h2, h3⟩ := h
  refine ⟨h1, pv, blk_grown h2 hg (fun e => hx (Option.some.inj e).symm), h3.kept hg (.inr ?_)⟩
  intro e
  obtain ⟨c2, hc⟩ := own_typed h3 r e
  rw [hr] at hc
  simp only [Option.some.injEq, Obj.cells.injEq] at hc
  exact ht hc.2.1
theorem ent_ne {w : World} {B x r : Nat} {e : Ent} (h : EntAt w B x e) {cs : Array Value} {t : TypeId} (hr : w.heap[r]? = some (.cells cs t (0, 0))) (ht : t ≠ 57) : r ≠ x := by
  obtain ⟨_, pv, h2, _⟩ := h
  exact fun e => blk_ne hr h2 ht e
theorem TabAt.now {w w1 : World} {B g : Nat} {room age tnow now : Int} {lv : Value} {xs : List Nat} {E : List Ent} (h : TabAt w B g room age tnow lv xs E) (hb : w1.heap[g]? = some (.cells #[.int .i64 room, .int .i64 age, .int .i64 now, lv] 50 (0, 0))) (hg : w.grownBy w1 (some g)) : TabAt w1 B g room age now lv xs E :=
  ⟨h.hB, by have := h.hBw; have := hg.size; omega, hb, h.row.kept hg (.inr (fun e => own_ne h.row h.blk (by decide) e.symm)), ⟨h.ents.1, fun i hi hi2 => (h.ents.2 i hi hi2).grown hg (ent_ne (h.ents.2 i hi hi2) h.blk (by decide)) h.blk (by decide)⟩, h.nodup⟩
theorem TabAt.far {w w1 : World} {B g r : Nat} {room age now : Int} {lv : Value} {xs : List Nat} {E : List Ent} (h : TabAt w B g room age now lv xs E) (hg : w.grownBy w1 (some r)) {cs : Array Value} (hr : w.heap[r]? = some (.cells cs 32 (0, 0))) : TabAt w1 B g room age now lv xs E :=
  ⟨h.hB, by have := h.hBw; have := hg.size; omega, blk_grown h.blk hg (fun e => blk_ne h.blk hr (by decide) (Option.some.inj e)), h.row.kept hg (.inr (fun e => own_ne h.row hr (by decide) e.symm)), ⟨h.ents.1, fun i hi hi2 => (h.ents.2 i hi hi2).grown hg (ent_ne (h.ents.2 i hi hi2) hr (by decide)) hr (by decide)⟩, h.nodup⟩
theorem TabAt.alloc {w : World} {B g : Nat} {room age now : Int} {lv : Value} {xs : List Nat} {E : List Ent} (h : TabAt w B g room age now lv xs E) (o : Obj) : TabAt (w.alloc o) B g room age now lv xs E := h.below ((Below.refl _ _).alloc (Nat.le_refl _) o)
theorem TabAt.drewN {w : World} {B g : Nat} {room age now : Int} {lv : Value} {xs : List Nat} {E : List Ent} (h : TabAt w B g room age now lv xs E) (m : Nat) : TabAt (w.drewN m) B g room age now lv xs E := h.below (pw_below_drewN (Below.refl _ _) m)

theorem EntAt.rowed {w w1 : World} {B x n m : Nat} {lv : Value} {ys : List Value} {e : Ent} (h : EntAt w B x e) (ho : w.ownsRow m 54 1 lv n ys) (hg : w.grownBy w1 lv.ownBlock) : EntAt w1 B x e := by
  obtain ⟨h1, pv, h2, h3⟩ := h
  refine ⟨h1, pv, blk_grown h2 hg (own_ne ho h2 (by decide)), own_move h3 (fun k hk => hg.block k (own_lt h3 k hk) ?_)⟩
  intro e
  obtain ⟨c1, hc1⟩ := own_typed h3 k hk
  obtain ⟨c2, hc2⟩ := own_typed ho k e.symm
  rw [hc1] at hc2
  simp at hc2
theorem TabAt.snoc {w7 w9 w10 : World} {B g x : Nat} {room age now : Int} {lv v9 : Value} {xs : List Nat} {E : List Ent} {e : Ent} (h : TabAt w7 B g room age now lv xs E) (hbox : EntAt w7 B x e) (hnew : x ∉ xs)
    (hown9 : w9.ownsRow B 54 1 v9 (xs.length + 1) ((xs ++ [x]).map ptrV)) (hg9 : w7.grownBy w9 lv.ownBlock) (hx10 : w10.heap[g]? = some (.cells #[.int .i64 room, .int .i64 age, .int .i64 now, v9] 50 (0, 0))) (hg10 : w9.grownBy w10 (some g)) : TabAt w10 B g room age now v9 (xs ++ [x]) (E ++ [e]) := by
  have hb9 : w9.heap[g]? = some (.cells #[.int .i64 room, .int .i64 age, .int .i64 now, lv] 50 (0, 0)) := blk_grown h.blk hg9 (own_ne h.row h.blk (by decide))
  have key : ∀ y f, EntAt w7 B y f → EntAt w10 B y f := fun y f hy => (hy.rowed h.row hg9).grown hg10 (ent_ne (hy.rowed h.row hg9) hb9 (by decide)) hb9 (by decide)
  refine ⟨h.hB, by have := h.hBw; have := hg9.size; have := hg10.size; omega, hx10, ?_, ⟨by simp [h.ents.1], fun i hi hi2 => ?_⟩, ?_⟩
  · rw [List.length_append]
    exact hown9.kept hg10 (.inr (fun e => own_ne hown9 hb9 (by decide) e.symm))
  · by_cases hlt : i < xs.length
    · have hlt2 : i < E.length := by rw [← h.ents.1]; exact hlt
      rw [List.getElem_append_left hlt, List.getElem_append_left hlt2]
      exact key _ _ (h.ents.2 i hlt hlt2)
    · have h1 : i = xs.length := by simp at hi; omega
      have h2 : i = E.length := by rw [h1]; exact h.ents.1
      have e1 : (xs ++ [x])[i] = x := by simp [h1]
      have e2 : (E ++ [e])[i] = e := by simp [h2]
      rw [e1, e2]
      exact key _ _ hbox
  · exact List.nodup_append.mpr ⟨h.nodup, by simp, fun a ha b hb => by simp at hb; subst hb; exact fun e => hnew (e ▸ ha)⟩

/-- One entry is another one now. -/
theorem TabAt.upd {w w1 : World} {B g i : Nat} {room age now : Int} {lv : Value} {xs : List Nat} {E : List Ent} {e : Ent} (h : TabAt w B g room age now lv xs E) (hi : i < xs.length) (hE : EntAt w1 B xs[i] e) (ho : Only (fun k => k = xs[i]) w w1) : TabAt w1 B g room age now lv xs (E.set i e) := by
  have hi2 : i < E.length := by rw [← h.ents.1]; exact hi
  obtain ⟨_, pv, hx, _⟩ := h.ents.2 i hi hi2
  refine ⟨h.hB, by have := h.hBw; have := ho.size; omega, ho.blk h.blk (fun e => blk_ne h.blk hx (by decide) e), ho.own h.row (fun k hk e => own_ne h.row hx (by decide) (by rw [hk, e])), ⟨by simp [h.ents.1], fun j hj hj2 => ?_⟩, h.nodup⟩
  by_cases hij : i = j
  · subst hij
    rw [List.getElem_set_self]
    exact hE
  · rw [List.getElem_set_ne hij]
    have hjE : j < E.length := by simpa using hj2
    exact (h.ents.2 j hj hjE).only ho (fun e => hij ((List.getElem_inj h.nodup).mp e.symm)) (fun k cs hk e => by subst e; rw [hx] at hk; simp at hk)
theorem new_not_joined (src dst proto ttl id off now : Int) (more whole : Bool) (body : ByteArray) (h : off ≠ 0 ∨ more = true) (h0 : 0 ≤ off) :
    ((⟨src, dst, proto, id, now, zeroPk, false, [], 0, -1⟩ : Ent).add ⟨src, dst, proto, ttl, id, off, more, whole, body⟩).joined = none := by
  unfold Ent.joined Ent.add
  simp only [ins]
  by_cases hb : body.size = 0
  · rw [if_pos hb]
    simp only [joinS, Option.bind_some]
    rw [if_neg]
    cases more
    · simp; rcases h with h | h
      · omega
      · cases h
    · simp
  · rw [if_neg hb]
    simp only [joinS]
    by_cases ho : off = 0
    · rw [if_pos ho]
      obtain rfl : more = true := h.resolve_left (fun e => e ho)
      simp; omega
    · rw [if_neg ho]; rfl

theorem info54 : (Try.prog.info? 54).map (fun i => (i.zero, i.size, i.bytes)) = some (some (.pointer none), 1, 8) := by kernel_rfl
theorem one_sl (A : Option Addr) (n c : Nat) : ∀ q ∈ (#[Value.slice A n c] : Array Value).toList, q.oneCell' = true := by
  intro q hq; simp at hq; subst hq; rfl

theorem two_new {w w1 : World} {o1 o2 : Obj} (hb : Below ((w.alloc o1).alloc o2).heap.size ((w.alloc o1).alloc o2) w1) : w1.heap[w.heap.size]? = some o1 ∧ w1.heap[w.heap.size + 1]? = some o2 ∧ Below w.heap.size w w1 ∧ w.heap.size + 2 ≤ w1.heap.size := by
  have hs := hb.size
  simp only [World.size_alloc] at hs hb
  refine ⟨(hb.block _ (by omega)).trans (blk_alloc (blk_new w o1) o2), (hb.block _ (by omega)).trans (by have := blk_new (w.alloc o1) o2; simpa using this), ?_, by omega⟩
  exact (((Below.refl _ _).alloc (Nat.le_refl _) o1).alloc (by simp) o2).trans (hb.mono (by omega))

def Pk.chk (p : Pk) : Int := checkv p.proto p.ttl p.id p.off p.more p.whole p.body.size
theorem chk_calls (p : Pk) (hs : p.body.size ≤ 140737488351232) (w : World) : Calls Try.prog 20 #[.agg #[.int .u32 p.src, .int .u32 p.dst, .int .i64 p.proto, .int .i64 p.ttl, .int .i64 p.id, .int .i64 p.off, .bool p.more, .bool p.whole, .string p.body]] w fun e w' => e = .returned (.int .i64 p.chk) ∧ Below w.heap.size w w' :=
  check_calls p.src p.dst p.proto p.ttl p.id p.off p.more p.whole p.body hs w

set_option maxHeartbeats 8000000 in
set_option maxRecDepth 100000 in
/-- A packet that is no valid one. -/
theorem in_bad (B g : Nat) (room age tnow now : Int) (lv : Value) (xs : List Nat) (E : List Ent) (p : Pk) (hs : p.body.size ≤ 100000) (hc : p.chk ≠ 0) (w : World) (hT : TabAt w B g room age tnow lv xs E) :
    Calls Try.prog 10 #[.pointer (some ⟨g, 0, none⟩), .agg #[.int .u32 p.src, .int .u32 p.dst, .int .i64 p.proto, .int .i64 p.ttl, .int .i64 p.id, .int .i64 p.off, .bool p.more, .bool p.whole, .string p.body], .int .i64 now] w fun e w' =>
      e = .returned (.tuple #[packV zeroPk, .bool false, .int .i64 p.chk]) ∧ Below w.heap.size w w' := by
  have hck := fun W => chk_calls p (by omega) W
  generalize p.chk = c at hc hck ⊢
  obtain ⟨src, dst, proto, ttl, id, off, more, whole, body⟩ := p
  simp only at hck hs ⊢
  have hcb : (c == 0) = false := beq_eq_false_iff_ne.mpr hc
  have hcn : (c != 0) = true := by simpa using hc
  clear hT
  go_enter Try.func10, Try.ntmps10
  go_wp2_with (first | (go_at_call 20; refine (hck _).mono ?_; rintro e w1 ⟨rfl, hb⟩; obtain ⟨hp1, hr1, hb1, hz1⟩ := two_new hb) | (refine gate_ (.store 32 (.tmp 6) (.tmp 23)) rfl ?_; refine wpList_store_part rfl 32 (.tmp 6) (.tmp 23) rfl rfl (packV zeroPk) #[.int .u32 0, .int .u32 0, .int .i64 0, .int .i64 0, .int .i64 0, .int .i64 0, .bool false, .bool false, .string ⟨#[]⟩] rfl rfl rfl hr1 sizeP rfl (pk_one _ _ _ _ _ _ _ _ _) _ rfl ?_))
  intro W3 hr3 hg3
  obtain ⟨hc0, hc1, hc2, hc3, hc4, hc5, hc6, hc7, hc8⟩ := pk_cells' hr3
  go_wp2
  refine bodyPost_ret (v := .tuple #[packV zeroPk, .bool false, .int .i64 c]) ?_ rfl ⟨rfl, ?_⟩
  · simp [results, Try.results10, go_sem, packV, zeroPk, hc0, hc1, hc2, hc3, hc4, hc5, hc6, hc7, hc8]
  · exact hb1.grown hg3 (by omega) (fun k hk => by cases hk; omega)

set_option maxHeartbeats 8000000 in
set_option maxRecDepth 100000 in
/-- A packet that is no fragment. -/
theorem in_direct (B g : Nat) (room age tnow now : Int) (lv : Value) (xs : List Nat) (E : List Ent) (p : Pk) (hs : p.body.size ≤ 100000) (hc : p.chk = 0) (h0 : p.off = 0) (h1 : p.more = false) (hn : 0 ≤ now ∧ now ≤ 1000000000) (hcn : tnow ≤ now) (w : World) (hT : TabAt w B g room age tnow lv xs E) :
    Calls Try.prog 10 #[.pointer (some ⟨g, 0, none⟩), .agg #[.int .u32 p.src, .int .u32 p.dst, .int .i64 p.proto, .int .i64 p.ttl, .int .i64 p.id, .int .i64 p.off, .bool p.more, .bool p.whole, .string p.body], .int .i64 now] w fun e w' =>
      e = .returned (.tuple #[packV p, .bool true, .int .i64 0]) ∧ TabAt w' B g room age now lv xs E ∧ Only (fun k => k = g) w w' := by
  have hck := fun W => chk_calls p (by omega) W
  rw [hc] at hck
  clear hc
  obtain ⟨src, dst, proto, ttl, id, off, more, whole, body⟩ := p
  simp only at hck hs h0 h1 ⊢
  subst h0 h1
  have htm := fun W (h : TabBlk W g room age tnow lv) => time_ok room age tnow now lv g hn hcn W h
  go_enter Try.func10, Try.ntmps10
  go_wp2_with (first | (go_at_call 20; refine (hck _).mono ?_; rintro e w1 ⟨rfl, hb⟩; obtain ⟨hp1, hr1, hb1, hz1⟩ := two_new hb; obtain ⟨hd0, hd1, hd2, hd3, hd4, hd5, hd6, hd7, hd8⟩ := pk_cells' hp1) | (go_at_call 21; refine (htm _ (hT.below hb1).blk).mono ?_; rintro e w2 ⟨rfl, rfl⟩) | (refine gate_ (.store 3 (.tmp 36) (.tmp 34)) rfl ?_; refine wpList_store_cell rfl 3 (.tmp 36) (.tmp 34) rfl rfl (.int .i64 now) rfl rfl rfl rfl (hT.below hb1).blk size1_3 rfl #[.int .i64 room, .int .i64 age, .int .i64 now, lv] rfl ?_))
  intro W2 hx2 hg2
  have hT2 := (hT.below hb1).now hx2 hg2
  have hgw := blk_lt hT.blk
  have hr2 := blk_grown hr1 hg2 (fun e => by have := Option.some.inj e; omega)
  have hp2 := blk_grown hp1 hg2 (fun e => by have := Option.some.inj e; omega)
  have ho2 := (Only.of_below (S := fun k => k = g) hb1).grown hg2 (fun k hk => .inl (Option.some.inj hk).symm)
  clear hd0 hd1 hd2 hd3 hd4 hd5 hd6 hd7 hd8 hb hb1 hp1 hr1 hg2 hx2
  obtain ⟨hd0, hd1, hd2, hd3, hd4, hd5, hd6, hd7, hd8⟩ := pk_cells' hp2
  go_wp2_with (refine gate_ (.store 32 (.tmp 6) (.tmp 37)) rfl ?_; refine wpList_store_part rfl 32 (.tmp 6) (.tmp 37) rfl rfl (packV ⟨src, dst, proto, ttl, id, 0, false, whole, body⟩) #[.int .u32 src, .int .u32 dst, .int .i64 proto, .int .i64 ttl, .int .i64 id, .int .i64 0, .bool false, .bool whole, .string body] rfl rfl rfl hr2 sizeP rfl (pk_one _ _ _ _ _ _ _ _ _) _ rfl ?_)
  intro W3 hr3 hg3
  have hT3 := hT2.far hg3 hr2
  have ho3 := ho2.grown hg3 (fun k hk => .inr (by have := Option.some.inj hk; omega))
  obtain ⟨hc0, hc1, hc2, hc3, hc4, hc5, hc6, hc7, hc8⟩ := pk_cells' hr3
  go_wp2
  refine bodyPost_ret (v := .tuple #[packV ⟨src, dst, proto, ttl, id, 0, false, whole, body⟩, .bool true, .int .i64 0]) ?_ rfl ⟨rfl, hT3, ho3⟩
  simp [results, Try.results10, go_sem, packV, hc0, hc1, hc2, hc3, hc4, hc5, hc6, hc7, hc8]

set_option maxHeartbeats 8000000 in
set_option maxRecDepth 100000 in
/-- A fragment that ends too far behind. -/
theorem in_large (B g : Nat) (room age tnow now : Int) (lv : Value) (xs : List Nat) (E : List Ent) (p : Pk) (hs : p.body.size ≤ 100000) (hc : p.chk = 0) (hfr : p.off ≠ 0 ∨ p.more = true) (hn : 0 ≤ now ∧ now ≤ 1000000000) (hcn : tnow ≤ now) (hl : E.length ≤ 64) (w : World) (hT : TabAt w B g room age tnow lv xs E) (hx : 1500 < p.off + p.body.size ∧ p.off ≤ 100000) (ir : Int) (hir : (ir = -1 ∧ ∀ e ∈ E, pkEq e.key p.key = false) ∨ ∃ i : Nat, ir = (i : Int) ∧ ∃ hi : i < E.length, pkEq E[i].key p.key = true ∧ ∀ j (hj : j < i), pkEq (E[j]'(by omega)).key p.key = false) :
    Calls Try.prog 10 #[.pointer (some ⟨g, 0, none⟩), .agg #[.int .u32 p.src, .int .u32 p.dst, .int .i64 p.proto, .int .i64 p.ttl, .int .i64 p.id, .int .i64 p.off, .bool p.more, .bool p.whole, .string p.body], .int .i64 now] w fun e w' =>
      e = .returned (.tuple #[packV zeroPk, .bool false, .int .i64 2]) ∧ Below w.heap.size w w' := by
  have hck := fun W => chk_calls p (by omega) W
  rw [hc] at hck
  have hchk := hc
  clear hc
  obtain ⟨src, dst, proto, ttl, id, off, more, whole, body⟩ := p
  simp only at hck hs hfr ⊢
  have htm := fun W (h : TabBlk W g room age tnow lv) => time_ok room age tnow now lv g hn hcn W h
  go_enter Try.func10, Try.ntmps10
  apply wp_seq_k
  intro K0 hK0
  have HK0 := Lib.hid hK0
  clear hK0
  go_wp2
  refine HK0.out _ _ ?_
  clear HK0
  apply wp_seq_k
  intro K1 hK1
  have HK1 := Lib.hid hK1
  clear hK1
  go_wp2_with (go_at_call 20; refine (hck _).mono ?_; rintro e w1 ⟨rfl, hb⟩; obtain ⟨hp1, hr1, hb1, hz1⟩ := two_new hb)
  have hT1 := hT.below hb1
  clear hb hck
  refine HK1.out _ _ ?_
  clear HK1
  apply wp_seq_k
  intro K2 hK2
  have HK2 := Lib.hid hK2
  clear hK2
  go_wp2_with (go_at_call 21; refine (htm _ hT1.blk).mono ?_; rintro e w2 ⟨rfl, rfl⟩)
  clear htm
  refine HK2.out _ _ ?_
  clear HK2
  apply wp_seq_k
  intro K3 hK3
  have HK3 := Lib.hid hK3
  clear hK3
  go_wp2
  refine HK3.out _ _ ?_
  clear HK3
  apply wp_seq_k
  intro K4 hK4
  have HK4 := Lib.hid hK4
  clear hK4
  have hmid : ∀ (v14 v15 v16 v17 v18 v19 v20 v21 v22 v23 v24 v25 v26 v27 v28 v29 v30 v31 v32 : Value), K4 { tmps := #[.pointer (some ⟨g, 0, none⟩), .agg #[.int .u32 src, .int .u32 dst, .int .i64 proto, .int .i64 ttl, .int .i64 id, .int .i64 off, .bool more, .bool whole, .string body], .int .i64 now, undef, .pointer (some ⟨w.heap.size, 0, none⟩), undef, .pointer (some ⟨w.heap.size + 1, 0, none⟩), .bool false, .int .i64 0, .int .i64 0, undef, undef, undef, undef, v14, v15, v16, v17, v18, v19, v20, v21, v22, v23, v24, v25, v26, v27, v28, v29, v30, v31, v32, undef, undef, undef, undef, undef, undef, undef, undef, undef, undef, undef, undef, undef, undef, undef, undef, undef, undef, undef, undef, undef, undef, undef, undef, undef, undef, undef, undef, undef, undef, undef, undef, undef, undef, undef, undef, undef, undef, undef, undef, undef, undef, undef, undef, undef, undef, undef, undef, undef, undef, undef, undef, undef, undef, undef, undef, undef, undef, undef, undef, undef, undef, undef, undef, undef, undef, undef, undef, undef, undef, undef, undef, undef, undef, undef, undef, undef, undef, undef, undef, undef, undef, undef, undef, undef, undef, undef, undef, undef, undef, undef, undef, undef, undef, undef, undef, undef, undef, undef, undef, undef, undef, undef, undef, undef, undef, undef, undef, undef, undef, undef, undef, undef, undef, undef, undef, undef, undef], defers := [] } w1 := by
    intro v14 v15 v16 v17 v18 v19 v20 v21 v22 v23 v24 v25 v26 v27 v28 v29 v30 v31 v32
    refine HK4.out _ _ ?_
    clear HK4
    obtain ⟨A0, c0, rfl⟩ := own_slice hT1.row
    obtain ⟨hd0, hd1, hd2, hd3, hd4, hd5, hd6, hd7, hd8⟩ := pk_cells' hp1
    have hgl := blk_lt hT1.blk
    have hg3 : w1.cell? ⟨g, 3, none⟩ = some (.slice A0 xs.length c0) := (blk_cell hT1.blk 3).trans rfl
    have hxl : xs.length ≤ 64 := by have := hT.ents.1; omega
    have hix := index_calls B w1.heap.size xs E ⟨src, dst, proto, ttl, id, off, more, whole, body⟩ (.slice A0 xs.length c0) (w1.alloc (.cells #[.int .u32 src, .int .u32 dst, .int .i64 proto, .int .i64 0, .int .i64 id, .int .i64 0, .bool false, .bool false, .string ⟨#[]⟩] 32 (0, 0))) (hT1.alloc _).row (hT1.alloc _).ents (blk_new w1 _) (by omega) ir hir
    have hT1a := hT1.alloc (.cells #[.int .u32 src, .int .u32 dst, .int .i64 proto, .int .i64 0, .int .i64 id, .int .i64 0, .bool false, .bool false, .string ⟨#[]⟩] 32 (0, 0))
    have hp1a := blk_alloc hp1 (.cells #[.int .u32 src, .int .u32 dst, .int .i64 proto, .int .i64 0, .int .i64 id, .int .i64 0, .bool false, .bool false, .string ⟨#[]⟩] 32 (0, 0))
    have hr1a := blk_alloc hr1 (.cells #[.int .u32 src, .int .u32 dst, .int .i64 proto, .int .i64 0, .int .i64 id, .int .i64 0, .bool false, .bool false, .string ⟨#[]⟩] 32 (0, 0))
    have hi1a := blk_new w1 (.cells #[.int .u32 src, .int .u32 dst, .int .i64 proto, .int .i64 0, .int .i64 id, .int .i64 0, .bool false, .bool false, .string ⟨#[]⟩] 32 (0, 0))
    have hb1a := hb1.alloc (by omega) (.cells #[.int .u32 src, .int .u32 dst, .int .i64 proto, .int .i64 0, .int .i64 id, .int .i64 0, .bool false, .bool false, .string ⟨#[]⟩] 32 (0, 0))
    have e4 : IntKind.i64.wrap (off + (body.size : Int)) = off + (body.size : Int) := IntWalk.i64_in _ (by omega)
    have hx1 := hx.1
    go_wp2_with (first | (go_at_call 22; refine hix.mono ?_; rintro e w2 ⟨rfl, m, rfl⟩; have hT2 := hT1a.drewN m; have hp2 := blk_drewN hp1a m; have hr2 := blk_drewN hr1a m; have hi2 := blk_drewN hi1a m; have hb2 := pw_below_drewN hb1a m; clear hix hg3 hd0 hd1 hd2 hd3 hd4 hd5 hd6 hd7 hd8 hT1a hp1a hr1a hi1a hb1a; generalize (w1.alloc (.cells #[.int .u32 src, .int .u32 dst, .int .i64 proto, .int .i64 0, .int .i64 id, .int .i64 0, .bool false, .bool false, .string ⟨#[]⟩] 32 (0, 0))).drewN m = W2 at hT2 hp2 hr2 hi2 hb2 ⊢; have hz2 := blk_lt hi2; obtain ⟨hd0, hd1, hd2, hd3, hd4, hd5, hd6, hd7, hd8⟩ := pk_cells' hp2; have hgl2 := blk_lt hT2.blk; have hg3 : W2.cell? ⟨g, 3, none⟩ = some (.slice A0 xs.length c0) := (blk_cell hT2.blk 3).trans rfl; have hg0 : W2.cell? ⟨g, 0, none⟩ = some (.int .i64 room) := (blk_cell hT2.blk 0).trans rfl) | (refine gate_ (.store 32 (.tmp 6) (.tmp 61)) rfl ?_; refine wpList_store_part rfl 32 (.tmp 6) (.tmp 61) rfl rfl (packV zeroPk) #[.int .u32 0, .int .u32 0, .int .i64 0, .int .i64 0, .int .i64 0, .int .i64 0, .bool false, .bool false, .string ⟨#[]⟩] rfl rfl rfl hr2 sizeP rfl (pk_one _ _ _ _ _ _ _ _ _) _ rfl ?_))
    intro W3 hr3 hg3
    obtain ⟨hc0, hc1, hc2, hc3, hc4, hc5, hc6, hc7, hc8⟩ := pk_cells' hr3
    go_wp2
    refine bodyPost_ret (v := .tuple #[packV zeroPk, .bool false, .int .i64 2]) ?_ rfl ⟨rfl, ?_⟩
    · simp [results, Try.results10, go_sem, packV, zeroPk, hc0, hc1, hc2, hc3, hc4, hc5, hc6, hc7, hc8]
    · exact hb2.grown hg3 (by omega) (fun k hk => by have := Option.some.inj hk; omega)

  clear HK4
  obtain ⟨_, _, _, _, _, hd5, hd6, _, _⟩ := pk_cells' hp1
  by_cases hoff : off = 0
  · obtain rfl : more = true := hfr.resolve_left (fun h => h hoff)
    subst hoff
    go_wp2
    exact hmid _ _ _ _ _ _ _ _ _ _ _ _ _ _ _ _ _ _ _
  · have hob : (off == 0) = false := beq_eq_false_iff_ne.mpr hoff
    go_wp2
    exact hmid _ _ _ _ _ _ _ _ _ _ _ _ _ _ _ _ _ _ _

set_option maxHeartbeats 8000000 in
set_option maxRecDepth 100000 in
/-- A fragment of a packet that is not there, and no room. -/
theorem in_full (B g : Nat) (room age tnow now : Int) (lv : Value) (xs : List Nat) (E : List Ent) (p : Pk) (hs : p.body.size ≤ 100000) (hc : p.chk = 0) (hfr : p.off ≠ 0 ∨ p.more = true) (hn : 0 ≤ now ∧ now ≤ 1000000000) (hcn : tnow ≤ now) (hl : E.length ≤ 64) (w : World) (hT : TabAt w B g room age tnow lv xs E) (hx : 0 ≤ p.off ∧ p.off + p.body.size ≤ 1500) (hlr : (E.length : Int) = room) (hix0 : ∀ e ∈ E, pkEq e.key p.key = false) :
    Calls Try.prog 10 #[.pointer (some ⟨g, 0, none⟩), .agg #[.int .u32 p.src, .int .u32 p.dst, .int .i64 p.proto, .int .i64 p.ttl, .int .i64 p.id, .int .i64 p.off, .bool p.more, .bool p.whole, .string p.body], .int .i64 now] w fun e w' =>
      e = .returned (.tuple #[packV zeroPk, .bool false, .int .i64 5]) ∧ Below w.heap.size w w' := by
  have hck := fun W => chk_calls p (by omega) W
  rw [hc] at hck
  have hchk := hc
  clear hc
  obtain ⟨src, dst, proto, ttl, id, off, more, whole, body⟩ := p
  simp only at hck hs hfr ⊢
  have htm := fun W (h : TabBlk W g room age tnow lv) => time_ok room age tnow now lv g hn hcn W h
  go_enter Try.func10, Try.ntmps10
  apply wp_seq_k
  intro K0 hK0
  have HK0 := Lib.hid hK0
  clear hK0
  go_wp2
  refine HK0.out _ _ ?_
  clear HK0
  apply wp_seq_k
  intro K1 hK1
  have HK1 := Lib.hid hK1
  clear hK1
  go_wp2_with (go_at_call 20; refine (hck _).mono ?_; rintro e w1 ⟨rfl, hb⟩; obtain ⟨hp1, hr1, hb1, hz1⟩ := two_new hb)
  have hT1 := hT.below hb1
  clear hb hck
  refine HK1.out _ _ ?_
  clear HK1
  apply wp_seq_k
  intro K2 hK2
  have HK2 := Lib.hid hK2
  clear hK2
  go_wp2_with (go_at_call 21; refine (htm _ hT1.blk).mono ?_; rintro e w2 ⟨rfl, rfl⟩)
  clear htm
  refine HK2.out _ _ ?_
  clear HK2
  apply wp_seq_k
  intro K3 hK3
  have HK3 := Lib.hid hK3
  clear hK3
  go_wp2
  refine HK3.out _ _ ?_
  clear HK3
  apply wp_seq_k
  intro K4 hK4
  have HK4 := Lib.hid hK4
  clear hK4
  have hmid : ∀ (v14 v15 v16 v17 v18 v19 v20 v21 v22 v23 v24 v25 v26 v27 v28 v29 v30 v31 v32 : Value), K4 { tmps := #[.pointer (some ⟨g, 0, none⟩), .agg #[.int .u32 src, .int .u32 dst, .int .i64 proto, .int .i64 ttl, .int .i64 id, .int .i64 off, .bool more, .bool whole, .string body], .int .i64 now, undef, .pointer (some ⟨w.heap.size, 0, none⟩), undef, .pointer (some ⟨w.heap.size + 1, 0, none⟩), .bool false, .int .i64 0, .int .i64 0, undef, undef, undef, undef, v14, v15, v16, v17, v18, v19, v20, v21, v22, v23, v24, v25, v26, v27, v28, v29, v30, v31, v32, undef, undef, undef, undef, undef, undef, undef, undef, undef, undef, undef, undef, undef, undef, undef, undef, undef, undef, undef, undef, undef, undef, undef, undef, undef, undef, undef, undef, undef, undef, undef, undef, undef, undef, undef, undef, undef, undef, undef, undef, undef, undef, undef, undef, undef, undef, undef, undef, undef, undef, undef, undef, undef, undef, undef, undef, undef, undef, undef, undef, undef, undef, undef, undef, undef, undef, undef, undef, undef, undef, undef, undef, undef, undef, undef, undef, undef, undef, undef, undef, undef, undef, undef, undef, undef, undef, undef, undef, undef, undef, undef, undef, undef, undef, undef, undef, undef, undef, undef, undef, undef, undef, undef, undef, undef, undef, undef, undef, undef, undef, undef, undef, undef, undef, undef, undef, undef, undef], defers := [] } w1 := by
    intro v14 v15 v16 v17 v18 v19 v20 v21 v22 v23 v24 v25 v26 v27 v28 v29 v30 v31 v32
    refine HK4.out _ _ ?_
    clear HK4
    obtain ⟨A0, c0, rfl⟩ := own_slice hT1.row
    obtain ⟨hd0, hd1, hd2, hd3, hd4, hd5, hd6, hd7, hd8⟩ := pk_cells' hp1
    have hgl := blk_lt hT1.blk
    have hg3 : w1.cell? ⟨g, 3, none⟩ = some (.slice A0 xs.length c0) := (blk_cell hT1.blk 3).trans rfl
    have hxl : xs.length ≤ 64 := by have := hT.ents.1; omega
    have hix := index_calls B w1.heap.size xs E ⟨src, dst, proto, ttl, id, off, more, whole, body⟩ (.slice A0 xs.length c0) (w1.alloc (.cells #[.int .u32 src, .int .u32 dst, .int .i64 proto, .int .i64 0, .int .i64 id, .int .i64 0, .bool false, .bool false, .string ⟨#[]⟩] 32 (0, 0))) (hT1.alloc _).row (hT1.alloc _).ents (blk_new w1 _) (by omega) (-1) (.inl ⟨rfl, hix0⟩)
    have hT1a := hT1.alloc (.cells #[.int .u32 src, .int .u32 dst, .int .i64 proto, .int .i64 0, .int .i64 id, .int .i64 0, .bool false, .bool false, .string ⟨#[]⟩] 32 (0, 0))
    have hp1a := blk_alloc hp1 (.cells #[.int .u32 src, .int .u32 dst, .int .i64 proto, .int .i64 0, .int .i64 id, .int .i64 0, .bool false, .bool false, .string ⟨#[]⟩] 32 (0, 0))
    have hr1a := blk_alloc hr1 (.cells #[.int .u32 src, .int .u32 dst, .int .i64 proto, .int .i64 0, .int .i64 id, .int .i64 0, .bool false, .bool false, .string ⟨#[]⟩] 32 (0, 0))
    have hi1a := blk_new w1 (.cells #[.int .u32 src, .int .u32 dst, .int .i64 proto, .int .i64 0, .int .i64 id, .int .i64 0, .bool false, .bool false, .string ⟨#[]⟩] 32 (0, 0))
    have hb1a := hb1.alloc (by omega) (.cells #[.int .u32 src, .int .u32 dst, .int .i64 proto, .int .i64 0, .int .i64 id, .int .i64 0, .bool false, .bool false, .string ⟨#[]⟩] 32 (0, 0))
    have hx1 : off + (body.size : Int) ≤ 1500 := hx.2
    have hx0 : 0 ≤ off := hx.1
    have e4 : IntKind.i64.wrap (off + (body.size : Int)) = off + (body.size : Int) := IntWalk.i64_in _ (by omega)
    have hlb : ((xs.length : Int) == room) = true := by rw [hT.ents.1, hlr]; simp
    clear hlr
    go_wp2_with (first | (go_at_call 22; refine hix.mono ?_; rintro e w2 ⟨rfl, m, rfl⟩; have hT2 := hT1a.drewN m; have hp2 := blk_drewN hp1a m; have hr2 := blk_drewN hr1a m; have hi2 := blk_drewN hi1a m; have hb2 := pw_below_drewN hb1a m; clear hix hg3 hd0 hd1 hd2 hd3 hd4 hd5 hd6 hd7 hd8 hT1a hp1a hr1a hi1a hb1a; generalize (w1.alloc (.cells #[.int .u32 src, .int .u32 dst, .int .i64 proto, .int .i64 0, .int .i64 id, .int .i64 0, .bool false, .bool false, .string ⟨#[]⟩] 32 (0, 0))).drewN m = W2 at hT2 hp2 hr2 hi2 hb2 ⊢; have hz2 := blk_lt hi2; obtain ⟨hd0, hd1, hd2, hd3, hd4, hd5, hd6, hd7, hd8⟩ := pk_cells' hp2; have hgl2 := blk_lt hT2.blk; have hg3 : W2.cell? ⟨g, 3, none⟩ = some (.slice A0 xs.length c0) := (blk_cell hT2.blk 3).trans rfl; have hg0 : W2.cell? ⟨g, 0, none⟩ = some (.int .i64 room) := (blk_cell hT2.blk 0).trans rfl))
    go_quiet (fail)
    have hT3 := hT2.drewN nq
    have hp3 := blk_drewN hp2 nq
    have hr3' := blk_drewN hr2 nq
    have hi3 := blk_drewN hi2 nq
    have hb3 := pw_below_drewN hb2 nq
    clear hd0 hd1 hd2 hd3 hd4 hd5 hd6 hd7 hd8 hT2 hp2 hr2 hi2 hb2 hz2 hgl2 hg3 hg0
    generalize W2.drewN nq = W2 at hT3 hp3 hr3' hi3 hb3 ⊢
    have hT2 := hT3
    have hp2 := hp3
    have hr2 := hr3'
    have hi2 := hi3
    have hb2 := hb3
    clear hT3 hp3 hr3' hi3 hb3
    have hz2 := blk_lt hi2
    obtain ⟨hd0, hd1, hd2, hd3, hd4, hd5, hd6, hd7, hd8⟩ := pk_cells' hp2
    have hgl2 := blk_lt hT2.blk
    have hg3 : W2.cell? ⟨g, 3, none⟩ = some (.slice A0 xs.length c0) := (blk_cell hT2.blk 3).trans rfl
    have hg0 : W2.cell? ⟨g, 0, none⟩ = some (.int .i64 room) := (blk_cell hT2.blk 0).trans rfl
    go_wp2_with (first | (refine gate_ (.store 32 (.tmp 6) (.tmp 77)) rfl ?_; refine wpList_store_part rfl 32 (.tmp 6) (.tmp 77) rfl rfl (packV zeroPk) #[.int .u32 0, .int .u32 0, .int .i64 0, .int .i64 0, .int .i64 0, .int .i64 0, .bool false, .bool false, .string ⟨#[]⟩] rfl rfl rfl hr2 sizeP rfl (pk_one _ _ _ _ _ _ _ _ _) _ rfl ?_))
    intro W3 hr3 hg3
    obtain ⟨hc0, hc1, hc2, hc3, hc4, hc5, hc6, hc7, hc8⟩ := pk_cells' hr3
    go_wp2
    refine bodyPost_ret (v := .tuple #[packV zeroPk, .bool false, .int .i64 5]) ?_ rfl ⟨rfl, ?_⟩
    · simp [results, Try.results10, go_sem, packV, zeroPk, hc0, hc1, hc2, hc3, hc4, hc5, hc6, hc7, hc8]
    · exact hb2.grown hg3 (by omega) (fun k hk => by have := Option.some.inj hk; omega)

  clear HK4
  obtain ⟨_, _, _, _, _, hd5, hd6, _, _⟩ := pk_cells' hp1
  by_cases hoff : off = 0
  · obtain rfl : more = true := hfr.resolve_left (fun h => h hoff)
    subst hoff
    go_wp2
    exact hmid _ _ _ _ _ _ _ _ _ _ _ _ _ _ _ _ _ _ _
  · have hob : (off == 0) = false := beq_eq_false_iff_ne.mpr hoff
    go_wp2
    exact hmid _ _ _ _ _ _ _ _ _ _ _ _ _ _ _ _ _ _ _

set_option maxHeartbeats 8000000 in
set_option maxRecDepth 100000 in
/-- The first fragment of a packet. -/
theorem in_new (B g : Nat) (room age tnow now : Int) (lv : Value) (xs : List Nat) (E : List Ent) (p : Pk) (hs : p.body.size ≤ 100000) (hc : p.chk = 0) (hfr : p.off ≠ 0 ∨ p.more = true) (hn : 0 ≤ now ∧ now ≤ 1000000000) (hcn : tnow ≤ now) (hl : E.length ≤ 64) (w : World) (hT : TabAt w B g room age tnow lv xs E) (hx : 0 ≤ p.off ∧ p.off + p.body.size ≤ 1500) (hlr : (E.length : Int) ≠ room) (hix0 : ∀ e ∈ E, pkEq e.key p.key = false) :
    Calls Try.prog 10 #[.pointer (some ⟨g, 0, none⟩), .agg #[.int .u32 p.src, .int .u32 p.dst, .int .i64 p.proto, .int .i64 p.ttl, .int .i64 p.id, .int .i64 p.off, .bool p.more, .bool p.whole, .string p.body], .int .i64 now] w fun e w' =>
      e = .returned (.tuple #[packV zeroPk, .bool false, .int .i64 0]) ∧ ∃ lv2 x, TabAt w' B g room age now lv2 (xs ++ [x]) (E ++ [(⟨p.src, p.dst, p.proto, p.id, now, zeroPk, false, [], 0, -1⟩ : Ent).add p]) ∧ Only (fun k => k = g ∨ some k = lv.ownBlock ∨ k ∈ xs) w w' := by
  have hck := fun W => chk_calls p (by omega) W
  rw [hc] at hck
  have hchk := hc
  clear hc
  obtain ⟨src, dst, proto, ttl, id, off, more, whole, body⟩ := p
  simp only at hck hs hfr ⊢
  have htm := fun W (h : TabBlk W g room age tnow lv) => time_ok room age tnow now lv g hn hcn W h
  go_enter Try.func10, Try.ntmps10
  apply wp_seq_k
  intro K0 hK0
  have HK0 := Lib.hid hK0
  clear hK0
  go_wp2
  refine HK0.out _ _ ?_
  clear HK0
  apply wp_seq_k
  intro K1 hK1
  have HK1 := Lib.hid hK1
  clear hK1
  go_wp2_with (go_at_call 20; refine (hck _).mono ?_; rintro e w1 ⟨rfl, hb⟩; obtain ⟨hp1, hr1, hb1, hz1⟩ := two_new hb)
  have hT1 := hT.below hb1
  clear hb hck
  refine HK1.out _ _ ?_
  clear HK1
  apply wp_seq_k
  intro K2 hK2
  have HK2 := Lib.hid hK2
  clear hK2
  go_wp2_with (go_at_call 21; refine (htm _ hT1.blk).mono ?_; rintro e w2 ⟨rfl, rfl⟩)
  clear htm
  refine HK2.out _ _ ?_
  clear HK2
  apply wp_seq_k
  intro K3 hK3
  have HK3 := Lib.hid hK3
  clear hK3
  go_wp2
  refine HK3.out _ _ ?_
  clear HK3
  apply wp_seq_k
  intro K4 hK4
  have HK4 := Lib.hid hK4
  clear hK4
  have hmid : ∀ (v14 v15 v16 v17 v18 v19 v20 v21 v22 v23 v24 v25 v26 v27 v28 v29 v30 v31 v32 : Value), K4 { tmps := #[.pointer (some ⟨g, 0, none⟩), .agg #[.int .u32 src, .int .u32 dst, .int .i64 proto, .int .i64 ttl, .int .i64 id, .int .i64 off, .bool more, .bool whole, .string body], .int .i64 now, undef, .pointer (some ⟨w.heap.size, 0, none⟩), undef, .pointer (some ⟨w.heap.size + 1, 0, none⟩), .bool false, .int .i64 0, .int .i64 0, undef, undef, undef, undef, v14, v15, v16, v17, v18, v19, v20, v21, v22, v23, v24, v25, v26, v27, v28, v29, v30, v31, v32, undef, undef, undef, undef, undef, undef, undef, undef, undef, undef, undef, undef, undef, undef, undef, undef, undef, undef, undef, undef, undef, undef, undef, undef, undef, undef, undef, undef, undef, undef, undef, undef, undef, undef, undef, undef, undef, undef, undef, undef, undef, undef, undef, undef, undef, undef, undef, undef, undef, undef, undef, undef, undef, undef, undef, undef, undef, undef, undef, undef, undef, undef, undef, undef, undef, undef, undef, undef, undef, undef, undef, undef, undef, undef, undef, undef, undef, undef, undef, undef, undef, undef, undef, undef, undef, undef, undef, undef, undef, undef, undef, undef, undef, undef, undef, undef, undef, undef, undef, undef, undef, undef, undef, undef, undef, undef, undef, undef, undef, undef, undef, undef, undef, undef, undef, undef, undef, undef], defers := [] } w1 := by
    intro v14 v15 v16 v17 v18 v19 v20 v21 v22 v23 v24 v25 v26 v27 v28 v29 v30 v31 v32
    refine HK4.out _ _ ?_
    clear HK4
    obtain ⟨A0, c0, rfl⟩ := own_slice hT1.row
    obtain ⟨hd0, hd1, hd2, hd3, hd4, hd5, hd6, hd7, hd8⟩ := pk_cells' hp1
    have hgl := blk_lt hT1.blk
    have hg3 : w1.cell? ⟨g, 3, none⟩ = some (.slice A0 xs.length c0) := (blk_cell hT1.blk 3).trans rfl
    have hxl : xs.length ≤ 64 := by have := hT.ents.1; omega
    have hix := index_calls B w1.heap.size xs E ⟨src, dst, proto, ttl, id, off, more, whole, body⟩ (.slice A0 xs.length c0) (w1.alloc (.cells #[.int .u32 src, .int .u32 dst, .int .i64 proto, .int .i64 0, .int .i64 id, .int .i64 0, .bool false, .bool false, .string ⟨#[]⟩] 32 (0, 0))) (hT1.alloc _).row (hT1.alloc _).ents (blk_new w1 _) (by omega) (-1) (.inl ⟨rfl, hix0⟩)
    have hT1a := hT1.alloc (.cells #[.int .u32 src, .int .u32 dst, .int .i64 proto, .int .i64 0, .int .i64 id, .int .i64 0, .bool false, .bool false, .string ⟨#[]⟩] 32 (0, 0))
    have hp1a := blk_alloc hp1 (.cells #[.int .u32 src, .int .u32 dst, .int .i64 proto, .int .i64 0, .int .i64 id, .int .i64 0, .bool false, .bool false, .string ⟨#[]⟩] 32 (0, 0))
    have hr1a := blk_alloc hr1 (.cells #[.int .u32 src, .int .u32 dst, .int .i64 proto, .int .i64 0, .int .i64 id, .int .i64 0, .bool false, .bool false, .string ⟨#[]⟩] 32 (0, 0))
    have hi1a := blk_new w1 (.cells #[.int .u32 src, .int .u32 dst, .int .i64 proto, .int .i64 0, .int .i64 id, .int .i64 0, .bool false, .bool false, .string ⟨#[]⟩] 32 (0, 0))
    have hb1a := hb1.alloc (by omega) (.cells #[.int .u32 src, .int .u32 dst, .int .i64 proto, .int .i64 0, .int .i64 id, .int .i64 0, .bool false, .bool false, .string ⟨#[]⟩] 32 (0, 0))
    have hx1 : off + (body.size : Int) ≤ 1500 := hx.2
    have hx0 : 0 ≤ off := hx.1
    have e4 : IntKind.i64.wrap (off + (body.size : Int)) = off + (body.size : Int) := IntWalk.i64_in _ (by omega)
    have hlb : ((xs.length : Int) == room) = false := by rw [hT.ents.1]; exact beq_eq_false_iff_ne.mpr hlr
    clear hlr
    go_wp2_with (first | (go_at_call 22; refine hix.mono ?_; rintro e w2 ⟨rfl, m, rfl⟩; have hT2 := hT1a.drewN m; have hp2 := blk_drewN hp1a m; have hr2 := blk_drewN hr1a m; have hi2 := blk_drewN hi1a m; have hb2 := pw_below_drewN hb1a m; clear hix hg3 hd0 hd1 hd2 hd3 hd4 hd5 hd6 hd7 hd8 hT1a hp1a hr1a hi1a hb1a; generalize (w1.alloc (.cells #[.int .u32 src, .int .u32 dst, .int .i64 proto, .int .i64 0, .int .i64 id, .int .i64 0, .bool false, .bool false, .string ⟨#[]⟩] 32 (0, 0))).drewN m = W2 at hT2 hp2 hr2 hi2 hb2 ⊢; have hz2 := blk_lt hi2; obtain ⟨hd0, hd1, hd2, hd3, hd4, hd5, hd6, hd7, hd8⟩ := pk_cells' hp2; have hgl2 := blk_lt hT2.blk; have hg3 : W2.cell? ⟨g, 3, none⟩ = some (.slice A0 xs.length c0) := (blk_cell hT2.blk 3).trans rfl; have hg0 : W2.cell? ⟨g, 0, none⟩ = some (.int .i64 room) := (blk_cell hT2.blk 0).trans rfl))
    go_quiet (fail)
    have hT3 := hT2.drewN nq
    have hp3 := blk_drewN hp2 nq
    have hr3' := blk_drewN hr2 nq
    have hi3 := blk_drewN hi2 nq
    have hb3 := pw_below_drewN hb2 nq
    clear hd0 hd1 hd2 hd3 hd4 hd5 hd6 hd7 hd8 hT2 hp2 hr2 hi2 hb2 hz2 hgl2 hg3 hg0
    generalize W2.drewN nq = W2 at hT3 hp3 hr3' hi3 hb3 ⊢
    have hT2 := hT3
    have hp2 := hp3
    have hr2 := hr3'
    have hi2 := hi3
    have hb2 := hb3
    clear hT3 hp3 hr3' hi3 hb3
    have hz2 := blk_lt hi2
    obtain ⟨hd0, hd1, hd2, hd3, hd4, hd5, hd6, hd7, hd8⟩ := pk_cells' hp2
    have hgl2 := blk_lt hT2.blk
    have hg3 : W2.cell? ⟨g, 3, none⟩ = some (.slice A0 xs.length c0) := (blk_cell hT2.blk 3).trans rfl
    have hg0 : W2.cell? ⟨g, 0, none⟩ = some (.int .i64 room) := (blk_cell hT2.blk 0).trans rfl
    go_wp2
    go_quiet (fail)
    have hT3 := hT2.drewN nq
    have hp3 := blk_drewN hp2 nq
    have hr3' := blk_drewN hr2 nq
    have hi3 := blk_drewN hi2 nq
    have hb3 := pw_below_drewN hb2 nq
    clear hd0 hd1 hd2 hd3 hd4 hd5 hd6 hd7 hd8 hT2 hp2 hr2 hi2 hb2 hz2 hgl2 hg3 hg0
    generalize W2.drewN nq = W2 at hT3 hp3 hr3' hi3 hb3 ⊢
    have hT2 := hT3
    have hp2 := hp3
    have hr2 := hr3'
    have hi2 := hi3
    have hb2 := hb3
    clear hT3 hp3 hr3' hi3 hb3
    have hz2 := blk_lt hi2
    obtain ⟨hd0, hd1, hd2, hd3, hd4, hd5, hd6, hd7, hd8⟩ := pk_cells' hp2
    have hgl2 := blk_lt hT2.blk
    have hg3 : W2.cell? ⟨g, 3, none⟩ = some (.slice A0 xs.length c0) := (blk_cell hT2.blk 3).trans rfl
    have hg0 : W2.cell? ⟨g, 0, none⟩ = some (.int .i64 room) := (blk_cell hT2.blk 0).trans rfl
    go_wp2_with (first | (refine gate_ (.store 3 (.tmp 96) (.tmp 94)) rfl ?_; refine wpList_store_cell rfl 3 (.tmp 96) (.tmp 94) rfl rfl (.int .i64 now) rfl rfl rfl rfl hT2.blk size1_3 rfl #[.int .i64 room, .int .i64 age, .int .i64 now, .slice A0 xs.length c0] rfl ?_))
    intro W3 hx3 hgn
    have hT3 := hT2.now hx3 hgn
    have hgb := blk_lt hT.blk
    have hr3 := blk_grown hr2 hgn (fun e => by have := Option.some.inj e; omega)
    have hp3 := blk_grown hp2 hgn (fun e => by have := Option.some.inj e; omega)
    have hi3 := blk_grown hi2 hgn (fun e => by have := Option.some.inj e; omega)
    have ho3 := (Only.of_below (S := fun k => k = g ∨ some k = (Value.slice A0 xs.length c0).ownBlock ∨ k ∈ xs) hb2).grown hgn (fun k hk => .inl (.inl (Option.some.inj hk).symm))
    clear hd0 hd1 hd2 hd3 hd4 hd5 hd6 hd7 hd8 hT2 hp2 hr2 hi2 hb2 hgl2 hg3 hg0 hgn hx3
    have hg3 : W3.cell? ⟨g, 3, none⟩ = some (.slice A0 xs.length c0) := (blk_cell hT3.blk 3).trans rfl
    go_wp2
    refine start_ (n := 14) (S := fun w' => w'.heap[g]? = some (.cells #[.int .i64 room, .int .i64 age, .int .i64 now, .slice A0 xs.length c0] 50 (0, 0)) ∧ w'.heap[w1.heap.size]? = some (.cells #[.int .u32 src, .int .u32 dst, .int .i64 proto, .int .i64 0, .int .i64 id, .int .i64 0, .bool false, .bool false, .string ⟨#[]⟩] 32 (0, 0))) (ds := [13]) #[false, false, false, false, false, false, false, false, false, false, false, false, false, false] (by kernel_rfl) rfl rfl ⟨blk_drew hT3.blk, blk_drew hi3⟩ (fun hHeld => ?_)
    have hT4 := hT3.below (Below.refl _ _).drew
    have hr4 := blk_drew hr3
    have hp4 := blk_drew hp3
    have ho4 := ho3.drew
    clear hT3 hr3 hp3 hi3 ho3 hg3
    generalize W3.drew = W4 at hHeld hT4 hr4 hp4 ho4 ⊢
    refine pure_ (i := 0) (N := some 104) (v := ?_) (a' := ?_) #[true, false, false, false, false, false, false, false, false, false, false, false, false, false] rfl rfl (by kernel_rfl) (fun _ _ _ h => h) (Or.inl ⟨by rfl, ?_⟩) ?_ ?_
    rotate_left
    · intro w'
      go_simp
      with_reducible rfl
    rotate_left
    · simp only [Act.put, List.setIfInBounds_toArray, List.set_cons_zero, List.set_cons_succ, i64_w, i32_w]
      rfl
    refine pure_ (i := 1) (N := some 105) (v := ?_) (a' := ?_) #[true, true, false, false, false, false, false, false, false, false, false, false, false, false] rfl rfl (by kernel_rfl) (fun _ _ _ h => h) (Or.inl ⟨by rfl, ?_⟩) ?_ ?_
    rotate_left
    · intro w'
      go_simp
      with_reducible rfl
    rotate_left
    · simp only [Act.put, List.setIfInBounds_toArray, List.set_cons_zero, List.set_cons_succ, i64_w, i32_w]
      rfl
    refine pure_ (i := 2) (N := some 106) (v := ?_) (a' := ?_) #[true, true, true, false, false, false, false, false, false, false, false, false, false, false] rfl rfl (by kernel_rfl) (fun _ _ _ h => h) (Or.inl ⟨by rfl, ?_⟩) ?_ ?_
    rotate_left
    · intro w'
      go_simp
      with_reducible rfl
    rotate_left
    · simp only [Act.put, List.setIfInBounds_toArray, List.set_cons_zero, List.set_cons_succ, i64_w, i32_w]
      rfl
    refine pure_ (i := 3) (N := some 107) (v := ?_) (a' := ?_) #[true, true, true, true, false, false, false, false, false, false, false, false, false, false] rfl rfl (by kernel_rfl) (fun _ _ _ h => h) (Or.inl ⟨by rfl, ?_⟩) ?_ ?_
    rotate_left
    · intro w'
      go_simp
      with_reducible rfl
    rotate_left
    · simp only [Act.put, List.setIfInBounds_toArray, List.set_cons_zero, List.set_cons_succ, i64_w, i32_w]
      rfl
    refine take_ (i := 4) (N := some 108) (v := ?_) (a' := ?_) #[true, true, true, true, true, false, false, false, false, false, false, false, false, false] rfl rfl (by kernel_rfl) (fun _ _ _ h => h) (Or.inl ⟨by rfl, ?_⟩) hHeld ?_ ?_
    rotate_left
    · rintro w' ⟨s0, s1⟩
      have k3 : w'.cell? ⟨g, 3, none⟩ = some (.slice A0 xs.length c0) := (blk_cell s0 3).trans rfl
      go_simp
      with_reducible rfl
    rotate_left
    · simp only [Act.put, List.setIfInBounds_toArray, List.set_cons_zero, List.set_cons_succ, i64_w, i32_w]
      rfl
    refine take_ (i := 5) (N := some 109) (v := ?_) (a' := ?_) #[true, true, true, true, true, true, false, false, false, false, false, false, false, false] rfl rfl (by kernel_rfl) (fun _ _ _ h => h) (Or.inl ⟨by rfl, ?_⟩) hHeld ?_ ?_
    rotate_left
    · rintro w' ⟨s0, s1⟩
      obtain ⟨q0, q1, q2, q3, q4, q5, q6, q7, q8⟩ := pk_cells' s1
      go_simp
      with_reducible rfl
    rotate_left
    · simp only [Act.put, List.setIfInBounds_toArray, List.set_cons_zero, List.set_cons_succ, i64_w, i32_w]
      rfl
    refine pure_ (i := 6) (N := some 110) (v := ?_) (a' := ?_) #[true, true, true, true, true, true, true, false, false, false, false, false, false, false] rfl rfl (by kernel_rfl) (fun _ _ _ h => h) (Or.inl ⟨by rfl, ?_⟩) ?_ ?_
    rotate_left
    · intro w'
      go_simp
      with_reducible rfl
    rotate_left
    · simp only [Act.put, List.setIfInBounds_toArray, List.set_cons_zero, List.set_cons_succ, i64_w, i32_w]
      rfl
    refine pure_ (i := 7) (N := some 111) (v := ?_) (a' := ?_) #[true, true, true, true, true, true, true, true, false, false, false, false, false, false] rfl rfl (by kernel_rfl) (fun _ _ _ h => h) (Or.inl ⟨by rfl, ?_⟩) ?_ ?_
    rotate_left
    · intro w'
      go_simp
      with_reducible rfl
    rotate_left
    · simp only [Act.put, List.setIfInBounds_toArray, List.set_cons_zero, List.set_cons_succ, i64_w, i32_w]
      rfl
    refine one_ (i := 8) (N := some 112) #[true, true, true, true, true, true, true, true, true, false, false, false, false, false] rfl rfl (by kernel_rfl) (by decide) (fun K hK => ?_)
    refine box_step ?hg (N := 112) ?hd (cs := #[.int .u32 src, .int .u32 dst, .int .i64 proto, .int .i64 0, .int .i64 id, .int .i64 0, .bool false, .bool false, .string ⟨#[]⟩, .int .i64 now, .int .u32 0, .int .u32 0, .int .i64 0, .int .i64 0, .int .i64 0, .int .i64 0, .bool false, .bool false, .string ⟨#[]⟩, .bool false, .slice none 0 0, .int .i64 0, .int .i64 (-1)]) (t := 57) ?hr ?_; (case hd => rfl); (case hg => rfl); (case hr => first | (go_simp; done) | (go_simp; rfl))
    intro x hxw w7 hbox hb7
    have hT7 := hT4.below hb7
    have hp7 := blk_below hp4 hb7
    have hr7 := blk_below hr4 hb7
    have hi7 := blk_below hHeld.2 hb7
    have ho7 := ho4.below1 hb7
    have hxs : W4.heap.size ≤ x := by rw [hxw]; exact Nat.le_refl _
    have hz4 := blk_lt hHeld.2
    have hnew : x ∉ xs := fun hm => by obtain ⟨i, hi, he⟩ := List.getElem_of_mem hm; obtain ⟨_, pv, h2, _⟩ := hT4.ents.2 i hi (by rw [← hT4.ents.1]; exact hi); have := blk_lt h2; omega
    refine hK.out _ _ ⟨hT7.blk, hi7⟩ (fun hHeld => ?_)
    clear hK K hT4 hp4 hr4 ho4 hb7 hxw
    refine norm_ (a' := ?_) ?_ ?_
    rotate_left
    · show Act.put _ (some 112) _ = _
      simp only [Act.put, List.setIfInBounds_toArray, List.set_cons_zero, List.set_cons_succ, i64_w, i32_w]
      rfl
    refine one_ (i := 9) (N := some 113) #[true, true, true, true, true, true, true, true, true, true, false, false, false, false] rfl rfl (by kernel_rfl) (by decide) (fun K hK => ?_)
    refine value_ (by rfl) rfl (v := .slice (some ⟨w7.heap.size, 0, none⟩) 1 1) (w1 := w7.alloc (.cells #[.pointer (some ⟨x, 0, none⟩)] 54 (0, 0))) (by go_simp) ?_
    refine hK.out _ _ ⟨blk_alloc hHeld.1 _, blk_alloc hHeld.2 _⟩ (fun hHeld2 => ?_)
    clear hK K hHeld2
    refine norm_ (a' := ?_) ?_ ?_
    rotate_left
    · show Act.put _ (some 113) _ = _
      simp only [Act.put, List.setIfInBounds_toArray, List.set_cons_zero, List.set_cons_succ, i64_w, i32_w]
      rfl
    refine one_ (i := 10) (N := some 114) #[true, true, true, true, true, true, true, true, true, true, true, false, false, false] rfl rfl (by kernel_rfl) (by decide) (fun K hK => ?_)
    refine step_append_cells (w0 := w7) B (by rfl) (.tmp 108) (.tmp 113) 48 54 (.pointer none) 1 8 rfl Try.underlying48 info54 rfl (by decide) (by decide) (.slice A0 xs.length c0) xs.length (xs.map ptrV) [.pointer (some ⟨x, 0, none⟩)] rfl rfl rfl (by intro u hu; simp at hu; subst hu; rfl) hT7.row ((Below.refl _ _).mono hT7.hBw) hT7.hBw (by omega) ?_
    intro v9 w9 hown9 _ hg9 hat9
    obtain ⟨A9, c9, rfl⟩ := own_slice hown9
    have hx9 := blk_grown hT7.blk hg9 (own_ne hT7.row hT7.blk (by decide))
    have hi9 := blk_grown hi7 hg9 (own_ne hT7.row hi7 (by decide))
    have hp9 := blk_grown hp7 hg9 (own_ne hT7.row hp7 (by decide))
    have hr9 := blk_grown hr7 hg9 (own_ne hT7.row hr7 (by decide))
    refine hK.out _ _ ⟨hx9, hi9⟩ (fun hHeld => ?_)
    clear hK K
    refine norm_ (a' := ?_) ?_ ?_
    rotate_left
    · show Act.put _ (some 114) _ = _
      simp only [Act.put, List.setIfInBounds_toArray, List.set_cons_zero, List.set_cons_succ, i64_w, i32_w]
      rfl
    refine pure_ (i := 11) (N := some 115) (v := ?_) (a' := ?_) #[true, true, true, true, true, true, true, true, true, true, true, true, false, false] rfl rfl (by kernel_rfl) (fun _ _ _ h => h) (Or.inl ⟨by rfl, ?_⟩) ?_ ?_
    rotate_left
    · intro w'
      go_simp
      with_reducible rfl
    rotate_left
    · simp only [Act.put, List.setIfInBounds_toArray, List.set_cons_zero, List.set_cons_succ, i64_w, i32_w]
      rfl
    refine pure_ (i := 12) (N := some 116) (v := ?_) (a' := ?_) #[true, true, true, true, true, true, true, true, true, true, true, true, true, false] rfl rfl (by kernel_rfl) (fun _ _ _ h => h) (Or.inl ⟨by rfl, ?_⟩) ?_ ?_
    rotate_left
    · intro w'
      go_simp
      with_reducible rfl
    rotate_left
    · simp only [Act.put, List.setIfInBounds_toArray, List.set_cons_zero, List.set_cons_succ, i64_w, i32_w]
      rfl
    refine last_ (i := 13) (N := none) #[true, true, true, true, true, true, true, true, true, true, true, true, true, true] rfl rfl (by kernel_rfl) (by decide) (fun K hK => ?_)
    refine part_step (by rfl) 48 (.tmp 116) (.tmp 114) rfl (.slice A9 (xs.length + 1) c9) #[.slice A9 (xs.length + 1) c9] rfl rfl rfl hx9 size1_48 rfl (one_sl _ _ _) #[.int .i64 room, .int .i64 age, .int .i64 now, .slice A9 (xs.length + 1) c9] rfl ?_
    intro w10 hx10 hg10
    refine hK.out _ _ ?_
    clear hK K
    refine norm_ (a' := ?_) ?_ ?_
    rotate_left
    · show Act.put _ (none) _ = _
      simp only [Act.put, List.setIfInBounds_toArray, List.set_cons_zero, List.set_cons_succ, i64_w, i32_w]
      rfl
    refine done_ (by kernel_rfl) ?_
    have hEx : EntAt w7 B x ⟨src, dst, proto, id, now, zeroPk, false, [], 0, -1⟩ := ⟨by have := hT7.hBw; have := hT.hBw; have := hT1.hBw; omega, .slice none 0 0, hbox, own_nil _ _ _ _⟩
    have hT10 := hT7.snoc hEx hnew (by rw [List.map_append]; exact hown9) hg9 hx10 hg10
    have hp10 := blk_grown hp9 hg10 (fun e => blk_ne hx9 hp9 (by decide) (Option.some.inj e).symm)
    have hr10 := blk_grown hr9 hg10 (fun e => blk_ne hx9 hr9 (by decide) (Option.some.inj e).symm)
    have ho10 := (ho7.grown hg9 (fun k hk => .inl (.inr (.inl hk.symm)))).grown hg10 (fun k hk => .inl (.inl (Option.some.inj hk).symm))
    go_wp2
    have hlx : (xs ++ [x]).length = xs.length + 1 := by simp
    obtain ⟨gr, cr, hv, _, hgrl, hrd⟩ := ptr_read hT10.row (by omega)
    have hrx := hrd xs.length (by omega)
    have hxe : (xs ++ [x])[xs.length]'(by omega) = x := by simp
    rw [hxe] at hrx
    obtain ⟨rfl, rfl⟩ : A9 = some ⟨gr, 0, none⟩ ∧ c9 = cr := by simpa using hv
    have hEx10 : EntAt w10 B x ⟨src, dst, proto, id, now, zeroPk, false, [], 0, -1⟩ := by have h := hT10.ents.2 xs.length (by omega) (by simp [hT.ents.1]); simpa [hT.ents.1] using h
    clear hrd hv hxe hlx
    refine start_ (n := 9) (S := fun w' => w'.heap[g]? = some (.cells #[.int .i64 room, .int .i64 age, .int .i64 now, .slice (some ⟨gr, 0, none⟩) (xs.length + 1) c9] 50 (0, 0)) ∧ w'.heap[w.heap.size]? = some (.cells #[.int .u32 src, .int .u32 dst, .int .i64 proto, .int .i64 ttl, .int .i64 id, .int .i64 off, .bool more, .bool whole, .string body] 32 (0, 0)) ∧ w'.cell? ⟨gr, xs.length, none⟩ = some (.pointer (some ⟨x, 0, none⟩))) (ds := [8]) #[false, false, false, false, false, false, false, false, false] (by kernel_rfl) rfl rfl ⟨blk_drew hx10, blk_drew hp10, hrx⟩ (fun hHeld => ?_)
    have hT11 := hT10.below (Below.refl _ _).drew
    have hEx11 := hEx10.below (Below.refl _ _).drew
    have hr11 := blk_drew hr10
    have hp11 := blk_drew hp10
    have ho11 := ho10.drew
    clear hT10 hEx10 hr10 hp10 ho10 hrx
    generalize w10.drew = W11 at hHeld hT11 hEx11 hr11 hp11 ho11 ⊢
    refine pure_ (i := 0) (N := some 117) (v := ?_) (a' := ?_) #[true, false, false, false, false, false, false, false, false] rfl rfl (by kernel_rfl) (fun _ _ _ h => h) (Or.inl ⟨by rfl, ?_⟩) ?_ ?_
    rotate_left
    · intro w'
      go_simp
      with_reducible rfl
    rotate_left
    · simp only [Act.put, List.setIfInBounds_toArray, List.set_cons_zero, List.set_cons_succ, i64_w, i32_w]
      rfl
    refine pure_ (i := 1) (N := some 118) (v := ?_) (a' := ?_) #[true, true, false, false, false, false, false, false, false] rfl rfl (by kernel_rfl) (fun _ _ _ h => h) (Or.inl ⟨by rfl, ?_⟩) ?_ ?_
    rotate_left
    · intro w'
      go_simp
      with_reducible rfl
    rotate_left
    · simp only [Act.put, List.setIfInBounds_toArray, List.set_cons_zero, List.set_cons_succ, i64_w, i32_w]
      rfl
    refine pure_ (i := 2) (N := some 119) (v := ?_) (a' := ?_) #[true, true, true, false, false, false, false, false, false] rfl rfl (by kernel_rfl) (fun _ _ _ h => h) (Or.inl ⟨by rfl, ?_⟩) ?_ ?_
    rotate_left
    · intro w'
      go_simp
      with_reducible rfl
    rotate_left
    · simp only [Act.put, List.setIfInBounds_toArray, List.set_cons_zero, List.set_cons_succ, i64_w, i32_w]
      rfl
    refine take_ (i := 3) (N := some 120) (v := ?_) (a' := ?_) #[true, true, true, true, false, false, false, false, false] rfl rfl (by kernel_rfl) (fun _ _ _ h => h) (Or.inl ⟨by rfl, ?_⟩) hHeld ?_ ?_
    rotate_left
    · rintro w' ⟨s0, s1, s2⟩
      have k3 : w'.cell? ⟨g, 3, none⟩ = some (.slice (some ⟨gr, 0, none⟩) (xs.length + 1) c9) := (blk_cell s0 3).trans rfl
      go_simp
      with_reducible rfl
    rotate_left
    · simp only [Act.put, List.setIfInBounds_toArray, List.set_cons_zero, List.set_cons_succ, i64_w, i32_w]
      rfl
    refine pure_ (i := 4) (N := some 121) (v := ?_) (a' := ?_) #[true, true, true, true, true, false, false, false, false] rfl rfl (by kernel_rfl) (fun _ _ _ h => h) (Or.inl ⟨by rfl, ?_⟩) ?_ ?_
    rotate_left
    · intro w'
      go_simp
      with_reducible rfl
    rotate_left
    · simp only [Act.put, List.setIfInBounds_toArray, List.set_cons_zero, List.set_cons_succ, i64_w, i32_w]
      rfl
    refine pure_ (i := 5) (N := some 122) (v := ?_) (a' := ?_) #[true, true, true, true, true, true, false, false, false] rfl rfl (by kernel_rfl) (fun _ _ _ h => h) (Or.inl ⟨by rfl, ?_⟩) ?_ ?_
    rotate_left
    · intro w'
      go_simp
      rw [if_pos (by omega)]
    rotate_left
    · simp only [Act.put, List.setIfInBounds_toArray, List.set_cons_zero, List.set_cons_succ, i64_w, i32_w]
      rfl
    refine take_ (i := 6) (N := some 123) (v := ?_) (a' := ?_) #[true, true, true, true, true, true, true, false, false] rfl rfl (by kernel_rfl) (fun _ _ _ h => h) (Or.inl ⟨by rfl, ?_⟩) hHeld ?_ ?_
    rotate_left
    · rintro w' ⟨s0, s1, s2⟩
      go_simp
      with_reducible rfl
    rotate_left
    · simp only [Act.put, List.setIfInBounds_toArray, List.set_cons_zero, List.set_cons_succ, i64_w, i32_w]
      rfl
    refine take_ (i := 7) (N := some 124) (v := ?_) (a' := ?_) #[true, true, true, true, true, true, true, true, false] rfl rfl (by kernel_rfl) (fun _ _ _ h => h) (Or.inl ⟨by rfl, ?_⟩) hHeld ?_ ?_
    rotate_left
    · rintro w' ⟨s0, s1, s2⟩
      obtain ⟨q0, q1, q2, q3, q4, q5, q6, q7, q8⟩ := pk_cells' s1
      go_simp
      with_reducible rfl
    rotate_left
    · simp only [Act.put, List.setIfInBounds_toArray, List.set_cons_zero, List.set_cons_succ, i64_w, i32_w]
      rfl
    refine last_ (i := 8) (N := some 125) #[true, true, true, true, true, true, true, true, true] rfl rfl (by kernel_rfl) (by decide) (fun K hK => ?_)
    refine call_ 25 #[.pointer (some ⟨x, 0, none⟩), .agg #[.int .u32 src, .int .u32 dst, .int .i64 proto, .int .i64 ttl, .int .i64 id, .int .i64 off, .bool more, .bool whole, .string body]] (by rfl) rfl (by go_simp) ?_
    refine (add_calls B x ⟨src, dst, proto, id, now, zeroPk, false, [], 0, -1⟩ ⟨src, dst, proto, ttl, id, off, more, whole, body⟩ hx (fun y hy => by cases hy) (by simp) W11 hEx11 hT11.hBw).mono ?_
    rintro e w12 ⟨rfl, hE12, ho12⟩
    refine ⟨_, rfl, hK.out _ _ ?_⟩
    clear hK K
    refine norm_ (a' := ?_) ?_ ?_
    rotate_left
    · show Act.put _ (some 125) _ = _
      simp only [Act.put, List.setIfInBounds_toArray, List.set_cons_zero, List.set_cons_succ, i64_w, i32_w]
      rfl
    refine done_ (by kernel_rfl) ?_
    have hxe2 : (xs ++ [x])[xs.length]'(by simp) = x := by simp
    have hT12 := hT11.upd (i := xs.length) (by simp) (by rw [hxe2]; exact hE12) (by rw [hxe2]; exact ho12)
    have hr12 := ho12.blk hr11 (fun e => blk_ne hr11 (hEx11.2.choose_spec.1) (by decide) e)
    have hwo : w.heap.size ≤ x := by have := ho7.size; omega
    have ho12' := ho11.then_ ho12 (fun k hk => .inr (by subst hk; exact hwo))
    obtain ⟨gr2, cr2, hv2, _, hgrl2, hrd2⟩ := ptr_read hT12.row (by simp)
    obtain ⟨rfl, rfl⟩ : gr = gr2 ∧ c9 = cr2 := by simpa using hv2
    have hrx2 := hrd2 xs.length (by simp)
    rw [hxe2] at hrx2
    have hrx3 : w12.cell? ⟨gr, xs.length, none⟩ = some (.pointer (some ⟨x, 0, none⟩)) := hrx2
    have hg12 : w12.cell? ⟨g, 3, none⟩ = some (.slice (some ⟨gr, 0, none⟩) (xs.length + 1) c9) := (blk_cell hT12.blk 3).trans rfl
    have hgl12 := blk_lt hT12.blk
    have hwh : Calls Try.prog 26 #[.pointer (some ⟨x, 0, none⟩)] w12 fun r w' => r = .returned (.tuple #[.agg #[.int .u32 0, .int .u32 0, .int .i64 0, .int .i64 0, .int .i64 0, .int .i64 0, .bool false, .bool false, .string ⟨#[]⟩], .bool false]) ∧ Below w12.heap.size w12 w' := by
      have h := whole_calls B x _ (by intro y hy; simp only [Ent.add, ins] at hy; split at hy; (cases hy); (simp at hy; subst hy; exact hx)) (by simp only [Ent.add, ins]; split <;> simp) w12 hE12
      unfold Ent.wholeV at h
      rw [new_not_joined _ _ _ _ _ _ _ _ _ _ hfr hx.1] at h
      exact h
    have hlti : (xs.length : Int) < (xs.length : Int) + 1 := by omega
    clear hxe2 hrd2 hv2 hrx2
    go_wp2_with (first | (go_at_call 26; refine hwh.mono ?_; rintro e w13 ⟨rfl, hb13⟩; have hT13 := (hT12.below hb13).alloc (.cells #[.int .u32 0, .int .u32 0, .int .i64 0, .int .i64 0, .int .i64 0, .int .i64 0, .bool false, .bool false, .string ⟨#[]⟩] 32 (0, 0)); have hr13 := blk_alloc (blk_below hr12 hb13) (.cells #[.int .u32 0, .int .u32 0, .int .i64 0, .int .i64 0, .int .i64 0, .int .i64 0, .bool false, .bool false, .string ⟨#[]⟩] 32 (0, 0)); have ho13 := (ho12'.below1 hb13).alloc (.cells #[.int .u32 0, .int .u32 0, .int .i64 0, .int .i64 0, .int .i64 0, .int .i64 0, .bool false, .bool false, .string ⟨#[]⟩] 32 (0, 0))) | (refine gate_ (.store 32 (.tmp 6) (.tmp 149)) rfl ?_; refine wpList_store_part rfl 32 (.tmp 6) (.tmp 149) rfl rfl (packV zeroPk) #[.int .u32 0, .int .u32 0, .int .i64 0, .int .i64 0, .int .i64 0, .int .i64 0, .bool false, .bool false, .string ⟨#[]⟩] rfl rfl rfl hr13 sizeP rfl (pk_one _ _ _ _ _ _ _ _ _) _ rfl ?_))
    intro W5 hr5 hg5
    obtain ⟨hc0, hc1, hc2, hc3, hc4, hc5, hc6, hc7, hc8⟩ := pk_cells' hr5
    go_wp2
    refine bodyPost_ret (v := .tuple #[packV zeroPk, .bool false, .int .i64 0]) ?_ rfl ⟨rfl, .slice (some ⟨gr, 0, none⟩) (xs.length + 1) c9, x, ?_, ho13.grown hg5 (fun k hk => .inr (by have := Option.some.inj hk; omega))⟩
    · simp [results, Try.results10, go_sem, packV, zeroPk, hc0, hc1, hc2, hc3, hc4, hc5, hc6, hc7, hc8]
    · have h := hT13.far hg5 hr13
      have hset : (E ++ [(⟨src, dst, proto, id, now, zeroPk, false, [], 0, -1⟩ : Ent)]).set xs.length ((⟨src, dst, proto, id, now, zeroPk, false, [], 0, -1⟩ : Ent).add ⟨src, dst, proto, ttl, id, off, more, whole, body⟩) = E ++ [(⟨src, dst, proto, id, now, zeroPk, false, [], 0, -1⟩ : Ent).add ⟨src, dst, proto, ttl, id, off, more, whole, body⟩] := by rw [hT.ents.1]; simp
      rw [hset] at h
      exact h

  clear HK4
  obtain ⟨_, _, _, _, _, hd5, hd6, _, _⟩ := pk_cells' hp1
  by_cases hoff : off = 0
  · obtain rfl : more = true := hfr.resolve_left (fun h => h hoff)
    subst hoff
    go_wp2
    exact hmid _ _ _ _ _ _ _ _ _ _ _ _ _ _ _ _ _ _ _
  · have hob : (off == 0) = false := beq_eq_false_iff_ne.mpr hoff
    go_wp2
    exact hmid _ _ _ _ _ _ _ _ _ _ _ _ _ _ _ _ _ _ _

end Go.Proofs.Ytlhfkkionaemhaa.H
