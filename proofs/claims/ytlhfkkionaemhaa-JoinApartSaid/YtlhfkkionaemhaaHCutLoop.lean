/- The walk of cut.Cut: the pieces that it returns. Conditions: the packet is a valid one and the limit is in its range. -/
import Derived.RegionTactic
import Derived.ChangeAlike
import Derived.BigRegion
import Derived.IntWalk
import Derived.Test.YtlhfkkionaemhaaHCut
namespace Go.Proofs.Ytlhfkkionaemhaa.H
set_option linter.unusedSimpArgs false
set_option linter.unusedVariables false
open Go Go.RowKit Go.Proofs.YtlhfkkionaemhaaW.PrintWords Go.Proofs.YtlhfkkionaemhaaW.PrintLast Go.Proofs.YtlhfkkionaemhaaW.PrintMore Go.Proofs.Ytlhfkkionaemhaa.Plain

/-! ### the pieces -/
/-- The pieces of a body: the place, whether more come, the bytes. lim: how many bytes a piece may have. d: rounds enough. -/
def pieces (lim : Nat) (more : Bool) : Nat → Int → ByteArray → List (Int × Bool × ByteArray)
  | 0, off, b => [(off, more, b)]
  | d + 1, off, b => if b.size ≤ lim then [(off, more, b)] else (off, true, b.extract 0 (lim / 8 * 8)) :: pieces lim more d (off + (lim / 8 * 8 : Nat)) (b.extract (lim / 8 * 8) b.size)
/-- A piece's cells. -/
def pcells (a0 a1 a2 a3 a4 : Int) (a7 : Bool) (x : Int × Bool × ByteArray) : List Value := [.int .u32 a0, .int .u32 a1, .int .i64 a2, .int .i64 a3, .int .i64 a4, .int .i64 x.1, .bool x.2.1, .bool a7, .string x.2.2]
theorem pcells_length (a0 a1 a2 a3 a4 : Int) (a7 : Bool) (l : List (Int × Bool × ByteArray)) : (l.flatMap (pcells a0 a1 a2 a3 a4 a7)).length = l.length * 9 := by
  induction l with
  | nil => rfl
  | cons x l ih => rw [List.flatMap_cons, List.length_append, ih, List.length_cons]; simp [pcells]; omega

theorem pcells_one (a0 a1 a2 a3 a4 : Int) (a7 : Bool) (x : Int × Bool × ByteArray) : ∀ u ∈ pcells a0 a1 a2 a3 a4 a7 x, u.oneCell' = true := by
  intro u hu
  simp only [pcells, List.mem_cons, List.not_mem_nil, or_false] at hu
  rcases hu with rfl | rfl | rfl | rfl | rfl | rfl | rfl | rfl | rfl <;> rfl
/-- The cells of a new block. -/
theorem news_cells (W : World) (g : Nat) (hg : g = W.heap.size) (cs : Array Value) (t : TypeId) (l : List Value) (hl : cs.toList = l) : ∀ j u, l[j]? = some u → (W.alloc (.cells cs t (0, 0))).cell? ((⟨g, 0, none⟩ : Addr).add j) = some u := by
  intro j u h
  subst hl
  subst hg
  have := blk_cell (blk_new W (.cells cs t (0, 0))) j
  rw [show ((⟨W.heap.size, 0, none⟩ : Addr).add j) = ⟨W.heap.size, j, none⟩ by simp [Addr.add] <;> omega]
  rw [this]
  simpa using h
/-- A row, behind a store into an elder block. -/
theorem own_far {W : World} {base : Nat} {e : TypeId} {size n : Nat} {v : Value} {xs : List Value} (h : W.ownsRow base e size v n xs) {p : Addr} (hp : p.block < base) (u : Value) : (W.setCell p u).ownsRow base e size v n xs := by
  obtain ⟨hl, h⟩ := h
  refine ⟨hl, ?_⟩
  rcases h with h | ⟨g, cap, cur, hv, hg, hh, h1, h2, h3, h4⟩
  · exact .inl h
  · exact .inr ⟨g, cap, cur, hv, hg, (Below.heap_setCell W p u g (by omega)).trans hh, h1, h2, h3, h4⟩
theorem flat_snoc {α β : Type} (f : α → List β) (l : List α) (x : α) : l.flatMap f ++ f x = (l ++ [x]).flatMap f := by simp

theorem ownBlock_le {W : World} {base : Nat} {e : TypeId} {size n : Nat} {v : Value} {xs : List Value} (h : W.ownsRow base e size v n xs) {k : Nat} (hk : v.ownBlock = some k) : base ≤ k := by
  obtain ⟨_, h⟩ := h
  rcases h with ⟨rfl, _⟩ | ⟨g, cap, cur, rfl, hg, _⟩
  · cases hk
  · cases hk; exact hg

theorem info32 : (Try.prog.info? 32).map (fun i => (i.zero, i.size, i.bytes)) = some (some (.agg #[(.int .u32 0), (.int .u32 0), (.int .i64 0), (.int .i64 0), (.int .i64 0), (.int .i64 0), (.bool false), (.bool false), (.string ⟨#[]⟩)]), 9, 64) := by kernel_rfl

set_option maxHeartbeats 4000000 in
set_option maxRecDepth 100000 in
theorem cut_calls (a0 a1 a2 a3 a4 a5 : Int) (a6 a7 : Bool) (a8 : ByteArray) (n : Int) (hv : wrongv a2 a3 a4 a5 a6 a7 a8.size n = 0) (hn : 28 ≤ n) (hn' : n ≤ 1520) (hs : a8.size ≤ 1500) (h5 : 0 ≤ a5) (h5' : a5 ≤ 65528) (w : World) :
    Calls Try.prog 16 #[.agg #[.int .u32 a0, .int .u32 a1, .int .i64 a2, .int .i64 a3, .int .i64 a4, .int .i64 a5, .bool a6, .bool a7, .string a8], .int .i64 n] w fun e w' =>
      ∃ v, e = .returned (.tuple #[v, .int .i64 0]) ∧ w'.ownsRow (w.heap.size + 1) 32 9 v (pieces (n - 20).toNat a6 a8.size a5 a8).length ((pieces (n - 20).toNat a6 a8.size a5 a8).flatMap (pcells a0 a1 a2 a3 a4 a7)) ∧ Below w.heap.size w w' := by
  obtain ⟨lim, rfl⟩ : ∃ lim : Nat, n = (lim : Int) + 20 := ⟨(n - 20).toNat, by omega⟩
  rw [show ((lim : Int) + 20 - 20).toNat = lim by omega]
  have hwr := fun W => wrong_calls a0 a1 a2 a3 a4 a5 a6 a7 a8 ((lim : Int) + 20) (by omega) W
  rw [hv] at hwr
  clear hv
  obtain ⟨i0, hi, hz0, hz1, hz2⟩ := info_parts info32
  go_enter Try.func16, Try.ntmps16
  go_wp2_with (go_at_call 31; refine (hwr _).mono ?_; rintro e w1 ⟨rfl, hb⟩; obtain ⟨hc, hf⟩ := bcell hb)
  have hbx : w1.heap[w.heap.size]? = some (.cells #[.int .u32 a0, .int .u32 a1, .int .i64 a2, .int .i64 a3, .int .i64 a4, .int .i64 a5, .bool a6, .bool a7, .string a8] 32 (0, 0)) := blk_below (blk_new w _) hb
  have hbw : Below w.heap.size w w1 := ((Below.refl _ _).alloc (Nat.le_refl _) _).trans (hb.mono (by simp))
  clear hc hf hb
  go_loopg [7] a8.size (fun d v wr => ∃ (done : List (Int × Bool × ByteArray)) (off : Int) (b : ByteArray), b.size ≤ d ∧ done.length + d ≤ 1500 ∧ 0 ≤ off ∧ off + b.size ≤ 67028 ∧ Hid (done ++ pieces lim a6 d off b = pieces lim a6 a8.size a5 a8) ∧
    wr.ownsRow (w.heap.size + 1) 32 9 v done.length (done.flatMap (pcells a0 a1 a2 a3 a4 a7)) ∧ wr.heap[w.heap.size]? = some (.cells #[.int .u32 a0, .int .u32 a1, .int .i64 a2, .int .i64 a3, .int .i64 a4, .int .i64 off, .bool a6, .bool a7, .string b] 32 (0, 0)) ∧ Below w.heap.size w wr)
  case atStart => exact ⟨[], a5, a8, Nat.le_refl _, by simpa using hs, h5, by omega, rfl, ⟨rfl, .inl ⟨rfl, rfl⟩⟩, hbx, hbw⟩
  case round =>
    clear hbx hbw hwr
    obtain ⟨done, off, b, hbd, hdl, ho0, ho1, HP, hown, hbx, hbw⟩ := hrel
    obtain ⟨hc0, hc1, hc2, hc3, hc4, hc5, hc6, hc7, hc8⟩ := pk_cells hbx
    have hfz : ∀ j, wr.frozen? ⟨w.heap.size, j, none⟩ = false := fun j => blk_frozen hbx j
    have hwz : w.heap.size < wr.heap.size := blk_lt hbx
    by_cases hbl : b.size ≤ lim
    · go_wp2_with (at_builtin; refine wpList_append_own _ rfl (.tmp 47) (.tmp 49) 22 rfl (w.heap.size + 1) 32 i0 _ 9 64 Try.underlying22 hi hz0 hz1 hz2 rfl (by decide) _ _ _ rfl (hown.alloc _) ⟨wr.heap.size, 0, none⟩ 1 1 (pcells a0 a1 a2 a3 a4 a7 (off, a6, b)) rfl rfl ?c1 ?c2 ?c3 ?c4 ?c5 ?_)
      case c1 => exact news_cells _ _ rfl _ _ _ rfl
      case c2 => exact pcells_one _ _ _ _ _ _ _
      case c3 => unfold maxLen; omega
      case c4 => omega
      case c5 => simp; omega
      intro v' W' hown' hg _
      have hbel : Below w.heap.size w W' := (hbw.alloc (by omega) _).grown hg (by simp; omega) (fun k hk => by have := ownBlock_le hown hk; omega)
      rw [flat_snoc] at hown'
      have hP : done ++ [(off, a6, b)] = pieces lim a6 a8.size a5 a8 := by
        have h := HP.out
        rw [← h]
        congr 1
        cases gk <;> simp [pieces, hbl]
      have HP2 := Lib.hid hP
      clear hP HP hown hg
      go_wp2
      go_ret2
      rw [← HP2.out]
      exact ⟨_, rfl, by simpa using hown', hbel⟩
    · obtain ⟨d, rfl⟩ : ∃ d, gk = d + 1 := ⟨gk - 1, by omega⟩
      have hm0 : (0 : Int) ≤ ((lim : Int) + 20 - 20) / 8 * 8 := by omega
      have hm1 : ((lim : Int) + 20 - 20) / 8 * 8 ≤ b.size := by omega
      go_wp2_with (at_builtin; refine wpList_append_own _ rfl (.tmp 33) (.tmp 35) 22 rfl (w.heap.size + 1) 32 i0 _ 9 64 Try.underlying22 hi hz0 hz1 hz2 rfl (by decide) _ _ _ rfl ((hown.alloc _).alloc _) ⟨wr.heap.size + 1, 0, none⟩ 1 1 (pcells a0 a1 a2 a3 a4 a7 (off, true, b.extract 0 (lim / 8 * 8))) rfl rfl ?c1 ?c2 ?c3 ?c4 ?c5 ?_)
      case c1 => exact news_cells _ _ (by simp) _ _ _ rfl
      case c2 => exact pcells_one _ _ _ _ _ _ _
      case c3 => unfold maxLen; omega
      case c4 => omega
      case c5 => simp; omega
      intro v' W' hown' hg _
      have hbel : Below w.heap.size w W' := ((hbw.alloc (by omega) _).alloc (by simp; omega) _).grown hg (by simp; omega) (fun k hk => by have := ownBlock_le hown hk; omega)
      have hbx' := blk_grown (blk_alloc (blk_alloc hbx _) _) hg (fun e => by have := ownBlock_le hown e.symm; omega)
      clear hc0 hc1 hc2 hc3 hc4 hc5 hc6 hc7 hc8 hfz hbx hown hg hbw
      obtain ⟨hc0, hc1, hc2, hc3, hc4, hc5, hc6, hc7, hc8⟩ := pk_cells hbx'
      have hfz : ∀ j, W'.frozen? ⟨w.heap.size, j, none⟩ = false := fun j => blk_frozen hbx' j
      rw [flat_snoc] at hown'
      go_wp2
      clear hc0 hc1 hc2 hc3 hc4 hc6 hc7 hm0 hm1
      have e1 : (0 : Int) ≤ (lim : Int) / 8 * 8 := by omega
      have e2 : (lim : Int) / 8 * 8 ≤ b.size := by omega
      have e3 : ((lim : Int) / 8 * 8).toNat = lim / 8 * 8 := by omega
      have e4 : IntKind.i64.wrap (off + (lim : Int) / 8 * 8) = off + (lim : Int) / 8 * 8 := IntWalk.i64_in _ (by omega)
      go_region
      go_wp2
      go_roundg d
      case measure => omega
      case rel =>
        have hP : (done ++ [(off, true, b.extract 0 (lim / 8 * 8))]) ++ pieces lim a6 d (off + (lim / 8 * 8 : Nat)) (b.extract (lim / 8 * 8) b.size) = pieces lim a6 a8.size a5 a8 := by
          have h := HP.out
          rw [← h]
          simp [pieces, hbl]
        have hz := size_ext b (lim / 8 * 8) b.size
        refine ⟨done ++ [(off, true, b.extract 0 (lim / 8 * 8))], off + (lim / 8 * 8 : Nat), b.extract (lim / 8 * 8) b.size, by omega, by simp; omega, by omega, by omega, hP, ?_, ?_, ?_⟩
        · rw [List.length_append]
          exact own_far (own_far hown' (by simp) _) (by simp) _
        · have hx := blk_put (blk_put hbx' 8 (.string (b.extract (lim / 8 * 8) b.size)) rfl) 5 (.int .i64 (off + (lim : Int) / 8 * 8)) rfl
          exact hx
        · exact ((hbel.setCell (Nat.le_refl _) _).setCell (Nat.le_refl _) _).drew
end Go.Proofs.Ytlhfkkionaemhaa.H
