/- join: the walk of entry.add. Conditions: sizes. -/
import Derived.Test.YtlhfkkionaemhaaHJoinBase
import Derived.RegionTactic
import Derived.ChangeAlike
import Derived.BigRegion
import Derived.Deep.QuietTactic
import Derived.BigQuiet
import Derived.IntWalk
namespace Go.Proofs.Ytlhfkkionaemhaa.H
set_option linter.unusedSimpArgs false
set_option linter.unusedVariables false
open Go Go.RowKit Go.Maps Go.Proofs.YtlhfkkionaemhaaW.PrintWords Go.Proofs.YtlhfkkionaemhaaW.PrintLast Go.Proofs.YtlhfkkionaemhaaW.PrintMore Go.Proofs.Ytlhfkkionaemhaa.Plain
attribute [local go_sem] max2_mx min2_mn max_two min_two

theorem flat_get {α β : Type} (f : α → List β) (s : Nat) (hf : ∀ x, (f x).length = s) : ∀ (l : List α) (i : Nat) (hi : i < l.length) (j : Nat), j < s → (l.flatMap f)[i * s + j]? = (f l[i])[j]?
  | [], i, hi, j, hj => absurd hi (by simp)
  | x :: l, 0, hi, j, hj => by
    rw [List.flatMap_cons, Nat.zero_mul, Nat.zero_add, List.getElem?_append_left (by rw [hf]; exact hj)]
    rfl
  | x :: l, i + 1, hi, j, hj => by
    rw [List.flatMap_cons, List.getElem?_append_right (by rw [hf, Nat.succ_mul]; omega), hf, show (i + 1) * s + j - s = i * s + j by rw [Nat.succ_mul]; omega]
    exact flat_get f s hf l i (by simpa using hi) j hj
/-- A piece of a row of pieces, read. -/
theorem pcs_read {W : World} {base : Nat} {v : Value} {l : List (Int × ByteArray)} (h : W.ownsRow base 71 2 v l.length (l.flatMap pieceCells)) (hl : 0 < l.length) :
    ∃ g cap, v = .slice (some ⟨g, 0, none⟩) l.length cap ∧ base ≤ g ∧ g < W.heap.size ∧ ∀ i (hi : i < l.length), W.cell? ⟨g, i * 2, none⟩ = some (.int .i64 l[i].1) ∧ W.cell? ⟨g, i * 2 + 1, none⟩ = some (.string l[i].2) := by
  obtain ⟨hlen, h⟩ := h
  rcases h with ⟨rfl, h⟩ | ⟨g, cap, cur, rfl, hg, hh, h1, h2, h3, h4⟩
  · omega
  · have key : ∀ i (hi : i < l.length), ∀ j u, j < 2 → (pieceCells l[i])[j]? = some u → W.cell? ⟨g, i * 2 + j, none⟩ = some u := fun i hi j u hj hu => by
      rw [blk_cell hh, ← hu, ← flat_get pieceCells 2 (fun _ => rfl) l i hi j hj, ← h4, List.getElem?_take_of_lt (by omega)]
      simp
    exact ⟨g, cap, rfl, hg, blk_lt hh, fun i hi => ⟨key i hi 0 _ (by omega) rfl, key i hi 1 _ (by omega) rfl⟩⟩

/-- What is behind a piece. -/
def insT (at_ : Int) (left : ByteArray) (e : Int) (ps : List (Int × ByteArray)) : List (Int × ByteArray) :=
  if 0 < mn (left.size : Int) (e - at_) then ins (at_ + mn (left.size : Int) (e - at_)) (left.extract (mn (left.size : Int) (e - at_)).toNat left.size) ps else ins at_ left ps
theorem ins_yes {at_ : Int} {left : ByteArray} {yf : Int} {ys : ByteArray} {ps : List (Int × ByteArray)} {n : Int} (hn : mn (left.size : Int) (yf - at_) = n) (c : 0 < n) :
    ins at_ left ((yf, ys) :: ps) = [(at_, left.extract 0 n.toNat)] ++ (yf, ys) :: insT (at_ + n) (left.extract n.toNat left.size) (yf + ys.size) ps := by
  subst hn
  simp only [ins, insT, if_pos c]
  split <;> rfl
theorem ins_no {at_ : Int} {left : ByteArray} {yf : Int} {ys : ByteArray} {ps : List (Int × ByteArray)} {n : Int} (hn : mn (left.size : Int) (yf - at_) = n) (c : ¬ 0 < n) :
    ins at_ left ((yf, ys) :: ps) = (yf, ys) :: insT at_ left (yf + ys.size) ps := by
  subst hn
  simp only [ins, insT, if_neg c, List.nil_append]
  split <;> rfl
theorem insT_yes {at_ : Int} {left : ByteArray} {e : Int} {ps : List (Int × ByteArray)} {m : Int} (hm : mn (left.size : Int) (e - at_) = m) (c : 0 < m) :
    insT at_ left e ps = ins (at_ + m) (left.extract m.toNat left.size) ps := by
  subst hm
  exact if_pos c
theorem insT_no {at_ : Int} {left : ByteArray} {e : Int} {ps : List (Int × ByteArray)} {m : Int} (hm : mn (left.size : Int) (e - at_) = m) (c : ¬ 0 < m) :
    insT at_ left e ps = ins at_ left ps := by
  subst hm
  exact if_neg c

theorem ent_add {W : World} {B x : Nat} (e : Ent) (p : Pk) {F : Pk} {H : Bool} {M N : Int} {v : Value} {ps : List (Int × ByteArray)} (hB : B ≤ x) (HF : F = if p.off = 0 ∧ e.has = false then p else e.first) (HH : H = (e.has || decide (p.off = 0)))
    (HM : M = if p.more = true then (if e.most < p.off + p.body.size then p.off + p.body.size else e.most) else e.most) (HN : N = if p.more = true then e.end_ else p.off + p.body.size) (HP : ps = ins p.off p.body e.ps)
    (hx : W.heap[x]? = some (.cells #[.int .u32 e.src, .int .u32 e.dst, .int .i64 e.proto, .int .i64 0, .int .i64 e.id, .int .i64 0, .bool false, .bool false, .string ⟨#[]⟩, .int .i64 e.begun, .int .u32 F.src, .int .u32 F.dst, .int .i64 F.proto, .int .i64 F.ttl, .int .i64 F.id, .int .i64 F.off, .bool F.more, .bool F.whole, .string F.body, .bool H, v, .int .i64 M, .int .i64 N] 57 (0, 0)))
    (hown : W.ownsRow B 71 2 v ps.length (ps.flatMap pieceCells)) : EntAt W B x (e.add p) := by
  subst HF HH HM HN HP
  exact ⟨hB, v, hx, hown⟩

set_option maxHeartbeats 8000000 in
set_option maxRecDepth 100000 in
theorem add_calls (B x : Nat) (e : Ent) (p : Pk) (hp : 0 ≤ p.off ∧ p.off + p.body.size ≤ 1500) (hps : ∀ y ∈ e.ps, 0 ≤ y.1 ∧ y.1 + y.2.size ≤ 1500) (hl : e.ps.length ≤ 100000) (w : World) (hE : EntAt w B x e) (hBw : B ≤ w.heap.size) :
    Calls Try.prog 25 #[.pointer (some ⟨x, 0, none⟩), .agg #[.int .u32 p.src, .int .u32 p.dst, .int .i64 p.proto, .int .i64 p.ttl, .int .i64 p.id, .int .i64 p.off, .bool p.more, .bool p.whole, .string p.body]] w fun r w' => r = .returned (.tuple #[]) ∧ EntAt w' B x (e.add p) ∧ Only (fun k => k = x) w w' := by
  obtain ⟨hBx, pv, hx, hown⟩ := hE
  obtain ⟨src, dst, proto, ttl, id, off, more, whole, body⟩ := p
  obtain ⟨e0, e1, e2, e3, eb, ef, e6, e7, most, end_⟩ := e
  simp only at hx hp hps hl hown ⊢
  obtain ⟨A0, c0, rfl⟩ := own_slice hown
  have hxl := blk_lt hx
  have hx0 := Lib.hid hx
  have e4 : IntKind.i64.wrap (off + (body.size : Int)) = off + (body.size : Int) := IntWalk.i64_in _ (by omega)
  go_enter Try.func25, Try.ntmps25
  apply wp_seq_k
  intro K0 hK0
  have HK0 := Lib.hid hK0
  clear hK0
  go_wp2
  refine HK0.out _ _ ?_
  clear HK0
  apply wp_seq_k
  intro K1 hK1
  have HK1 := Lib.hid hK1
  clear hK1
  have hmid1 : ∀ (v11 v12 v13 v14 v15 v16 v17 v18 v19 v20 v21 v22 v23 v24 v25 v26 v27 : Value) (F : Pk) (H : Bool) (W : World), Hid (F = if off = 0 ∧ e6 = false then ⟨src, dst, proto, ttl, id, off, more, whole, body⟩ else ef) → Hid (H = (e6 || decide (off = 0))) → W.heap[x]? = some (.cells #[.int .u32 e0, .int .u32 e1, .int .i64 e2, .int .i64 0, .int .i64 e3, .int .i64 0, .bool false, .bool false, .string ⟨#[]⟩, .int .i64 eb, .int .u32 F.src, .int .u32 F.dst, .int .i64 F.proto, .int .i64 F.ttl, .int .i64 F.id, .int .i64 F.off, .bool F.more, .bool F.whole, .string F.body, .bool H, .slice A0 e7.length c0, .int .i64 most, .int .i64 end_] 57 (0, 0)) → W.heap[w.heap.size]? = some (.cells #[.int .u32 src, .int .u32 dst, .int .i64 proto, .int .i64 ttl, .int .i64 id, .int .i64 off, .bool more, .bool whole, .string body] 32 (0, 0)) → Only (fun k => k = x) w W → K1 { tmps := #[.pointer (some ⟨x, 0, none⟩), .agg #[.int .u32 src, .int .u32 dst, .int .i64 proto, .int .i64 ttl, .int .i64 id, .int .i64 off, .bool more, .bool whole, .string body], undef, .pointer (some ⟨w.heap.size, 0, none⟩), undef, undef, undef, undef, undef, undef, undef, v11, v12, v13, v14, v15, v16, v17, v18, v19, v20, v21, v22, v23, v24, v25, v26, v27, undef, undef, undef, undef, undef, undef, undef, undef, undef, undef, undef, undef, undef, undef, undef, undef, undef, undef, undef, undef, undef, undef, undef, undef, undef, undef, undef, undef, undef, undef, undef, undef, undef, undef, undef, undef, undef, undef, undef, undef, undef, undef, undef, undef, undef, undef, undef, undef, undef, undef, undef, undef, undef, undef, undef, undef, undef, undef, undef, undef, undef, undef, undef, undef, undef, undef, undef, undef, undef, undef, undef, undef, undef, undef, undef, undef, undef, undef, undef, undef, undef, undef, undef, undef, undef, undef, undef, undef, undef, undef, undef, undef, undef], defers := [] } W := by
    intro v11 v12 v13 v14 v15 v16 v17 v18 v19 v20 v21 v22 v23 v24 v25 v26 v27 F H W HF HH hxW hbW hoW
    clear hx
    refine HK1.out _ _ ?_
    clear HK1
    apply wp_seq_k
    intro K2 hK2
    have HK2 := Lib.hid hK2
    clear hK2
    have hmid2 : ∀ (v28 v29 v30 v31 v32 v33 v34 v35 v36 v37 v38 v39 v40 v41 v42 v43 v44 v45 v46 v47 v48 v49 v50 v51 v52 : Value) (M N : Int) (W : World), Hid (M = if more = true then (if most < off + body.size then off + body.size else most) else most) → Hid (N = if more = true then end_ else off + body.size) → W.heap[x]? = some (.cells #[.int .u32 e0, .int .u32 e1, .int .i64 e2, .int .i64 0, .int .i64 e3, .int .i64 0, .bool false, .bool false, .string ⟨#[]⟩, .int .i64 eb, .int .u32 F.src, .int .u32 F.dst, .int .i64 F.proto, .int .i64 F.ttl, .int .i64 F.id, .int .i64 F.off, .bool F.more, .bool F.whole, .string F.body, .bool H, .slice A0 e7.length c0, .int .i64 M, .int .i64 N] 57 (0, 0)) → W.heap[w.heap.size]? = some (.cells #[.int .u32 src, .int .u32 dst, .int .i64 proto, .int .i64 ttl, .int .i64 id, .int .i64 off, .bool more, .bool whole, .string body] 32 (0, 0)) → Only (fun k => k = x) w W → K2 { tmps := #[.pointer (some ⟨x, 0, none⟩), .agg #[.int .u32 src, .int .u32 dst, .int .i64 proto, .int .i64 ttl, .int .i64 id, .int .i64 off, .bool more, .bool whole, .string body], undef, .pointer (some ⟨w.heap.size, 0, none⟩), undef, undef, undef, undef, undef, undef, undef, v11, v12, v13, v14, v15, v16, v17, v18, v19, v20, v21, v22, v23, v24, v25, v26, v27, v28, v29, v30, v31, v32, v33, v34, v35, v36, v37, v38, v39, v40, v41, v42, v43, v44, v45, v46, v47, v48, v49, v50, v51, v52, undef, undef, undef, undef, undef, undef, undef, undef, undef, undef, undef, undef, undef, undef, undef, undef, undef, undef, undef, undef, undef, undef, undef, undef, undef, undef, undef, undef, undef, undef, undef, undef, undef, undef, undef, undef, undef, undef, undef, undef, undef, undef, undef, undef, undef, undef, undef, undef, undef, undef, undef, undef, undef, undef, undef, undef, undef, undef, undef, undef, undef, undef, undef, undef, undef, undef, undef, undef], defers := [] } W := by
      clear hxW hbW hoW W
      intro v28 v29 v30 v31 v32 v33 v34 v35 v36 v37 v38 v39 v40 v41 v42 v43 v44 v45 v46 v47 v48 v49 v50 v51 v52 M N W HM HN hxW hbW hoW
      refine HK2.out _ _ ?_
      clear HK2
      have hownW := hoW.own hown (fun k hk he => own_ne hown hx0.out (by decide) (by rw [hk, he]))
      clear hown
      obtain ⟨_, hc20, _, _⟩ := ent_cells hxW
      obtain ⟨_, _, _, _, _, hb5, _, _, hb8⟩ := pk_cells' hbW
      go_wp2
      go_quiet (fail)
      clear hb5 hb8 hbW
      have hxW := blk_drewN hxW nq
      have hownW := pw_own_drewN hownW nq
      have hoW := hoW.drewN nq
      generalize W.drewN nq = W1 at hxW hownW hoW ⊢
      clear hc20
      obtain ⟨_, hc20, _, _⟩ := ent_cells hxW
      go_wp2
      have hxl1 := blk_lt hxW
      have hbl := hp.2
      go_loopw [4, 5, 6, 62] (fun o a l i wr => ∃ (k : Nat) (done : List (Int × ByteArray)) (at_ : Int) (left : ByteArray), k ≤ e7.length ∧ i = .int .i64 k ∧ a = .int .i64 at_ ∧ l = .string left ∧ 0 ≤ at_ ∧ at_ + left.size ≤ 1500 ∧ done.length + left.size ≤ k + body.size ∧ Hid (done ++ ins at_ left (e7.drop k) = ins off body e7) ∧ wr.ownsRow W1.heap.size 71 2 o done.length (done.flatMap pieceCells) ∧ Below W1.heap.size W1 wr) (fun _ _ _ i _ => e7.length - (intOf i).toNat)
      case atStart => exact ⟨0, [], off, body, Nat.zero_le _, rfl, rfl, rfl, hp.1, hbl, by simp, rfl, own_nil _ _ _ _, Below.refl _ _⟩
      case round =>
        obtain ⟨k, done, at_, left, hk, rfl, rfl, rfl, h0, h1, hdl, HI, hownO, hbr⟩ := hrel
        obtain ⟨AO, cO, rfl⟩ := own_slice hownO
        by_cases hlt : k < e7.length
        · obtain ⟨g, cap, hv, hgB, hgl, hrd⟩ := pcs_read hownW (by omega)
          cases hv
          obtain ⟨hr0, hr1⟩ := hrd k hlt
          have hy := hps _ (List.getElem_mem hlt)
          have hdr := List.drop_eq_getElem_cons hlt
          have HI2 := HI.out
          rw [hdr] at HI2
          clear hrd hdr HI
          generalize e7[k] = y at hr0 hr1 hy HI2
          obtain ⟨yf, ys⟩ := y
          simp only at hr0 hr1 hy
          rw [← (hbr.cell (p := ⟨g, k * 2, none⟩) hgl)] at hr0
          rw [← (hbr.cell (p := ⟨g, k * 2 + 1, none⟩) hgl)] at hr1
          have HI := Lib.hid HI2
          clear HI2
          have ew1 : IntKind.i64.wrap (yf - at_) = yf - at_ := IntWalk.i64_in _ (by omega)
          obtain ⟨n, hn⟩ : ∃ n, mn (left.size : Int) (yf - at_) = n := ⟨_, rfl⟩
          have hn1 : n ≤ left.size := by rw [← hn, mn_eq]; split <;> omega
          have hn2 : n ≤ yf - at_ := by rw [← hn, mn_eq]; split <;> omega
          have hlO := own_lt hownO
          have hbO : ∀ k, (Value.slice AO done.length cO).ownBlock = some k → W1.heap.size ≤ k := fun k hk => ownBlock_le hownO hk
          have hwr := hbr.size
          obtain ⟨i0, hi, hz0, hz1, hz2⟩ := info_parts info71
          by_cases c1 : 0 < n
          · have ew2 : IntKind.i64.wrap (at_ + n) = at_ + n := IntWalk.i64_in _ (by omega)
            have hns : (left.extract n.toNat left.size).size = left.size - n.toNat := by rw [size_ext]; omega
            go_wp2_with (at_builtin; refine wpList_append_own_at _ rfl (.tmp 75) (.tmp 81) 55 rfl W1.heap.size 71 i0 _ 2 24 Try.underlying55 hi hz0 hz1 hz2 rfl (by decide) _ _ _ rfl ((hownO.alloc _).alloc _) ⟨wr.heap.size + 1, 0, none⟩ 1 1 (pieceCells (at_, left.extract 0 n.toNat)) rfl rfl ?c1 ?c2 ?c3 ?c4 ?c5 ?_)
            case c1 => exact news_cells _ _ (by simp) _ _ _ rfl
            case c2 => exact pieceCells_one _
            case c3 => unfold maxLen; omega
            case c4 => omega
            case c5 => simp; omega
            intro v2 W2 hown2 hg2 _ hat2
            have hb2 : Below W1.heap.size W1 W2 := ((hbr.alloc (by omega) _).alloc (by simp; omega) _).grown hg2 (by simp; omega) (fun k hk => hbO k hk)
            have hy2 := blk_grown (blk_alloc (blk_new wr _) _) hg2 (fun e => by have := hlO _ e.symm; omega)
            have hybo : v2.ownBlock ≠ some wr.heap.size := by
              rcases hat2 with e | e
              · rw [e]; exact fun e => by have := hlO _ e; omega
              · rw [e]; simp; omega
            clear hat2 hg2 hownO hbr
            obtain ⟨A2, c2, rfl⟩ := own_slice hown2
            rw [flat_snoc] at hown2
            have hz2s : wr.heap.size < W2.heap.size := blk_lt hy2
            generalize wr.heap.size = yb at hy2 hz2s hybo ⊢
            have hy20 : W2.cell? ⟨yb, 0, none⟩ = some (.int .i64 yf) := (blk_cell hy2 0).trans rfl
            have hy21 : W2.cell? ⟨yb, 1, none⟩ = some (.string ys) := (blk_cell hy2 1).trans rfl
            go_wp2
            go_quiet (fail)
            have hb3 := pw_below_drewN hb2 nq
            have hown3 := pw_own_drewN hown2 nq
            have hy3 := blk_drewN hy2 nq
            have hyb : (Value.slice A2 (done ++ [(at_, left.extract 0 n.toNat)]).length c2).ownBlock ≠ some yb := fun e => hybo (by simpa using e)
            clear hybo
            rw [show done.length + 1 = (done ++ [(at_, left.extract 0 n.toNat)]).length by simp] at hown3 ⊢
            generalize W2.drewN nq = W3 at hb3 hown3 hy3 ⊢
            clear hb2 hown2 hy2 hz2s
            have HI3 : Hid ((done ++ [(at_, left.extract 0 n.toNat)]) ++ (yf, ys) :: insT (at_ + n) (left.extract n.toNat left.size) (yf + ys.size) (e7.drop (k + 1)) = ins off body e7) := by
              have h := HI.out
              rw [ins_yes hn c1] at h
              show _ = _
              rw [← h]
              simp
            have hdl2 : (done ++ [(at_, left.extract 0 n.toNat)]).length + (left.extract n.toNat left.size).size ≤ k + body.size := by simp only [List.length_append, List.length_singleton]; omega
            have h02 : 0 ≤ at_ + n := by omega
            have h12 : at_ + n + (left.extract n.toNat left.size).size ≤ 1500 := by omega
            clear HI hn hn1 hn2 c1 ew2 ew1 hdl hlO hbO h0 h1 hwr
            generalize done ++ [(at_, left.extract 0 n.toNat)] = D at hown3 hyb HI3 hdl2 ⊢
            clear hns
            generalize left.extract n.toNat left.size = left2 at HI3 hdl2 h12 ⊢
            generalize at_ + n = at2 at HI3 h02 h12 ⊢
            clear hy20 hy21
            have hy20 : W3.cell? ⟨yb, 0, none⟩ = some (.int .i64 yf) := (blk_cell hy3 0).trans rfl
            have hy21 : W3.cell? ⟨yb, 1, none⟩ = some (.string ys) := (blk_cell hy3 1).trans rfl
            have hyl3 := blk_lt hy3
            have hl3 := own_lt hown3
            have hb3k : ∀ k, (Value.slice A2 D.length c2).ownBlock = some k → W1.heap.size ≤ k := fun k hk => ownBlock_le hown3 hk
            have hw3 := hb3.size
            obtain ⟨m, hm⟩ : ∃ m, mn (left2.size : Int) (yf + ys.size - at2) = m := ⟨_, rfl⟩
            have hm1 : m ≤ left2.size := by rw [← hm, mn_eq]; split <;> omega
            have ew3 : IntKind.i64.wrap (yf + (ys.size : Int) - at2) = yf + ys.size - at2 := IntWalk.i64_in _ (by omega)
            go_wp2_with (at_builtin; refine wpList_append_own_at _ rfl (.tmp 89) (.tmp 91) 55 rfl W1.heap.size 71 i0 _ 2 24 Try.underlying55 hi hz0 hz1 hz2 rfl (by decide) _ _ _ rfl (hown3.alloc _) ⟨W3.heap.size, 0, none⟩ 1 1 (pieceCells (yf, ys)) rfl rfl ?c1 ?c2 ?c3 ?c4 ?c5 ?_)
            case c1 => exact news_cells _ _ rfl _ _ _ rfl
            case c2 => exact pieceCells_one _
            case c3 => unfold maxLen; omega
            case c4 => omega
            case c5 => simp; omega
            intro v4 W4 hown4 hg4 _ hat4
            have hb4 : Below W1.heap.size W1 W4 := (hb3.alloc (by omega) _).grown hg4 (by simp; omega) (fun k hk => hb3k k hk)
            have hy4 := blk_grown (blk_alloc hy3 _) hg4 (fun e => by have := hl3 _ e.symm; exact hyb e.symm)
            obtain ⟨A4, c4, rfl⟩ := own_slice hown4
            rw [flat_snoc] at hown4
            clear hat4 hg4 hown3 hb3 hl3 hb3k hy3 hy20 hy21 hw3 hyl3 hyb
            have hy40 : W4.cell? ⟨yb, 0, none⟩ = some (.int .i64 yf) := (blk_cell hy4 0).trans rfl
            have hy41 : W4.cell? ⟨yb, 1, none⟩ = some (.string ys) := (blk_cell hy4 1).trans rfl
            have hyl4 := blk_lt hy4
            by_cases c2 : 0 < m
            · have ew4 : IntKind.i64.wrap (at2 + m) = at2 + m := IntWalk.i64_in _ (by omega)
              go_wp2_with (go_at_call 35; refine (to_calls _ _ (by omega) (by omega) _).mono ?_; rintro e w1 ⟨rfl, o1, rfl⟩)
              have hc : 0 ≤ m ∧ m ≤ (left2.size : Int) := ⟨by omega, by omega⟩
              go_quiet (fail)
              clear hy40 hy41
              go_wp2
              go_roundw
              case rel =>
                have hms : (left2.extract m.toNat left2.size).size = left2.size - m.toNat := by rw [size_ext]; omega
                refine ⟨k + 1, D ++ [(yf, ys)], at2 + m, left2.extract m.toNat left2.size, by omega, by go_num, rfl, rfl, by omega, by omega, ?_, ?_, ?_, ?_⟩
                · simp only [List.length_append, List.length_singleton]; omega
                · have h := HI3.out
                  rw [insT_yes hm c2] at h
                  show _ = _
                  rw [← h]
                  simp
                · rw [List.length_append]
                  exact pw_own_drewN (hown4.alloc _) _
                · exact pw_below_drewN (hb4.alloc hb4.size _) _
              case measure => simp [intOf]; omega
            · go_wp2_with (go_at_call 35; refine (to_calls _ _ (by omega) (by omega) _).mono ?_; rintro e w1 ⟨rfl, o1, rfl⟩)
              clear hy40 hy41
              go_roundw
              case rel =>
                refine ⟨k + 1, D ++ [(yf, ys)], at2, left2, by omega, by go_num, rfl, rfl, by omega, by omega, ?_, ?_, ?_, ?_⟩
                · simp only [List.length_append, List.length_singleton]; omega
                · have h := HI3.out
                  rw [insT_no hm (by omega)] at h
                  show _ = _
                  rw [← h]
                  simp
                · rw [List.length_append]
                  exact hown4.alloc _
                · exact hb4.alloc hb4.size _
              case measure => simp [intOf]; omega
          · obtain ⟨m, hm⟩ : ∃ m, mn (left.size : Int) (yf + ys.size - at_) = m := ⟨_, rfl⟩
            have hm1 : m ≤ left.size := by rw [← hm, mn_eq]; split <;> omega
            have ew3 : IntKind.i64.wrap (yf + (ys.size : Int) - at_) = yf + ys.size - at_ := IntWalk.i64_in _ (by omega)
            go_wp2_with (at_builtin; refine wpList_append_own_at _ rfl (.tmp 89) (.tmp 91) 55 rfl W1.heap.size 71 i0 _ 2 24 Try.underlying55 hi hz0 hz1 hz2 rfl (by decide) _ _ _ rfl ((hownO.alloc _).alloc _) ⟨wr.heap.size + 1, 0, none⟩ 1 1 (pieceCells (yf, ys)) rfl rfl ?c1 ?c2 ?c3 ?c4 ?c5 ?_)
            case c1 => exact fun j u h => h
            case c2 => exact pieceCells_one _
            case c3 => unfold maxLen; omega
            case c4 => omega
            case c5 => omega
            intro v4 W4 hown4 hg4 _ hat4
            have hb4 : Below W1.heap.size W1 W4 := ((hbr.alloc (by omega) _).alloc (by simp; omega) _).grown hg4 (by simp; omega) (fun k hk => hbO k hk)
            have hy4 := blk_grown (blk_alloc (blk_new wr _) _) hg4 (fun e => by have := hlO _ e.symm; omega)
            obtain ⟨A4, c4, rfl⟩ := own_slice hown4
            rw [flat_snoc] at hown4
            clear hat4 hg4 hownO hbr hlO hbO hwr
            generalize wr.heap.size = yb at hy4 ⊢
            have hy40 : W4.cell? ⟨yb, 0, none⟩ = some (.int .i64 yf) := (blk_cell hy4 0).trans rfl
            have hy41 : W4.cell? ⟨yb, 1, none⟩ = some (.string ys) := (blk_cell hy4 1).trans rfl
            have hyl4 := blk_lt hy4
            by_cases c2 : 0 < m
            · have ew4 : IntKind.i64.wrap (at_ + m) = at_ + m := IntWalk.i64_in _ (by omega)
              go_wp2_with (go_at_call 35; refine (to_calls _ _ (by omega) (by omega) _).mono ?_; rintro e w1 ⟨rfl, o1, rfl⟩)
              have hc : 0 ≤ m ∧ m ≤ (left.size : Int) := ⟨by omega, by omega⟩
              go_quiet (fail)
              clear hy40 hy41
              go_wp2
              go_roundw
              case rel =>
                have hms : (left.extract m.toNat left.size).size = left.size - m.toNat := by rw [size_ext]; omega
                refine ⟨k + 1, done ++ [(yf, ys)], at_ + m, left.extract m.toNat left.size, by omega, by go_num, rfl, rfl, by omega, by omega, ?_, ?_, ?_, ?_⟩
                · simp only [List.length_append, List.length_singleton]; omega
                · have h := HI.out
                  rw [ins_no hn (by omega)] at h
                  rw [insT_yes hm c2] at h
                  show _ = _
                  rw [← h]
                  simp
                · rw [List.length_append]
                  exact pw_own_drewN (hown4.alloc _) _
                · exact pw_below_drewN (hb4.alloc hb4.size _) _
              case measure => simp [intOf]; omega
            · go_wp2_with (go_at_call 35; refine (to_calls _ _ (by omega) (by omega) _).mono ?_; rintro e w1 ⟨rfl, o1, rfl⟩)
              clear hy40 hy41
              go_roundw
              case rel =>
                refine ⟨k + 1, done ++ [(yf, ys)], at_, left, by omega, by go_num, rfl, rfl, by omega, by omega, ?_, ?_, ?_, ?_⟩
                · simp only [List.length_append, List.length_singleton]; omega
                · have h := HI.out
                  rw [ins_no hn (by omega)] at h
                  rw [insT_no hm (by omega)] at h
                  show _ = _
                  rw [← h]
                  simp
                · rw [List.length_append]
                  exact hown4.alloc _
                · exact hb4.alloc hb4.size _
              case measure => simp [intOf]; omega
        · obtain rfl : k = e7.length := by omega
          have hfin : done ++ ins at_ left [] = ins off body e7 := by
            have h := HI.out
            rw [List.drop_length] at h
            exact h
          clear HI
          have HI := Lib.hid hfin
          clear hfin
          obtain ⟨i0, hi, hz0, hz1, hz2⟩ := info_parts info71
          have hwr := hbr.size
          by_cases c1 : left.size = 0
          · have hne : (!left.toList.isEmpty) = false := not_empty_false c1
            go_wp2_with (refine gate_ (.store 55 (.tmp 120) (.tmp 118)) rfl ?_; refine wpList_store_cell rfl 55 (.tmp 120) (.tmp 118) rfl rfl (.slice AO done.length cO) rfl rfl rfl rfl (blk_below hxW hbr) size1_55 rfl _ rfl ?_)
            intro W5 hx5 hg5
            have ho5 := (hoW.below1 hbr).grown hg5 (fun k hk => .inl (by cases hk; rfl))
            have hown5 := hownO.kept hg5 (.inr (fun e => own_ne hownO (blk_below hxW hbr) (by decide) e.symm))
            go_wp2
            go_end0
            refine ⟨rfl, ent_add ⟨e0, e1, e2, e3, eb, ef, e6, e7, most, end_⟩ ⟨src, dst, proto, ttl, id, off, more, whole, body⟩ hBx HF.out HH.out HM.out HN.out ?_ hx5 (own_less hown5 (by have := hoW.size; omega)), ho5⟩
            have h := HI.out
            rw [ins, if_pos c1, List.append_nil] at h
            exact h
          · have hne : (!left.toList.isEmpty) = true := not_empty_true c1
            have hlO := own_lt hownO
            have hbO : ∀ k, (Value.slice AO done.length cO).ownBlock = some k → W1.heap.size ≤ k := fun k hk => ownBlock_le hownO hk
            go_wp2_with (at_builtin; refine wpList_append_own_at _ rfl (.tmp 111) (.tmp 115) 55 rfl W1.heap.size 71 i0 _ 2 24 Try.underlying55 hi hz0 hz1 hz2 rfl (by decide) _ _ _ rfl (hownO.alloc _) ⟨wr.heap.size, 0, none⟩ 1 1 (pieceCells (at_, left)) rfl rfl ?c1 ?c2 ?c3 ?c4 ?c5 ?_)
            case c1 => exact news_cells _ _ rfl _ _ _ rfl
            case c2 => exact pieceCells_one _
            case c3 => unfold maxLen; omega
            case c4 => omega
            case c5 => first | omega | (simp; omega)
            intro v4 W4 hown4 hg4 _ hat4
            have hb4 : Below W1.heap.size W1 W4 := (hbr.alloc (by omega) _).grown hg4 (by simp; omega) (fun k hk => hbO k hk)
            obtain ⟨A4, c4, rfl⟩ := own_slice hown4
            rw [flat_snoc] at hown4
            clear hat4 hg4 hownO hbr hlO hbO hwr
            go_wp2_with (refine gate_ (.store 55 (.tmp 120) (.tmp 118)) rfl ?_; refine wpList_store_cell rfl 55 (.tmp 120) (.tmp 118) rfl rfl (.slice A4 (done.length + 1) c4) rfl rfl rfl rfl (blk_below hxW hb4) size1_55 rfl _ rfl ?_)
            intro W5 hx5 hg5
            have ho5 := (hoW.below1 hb4).grown hg5 (fun k hk => .inl (by cases hk; rfl))
            have hown5 := hown4.kept hg5 (.inr (fun e => own_ne hown4 (blk_below hxW hb4) (by decide) e.symm))
            go_wp2
            go_end0
            refine ⟨rfl, ent_add ⟨e0, e1, e2, e3, eb, ef, e6, e7, most, end_⟩ ⟨src, dst, proto, ttl, id, off, more, whole, body⟩ (ps := done ++ [(at_, left)]) hBx HF.out HH.out HM.out HN.out ?_ hx5 (own_less (by rw [List.length_append]; exact hown5) (by have := hoW.size; omega)), ho5⟩
            have h := HI.out
            rw [ins, if_neg c1] at h
            exact h
    clear hown
    obtain ⟨_, _, hc21, hc22⟩ := ent_cells hxW
    obtain ⟨_, _, _, _, _, hb5, hb6, _, hb8⟩ := pk_cells' hbW
    have hne : x ≠ w.heap.size := by omega
    cases more
    · go_wp2_with (refine gate_ (.store 3 (.tmp 52) (.tmp 50)) rfl ?_; refine wpList_store_cell rfl 3 (.tmp 52) (.tmp 50) rfl rfl (.int .i64 (off + body.size)) rfl rfl rfl rfl hxW size1_3 rfl _ rfl ?_)
      intro W2 hx2 hg2
      go_wp2
      exact hmid2 _ _ _ _ _ _ _ _ _ _ _ _ _ _ _ _ _ _ _ _ _ _ _ _ _ most (off + body.size) W2 rfl rfl hx2 (blk_grown hbW hg2 (fun e => hne (by cases e; rfl))) (hoW.grown hg2 (fun k hk => .inl (by cases hk; rfl)))
    · have hfz : ∀ j, W.frozen? ⟨x, j, none⟩ = false := fun j => blk_frozen hxW j
      have hxl := blk_lt hxW
      go_wp2
      go_region
      exact hmid2 _ _ _ _ _ _ _ _ _ _ _ _ _ _ _ _ _ _ _ _ _ _ _ _ _ (mx most (off + body.size)) end_ _ rfl rfl (blk_drew (blk_put hxW 21 (.int .i64 (mx most (off + body.size))) rfl)) (blk_drew (blk_far hbW (by exact hne.symm) _)) ((hoW.setCell (.inl rfl) _).drew)
  clear hown
  obtain ⟨hc19, _, _, _⟩ := ent_cells hx
  by_cases hoff : off = 0
  · subst hoff
    cases e6
    · go_wp2_with (refine gate_ (.store 32 (.tmp 25) (.tmp 23)) rfl ?_; refine wpList_store_part rfl 32 (.tmp 25) (.tmp 23) rfl rfl _ #[.int .u32 src, .int .u32 dst, .int .i64 proto, .int .i64 ttl, .int .i64 id, .int .i64 0, .bool more, .bool whole, .string body] rfl rfl rfl (blk_alloc hx _) sizeP rfl (pk_one _ _ _ _ _ _ _ _ _) _ rfl ?_)
      intro W2 hx2 hg2
      have ho2 := ((Only.refl (fun k => k = x) w).alloc (.cells #[.int .u32 src, .int .u32 dst, .int .i64 proto, .int .i64 ttl, .int .i64 id, .int .i64 0, .bool more, .bool whole, .string body] 32 (0, 0))).grown hg2 (fun k hk => .inl (by cases hk; rfl))
      have hb2 := blk_grown (blk_new w (.cells #[.int .u32 src, .int .u32 dst, .int .i64 proto, .int .i64 ttl, .int .i64 id, .int .i64 0, .bool more, .bool whole, .string body] 32 (0, 0))) hg2 (fun e => by cases e; omega)
      clear hg2
      go_wp2_with (refine gate_ (.store 4 (.tmp 27) (.const (.bool true))) rfl ?_; refine wpList_store_cell rfl 4 (.tmp 27) (.const (.bool true)) rfl rfl (.bool true) rfl rfl rfl rfl hx2 size1_4 rfl _ rfl ?_)
      intro W3 hx3 hg3
      go_wp2
      exact hmid1 _ _ _ _ _ _ _ _ _ _ _ _ _ _ _ _ _ ⟨src, dst, proto, ttl, id, 0, more, whole, body⟩ true W3 rfl rfl hx3 (blk_grown hb2 hg3 (fun e => by cases e; omega)) (ho2.grown hg3 (fun k hk => .inl (by cases hk; rfl)))
    · go_wp2
      exact hmid1 _ _ _ _ _ _ _ _ _ _ _ _ _ _ _ _ _ ef true _ rfl rfl (blk_alloc hx _) (blk_new w _) ((Only.refl (fun k => k = x) w).alloc _)
  · have hob : (off == 0) = false := beq_eq_false_iff_ne.mpr hoff
    go_wp2
    exact hmid1 _ _ _ _ _ _ _ _ _ _ _ _ _ _ _ _ _ ef e6 _ (by simp [Hid, hoff]) (by simp [Hid, hoff]) (blk_alloc hx _) (blk_new w _) ((Only.refl (fun k => k = x) w).alloc _)
end Go.Proofs.Ytlhfkkionaemhaa.H
