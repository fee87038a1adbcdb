/- join: the walk of entry.whole. Conditions: sizes. -/
import Derived.Test.YtlhfkkionaemhaaShelfPlain
import Derived.Test.YtlhfkkionaemhaaHJoinBuild
import Derived.Test.YtlhfkkionaemhaaHJoinAdd
namespace Go.Proofs.Ytlhfkkionaemhaa.H
set_option linter.unusedSimpArgs false
set_option linter.unusedVariables false
open Go Go.RowKit Go.Maps Go.Proofs.YtlhfkkionaemhaaW.PrintWords Go.Proofs.YtlhfkkionaemhaaW.PrintLast Go.Proofs.YtlhfkkionaemhaaW.PrintMore Go.Proofs.Ytlhfkkionaemhaa.Plain

/-- The pieces' bytes, one behind the other, if they lie so from a place on; and their end. -/
def joinS : Int → List (Int × ByteArray) → Option (List UInt8 × Int)
  | at_, [] => some ([], at_)
  | at_, y :: ps => if y.1 = at_ then (joinS (y.1 + y.2.size) ps).map fun r => (y.2.data.toList ++ r.1, r.2) else none
/-- What whole tells. -/
def Ent.joined (e : Ent) : Option ByteArray := (joinS 0 e.ps).bind fun r => if r.2 = e.end_ then some ⟨r.1.toArray⟩ else none

def packV (p : Pk) : Value := .agg #[.int .u32 p.src, .int .u32 p.dst, .int .i64 p.proto, .int .i64 p.ttl, .int .i64 p.id, .int .i64 p.off, .bool p.more, .bool p.whole, .string p.body]
def zeroPk : Pk := ⟨0, 0, 0, 0, 0, 0, false, false, ⟨#[]⟩⟩
def Ent.out (e : Ent) (s : ByteArray) : Pk := ⟨e.src, e.dst, e.proto, e.first.ttl, e.id, 0, false, false, s⟩
def Ent.wholeV (e : Ent) : Value :=
  match e.joined with
  | some s => .tuple #[packV (e.out s), .bool true]
  | none => .tuple #[packV zeroPk, .bool false]

theorem id_cells {w : World} {x : Nat} {a0 a1 a2 a3 a4 a5 : Int} {a6 a7 : Bool} {a8 : ByteArray} {b : Int} {f0 f1 f2 f3 f4 f5 : Int} {f6 f7 : Bool} {f8 : ByteArray} {h : Bool} {pv : Value} {m n : Int} {t : TypeId} (hx : w.heap[x]? = some (.cells #[.int .u32 a0, .int .u32 a1, .int .i64 a2, .int .i64 a3, .int .i64 a4, .int .i64 a5, .bool a6, .bool a7, .string a8, .int .i64 b, .int .u32 f0, .int .u32 f1, .int .i64 f2, .int .i64 f3, .int .i64 f4, .int .i64 f5, .bool f6, .bool f7, .string f8, .bool h, pv, .int .i64 m, .int .i64 n] t (0, 0))) :
    w.cell? ⟨x, 0, none⟩ = some (.int .u32 a0) ∧ w.cell? ⟨x, 1, none⟩ = some (.int .u32 a1) ∧ w.cell? ⟨x, 2, none⟩ = some (.int .i64 a2) ∧ w.cell? ⟨x, 3, none⟩ = some (.int .i64 a3) ∧ w.cell? ⟨x, 4, none⟩ = some (.int .i64 a4) ∧ w.cell? ⟨x, 5, none⟩ = some (.int .i64 a5) ∧ w.cell? ⟨x, 6, none⟩ = some (.bool a6) ∧ w.cell? ⟨x, 7, none⟩ = some (.bool a7) ∧ w.cell? ⟨x, 8, none⟩ = some (.string a8) ∧ w.cell? ⟨x, 13, none⟩ = some (.int .i64 f3) :=
  ⟨(blk_cell hx 0).trans rfl, (blk_cell hx 1).trans rfl, (blk_cell hx 2).trans rfl, (blk_cell hx 3).trans rfl, (blk_cell hx 4).trans rfl, (blk_cell hx 5).trans rfl, (blk_cell hx 6).trans rfl, (blk_cell hx 7).trans rfl, (blk_cell hx 8).trans rfl, (blk_cell hx 13).trans rfl⟩
theorem sum_le {ps : List (Int × ByteArray)} (h : ∀ y ∈ ps, 0 ≤ y.1 ∧ y.1 + y.2.size ≤ 1500) (k : Nat) (hk : k < ps.length) : 0 ≤ (ps[k]).1 ∧ (ps[k]).1 + (ps[k]).2.size ≤ 1500 := h _ (List.getElem_mem hk)

set_option maxHeartbeats 8000000 in
set_option maxRecDepth 100000 in
theorem whole_calls (B x : Nat) (e : Ent) (hps : ∀ y ∈ e.ps, 0 ≤ y.1 ∧ y.1 + y.2.size ≤ 1500) (hl : e.ps.length ≤ 100000) (w : World) (hE : EntAt w B x e) :
    Calls Try.prog 26 #[.pointer (some ⟨x, 0, none⟩)] w fun r w' => r = .returned e.wholeV ∧ Below w.heap.size w w' := by
  obtain ⟨hBx, pv, hx, hown⟩ := hE
  obtain ⟨e0, e1, e2, e3, eb, ef, e6, e7, most, end_⟩ := e
  simp only at hx hps hl hown ⊢
  obtain ⟨A0, c0, rfl⟩ := own_slice hown
  have hxl := blk_lt hx
  obtain ⟨_, hc20, _, hc22⟩ := ent_cells hx
  go_enter Try.func26, Try.ntmps26
  go_wp2
  have hbl0 : Lib.IsBuilderF 75 5 (w.heap.size + 1) (w.heap.size + 1) (Lib.byteCells []) ((w.alloc (.cells #[.int .u32 0, .int .u32 0, .int .i64 0, .int .i64 0, .int .i64 0, .int .i64 0, .bool false, .bool false, .string ⟨#[]⟩] 32 (0, 0))).alloc (.cells #[.pointer none, .slice none 0 0] 75 (0, 0))) :=
    Lib.IsBuilderF.of (.inl ⟨Nat.le_refl _, .slice none 0 0, by have := blk_new (w.alloc (.cells #[.int .u32 0, .int .u32 0, .int .i64 0, .int .i64 0, .int .i64 0, .int .i64 0, .bool false, .bool false, .string ⟨#[]⟩] 32 (0, 0))) (.cells #[.pointer none, .slice none 0 0] 75 (0, 0)); simpa using this, own_nil _ _ _ _, by simp [Value.ownBlock]⟩)
  have hr0 := blk_alloc (blk_new w (.cells #[.int .u32 0, .int .u32 0, .int .i64 0, .int .i64 0, .int .i64 0, .int .i64 0, .bool false, .bool false, .string ⟨#[]⟩] 32 (0, 0))) (.cells #[.pointer none, .slice none 0 0] 75 (0, 0))
  have hx1 := blk_alloc (blk_alloc hx (.cells #[.int .u32 0, .int .u32 0, .int .i64 0, .int .i64 0, .int .i64 0, .int .i64 0, .bool false, .bool false, .string ⟨#[]⟩] 32 (0, 0))) (.cells #[.pointer none, .slice none 0 0] 75 (0, 0))
  have hown1 := (hown.alloc (.cells #[.int .u32 0, .int .u32 0, .int .i64 0, .int .i64 0, .int .i64 0, .int .i64 0, .bool false, .bool false, .string ⟨#[]⟩] 32 (0, 0))).alloc (.cells #[.pointer none, .slice none 0 0] 75 (0, 0))
  have hb1 : Below w.heap.size w ((w.alloc (.cells #[.int .u32 0, .int .u32 0, .int .i64 0, .int .i64 0, .int .i64 0, .int .i64 0, .bool false, .bool false, .string ⟨#[]⟩] 32 (0, 0))).alloc (.cells #[.pointer none, .slice none 0 0] 75 (0, 0))) := ((Below.refl _ _).alloc (Nat.le_refl _) _).alloc (by simp) _
  have hlt1 := own_lt hown
  have hsz1 : ((w.alloc (.cells #[.int .u32 0, .int .u32 0, .int .i64 0, .int .i64 0, .int .i64 0, .int .i64 0, .bool false, .bool false, .string ⟨#[]⟩] 32 (0, 0))).alloc (.cells #[.pointer none, .slice none 0 0] 75 (0, 0))).heap.size = w.heap.size + 2 := by simp
  generalize (w.alloc (.cells #[.int .u32 0, .int .u32 0, .int .i64 0, .int .i64 0, .int .i64 0, .int .i64 0, .bool false, .bool false, .string ⟨#[]⟩] 32 (0, 0))).alloc (.cells #[.pointer none, .slice none 0 0] 75 (0, 0)) = W1 at hbl0 hr0 hx1 hown1 hb1 hsz1 ⊢
  clear hc20 hc22 hx hown
  have hw1 : w.heap.size + 1 ≤ W1.heap.size := by omega
  have HS1 := Lib.hid hsz1
  clear hsz1
  go_loopw [4, 14] (fun a i wr => ∃ (k : Nat) (A : List UInt8), k ≤ e7.length ∧ i = .int .i64 k ∧ a = .int .i64 A.length ∧ A.length ≤ 1500 ∧ Hid (joinS 0 e7 = (joinS A.length (e7.drop k)).map fun r => (A ++ r.1, r.2)) ∧ Lib.IsBuilderF 75 5 (w.heap.size + 1) (w.heap.size + 1) (Lib.byteCells A) wr ∧ Below (w.heap.size + 1) W1 wr) (fun _ i _ => e7.length - (intOf i).toNat)
  case atStart => exact ⟨0, [], Nat.zero_le _, rfl, rfl, Nat.zero_le _, by show joinS 0 e7 = _; simp, hbl0, Below.refl _ _⟩
  case round =>
    clear hbl0
    obtain ⟨k, A, hk, rfl, rfl, hA, HJ, hB, hbr⟩ := hrel
    have hwr := hbr.size
    by_cases hlt : k < e7.length
    · obtain ⟨g, cap, hv, hgB, hgl, hrd⟩ := pcs_read hown1 (by omega)
      cases hv
      obtain ⟨hr1, hr2⟩ := hrd k hlt
      have hgl0 : g < w.heap.size := hlt1 g rfl
      have hy := sum_le hps k hlt
      have hdr := List.drop_eq_getElem_cons hlt
      have HJ2 := HJ.out
      rw [hdr] at HJ2
      clear hrd hdr HJ
      generalize e7[k] = y at hr1 hr2 hy HJ2
      obtain ⟨yf, ys⟩ := y
      simp only at hr1 hr2 hy
      have hgl3 : g < w.heap.size + 1 := by omega
      rw [← (hbr.cell (p := ⟨g, k * 2, none⟩) hgl3)] at hr1
      rw [← (hbr.cell (p := ⟨g, k * 2 + 1, none⟩) hgl3)] at hr2
      by_cases hne : yf = A.length
      · subst hne
        have HJ := Lib.hid HJ2
        clear HJ2
        have hws := fun W (h : Lib.IsBuilderF 75 5 (w.heap.size + 1) (w.heap.size + 1) (Lib.byteCells A) W) hw => writeString_calls (w.heap.size + 1) (w.heap.size + 1) (Lib.byteCells A) ys W h (by rw [Lib.byteCells_length]; omega) hw
        go_wp2_with (go_at_call 36; refine (hws _ (hB.alloc _) (by simp; omega)).mono ?_)
        rintro e w2 ⟨rfl, hB2, hb2, hk2⟩
        have hy2 := hk2 _ _ (blk_new wr (.cells #[.int .i64 A.length, .string ys] 71 (0, 0))) (fun e => by have := Option.some.inj e; have := HS1.out; omega) (fun c fz e => by simp at e)
        have hb2' : Below (w.heap.size + 1) W1 w2 := (hbr.alloc (by omega) _).trans hb2
        clear hk2 hb2 hB hbr hr1 hr2
        have hy20 : w2.cell? ⟨wr.heap.size, 0, none⟩ = some (.int .i64 A.length) := (blk_cell hy2 0).trans rfl
        have hy21 : w2.cell? ⟨wr.heap.size, 1, none⟩ = some (.string ys) := (blk_cell hy2 1).trans rfl
        have hyl2 := blk_lt hy2
        generalize wr.heap.size = yb at hy20 hy21 hyl2 ⊢
        go_wp2_with (go_at_call 35; refine (to_calls _ _ (by omega) (by omega) _).mono ?_; rintro e w1 ⟨rfl, o1, rfl⟩)
        go_roundw
        case rel =>
          have hlen : (A ++ ys.data.toList).length = A.length + ys.size := by rw [List.length_append, size_list]
          refine ⟨k + 1, A ++ ys.data.toList, by omega, by go_num, by rw [hlen]; rfl, by omega, ?_, ?_, hb2'.alloc (by have := hb2'.size; omega) _⟩
          · show _ = _
            have h := HJ.out
            rw [h, hlen]
            simp only [joinS, if_pos rfl]
            rw [show ((A.length : Int) + ys.size) = ((A.length + ys.size : Nat) : Int) by omega]
            cases joinS _ (e7.drop (k + 1)) <;> simp
          · rw [Lib.byteCells_append]
            exact Lib.IsBuilderF.alloc (.inr hB2) _
        case measure => simp [intOf]; omega
      · have hnb : (yf != (A.length : Int)) = true := by simpa using hne
        go_wp2_with (refine gate_ (.store 32 (.tmp 2) (.tmp 22)) rfl ?_; refine wpList_store_part rfl 32 (.tmp 2) (.tmp 22) rfl rfl (packV zeroPk) #[.int .u32 0, .int .u32 0, .int .i64 0, .int .i64 0, .int .i64 0, .int .i64 0, .bool false, .bool false, .string ⟨#[]⟩] rfl rfl rfl (blk_alloc ((hbr.block w.heap.size (by omega)).trans hr0) _) sizeP rfl (pk_one _ _ _ _ _ _ _ _ _) _ rfl ?_)
        intro W3 hr3 hg3
        obtain ⟨hc0, hc1, hc2, hc3, hc4, hc5, hc6, hc7, hc8⟩ := pk_cells' hr3
        go_wp2
        refine bodyPost_ret (v := .tuple #[packV zeroPk, .bool false]) ?_ rfl ⟨?_, ?_⟩
        · simp [results, Try.results26, go_sem, packV, zeroPk, hc0, hc1, hc2, hc3, hc4, hc5, hc6, hc7, hc8]
        · have h := HJ2
          have hj : (⟨e0, e1, e2, e3, eb, ef, e6, e7, most, end_⟩ : Ent).joined = none := by
            show (joinS 0 e7).bind _ = none
            rw [h]
            simp [joinS, hne]
          unfold Ent.wholeV
          rw [hj]
        · exact (hb1.trans (((hbr.mono (Nat.le_succ _)).alloc (by omega) _))).grown hg3 (by simp; omega) (fun k hk => by cases hk; exact Nat.le_refl _)
    · obtain rfl : k = e7.length := by omega
      have hfin : joinS 0 e7 = some (A, (A.length : Int)) := by
        have h := HJ.out
        rw [h, List.drop_length]
        simp [joinS]
      clear HJ
      obtain ⟨_, _, _, hn2⟩ := ent_cells ((hbr.block x (by omega)).trans hx1)
      by_cases hend : (A.length : Int) = end_
      · subst hend
        have HJ := Lib.hid hfin
        clear hfin
        obtain ⟨hc0, hc1, hc2, hc3, hc4, hc5, hc6, hc7, hc8, hc13⟩ := id_cells ((hbr.block x (by omega)).trans hx1)
        go_wp2
        clear hc0 hc1 hc2 hc3 hc4 hc5 hc6 hc7 hc8
        have hx5 := blk_alloc ((hbr.block x (by omega)).trans hx1) (.cells #[.int .u32 e0, .int .u32 e1, .int .i64 e2, .int .i64 0, .int .i64 e3, .int .i64 0, .bool false, .bool false, .string ⟨#[]⟩] 32 (0, 0))
        have hp5 := blk_new wr (.cells #[.int .u32 e0, .int .u32 e1, .int .i64 e2, .int .i64 0, .int .i64 e3, .int .i64 0, .bool false, .bool false, .string ⟨#[]⟩] 32 (0, 0))
        have hB5 := Lib.IsBuilderF.alloc hB (.cells #[.int .u32 e0, .int .u32 e1, .int .i64 e2, .int .i64 0, .int .i64 e3, .int .i64 0, .bool false, .bool false, .string ⟨#[]⟩] 32 (0, 0))
        have hb5 := hbr.alloc (by omega) (.cells #[.int .u32 e0, .int .u32 e1, .int .i64 e2, .int .i64 0, .int .i64 e3, .int .i64 0, .bool false, .bool false, .string ⟨#[]⟩] 32 (0, 0))
        have hpb : w.heap.size + 2 ≤ wr.heap.size := by have := HS1.out; omega
        have hw5 : wr.heap.size + 1 ≤ (wr.alloc (.cells #[.int .u32 e0, .int .u32 e1, .int .i64 e2, .int .i64 0, .int .i64 e3, .int .i64 0, .bool false, .bool false, .string ⟨#[]⟩] 32 (0, 0))).heap.size := by simp
        generalize wr.alloc (.cells #[.int .u32 e0, .int .u32 e1, .int .i64 e2, .int .i64 0, .int .i64 e3, .int .i64 0, .bool false, .bool false, .string ⟨#[]⟩] 32 (0, 0)) = W5 at hx5 hp5 hB5 hb5 hw5 ⊢
        clear hB hbr
        generalize wr.heap.size = pb at hp5 hpb hw5 ⊢
        refine start_ (n := 10) (S := fun w' => w'.heap[x]? = some (.cells #[.int .u32 e0, .int .u32 e1, .int .i64 e2, .int .i64 0, .int .i64 e3, .int .i64 0, .bool false, .bool false, .string ⟨#[]⟩, .int .i64 eb, .int .u32 ef.src, .int .u32 ef.dst, .int .i64 ef.proto, .int .i64 ef.ttl, .int .i64 ef.id, .int .i64 ef.off, .bool ef.more, .bool ef.whole, .string ef.body, .bool e6, .slice A0 e7.length c0, .int .i64 most, .int .i64 A.length] 57 (0, 0))) (ds := []) #[false, false, false, false, false, false, false, false, false, false] (by kernel_rfl) rfl rfl (blk_drew hx5) (fun hHeld => ?_)
        have hp6 := blk_drew hp5
        have hB6 : Lib.IsBuilderF 75 5 (w.heap.size + 1) (w.heap.size + 1) (Lib.byteCells A) W5.drew := hB5
        have hb6 := hb5.drew
        have hz6 : W5.drew.heap.size = W5.heap.size := rfl
        rw [← hz6] at hw5
        clear hp5 hB5 hb5 hx5 hz6
        generalize W5.drew = W6 at hHeld hp6 hB6 hb6 hw5 ⊢
        refine pure_ (i := 0) (N := some 40) (v := ?_) (a' := ?_) #[true, false, false, false, false, false, false, false, false, false] rfl rfl (by kernel_rfl) (fun _ _ _ h => h) (Or.inl ⟨by rfl, ?_⟩) ?_ ?_
        rotate_left
        · intro w'
          go_simp
          with_reducible rfl
        rotate_left
        · simp only [Act.put, List.setIfInBounds_toArray, List.set_cons_zero, List.set_cons_succ, i64_w, i32_w]
          rfl
        refine pure_ (i := 1) (N := some 41) (v := ?_) (a' := ?_) #[true, true, false, false, false, false, false, false, false, false] rfl rfl (by kernel_rfl) (fun _ _ _ h => h) (Or.inl ⟨by rfl, ?_⟩) ?_ ?_
        rotate_left
        · intro w'
          go_simp
          with_reducible rfl
        rotate_left
        · simp only [Act.put, List.setIfInBounds_toArray, List.set_cons_zero, List.set_cons_succ, i64_w, i32_w]
          rfl
        refine pure_ (i := 2) (N := some 42) (v := ?_) (a' := ?_) #[true, true, true, false, false, false, false, false, false, false] rfl rfl (by kernel_rfl) (fun _ _ _ h => h) (Or.inl ⟨by rfl, ?_⟩) ?_ ?_
        rotate_left
        · intro w'
          go_simp
          with_reducible rfl
        rotate_left
        · simp only [Act.put, List.setIfInBounds_toArray, List.set_cons_zero, List.set_cons_succ, i64_w, i32_w]
          rfl
        refine pure_ (i := 3) (N := some 43) (v := ?_) (a' := ?_) #[true, true, true, true, false, false, false, false, false, false] rfl rfl (by kernel_rfl) (fun _ _ _ h => h) (Or.inl ⟨by rfl, ?_⟩) ?_ ?_
        rotate_left
        · intro w'
          go_simp
          with_reducible rfl
        rotate_left
        · simp only [Act.put, List.setIfInBounds_toArray, List.set_cons_zero, List.set_cons_succ, i64_w, i32_w]
          rfl
        refine take_ (i := 4) (N := some 44) (v := ?_) (a' := ?_) #[true, true, true, true, true, false, false, false, false, false] rfl rfl (by kernel_rfl) (fun _ _ _ h => h) (Or.inl ⟨by rfl, ?_⟩) hHeld ?_ ?_
        rotate_left
        · rintro w' s0
          have k13 : w'.cell? ⟨x, 13, none⟩ = some (.int .i64 ef.ttl) := (blk_cell s0 13).trans rfl
          go_simp
          with_reducible rfl
        rotate_left
        · simp only [Act.put, List.setIfInBounds_toArray, List.set_cons_zero, List.set_cons_succ, i64_w, i32_w]
          rfl
        refine pure_ (i := 6) (N := some 46) (v := ?_) (a' := ?_) #[true, true, true, true, true, false, true, false, false, false] rfl rfl (by kernel_rfl) (fun _ _ _ h => h) (Or.inl ⟨by rfl, ?_⟩) ?_ ?_
        rotate_left
        · intro w'
          go_simp
          with_reducible rfl
        rotate_left
        · simp only [Act.put, List.setIfInBounds_toArray, List.set_cons_zero, List.set_cons_succ, i64_w, i32_w]
          rfl
        refine one_ (i := 5) (N := some 45) #[true, true, true, true, true, true, true, false, false, false] rfl rfl (by kernel_rfl) (by decide) (fun K hK => ?_)
        refine call_ 37 #[.pointer (some ⟨w.heap.size + 1, 0, none⟩)] (by rfl) rfl (by go_simp) ?_
        refine (Try.Builder_String_any_k _ _ A _ hB6 (by omega)).mono ?_
        rintro e w7 ⟨rfl, _, hb7, hk7⟩
        have hp7 := hk7 _ _ hp6 (fun e => by have := Option.some.inj e; omega) (fun c fz e => by simp at e)
        have hx7 := (hb7.block x (by omega)).trans hHeld
        have hb7' := hb6.trans hb7
        refine ⟨_, rfl, hK.out _ _ hx7 (fun hHeld => ?_)⟩
        clear hK K hp6 hB6 hb6 hb7 hk7
        refine norm_ (a' := ?_) ?_ ?_
        rotate_left
        · show Act.put _ (some 45) _ = _
          simp only [Act.put, List.setIfInBounds_toArray, List.set_cons_zero, List.set_cons_succ, i64_w, i32_w]
          rfl
        refine one_ (i := 7) (N := none) #[true, true, true, true, true, true, true, true, false, false] rfl rfl (by kernel_rfl) (by decide) (fun K hK => ?_)
        refine part_step (by rfl) 3 (.tmp 46) (.tmp 44) rfl (.int .i64 ef.ttl) #[.int .i64 ef.ttl] rfl rfl rfl hp7 size1_3 rfl (one_int _ _) _ rfl ?_
        intro w8 hp8 hg8
        have hx8 := blk_grown hHeld hg8 (fun e => by have := Option.some.inj e; omega)
        have hb8 := hb7'.grown hg8 (by have := hb7'.size; omega) (fun k hk => by cases hk; omega)
        refine hK.out _ _ hx8 (fun hHeld => ?_)
        clear hK K hp7 hb7' hg8
        refine norm_ (a' := ?_) ?_ ?_
        rotate_left
        · show Act.put _ (none) _ = _
          simp only [Act.put, List.setIfInBounds_toArray, List.set_cons_zero, List.set_cons_succ, i64_w, i32_w]
          rfl
        refine pure_ (i := 8) (N := some 47) (v := ?_) (a' := ?_) #[true, true, true, true, true, true, true, true, true, false] rfl rfl (by kernel_rfl) (fun _ _ _ h => h) (Or.inl ⟨by rfl, ?_⟩) ?_ ?_
        rotate_left
        · intro w'
          go_simp
          with_reducible rfl
        rotate_left
        · simp only [Act.put, List.setIfInBounds_toArray, List.set_cons_zero, List.set_cons_succ, i64_w, i32_w]
          rfl
        refine one_ (i := 9) (N := none) #[true, true, true, true, true, true, true, true, true, true] rfl rfl (by kernel_rfl) (by decide) (fun K hK => ?_)
        refine part_step (by rfl) 9 (.tmp 47) (.tmp 45) rfl (.string ⟨A.toArray⟩) #[.string ⟨A.toArray⟩] rfl rfl rfl hp8 size1_9 rfl (one_str _) _ rfl ?_
        intro w9 hp9 hg9
        have hx9 := blk_grown hHeld hg9 (fun e => by have := Option.some.inj e; omega)
        have hb9 := hb8.grown hg9 (by have := hb8.size; omega) (fun k hk => by cases hk; omega)
        refine hK.out _ _ hx9 (fun hHeld => ?_)
        obtain ⟨hc0, hc1, hc2, hc3, hc4, hc5, hc6, hc7, hc8⟩ := pk_cells' hp9
        clear hK K hp8 hb8 hg9
        refine norm_ (a' := ?_) ?_ ?_
        rotate_left
        · show Act.put _ (none) _ = _
          simp only [Act.put, List.setIfInBounds_toArray, List.set_cons_zero, List.set_cons_succ, i64_w, i32_w]
          rfl
        refine done_ (by kernel_rfl) ?_
        go_wp2_with (refine gate_ (.store 32 (.tmp 2) (.tmp 48)) rfl ?_; refine wpList_store_part rfl 32 (.tmp 2) (.tmp 48) rfl rfl (packV ⟨e0, e1, e2, ef.ttl, e3, 0, false, false, ⟨A.toArray⟩⟩) #[.int .u32 e0, .int .u32 e1, .int .i64 e2, .int .i64 ef.ttl, .int .i64 e3, .int .i64 0, .bool false, .bool false, .string ⟨A.toArray⟩] rfl rfl rfl ((hb9.block w.heap.size (by omega)).trans hr0) sizeP rfl (pk_one _ _ _ _ _ _ _ _ _) _ rfl ?_)
        intro W3 hr3 hg3
        clear hc0 hc1 hc2 hc3 hc4 hc5 hc6 hc7 hc8
        obtain ⟨hc0, hc1, hc2, hc3, hc4, hc5, hc6, hc7, hc8⟩ := pk_cells' hr3
        go_wp2
        refine bodyPost_ret (v := .tuple #[packV ⟨e0, e1, e2, ef.ttl, e3, 0, false, false, ⟨A.toArray⟩⟩, .bool true]) ?_ rfl ⟨?_, ?_⟩
        · simp [results, Try.results26, go_sem, packV, hc0, hc1, hc2, hc3, hc4, hc5, hc6, hc7, hc8]
        · have hj : (⟨e0, e1, e2, e3, eb, ef, e6, e7, most, (A.length : Int)⟩ : Ent).joined = some ⟨A.toArray⟩ := by
            show (joinS 0 e7).bind _ = _
            rw [HJ.out]
            simp
          unfold Ent.wholeV
          rw [hj]
          rfl
        · exact (hb1.trans (hb9.mono (Nat.le_succ _))).grown hg3 (by have := hb9.size; omega) (fun k hk => by cases hk; exact Nat.le_refl _)
      · have hnb : ((A.length : Int) != end_) = true := by simpa using hend
        have HJ2 := Lib.hid hfin
        clear hfin
        go_wp2_with (refine gate_ (.store 32 (.tmp 2) (.tmp 35)) rfl ?_; refine wpList_store_part rfl 32 (.tmp 2) (.tmp 35) rfl rfl (packV zeroPk) #[.int .u32 0, .int .u32 0, .int .i64 0, .int .i64 0, .int .i64 0, .int .i64 0, .bool false, .bool false, .string ⟨#[]⟩] rfl rfl rfl ((hbr.block w.heap.size (by omega)).trans hr0) sizeP rfl (pk_one _ _ _ _ _ _ _ _ _) _ rfl ?_)
        intro W3 hr3 hg3
        obtain ⟨hc0, hc1, hc2, hc3, hc4, hc5, hc6, hc7, hc8⟩ := pk_cells' hr3
        go_wp2
        refine bodyPost_ret (v := .tuple #[packV zeroPk, .bool false]) ?_ rfl ⟨?_, ?_⟩
        · simp [results, Try.results26, go_sem, packV, zeroPk, hc0, hc1, hc2, hc3, hc4, hc5, hc6, hc7, hc8]
        · have h := HJ2.out
          have hj : (⟨e0, e1, e2, e3, eb, ef, e6, e7, most, end_⟩ : Ent).joined = none := by
            show (joinS 0 e7).bind _ = none
            rw [h]
            simp [joinS, hend]
          unfold Ent.wholeV
          rw [hj]
        · exact (hb1.trans ((hbr.mono (Nat.le_succ _)))).grown hg3 (by omega) (fun k hk => by cases hk; exact Nat.le_refl _)
end Go.Proofs.Ytlhfkkionaemhaa.H
