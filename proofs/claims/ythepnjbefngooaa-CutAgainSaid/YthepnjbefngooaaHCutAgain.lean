/- The walk of CutAgain: it returns true at every input that the row speaks of. No condition. -/
import Derived.Deep.QuietTactic
import Derived.BigQuiet
import Derived.Test.YthepnjbefngooaaPlainStore
import Derived.Test.YthepnjbefngooaaHCutRead
namespace Go.Proofs.Ythepnjbefngooaa.H
set_option linter.unusedSimpArgs false
set_option linter.unusedVariables false
open Go Go.RowKit Go.Proofs.YthepnjbefngooaaW.PrintWords Go.Proofs.YthepnjbefngooaaW.PrintLast Go.Proofs.YthepnjbefngooaaW.PrintMore Go.Proofs.Ythepnjbefngooaa.Plain

theorem pk_one (a0 a1 a2 a3 a4 a5 : Int) (a6 a7 : Bool) (a8 : ByteArray) : ∀ q ∈ (#[Value.int .u32 a0, .int .u32 a1, .int .i64 a2, .int .i64 a3, .int .i64 a4, .int .i64 a5, .bool a6, .bool a7, .string a8] : Array Value).toList, q.oneCell' = true := by
  intro u hu
  simp only [List.mem_cons, List.not_mem_nil, or_false] at hu
  rcases hu with rfl | rfl | rfl | rfl | rfl | rfl | rfl | rfl | rfl <;> rfl
theorem lim_of (x : Int) (m : Int) (h0 : 0 < m) (h1 : m < 1000) : ∃ n : Int, wrap64 (28 + wrap64 ((IntKind.u64.wrap x).tmod m)) = n ∧ 28 ≤ n ∧ n < 28 + m := by
  have hx : 0 ≤ IntKind.u64.wrap x := by rw [wu64]; omega
  have e : (IntKind.u64.wrap x).tmod m = IntKind.u64.wrap x % m := Int.tmod_eq_emod_of_nonneg hx
  have a := Int.emod_nonneg (IntKind.u64.wrap x) (show m ≠ 0 by omega)
  have b := Int.emod_lt_of_pos (IntKind.u64.wrap x) h0
  refine ⟨28 + IntKind.u64.wrap x % m, ?_, by omega, by omega⟩
  rw [e, w64 (n := IntKind.u64.wrap x % m) (by omega) (by omega), w64 (by omega) (by omega)]
theorem pieces_pos (lim : Nat) (more : Bool) (d : Nat) (off : Int) (b : ByteArray) : 0 < (pieces lim more d off b).length := by
  cases d <;> unfold pieces <;> (try split) <;> simp
theorem pieces_len (lim : Nat) (more : Bool) : ∀ (d : Nat) (off : Int) (b : ByteArray), (pieces lim more d off b).length ≤ d + 1
  | 0, off, b => by simp [pieces]
  | d + 1, off, b => by
    unfold pieces
    split
    · simp
    · have := pieces_len lim more d (off + (lim / 8 * 8 : Nat)) (b.extract (lim / 8 * 8) b.size)
      simp only [List.length_cons]; omega
theorem size24 : (Try.prog.info? 24).map (·.size) = some 9 := by kernel_rfl

set_option maxHeartbeats 4000000 in
set_option maxRecDepth 100000 in
theorem cutAgain_calls (a0 a1 a2 a3 a4 a5 : Int) (a6 a7 : Bool) (a8 : ByteArray) (one two : Int) (w : World) :
    Calls Try.prog 3 #[.agg #[.int .u32 a0, .int .u32 a1, .int .i64 a2, .int .i64 a3, .int .i64 a4, .int .i64 a5, .bool a6, .bool a7, .string a8], .int .i64 one, .int .i64 two] w fun e w' => e = .returned (.bool true) ∧ Below w.heap.size w w' := by
  go_enter Try.func3, Try.ntmps3
  go_wp2_with (first | (go_at_call 12; refine (lives_calls _).mono ?_; rintro e w1 ⟨rfl, hb⟩; obtain ⟨hc, hf⟩ := bcell hb) | (go_at_call 13; refine (entire_calls _ _ _ _ _ _ _ _ _ _ (by decide) _).mono ?_; rintro e w2 ⟨rfl, o1, o2, o3, o4, rfl⟩) | (refine gate_ (.store 24 (.tmp 3) (.tmp 20)) rfl ?_; refine wpList_store_block rfl 24 (.tmp 3) (.tmp 20) rfl rfl _ #[.int .u32 a0, .int .u32 a1, .int .i64 (a2 % 256), .int .i64 (a3 % 128 + 1), .int .i64 (a4 % 65536), .int .i64 0, .bool false, .bool false, .string (beg a8 80)] rfl rfl rfl (blk_alloc (blk_alloc (blk_alloc (blk_alloc (blk_below (blk_new w _) hb) o1) o2) o3) o4) size24 rfl (pk_one _ _ _ _ _ _ _ _ _) ?_))
  intro w2 hbx hg
  have hbw : Below w.heap.size w w2 := (((((((Below.refl _ _).alloc (Nat.le_refl _) _).trans (hb.mono (by simp))).alloc (by have := hb.size; simp at this; omega) o1).alloc (by have := hb.size; simp at this ⊢; omega) o2).alloc (by have := hb.size; simp at this ⊢; omega) o3).alloc (by have := hb.size; simp at this ⊢; omega) o4).grown hg (by have := hb.size; simp at this ⊢; omega) (fun k hk => by cases hk; exact Nat.le_refl _)
  clear hg hb hc hf
  obtain ⟨hc0, hc1, hc2, hc3, hc4, hc5, hc6, hc7, hc8⟩ := pk_cells hbx
  obtain ⟨n1, e1, k1, k1'⟩ := lim_of one 80 (by decide) (by decide)
  obtain ⟨n2, e2, k2, k2'⟩ := lim_of two 80 (by decide) (by decide)
  have hbs : (beg a8 80).size ≤ 80 := by rw [beg_size]; omega
  generalize beg a8 80 = body at hbx hc8 hbs ⊢
  have hok : OkPiece 80 (0, false, body) := ⟨Int.le_refl _, rfl, by simp only; omega, (fun h => by cases h), (fun h => by rcases h with h | h; (cases h); (simp only at h; omega))⟩
  have r2 : 0 ≤ a2 % 256 ∧ a2 % 256 ≤ 255 := by omega
  have r3 : 1 ≤ a3 % 128 + 1 ∧ a3 % 128 + 1 ≤ 255 := by omega
  have r4 : 0 ≤ a4 % 65536 ∧ a4 % 65536 ≤ 65535 := by omega
  generalize a2 % 256 = b2 at r2 hbx hc2 ⊢
  generalize a3 % 128 + 1 = b3 at r3 hbx hc3 ⊢
  generalize a4 % 65536 = b4 at r4 hbx hc4 ⊢
  have hcut := fun W => cut_calls a0 a1 b2 b3 b4 0 false false body n1 (wrong_ok r2 r3 r4 hok (by omega) k1 (by omega)) k1 (by omega) (by omega) (by omega) (by omega) W
  have hpo := pieces_ok (n1 - 20).toNat (by omega) false 80 body.size 0 body hok
  have hpc := pieces_chain (n1 - 20).toNat false body.size 0 body
  have hpp := pieces_pos (n1 - 20).toNat false body.size 0 body
  have hpl : (pieces (n1 - 20).toNat false body.size 0 body).length ≤ 81 := Nat.le_trans (pieces_len _ _ _ _ _) (by omega)
  generalize pieces (n1 - 20).toNat false body.size 0 body = L at hcut hpo hpc hpp hpl
  go_wp2_with (go_at_call 14; refine (hcut _).mono ?_; rintro e w3 ⟨v, rfl, hown, hb⟩; obtain ⟨hc, hf⟩ := bcell hb; obtain ⟨g, cap, rfl, hg, hgl, hr⟩ := own_read hown rfl hpp)
  have hbx3 := blk_below hbx hb
  have hbw3 : Below w.heap.size w w3 := hbw.trans (hb.mono hbw.size)
  have hwz : w.heap.size < w3.heap.size := blk_lt hbx3
  clear hc hf hc0 hc1 hc2 hc3 hc4 hc5 hc6 hc7 hc8 hb hbw hbx hg hown hcut e1
  have HR := Lib.hid hr
  have HPO := Lib.hid hpo
  clear hr hpo
  go_loopw [9, 10, 35] (fun p acc i wr => ∃ (k : Nat) (P : Int) (A rest : ByteArray), k ≤ L.length ∧ i = .int .i64 k ∧ p = .int .i64 P ∧ acc = .string A ∧ 0 ≤ P ∧ P + rest.size ≤ 80 ∧ A.size ≤ 80 ∧ Hid (Chain P (L.drop k) rest) ∧ Hid (A ++ rest = body) ∧ Below w3.heap.size w3 wr) (fun _ _ i _ => L.length - (intOf i).toNat)
  case atStart => exact ⟨0, 0, ⟨#[]⟩, body, Nat.zero_le _, rfl, rfl, rfl, Int.le_refl _, by omega, by decide, hpc, nil_app _ _ rfl, Below.refl _ _⟩
  case round =>
    clear hpc
    obtain ⟨k, P, A, rest, hk, rfl, rfl, rfl, hP0, hP1, hA, HC, HJ, hbr⟩ := hrel
    by_cases hlt : k < L.length
    · have hel := L.getElem_mem hlt
      have hdr := List.drop_eq_getElem_cons hlt
      obtain ⟨ho, rest2, hrest, hch2⟩ : (L[k]).1 = P ∧ ∃ rest2, rest = (L[k]).2.2 ++ rest2 ∧ Chain (P + (L[k]).2.2.size) (L.drop (k + 1)) rest2 := by
        have := HC.out
        rw [hdr] at this
        exact this
      have hokq := HPO.out _ hel
      have hrk := HR.out k hlt
      clear hel hdr HC
      generalize hq : L[k] = q at ho hrest hch2 hokq hrk
      obtain ⟨qo, qm, qx⟩ := q
      simp only at ho hrest hch2
      subst ho
      clear hq
      have hc0 := hrk 0 _ rfl
      have hc1 := hrk 1 _ rfl
      have hc2 := hrk 2 _ rfl
      have hc3 := hrk 3 _ rfl
      have hc4 := hrk 4 _ rfl
      have hc5 := hrk 5 _ rfl
      have hc6 := hrk 6 _ rfl
      have hc7 := hrk 7 _ rfl
      have hc8 := hrk 8 _ rfl
      simp only [Nat.add_zero] at hc0
      clear hrk
      obtain ⟨hbc, hbf⟩ := bcell hbr
      rw [← hbc _ _ hgl] at hc0 hc1 hc2 hc3 hc4 hc5 hc6 hc7 hc8
      clear hbc hbf
      have hqs : qx.size ≤ 80 := by have := hokq.2.2.1; simp only at this; omega
      have hcut2 := fun W => cut_calls a0 a1 b2 b3 b4 qo qm false qx n2 (wrong_ok r2 r3 r4 hokq (by omega) k2 (by omega)) k2 (by omega) (by omega) (by omega) (by omega) W
      have hpo2 := pieces_ok (n2 - 20).toNat (by omega) qm 80 qx.size qo qx hokq
      have hpc2 := pieces_chain (n2 - 20).toNat qm qx.size qo qx
      have hpp2 := pieces_pos (n2 - 20).toNat qm qx.size qo qx
      have hpl2 : (pieces (n2 - 20).toNat qm qx.size qo qx).length ≤ 81 := Nat.le_trans (pieces_len _ _ _ _ _) (by omega)
      generalize pieces (n2 - 20).toNat qm qx.size qo qx = M at hcut2 hpo2 hpc2 hpp2 hpl2
      go_wp2_with (go_at_call 14; refine (hcut2 _).mono ?_; rintro e w5 ⟨v5, rfl, hown5, hb5⟩; obtain ⟨g5, cap5, rfl, hg5, hgl5, hr5⟩ := own_read hown5 rfl hpp2)
      have hb35 : Below w3.heap.size w3 w5 := (hbr.alloc hbr.size _).trans (hb5.mono (by have := hbr.size; simp; omega))
      clear hcut2 hb5 hc0 hc1 hc2 hc3 hc4 hc5 hc6 hc7 hc8 hown5 hbr hg5 e2
      have HR5 := Lib.hid hr5
      have HC2 := Lib.hid hch2
      have HC0 := Lib.hid hpc2
      have HREST := Lib.hid hrest
      clear hr5 hch2 hpo2 hpc2 hrest
      obtain ⟨wo, hwo⟩ : ∃ wo : World, wo = wr := ⟨_, rfl⟩
      subst hwo
      go_loopw [9, 10, 53] (fun p acc i wr => ∃ (j : Nat) (P : Int) (B rest3 : ByteArray), j ≤ M.length ∧ i = .int .i64 j ∧ p = .int .i64 P ∧ acc = .string B ∧ 0 ≤ P ∧ P + rest3.size = qo + qx.size ∧ B.size ≤ A.size + 80 ∧ Hid (Chain P (M.drop j) rest3) ∧ Hid (B ++ rest3 = A ++ qx) ∧ Below w5.heap.size w5 wr) (fun _ _ i _ => M.length - (intOf i).toNat)
      case atStart => exact ⟨0, qo, A, qx, Nat.zero_le _, rfl, rfl, rfl, hP0, rfl, by omega, HC0.out, rfl, Below.refl _ _⟩
      case round =>
        obtain ⟨j, P, B, rest3, hj, rfl, rfl, rfl, hQ0, hQ1, hB, HC3, HJ3, hbr⟩ := hrel
        by_cases hltj : j < M.length
        · have hdr := List.drop_eq_getElem_cons hltj
          obtain ⟨ho, rest4, hrest3, hch4⟩ : (M[j]).1 = P ∧ ∃ rest4, rest3 = (M[j]).2.2 ++ rest4 ∧ Chain (P + (M[j]).2.2.size) (M.drop (j + 1)) rest4 := by
            have := HC3.out
            rw [hdr] at this
            exact this
          have hrj := HR5.out j hltj
          clear hdr HC3
          generalize hq : M[j] = q at ho hrest3 hch4 hrj
          obtain ⟨xo, xm, xx⟩ := q
          simp only at ho hrest3 hch4
          subst ho
          clear hq
          have hc0 := hrj 0 _ rfl
          have hc1 := hrj 1 _ rfl
          have hc2 := hrj 2 _ rfl
          have hc3 := hrj 3 _ rfl
          have hc4 := hrj 4 _ rfl
          have hc5 := hrj 5 _ rfl
          have hc6 := hrj 6 _ rfl
          have hc7 := hrj 7 _ rfl
          have hc8 := hrj 8 _ rfl
          simp only [Nat.add_zero] at hc0
          clear hrj
          obtain ⟨hbc, hbf⟩ := bcell hbr
          rw [← hbc _ _ hgl5] at hc0 hc1 hc2 hc3 hc4 hc5 hc6 hc7 hc8
          clear hbc hbf
          have hz : rest3.size = xx.size + rest4.size := by rw [hrest3, ByteArray.size_append]
          have HREST3 := Lib.hid hrest3
          have HC4 := Lib.hid hch4
          have HZ : rest3.size ≤ 80 := by have := hokq.2.2.1; simp only at this; omega
          have HZ1 : xx.size ≤ rest3.size := by omega
          have HZ3 : xo ≤ 80 := by have := hokq.2.2.1; simp only at this; omega
          have HZ2 := Lib.hid hz
          have HQ1 := Lib.hid hQ1
          clear hrest3 hch4 hz hQ1
          go_wp2
          clear hc0 hc1 hc2 hc3 hc4 hc5 hc6 hc7 hc8
          have e4 : IntKind.i64.wrap (xo + (xx.size : Int)) = xo + (xx.size : Int) := IntWalk.i64_in _ (by omega)
          go_quiet (fail)
          clear e4
          go_wp2
          go_roundw
          case rel =>
            refine ⟨j + 1, xo + xx.size, B ++ xx, rest4, by omega, by go_num, rfl, rfl, by omega, ?_, ?_, HC4.out, ?_, ?_⟩
            · have := HQ1.out; have := HZ2.out; omega
            · have h1 := HJ3.out
              have h2 := congrArg ByteArray.size h1
              simp only [ByteArray.size_append] at h2 ⊢
              omega
            · show B ++ xx ++ rest4 = A ++ qx
              rw [app_assoc, ← HREST3.out]; exact HJ3.out
            · first | exact pw_below_drewN (hbr.alloc hbr.size _) _ | exact (hbr.alloc hbr.size _).drew
          case measure => simp [intOf]; omega
        · obtain rfl : j = M.length := by omega
          have hrest3 : rest3.size = 0 := by
            have := HC3.out
            rw [List.drop_length] at this
            exact this
          have hBb : B = A ++ qx := by
            have := HJ3.out
            rw [app_nil _ _ hrest3] at this
            exact this
          have HBB := Lib.hid hBb
          have HQ := Lib.hid hQ1
          have HR3 := Lib.hid hrest3
          clear hBb hQ1 hrest3
          go_wp2
          go_roundw
          case rel =>
            have hz := congrArg ByteArray.size HREST.out
            simp only [ByteArray.size_append] at hz
            have hj3 := HR3.out
            have hq := HQ.out
            obtain rfl : P = qo + qx.size := by omega
            refine ⟨k + 1, qo + qx.size, B, rest2, by omega, by go_num, rfl, rfl, by omega, by omega, ?_, HC2.out, ?_, hb35.trans (hbr.mono hb35.size)⟩
            · have h2 := congrArg ByteArray.size HJ.out
              simp only [ByteArray.size_append] at h2
              have h3 := congrArg ByteArray.size HBB.out
              simp only [ByteArray.size_append] at h3
              omega
            · show B ++ rest2 = body
              rw [HBB.out, app_assoc, ← HREST.out]; exact HJ.out
          case measure => simp [intOf]; omega
    · obtain rfl : k = L.length := by omega
      have hrest : rest.size = 0 := by
        have := HC.out
        rw [List.drop_length] at this
        exact this
      have hAb : A = body := by
        have := HJ.out
        rw [app_nil _ _ hrest] at this
        exact this
      subst hAb
      obtain ⟨hc0, hc1, hc2, hc3, hc4, hc5, hc6, hc7, hc8⟩ := pk_cells (blk_below hbx3 hbr)
      go_wp2
      go_ret
      exact ⟨rfl, hbw3.trans (hbr.mono (by omega))⟩
end Go.Proofs.Ythepnjbefngooaa.H
