/- The walks of pkt.Decode where it refuses a header, and of PktSpoiled: it returns true at every input that the row speaks of. Conditions: the addresses are uint32 and the byte is one, which the row gives. -/
import Derived.RegionTactic
import Derived.ChangeAlike
import Derived.BigRegion
import Derived.Deep.RegionWith
import Derived.Test.YthepnjbefngooaaHHeadPlain
namespace Go.Proofs.Ythepnjbefngooaa.H
set_option linter.unusedSimpArgs false
set_option linter.unusedVariables false
open Go Go.RowKit Go.Proofs.Ythepnjbefngooaa.PPktOrder Go.Proofs.YthepnjbefngooaaW.PrintWords Go.Proofs.YthepnjbefngooaaW.PrintLast Go.Proofs.YthepnjbefngooaaW.PrintMore Go.Proofs.Ythepnjbefngooaa.Plain

/-! ### the encoding is right -/
theorem hdr_byte (src dst proto ttl id off : Int) (more whole : Bool) (size : Nat) (sum : Int) (x : ByteArray) (i : Nat) (hi : i < 20) :
    bt (strOfNums (hdr src dst proto ttl id off more whole size sum) ++ x) (i : Nat) = (hdr src dst proto ttl id off more whole size sum)[i]'(by simpa [hdr] using hi) := by
  have hl : (hdr src dst proto ttl id off more whole size sum).length = 20 := rfl
  rw [bt_left _ _ _ (by rw [size_strOfNums, hl]; exact hi)]
  have hr : ∀ y ∈ hdr src dst proto ttl id off more whole size sum, 0 ≤ y ∧ y < 256 := by
    intro y hy
    simp only [hdr, List.mem_cons, List.not_mem_nil, or_false] at hy
    rcases hy with rfl | rfl | rfl | rfl | rfl | rfl | rfl | rfl | rfl | rfl | rfl | rfl | rfl | rfl | rfl | rfl | rfl | rfl | rfl | rfl <;> omega
  have := hr _ (List.getElem_mem (l := hdr src dst proto ttl id off more whole size sum) (n := i) (by rw [hl]; exact hi))
  exact bt_strOfNums _ i (by rw [hl]; exact hi) this.1 this.2
theorem encv_right (src dst proto ttl id off : Int) (more whole : Bool) (body : ByteArray) :
    bt (encv src dst proto ttl id off more whole body) (0 : Nat) = 69 ∧ get2v (encv src dst proto ttl id off more whole body) 10 = sumv (blank (encv src dst proto ttl id off more whole body)) := by
  have hz := encv_size src dst proto ttl id off more whole body
  have hb := fun i hi => hdr_byte src dst proto ttl id off more whole body.size (sumv (strOfNums (hdr src dst proto ttl id off more whole body.size 0))) body i hi
  have hb' : ∀ (i : Nat) (hi : i < 20), bt (encv src dst proto ttl id off more whole body) (i : Nat) = (hdr src dst proto ttl id off more whole body.size (sumv (strOfNums (hdr src dst proto ttl id off more whole body.size 0))))[i]'(by simpa [hdr] using hi) := hb
  refine ⟨(hb' 0 (by decide)).trans rfl, ?_⟩
  have e : blank (encv src dst proto ttl id off more whole body) = strOfNums (hdr src dst proto ttl id off more whole body.size 0) := by
    have hl : (strOfNums (hdr src dst proto ttl id off more whole body.size 0)).size = 20 := by rw [size_strOfNums]; rfl
    have h0 : ∀ (i : Nat) (hi : i < 20), bt (strOfNums (hdr src dst proto ttl id off more whole body.size 0)) (i : Nat) = (hdr src dst proto ttl id off more whole body.size 0)[i]'(by simpa [hdr] using hi) := fun i hi => by
      have := hdr_byte src dst proto ttl id off more whole body.size 0 ⟨#[]⟩ i hi
      rw [app_nil _ _ rfl] at this
      exact this
    apply eq_of_bt
    · rw [blank_size _ (by omega), hl]
    · intro i hi
      rw [blank_size _ (by omega)] at hi
      rw [h0 i hi]
      by_cases h10 : i < 10
      · rw [blank_low _ (by omega) i h10, hb' i hi]
        obtain rfl | rfl | rfl | rfl | rfl | rfl | rfl | rfl | rfl | rfl : i = 0 ∨ i = 1 ∨ i = 2 ∨ i = 3 ∨ i = 4 ∨ i = 5 ∨ i = 6 ∨ i = 7 ∨ i = 8 ∨ i = 9 := by omega
        all_goals rfl
      · by_cases h12 : i < 12
        · rw [blank_mid' _ (by omega) i (by omega) h12]
          obtain rfl | rfl : i = 10 ∨ i = 11 := by omega
          all_goals rfl
        · rw [blank_high' _ (by omega) i (by omega) hi, hb' i hi]
          obtain rfl | rfl | rfl | rfl | rfl | rfl | rfl | rfl : i = 12 ∨ i = 13 ∨ i = 14 ∨ i = 15 ∨ i = 16 ∨ i = 17 ∨ i = 18 ∨ i = 19 := by omega
          all_goals rfl
  rw [e]
  have hr := sumv_range (strOfNums (hdr src dst proto ttl id off more whole body.size 0))
  have e10 : bt (encv src dst proto ttl id off more whole body) (10 : Nat) = sumv (strOfNums (hdr src dst proto ttl id off more whole body.size 0)) / 256 % 256 := hb' 10 (by decide)
  have e11 : bt (encv src dst proto ttl id off more whole body) (11 : Nat) = sumv (strOfNums (hdr src dst proto ttl id off more whole body.size 0)) % 256 := hb' 11 (by decide)
  clear hb hb' e
  unfold get2v
  simp only [Nat.reduceAdd]
  rw [e10, e11]
  generalize sumv (strOfNums (hdr src dst proto ttl id off more whole body.size 0)) = n at hr ⊢
  omega

/-! ### the walks -/

set_option maxHeartbeats 2000000 in
theorem decode_bad (s : ByteArray) (hs : 20 ≤ s.size) (hs' : s.size ≤ 2000) (hbad : ¬ (bt s (0 : Nat) = 69 ∧ bt s (1 : Nat) = 0 ∧ 20 ≤ get2v s 2 ∧ get2v s 6 < 32768 ∧ bt s (8 : Nat) ≠ 0 ∧ get2v s 10 = sumv (blank s))) (w : World) :
    Calls Try.prog 24 #[.string s] w fun e w' => ∃ c : Int, c ≠ 0 ∧ e = .returned (.tuple #[.agg #[.int .u32 0, .int .u32 0, .int .i64 0, .int .i64 0, .int .i64 0, .int .i64 0, .bool false, .bool false, .string ⟨#[]⟩], .int .i64 c]) ∧ Below w.heap.size w w' := by
  have hh := fun W => head_bad s hs hs' hbad W
  clear hbad
  go_enter Try.func24, Try.ntmps24
  go_wp2_with (first | (go_at_call 34; refine (hh _).mono ?_; rintro e w1 ⟨c, hc, rfl, hb⟩; have hc1 : (c == 0) = false := beq_eq_false_iff_ne.mpr hc; have hc2 : (c != 0) = true := bne_iff_ne.mpr hc; have HC := Lib.hid hc; clear hc hh; have hry := blk_below (blk_new w (.cells #[.int .u32 0, .int .u32 0, .int .i64 0, .int .i64 0, .int .i64 0, .int .i64 0, .bool false, .bool false, .string ⟨#[]⟩] 24 (0, 0))) hb; have hwz := blk_lt hry; have hbw : Below w.heap.size w w1 := ((Below.refl _ _).alloc (Nat.le_refl _) _).trans (hb.mono (by simp)); clear hb) | (refine gate_ (.store 24 (.tmp 2) (.tmp 17)) rfl ?_; refine wpList_store_block rfl 24 (.tmp 2) (.tmp 17) rfl rfl _ #[.int .u32 0, .int .u32 0, .int .i64 0, .int .i64 0, .int .i64 0, .int .i64 0, .bool false, .bool false, .string ⟨#[]⟩] rfl rfl rfl (blk_alloc hry _) size24 rfl (pk_one _ _ _ _ _ _ _ _ _) ?_))
  intro w4 hw4 hg4
  go_wp2
  refine bodyPost_ret (results_ct rfl _ _ w.heap.size 24 _ (0, 0) _ rfl hw4 Try.underlying24 rfl size24) rfl ⟨_, HC.out, rfl, ?_⟩
  exact (hbw.alloc (by omega) _).grown hg4 (by simp; omega) (fun k hk => by cases hk; exact Nat.le_refl _)

/-- A string with one byte changed. -/
def spoil (s : ByteArray) (k : Nat) (tb : Int) : ByteArray := s.extract 0 k ++ strOfNums [tb] ++ s.extract (k + 1) s.size
theorem spoil_size (s : ByteArray) (k : Nat) (tb : Int) (hk : k < s.size) : (spoil s k tb).size = s.size := by
  have h1 : (strOfNums [tb]).size = 1 := by rw [size_strOfNums]; rfl
  unfold spoil
  rw [ByteArray.size_append, ByteArray.size_append, size_ext, size_ext, h1]
  omega
theorem spoil_at (s : ByteArray) (k : Nat) (tb : Int) (hk : k < s.size) (h0 : 0 ≤ tb) (h1 : tb < 256) : bt (spoil s k tb) (k : Nat) = tb := by
  have e : (s.extract 0 k).size = k := by rw [size_ext]; omega
  have h2 : (strOfNums [tb]).size = 1 := by rw [size_strOfNums]; rfl
  unfold spoil
  rw [bt_left _ _ _ (by rw [ByteArray.size_append, e, h2]; omega)]
  have := bt_right (s.extract 0 k) (strOfNums [tb]) 0
  rw [e, Nat.add_zero] at this
  rw [this]
  exact bt_strOfNums [tb] 0 (by simp) (by simpa using h0) (by simpa using h1)
theorem spoil_else (s : ByteArray) (k : Nat) (tb : Int) (hk : k < s.size) (i : Nat) (hi : i < s.size) (hne : i ≠ k) : bt (spoil s k tb) (i : Nat) = bt s (i : Nat) := by
  have e : (s.extract 0 k).size = k := by rw [size_ext]; omega
  have h2 : (strOfNums [tb]).size = 1 := by rw [size_strOfNums]; rfl
  unfold spoil
  by_cases hl : i < k
  · rw [bt_left _ _ _ (by rw [ByteArray.size_append, e, h2]; omega), bt_left _ _ _ (by rw [e]; exact hl), bt_ext _ _ _ _ (by omega), Nat.zero_add]
  · obtain ⟨j, rfl⟩ : ∃ j, i = k + 1 + j := ⟨i - (k + 1), by omega⟩
    have := bt_right (s.extract 0 k ++ strOfNums [tb]) (s.extract (k + 1) s.size) j
    rw [ByteArray.size_append, e, h2] at this
    rw [this, bt_ext _ _ _ _ (by omega)]

theorem place_of (x : Int) : ∃ k : Nat, wrap64 ((IntKind.u64.wrap x).tmod 20) = (k : Int) ∧ k < 20 := by
  have hx : 0 ≤ IntKind.u64.wrap x := by rw [wu64]; omega
  have e : (IntKind.u64.wrap x).tmod 20 = IntKind.u64.wrap x % 20 := Int.tmod_eq_emod_of_nonneg hx
  refine ⟨(IntKind.u64.wrap x % 20).toNat, ?_, by omega⟩
  rw [e, w64 (by omega) (by omega)]
  omega

set_option maxHeartbeats 4000000 in
set_option maxRecDepth 100000 in
theorem pktSpoiled_calls (a0 a1 a2 a3 a4 a5 : Int) (a6 a7 : Bool) (a8 : ByteArray) (place tb : Int) (h0 : 0 ≤ a0 ∧ a0 ≤ 4294967295) (h1 : 0 ≤ a1 ∧ a1 ≤ 4294967295) (hto : 0 ≤ tb ∧ tb ≤ 255) (w : World) :
    Calls Try.prog 9 #[.agg #[.int .u32 a0, .int .u32 a1, .int .i64 a2, .int .i64 a3, .int .i64 a4, .int .i64 a5, .bool a6, .bool a7, .string a8], .int .i64 place, .int .u8 tb] w fun e w' => e = .returned (.bool true) ∧ Below w.heap.size w w' := by
  have hbs : (beg a8 8).size ≤ 8 := by rw [beg_size]; omega
  have hok : OkPiece 80 (0, false, beg a8 8) := ⟨Int.le_refl _, rfl, by simp only; omega, (fun h => by cases h), (fun h => by rcases h with h | h; (cases h); (simp only at h; omega))⟩
  have hck : checkv (a2 % 256) (a3 % 128 + 1) (a4 % 65536) 0 false false (beg a8 8).size = 0 := check_ok (by omega) (by omega) (by omega) hok (by omega) rfl
  have henc := fun W => encode_calls a0 a1 (a2 % 256) (a3 % 128 + 1) (a4 % 65536) 0 false false (beg a8 8) h0 h1 hck W
  obtain ⟨hr69, hrsum⟩ := encv_right a0 a1 (a2 % 256) (a3 % 128 + 1) (a4 % 65536) 0 false false (beg a8 8)
  have hz := encv_size a0 a1 (a2 % 256) (a3 % 128 + 1) (a4 % 65536) 0 false false (beg a8 8)
  generalize encv a0 a1 (a2 % 256) (a3 % 128 + 1) (a4 % 65536) 0 false false (beg a8 8) = s at henc hr69 hrsum hz
  have hs : 20 ≤ s.size := by omega
  have hs' : s.size ≤ 28 := by omega
  clear hz hok hck
  have hk := place_of place
  obtain ⟨k, e1, hk20⟩ := hk
  have hks : k < s.size := by omega
  have hidx := idx_bt s k hks
  have hsz : s.size ≤ 9223372036854775807 := by omega
  by_cases hsame : bt s (k : Nat) = tb
  · rw [hidx] at hsame
    have f1 : (((s[k]'hks).toNat : Int) == tb) = true := beq_iff_eq.mpr hsame
    clear hsame hidx hrsum hr69
    go_enter Try.func9, Try.ntmps9
    go_wp2_with (first | (go_at_call 16; refine (pktLives_calls _).mono ?_; rintro e w1 ⟨rfl, hb⟩; obtain ⟨hc, hf⟩ := bcell hb) | (go_at_call 13; refine (entire_calls _ _ _ _ _ _ _ _ _ _ (by decide) _).mono ?_; rintro e w2 ⟨rfl, o1, o2, o3, o4, rfl⟩) | (go_at_call 23; refine (henc _).mono ?_; rintro e w3 ⟨rfl, hb3⟩))
    go_ret
    exact ⟨rfl, (((((((Below.refl _ _).alloc (Nat.le_refl _) _).trans (hb.mono (by simp))).alloc (by have := hb.size; simp at this; omega) o1).alloc (by have := hb.size; simp at this ⊢; omega) o2).alloc (by have := hb.size; simp at this ⊢; omega) o3).alloc (by have := hb.size; simp at this ⊢; omega) o4).trans (hb3.mono (by have := hb.size; simp at this ⊢; omega))⟩
  · have hbad : ¬ (bt (spoil s k tb) (0 : Nat) = 69 ∧ bt (spoil s k tb) (1 : Nat) = 0 ∧ 20 ≤ get2v (spoil s k tb) 2 ∧ get2v (spoil s k tb) 6 < 32768 ∧ bt (spoil s k tb) (8 : Nat) ≠ 0 ∧ get2v (spoil s k tb) 10 = sumv (blank (spoil s k tb))) := by
      rintro ⟨t69, _, _, _, _, hT⟩
      refine one_byte s (spoil s k tb) hs (by rw [spoil_size s k tb hks]; exact hs) k hk20 (fun i hi hne => spoil_else s k tb hks i (by omega) hne) ?_ hr69 t69 hrsum hT
      rw [spoil_at s k tb hks hto.1 (by omega)]
      exact fun h => hsame h.symm
    have hdec := fun W => decode_bad (spoil s k tb) (by rw [spoil_size s k tb hks]; exact hs) (by rw [spoil_size s k tb hks]; omega) hbad W
    rw [hidx] at hsame
    have f1 : (((s[k]'hks).toNat : Int) == tb) = false := beq_eq_false_iff_ne.mpr hsame
    clear hsame hidx hrsum hr69 hbad
    go_enter Try.func9, Try.ntmps9
    go_wp2_with (first | (go_at_call 16; refine (pktLives_calls _).mono ?_; rintro e w1 ⟨rfl, hb⟩; obtain ⟨hc, hf⟩ := bcell hb) | (go_at_call 13; refine (entire_calls _ _ _ _ _ _ _ _ _ _ (by decide) _).mono ?_; rintro e w2 ⟨rfl, o1, o2, o3, o4, rfl⟩) | (go_at_call 23; refine (henc _).mono ?_; rintro e w3 ⟨rfl, hb3⟩))
    have hbw : Below w.heap.size w w3 := (((((((Below.refl _ _).alloc (Nat.le_refl _) _).trans (hb.mono (by simp))).alloc (by have := hb.size; simp at this; omega) o1).alloc (by have := hb.size; simp at this ⊢; omega) o2).alloc (by have := hb.size; simp at this ⊢; omega) o3).alloc (by have := hb.size; simp at this ⊢; omega) o4).trans (hb3.mono (by have := hb.size; simp at this ⊢; omega))
    clear hb hb3 hc hf henc
    rw [e1]
    have hown1 : ((w3.alloc (.cells #[.int .u8 tb] 5 (0, 0))).drew).ownsRow 0 5 1 (.slice (some ⟨w3.heap.size, 0, none⟩) 1 1) 1 (nums .u8 [tb]) :=
      ⟨rfl, .inr ⟨w3.heap.size, 1, #[.int .u8 tb], rfl, Nat.zero_le _, blk_new w3 _, by decide, by decide, rfl, rfl⟩⟩
    have hcv := own_string (P := Try.prog) Try.underlying37 Try.underlying5 Try.underlying9 hown1
    have hsp : spoil s k tb = s.extract 0 k ++ strOfNums [tb] ++ s.extract (k + 1) s.size := rfl
    have hM : (strOfNums [tb]).size ≤ 1 := by rw [size_strOfNums]; simp
    rw [hsp] at hdec
    generalize strOfNums [tb] = M at hcv hM hdec
    clear hown1 e1 hsp f1
    have e2 : IntKind.i64.wrap ((k : Int) + 1) = (k : Int) + 1 := IntWalk.i64_in _ (by omega)
    have e3 : ((k : Int) + 1).toNat = k + 1 := by omega
    have e4 : (k : Int) ≤ s.size := by omega
    have e5 : (0 : Int) ≤ (k : Int) + 1 := by omega
    have e6 : (k : Int) + 1 ≤ s.size := by omega
    go_region_with (go_at_call 24; refine (hdec _).mono ?_; rintro e w5 ⟨c, hcne, rfl, hb5⟩)
    have g1 : (c == 0) = false := beq_eq_false_iff_ne.mpr hcne
    have g2 : (c != 0) = true := bne_iff_ne.mpr hcne
    clear hcne hcv
    go_wp2
    go_ret
    have hz5 := hbw.size
    exact ⟨rfl, ((hbw.alloc hbw.size _).drew).trans (hb5.mono (by simp; omega))⟩
end Go.Proofs.Ythepnjbefngooaa.H
