/- What a message quotes of a packet: plain lemmas. Conditions: the packet is a valid one. -/
import Derived.Test.YthepnjbefngooaaHSpoiled
import Derived.Test.YthepnjbefngooaaHReply
import Derived.Test.YthepnjbefngooaaHFaultQuiet
namespace Go.Proofs.Ythepnjbefngooaa.H
set_option linter.unusedSimpArgs false
set_option linter.unusedVariables false
open Go Go.RowKit Go.Proofs.Ythepnjbefngooaa.PPktOrder Go.Proofs.YthepnjbefngooaaW.PrintWords Go.Proofs.YthepnjbefngooaaW.PrintLast Go.Proofs.YthepnjbefngooaaW.PrintMore Go.Proofs.Ythepnjbefngooaa.Plain

theorem bt_in {s : ByteArray} {n : Nat} (i : Nat) (h : i < min s.size n) : bt (beg s n) (i : Nat) = bt s (i : Nat) := by
  unfold beg
  rw [bt_ext _ _ _ _ (by omega), Nat.zero_add]

theorem blank_congr {s t : ByteArray} (hs : 20 ≤ s.size) (ht : 20 ≤ t.size) (h : ∀ i : Nat, i < 20 → bt s (i : Nat) = bt t (i : Nat)) : blank s = blank t := by
  apply eq_of_bt
  · rw [blank_size s hs, blank_size t ht]
  · intro i hi
    rw [blank_size s hs] at hi
    by_cases h10 : i < 10
    · rw [blank_low s hs i h10, blank_low t ht i h10, h i (by omega)]
    · by_cases h12 : i < 12
      · rw [blank_mid' s hs i (by omega) h12, blank_mid' t ht i (by omega) h12]
      · rw [blank_high' s hs i (by omega) hi, blank_high' t ht i (by omega) hi, h i (by omega)]

theorem encv_bytes (src dst proto ttl id off : Int) (more whole : Bool) (body : ByteArray) (i : Nat) (hi : i < 20) :
    bt (encv src dst proto ttl id off more whole body) (i : Nat) = (hdr src dst proto ttl id off more whole body.size (sumv (strOfNums (hdr src dst proto ttl id off more whole body.size 0))))[i]'(by simpa [hdr] using hi) :=
  hdr_byte src dst proto ttl id off more whole body.size (sumv (strOfNums (hdr src dst proto ttl id off more whole body.size 0))) body i hi

theorem encv_body (src dst proto ttl id off : Int) (more whole : Bool) (body : ByteArray) (i : Nat) : bt (encv src dst proto ttl id off more whole body) ((20 + i : Nat) : Int) = bt body (i : Nat) := by
  unfold encv
  have h := bt_right (strOfNums (hdr src dst proto ttl id off more whole body.size (sumv (strOfNums (hdr src dst proto ttl id off more whole body.size 0))))) body i
  have e : (strOfNums (hdr src dst proto ttl id off more whole body.size (sumv (strOfNums (hdr src dst proto ttl id off more whole body.size 0))))).size = 20 := by rw [size_strOfNums]; rfl
  rw [e] at h
  exact h

/-- What is quoted is a right header, and says what the packet says. -/
theorem quoted (src dst proto ttl id off : Int) (more whole : Bool) (body : ByteArray) (h0 : 0 ≤ src ∧ src ≤ 4294967295) (h1 : 0 ≤ dst ∧ dst ≤ 4294967295) (hc : checkv proto ttl id off more whole body.size = 0) (r : ByteArray) (hr : r = beg (encv src dst proto ttl id off more whole body) 28) :
    20 ≤ r.size ∧ r.size = min (20 + body.size) 28 ∧ bt r (0 : Nat) = 69 ∧ bt r (1 : Nat) = 0 ∧ get2v r 2 = 20 + body.size ∧ get2v r 6 < 32768 ∧ bt r (8 : Nat) = ttl ∧ get2v r 10 = sumv (blank r) ∧
    get4v r 12 = src ∧ get4v r 16 = dst ∧ bt r (9 : Nat) = proto ∧ get2v r 4 = id ∧ get2v r 6 % 8192 * 8 = off ∧ r.extract 20 r.size = beg body 8 := by
  obtain ⟨r2, r3, r4, r5, rs, ro, r8, rm, rw_⟩ := check_zero hc
  have hz := encv_size src dst proto ttl id off more whole body
  have hrs : r.size = min (20 + body.size) 28 := by rw [hr, beg_size, hz]
  have hb : ∀ i : Nat, i < 20 → bt r (i : Nat) = bt (encv src dst proto ttl id off more whole body) (i : Nat) := fun i hi => by rw [hr, bt_in i (by rw [hz]; omega)]
  have hbl : blank r = blank (encv src dst proto ttl id off more whole body) := blank_congr (by omega) (by omega) hb
  obtain ⟨e69, esum⟩ := encv_right src dst proto ttl id off more whole body
  have B := fun i hi => (hb i hi).trans (encv_bytes src dst proto ttl id off more whole body i hi)
  have b1 : bt r (1 : Nat) = 0 := B 1 (by decide)
  have b2 : bt r (2 : Nat) = (20 + (body.size : Int)) / 256 % 256 := B 2 (by decide)
  have b3 : bt r (3 : Nat) = (20 + (body.size : Int)) % 256 := B 3 (by decide)
  have b4 : bt r (4 : Nat) = id / 256 % 256 := B 4 (by decide)
  have b5 : bt r (5 : Nat) = id % 256 := B 5 (by decide)
  have b6 : bt r (6 : Nat) = flagv off more whole / 256 % 256 := B 6 (by decide)
  have b7 : bt r (7 : Nat) = flagv off more whole % 256 := B 7 (by decide)
  have b8 : bt r (8 : Nat) = ttl % 256 := B 8 (by decide)
  have b9 : bt r (9 : Nat) = proto % 256 := B 9 (by decide)
  have b12 : bt r (12 : Nat) = src / 16777216 % 256 := B 12 (by decide)
  have b13 : bt r (13 : Nat) = src / 65536 % 256 := B 13 (by decide)
  have b14 : bt r (14 : Nat) = src / 256 % 256 := B 14 (by decide)
  have b15 : bt r (15 : Nat) = src % 256 := B 15 (by decide)
  have b16 : bt r (16 : Nat) = dst / 16777216 % 256 := B 16 (by decide)
  have b17 : bt r (17 : Nat) = dst / 65536 % 256 := B 17 (by decide)
  have b18 : bt r (18 : Nat) = dst / 256 % 256 := B 18 (by decide)
  have b19 : bt r (19 : Nat) = dst % 256 := B 19 (by decide)
  have hfl : 0 ≤ flagv off more whole ∧ flagv off more whole < 32768 ∧ flagv off more whole % 8192 = off / 8 := by
    unfold flagv
    cases more <;> cases whole <;> simp <;> omega
  have g6 : get2v r 6 = flagv off more whole := by
    unfold get2v; simp only [Nat.reduceAdd]; rw [b6, b7]; omega
  refine ⟨by omega, hrs, (hb 0 (by decide)).trans e69, b1, ?_, by omega, by omega, ?_, ?_, ?_, by omega, ?_, by omega, ?_⟩
  · unfold get2v; simp only [Nat.reduceAdd]; rw [b2, b3]; omega
  · rw [hbl, ← esum]
    unfold get2v
    rw [hb 10 (by decide), hb (10 + 1) (by decide)]
  · unfold get4v; simp only [Nat.reduceAdd]; rw [b12, b13, b14, b15]; omega
  · unfold get4v; simp only [Nat.reduceAdd]; rw [b16, b17, b18, b19]; omega
  · unfold get2v; simp only [Nat.reduceAdd]; rw [b4, b5]; omega
  · apply eq_of_bt
    · rw [size_ext, beg_size]; omega
    · intro i hi
      rw [size_ext] at hi
      rw [bt_ext _ _ _ _ (by omega), hr, bt_in _ (by rw [hz]; omega), encv_body, bt_in _ (by omega)]

/-- The first four bytes of a message, and what follows them. -/
theorem tell_parts (why : Int) (h0 : 0 ≤ why) (h1 : why < 256) (E : ByteArray) (hE : 20 ≤ E.size) :
    (tellBody why E).extract 4 (tellBody why E).size = beg E 28 ∧ ((tellBody why E).extract 1 4).toList = [0, 0, 0] ∧ (why ≠ 9 → ((tellBody why E).extract 0 4).toList ≠ [9, 0, 0, 0]) := by
  have hl : (strOfNums [why, 0, 0, 0]).size = 4 := by rw [size_strOfNums]; rfl
  have hd : (tellBody why E).data.toList = [UInt8.ofNat why.toNat, 0, 0, 0] ++ (beg E 28).data.toList := by
    unfold tellBody
    rw [data_append]
    simp [strOfNums]
  refine ⟨?_, ?_, ?_⟩
  · apply eq_of_bt
    · rw [size_ext, tellBody_size, beg_size]; omega
    · intro i hi
      rw [size_ext, tellBody_size] at hi
      rw [bt_ext _ _ _ _ (by rw [tellBody_size]; omega)]
      unfold tellBody
      have h := bt_right (strOfNums [why, 0, 0, 0]) (beg E 28) i
      rw [hl] at h
      exact h
  · rw [ByteArray.toList_eq]
    have : ((tellBody why E).extract 1 4).data.toList = ((tellBody why E).data.toList.drop 1).take 3 := by simp
    rw [this, hd]
    simp
  · intro h9 he
    rw [ByteArray.toList_eq] at he
    have : ((tellBody why E).extract 0 4).data.toList = ((tellBody why E).data.toList.drop 0).take 4 := by simp
    rw [this, hd] at he
    simp only [List.drop_zero, List.cons_append, List.take_succ_cons, List.cons.injEq] at he
    have h2 := congrArg UInt8.toNat he.1
    simp at h2
    omega

end Go.Proofs.Ythepnjbefngooaa.H
