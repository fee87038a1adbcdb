/- Plain lemmas on whole numbers, bytes and rounds: no program in sight; no conditions. -/
import Derived.Laws.BitsLemmas
import Derived.Test.YtlhfkkionaemhaaWMore
namespace Go.Proofs.Ytlhfkkionaemhaa.Plain
open Go Go.RowKit Go.Proofs.YtlhfkkionaemhaaW.PrintWords Go.Proofs.YtlhfkkionaemhaaW.PrintLast Go.Proofs.YtlhfkkionaemhaaW.PrintMore

/-! ### whole numbers -/
theorem w64 {n : Int} (h0 : -9223372036854775808 ≤ n) (h1 : n ≤ 9223372036854775807) : wrap64 n = n := by unfold wrap64; omega
theorem wu64 (n : Int) : IntKind.u64.wrap n = n % 18446744073709551616 := by simp [IntKind.wrap, IntKind.bits, IntKind.signed]
theorem wraps_i64 (n : Int) (h₀ : 0 ≤ n) (h₁ : n < 2 ^ 63) : IntKind.i64.wrap n = n := by rw [IntKind.wrap_i64]; omega
theorem mask16 {x : Int} (h0 : 0 ≤ x) (h1 : x < 9223372036854775808) : bits .and .i64 x 65535 = x % 65536 := by
  have := bits_mask .i64 63 (by decide) wraps_i64 16 (by decide) x h0 (by simpa using h1)
  simpa using this
theorem mn_eq (a b : Int) : mn a b = if b < a then b else a := rfl
theorem mx_eq (a b : Int) : mx a b = if a < b then b else a := rfl
theorem bits_and_nat (k : IntKind) (x : Int) (b : Nat) (hb : b < 2 ^ k.bits) : bits .and k x b = k.wrap (((x % 2 ^ k.bits).toNat &&& b : Nat) : Int) := by
  have hb' : b % 2 ^ k.bits = b := Nat.mod_eq_of_lt hb
  simp only [bits, BitVec.ofInt_natCast, BitVec.toNat_and, BitVec.toNat_ofNat, BitVec.toNat_ofInt, hb']
  rw [show ((2 ^ k.bits : Nat) : Int) = 2 ^ k.bits by simp]
theorem bits_xor_nat (k : IntKind) (a b : Nat) (ha : a < 2 ^ k.bits) (hb : b < 2 ^ k.bits) : bits .xor k a b = k.wrap ((a ^^^ b : Nat) : Int) := by
  have ha' : a % 2 ^ k.bits = a := Nat.mod_eq_of_lt ha
  have hb' : b % 2 ^ k.bits = b := Nat.mod_eq_of_lt hb
  simp only [bits, BitVec.ofInt_natCast, BitVec.toNat_xor, BitVec.toNat_ofNat, ha', hb']
theorem and_any255 (x : Int) : bits .and .i64 x 255 = x % 256 := by
  have h := bits_and_nat .i64 x 255 (by decide)
  rw [show (255 : Nat) = 2 ^ 8 - 1 by rfl, Nat.and_two_pow_sub_one_eq_mod, IntKind.wrap_i64] at h
  simp only [IntKind.bits] at h
  exact h.trans (by omega)
theorem and_any127 (x : Int) : bits .and .i64 x 127 = x % 128 := by
  have h := bits_and_nat .i64 x 127 (by decide)
  rw [show (127 : Nat) = 2 ^ 7 - 1 by rfl, Nat.and_two_pow_sub_one_eq_mod, IntKind.wrap_i64] at h
  simp only [IntKind.bits] at h
  exact h.trans (by omega)
theorem and_any65535 (x : Int) : bits .and .i64 x 65535 = x % 65536 := by
  have h := bits_and_nat .i64 x 65535 (by decide)
  rw [show (65535 : Nat) = 2 ^ 16 - 1 by rfl, Nat.and_two_pow_sub_one_eq_mod, IntKind.wrap_i64] at h
  simp only [IntKind.bits] at h
  exact h.trans (by omega)

theorem xor16 {v : Int} (h0 : 0 ≤ v) (h1 : v ≤ 65535) : bits .xor .i64 v 65535 = 65535 - v := by
  obtain ⟨a, rfl⟩ := Int.eq_ofNat_of_zero_le h0
  have ha : a < 2 ^ 16 := by omega
  have e : a ^^^ 65535 = 65535 - a := by
    apply Nat.eq_of_testBit_eq
    intro i
    have h2 := Nat.testBit_two_pow_sub_succ ha i
    have h3 := Nat.testBit_two_pow_sub_one 16 i
    rw [show 65535 - a = 2 ^ 16 - (a + 1) by omega, h2, Nat.testBit_xor, show (65535 : Nat) = 2 ^ 16 - 1 by rfl, h3]
    by_cases hi : i < 16
    · simp [hi]
    · have : a.testBit i = false := Nat.testBit_lt_two_pow (Nat.lt_of_lt_of_le ha (Nat.pow_le_pow_right (by decide) (by omega)))
      simp [hi, this]
  have e2 := bits_xor_nat .i64 a 65535 (by simp only [IntKind.bits]; omega) (by decide)
  rw [e, IntKind.wrap_i64] at e2
  exact e2.trans (by omega)

/-! ### rounds -/
theorem Ev.pos {α : Type} {c : Prop} [Decidable c] {t e : Nat → Option α} {r : α} (h : c) (k : Ev t r) : Ev (fun n => if c then t n else e n) r := by
  obtain ⟨K, hK⟩ := k; exact ⟨K, fun n hn => (if_pos h).trans (hK n hn)⟩
theorem Ev.neg {α : Type} {c : Prop} [Decidable c] {t e : Nat → Option α} {r : α} (h : ¬ c) (k : Ev e r) : Ev (fun n => if c then t n else e n) r := by
  obtain ⟨K, hK⟩ := k; exact ⟨K, fun n hn => (if_neg h).trans (hK n hn)⟩
theorem Ev.ret {α : Type} {a r : α} (h : a = r) : Ev (fun _ => some a) r := ⟨0, fun _ _ => by rw [h]⟩
theorem Ev.bindS {α β : Type} {a : α} {f : Nat → α → Option β} {r : β} (k : Ev (fun n => f n a) r) : Ev (fun n => (some a).bind (f n)) r := k
theorem Ev.bindK {α β : Type} {o : Option α} {f : Nat → α → Option β} {a : α} {r : β} (h : o = some a) (k : Ev (fun n => f n a) r) : Ev (fun n => o.bind (f n)) r := by
  subst h; exact k
theorem Ev.eq {α : Type} {g : Nat → Option α} {a r : α} (h : Ev g a) (e : a = r) : Ev g r := e ▸ h

/-! ### bytes -/
theorem bt_list (s : ByteArray) (i : Nat) : bt s i = (((s.data.toList)[i]?.getD 0).toNat : Int) := by
  unfold bt
  rw [Int.toNat_natCast]
  split
  · rename_i h
    have h' : i < s.data.toList.length := by simpa using h
    rw [List.getElem?_eq_getElem h']
    rfl
  · rename_i h
    rw [List.getElem?_eq_none (by simpa using h)]
    rfl
theorem data_append (a b : ByteArray) : (a ++ b).data.toList = a.data.toList ++ b.data.toList := by simp
theorem size_list (a : ByteArray) : a.data.toList.length = a.size := rfl
theorem bt_left (a b : ByteArray) (i : Nat) (h : i < a.size) : bt (a ++ b) i = bt a i := by
  rw [bt_list, bt_list, data_append, List.getElem?_append_left (by rw [size_list]; exact h)]
theorem bt_right (a b : ByteArray) (i : Nat) : bt (a ++ b) ((a.size + i : Nat) : Int) = bt b i := by
  rw [bt_list, bt_list, data_append, List.getElem?_append_right (by rw [size_list]; omega), size_list]
  simp
theorem bt_strOfNums (xs : List Int) (i : Nat) (h : i < xs.length) (h0 : 0 ≤ xs[i]) (h1 : xs[i] < 256) : bt (strOfNums xs) i = xs[i] := by
  rw [bt_list]
  simp [strOfNums, h]
  omega
theorem size_strOfNums (xs : List Int) : (strOfNums xs).size = xs.length := by
  simp [strOfNums, ByteArray.size]
theorem size_ext (s : ByteArray) (a b : Nat) : (s.extract a b).size = min b s.size - a := by simp
theorem bt_ext (s : ByteArray) (a b i : Nat) (h : i < min b s.size - a) : bt (s.extract a b) i = bt s ((a + i : Nat) : Int) := by
  rw [bt_list, bt_list]
  have e : (s.extract a b).data.toList = (s.data.toList.drop a).take (b - a) := by simp
  rw [e, List.getElem?_take_of_lt (by omega), List.getElem?_drop]
theorem eq_of_bt {a b : ByteArray} (hs : a.size = b.size) (h : ∀ i : Nat, i < a.size → bt a i = bt b i) : a = b := by
  apply ByteArray.ext
  apply Array.ext (by exact hs)
  intro i hi hj
  have := h i hi
  unfold bt at this
  rw [Int.toNat_natCast] at this
  rw [dif_pos (by exact hi), dif_pos (by exact hj)] at this
  have h2 : (a[i]'hi).toNat = (b[i]'hj).toNat := by exact_mod_cast this
  exact UInt8.toNat_inj.mp h2

end Go.Proofs.Ytlhfkkionaemhaa.Plain
