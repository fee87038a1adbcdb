/- Reading a row of packets; the fixed example of a division; what the pieces are: plain lemmas. No conditions. -/
import Derived.Deep.QuietTactic
import Derived.BigQuiet
import Derived.Test.YtlhfkkionaemhaaHCutLoop
namespace Go.Proofs.Ytlhfkkionaemhaa.H
set_option linter.unusedSimpArgs false
set_option linter.unusedVariables false
open Go Go.RowKit Go.Proofs.YtlhfkkionaemhaaW.PrintWords Go.Proofs.YtlhfkkionaemhaaW.PrintLast Go.Proofs.YtlhfkkionaemhaaW.PrintMore Go.Proofs.Ytlhfkkionaemhaa.Plain

theorem flat_getC {α β : Type} (f : α → List β) (s : Nat) (hf : ∀ x, (f x).length = s) : ∀ (l : List α) (i : Nat) (hi : i < l.length) (j : Nat), j < s → (l.flatMap f)[i * s + j]? = (f l[i])[j]?
  | [], i, hi, j, hj => absurd hi (by simp)
  | x :: l, 0, hi, j, hj => by
    rw [List.flatMap_cons, Nat.zero_mul, Nat.zero_add, List.getElem?_append_left (by rw [hf]; exact hj)]
    rfl
  | x :: l, i + 1, hi, j, hj => by
    rw [List.flatMap_cons, List.getElem?_append_right (by rw [hf, Nat.succ_mul]; omega), hf, show (i + 1) * s + j - s = i * s + j by rw [Nat.succ_mul]; omega]
    exact flat_getC f s hf l i (by simpa using hi) j hj
/-- An element of a row of packets, read. -/
theorem own_read {W : World} {base : Nat} {v : Value} {a0 a1 a2 a3 a4 : Int} {a7 : Bool} {l : List (Int × Bool × ByteArray)} {n : Nat} (h : W.ownsRow base 32 9 v n (l.flatMap (pcells a0 a1 a2 a3 a4 a7))) (hn : n = l.length) (hl : 0 < n) :
    ∃ g cap, v = .slice (some ⟨g, 0, none⟩) n cap ∧ base ≤ g ∧ g < W.heap.size ∧ ∀ i (hi : i < l.length), ∀ j u, (pcells a0 a1 a2 a3 a4 a7 l[i])[j]? = some u → W.cell? ⟨g, i * 9 + j, none⟩ = some u := by
  subst hn
  obtain ⟨hlen, h⟩ := h
  rcases h with ⟨rfl, h⟩ | ⟨g, cap, cur, rfl, hg, hh, h1, h2, h3, h4⟩
  · omega
  · refine ⟨g, cap, rfl, hg, blk_lt hh, fun i hi j u hu => ?_⟩
    have hj : j < 9 := by
      have := (List.getElem?_eq_some_iff.mp hu).1
      simpa [pcells] using this
    rw [blk_cell hh, ← hu, ← flat_getC (pcells a0 a1 a2 a3 a4 a7) 9 (fun _ => rfl) l i hi j hj, ← h4, List.getElem?_take_of_lt (by omega)]
    simp

theorem lives_calls (w : World) : Calls Try.prog 14 #[] w fun e w' => e = .returned (.bool true) ∧ Below w.heap.size w w' := by
  have hp : pieces ((28 : Int) - 20).toNat false (⟨#[97, 98, 99, 100, 101, 102, 103, 104, 105, 106, 107, 108, 109, 110, 111, 112, 113, 114, 115, 116]⟩ : ByteArray).size 0 ⟨#[97, 98, 99, 100, 101, 102, 103, 104, 105, 106, 107, 108, 109, 110, 111, 112, 113, 114, 115, 116]⟩ = [(0, true, ⟨#[97, 98, 99, 100, 101, 102, 103, 104]⟩), (8, true, ⟨#[105, 106, 107, 108, 109, 110, 111, 112]⟩), (16, false, ⟨#[113, 114, 115, 116]⟩)] := by kernel_rfl
  have hc : ∀ W, Calls Try.prog 16 #[.agg #[.int .u32 0, .int .u32 0, .int .i64 0, .int .i64 1, .int .i64 0, .int .i64 0, .bool false, .bool false, .string ⟨#[97, 98, 99, 100, 101, 102, 103, 104, 105, 106, 107, 108, 109, 110, 111, 112, 113, 114, 115, 116]⟩], .int .i64 28] W fun e w' =>
      ∃ g cap, e = .returned (.tuple #[.slice (some ⟨g, 0, none⟩) 3 cap, .int .i64 0]) ∧ w'.cell? ⟨g, 26, none⟩ = some (.string ⟨#[113, 114, 115, 116]⟩) ∧ Below W.heap.size W w' := fun W => by
    refine (cut_calls 0 0 0 1 0 0 false false ⟨#[97, 98, 99, 100, 101, 102, 103, 104, 105, 106, 107, 108, 109, 110, 111, 112, 113, 114, 115, 116]⟩ 28 (by kernel_rfl) (by decide) (by decide) (by decide) (by decide) (by decide) W).mono ?_
    rintro e w' ⟨v, rfl, hown, hb⟩
    rw [hp] at hown
    obtain ⟨g, cap, rfl, hg, hgl, hr⟩ := own_read hown rfl (by decide)
    exact ⟨g, cap, rfl, hr 2 (by decide) 8 _ rfl, hb⟩
  clear hp
  go_enter Try.func14, Try.ntmps14
  go_wp2_with (go_at_call 16; refine (hc _).mono ?_; rintro e w1 ⟨g, cap, rfl, hr, hb⟩)
  go_ret
  exact ⟨rfl, hb⟩

/-! ### what the pieces are -/
theorem ext_join (b : ByteArray) (m : Nat) (h : m ≤ b.size) : b = b.extract 0 m ++ b.extract m b.size := by
  apply eq_of_bt
  · rw [ByteArray.size_append, size_ext, size_ext]; omega
  · intro i hi
    by_cases hm : i < m
    · rw [bt_left _ _ _ (by rw [size_ext]; omega), bt_ext _ _ _ _ (by omega), Nat.zero_add]
    · obtain ⟨j, rfl⟩ : ∃ j, i = m + j := ⟨i - m, by omega⟩
      have e := bt_right (b.extract 0 m) (b.extract m b.size) j
      rw [size_ext, show min m b.size - 0 = m by omega] at e
      rw [e, bt_ext _ _ _ _ (by omega)]
theorem app_assoc (a b c : ByteArray) : a ++ b ++ c = a ++ (b ++ c) := by
  apply ByteArray.ext; simp
theorem app_nil (a b : ByteArray) (h : b.size = 0) : a ++ b = a := by
  apply eq_of_bt
  · rw [ByteArray.size_append, h]; omega
  · intro i hi
    rw [ByteArray.size_append, h] at hi
    exact bt_left _ _ _ (by omega)
theorem nil_app (a b : ByteArray) (h : a.size = 0) : a ++ b = b := by
  apply eq_of_bt
  · rw [ByteArray.size_append, h]; omega
  · intro i hi
    have e := bt_right a b i
    rw [h, Nat.zero_add] at e
    exact e

/-- The pieces lie one behind the other from a place on, and their bytes are those of a body. -/
def Chain : Int → List (Int × Bool × ByteArray) → ByteArray → Prop
  | _, [], b => b.size = 0
  | p, x :: t, b => x.1 = p ∧ ∃ rest, b = x.2.2 ++ rest ∧ Chain (p + x.2.2.size) t rest

theorem pieces_chain (lim : Nat) (more : Bool) : ∀ (d : Nat) (off : Int) (b : ByteArray), Chain off (pieces lim more d off b) b
  | 0, off, b => ⟨rfl, ⟨#[]⟩, (app_nil _ _ rfl).symm, rfl⟩
  | d + 1, off, b => by
    unfold pieces
    split
    · exact ⟨rfl, ⟨#[]⟩, (app_nil _ _ rfl).symm, rfl⟩
    · refine ⟨rfl, b.extract (lim / 8 * 8) b.size, ext_join b _ (by omega), ?_⟩
      have e : (((b.extract 0 (lim / 8 * 8)).size : Nat) : Int) = (lim / 8 * 8 : Nat) := by rw [size_ext]; omega
      show Chain (off + ((b.extract 0 (lim / 8 * 8)).size : Nat)) _ _
      rw [e]
      exact pieces_chain lim more d _ _

/-- A piece that may be encoded and divided again. -/
def OkPiece (most : Int) (x : Int × Bool × ByteArray) : Prop :=
  0 ≤ x.1 ∧ x.1 % 8 = 0 ∧ x.1 + x.2.2.size ≤ most ∧ (x.2.1 = true → x.2.2.size % 8 = 0) ∧ ((x.2.1 = true ∨ 0 < x.1) → 0 < x.2.2.size)

theorem pieces_ok (lim : Nat) (hl : 8 ≤ lim) (more : Bool) (most : Int) : ∀ (d : Nat) (off : Int) (b : ByteArray), OkPiece most (off, more, b) → ∀ x ∈ pieces lim more d off b, OkPiece most x
  | 0, off, b, h, x, hx => by
    simp only [pieces, List.mem_singleton] at hx
    subst hx; exact h
  | d + 1, off, b, h, x, hx => by
    unfold pieces at hx
    split at hx
    · simp only [List.mem_singleton] at hx
      subst hx; exact h
    · obtain ⟨h0, h1, h2, h3, h4⟩ := h
      simp only at h0 h1 h2 h3 h4
      have e := size_ext b 0 (lim / 8 * 8)
      have e' := size_ext b (lim / 8 * 8) b.size
      rcases List.mem_cons.mp hx with rfl | hx
      · refine ⟨h0, h1, ?_, ?_, ?_⟩
        · simp only; omega
        · intro _; simp only; omega
        · intro _; simp only; omega
      · refine pieces_ok lim hl more most d _ _ ?_ x hx
        refine ⟨by simp only; omega, by simp only; omega, by simp only; omega, ?_, ?_⟩
        · intro hm; have := h3 hm; simp only; omega
        · intro _; simp only; omega

theorem check_ok {a2 a3 a4 off : Int} {m : Bool} {s : Nat} {most : Int} {b : ByteArray} (h2 : 0 ≤ a2 ∧ a2 ≤ 255) (h3 : 1 ≤ a3 ∧ a3 ≤ 255) (h4 : 0 ≤ a4 ∧ a4 ≤ 65535) (h : OkPiece most (off, m, b)) (hm : most ≤ 1500) (hs : s = b.size) :
    checkv a2 a3 a4 off m false s = 0 := by
  subst hs
  obtain ⟨k0, k1, k2, k3, k4⟩ := h
  simp only at k0 k1 k2 k3 k4
  unfold checkv
  rw [if_neg (by omega), if_neg (by omega), if_neg]
  rintro (h | ⟨h, h'⟩ | ⟨h, h' | h'⟩)
  · omega
  · have := k3 h; omega
  · have := k4 h; omega
  · cases h'
theorem wrong_ok {a2 a3 a4 off : Int} {m : Bool} {most n : Int} {b : ByteArray} (h2 : 0 ≤ a2 ∧ a2 ≤ 255) (h3 : 1 ≤ a3 ∧ a3 ≤ 255) (h4 : 0 ≤ a4 ∧ a4 ≤ 65535) (h : OkPiece most (off, m, b)) (hm : most ≤ 1500) (hn : 28 ≤ n) (hn' : n ≤ 1520) :
    wrongv a2 a3 a4 off m false b.size n = 0 := by
  unfold wrongv
  rw [check_ok h2 h3 h4 h hm rfl, if_neg (by omega), if_neg (by omega), if_neg (by simp)]

end Go.Proofs.Ytlhfkkionaemhaa.H
