/- join: what pieces of a body come to, whatever their order: plain lists and numbers. No program in sight. -/
import Derived.Test.YtlhfkkionaemhaaHJoinModel
namespace Go.Proofs.Ytlhfkkionaemhaa.H
set_option linter.unusedSimpArgs false
set_option linter.unusedVariables false
open Go Go.RowKit Go.Maps Go.Proofs.YtlhfkkionaemhaaW.PrintWords Go.Proofs.YtlhfkkionaemhaaW.PrintLast Go.Proofs.YtlhfkkionaemhaaW.PrintMore Go.Proofs.Ytlhfkkionaemhaa.Plain

/-- A part of a body. -/
def seg (B : ByteArray) (a n : Int) : ByteArray := B.extract a.toNat (a.toNat + n.toNat)
theorem seg_size {B : ByteArray} {a n : Int} (ha : 0 ≤ a) (hn : 0 ≤ n) (h : a + n ≤ B.size) : ((seg B a n).size : Int) = n := by unfold seg; rw [size_ext]; omega
theorem seg_bt {B : ByteArray} {a n : Int} (ha : 0 ≤ a) (hn : 0 ≤ n) (h : a + n ≤ B.size) (i : Nat) (hi : (i : Int) < n) : bt (seg B a n) i = bt B ((a.toNat + i : Nat) : Int) := by
  unfold seg
  rw [bt_ext _ _ _ _ (by omega)]
/-- The first bytes of a part are a part. -/
theorem seg_head {B : ByteArray} {a n m : Int} (ha : 0 ≤ a) (hm : 0 ≤ m) (hmn : m ≤ n) (h : a + n ≤ B.size) : (seg B a n).extract 0 m.toNat = seg B a m := by
  have s1 := seg_size ha (by omega) h
  have s2 := seg_size (B := B) (a := a) (n := m) ha hm (by omega)
  apply eq_of_bt
  · rw [size_ext]; omega
  · intro i hi
    rw [size_ext] at hi
    rw [bt_ext _ _ _ _ (by omega), Nat.zero_add, seg_bt ha (by omega) h i (by omega), seg_bt ha hm (by omega) i (by omega)]
/-- The bytes behind are a part too. -/
theorem seg_tail {B : ByteArray} {a n m : Int} (ha : 0 ≤ a) (hm : 0 ≤ m) (hmn : m ≤ n) (h : a + n ≤ B.size) : (seg B a n).extract m.toNat (seg B a n).size = seg B (a + m) (n - m) := by
  have s1 := seg_size ha (by omega) h
  have s2 := seg_size (B := B) (a := a + m) (n := n - m) (by omega) (by omega) (by omega)
  apply eq_of_bt
  · rw [size_ext]; omega
  · intro i hi
    rw [size_ext] at hi
    rw [bt_ext _ _ _ _ (by omega), seg_bt ha (by omega) h (m.toNat + i) (by omega), seg_bt (by omega) (by omega) (by omega) i (by omega)]
    congr 1
    omega
theorem seg_all (B : ByteArray) : seg B 0 B.size = B := by unfold seg; simp

/-- Pieces of a body, increasing and disjoint, from a place on. -/
def Sub (B : ByteArray) : Int → List (Int × ByteArray) → Prop
  | _, [] => True
  | a, y :: ps => a ≤ y.1 ∧ 0 < y.2.size ∧ y.1 + y.2.size ≤ B.size ∧ y.2 = seg B y.1 y.2.size ∧ Sub B (y.1 + y.2.size) ps
theorem Sub.mono {B : ByteArray} {a b : Int} : ∀ {ps : List (Int × ByteArray)}, Sub B a ps → b ≤ a → Sub B b ps
  | [], _, _ => trivial
  | _ :: _, h, hb => ⟨Int.le_trans hb h.1, h.2⟩
theorem Sub.from_ {B : ByteArray} : ∀ {ps : List (Int × ByteArray)} {a : Int}, Sub B a ps → ∀ y ∈ ps, a ≤ y.1
  | [], _, _, y, hy => by cases hy
  | z :: ps, a, h, y, hy => by
    rcases List.mem_cons.mp hy with rfl | hy
    · exact h.1
    · have := h.2.2.2.2.from_ y hy
      have := h.1
      have := h.2.1
      omega
/-- A place that some piece holds. -/
def Cov (ps : List (Int × ByteArray)) (x : Int) : Prop := ∃ y ∈ ps, y.1 ≤ x ∧ x < y.1 + y.2.size
theorem cov_cons {y : Int × ByteArray} {ps : List (Int × ByteArray)} {x : Int} : Cov (y :: ps) x ↔ (y.1 ≤ x ∧ x < y.1 + y.2.size) ∨ Cov ps x := by
  unfold Cov
  simp
theorem cov_nil {x : Int} : ¬ Cov [] x := by rintro ⟨y, hy, _⟩; cases hy

/-- What is new of a fragment keeps the pieces in order. -/
theorem ins_sub (B : ByteArray) : ∀ (ps : List (Int × ByteArray)) (a at_ n : Int), 0 ≤ a → Sub B a ps → 0 ≤ at_ → 0 ≤ n → at_ + n ≤ B.size → (n = 0 ∨ a ≤ at_) →
    Sub B a (ins at_ (seg B at_ n) ps) ∧ ∀ x, Cov (ins at_ (seg B at_ n) ps) x ↔ Cov ps x ∨ (at_ ≤ x ∧ x < at_ + n)
  | [], a, at_, n, ha, _, h0, hn, hB, hd => by
    have hs := seg_size h0 hn hB
    rw [ins]
    by_cases c : (seg B at_ n).size = 0
    · rw [if_pos c]
      refine ⟨trivial, fun x => ⟨fun h => absurd h cov_nil, fun h => ?_⟩⟩
      rcases h with h | h
      · exact h
      · omega
    · rw [if_neg c]
      refine ⟨⟨by show a ≤ at_; omega, by show 0 < (seg B at_ n).size; omega, by show at_ + ((seg B at_ n).size : Int) ≤ _; omega, by show seg B at_ n = seg B at_ ((seg B at_ n).size : Int); rw [hs], trivial⟩, fun x => ?_⟩
      rw [cov_cons]
      show (at_ ≤ x ∧ x < at_ + ((seg B at_ n).size : Int)) ∨ _ ↔ _
      rw [hs]
      exact ⟨fun h => h.symm, fun h => h.symm⟩
  | (yf, ys) :: ps, a, at_, n, ha, hS, h0, hn, hB, hd => by
    obtain ⟨s1, s2, s3, s4, s5⟩ := hS
    simp only at s1 s2 s3 s4 s5
    have hs := seg_size h0 hn hB
    have hT : ∀ (t k : Int), 0 ≤ t → 0 ≤ k → t + k ≤ B.size → (k = 0 ∨ yf ≤ t) → (Sub B (yf + ys.size) (insT t (seg B t k) (yf + ys.size) ps) ∧ ∀ x, (Cov (insT t (seg B t k) (yf + ys.size) ps) x ∨ (yf ≤ x ∧ x < yf + ys.size)) ↔ (Cov ps x ∨ (t ≤ x ∧ x < t + k) ∨ (yf ≤ x ∧ x < yf + ys.size))) := by
      intro t k ht hk htk hkd
      have hsk := seg_size ht hk htk
      by_cases c : 0 < mn ((seg B t k).size : Int) (yf + ys.size - t)
      · rw [insT_yes rfl c]
        rw [hsk] at c ⊢
        have hm1 : mn k (yf + ys.size - t) ≤ k := mn_le_l _ _
        have hm2 : mn k (yf + ys.size - t) ≤ yf + ys.size - t := mn_le_r _ _
        have hm3 : mn k (yf + ys.size - t) = k ∨ mn k (yf + ys.size - t) = yf + ys.size - t := by rw [mn_eq]; split <;> simp
        generalize mn k (yf + ys.size - t) = m at c hm1 hm2 hm3
        rw [show (seg B t k).extract m.toNat (seg B t k).size = seg B (t + m) (k - m) from seg_tail ht (by omega) hm1 htk]
        obtain ⟨i1, i2⟩ := ins_sub B ps (yf + ys.size) (t + m) (k - m) (by omega) s5 (by omega) (by omega) (by omega) (by omega)
        refine ⟨i1, fun x => ?_⟩
        rw [i2]
        constructor
        · rintro ((h | h) | h)
          · exact .inl h
          · exact .inr (.inl (by omega))
          · exact .inr (.inr h)
        · rintro (h | h | h)
          · exact .inl (.inl h)
          · by_cases hx : yf + ys.size ≤ x
            · exact .inl (.inr (by omega))
            · exact .inr (by omega)
          · exact .inr h
      · rw [insT_no rfl c]
        rw [hsk] at c
        have hc : k = 0 ∨ yf + ys.size ≤ t := by rw [mn_eq] at c; split at c <;> omega
        obtain ⟨i1, i2⟩ := ins_sub B ps (yf + ys.size) t k (by omega) s5 ht hk htk hc
        refine ⟨i1, fun x => ?_⟩
        rw [i2]
        constructor
        · rintro ((h | h) | h)
          · exact .inl h
          · exact .inr (.inl h)
          · exact .inr (.inr h)
        · rintro (h | h | h)
          · exact .inl (.inl h)
          · exact .inl (.inr h)
          · exact .inr h
    by_cases c : 0 < mn ((seg B at_ n).size : Int) (yf - at_)
    · rw [ins_yes rfl c]
      rw [hs] at c ⊢
      have hm1 : mn n (yf - at_) ≤ n := mn_le_l _ _
      have hm2 : mn n (yf - at_) ≤ yf - at_ := mn_le_r _ _
      have hm3 : mn n (yf - at_) = n ∨ mn n (yf - at_) = yf - at_ := by rw [mn_eq]; split <;> simp
      generalize mn n (yf - at_) = m at c hm1 hm2 hm3
      rw [seg_head h0 (by omega) hm1 hB, seg_tail h0 (by omega) hm1 hB]
      obtain ⟨t1, t2⟩ := hT (at_ + m) (n - m) (by omega) (by omega) (by omega) (by omega)
      have hsm := seg_size (B := B) (a := at_) (n := m) h0 (by omega) (by omega)
      refine ⟨⟨by show a ≤ at_; omega, by show 0 < (seg B at_ m).size; omega, by show at_ + ((seg B at_ m).size : Int) ≤ _; omega, by show seg B at_ m = seg B at_ ((seg B at_ m).size : Int); rw [hsm], ⟨by show at_ + ((seg B at_ m).size : Int) ≤ yf; omega, s2, s3, s4, t1⟩⟩, fun x => ?_⟩
      rw [List.singleton_append, cov_cons, cov_cons, cov_cons]
      show (at_ ≤ x ∧ x < at_ + ((seg B at_ m).size : Int)) ∨ (yf ≤ x ∧ x < yf + ys.size) ∨ _ ↔ ((yf ≤ x ∧ x < yf + ys.size) ∨ _) ∨ _
      rw [hsm]
      have h2 := t2 x
      constructor
      · rintro (h | h | h)
        · exact .inr (by omega)
        · exact .inl (.inl h)
        · rcases h2.mp (.inl h) with h | h | h
          · exact .inl (.inr h)
          · exact .inr (by omega)
          · exact .inl (.inl h)
      · rintro ((h | h) | h)
        · exact .inr (.inl h)
        · rcases h2.mpr (.inl h) with h | h
          · exact .inr (.inr h)
          · exact .inr (.inl h)
        · by_cases hx : x < at_ + m
          · exact .inl (by omega)
          · rcases h2.mpr (.inr (.inl (by omega))) with h | h
            · exact .inr (.inr h)
            · exact .inr (.inl h)
    · rw [ins_no rfl c]
      rw [hs] at c
      have hc : n = 0 ∨ yf ≤ at_ := by rw [mn_eq] at c; split at c <;> omega
      obtain ⟨t1, t2⟩ := hT at_ n h0 hn hB hc
      refine ⟨⟨s1, s2, s3, s4, t1⟩, fun x => ?_⟩
      rw [cov_cons, cov_cons]
      show (yf ≤ x ∧ x < yf + ys.size) ∨ _ ↔ ((yf ≤ x ∧ x < yf + ys.size) ∨ _) ∨ _
      have h2 := t2 x
      constructor
      · rintro (h | h)
        · exact .inl (.inl h)
        · rcases h2.mp (.inl h) with h | h | h
          · exact .inl (.inr h)
          · exact .inr h
          · exact .inl (.inl h)
      · rintro ((h | h) | h)
        · exact .inl h
        · exact (h2.mpr (.inl h)).symm
        · exact (h2.mpr (.inr (.inl h))).symm

theorem seg_list (B : ByteArray) (a n m : Int) (ha : 0 ≤ a) (hn : 0 ≤ n) (hm : 0 ≤ m) (h : a + n + m ≤ B.size) : (seg B a n).data.toList ++ (seg B (a + n) m).data.toList = (seg B a (n + m)).data.toList := by
  have e : seg B a n ++ seg B (a + n) m = seg B a (n + m) := by
    have s1 := seg_size (B := B) ha hn (by omega)
    have s2 := seg_size (B := B) (a := a + n) (n := m) (by omega) hm (by omega)
    have s3 := seg_size (B := B) (a := a) (n := n + m) ha (by omega) (by omega)
    apply eq_of_bt
    · rw [ByteArray.size_append]; omega
    · intro i hi
      rw [ByteArray.size_append] at hi
      by_cases c : i < (seg B a n).size
      · rw [bt_left _ _ _ c, seg_bt ha hn (by omega) i (by omega), seg_bt ha (by omega) (by omega) i (by omega)]
      · obtain ⟨j, rfl⟩ : ∃ j, i = (seg B a n).size + j := ⟨i - (seg B a n).size, by omega⟩
        rw [bt_right, seg_bt (by omega) hm (by omega) j (by omega), seg_bt ha (by omega) (by omega) _ (by omega)]
        congr 1
        omega
  rw [← data_append, e]
/-- The pieces one behind the other are a part of the body, and all of that part is there. -/
theorem joinS_some (B : ByteArray) : ∀ (ps : List (Int × ByteArray)) (a : Int) (l : List UInt8) (r : Int), 0 ≤ a → a ≤ B.size → Sub B a ps → joinS a ps = some (l, r) →
    a ≤ r ∧ r ≤ B.size ∧ l = (seg B a (r - a)).data.toList ∧ ∀ x, a ≤ x → x < r → Cov ps x
  | [], a, l, r, ha, hB, _, h => by
    simp only [joinS, Option.some.injEq, Prod.mk.injEq] at h
    obtain ⟨rfl, rfl⟩ := h
    refine ⟨Int.le_refl _, hB, ?_, fun x h1 h2 => by omega⟩
    have : ((seg B a (a - a)).size : Int) = a - a := seg_size ha (by omega) (by omega)
    exact (List.eq_nil_of_length_eq_zero (by rw [size_list]; omega)).symm
  | y :: ps, a, l, r, ha, hB, hS, h => by
    obtain ⟨s1, s2, s3, s4, s5⟩ := hS
    rw [joinS] at h
    split at h
    · rename_i hy
      simp only [Option.map_eq_some_iff, Prod.mk.injEq, Prod.exists] at h
      obtain ⟨l', r', hj, rfl, rfl⟩ := h
      obtain ⟨i1, i2, i3, i4⟩ := joinS_some B ps _ l' r' (by omega) (by omega) s5 hj
      refine ⟨by omega, i2, ?_, fun x h1 h2 => ?_⟩
      · rw [i3]
        have e := seg_list B a y.2.size (r' - (y.1 + y.2.size)) ha (by omega) (by omega) (by omega)
        rw [show (y.2.size : Int) + (r' - (y.1 + y.2.size)) = r' - a by omega] at e
        rw [← e, hy]
        congr 2
        rw [← hy]
        exact congrArg ByteArray.data s4
      · rw [cov_cons]
        by_cases c : x < y.1 + y.2.size
        · exact .inl ⟨by omega, c⟩
        · exact .inr (i4 x (by omega) h2)
    · cases h
theorem joinS_full (B : ByteArray) : ∀ (ps : List (Int × ByteArray)) (a : Int), 0 ≤ a → a ≤ B.size → Sub B a ps → (∀ x, a ≤ x → x < B.size → Cov ps x) → joinS a ps = some ((seg B a (B.size - a)).data.toList, (B.size : Int))
  | [], a, ha, hB, _, hc => by
    have e : a = B.size := by
      by_cases c : a < B.size
      · exact absurd (hc a (Int.le_refl _) c) cov_nil
      · omega
    rw [joinS, e]
    have : ((seg B B.size (B.size - B.size)).size : Int) = B.size - B.size := seg_size (by omega) (by omega) (by omega)
    rw [List.eq_nil_of_length_eq_zero (l := (seg B B.size (B.size - B.size)).data.toList) (by rw [size_list]; omega)]
  | y :: ps, a, ha, hB, hS, hc => by
    obtain ⟨s1, s2, s3, s4, s5⟩ := hS
    have hy : y.1 = a := by
      by_cases c : y.1 = a
      · exact c
      · rcases cov_cons.mp (hc a (Int.le_refl _) (by omega)) with h | ⟨z, hz, h1, h2⟩
        · omega
        · have := s5.from_ z hz
          omega
    rw [joinS, if_pos hy, joinS_full B ps _ (by omega) (by omega) s5 (fun x h1 h2 => by
      rcases cov_cons.mp (hc x (by omega) h2) with h | h
      · omega
      · exact h)]
    simp only [Option.map_some, Option.some.injEq, Prod.mk.injEq, and_true]
    have e := seg_list B a y.2.size (B.size - (y.1 + y.2.size)) ha (by omega) (by omega) (by omega)
    rw [show (y.2.size : Int) + (B.size - (y.1 + y.2.size)) = B.size - a by omega] at e
    rw [← e, hy]
    congr 2
    rw [← hy]
    exact congrArg ByteArray.data s4

/-! ### fragments of one packet -/
/-- A packet that is no fragment and may be divided. -/
structure Base (P : Pk) : Prop where
  proto : 0 ≤ P.proto ∧ P.proto ≤ 255
  ttl : 1 ≤ P.ttl ∧ P.ttl ≤ 255
  id : 0 ≤ P.id ∧ P.id ≤ 65535
  off : P.off = 0
  more : P.more = false
  whole : P.whole = false
  size : P.body.size ≤ 1500
/-- A part of a packet. -/
structure IsFrag (P f : Pk) : Prop where
  src : f.src = P.src
  dst : f.dst = P.dst
  proto : f.proto = P.proto
  ttl : f.ttl = P.ttl
  id : f.id = P.id
  whole : f.whole = false
  off : 0 ≤ f.off
  off8 : f.off % 8 = 0
  size : 0 < f.body.size
  size8 : f.more = true → f.body.size % 8 = 0
  inside : f.off + f.body.size ≤ P.body.size
  body : f.body = seg P.body f.off f.body.size
  more : f.more = true ↔ f.off + f.body.size < P.body.size
theorem IsFrag.chk {P f : Pk} (hP : Base P) (h : IsFrag P f) : f.chk = 0 := by
  have h1 := hP.proto; have h2 := hP.ttl; have h3 := hP.id; have h4 := hP.size
  have g1 := h.proto; have g2 := h.ttl; have g3 := h.id; have g4 := h.whole; have g5 := h.off; have g6 := h.off8; have g7 := h.size; have g8 := h.size8; have g9 := h.inside
  unfold Pk.chk checkv
  rw [if_neg (by omega), if_neg (by omega), if_neg]
  rintro (c | ⟨c, c2⟩ | ⟨_, c | c⟩)
  · omega
  · exact c2 (g8 c)
  · omega
  · rw [g4] at c; cases c
theorem IsFrag.key {P f : Pk} (h : IsFrag P f) : f.key = P.key := by
  unfold Pk.key
  rw [h.src, h.dst, h.proto, h.id]
/-- What an entry of a packet knows. -/
structure EInv (P : Pk) (e : Ent) : Prop where
  key : e.key = P.key
  sub : Sub P.body 0 e.ps
  end_ : e.end_ = -1 ∨ e.end_ = P.body.size
  most : e.most < P.body.size
  ttl : e.has = true → e.first.ttl = P.ttl
  has : Cov e.ps 0 → e.has = true
/-- All of it is there. -/
def Full (P : Pk) (e : Ent) : Prop := e.end_ = P.body.size ∧ ∀ x : Int, 0 ≤ x → x < P.body.size → Cov e.ps x
def fresh (P : Pk) (now : Int) : Ent := ⟨P.src, P.dst, P.proto, P.id, now, zeroPk, false, [], 0, -1⟩
theorem fresh_inv {P : Pk} (now : Int) (hs : 0 < P.body.size) : EInv P (fresh P now) :=
  ⟨rfl, trivial, .inl rfl, by show (0 : Int) < _; omega, (fun h => by cases h), fun h => absurd h cov_nil⟩
theorem ent_fresh {P f : Pk} (h : IsFrag P f) (now : Int) : f.ent now = (fresh P now).add f := by
  unfold Pk.ent fresh
  rw [h.src, h.dst, h.proto, h.id]
theorem frag_ins {P f : Pk} {e : Ent} (h : IsFrag P f) (he : EInv P e) : Sub P.body 0 (e.add f).ps ∧ ∀ x, Cov (e.add f).ps x ↔ Cov e.ps x ∨ (f.off ≤ x ∧ x < f.off + f.body.size) := by
  have k := ins_sub P.body e.ps 0 f.off f.body.size (Int.le_refl _) he.sub h.off (by omega) h.inside (.inr h.off)
  rw [← h.body] at k
  exact k
theorem add_inv {P f : Pk} {e : Ent} (h : IsFrag P f) (he : EInv P e) : EInv P (e.add f) ∧ (∀ x, Cov (e.add f).ps x ↔ Cov e.ps x ∨ (f.off ≤ x ∧ x < f.off + f.body.size)) ∧ ((e.add f).end_ = P.body.size ↔ e.end_ = P.body.size ∨ f.more = false) ∧ e.wrong f = false := by
  obtain ⟨k1, k2⟩ := frag_ins h he
  have hm := h.more
  have hi := h.inside
  have hz := h.size
  have ho := h.off
  have hmo := he.most
  refine ⟨⟨he.key, k1, ?_, ?_, ?_, ?_⟩, k2, ?_, ?_⟩
  · have q : (e.add f).end_ = if f.more = true then e.end_ else f.off + f.body.size := rfl
    rw [q]
    split
    · exact he.end_
    · rename_i c
      have : ¬ (f.off + f.body.size < P.body.size) := fun q => c (hm.mpr q)
      omega
  · show (if f.more = true then (if e.most < f.off + f.body.size then f.off + f.body.size else e.most) else e.most) < _
    split
    · rename_i c
      have := hm.mp c
      split
      · exact this
      · exact hmo
    · exact hmo
  · show (e.has || decide (f.off = 0)) = true → (if f.off = 0 ∧ e.has = false then f else e.first).ttl = P.ttl
    intro hh
    by_cases c : f.off = 0 ∧ e.has = false
    · rw [if_pos c]; exact h.ttl
    · rw [if_neg c]
      refine he.ttl ?_
      cases h0 : e.has with
      | true => rfl
      | false =>
        rw [h0] at hh c
        simp at hh c
        exact absurd hh c
  · show Cov (e.add f).ps 0 → (e.has || decide (f.off = 0)) = true
    intro hc
    rcases (k2 0).mp hc with q | q
    · rw [he.has q]; rfl
    · have : f.off = 0 := by omega
      simp [this]
  · show (if f.more = true then e.end_ else f.off + f.body.size) = _ ↔ _
    cases c : f.more with
    | true => simp
    | false =>
      have : ¬ (f.off + f.body.size < P.body.size) := fun q => by rw [hm.mpr q] at c; cases c
      simp
      omega
  · unfold Ent.wrong
    cases c : f.more with
    | true =>
      have q := hm.mp c
      simp only [if_true]
      rw [decide_eq_false]
      rcases he.end_ with h1 | h1 <;> omega
    | false =>
      have q : ¬ (f.off + f.body.size < P.body.size) := fun q => by rw [hm.mpr q] at c; cases c
      simp only [Bool.false_eq_true, if_false]
      rw [decide_eq_false]
      rcases he.end_ with h1 | h1 <;> omega
theorem key_fields {a b : Pk} {e : Ent} (h : e.key = b.key) : e.src = b.src ∧ e.dst = b.dst ∧ e.proto = b.proto ∧ e.id = b.id := by
  unfold Ent.key Pk.key at h
  simp only [Pk.mk.injEq] at h
  exact ⟨h.1, h.2.1, h.2.2.1, h.2.2.2.2.1⟩
theorem joined_full {P : Pk} {e : Ent} (hP : Base P) (he : EInv P e) (hs : 0 < P.body.size) (hf : Full P e) : e.joined = some P.body ∧ e.out P.body = P := by
  constructor
  · unfold Ent.joined
    rw [joinS_full P.body e.ps 0 (Int.le_refl _) (by omega) he.sub hf.2]
    simp only [Option.bind_some]
    rw [if_pos hf.1.symm, show (P.body.size : Int) - 0 = P.body.size by omega, seg_all]
  · obtain ⟨k1, k2, k3, k4⟩ := key_fields (a := P) he.key
    have ht := he.ttl (he.has (hf.2 0 (Int.le_refl _) (by omega)))
    unfold Ent.out
    rw [k1, k2, k3, k4, ht]
    have h1 := hP.off; have h2 := hP.more; have h3 := hP.whole
    cases P
    simp only at h1 h2 h3
    subst h1 h2 h3
    rfl
theorem joined_not {P : Pk} {e : Ent} (he : EInv P e) (hf : ¬ Full P e) : e.joined = none := by
  cases h : e.joined with
  | none => rfl
  | some s =>
    exfalso
    unfold Ent.joined at h
    obtain ⟨r, hr, h2⟩ := Option.bind_eq_some_iff.1 h
    split at h2
    · rename_i hend
      obtain ⟨i1, i2, i3, i4⟩ := joinS_some P.body e.ps 0 r.1 r.2 (Int.le_refl _) (by omega) he.sub hr
      refine hf ⟨?_, fun x h1 h3 => i4 x h1 ?_⟩
      · rcases he.end_ with q | q
        · omega
        · exact q
      · rcases he.end_ with q | q <;> omega
    · cases h2
end Go.Proofs.Ytlhfkkionaemhaa.H
