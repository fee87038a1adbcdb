/- join: the pieces of a division, in whatever order: when the packet is whole; what Table.In answers at a piece. Plain, but for the last. -/
import Derived.Test.YtlhfkkionaemhaaHJoinLaw
import Derived.Test.YtlhfkkionaemhaaHJoinMix2
namespace Go.Proofs.Ytlhfkkionaemhaa.H
set_option linter.unusedSimpArgs false
set_option linter.unusedVariables false
open Go Go.RowKit Go.Maps Go.Proofs.YtlhfkkionaemhaaW.PrintWords Go.Proofs.YtlhfkkionaemhaaW.PrintLast Go.Proofs.YtlhfkkionaemhaaW.PrintMore Go.Proofs.Ytlhfkkionaemhaa.Plain

/-- A piece of a body from a place on. -/
def Part (B : ByteArray) (off : Int) (x : Int × Bool × ByteArray) : Prop :=
  off ≤ x.1 ∧ x.1 % 8 = 0 ∧ 0 < x.2.2.size ∧ (x.2.1 = true → x.2.2.size % 8 = 0) ∧ x.1 + x.2.2.size ≤ B.size ∧ x.2.2 = seg B x.1 x.2.2.size ∧ (x.2.1 = true ↔ x.1 + x.2.2.size < B.size)
theorem pieces_parts (B : ByteArray) (lim : Nat) (h8 : 8 ≤ lim) : ∀ (d : Nat) (off : Int) (b : ByteArray), 0 ≤ off → off % 8 = 0 → off < B.size → b = seg B off (B.size - off) → b.size ≤ d →
    (∀ x ∈ pieces lim false d off b, Part B off x) ∧ (∀ y : Int, off ≤ y → y < B.size → ∃ x ∈ pieces lim false d off b, x.1 ≤ y ∧ y < x.1 + x.2.2.size) ∧ (pieces lim false d off b).Pairwise (fun x y : Int × Bool × ByteArray => x.1 + (x.2.2.size : Int) ≤ y.1)
  | 0, off, b, h0, h1, h2, hb, hd => by
    have hs := seg_size (B := B) (a := off) (n := B.size - off) h0 (by omega) (by omega)
    rw [← hb] at hs
    omega
  | d + 1, off, b, h0, h1, h2, hb, hd => by
    have hs := seg_size (B := B) (a := off) (n := B.size - off) h0 (by omega) (by omega)
    rw [← hb] at hs
    unfold pieces
    split
    · have hself : Part B off (off, false, b) := ⟨Int.le_refl _, h1, by show 0 < b.size; omega, (fun h => by cases h), by show off + (b.size : Int) ≤ _; omega, by show b = seg B off b.size; rw [hs]; exact hb, ⟨(fun h => by cases h), fun h => by have : off + (b.size : Int) < B.size := h; omega⟩⟩
      refine ⟨fun x hx => by rw [List.mem_singleton] at hx; subst hx; exact hself, fun y hy1 hy2 => ⟨_, List.mem_singleton.mpr rfl, hy1, by show y < off + (b.size : Int); omega⟩, List.pairwise_singleton _ _⟩
    · rename_i hlim
      have e1 : b.extract 0 (lim / 8 * 8) = seg B off (lim / 8 * 8 : Nat) := by
        have := seg_head (B := B) (a := off) (n := B.size - off) (m := (lim / 8 * 8 : Nat)) h0 (by omega) (by omega) (by omega)
        rw [← hb] at this
        exact this
      have e2 : b.extract (lim / 8 * 8) b.size = seg B (off + (lim / 8 * 8 : Nat)) (B.size - (off + (lim / 8 * 8 : Nat))) := by
        have := seg_tail (B := B) (a := off) (n := B.size - off) (m := (lim / 8 * 8 : Nat)) h0 (by omega) (by omega) (by omega)
        rw [← hb] at this
        rw [show (B.size : Int) - (off + (lim / 8 * 8 : Nat)) = B.size - off - (lim / 8 * 8 : Nat) by omega]
        exact this
      have s1 := seg_size (B := B) (a := off) (n := (lim / 8 * 8 : Nat)) h0 (by omega) (by omega)
      rw [← e1] at s1
      have s2 := size_ext b (lim / 8 * 8) b.size
      obtain ⟨i1, i2, i3⟩ := pieces_parts B lim h8 d (off + (lim / 8 * 8 : Nat)) (b.extract (lim / 8 * 8) b.size) (by omega) (by omega) (by omega) e2 (by omega)
      generalize hM : lim / 8 * 8 = M at *
      have hself : Part B off (off, true, b.extract 0 M) := ⟨Int.le_refl _, h1, by show 0 < (b.extract 0 M).size; omega, fun _ => by show (b.extract 0 M).size % 8 = 0; omega, by show off + ((b.extract 0 M).size : Int) ≤ _; omega, by show b.extract 0 M = seg B off (b.extract 0 M).size; rw [s1]; exact e1, ⟨fun _ => by show off + ((b.extract 0 M).size : Int) < _; omega, fun _ => rfl⟩⟩
      refine ⟨fun x hx => ?_, fun y hy1 hy2 => ?_, ?_⟩
      · rcases List.mem_cons.mp hx with rfl | hx
        · exact hself
        · obtain ⟨p1, p2⟩ := i1 x hx
          exact ⟨by omega, p2⟩
      · by_cases c : y < off + M
        · exact ⟨_, List.mem_cons_self, hy1, by show y < off + ((b.extract 0 M).size : Int); omega⟩
        · obtain ⟨x, hx, hh⟩ := i2 y (by omega) hy2
          exact ⟨x, List.mem_cons_of_mem _ hx, hh⟩
      · refine List.pairwise_cons.mpr ⟨fun x hx => ?_, i3⟩
        obtain ⟨p1, _⟩ := i1 x hx
        show off + ((b.extract 0 M).size : Int) ≤ x.1
        omega

def mkP (P : Pk) (x : Int × Bool × ByteArray) : Pk := ⟨P.src, P.dst, P.proto, P.ttl, P.id, x.1, x.2.1, P.whole, x.2.2⟩
theorem mkP_cells (P : Pk) (x : Int × Bool × ByteArray) : pkc (mkP P x) = pcells P.src P.dst P.proto P.ttl P.id P.whole x := rfl
theorem part_frag {P : Pk} (hP : Base P) {x : Int × Bool × ByteArray} (h : Part P.body 0 x) : IsFrag P (mkP P x) := by
  obtain ⟨p1, p2, p3, p4, p5, p6, p7⟩ := h
  exact ⟨rfl, rfl, rfl, rfl, rfl, hP.whole, p1, p2, p3, p4, p5, p6, p7⟩
/-- The pieces of a division. -/
structure Pieces (P : Pk) (a : List Pk) : Prop where
  frag : ∀ f ∈ a, IsFrag P f
  cov : ∀ x : Int, 0 ≤ x → x < P.body.size → ∃ f ∈ a, f.off ≤ x ∧ x < f.off + f.body.size
  apart : a.Pairwise (fun f g : Pk => f.off + f.body.size ≤ g.off ∨ g.off + g.body.size ≤ f.off)
theorem cut_pieces {P : Pk} (hP : Base P) (hs : 0 < P.body.size) (lim : Nat) (h8 : 8 ≤ lim) : Pieces P ((pieces lim false P.body.size 0 P.body).map (mkP P)) := by
  obtain ⟨i1, i2, i3⟩ := pieces_parts P.body lim h8 P.body.size 0 P.body (Int.le_refl _) rfl (by omega) (by rw [show (P.body.size : Int) - 0 = P.body.size by omega, seg_all]) (Nat.le_refl _)
  refine ⟨fun f hf => ?_, fun x h0 h1 => ?_, ?_⟩
  · obtain ⟨x, hx, rfl⟩ := List.mem_map.mp hf
    exact part_frag hP (i1 x hx)
  · obtain ⟨y, hy, hh⟩ := i2 x h0 h1
    exact ⟨mkP P y, List.mem_map.mpr ⟨y, hy, rfl⟩, hh⟩
  · rw [List.pairwise_map]
    exact i3.imp (fun h => .inl h)
theorem cut_one {P : Pk} (hP : Base P) (lim : Nat) (h : P.body.size ≤ lim) : (pieces lim false P.body.size 0 P.body).map (mkP P) = [P] := by
  have e : pieces lim false P.body.size 0 P.body = [(0, false, P.body)] := by
    cases hd : P.body.size with
    | zero => rfl
    | succ d => unfold pieces; rw [if_pos (by omega)]
  rw [e]
  have h1 := hP.off; have h2 := hP.more
  cases P
  simp only at h1 h2
  subst h1 h2
  rfl
theorem pieces_count (lim : Nat) (h8 : 8 ≤ lim) (more : Bool) : ∀ (d : Nat) (off : Int) (b : ByteArray), 0 < (pieces lim more d off b).length ∧ (pieces lim more d off b).length * 8 ≤ b.size + 8
  | 0, off, b => ⟨by simp [pieces], by simp [pieces]⟩
  | d + 1, off, b => by
    unfold pieces
    split
    · simp
    · have := pieces_count lim h8 more d (off + (lim / 8 * 8 : Nat)) (b.extract (lim / 8 * 8) b.size)
      rw [size_ext] at this
      simp only [List.length_cons]
      omega

/-- These parts are all of a packet. -/
def FullBy (P : Pk) (T : List Pk) : Prop := (∃ f ∈ T, f.more = false) ∧ ∀ x : Int, 0 ≤ x → x < P.body.size → ∃ f ∈ T, f.off ≤ x ∧ x < f.off + f.body.size
theorem Pieces.full {P : Pk} {a : List Pk} (h : Pieces P a) (hs : 0 < P.body.size) : FullBy P a := by
  refine ⟨?_, h.cov⟩
  obtain ⟨f, hf, h1, h2⟩ := h.cov (P.body.size - 1) (by omega) (by omega)
  refine ⟨f, hf, ?_⟩
  cases c : f.more with
  | false => rfl
  | true =>
    have := (h.frag f hf).more.mp c
    omega
theorem FullBy.sub {P : Pk} {T U : List Pk} (h : FullBy P T) (hs : ∀ f ∈ T, f ∈ U) : FullBy P U := by
  obtain ⟨⟨f, hf, hm⟩, hc⟩ := h
  exact ⟨⟨f, hs f hf, hm⟩, fun x h0 h1 => by obtain ⟨g, hg, hh⟩ := hc x h0 h1; exact ⟨g, hs g hg, hh⟩⟩
/-- As long as one piece is missing, the packet is not whole. -/
theorem full_iff {P : Pk} {a L : List Pk} (h : Pieces P a) (hs : 0 < P.body.size) (hp : L.Perm a) (k : Nat) (hk : k ≤ L.length) : FullBy P (L.take k) ↔ k = L.length := by
  constructor
  · intro hf
    by_cases c : k = L.length
    · exact c
    · exfalso
      have hlt : k < L.length := by omega
      have hpw : L.Pairwise (fun f g : Pk => f.off + f.body.size ≤ g.off ∨ g.off + g.body.size ≤ f.off) := (hp.pairwise_iff (fun {_ _} hh => hh.symm)).mpr h.apart
      have hfr := h.frag _ (hp.mem_iff.mp (List.getElem_mem hlt))
      have := hfr.off; have := hfr.size; have := hfr.inside
      obtain ⟨g, hg, h1, h2⟩ := hf.2 L[k].off (by omega) (by omega)
      obtain ⟨j, hj, rfl⟩ := List.getElem_of_mem hg
      have hj' : j < k := by simp at hj; omega
      rw [List.getElem_take] at h1 h2
      have := List.pairwise_iff_getElem.mp hpw j k (by omega) hlt hj'
      omega
  · rintro rfl
    rw [List.take_length]
    exact (h.full hs).sub (fun f hf => hp.mem_iff.mpr hf)

/-- What the table knows of a packet of which the parts T have come. -/
def Ost (P : Pk) (T : List Pk) (o : Option Ent) : Prop :=
  (T = [] ∧ o = none) ∨ ∃ e, o = some e ∧ EInv P e ∧ (∀ x, Cov e.ps x ↔ ∃ f ∈ T, f.off ≤ x ∧ x < f.off + f.body.size) ∧ (e.end_ = P.body.size ↔ ∃ f ∈ T, f.more = false)
/-- The entries of two packets. -/
def Two (oP oQ : Option Ent) (E : List Ent) : Prop := E = oP.toList ++ oQ.toList ∨ E = oQ.toList ++ oP.toList
theorem Two.symm {oP oQ : Option Ent} {E : List Ent} (h : Two oP oQ E) : Two oQ oP E := h.elim .inr .inl

theorem stepE_mid (p : Pk) (now : Int) : ∀ (A : List Ent) (e : Ent) (C : List Ent), (∀ x ∈ A, pkEq x.key p.key = false) → pkEq e.key p.key = true →
    stepE (A ++ e :: C) p now = (match (e.add p).joined with | none => (none, A ++ e.add p :: C) | some s => (some ((e.add p).out s), A ++ C))
  | [], e, C, _, h => by rw [List.nil_append, stepE, if_pos h]; rfl
  | x :: A, e, C, hA, h => by
    have h0 : pkEq x.key p.key = false := hA x List.mem_cons_self
    rw [List.cons_append, stepE, if_neg (by rw [h0]; simp), stepE_mid p now A e C (fun y hy => hA y (List.mem_cons_of_mem _ hy)) h]
    cases (e.add p).joined <;> rfl
theorem pkEq_key {P f : Pk} {e : Ent} (h : e.key = P.key) (hf : f.key = P.key) : pkEq e.key f.key = true := (pkEq_iff _ _).mpr (by rw [h, hf])
/-- A part comes: the entries behind it. -/
theorem step_two {P f : Pk} {T : List Pk} {oP oQ : Option Ent} {E : List Ent} (hP : Base P) (hs : 0 < P.body.size) (hT : Two oP oQ E) (hO : Ost P T oP) (hQ : ∀ e, oQ = some e → pkEq e.key P.key = false) (hf : IsFrag P f) (hfr : f.off ≠ 0 ∨ f.more = true) :
    (FullBy P (T ++ [f]) → stepE E f 0 = (some P, oQ.toList)) ∧ (¬ FullBy P (T ++ [f]) → ∃ E' e', stepE E f 0 = (none, E') ∧ Two (some e') oQ E' ∧ Ost P (T ++ [f]) (some e')) ∧
    (∀ e ∈ E, pkEq e.key f.key = true → e.wrong f = false) ∧ ((∀ e ∈ E, pkEq e.key f.key = false) → oP = none) := by
  have hk := hf.key
  have hQ' : ∀ x ∈ oQ.toList, pkEq x.key f.key = false := fun x hx => by
    rw [hk]
    cases oQ with
    | none => cases hx
    | some y => simp at hx; subst hx; exact hQ _ rfl
  have cover : ∀ (e : Ent), EInv P e → (∀ x, Cov e.ps x ↔ ∃ f ∈ T, f.off ≤ x ∧ x < f.off + f.body.size) → (e.end_ = P.body.size ↔ ∃ f ∈ T, f.more = false) →
      EInv P (e.add f) ∧ (∀ x, Cov (e.add f).ps x ↔ ∃ g ∈ T ++ [f], g.off ≤ x ∧ x < g.off + g.body.size) ∧ ((e.add f).end_ = P.body.size ↔ ∃ g ∈ T ++ [f], g.more = false) ∧ e.wrong f = false ∧ (Full P (e.add f) ↔ FullBy P (T ++ [f])) := by
    intro e he hc hen
    obtain ⟨a1, a2, a3, a4⟩ := add_inv hf he
    have b2 : ∀ x, Cov (e.add f).ps x ↔ ∃ g ∈ T ++ [f], g.off ≤ x ∧ x < g.off + g.body.size := fun x => by
      rw [a2, hc]
      simp only [List.mem_append, List.mem_singleton]
      constructor
      · rintro (⟨g, hg, hh⟩ | h)
        · exact ⟨g, .inl hg, hh⟩
        · exact ⟨f, .inr rfl, h⟩
      · rintro ⟨g, hg | rfl, hh⟩
        · exact .inl ⟨g, hg, hh⟩
        · exact .inr hh
    have b3 : (e.add f).end_ = P.body.size ↔ ∃ g ∈ T ++ [f], g.more = false := by
      rw [a3, hen]
      simp only [List.mem_append, List.mem_singleton]
      constructor
      · rintro (⟨g, hg, hh⟩ | h)
        · exact ⟨g, .inl hg, hh⟩
        · exact ⟨f, .inr rfl, h⟩
      · rintro ⟨g, hg | rfl, hh⟩
        · exact .inl ⟨g, hg, hh⟩
        · exact .inr hh
    refine ⟨a1, b2, b3, a4, ?_⟩
    unfold Full FullBy
    rw [b3]
    constructor
    · rintro ⟨c1, c2⟩; exact ⟨c1, fun x h0 h1 => (b2 x).mp (c2 x h0 h1)⟩
    · rintro ⟨c1, c2⟩; exact ⟨c1, fun x h0 h1 => (b2 x).mpr (c2 x h0 h1)⟩
  rcases hO with ⟨rfl, rfl⟩ | ⟨e, rfl, he, hc, hen⟩
  · have hE : E = oQ.toList := by rcases hT with h | h <;> simpa using h
    subst hE
    obtain ⟨c1, c2, c3, c4, c5⟩ := cover (fresh P 0) (fresh_inv 0 hs) (fun x => ⟨fun h => absurd h cov_nil, fun ⟨g, hg, _⟩ => by cases hg⟩) ⟨fun h => by have : (-1 : Int) = P.body.size := h; omega, fun ⟨g, hg, _⟩ => by cases hg⟩
    rw [stepE_none f 0 _ hQ', ent_fresh hf]
    refine ⟨fun hfull => ?_, fun _ => ⟨_, _, rfl, .inr rfl, .inr ⟨_, rfl, c1, c2, c3⟩⟩, fun e he hh => (by rw [hQ' e he] at hh; cases hh), fun _ => rfl⟩
    exfalso
    obtain ⟨⟨g, hg, hm⟩, hcv⟩ := hfull
    simp at hg
    subst hg
    obtain ⟨g, hg, h1, h2⟩ := hcv 0 (Int.le_refl _) (by omega)
    simp at hg
    subst hg
    have := hf.off
    rcases hfr with h | h
    · omega
    · rw [h] at hm; cases hm
  · obtain ⟨c1, c2, c3, c4, c5⟩ := cover e he hc hen
    have hke : pkEq e.key f.key = true := pkEq_key he.key hk
    have hst : (∃ A C, E = A ++ e :: C ∧ (∀ x ∈ A, pkEq x.key f.key = false) ∧ A ++ C = oQ.toList ∧ Two (some (e.add f)) oQ (A ++ e.add f :: C)) := by
      rcases hT with h | h
      · exact ⟨[], oQ.toList, h, (fun x hx => by cases hx), rfl, .inl rfl⟩
      · exact ⟨oQ.toList, [], by simpa using h, hQ', by simp, .inr (by simp)⟩
    obtain ⟨A, C, rfl, hA, hAC, hT2⟩ := hst
    rw [stepE_mid f 0 A e C hA hke]
    refine ⟨fun hfull => ?_, fun hnot => ?_, fun x hx hh => ?_, fun h => ?_⟩
    · obtain ⟨j1, j2⟩ := joined_full hP c1 hs (c5.mpr hfull)
      rw [j1]
      simp only
      rw [j2, hAC]
    · rw [joined_not c1 (fun hh => hnot (c5.mp hh))]
      exact ⟨_, _, rfl, hT2, .inr ⟨_, rfl, c1, c2, c3⟩⟩
    · have : x = e := by
        have hx2 : x ∈ oQ.toList ∨ x = e := by
          rw [← hAC]
          rcases List.mem_append.mp hx with h | h
          · exact .inl (List.mem_append_left _ h)
          · rcases List.mem_cons.mp h with h | h
            · exact .inr h
            · exact .inl (List.mem_append_right _ h)
        rcases hx2 with h | h
        · rw [hQ' x h] at hh; cases hh
        · exact h
      subst this
      exact c4
    · have := h e (by simp)
      rw [hke] at this
      cases this
theorem eok_step {L : Nat} {E : List Ent} {p : Pk} {now : Int} (h : EOk L E) (hx : 0 ≤ p.off ∧ p.off + p.body.size ≤ 1500) : EOk (L + 1500) (stepE E p now).2 := by
  rcases first_index E p.key with hn | ⟨i, hi, h1, h2⟩
  · rw [stepE_none p now E hn]
    exact h.snoc hx
  · rw [stepE_at p now E i hi h1 h2]
    cases (E[i].add p).joined with
    | none => exact h.set hi hx
    | some s => exact h.erase.mono (Nat.le_add_right _ _)

/-- What the law knows of the table: its entries are of the two packets. -/
def TabTwo (w : World) (B g : Nat) (room : Int) (L : Nat) (oP oQ : Option Ent) : Prop := ∃ lv xs E, TabAt w B g room 9 0 lv xs E ∧ Two oP oQ E ∧ EOk L E
def InTwo (B g : Nat) (room : Int) (L : Nat) (P : Pk) (T : List Pk) (oQ : Option Ent) (w : World) (e : Ending) (w' : World) : Prop :=
  (Below B w w' ∧ Keep32 w w') ∧ ((FullBy P T ∧ e = .returned (.tuple #[packV P, .bool true, .int .i64 0]) ∧ TabTwo w' B g room L none oQ) ∨ (¬ FullBy P T ∧ e = .returned (.tuple #[packV zeroPk, .bool false, .int .i64 0]) ∧ ∃ o, Ost P T o ∧ TabTwo w' B g room L o oQ))
theorem two_len {oP oQ : Option Ent} {E : List Ent} (h : Two oP oQ E) : E.length = oP.toList.length + oQ.toList.length := by
  rcases h with rfl | rfl <;> simp <;> omega
theorem in_frag (B g : Nat) (room : Int) (L : Nat) (hL : L ≤ 79000) (hr : room ≤ 64) (P f : Pk) (T : List Pk) (oP oQ : Option Ent) (hP : Base P) (hs : 0 < P.body.size) (hO : Ost P T oP) (hQ : ∀ e, oQ = some e → pkEq e.key P.key = false) (hf : IsFrag P f) (hfr : f.off ≠ 0 ∨ f.more = true)
    (hroom : (oQ.toList.length : Int) + 1 ≤ room) (w : World) (hT : TabTwo w B g room L oP oQ) :
    Calls Try.prog 10 #[.pointer (some ⟨g, 0, none⟩), packV f, .int .i64 0] w (InTwo B g room (L + 1500) P (T ++ [f]) oQ w) := by
  obtain ⟨lv, xs, E, hTab, h2, hok⟩ := hT
  obtain ⟨k1, k2, k3, k4⟩ := step_two hP hs h2 hO hQ hf hfr
  have hlen := two_len h2
  have hP1 : oP.toList.length ≤ 1 := by cases oP <;> simp
  have hx : 0 ≤ f.off ∧ f.off + f.body.size ≤ 1500 := ⟨hf.off, by have := hf.inside; have := hP.size; omega⟩
  have hok2 := eok_step (now := 0) hok hx
  have h := in_step B g room 9 0 0 lv xs E f L (by omega) hr ⟨Int.le_refl _, by decide⟩ (Int.le_refl _) (by omega) hok (hf.chk hP) hfr hx.2 (fun hh => by rw [k4 hh] at hlen; simp at hlen; omega) k3 w hTab
  refine h.mono ?_
  rintro e w' ⟨rfl, ⟨lv', xs', hT'⟩, hb⟩
  refine ⟨hb, ?_⟩
  by_cases c : FullBy P (T ++ [f])
  · rw [k1 c] at hT' hok2 ⊢
    exact .inl ⟨c, rfl, lv', xs', _, hT', .inl (by simp), hok2⟩
  · obtain ⟨E', e', q1, q2, q3⟩ := k2 c
    rw [q1] at hT' hok2 ⊢
    exact .inr ⟨c, rfl, some e', q3, lv', xs', E', hT', q2, hok2⟩
theorem in_whole (B g : Nat) (room : Int) (L : Nat) (P : Pk) (oP oQ : Option Ent) (hP : Base P) (w : World) (hT : TabTwo w B g room L oP oQ) :
    Calls Try.prog 10 #[.pointer (some ⟨g, 0, none⟩), packV P, .int .i64 0] w fun e w' => e = .returned (.tuple #[packV P, .bool true, .int .i64 0]) ∧ TabTwo w' B g room L oP oQ ∧ Below B w w' ∧ Keep32 w w' := by
  obtain ⟨lv, xs, E, hTab, h2, hok⟩ := hT
  have hc : P.chk = 0 := by
    have h1 := hP.proto; have h3 := hP.ttl; have h4 := hP.id; have h5 := hP.size; have h6 := hP.off; have h7 := hP.more
    unfold Pk.chk checkv
    rw [if_neg (by omega), if_neg (by omega), if_neg]
    rintro (c | ⟨c, _⟩ | ⟨c | c, _⟩)
    · omega
    · rw [h7] at c; cases c
    · rw [h7] at c; cases c
    · omega
  refine (in_direct B g room 9 0 0 lv xs E P (by have := hP.size; omega) hc hP.off hP.more ⟨Int.le_refl _, by decide⟩ (Int.le_refl _) w hTab).mono ?_
  rintro e w' ⟨rfl, h1, hb⟩
  exact ⟨rfl, ⟨lv, xs, E, h1, h2, hok⟩, hTab.frame (hb.mono (fun k hk => .inl hk)), hTab.keep (hb.mono (fun k hk => .inl hk))⟩
end Go.Proofs.Ytlhfkkionaemhaa.H
