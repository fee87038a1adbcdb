/- join: pieces of two packets that come in turns: plain, but for what In answers. -/
import Derived.Test.YtlhfkkionaemhaaHJoinCat
namespace Go.Proofs.Ytlhfkkionaemhaa.H
set_option linter.unusedSimpArgs false
set_option linter.unusedVariables false
open Go Go.RowKit Go.Maps Go.Proofs.YtlhfkkionaemhaaW.PrintWords Go.Proofs.YtlhfkkionaemhaaW.PrintLast Go.Proofs.YtlhfkkionaemhaaW.PrintMore Go.Proofs.Ytlhfkkionaemhaa.Plain

/-- Of one of the two packets: the parts T of its pieces a have come. -/
def StOne (P : Pk) (a T : List Pk) (o : Option Ent) : Prop := (T.length < a.length → Ost P T o) ∧ (T.length = a.length → o = none) ∧ (T = [] → o = none)
theorem take_filter {α : Type} (p : α → Bool) (L : List α) (k : Nat) : (L.take k).filter p = (L.filter p).take ((L.take k).filter p).length := by
  have h : L.filter p = (L.take k).filter p ++ (L.drop k).filter p := by rw [← List.filter_append, List.take_append_drop]
  rw [h, List.take_left]
theorem filter_step {α : Type} (p : α → Bool) (L : List α) (k : Nat) (hk : k < L.length) : (L.take (k + 1)).filter p = (L.take k).filter p ++ (if p L[k] = true then [L[k]] else []) := by
  rw [List.take_succ_eq_append_getElem hk, List.filter_append]
  cases h : p L[k] <;> simp [h]
theorem StOne.key {P : Pk} {a T : List Pk} {o : Option Ent} (h : StOne P a T o) (hl : T.length ≤ a.length) : ∀ e, o = some e → e.key = P.key := by
  intro e he
  by_cases c : T.length < a.length
  · rcases h.1 c with ⟨_, h2⟩ | ⟨e', h1, h2, _⟩
    · rw [h2] at he; cases he
    · rw [he] at h1; cases h1; exact h2.key
  · have := h.2.1 (by omega)
    rw [this] at he; cases he
def OneIn (B g : Nat) (M : Nat) (P : Pk) (a T : List Pk) (f : Pk) (oQ : Option Ent) (w : World) (e : Ending) (w' : World) : Prop :=
  (Below B w w' ∧ Keep32 w w') ∧ ∃ o, StOne P a (T ++ [f]) o ∧ TabTwo w' B g 2 M o oQ ∧ e = .returned (.tuple #[packV (if T.length + 1 = a.length then P else zeroPk), .bool (decide (T.length + 1 = a.length)), .int .i64 0])
/-- A piece of one of the two packets comes. -/
theorem one_in (B g M : Nat) (hM : M ≤ 75000) (P : Pk) (n : Int) (LP T : List Pk) (f : Pk) (oP oQ : Option Ent) (hP : Base P) (hn : 28 ≤ n) (hp : LP.Perm (cutL P n)) (hT : T = LP.take T.length) (hlt : T.length < LP.length) (hf : LP[T.length] = f) (hS : StOne P (cutL P n) T oP)
    (hQ : ∀ e, oQ = some e → pkEq e.key P.key = false) (w : World) (hA : TabTwo w B g 2 M oP oQ) :
    Calls Try.prog 10 #[.pointer (some ⟨g, 0, none⟩), packV f, .int .i64 0] w (OneIn B g (M + 1500) P (cutL P n) T f oQ w) := by
  have hlen := hp.length_eq
  have hmem : f ∈ cutL P n := by rw [← hf]; exact hp.mem_iff.mp (List.getElem_mem hlt)
  have hoq : (oQ.toList.length : Int) + 1 ≤ 2 := by cases oQ <;> simp
  by_cases hb : P.body.size ≤ (n - 20).toNat
  · have e : cutL P n = [P] := cut_one hP _ hb
    rw [e] at hp hlen hmem hS ⊢
    have hfP : f = P := by simpa using hmem
    subst hfP
    have hT0 : T.length = 0 := by simp at hlen; omega
    have hT1 : T = [] := List.eq_nil_of_length_eq_zero hT0
    subst hT1
    have ho : oP = none := hS.2.2 rfl
    subst ho
    refine (in_whole B g 2 M f none oQ hP w hA).mono ?_
    rintro e w' ⟨rfl, ⟨lv, xs, E, t1, t2, t3⟩, h2, h3⟩
    exact ⟨⟨h2, h3⟩, none, ⟨fun h => by simp at h, fun _ => rfl, fun h => by simp at h⟩, ⟨lv, xs, E, t1, t2, t3.mono (by omega)⟩, rfl⟩
  · have hs : 0 < P.body.size := by omega
    have hpc := cut_pieces hP hs (n - 20).toNat (by omega)
    refine (in_frag B g 2 M (by omega) (by decide) P f T oP oQ hP hs (hS.1 (by omega)) hQ (hpc.frag _ hmem) (cut_fr hP hs hn hb _ hmem) hoq w hA).mono ?_
    rintro e w' ⟨hbk, h⟩
    have hfi := full_iff hpc hs hp (T.length + 1) (by omega)
    rw [take_snoc' LP T.length hlt, ← hT, hf] at hfi
    have hlen' : LP.length = (cutL P n).length := hlen
    refine ⟨hbk, ?_⟩
    rcases h with ⟨c, rfl, hT'⟩ | ⟨c, rfl, o', hO', hT'⟩
    · have hkn : T.length + 1 = (cutL P n).length := by rw [← hlen']; exact hfi.mp c
      exact ⟨none, ⟨fun h => by simp at h; omega, fun _ => rfl, fun h => by simp at h⟩, hT', by rw [if_pos hkn, decide_eq_true hkn]⟩
    · have hkn : ¬ T.length + 1 = (cutL P n).length := fun h => c (hfi.mpr (by rw [hlen']; exact h))
      exact ⟨o', ⟨fun _ => hO', fun h => by simp at h; omega, fun h => by simp at h⟩, hT', by rw [if_neg hkn, decide_eq_false hkn]⟩

/-! ### two packets -/
/-- Is it a piece of this packet? -/
def isP (P : Pk) (f : Pk) : Bool := decide (f.id = P.id)
structure Pair (P Q : Pk) (L : List Pk) : Prop where
  hP : Base P
  hQ : Base Q
  ne : P.id ≠ Q.id
  perm : L.Perm (cutL P 28 ++ cutL Q 28)
theorem cutL_id (P : Pk) (n : Int) : ∀ f ∈ cutL P n, f.id = P.id := by
  intro f hf
  obtain ⟨x, _, rfl⟩ := List.mem_map.mp hf
  rfl
theorem Pair.perms {P Q : Pk} {L : List Pk} (h : Pair P Q L) : (L.filter (isP P)).Perm (cutL P 28) ∧ (L.filter (fun f => !isP P f)).Perm (cutL Q 28) := by
  have h1 : (cutL P 28).filter (isP P) = cutL P 28 := List.filter_eq_self.mpr (fun f hf => decide_eq_true (cutL_id P 28 f hf))
  have h2 : (cutL Q 28).filter (isP P) = [] := List.filter_eq_nil_iff.mpr (fun f hf => by have := cutL_id Q 28 f hf; simp [isP, this]; exact fun e => h.ne e.symm)
  have h3 : (cutL P 28).filter (fun f => !isP P f) = [] := List.filter_eq_nil_iff.mpr (fun f hf => by have := cutL_id P 28 f hf; simp [isP, this])
  have h4 : (cutL Q 28).filter (fun f => !isP P f) = cutL Q 28 := List.filter_eq_self.mpr (fun f hf => by have := cutL_id Q 28 f hf; simp [isP, this]; exact fun e => h.ne e.symm)
  constructor
  · have := h.perm.filter (isP P)
    rw [List.filter_append, h1, h2, List.append_nil] at this
    exact this
  · have := h.perm.filter (fun f => !isP P f)
    rw [List.filter_append, h3, h4, List.nil_append] at this
    exact this
def TP (P : Pk) (L : List Pk) (k : Nat) : List Pk := (L.take k).filter (isP P)
def TQ (P : Pk) (L : List Pk) (k : Nat) : List Pk := (L.take k).filter (fun f => !isP P f)
theorem tp_le {P Q : Pk} {L : List Pk} (h : Pair P Q L) (k : Nat) : (TP P L k).length ≤ (cutL P 28).length ∧ (TQ P L k).length ≤ (cutL Q 28).length := by
  have h1 : TP P L k = (L.filter (isP P)).take (TP P L k).length := take_filter _ L k
  have h2 : TQ P L k = (L.filter (fun f => !isP P f)).take (TQ P L k).length := take_filter _ L k
  have e1 := congrArg List.length h1
  have e2 := congrArg List.length h2
  rw [List.length_take] at e1 e2
  have p1 := h.perms.1.length_eq
  have p2 := h.perms.2.length_eq
  omega
/-- What the law knows of the table before the piece at k. -/
def ApSt (P Q : Pk) (L : List Pk) (g k : Nat) (w : World) : Prop := ∃ oP oQ, TabTwo w g g 2 (1500 * k) oP oQ ∧ StOne P (cutL P 28) (TP P L k) oP ∧ StOne Q (cutL Q 28) (TQ P L k) oQ
theorem ApSt.alloc {P Q : Pk} {L : List Pk} {g k : Nat} {w : World} (h : ApSt P Q L g k w) (o : Obj) : ApSt P Q L g k (w.alloc o) := by
  obtain ⟨a, b, h1, h2⟩ := h
  exact ⟨a, b, h1.alloc o, h2⟩
/-- The packets that are joined so far. -/
def ApOut (P Q : Pk) (L : List Pk) (k : Nat) (outs : List Pk) : Prop :=
  outs.length = (if (TP P L k).length = (cutL P 28).length then 1 else 0) + (if (TQ P L k).length = (cutL Q 28).length then 1 else 0) ∧ ((TP P L k).length = (cutL P 28).length → P ∈ outs) ∧ ((TQ P L k).length = (cutL Q 28).length → Q ∈ outs)
def ApIn (P Q : Pk) (L : List Pk) (g k : Nat) (w : World) (e : Ending) (w' : World) : Prop :=
  ∃ (d : Bool) (X : Pk), e = .returned (.tuple #[packV X, .bool d, .int .i64 0]) ∧ ApSt P Q L g (k + 1) w' ∧ (∀ outs, ApOut P Q L k outs → ApOut P Q L (k + 1) (if d = true then outs ++ [X] else outs)) ∧ Below g w w' ∧ Keep32 w w'
theorem TabTwo.symm {w : World} {B g L : Nat} {room : Int} {oP oQ : Option Ent} (h : TabTwo w B g room L oP oQ) : TabTwo w B g room L oQ oP := by
  obtain ⟨lv, xs, E, h1, h2, h3⟩ := h
  exact ⟨lv, xs, E, h1, h2.symm, h3⟩
theorem key_ne {P Q : Pk} {e : Ent} (hne : P.id ≠ Q.id) (h : e.key = Q.key) : pkEq e.key P.key = false := by
  cases c : pkEq e.key P.key with
  | false => rfl
  | true =>
    have := (pkEq_iff _ _).mp c
    rw [h] at this
    have h2 := congrArg Pk.id this
    exact absurd h2.symm hne
theorem out_p {P Q : Pk} {L : List Pk} {k : Nat} {T1 : List Pk} (d : Bool) (X f : Pk) (hq : TQ P L (k + 1) = TQ P L k) (hp : TP P L (k + 1) = TP P L k ++ [f]) (hle : (TP P L k).length + 1 ≤ (cutL P 28).length)
    (hd : d = decide ((TP P L k).length + 1 = (cutL P 28).length)) (hX : d = true → X = P) : ∀ outs, ApOut P Q L k outs → ApOut P Q L (k + 1) (if d = true then outs ++ [X] else outs) := by
  rintro outs ⟨h1, h2, h3⟩
  unfold ApOut
  rw [hq, hp, List.length_append, List.length_singleton]
  rw [if_neg (by omega)] at h1
  by_cases c : (TP P L k).length + 1 = (cutL P 28).length
  · have hd' : d = true := by rw [hd]; exact decide_eq_true c
    rw [if_pos hd', if_pos c, hX hd']
    refine ⟨by rw [List.length_append, h1, List.length_singleton]; omega, fun _ => by simp, fun hh => List.mem_append_left _ (h3 hh)⟩
  · have hd' : ¬ d = true := by rw [hd]; simpa using c
    rw [if_neg hd', if_neg c]
    exact ⟨h1, fun hh => absurd hh c, h3⟩
theorem out_q {P Q : Pk} {L : List Pk} {k : Nat} (d : Bool) (X f : Pk) (hq : TP P L (k + 1) = TP P L k) (hp : TQ P L (k + 1) = TQ P L k ++ [f]) (hle : (TQ P L k).length + 1 ≤ (cutL Q 28).length)
    (hd : d = decide ((TQ P L k).length + 1 = (cutL Q 28).length)) (hX : d = true → X = Q) : ∀ outs, ApOut P Q L k outs → ApOut P Q L (k + 1) (if d = true then outs ++ [X] else outs) := by
  rintro outs ⟨h1, h2, h3⟩
  unfold ApOut
  rw [hq, hp, List.length_append, List.length_singleton]
  rw [if_neg (c := (TQ P L k).length = _) (by omega)] at h1
  by_cases c : (TQ P L k).length + 1 = (cutL Q 28).length
  · have hd' : d = true := by rw [hd]; exact decide_eq_true c
    rw [if_pos hd', if_pos (c := (TQ P L k).length + 1 = _) c, hX hd']
    refine ⟨by rw [List.length_append, h1, List.length_singleton], fun hh => List.mem_append_left _ (h2 hh), fun _ => by simp⟩
  · have hd' : ¬ d = true := by rw [hd]; simpa using c
    rw [if_neg hd', if_neg (c := (TQ P L k).length + 1 = _) c]
    exact ⟨h1, h2, fun hh => absurd hh c⟩
theorem filter_at {α : Type} (p : α → Bool) (L : List α) (k : Nat) (hk : k < L.length) (hp : p L[k] = true) : ∃ h : ((L.take k).filter p).length < (L.filter p).length, (L.filter p)[((L.take k).filter p).length] = L[k] := by
  have h : L.filter p = (L.take k).filter p ++ (L[k] :: (L.drop (k + 1)).filter p) := by
    conv => lhs; rw [← List.take_append_drop k L, List.filter_append, List.drop_eq_getElem_cons hk, List.filter_cons_of_pos hp]
  have hl : ((L.take k).filter p).length < (L.filter p).length := by rw [h]; simp
  refine ⟨hl, ?_⟩
  have : (L.filter p)[((L.take k).filter p).length]? = some L[k] := by rw [h]; simp
  rw [List.getElem?_eq_getElem hl] at this
  exact Option.some.inj this
theorem ap_in {P Q : Pk} {L : List Pk} (h : Pair P Q L) (g k : Nat) (hk : k < L.length) (hl : L.length ≤ 50) (w : World) (hA : ApSt P Q L g k w) :
    Calls Try.prog 10 #[.pointer (some ⟨g, 0, none⟩), packV L[k], .int .i64 0] w (ApIn P Q L g k w) := by
  obtain ⟨oP, oQ, hT, hSP, hSQ⟩ := hA
  obtain ⟨p1, p2⟩ := h.perms
  obtain ⟨l1, l2⟩ := tp_le h k
  have hTP1 := filter_step (isP P) L k hk
  have hTQ1 := filter_step (fun f => !isP P f) L k hk
  cases c : isP P L[k] with
  | true =>
    obtain ⟨f1, f2⟩ := filter_at (isP P) L k hk c
    rw [if_pos c] at hTP1
    rw [if_neg (by simp [c]), List.append_nil] at hTQ1
    have hle : (TP P L k).length + 1 ≤ (cutL P 28).length := by rw [← p1.length_eq]; exact f1
    refine (one_in g g (1500 * k) (by omega) P 28 (L.filter (isP P)) (TP P L k) L[k] oP oQ h.hP (Int.le_refl _) p1 (take_filter _ L k) f1 f2 hSP (fun e he => key_ne h.ne (hSQ.key l2 e he)) w hT).mono ?_
    rintro e w' ⟨⟨b1, b2⟩, o, hS', hT', rfl⟩
    refine ⟨_, _, rfl, ⟨o, oQ, hT', ?_, ?_⟩, out_p (T1 := []) _ _ L[k] hTQ1 hTP1 hle rfl (fun hd => if_pos (of_decide_eq_true hd)), b1, b2⟩
    · unfold TP; rw [hTP1]; exact hS'
    · unfold TQ; rw [hTQ1]; exact hSQ
  | false =>
    obtain ⟨f1, f2⟩ := filter_at (fun f => !isP P f) L k hk (by simp [c])
    rw [if_neg (by simp [c]), List.append_nil] at hTP1
    rw [if_pos (by simp [c])] at hTQ1
    have hle : (TQ P L k).length + 1 ≤ (cutL Q 28).length := by rw [← p2.length_eq]; exact f1
    refine (one_in g g (1500 * k) (by omega) Q 28 (L.filter (fun f => !isP P f)) (TQ P L k) L[k] oQ oP h.hQ (Int.le_refl _) p2 (take_filter _ L k) f1 f2 hSQ (fun e he => key_ne (fun e => h.ne e.symm) (hSP.key l1 e he)) w hT.symm).mono ?_
    rintro e w' ⟨⟨b1, b2⟩, o, hS', hT', rfl⟩
    refine ⟨_, _, rfl, ⟨oP, o, hT'.symm, ?_, ?_⟩, out_q _ _ L[k] hTP1 hTQ1 hle rfl (fun hd => if_pos (of_decide_eq_true hd)), b1, b2⟩
    · unfold TP; rw [hTP1]; exact hSP
    · unfold TQ; rw [hTQ1]; exact hS'
theorem ap_start {P Q : Pk} {L : List Pk} (h : Pair P Q L) : ApOut P Q L 0 [] := by
  have h1 := cutL_len P 28 (Int.le_refl _)
  have h2 := cutL_len Q 28 (Int.le_refl _)
  have e1 : TP P L 0 = [] := by simp [TP]
  have e2 : TQ P L 0 = [] := by simp [TQ]
  unfold ApOut
  rw [e1, e2, if_neg (by rw [List.length_nil]; omega), if_neg (by rw [List.length_nil]; omega)]
  exact ⟨rfl, fun hh => by rw [List.length_nil] at hh; omega, fun hh => by rw [List.length_nil] at hh; omega⟩
theorem ap_end {P Q : Pk} {L : List Pk} (h : Pair P Q L) {outs : List Pk} (ho : ApOut P Q L L.length outs) : outs.length = 2 ∧ P ∈ outs ∧ Q ∈ outs := by
  obtain ⟨p1, p2⟩ := h.perms
  unfold ApOut TP TQ at ho
  rw [List.take_length, p1.length_eq, p2.length_eq, if_pos rfl, if_pos rfl] at ho
  exact ⟨ho.1, ho.2.1 rfl, ho.2.2 rfl⟩
end Go.Proofs.Ytlhfkkionaemhaa.H
