/- join: Table.In at whatever packet keeps the table a table; and what it answers at a fragment that contradicts nothing. Conditions: sizes. -/
import Derived.Test.YtlhfkkionaemhaaHJoinIn2
namespace Go.Proofs.Ytlhfkkionaemhaa.H
set_option linter.unusedSimpArgs false
set_option linter.unusedVariables false
open Go Go.RowKit Go.Maps Go.Proofs.YtlhfkkionaemhaaW.PrintWords Go.Proofs.YtlhfkkionaemhaaW.PrintLast Go.Proofs.YtlhfkkionaemhaaW.PrintMore Go.Proofs.Ytlhfkkionaemhaa.Plain

/-- The first entry of a packet, or none. -/
theorem first_index : ∀ (E : List Ent) (k : Pk), (∀ e ∈ E, pkEq e.key k = false) ∨ ∃ (i : Nat) (hi : i < E.length), pkEq E[i].key k = true ∧ ∀ j (hj : j < i), pkEq (E[j]'(by omega)).key k = false
  | [], k => .inl (fun e he => by cases he)
  | e :: E, k => by
    cases h : pkEq e.key k with
    | true => exact .inr ⟨0, by simp, h, fun j hj => absurd hj (Nat.not_lt_zero _)⟩
    | false =>
      rcases first_index E k with hn | ⟨i, hi, h1, h2⟩
      · refine .inl (fun x hx => ?_)
        rcases List.mem_cons.mp hx with rfl | hx
        · exact h
        · exact hn x hx
      · refine .inr ⟨i + 1, by simpa using hi, by simpa using h1, fun j hj => ?_⟩
        cases j with
        | zero => exact h
        | succ j => simpa using h2 j (by omega)

/-- Pieces that lie inside a body's greatest length, and not too many. -/
def EOk (L : Nat) (E : List Ent) : Prop := ∀ e ∈ E, (∀ y ∈ e.ps, 0 ≤ y.1 ∧ y.1 + y.2.size ≤ 1500) ∧ e.ps.length ≤ L
theorem EOk.mono {L L' : Nat} {E : List Ent} (h : EOk L E) (hl : L ≤ L') : EOk L' E := fun e he => ⟨(h e he).1, Nat.le_trans (h e he).2 hl⟩
/-- An entry's beginning. -/
def Pk.ent (p : Pk) (now : Int) : Ent := (⟨p.src, p.dst, p.proto, p.id, now, zeroPk, false, [], 0, -1⟩ : Ent).add p
theorem add_ok {e : Ent} {p : Pk} (hx : 0 ≤ p.off ∧ p.off + p.body.size ≤ 1500) (h : ∀ y ∈ e.ps, 0 ≤ y.1 ∧ y.1 + y.2.size ≤ 1500) : ∀ y ∈ (e.add p).ps, 0 ≤ y.1 ∧ y.1 + y.2.size ≤ 1500 := ins_ok 1500 e.ps p.off p.body hx.1 hx.2 h
theorem add_len {e : Ent} {p : Pk} : (e.add p).ps.length ≤ e.ps.length + p.body.size := ins_len e.ps p.off p.body
theorem ent_ok {p : Pk} {now : Int} (hx : 0 ≤ p.off ∧ p.off + p.body.size ≤ 1500) : (∀ y ∈ (p.ent now).ps, 0 ≤ y.1 ∧ y.1 + y.2.size ≤ 1500) ∧ (p.ent now).ps.length ≤ 1500 :=
  ⟨add_ok hx (fun y hy => by cases hy), by have h := add_len (e := ⟨p.src, p.dst, p.proto, p.id, now, zeroPk, false, [], 0, -1⟩) (p := p); have : (p.ent now).ps.length ≤ 0 + p.body.size := h; omega⟩
theorem EOk.snoc {L : Nat} {E : List Ent} {p : Pk} {now : Int} (h : EOk L E) (hx : 0 ≤ p.off ∧ p.off + p.body.size ≤ 1500) : EOk (L + 1500) (E ++ [p.ent now]) := by
  intro e he
  rcases List.mem_append.mp he with he | he
  · exact h.mono (Nat.le_add_right _ _) e he
  · simp only [List.mem_singleton] at he
    subst he
    have := ent_ok (now := now) hx
    exact ⟨this.1, by omega⟩
theorem EOk.set {L : Nat} {E : List Ent} {p : Pk} {i : Nat} (h : EOk L E) (hi : i < E.length) (hx : 0 ≤ p.off ∧ p.off + p.body.size ≤ 1500) : EOk (L + 1500) (E.set i (E[i].add p)) := by
  intro e he
  rcases List.mem_or_eq_of_mem_set he with he | rfl
  · exact h.mono (Nat.le_add_right _ _) e he
  · have := h E[i] (List.getElem_mem hi)
    refine ⟨add_ok hx this.1, ?_⟩
    have := add_len (e := E[i]) (p := p)
    omega
theorem EOk.erase {L : Nat} {E : List Ent} {i : Nat} (h : EOk L E) : EOk L (E.eraseIdx i) := fun e he => h e (List.mem_of_mem_eraseIdx he)

/-- A table's frame: what lies below its blocks is as it was. -/
theorem TabAt.frame {w w' : World} {B g : Nat} {room age now : Int} {lv : Value} {xs : List Nat} {E : List Ent} (h : TabAt w B g room age now lv xs E) (ho : Only (fun k => k = g ∨ some k = lv.ownBlock ∨ k ∈ xs) w w') : Below B w w' := by
  refine ho.below B h.hBw ?_
  rintro k (rfl | hk | hk)
  · exact h.hB
  · exact ownBlock_le h.row hk.symm
  · obtain ⟨i, hi, rfl⟩ := List.getElem_of_mem hk
    exact (h.ents.2 i hi (by rw [← h.ents.1]; exact hi)).1
/-- The rows of packets are as they were. -/
def Keep32 (w w' : World) : Prop := ∀ (k : Nat) (cs : Array Value), w.heap[k]? = some (.cells cs 32 (0, 0)) → w'.heap[k]? = some (.cells cs 32 (0, 0))
theorem TabAt.keep {w w' : World} {B g : Nat} {room age now : Int} {lv : Value} {xs : List Nat} {E : List Ent} (h : TabAt w B g room age now lv xs E) (ho : Only (fun k => k = g ∨ some k = lv.ownBlock ∨ k ∈ xs) w w') : Keep32 w w' := by
  intro k cs hk
  refine ho.blk hk ?_
  rintro (rfl | hx | hx)
  · exact blk_ne h.blk hk (by decide) rfl
  · exact own_ne h.row hk (by decide) hx
  · obtain ⟨i, hi, rfl⟩ := List.getElem_of_mem hx
    obtain ⟨_, pv, h2, _⟩ := h.ents.2 i hi (by rw [← h.ents.1]; exact hi)
    exact blk_ne h2 hk (by decide) rfl
theorem chk_le {p : Pk} (h : p.chk = 0) : 0 ≤ p.off ∧ p.off ≤ 65528 := by
  unfold Pk.chk checkv at h
  split at h
  · cases h
  · omega

def InPost (B g : Nat) (room age tnow now : Int) (L : Nat) (hi : Int) (w : World) (e : Ending) (w' : World) : Prop :=
  ∃ q b c, e = .returned (.tuple #[packV q, .bool b, .int .i64 c]) ∧ ∃ tn lv xs E, TabAt w' B g room age tn lv xs E ∧ tnow ≤ tn ∧ tn ≤ now ∧ (E.length : Int) ≤ room ∧ EOk (L + 1500) E ∧ (∀ e ∈ E, 0 ≤ e.begun ∧ e.begun ≤ hi) ∧ Below B w w'
/-- Table.In at whatever packet. -/
theorem in_any (B g : Nat) (room age tnow now : Int) (lv : Value) (xs : List Nat) (E : List Ent) (p : Pk) (L : Nat) (hi : Int) (hs : p.body.size ≤ 1500) (hL : L ≤ 80000) (hr : room ≤ 64) (hn : 0 ≤ now ∧ now ≤ 1000000000) (hcn : tnow ≤ now) (hnh : now ≤ hi) (hlr : (E.length : Int) ≤ room) (hok : EOk L E) (hbg : ∀ e ∈ E, 0 ≤ e.begun ∧ e.begun ≤ hi) (w : World) (hT : TabAt w B g room age tnow lv xs E) :
    Calls Try.prog 10 #[.pointer (some ⟨g, 0, none⟩), packV p, .int .i64 now] w (InPost B g room age tnow now L hi w) := by
  have hl : E.length ≤ 64 := by omega
  have same : ∀ w', Below w.heap.size w w' → ∃ tn lv xs E, TabAt w' B g room age tn lv xs E ∧ tnow ≤ tn ∧ tn ≤ now ∧ (E.length : Int) ≤ room ∧ EOk (L + 1500) E ∧ (∀ e ∈ E, 0 ≤ e.begun ∧ e.begun ≤ hi) ∧ Below B w w' :=
    fun w' hb => ⟨tnow, lv, xs, E, hT.below hb, Int.le_refl _, hcn, hlr, hok.mono (Nat.le_add_right _ _), hbg, hb.mono hT.hBw⟩
  by_cases hc : p.chk = 0
  · have ho := chk_le hc
    by_cases hd : p.off = 0 ∧ p.more = false
    · refine (in_direct B g room age tnow now lv xs E p (by omega) hc hd.1 hd.2 hn hcn w hT).mono ?_
      rintro e w' ⟨rfl, h1, h2⟩
      exact ⟨p, true, 0, rfl, now, lv, xs, E, h1, hcn, Int.le_refl _, hlr, hok.mono (Nat.le_add_right _ _), hbg, hT.frame (h2.mono (fun k hk => .inl hk))⟩
    · have hfr : p.off ≠ 0 ∨ p.more = true := by
        by_cases h0 : p.off = 0
        · exact .inr (by simpa [h0] using hd)
        · exact .inl h0
      by_cases hx : p.off + p.body.size ≤ 1500
      · rcases first_index E p.key with hnone | ⟨i, hii, hik, hib⟩
        · by_cases hf : (E.length : Int) = room
          · refine (in_full B g room age tnow now lv xs E p (by omega) hc hfr hn hcn hl w hT ⟨ho.1, hx⟩ hf hnone).mono ?_
            rintro e w' ⟨rfl, hb⟩
            exact ⟨zeroPk, false, 5, rfl, same w' hb⟩
          · refine (in_new B g room age tnow now lv xs E p (by omega) hc hfr hn hcn hl w hT ⟨ho.1, hx⟩ hf hnone).mono ?_
            rintro e w' ⟨rfl, lv2, x, h1, h2⟩
            refine ⟨zeroPk, false, 0, rfl, now, lv2, xs ++ [x], E ++ [p.ent now], h1, hcn, Int.le_refl _, by simp; omega, hok.snoc ⟨ho.1, hx⟩, ?_, hT.frame h2⟩
            intro e he
            rcases List.mem_append.mp he with he | he
            · exact hbg e he
            · simp only [List.mem_singleton] at he
              subst he
              exact ⟨hn.1, hnh⟩
        · have hE := hok E[i] (List.getElem_mem hii)
          cases hw : E[i].wrong p with
          | true =>
            refine (in_wrong B g room age tnow now lv xs E p (by omega) hc hfr hn hcn hl w hT ⟨ho.1, hx⟩ i hii hik hib hw).mono ?_
            rintro e w' ⟨rfl, hb⟩
            exact ⟨zeroPk, false, 3, rfl, same w' hb⟩
          | false =>
            cases hj : (E[i].add p).joined with
            | none =>
              refine (in_more B g room age tnow now lv xs E p (by omega) hc hfr hn hcn hl w hT ⟨ho.1, hx⟩ i hii hik hib hE.1 (by omega) hw hj).mono ?_
              rintro e w' ⟨rfl, h1, h2⟩
              refine ⟨zeroPk, false, 0, rfl, now, lv, xs, E.set i (E[i].add p), h1, hcn, Int.le_refl _, by simpa using hlr, hok.set hii ⟨ho.1, hx⟩, ?_, hT.frame h2⟩
              intro e he
              rcases List.mem_or_eq_of_mem_set he with he | rfl
              · exact hbg e he
              · exact hbg E[i] (List.getElem_mem hii)
            | some s =>
              refine (in_done B g room age tnow now lv xs E p (by omega) hc hfr hn hcn hl w hT ⟨ho.1, hx⟩ i hii hik hib hE.1 (by omega) hw s _ rfl hj).mono ?_
              rintro e w' ⟨rfl, lv2, h1, h2⟩
              refine ⟨_, true, 0, rfl, now, lv2, xs.eraseIdx i, E.eraseIdx i, h1, hcn, Int.le_refl _, ?_, hok.erase.mono (Nat.le_add_right _ _), fun e he => hbg e (List.mem_of_mem_eraseIdx he), hT.frame h2⟩
              have := List.length_eraseIdx_le E i
              omega
      · rcases first_index E p.key with hnone | ⟨i, hii, hik, hib⟩
        · refine (in_large B g room age tnow now lv xs E p (by omega) hc hfr hn hcn hl w hT ⟨by omega, by omega⟩ (-1) (.inl ⟨rfl, hnone⟩)).mono ?_
          rintro e w' ⟨rfl, hb⟩
          exact ⟨zeroPk, false, 2, rfl, same w' hb⟩
        · refine (in_large B g room age tnow now lv xs E p (by omega) hc hfr hn hcn hl w hT ⟨by omega, by omega⟩ i (.inr ⟨i, rfl, hii, hik, hib⟩)).mono ?_
          rintro e w' ⟨rfl, hb⟩
          exact ⟨zeroPk, false, 2, rfl, same w' hb⟩
  · refine (in_bad B g room age tnow now lv xs E p (by omega) hc w hT).mono ?_
    rintro e w' ⟨rfl, hb⟩
    exact ⟨zeroPk, false, p.chk, rfl, same w' hb⟩

/-- What In answers at a fragment, and the entries behind it. -/
def stepE : List Ent → Pk → Int → Option Pk × List Ent
  | [], p, now => (none, [p.ent now])
  | e :: E, p, now => if pkEq e.key p.key = true then (match (e.add p).joined with | none => (none, e.add p :: E) | some s => (some ((e.add p).out s), E)) else ((stepE E p now).1, e :: (stepE E p now).2)
theorem stepE_none (p : Pk) (now : Int) : ∀ E, (∀ e ∈ E, pkEq e.key p.key = false) → stepE E p now = (none, E ++ [p.ent now])
  | [], _ => rfl
  | e :: E, h => by
    rw [stepE, if_neg (by simp [h e List.mem_cons_self]), stepE_none p now E (fun x hx => h x (List.mem_cons_of_mem _ hx))]
    rfl
theorem stepE_at (p : Pk) (now : Int) : ∀ (E : List Ent) (i : Nat) (hi : i < E.length), pkEq E[i].key p.key = true → (∀ j (hj : j < i), pkEq (E[j]'(by omega)).key p.key = false) →
    stepE E p now = (match (E[i].add p).joined with | none => (none, E.set i (E[i].add p)) | some s => (some ((E[i].add p).out s), E.eraseIdx i))
  | [], i, hi, _, _ => absurd hi (Nat.not_lt_zero _)
  | e :: E, 0, hi, h, _ => by
    have h' : pkEq e.key p.key = true := h
    rw [stepE, if_pos h']
    rfl
  | e :: E, i + 1, hi, h, hb => by
    have h0 : pkEq e.key p.key = false := hb 0 (Nat.succ_pos _)
    rw [stepE, if_neg (by rw [h0]; simp), stepE_at p now E i (by simpa using hi) (by simpa using h) (fun j hj => by simpa using hb (j + 1) (by omega))]
    simp only [List.getElem_cons_succ]
    cases (Ent.add (E[i]'(by simpa using hi)) p).joined <;> rfl
def StepPost (B g : Nat) (room age now : Int) (q : Option Pk) (E : List Ent) (w : World) (e : Ending) (w' : World) : Prop :=
  e = .returned (.tuple #[packV (q.getD zeroPk), .bool q.isSome, .int .i64 0]) ∧ (∃ lv xs, TabAt w' B g room age now lv xs E) ∧ Below B w w' ∧ Keep32 w w'
/-- Table.In at a fragment that contradicts nothing. -/
theorem in_step (B g : Nat) (room age tnow now : Int) (lv : Value) (xs : List Nat) (E : List Ent) (p : Pk) (L : Nat) (hL : L ≤ 80000) (hr : room ≤ 64) (hn : 0 ≤ now ∧ now ≤ 1000000000) (hcn : tnow ≤ now) (hlr : (E.length : Int) ≤ room) (hok : EOk L E) (hc : p.chk = 0) (hfr : p.off ≠ 0 ∨ p.more = true) (hx : p.off + p.body.size ≤ 1500)
    (hroom : (∀ e ∈ E, pkEq e.key p.key = false) → (E.length : Int) ≠ room) (hwr : ∀ e ∈ E, pkEq e.key p.key = true → e.wrong p = false) (w : World) (hT : TabAt w B g room age tnow lv xs E) :
    Calls Try.prog 10 #[.pointer (some ⟨g, 0, none⟩), packV p, .int .i64 now] w (StepPost B g room age now (stepE E p now).1 (stepE E p now).2 w) := by
  have hl : E.length ≤ 64 := by omega
  have ho := chk_le hc
  rcases first_index E p.key with hnone | ⟨i, hii, hik, hib⟩
  · rw [stepE_none p now E hnone]
    refine (in_new B g room age tnow now lv xs E p (by omega) hc hfr hn hcn hl w hT ⟨ho.1, hx⟩ (hroom hnone) hnone).mono ?_
    rintro e w' ⟨rfl, lv2, x, h1, h2⟩
    exact ⟨rfl, ⟨lv2, _, h1⟩, hT.frame h2, hT.keep h2⟩
  · have hE := hok E[i] (List.getElem_mem hii)
    have hw := hwr E[i] (List.getElem_mem hii) hik
    rw [stepE_at p now E i hii hik hib]
    cases hj : (E[i].add p).joined with
    | none =>
      refine (in_more B g room age tnow now lv xs E p (by omega) hc hfr hn hcn hl w hT ⟨ho.1, hx⟩ i hii hik hib hE.1 (by omega) hw hj).mono ?_
      rintro e w' ⟨rfl, h1, h2⟩
      exact ⟨rfl, ⟨lv, xs, h1⟩, hT.frame h2, hT.keep h2⟩
    | some s =>
      refine (in_done B g room age tnow now lv xs E p (by omega) hc hfr hn hcn hl w hT ⟨ho.1, hx⟩ i hii hik hib hE.1 (by omega) hw s _ rfl hj).mono ?_
      rintro e w' ⟨rfl, lv2, h1, h2⟩
      exact ⟨rfl, ⟨lv2, _, h1⟩, hT.frame h2, hT.keep h2⟩
end Go.Proofs.Ytlhfkkionaemhaa.H
