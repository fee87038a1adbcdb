/- What Send and Learn do to a Cache of at most two neighbours. Conditions: sizes. -/
import Derived.Test.YtimkdghmiccilaaHNearC2
namespace Go.Proofs.Ytimkdghmiccilaa.H
set_option linter.unusedSimpArgs false
set_option linter.unusedVariables false
open Go Go.RowKit Go.Maps Go.Proofs.YtimkdghmiccilaaW.PrintWords Go.Proofs.YtimkdghmiccilaaW.PrintLast Go.Proofs.YtimkdghmiccilaaW.PrintMore

/-- How many strings an entry holds. -/
def hl : Option Ent → Nat
  | none => 0
  | some e => e.held.length
/-- One that is asked for is asked for again within eight ticks. -/
def Fit (now tries : Int) (P : Option Ent) : Prop := ∀ e, P = some e → e.known = false → e.next ≤ now + 8 ∧ 1 ≤ e.asked
theorem Fit.later {now now' tries : Int} {P : Option Ent} (h : Fit now tries P) (hn : now ≤ now') : Fit now' tries P := fun e he hk => ⟨by have := (h e he hk).1; omega, (h e he hk).2⟩

theorem Fit.known {now tries : Int} {e : Ent} (h : e.known = true) : Fit now tries (some e) := fun e' he hk => by cases he; rw [h] at hk; cases hk
theorem Fit.new {now tries : Int} {e : Ent} (h : e.next ≤ now + 8 ∧ 1 ≤ e.asked) : Fit now tries (some e) := fun e' he hk => by cases he; exact h

section
variable {B g mb n : Nat} {w : World} {age tries cnow a b : Int} {P Q : Option Ent} {D : DataW Unit}

theorem send_c2 (h : C2 B w g mb n age tries cnow a b P Q D) (now : Int) (s : ByteArray) (ha : (Lit.int .u32 a).wf = true) (hs : s.size ≤ 4096) (hn : 0 ≤ now ∧ now ≤ 1000000000) (hc : cnow ≤ now) (hn2 : n < 256) (hB : B ≤ w.heap.size) (hF : Fit now tries P) :
    Calls Try.prog 10 #[.pointer (some ⟨g, 0, none⟩), .int .u32 a, .string s, .int .i64 now] w fun e w' => ∃ (lk : Int) (ready ask : Bool) (err : Int) (P' : Option Ent) (D' : DataW Unit) (now' : Int),
      e = .returned (.tuple #[.int .i64 lk, .bool ready, .bool ask, .int .i64 err]) ∧ C2 B w' g mb (n + 1) age tries now' a b P' Q D' ∧ Below B w w' ∧ cnow ≤ now' ∧ now' ≤ now ∧ Fit now tries P' ∧
      ((err = 0 ∧ ready = false ∧ hl P' = hl P + 1) ∨ (((err = 5 ∧ ready = false) ∨ (err = 0 ∧ ready = true)) ∧ hl P' = hl P)) := by
  have hfar := h.far
  have hgm : ∀ k, (k = g ∨ k = mb) → B ≤ k := fun k hk => by rcases hk with rfl | rfl; exact h.hg; exact h.hmb
  cases P with
  | none =>
    refine (send_first age tries cnow now a s mb g n D ha hs hn hc hn2 w h.cache h.atA).mono ?_
    rintro e w' ⟨rfl, x, hv, hx, hvb, hC, hE, ho⟩
    refine ⟨0, false, true, 0, some ⟨x, hv, false, 0, 0, [s], 1, now + 8⟩, _, now, rfl, h.put ⟨x, hv, false, 0, 0, [s], 1, now + 8⟩ hC ho hfar ⟨hE, ⟨fun e => (nomatch e), fun _ => ⟨by simp, by simp, by simp, by simp⟩, by simp only; omega, by simp only; omega⟩, Nat.le_trans hB hx, fun j hj => Nat.le_trans hB (hvb j hj)⟩ (fun f hf => ?_),
      ho.below B hB hgm, hc, Int.le_refl _, Fit.new ⟨Int.le_refl _, Int.le_refl _⟩, .inl ⟨rfl, rfl, rfl⟩⟩
    obtain ⟨hl, _⟩ := h.entB f hf
    refine ⟨fun e => by have := blk_lt hl.1; simp only at e; omega, ?_⟩
    cases hj : hv.ownBlock with
    | none => exact .inl hj
    | some j => exact .inr (fun e => by have h1 := hvb j hj; have h2 := own_lt hl.2 j (by rw [← e, hj]); omega)
  | some e0 =>
    obtain ⟨hl0, hok, hx0, hb0⟩ := h.entA e0 rfl
    obtain ⟨x0, hv0, kn, link, ut, held, asked, next⟩ := e0
    cases kn with
    | true =>
      obtain rfl : held = [] := hok.1 rfl
      by_cases hut : now < ut
      · refine (send_known x0 hv0 link ut asked next [] age tries cnow now a s mb g n D ha hs hn hc w h.cache hl0 hut h.atA).mono ?_
        rintro e w' ⟨rfl, hC, ho⟩
        refine ⟨link, true, false, 0, some ⟨x0, hv0, true, link, ut, [], asked, next⟩, D, now, rfl, (h.same (n' := n + 1) ⟨hC.1, hC.2.mono (by omega)⟩ (ho.mono (S' := fun k => k = g ∨ k = mb) (fun k hk => Or.inl hk)) h.swap.far hfar), ho.below B hB (fun k hk => hgm k (.inl hk)), hc, Int.le_refl _, Fit.known rfl, .inr ⟨.inr ⟨rfl, rfl⟩, rfl⟩⟩
      · refine (send_expired x0 hv0 link ut asked next [] age tries cnow now a s mb g n D ha hs hn hc hn2 w h.cache hl0 (by omega) h.atA).mono ?_
        rintro e w' ⟨rfl, x, hv, hx, hvb, hC, hE, ho⟩
        refine ⟨0, false, true, 0, some ⟨x, hv, false, 0, 0, [s], 1, now + 8⟩, _, now, rfl, h.put ⟨x, hv, false, 0, 0, [s], 1, now + 8⟩ hC ho hfar ⟨hE, ⟨fun e => (nomatch e), fun _ => ⟨by simp, by simp, by simp, by simp⟩, by simp only; omega, by simp only; omega⟩, Nat.le_trans hB hx, fun j hj => Nat.le_trans hB (hvb j hj)⟩ (fun f hf => ?_),
          ho.below B hB hgm, hc, Int.le_refl _, Fit.new ⟨Int.le_refl _, Int.le_refl _⟩, .inl ⟨rfl, rfl, rfl⟩⟩
        obtain ⟨hl, _⟩ := h.entB f hf
        refine ⟨fun e => by have := blk_lt hl.1; simp only at e; omega, ?_⟩
        cases hj : hv.ownBlock with
        | none => exact .inl hj
        | some j => exact .inr (fun e => by have h1 := hvb j hj; have h2 := own_lt hl.2 j (by rw [← e, hj]); omega)
    | false =>
      have hok2 := hok.2.1 rfl
      simp only at hok2
      have hfit := hF _ rfl rfl
      simp only at hfit
      by_cases h4 : held.length < 4
      · refine (send_more x0 hv0 link ut asked next held h4 age tries cnow now a s mb g n D ha hs hn hc w h.cache hl0 h.atA).mono ?_
        rintro e w' ⟨rfl, hv, hat, hC, hE, ho⟩
        have hfar2 := h.far2
        have hS : ∀ f, Q = some f → ¬ (f.x = g ∨ f.x = x0 ∨ some f.x = hv0.ownBlock) ∧ ∀ j, f.hv.ownBlock = some j → ¬ (j = g ∨ j = x0 ∨ some j = hv0.ownBlock) := fun f hf =>
          ⟨fun e => by
            rcases e with e | e
            · exact (hfar f hf).1 (.inl e)
            · exact (hfar2 f hf).1 e, fun j hj e => by
            rcases e with e | e
            · exact (hfar f hf).2 j hj (.inl e)
            · exact (hfar2 f hf).2 j hj e⟩
        refine ⟨0, false, false, 0, some ⟨x0, hv, false, link, ut, held ++ [s], asked, next⟩, D, now, rfl, h.upd ⟨x0, hv, false, link, ut, held ++ [s], asked, next⟩ rfl ⟨hC.1, hC.2.mono (by omega)⟩ ho hS ⟨hE, ⟨fun e => (nomatch e), fun _ => ⟨by simp, by simp; omega, hok2.2.2⟩, hok.2.2⟩, fun j hj => ?_⟩ (fun f hf => ?_),
          ho.below B hB (fun k hk => ?_), hc, Int.le_refl _, Fit.new ⟨by simp only; omega, hfit.2⟩, .inl ⟨rfl, rfl, by simp [hl]⟩⟩
        · rcases hat with e | e
          · exact hb0 j (e ▸ hj)
          · exact Nat.le_trans hB (e j hj)
        · rcases hat with e | e
          · have := (h.apart _ f rfl hf).2
            simp only [Apart] at this ⊢
            rw [e]; exact this
          · obtain ⟨hl, _⟩ := h.entB f hf
            simp only [Apart]
            cases hj : hv.ownBlock with
            | none => exact .inl rfl
            | some j => exact .inr (fun e2 => by have h1 := e j hj; have h2 := own_lt hl.2 j e2.symm; omega)
        · rcases hk with rfl | rfl | e
          · exact h.hg
          · exact hx0
          · exact hb0 k e.symm
      · refine (send_full x0 hv0 link ut asked next held (by omega) age tries cnow now a s mb g n D ha hs hn hc w h.cache hl0 h.atA).mono ?_
        rintro e w' ⟨rfl, hC, ho⟩
        exact ⟨0, false, false, 5, _, D, cnow, rfl, (h.same (n' := n + 1) ⟨hC.1, hC.2.mono (by omega)⟩ ho (fun f hf => ⟨id, fun j hj => id⟩) (fun f hf => ⟨id, fun j hj => id⟩)), ho.below B hB (fun k hk => hk.elim), Int.le_refl _, hc, hF, .inr ⟨.inl ⟨rfl, rfl⟩, rfl⟩⟩

theorem learn_c2 (h : C2 B w g mb n age tries cnow a b P Q D) (link now : Int) (ha : (Lit.int .u32 a).wf = true) (hag : 1 ≤ age ∧ age ≤ 1000000000) (hl1 : 0 ≤ link ∧ link < 281474976710655) (hn : 0 ≤ now ∧ now ≤ 1000000000) (hc : cnow ≤ now) (hn2 : n < 256) (hB : B ≤ w.heap.size) :
    Calls Try.prog 11 #[.pointer (some ⟨g, 0, none⟩), .int .u32 a, .int .i64 link, .int .i64 now] w fun e w' => ∃ (A : Option Addr) (c : Nat) (P' : Option Ent) (D' : DataW Unit),
      e = .returned (.tuple #[.slice A (hl P) c, .int .i64 0]) ∧ C2 B w' g mb (n + 1) age tries now a b P' Q D' ∧ Below B w w' ∧ Fit now tries P' ∧ hl P' = 0 := by
  have hfar := h.far
  have hgm : ∀ k, (k = g ∨ k = mb) → B ≤ k := fun k hk => by rcases hk with rfl | rfl; exact h.hg; exact h.hmb
  have fin : ∀ (w' : World) (x : Nat), w.heap.size ≤ x → CacheAt w' g mb (n + 1) age tries now (D.put (.int .u32 a) (.lit (.int .i64 x))) → EntAt w' x (.slice none 0 0) true link (now + age) [] 0 0 → Only (fun k => k = g ∨ k = mb) w w' →
      C2 B w' g mb (n + 1) age tries now a b (some ⟨x, .slice none 0 0, true, link, now + age, [], 0, 0⟩) Q (D.put (.int .u32 a) (.lit (.int .i64 x))) ∧ Below B w w' ∧ Fit now tries (some ⟨x, .slice none 0 0, true, link, now + age, [], 0, 0⟩) ∧ hl (some ⟨x, .slice none 0 0, true, link, now + age, [], 0, 0⟩) = 0 := by
    intro w' x hx hC hE ho
    refine ⟨h.put ⟨x, .slice none 0 0, true, link, now + age, [], 0, 0⟩ hC ho hfar ⟨hE, ⟨fun _ => rfl, fun e => (nomatch e), by simp only; omega, by simp only; omega⟩, Nat.le_trans hB hx, fun j hj => (nomatch hj)⟩ (fun f hf => ?_), ho.below B hB hgm, Fit.known rfl, rfl⟩
    obtain ⟨hl, _⟩ := h.entB f hf
    exact ⟨fun e => by have := blk_lt hl.1; simp only at e; omega, .inl rfl⟩
  cases P with
  | none =>
    refine (learn_none age tries cnow now link a mb g n D ha hag hl1 hn hc hn2 w h.cache h.atA).mono ?_
    rintro e w' ⟨rfl, x, hx, hC, hE, ho⟩
    obtain ⟨f1, f2, f3, f4⟩ := fin w' x hx hC hE ho
    exact ⟨none, 0, _, _, rfl, f1, f2, f3, f4⟩
  | some e0 =>
    obtain ⟨hl0, hok, hx0, hb0⟩ := h.entA e0 rfl
    obtain ⟨A, c, hA⟩ := own_slice hl0.2
    refine (learn_some e0.x e0.hv e0.known e0.link e0.until_ e0.asked e0.next e0.held age tries cnow now link a mb g n D ha hag hl1 hn hc hn2 w h.cache hl0 h.atA).mono ?_
    rintro e w' ⟨rfl, x, hx, hC, hE, ho⟩
    obtain ⟨f1, f2, f3, f4⟩ := fin w' x hx hC hE ho
    exact ⟨A, c, _, _, by rw [hA]; rfl, f1, f2, f3, f4⟩
end
end Go.Proofs.Ytimkdghmiccilaa.H
