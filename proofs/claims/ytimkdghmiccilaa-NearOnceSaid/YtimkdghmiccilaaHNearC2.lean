/- A Cache of at most two neighbours: what is known of it, and what Send and Learn do to it. Conditions: sizes. -/
import Derived.Test.YtimkdghmiccilaaHNearLearn
import Derived.Maps.Range
namespace Go.Proofs.Ytimkdghmiccilaa.H
set_option linter.unusedSimpArgs false
set_option linter.unusedVariables false
open Go Go.RowKit Go.Maps Go.Proofs.YtimkdghmiccilaaW.PrintWords Go.Proofs.YtimkdghmiccilaaW.PrintLast Go.Proofs.YtimkdghmiccilaaW.PrintMore

/-- An entry: its block, its strings' slice, its fields. -/
structure Ent where
  x : Nat
  hv : Value
  known : Bool
  link : Int
  until_ : Int
  held : List ByteArray
  asked : Int
  next : Int
def Ent.lies (e : Ent) (w : World) : Prop := EntAt w e.x e.hv e.known e.link e.until_ e.held e.asked e.next
def Ent.ok (e : Ent) : Prop := (e.known = true → e.held = []) ∧ (e.known = false → 1 ≤ e.held.length ∧ e.held.length ≤ 4 ∧ 1 ≤ e.asked ∧ e.asked ≤ 1000) ∧ 0 ≤ e.next ∧ e.next ≤ 2000000000
def code : Option Ent → DataW Unit
  | none => .lit (.int .i64 (-1))
  | some e => .lit (.int .i64 e.x)
def Apart (u v : Value) : Prop := u.ownBlock = none ∨ u.ownBlock ≠ v.ownBlock
theorem Apart.symm {u v : Value} (h : Apart u v) : Apart v u := by
  unfold Apart at *
  rcases h with h | h
  · rw [h]
    cases v.ownBlock <;> simp
  · exact .inr (Ne.symm h)

structure C2 (B : Nat) (w : World) (g mb n : Nat) (age tries now a b : Int) (P Q : Option Ent) (D : DataW Unit) : Prop where
  cache : CacheAt w g mb n age tries now D
  atA : D.atKey (.int .u32 a) (.lit (.int .i64 (-1))) = code P
  atB : D.atKey (.int .u32 b) (.lit (.int .i64 (-1))) = code Q
  hasA : has D (.int .u32 a) = P.isSome
  hasB : has D (.int .u32 b) = Q.isSome
  only : ∀ k, has D k = true → k = .int .u32 a ∨ k = .int .u32 b
  entA : ∀ e, P = some e → e.lies w ∧ e.ok ∧ B ≤ e.x ∧ ∀ j, e.hv.ownBlock = some j → B ≤ j
  entB : ∀ e, Q = some e → e.lies w ∧ e.ok ∧ B ≤ e.x ∧ ∀ j, e.hv.ownBlock = some j → B ≤ j
  apart : ∀ e f, P = some e → Q = some f → e.x ≠ f.x ∧ Apart e.hv f.hv
  hg : B ≤ g
  hmb : B ≤ mb
  hab : a ≠ b

section
variable {B g mb n n' : Nat} {w w' : World} {age tries now now' a b : Int} {P Q : Option Ent} {D : DataW Unit} {S : Nat → Prop}

theorem C2.swap (h : C2 B w g mb n age tries now a b P Q D) : C2 B w g mb n age tries now b a Q P D :=
  ⟨h.cache, h.atB, h.atA, h.hasB, h.hasA, fun k hk => (h.only k hk).symm, h.entB, h.entA, fun e f he hf => ⟨fun x => (h.apart f e hf he).1 x.symm, (h.apart f e hf he).2.symm⟩, h.hg, h.hmb, fun e => h.hab e.symm⟩

theorem isk (a : Int) : WideAt.IsKeyLit (.int .u32 a) := trivial
theorem lit_ne {a b : Int} (h : a ≠ b) : (Lit.int .u32 b) ≠ .int .u32 a := by
  intro e
  cases e
  exact h rfl

/-- What lies beside the blocks written lies on. -/
theorem Ent.keep {e : Ent} (h : e.lies w) (ho : Only S w w') (hx : ¬ S e.x) (hb : ∀ j, e.hv.ownBlock = some j → ¬ S j) : e.lies w' := ⟨ho.blk h.1 hx, ho.own h.2 hb⟩

theorem C2.start (hc : CacheAt w g mb n age tries now (.map [])) (hg : B ≤ g) (hmb : B ≤ mb) (hab : a ≠ b) : C2 B w g mb n age tries now a b none none (.map []) :=
  ⟨hc, rfl, rfl, rfl, rfl, fun k hk => by simp [has] at hk, fun e he => (nomatch he), fun e he => (nomatch he), fun e f he => (nomatch he), hg, hmb, hab⟩

theorem C2.put (h : C2 B w g mb n age tries now a b P Q D) (e' : Ent) (hc : CacheAt w' g mb n' age tries now' (D.put (.int .u32 a) (.lit (.int .i64 e'.x)))) (ho : Only S w w') (hS : ∀ f, Q = some f → ¬ S f.x ∧ ∀ j, f.hv.ownBlock = some j → ¬ S j)
    (he : e'.lies w' ∧ e'.ok ∧ B ≤ e'.x ∧ ∀ j, e'.hv.ownBlock = some j → B ≤ j) (hap : ∀ f, Q = some f → e'.x ≠ f.x ∧ Apart e'.hv f.hv) : C2 B w' g mb n' age tries now' a b (some e') Q (D.put (.int .u32 a) (.lit (.int .i64 e'.x))) := by
  have hm := h.cache.2.isMap
  refine ⟨hc, atKey_put_same hm (isk a) _ _, (atKey_put_other (lit_ne h.hab) _ _).trans h.atB, has_put_same hm (isk a) _, (has_put_other (lit_ne h.hab) _).trans h.hasB, fun k hk => ?_, fun e e1 => by cases e1; exact he,
    fun f hf => ⟨Ent.keep (h.entB f hf).1 ho (hS f hf).1 (hS f hf).2, (h.entB f hf).2⟩, fun e f e1 hf => by cases e1; exact hap f hf, h.hg, h.hmb, h.hab⟩
  by_cases e : k = .int .u32 a
  · exact .inl e
  · rw [has_put_other e] at hk
    exact h.only k hk

theorem C2.upd {e : Ent} (h : C2 B w g mb n age tries now a b (some e) Q D) (e' : Ent) (hx : e'.x = e.x) (hc : CacheAt w' g mb n' age tries now' D) (ho : Only S w w') (hS : ∀ f, Q = some f → ¬ S f.x ∧ ∀ j, f.hv.ownBlock = some j → ¬ S j)
    (he : e'.lies w' ∧ e'.ok ∧ ∀ j, e'.hv.ownBlock = some j → B ≤ j) (hap : ∀ f, Q = some f → Apart e'.hv f.hv) : C2 B w' g mb n' age tries now' a b (some e') Q D := by
  refine ⟨hc, by rw [h.atA]; simp [code, hx], h.atB, h.hasA, h.hasB, h.only, fun e1 e2 => by cases e2; exact ⟨he.1, he.2.1, by rw [hx]; exact (h.entA e rfl).2.2.1, he.2.2⟩,
    fun f hf => ⟨Ent.keep (h.entB f hf).1 ho (hS f hf).1 (hS f hf).2, (h.entB f hf).2⟩, fun e1 f e2 hf => by cases e2; exact ⟨by rw [hx]; exact (h.apart e f rfl hf).1, hap f hf⟩, h.hg, h.hmb, h.hab⟩

theorem C2.same (h : C2 B w g mb n age tries now a b P Q D) (hc : CacheAt w' g mb n' age tries now' D) (ho : Only S w w') (hP : ∀ f, P = some f → ¬ S f.x ∧ ∀ j, f.hv.ownBlock = some j → ¬ S j) (hS : ∀ f, Q = some f → ¬ S f.x ∧ ∀ j, f.hv.ownBlock = some j → ¬ S j) : C2 B w' g mb n' age tries now' a b P Q D :=
  ⟨hc, h.atA, h.atB, h.hasA, h.hasB, h.only, fun f hf => ⟨Ent.keep (h.entA f hf).1 ho (hP f hf).1 (hP f hf).2, (h.entA f hf).2⟩, fun f hf => ⟨Ent.keep (h.entB f hf).1 ho (hS f hf).1 (hS f hf).2, (h.entB f hf).2⟩, h.apart, h.hg, h.hmb, h.hab⟩

theorem C2.del (h : C2 B w g mb n age tries now a b P Q D) (hc : CacheAt w' g mb n' age tries now' (D.del (.int .u32 a))) (ho : Only S w w') (hS : ∀ f, Q = some f → ¬ S f.x ∧ ∀ j, f.hv.ownBlock = some j → ¬ S j) : C2 B w' g mb n' age tries now' a b none Q (D.del (.int .u32 a)) := by
  refine ⟨hc, atKey_del_same _, (atKey_del_other (lit_ne h.hab) _).trans h.atB, has_del_same, (has_del_other (lit_ne h.hab)).trans h.hasB, fun k hk => ?_, fun e e1 => (nomatch e1),
    fun f hf => ⟨Ent.keep (h.entB f hf).1 ho (hS f hf).1 (hS f hf).2, (h.entB f hf).2⟩, fun e f e1 => (nomatch e1), h.hg, h.hmb, h.hab⟩
  by_cases e : k = .int .u32 a
  · exact .inl e
  · rw [has_del_other e] at hk
    exact h.only k hk

/-- The other entry is none of the Cache's own blocks. -/
theorem C2.far (h : C2 B w g mb n age tries now a b P Q D) : ∀ f, Q = some f → ¬ (f.x = g ∨ f.x = mb) ∧ ∀ j, f.hv.ownBlock = some j → ¬ (j = g ∨ j = mb) := by
  intro f hf
  obtain ⟨hl, _⟩ := h.entB f hf
  refine ⟨fun e => ?_, fun j hj e => ?_⟩
  · rcases e with e | e
    · exact blk_ne h.cache.1 hl.1 (by decide) e.symm
    · exact map_ne h.cache.2 hl.1 e
  · rcases e with rfl | rfl
    · exact own_ne hl.2 h.cache.1 (by decide) hj.symm
    · exact map_own_ne h.cache.2 hl.2 hj.symm

/-- .. and none of the first entry's. -/
theorem C2.far2 {e : Ent} (h : C2 B w g mb n age tries now a b (some e) Q D) : ∀ f, Q = some f → ¬ (f.x = e.x ∨ some f.x = e.hv.ownBlock) ∧ ∀ j, f.hv.ownBlock = some j → ¬ (j = e.x ∨ some j = e.hv.ownBlock) := by
  intro f hf
  obtain ⟨hl, _⟩ := h.entB f hf
  obtain ⟨hle, _⟩ := h.entA e rfl
  obtain ⟨h1, h2⟩ := h.apart e f rfl hf
  refine ⟨fun x => ?_, fun j hj x => ?_⟩
  · rcases x with x | x
    · exact h1 x.symm
    · exact own_ne hle.2 hl.1 (by decide) x
  · rcases x with rfl | x
    · exact own_ne hl.2 hle.1 (by decide) hj.symm
    · rcases h2 with h2 | h2
      · rw [h2] at x; cases x
      · exact h2 (x.symm.trans hj.symm)

/-- At most two entries. -/
theorem C2.size (h : C2 B w g mb n age tries now a b P Q D) : Maps.size D ≤ 2 := by
  obtain ⟨es, rfl, hp⟩ := h.cache.2.tidy law22
  match es, hp, h.only with
  | [], _, _ => simp [Maps.size]
  | [_], _, _ => simp [Maps.size]
  | [_, _], _, _ => simp [Maps.size]
  | p :: q :: r :: t, hp, ho =>
    exfalso
    have sk : ∀ l : Lit × DataW Unit, (l.1 = .int .u32 a ∨ l.1 = .int .u32 b) → True := fun _ _ => trivial
    have hin : ∀ l ∈ p :: q :: r :: t, l.1 = .int .u32 a ∨ l.1 = .int .u32 b := fun l hl => ho l.1 (by
      rw [has_eq, List.any_eq_true]
      obtain ⟨es', he', hp', hk'⟩ := h.cache.2.entries law22
      cases he'
      exact ⟨l, hl, WideAt.sameKey_self (hk' l hl)⟩)
    have h1 := hin p (by simp)
    have h2 := hin q (by simp)
    have h3 := hin r (by simp)
    simp only [List.pairwise_cons, List.mem_cons] at hp
    have d1 := hp.1 q (.inl rfl)
    have d2 := hp.1 r (.inr (.inl rfl))
    have d3 := hp.2.1 r (.inl rfl)
    rcases h1 with h1 | h1 <;> rcases h2 with h2 | h2 <;> rcases h3 with h3 | h3 <;> simp_all
end
end Go.Proofs.Ytimkdghmiccilaa.H
