/- The walk of near.Tick at a Cache of at most two neighbours. Conditions: sizes.  -/
import Derived.Test.YtimkdghmiccilaaHNearOps
import Derived.Test.YtimkdghmiccilaaHNearSort
import Derived.Test.YtimkdghmiccilaaHNearHolds
import Derived.Lib.Hide
namespace Go.Proofs.Ytimkdghmiccilaa.H
set_option linter.unusedSimpArgs false
set_option linter.unusedVariables false
open Go Go.RowKit Go.Maps Go.Proofs.YtimkdghmiccilaaW.PrintWords Go.Proofs.YtimkdghmiccilaaW.PrintLast Go.Proofs.YtimkdghmiccilaaW.PrintMore

/-! ### what a tick does to an entry -/
def tkE (now tries : Int) (e : Ent) : Option Ent :=
  if e.known = true then (if e.until_ ≤ now then none else some e)
  else if now < e.next then some e else if e.asked < tries then some { e with asked := e.asked + 1, next := now + 8 } else none
def agE (now tries : Int) (e : Ent) : Nat := if e.known = true then 0 else if now < e.next then 0 else if e.asked < tries then 1 else 0
def loE (now tries : Int) (e : Ent) : Nat := if e.known = true then 0 else if now < e.next then 0 else if e.asked < tries then 0 else e.held.length
def tk (now tries : Int) : Option Ent → Option Ent
  | none => none
  | some e => tkE now tries e
def ag (now tries : Int) : Option Ent → Nat
  | none => 0
  | some e => agE now tries e
def lo (now tries : Int) : Option Ent → Nat
  | none => 0
  | some e => loE now tries e
theorem lo_le {now tries : Int} {P : Option Ent} (h : ∀ e, P = some e → e.ok) : lo now tries P ≤ 4 := by
  cases P with
  | none => simp [lo]
  | some e =>
    have := h e rfl
    simp only [lo, loE]
    split
    · omega
    · split
      · omega
      · split
        · omega
        · have hk : e.known = false := by cases hh : e.known <;> simp_all
          exact (this.2.1 hk).2.1
theorem ag_le (now tries : Int) (P : Option Ent) : ag now tries P ≤ 1 := by
  cases P with
  | none => simp [ag]
  | some e => simp only [ag, agE]; split; omega; split; omega; split <;> omega

theorem cnt_le (done : List Int) (x : Int) (m : Nat) : (if x ∈ done then m else 0) ≤ m := by split <;> omega
/-- Of what has been ticked so far. -/
def cur (now tries : Int) (done : List Int) (x : Int) (P : Option Ent) : Option Ent := if x ∈ done then tk now tries P else P
def cnt (done : List Int) (x : Int) (m : Nat) : Nat := if x ∈ done then m else 0

/-- The Cache, and a row that is none of its strings'. -/
structure C3 (B : Nat) (w : World) (g mb n : Nat) (age tries now a b : Int) (P Q : Option Ent) (D : DataW Unit) (v : Value) : Prop where
  c2 : C2 B w g mb n age tries now a b P Q D
  apA : ∀ e, P = some e → Apart v e.hv
  apB : ∀ e, Q = some e → Apart v e.hv
theorem C3.swap {B : Nat} {w : World} {g mb n : Nat} {age tries now a b : Int} {P Q : Option Ent} {D : DataW Unit} {v : Value} (h : C3 B w g mb n age tries now a b P Q D v) : C3 B w g mb n age tries now b a Q P D v := ⟨h.c2.swap, h.apB, h.apA⟩

/-- One key of those that are ticked: its entry, and what is to be shown behind it. -/
theorem tick_focus {B : Nat} {w : World} {g mb n : Nat} {age tries now a b : Int} {P Q : Option Ent} {D : DataW Unit} {v : Value} {ks : List Int} (hnd : ks.Nodup) (hks : ∀ x, x ∈ ks ↔ (x = a ∧ P.isSome = true) ∨ (x = b ∧ Q.isSome = true)) (hab : a ≠ b) (k : Nat) (hk : k < ks.length)
    (h : C3 B w g mb n age tries now a b (cur now tries (ks.take k) a P) (cur now tries (ks.take k) b Q) D v) :
    ∃ (key other : Int) (e : Ent) (R : Option Ent), ks[k] = key ∧ C3 B w g mb n age tries now key other (some e) R D v ∧
      (∀ (w' : World) (D' : DataW Unit) (v' : Value), C3 B w' g mb n age tries now key other (tkE now tries e) R D' v' → C3 B w' g mb n age tries now a b (cur now tries (ks.take (k + 1)) a P) (cur now tries (ks.take (k + 1)) b Q) D' v') ∧
      cnt (ks.take (k + 1)) a (ag now tries P) + cnt (ks.take (k + 1)) b (ag now tries Q) = cnt (ks.take k) a (ag now tries P) + cnt (ks.take k) b (ag now tries Q) + agE now tries e ∧
      cnt (ks.take (k + 1)) a (lo now tries P) + cnt (ks.take (k + 1)) b (lo now tries Q) = cnt (ks.take k) a (lo now tries P) + cnt (ks.take k) b (lo now tries Q) + loE now tries e := by
  have htk : ks.take (k + 1) = ks.take k ++ [ks[k]] := by rw [List.take_succ_eq_append_getElem hk]
  have hnot : ks[k] ∉ ks.take k := by
    intro hm
    have h2 : (ks.take (k + 1)).Nodup := hnd.sublist (List.take_sublist _ _)
    rw [htk, List.nodup_append] at h2
    exact h2.2.2 _ hm _ (by simp) rfl
  have hin := (hks ks[k]).mp (List.getElem_mem hk)
  generalize ks[k] = key at htk hnot hin
  have hm : ∀ x, x ∈ ks.take (k + 1) ↔ x ∈ ks.take k ∨ x = key := fun x => by rw [htk]; simp
  rcases hin with ⟨rfl, hP⟩ | ⟨rfl, hQ⟩
  · obtain ⟨e, rfl⟩ := Option.isSome_iff_exists.mp hP
    have e1 : cur now tries (ks.take k) key (some e) = some e := by unfold cur; rw [if_neg hnot]
    have e2 : cur now tries (ks.take (k + 1)) key (some e) = tkE now tries e := by unfold cur; rw [if_pos ((hm key).mpr (.inr rfl))]; rfl
    have e3 : cur now tries (ks.take (k + 1)) b Q = cur now tries (ks.take k) b Q := by
      unfold cur
      by_cases hb : b ∈ ks.take k
      · rw [if_pos hb, if_pos ((hm b).mpr (.inl hb))]
      · rw [if_neg hb, if_neg (fun h' => ((hm b).mp h').elim hb (fun e => hab e.symm))]
    have c3 : ∀ m, cnt (ks.take (k + 1)) b m = cnt (ks.take k) b m := fun m => by
      unfold cnt
      by_cases hb : b ∈ ks.take k
      · rw [if_pos hb, if_pos ((hm b).mpr (.inl hb))]
      · rw [if_neg hb, if_neg (fun h' => ((hm b).mp h').elim hb (fun e => hab e.symm))]
    have c2 : ∀ m, cnt (ks.take (k + 1)) key m = m := fun m => by unfold cnt; rw [if_pos ((hm key).mpr (.inr rfl))]
    have c1 : ∀ m, cnt (ks.take k) key m = 0 := fun m => by unfold cnt; rw [if_neg hnot]
    rw [e1] at h
    refine ⟨key, b, e, _, rfl, h, fun w' D' v' h' => by rw [e2, e3]; exact h', ?_, ?_⟩
    · rw [c3, c2, c1]; simp only [ag]; omega
    · rw [c3, c2, c1]; simp only [lo]; omega
  · obtain ⟨e, rfl⟩ := Option.isSome_iff_exists.mp hQ
    have e1 : cur now tries (ks.take k) key (some e) = some e := by unfold cur; rw [if_neg hnot]
    have e2 : cur now tries (ks.take (k + 1)) key (some e) = tkE now tries e := by unfold cur; rw [if_pos ((hm key).mpr (.inr rfl))]; rfl
    have e3 : cur now tries (ks.take (k + 1)) a P = cur now tries (ks.take k) a P := by
      unfold cur
      by_cases hb : a ∈ ks.take k
      · rw [if_pos hb, if_pos ((hm a).mpr (.inl hb))]
      · rw [if_neg hb, if_neg (fun h' => ((hm a).mp h').elim hb (fun e => hab e))]
    have c3 : ∀ m, cnt (ks.take (k + 1)) a m = cnt (ks.take k) a m := fun m => by
      unfold cnt
      by_cases hb : a ∈ ks.take k
      · rw [if_pos hb, if_pos ((hm a).mpr (.inl hb))]
      · rw [if_neg hb, if_neg (fun h' => ((hm a).mp h').elim hb (fun e => hab e))]
    have c2 : ∀ m, cnt (ks.take (k + 1)) key m = m := fun m => by unfold cnt; rw [if_pos ((hm key).mpr (.inr rfl))]
    have c1 : ∀ m, cnt (ks.take k) key m = 0 := fun m => by unfold cnt; rw [if_neg hnot]
    rw [e1] at h
    refine ⟨key, a, e, _, rfl, h.swap, fun w' D' v' h' => by rw [e2, e3]; exact h'.swap, ?_, ?_⟩
    · rw [c3, c2, c1]; simp only [ag]; omega
    · rw [c3, c2, c1]; simp only [lo]; omega

theorem sort2_mem (l : List Int) (x : Int) : x ∈ sort2 l ↔ x ∈ l := by
  unfold sort2
  split
  · split
    · simp [or_comm]
    · rfl
  · rfl
theorem sort2_nodup (l : List Int) (h : l.Nodup) : (sort2 l).Nodup := by
  unfold sort2
  split
  · split
    · simp at h ⊢
      exact fun e => h e.symm
    · exact h
  · exact h
theorem keys_of {B : Nat} {w : World} {g mb n : Nat} {age tries now a b : Int} {P Q : Option Ent} {D : DataW Unit} (h : C2 B w g mb n age tries now a b P Q D) {ss : List Int} (hs : AllKeys D ss) : ∀ x, x ∈ sort2 ss ↔ (x = a ∧ P.isSome = true) ∨ (x = b ∧ Q.isSome = true) := by
  intro x
  rw [sort2_mem, hs.2.1]
  constructor
  · intro hx
    rcases h.only _ hx with e | e
    · cases e; exact .inl ⟨rfl, by rw [← h.hasA]; exact hx⟩
    · cases e; exact .inr ⟨rfl, by rw [← h.hasB]; exact hx⟩
  · rintro (⟨rfl, hp⟩ | ⟨rfl, hp⟩)
    · rw [h.hasA]; exact hp
    · rw [h.hasB]; exact hp

theorem cur_all {now tries x : Int} {P : Option Ent} {ks : List Int} (h : P.isSome = true → x ∈ ks) : cur now tries ks x P = tk now tries P := by
  unfold cur
  by_cases hx : x ∈ ks
  · rw [if_pos hx]
  · rw [if_neg hx]
    cases P with
    | none => rfl
    | some e => exact absurd (h rfl) hx
theorem cnt_ag {now tries x : Int} {P : Option Ent} {ks : List Int} (h : P.isSome = true → x ∈ ks) : cnt ks x (ag now tries P) = ag now tries P := by
  unfold cnt
  by_cases hx : x ∈ ks
  · rw [if_pos hx]
  · rw [if_neg hx]
    cases P with
    | none => rfl
    | some e => exact absurd (h rfl) hx
theorem cnt_lo {now tries x : Int} {P : Option Ent} {ks : List Int} (h : P.isSome = true → x ∈ ks) : cnt ks x (lo now tries P) = lo now tries P := by
  unfold cnt
  by_cases hx : x ∈ ks
  · rw [if_pos hx]
  · rw [if_neg hx]
    cases P with
    | none => rfl
    | some e => exact absurd (h rfl) hx
/-- An element of a row of uint32s. -/
theorem own_u32 {w : World} {base : Nat} {v : Value} {l : List Int} (h : w.ownsRow base 22 1 v l.length (l.map encU)) (i : Nat) (hi : i < l.length) : ∃ g c, v = .slice (some ⟨g, 0, none⟩) l.length c ∧ w.cell? ⟨g, i, none⟩ = some (.int .u32 l[i]) := by
  obtain ⟨hl, ⟨rfl, hn⟩ | ⟨g, cap, cur, rfl, hg, hh, h1, h2, h3, h4⟩⟩ := h
  · omega
  · refine ⟨g, cap, rfl, (blk_cell hh i).trans ?_⟩
    have e1 : cur[i]? = cur.toList[i]? := by simp
    have e2 : (cur.toList.take (l.length * 1))[i]? = cur.toList[i]? := List.getElem?_take_of_lt (by omega)
    rw [e1, ← e2, h4]
    simp [hi, encU]

section
variable {B g mb n : Nat} {w w' : World} {age tries now a b : Int} {P Q : Option Ent} {D : DataW Unit} {v v' : Value} {S : Nat → Prop}
theorem C3.only_ (h : C3 B w g mb n age tries now a b P Q D v) (ho : Only S w w') (h1 : ¬ S g) (h2 : ¬ S mb) (hP : ∀ e, P = some e → ¬ S e.x ∧ ∀ j, e.hv.ownBlock = some j → ¬ S j) (hQ : ∀ e, Q = some e → ¬ S e.x ∧ ∀ j, e.hv.ownBlock = some j → ¬ S j) : C3 B w' g mb n age tries now a b P Q D v :=
  ⟨h.c2.same ⟨ho.blk h.c2.cache.1 h1, ho.map h.c2.cache.2 h2⟩ ho hP hQ, h.apA, h.apB⟩
theorem only_row {row : Option Nat} (hg : w.grownBy w' row) : Only (fun j => some j = row) w w' := (Only.refl _ w).grown hg (fun k hk => .inl hk.symm)
theorem C3.grown22 (h : C3 B w g mb n age tries now a b P Q D v) {m : Nat} {v8 : Value} {xs : List Value} (h8 : w.ownsRow B 22 1 v8 m xs) (hg : w.grownBy w' v8.ownBlock) : C3 B w' g mb n age tries now a b P Q D v := by
  have ent : ∀ e : Ent, e.lies w → ¬ (some e.x = v8.ownBlock) ∧ ∀ j, e.hv.ownBlock = some j → ¬ (some j = v8.ownBlock) := fun e he => by
    refine ⟨own_ne h8 he.1 (by decide), fun j hj x => ?_⟩
    rcases own_type_ne he.2 h8 (by decide) with e1 | e1
    · rw [e1] at hj; cases hj
    · exact e1 (hj.trans x)
  exact h.only_ (only_row hg) (own_ne h8 h.c2.cache.1 (by decide)) (map_own_ne h.c2.cache.2 h8) (fun e he => ent e (h.c2.entA e he).1) (fun e he => ent e (h.c2.entB e he).1)
theorem C3.grown9 (h : C3 B w g mb n age tries now a b P Q D v) {m : Nat} {xs : List Value} (h9 : w.ownsRow B 9 1 v m xs) (hg : w.grownBy w' v.ownBlock) (hat : v'.ownBlock = v.ownBlock ∨ v'.ownBlock = some w.heap.size) : C3 B w' g mb n age tries now a b P Q D v' := by
  have ent : ∀ e : Ent, e.lies w → Apart v e.hv → ¬ (some e.x = v.ownBlock) ∧ ∀ j, e.hv.ownBlock = some j → ¬ (some j = v.ownBlock) := fun e he ha => by
    refine ⟨own_ne h9 he.1 (by decide), fun j hj x => ?_⟩
    rcases ha with e1 | e1
    · rw [e1] at x; cases x
    · exact e1 (x.symm.trans hj.symm)
  have ap : ∀ e : Ent, e.lies w → Apart v e.hv → Apart v' e.hv := fun e he ha => by
    rcases hat with e1 | e1
    · unfold Apart at *; rw [e1]; exact ha
    · exact .inr (fun x => by have := own_lt he.2 w.heap.size (by rw [← x, e1]); omega)
  have h' := h.only_ (only_row hg) (own_ne h9 h.c2.cache.1 (by decide)) (map_own_ne h.c2.cache.2 h9) (fun e he => ent e (h.c2.entA e he).1 (h.apA e he)) (fun e he => ent e (h.c2.entB e he).1 (h.apB e he))
  exact ⟨h'.c2, fun e he => ap e (h.c2.entA e he).1 (h.apA e he), fun e he => ap e (h.c2.entB e he).1 (h.apB e he)⟩
theorem C3.alloc (h : C3 B w g mb n age tries now a b P Q D v) (o : Obj) : C3 B (w.alloc o) g mb n age tries now a b P Q D v :=
  h.only_ ((Only.refl (fun _ => False) w).alloc o) id id (fun e he => ⟨id, fun j hj => id⟩) (fun e he => ⟨id, fun j hj => id⟩)
theorem C3.drewN (h : C3 B w g mb n age tries now a b P Q D v) (m : Nat) : C3 B (w.drewN m) g mb n age tries now a b P Q D v :=
  h.only_ ((Only.refl (fun _ => False) w).drewN m) id id (fun e he => ⟨id, fun j hj => id⟩) (fun e he => ⟨id, fun j hj => id⟩)
theorem C3.del (h : C3 B w g mb n age tries now a b P Q D v) (hm : w'.ownsMap Try.prog 22 ptrElem mb n (D.del (.int .u32 a))) (ht : w.mapTurned w' mb) : C3 B w' g mb n age tries now a b none Q (D.del (.int .u32 a)) v := by
  have ho := (Only.refl (fun k => k = g ∨ k = mb) w).turned ht (.inl (.inr rfl))
  have hg : w'.heap[g]? = some _ := blk_grown h.c2.cache.1 ht.grown (fun e => map_ne h.c2.cache.2 h.c2.cache.1 (by cases e; rfl))
  exact ⟨h.c2.del ⟨hg, hm⟩ ho h.c2.far, fun e he => (nomatch he), h.apB⟩
theorem C3.upd {e : Ent} (h : C3 B w g mb n age tries now a b (some e) Q D v) (e' : Ent) (hx : e'.x = e.x) (hv : e'.hv = e.hv) (ho : Only (fun k => k = e.x) w w') (hl : e'.lies w') (hok : e'.ok) : C3 B w' g mb n age tries now a b (some e') Q D v := by
  obtain ⟨hle, _, _, hb⟩ := h.c2.entA e rfl
  have hgx := blk_ne h.c2.cache.1 hle.1 (by decide)
  refine ⟨h.c2.upd e' hx ⟨ho.blk h.c2.cache.1 hgx, ho.map h.c2.cache.2 (fun x => map_ne h.c2.cache.2 hle.1 x.symm)⟩ ho (fun f hf => ?_) ⟨hl, hok, by rw [hv]; exact hb⟩ (fun f hf => by rw [hv]; exact (h.c2.apart e f rfl hf).2), fun e2 he => by cases he; rw [hv]; exact h.apA e rfl, h.apB⟩
  have := h.c2.far2 f hf
  exact ⟨fun x => this.1 (.inl x), fun j hj x => this.2 j hj (.inl x)⟩
/-- A row lies on while the map is written. -/
theorem row_turned {base e size m b' : Nat} {u : Value} {xs : List Value} {R : Value → Option (DataW Unit × List MemPlace)} {n' : Nat} {D' : DataW Unit} (hm : w.ownsMap Try.prog 22 R b' n' D') (h : w.ownsRow base e size u m xs) (ht : w.mapTurned w' b') : w'.ownsRow base e size u m xs :=
  h.kept ht.grown (.inr (fun x => map_own_ne hm h x.symm))
end

set_option maxHeartbeats 4000000 in
set_option maxRecDepth 100000 in
theorem tick_c2 {B g mb n : Nat} {w : World} {age tries cnow a b : Int} {P Q : Option Ent} {D : DataW Unit} (h : C2 B w g mb n age tries cnow a b P Q D) (now : Int) (ha : (Lit.int .u32 a).wf = true) (hb : (Lit.int .u32 b).wf = true) (hn : 0 ≤ now ∧ now ≤ 1000000000) (hc : cnow ≤ now) (htr : 1 ≤ tries ∧ tries ≤ 10) (hB : B ≤ w.heap.size) :
    Calls Try.prog 15 #[.pointer (some ⟨g, 0, none⟩), .int .i64 now] w fun e w' => ∃ (A1 A2 : Option Addr) (c1 c2 : Nat) (D' : DataW Unit),
      e = .returned (.tuple #[.slice A1 (ag now tries P + ag now tries Q) c1, .slice A2 (lo now tries P + lo now tries Q) c2, .int .i64 0]) ∧ C2 B w' g mb n age tries now a b (tk now tries P) (tk now tries Q) D' ∧ Below B w w' := by
  have hx := h.cache.1
  have htm := time_ok age tries cnow now mb g hn hc w hx
  have hfar := h.far
  have hfar' := h.swap.far
  have hgB := h.hg
  have hmbB := h.hmb
  have hgm := map_ne h.cache.2 hx
  have l4P := lo_le (now := now) (tries := tries) (P := P) (fun e he => (h.entA e he).2.1)
  have l4Q := lo_le (now := now) (tries := tries) (P := Q) (fun e he => (h.entB e he).2.1)
  obtain ⟨i0, hi, hz0, hz1, hz2⟩ := info_parts info9
  obtain ⟨j0, hj, jz0, jz1, jz2⟩ := info_parts info22
  go_enter Try.func15, Try.ntmps15
  go_wp2_with (first | (go_at_call 16; refine htm.mono ?_; rintro e w1 ⟨rfl, rfl⟩) | (refine gate_ (.store 3 (.tmp 22) (.tmp 20)) rfl ?_; refine wpList_store_cell rfl 3 (.tmp 22) (.tmp 20) rfl rfl (.int .i64 now) rfl rfl rfl rfl hx size3 rfl _ rfl ?_))
  intro W1 hx1 hg1
  have ho1 := (Only.refl (fun k => k = g ∨ k = mb) w).grown hg1 (fun k hk => .inl (.inl (by cases hk; rfl)))
  have hC1 : C2 B W1 g mb n age tries now a b P Q D := h.same ⟨hx1, h.cache.2.kept hg1 (fun e => hgm (by cases e; rfl))⟩ ho1 hfar' hfar
  have hb1 := ho1.below B hB (fun k hk => by rcases hk with rfl | rfl; exact hgB; exact hmbB)
  clear htm hfar hfar' h hx hg1 ho1 hgm
  have hz := hC1.size
  have hc3 : W1.cell? ⟨g, 3, none⟩ = some (.map (some mb)) := (blk_cell hx1 3).trans rfl
  have hkeys := keys_calls mb W1 1
  have hkeys := (callsIn_wide (n := 1)).1 hkeys
  have hsorted := sorted_keys mb n D hz W1 hC1.cache.2
  clear hx1
  go_wp2_with (first | (go_at_call 19; refine hkeys.mono ?_; rintro e w2 ⟨rfl, rfl⟩) | (go_at_call 18; refine hsorted.mono ?_; rintro e w3 ⟨vk, ss, rfl, hS, hs2, hrk, hb3⟩; obtain ⟨Ak, ck, rfl⟩ := own_slice hrk))
  have hks := keys_of hC1 hS
  have hnd := sort2_nodup ss hS.1
  have hlk := sort2_length ss
  rw [← hlk] at hrk
  have hlen2 : (sort2 ss).length ≤ 2 := by omega
  rw [← hlk]
  clear hlk hs2 hS
  generalize sort2 ss = ks at hks hnd hrk hlen2 ⊢
  have hB1 : B ≤ W1.heap.size := Nat.le_trans hB hb1.size
  have hb3' : Below B W1 w3 := hb3.mono hB1
  have hbw := hb1.trans hb3'
  clear hkeys hsorted hc3 hz
  have hC3 : C3 B w3 g mb n age tries now a b P Q D (.slice none 0 0) :=
    (C3.mk hC1 (fun _ _ => .inl rfl) (fun _ _ => .inl rfl)).only_ (Only.of_below (S := fun _ => False) hb3) id id (fun e he => ⟨id, fun j hj => id⟩) (fun e he => ⟨id, fun j hj => id⟩)
  have hrk := own_less hrk hB1
  clear hC1 hb3 hb3' hb1 hB1
  have hcur0 : ∀ x S, cur now tries (ks.take 0) x S = S := fun x S => by simp [cur]
  have hcnt0 : ∀ x m, cnt (ks.take 0) x m = 0 := fun x m => by simp [cnt]
  obtain ⟨Sk, hSk⟩ : ∃ Sk, Value.slice Ak ks.length ck = Sk := ⟨_, rfl⟩
  by_cases hk0 : ks.length = 0
  · obtain rfl : ks = [] := List.eq_nil_of_length_eq_zero hk0
    have hPa : P.isSome = true → a ∈ ([] : List Int) := fun hp => (hks a).mpr (.inl ⟨rfl, hp⟩)
    have hQb : Q.isSome = true → b ∈ ([] : List Int) := fun hp => (hks b).mpr (.inr ⟨rfl, hp⟩)
    have hP : P = none := by cases P with | none => rfl | some e => exact absurd (hPa rfl) (by simp)
    have hQ : Q = none := by cases Q with | none => rfl | some e => exact absurd (hQb rfl) (by simp)
    subst hP hQ
    clear hks hPa hQb hcur0 hcnt0 hnd hSk hrk l4P l4Q
    go_loopw [8, 9, 30] (fun v8 v9 i wr => v8 = .slice none 0 0 ∧ v9 = .slice none 0 0 ∧ i = .int .i64 0 ∧ wr = w3) (fun _ _ _ _ => 0)
    case atStart => exact ⟨rfl, rfl, rfl, rfl⟩
    case round =>
      obtain ⟨rfl, rfl, rfl, rfl⟩ := hrel
      go_wp2
      refine bodyPost_ret (v := .tuple #[.slice none 0 0, .slice none 0 0, .int .i64 0]) ?_ rfl ⟨none, none, 0, 0, D, rfl, hC3.c2, hbw⟩
      simp [results, Try.results15, go_sem]
  · obtain ⟨gk, c', hsl, _⟩ := own_u32 hrk 0 (by omega)
    obtain rfl : Ak = some ⟨gk, 0, none⟩ := by simpa using (Value.slice.inj hsl).1
    clear hsl hSk
    go_loopw [8, 9, 30] (fun v8 v9 i wr => ∃ (k : Nat) (D' : DataW Unit) (x8 x9 : List Value), k ≤ ks.length ∧ i = .int .i64 k ∧ C3 B wr g mb n age tries now a b (cur now tries (ks.take k) a P) (cur now tries (ks.take k) b Q) D' v9 ∧
      wr.ownsRow B 22 1 v8 (cnt (ks.take k) a (ag now tries P) + cnt (ks.take k) b (ag now tries Q)) x8 ∧ wr.ownsRow B 9 1 v9 (cnt (ks.take k) a (lo now tries P) + cnt (ks.take k) b (lo now tries Q)) x9 ∧ wr.ownsRow B 22 1 (.slice (some ⟨gk, 0, none⟩) ks.length ck) ks.length (ks.map encU) ∧ Apart v8 (.slice (some ⟨gk, 0, none⟩) ks.length ck) ∧ Below B w wr) (fun _ _ i _ => ks.length - (intOf i).toNat)
    case atStart => exact ⟨0, D, [], [], Nat.zero_le _, rfl, by rw [hcur0, hcur0]; exact hC3, by rw [hcnt0, hcnt0]; exact own_nil _ _ _ _, by rw [hcnt0, hcnt0]; exact own_nil _ _ _ _, hrk, .inl rfl, hbw⟩
    case round =>
      clear hC3 hrk hbw hcur0 hcnt0
      obtain ⟨k, D', x8, x9, hkl, rfl, hC, h8, h9, hrk, hap, hbw⟩ := hrel
      by_cases hlt : k < ks.length
      · obtain ⟨gk', c', hsl, hcell⟩ := own_u32 hrk k hlt
        obtain rfl : gk = gk' := by simpa using (Value.slice.inj hsl).1
        obtain ⟨key, other, e, R, hkey, hC, hnext, c8, c9⟩ := tick_focus hnd hks hC.c2.hab k hlt hC
        have hwf : (Lit.int .u32 key).wf = true := by
          have := (hks ks[k]).mp (List.getElem_mem hlt)
          rw [hkey] at this
          rcases this with ⟨rfl, _⟩ | ⟨rfl, _⟩
          · exact ha
          · exact hb
        rw [hkey] at hcell
        have hBr : B ≤ wr.heap.size := Nat.le_trans hB hbw.size
        have n8 : cnt (ks.take k) a (ag now tries P) + cnt (ks.take k) b (ag now tries Q) ≤ 2 := by
          have h1 := cnt_le (ks.take k) a (ag now tries P)
          have h2 := cnt_le (ks.take k) b (ag now tries Q)
          have h3 := ag_le now tries P
          have h4 := ag_le now tries Q
          unfold cnt
          omega
        have n9 : cnt (ks.take k) a (lo now tries P) + cnt (ks.take k) b (lo now tries Q) ≤ 8 := by
          have h1 := cnt_le (ks.take k) a (lo now tries P)
          have h2 := cnt_le (ks.take k) b (lo now tries Q)
          unfold cnt
          omega
        have C8 := Lib.hid c8
        have C9 := Lib.hid c9
        have HN := Lib.hid hnext
        clear c8 c9 hnext hkey hks hnd hsl
        generalize cnt (ks.take k) a (ag now tries P) + cnt (ks.take k) b (ag now tries Q) = m8 at C8 h8 n8
        generalize cnt (ks.take k) a (lo now tries P) + cnt (ks.take k) b (lo now tries Q) = m9 at C9 h9 n9
        obtain ⟨x, hv, kn, link, ut, held, asked, next⟩ := e
        obtain ⟨hlies, hok, hxB, hvB⟩ := hC.c2.entA _ rfl
        have hy := hlies.1
        have hown := hlies.2
        simp only at hxB hvB hy hown
        have hgx := hC.c2.cache.1
        have hm := hC.c2.cache.2
        have hlook := look_blk wr mb n x D' key hwf hm hC.c2.atA
        have hc3 : wr.cell? ⟨g, 3, none⟩ = some (.map (some mb)) := (blk_cell hgx 3).trans rfl
        have hy0 : wr.cell? ⟨x, 0, none⟩ = some (.bool kn) := (blk_cell hy 0).trans rfl
        cases kn with
        | true =>
          have hy2 : wr.cell? ⟨x, 2, none⟩ = some (.int .i64 ut) := (blk_cell hy 2).trans rfl
          by_cases hut : ut ≤ now
          · have htk : tkE now tries ⟨x, hv, true, link, ut, held, asked, next⟩ = none := by simp [tkE, hut]
            have hag : agE now tries ⟨x, hv, true, link, ut, held, asked, next⟩ = 0 := by simp [agE]
            have hlo : loE now tries ⟨x, hv, true, link, ut, held, asked, next⟩ = 0 := by simp [loE]
            have c8 := C8.out
            have c9 := C9.out
            have hnext := HN.out
            rw [hag] at c8
            rw [hlo] at c9
            rw [htk] at hnext
            clear C8 C9 HN htk hag hlo
            have C8 := Lib.hid c8
            have C9 := Lib.hid c9
            have HN := Lib.hid hnext
            clear c8 c9 hnext
            go_wp2_with (at_delete; refine wpList_delete_own _ rfl _ _ 48 22 rfl 52 law22 Try.underlying48 ptrElem mb n D' rfl hm (.int .u32 key) (.int .u32 key) rfl (keyOf_int_mk Try.underlying22 hwf) ?_; intro w1 hm1 ht1)
            go_roundw
            case rel => exact ⟨k + 1, _, x8, x9, by omega, by go_num, HN.out _ _ _ (hC.del hm1 ht1), by rw [C8.out]; exact row_turned hm h8 ht1, by rw [C9.out]; exact row_turned hm h9 ht1, row_turned hm hrk ht1, hap, hbw.grown ht1.grown hBr (fun j hj => by cases hj; exact hmbB)⟩
            case measure => simp [intOf]; omega
          · have hut' : ¬ ut ≤ now := hut
            have htk : tkE now tries ⟨x, hv, true, link, ut, held, asked, next⟩ = some ⟨x, hv, true, link, ut, held, asked, next⟩ := by simp [tkE, *]
            have hag : agE now tries ⟨x, hv, true, link, ut, held, asked, next⟩ = 0 := by simp [agE, *]
            have hlo : loE now tries ⟨x, hv, true, link, ut, held, asked, next⟩ = 0 := by simp [loE, *]
            have c8 := C8.out
            have c9 := C9.out
            have hnext := HN.out
            rw [hag] at c8
            rw [hlo] at c9
            rw [htk] at hnext
            clear C8 C9 HN htk hag hlo
            have C8 := Lib.hid c8
            have C9 := Lib.hid c9
            have HN := Lib.hid hnext
            clear c8 c9 hnext
            go_wp2
            go_roundw
            case rel => exact ⟨k + 1, D', x8, x9, by omega, by go_num, HN.out _ _ _ hC, by rw [C8.out]; exact h8, by rw [C9.out]; exact h9, hrk, hap, hbw⟩
            case measure => simp [intOf]; omega
        | false =>
          have hy5 : wr.cell? ⟨x, 5, none⟩ = some (.int .i64 next) := (blk_cell hy 5).trans rfl
          have hok2 := hok.2.1 rfl
          have hok3 := hok.2.2
          simp only at hok2 hok3
          by_cases hnx : now < next
          · have hnx' := hnx
            have htk : tkE now tries ⟨x, hv, false, link, ut, held, asked, next⟩ = some ⟨x, hv, false, link, ut, held, asked, next⟩ := by simp [tkE, *]
            have hag : agE now tries ⟨x, hv, false, link, ut, held, asked, next⟩ = 0 := by simp [agE, *]
            have hlo : loE now tries ⟨x, hv, false, link, ut, held, asked, next⟩ = 0 := by simp [loE, *]
            have c8 := C8.out
            have c9 := C9.out
            have hnext := HN.out
            rw [hag] at c8
            rw [hlo] at c9
            rw [htk] at hnext
            clear C8 C9 HN htk hag hlo
            have C8 := Lib.hid c8
            have C9 := Lib.hid c9
            have HN := Lib.hid hnext
            clear c8 c9 hnext
            go_wp2
            go_roundw
            case rel => exact ⟨k + 1, D', x8, x9, by omega, by go_num, HN.out _ _ _ hC, by rw [C8.out]; exact h8, by rw [C9.out]; exact h9, hrk, hap, hbw⟩
            case measure => simp [intOf]; omega
          · by_cases has : asked < tries
            · have hc1 : wr.cell? ⟨g, 1, none⟩ = some (.int .i64 tries) := (blk_cell hgx 1).trans rfl
              have hy4 : wr.cell? ⟨x, 4, none⟩ = some (.int .i64 asked) := (blk_cell hy 4).trans rfl
              have htk : tkE now tries ⟨x, hv, false, link, ut, held, asked, next⟩ = some ⟨x, hv, false, link, ut, held, asked + 1, now + 8⟩ := by simp [tkE, *]
              have hag : agE now tries ⟨x, hv, false, link, ut, held, asked, next⟩ = 1 := by simp [agE, *]
              have hlo : loE now tries ⟨x, hv, false, link, ut, held, asked, next⟩ = 0 := by simp [loE, *]
              have c8 := C8.out
              have c9 := C9.out
              have hnext := HN.out
              rw [hag] at c8
              rw [hlo] at c9
              rw [htk] at hnext
              clear C8 C9 HN htk hag hlo
              have C8 := Lib.hid c8
              have C9 := Lib.hid c9
              have HN := Lib.hid hnext
              clear c8 c9 hnext
              go_wp2
              go_quiet (fail)
              have hC2 := hC.drewN nq
              have hy2 := blk_drewN hy nq
              have h82 := pw_own_drewN h8 nq
              have h92 := pw_own_drewN h9 nq
              have hrk2 := pw_own_drewN hrk nq
              have hbw2 := pw_below_drewN hbw nq
              have hown2 := pw_own_drewN hown nq
              clear hC hy h8 h9 hrk hbw hlies hown hgx hm hlook hc3 hy0 hy5 hc1 hcell
              generalize wr.drewN nq = W2 at hC2 hy2 h82 h92 hrk2 hbw2 hown2 hy4 ⊢
              have hy4 : W2.cell? ⟨x, 4, none⟩ = some (.int .i64 asked) := (blk_cell hy2 4).trans rfl
              go_wp2_with (refine gate_ (.store 3 (.tmp 102) (.tmp 98)) rfl ?_; refine wpList_store_cell rfl 3 (.tmp 102) (.tmp 98) rfl rfl (.int .i64 (asked + 1)) rfl rfl rfl rfl hy2 size3 rfl _ rfl ?_)
              intro W3 hy3 hg3
              clear hy4
              go_wp2_with (refine gate_ (.store 3 (.tmp 104) (.tmp 100)) rfl ?_; refine wpList_store_cell rfl 3 (.tmp 104) (.tmp 100) rfl rfl (.int .i64 (now + 8)) rfl rfl rfl rfl hy3 size3 rfl _ rfl ?_)
              intro W4 hy4 hg4
              have ho := ((Only.refl (fun j => j = x) W2).grown hg3 (fun j hj => .inl (by cases hj; rfl))).grown hg4 (fun j hj => .inl (by cases hj; rfl))
              have hC4 := hC2.upd ⟨x, hv, false, link, ut, held, asked + 1, now + 8⟩ rfl rfl ho ⟨hy4, ho.own hown2 (fun j hj e => own_ne hown2 hy2 (by decide) (by rw [hj, e]))⟩ ⟨fun e => (nomatch e), fun _ => ⟨hok2.1, hok2.2.1, by simp only; omega, by simp only; omega⟩, by simp only; omega, by simp only; omega⟩
              have h84 := ho.own h82 (fun j hj e => own_ne h82 hy2 (by decide) (by rw [hj, e]))
              have h94 := ho.own h92 (fun j hj e => own_ne h92 hy2 (by decide) (by rw [hj, e]))
              have hrk4 := ho.own hrk2 (fun j hj e => own_ne hrk2 hy2 (by decide) (by rw [hj, e]))
              have hbw4 := hbw2.trans (ho.below B (Nat.le_trans hB hbw2.size) (fun j hj => by rw [hj]; exact hxB))
              clear hg3 hg4 hy2 hy3 hy4 ho hC2 h82 h92 hrk2 hbw2 hown2
              go_wp2_with (at_builtin; refine wpList_append_own_at _ rfl (.tmp 105) (.tmp 107) 43 rfl B 22 j0 _ 1 4 Try.underlying43 hj jz0 jz1 jz2 rfl (by decide) _ m8 _ rfl (h84.alloc _) ⟨W4.heap.size, 0, none⟩ 1 1 [.int .u32 key] rfl rfl (cell_one_new _ _ _) ?c2 ?c3 ?c4 ?c5 ?_)
              case c2 => exact fun u hu => by simp at hu; subst hu; rfl
              case c3 => unfold maxLen; omega
              case c4 => omega
              case c5 => have := hbw4.size; simp; omega
              intro v8' W5 h85 hg5 _ hat5
              have hC5 := (hC4.alloc (.cells #[.int .u32 key] 22 (0, 0))).grown22 (h84.alloc _) hg5
              have h95 := (h94.alloc (.cells #[.int .u32 key] 22 (0, 0))).kept hg5 (own_type_ne h94 h84 (by decide))
              have hrk5 := (hrk4.alloc (.cells #[.int .u32 key] 22 (0, 0))).kept hg5 (Apart.symm hap)
              have hbw5 := (hbw4.alloc (Nat.le_trans hB hbw4.size) (.cells #[.int .u32 key] 22 (0, 0))).grown hg5 (by have := hbw4.size; simp; omega) (fun j hj => own_base h84 j hj)
              have hap5 : Apart v8' (.slice (some ⟨gk, 0, none⟩) ks.length ck) := by
                rcases hat5 with e | e
                · unfold Apart at *; rw [e]; exact hap
                · exact .inr (fun e2 => by have h1 := own_lt hrk4 gk rfl; rw [e] at e2; simp [Value.ownBlock] at e2; omega)
              clear hC4 h84 h94 hrk4 hbw4 hg5 hat5 hap
              go_wp2
              go_roundw
              case rel => exact ⟨k + 1, D', _, x9, by omega, by go_num, HN.out _ _ _ hC5, by rw [C8.out]; exact h85, by rw [C9.out]; exact h95, hrk5, hap5, hbw5⟩
              case measure => simp [intOf]; omega
            · obtain ⟨gh, ch, rfl, _⟩ := own_str hown 0 (by omega)
              have hy3 : wr.cell? ⟨x, 3, none⟩ = some (.slice (some ⟨gh, 0, none⟩) held.length ch) := (blk_cell hy 3).trans rfl
              have hc1 : wr.cell? ⟨g, 1, none⟩ = some (.int .i64 tries) := (blk_cell hgx 1).trans rfl
              have hy4 : wr.cell? ⟨x, 4, none⟩ = some (.int .i64 asked) := (blk_cell hy 4).trans rfl
              have htk : tkE now tries ⟨x, .slice (some ⟨gh, 0, none⟩) held.length ch, false, link, ut, held, asked, next⟩ = none := by simp [tkE, *]
              have hag : agE now tries ⟨x, .slice (some ⟨gh, 0, none⟩) held.length ch, false, link, ut, held, asked, next⟩ = 0 := by simp [agE, *]
              have hlo : loE now tries ⟨x, .slice (some ⟨gh, 0, none⟩) held.length ch, false, link, ut, held, asked, next⟩ = held.length := by simp [loE, *]
              have c8 := C8.out
              have c9 := C9.out
              have hnext := HN.out
              rw [hag] at c8
              rw [hlo] at c9
              rw [htk] at hnext
              clear C8 C9 HN htk hag hlo
              have C8 := Lib.hid c8
              have C9 := Lib.hid c9
              have HN := Lib.hid hnext
              clear c8 c9 hnext
              go_wp2
              go_quiet (fail)
              have hC2 := hC.drewN nq
              have hy2 := blk_drewN hy nq
              have h82 := pw_own_drewN h8 nq
              have h92 := pw_own_drewN h9 nq
              have hrk2 := pw_own_drewN hrk nq
              have hbw2 := pw_below_drewN hbw nq
              have hown2 := pw_own_drewN hown nq
              clear hC hy h8 h9 hrk hbw hlies hown hgx hm hlook hc3 hy0 hy5 hc1 hcell hy3 hy4
              generalize wr.drewN nq = W2 at hC2 hy2 h82 h92 hrk2 hbw2 hown2 ⊢
              have hy3 : W2.cell? ⟨x, 3, none⟩ = some (.slice (some ⟨gh, 0, none⟩) held.length ch) := (blk_cell hy2 3).trans rfl
              have hnews := hown2.cells (g := gh) rfl
              go_wp2_with (at_builtin; refine wpList_append_own_at _ rfl (.tmp 40) (.tmp 44) 23 rfl B 9 i0 _ 1 16 Try.underlying23 hi hz0 hz1 hz2 rfl (by decide) _ m9 _ rfl h92 ⟨gh, 0, none⟩ held.length ch (held.map Value.string) rfl ?c1 hnews ?c2 ?c3 ?c4 ?c5 ?_)
              case c1 => simp
              case c2 => exact fun u hu => by simp at hu; obtain ⟨s, _, rfl⟩ := hu; rfl
              case c3 => unfold maxLen; omega
              case c4 => omega
              case c5 => have := hbw2.size; omega
              intro v9' W5 h95 hg5 _ hat5
              have hC5 := hC2.grown9 h92 hg5 hat5
              have h85 := h82.kept hg5 (own_type_ne h82 h92 (by decide))
              have hrk5 := hrk2.kept hg5 (own_type_ne hrk2 h92 (by decide))
              have hbw5 := hbw2.grown hg5 (Nat.le_trans hB hbw2.size) (fun j hj => own_base h92 j hj)
              clear hC2 hy2 h82 h92 hrk2 hbw2 hown2 hnews hy3 hg5 hat5
              have hm5 := hC5.c2.cache.2
              have hc3 : W5.cell? ⟨g, 3, none⟩ = some (.map (some mb)) := (blk_cell hC5.c2.cache.1 3).trans rfl
              go_wp2_with (at_delete; refine wpList_delete_own _ rfl _ _ 48 22 rfl 52 law22 Try.underlying48 ptrElem mb n D' rfl hm5 (.int .u32 key) (.int .u32 key) rfl (keyOf_int_mk Try.underlying22 hwf) ?_; intro w1 hm1 ht1)
              go_roundw
              case rel => exact ⟨k + 1, _, x8, _, by omega, by go_num, HN.out _ _ _ (hC5.del hm1 ht1), by rw [C8.out]; exact row_turned hm5 h85 ht1, by rw [C9.out]; exact row_turned hm5 h95 ht1, row_turned hm5 hrk5 ht1, hap, hbw5.grown ht1.grown (Nat.le_trans hB hbw5.size) (fun j hj => by cases hj; exact hmbB)⟩
              case measure => simp [intOf]; omega
      · have hkk : ks.take k = ks := List.take_of_length_le (by omega)
        rw [hkk] at hC h8 h9
        have hPa : P.isSome = true → a ∈ ks := fun hp => (hks a).mpr (.inl ⟨rfl, hp⟩)
        have hQb : Q.isSome = true → b ∈ ks := fun hp => (hks b).mpr (.inr ⟨rfl, hp⟩)
        rw [cur_all hPa, cur_all hQb] at hC
        rw [cnt_ag hPa, cnt_ag hQb] at h8
        rw [cnt_lo hPa, cnt_lo hQb] at h9
        obtain ⟨A1, c1, rfl⟩ := own_slice h8
        obtain ⟨A2, c2, rfl⟩ := own_slice h9
        clear hks hnd hPa hQb hkk
        go_wp2
        refine bodyPost_ret (v := .tuple #[.slice A1 (ag now tries P + ag now tries Q) c1, .slice A2 (lo now tries P + lo now tries Q) c2, .int .i64 0]) ?_ rfl ⟨A1, A2, c1, c2, D', rfl, hC.c2, hbw⟩
        simp [results, Try.results15, go_sem]
end Go.Proofs.Ytimkdghmiccilaa.H
