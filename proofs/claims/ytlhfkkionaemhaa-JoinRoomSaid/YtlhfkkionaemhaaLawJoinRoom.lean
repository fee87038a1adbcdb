/- The row of JoinRoom: the walk's contract, handed to the given statement. No condition of ours. -/
import Derived.Test.YtlhfkkionaemhaaRows
import Derived.Test.YtlhfkkionaemhaaHJoinLives
import Derived.WalkKit
import Derived.ProofKit
import Derived.OpenShut
import Derived.ShutString
import Derived.ChangeOld
import Derived.Below
import Derived.SizedLaws
import Derived.Carry
import Derived.Lib.SmallJoins
namespace Go.Proofs.Ytlhfkkionaemhaa.joinRoom
open Go.Joins Go.ChangeShapes Go.WideShapes Go.ChangeAt Go.RowKit Go.Deep
open Go.ChangeMaps (open_string shut_string)
set_option linter.unusedVariables false
set_option linter.unusedSimpArgs false
theorem own : ownKnob Try.prog.godebug = none := by kernel_rfl
theorem laid : laidOutB Try.prog = true := by kernel_rfl
/-- The nine cells that are read as_ a packet. -/
theorem cells9 {H : Type} {enc : TypeId × Value → H} {P : Program} {w : World} {base : Nat} {spare : Nat → Bool} {held : Bool} {t : TypeId} {f0 f1 f2 f3 f4 f5 f6 f7 f8 : Field} {cs : List Value} {x : DataW H × List MemPlace} {fuel : Nat} (hs : P.underlying t = some (.struct #[f0, f1, f2, f3, f4, f5, f6, f7, f8])) (hone : oneCellFields P #[f0, f1, f2, f3, f4, f5, f6, f7, f8] = true) (hl : cs.length = 9)
    (h : DataW.trod enc P w base spare held fuel t cs = some x) :
    ∃ (c0 c1 c2 c3 c4 c5 c6 c7 c8 : Value) (y0 y1 y2 y3 y4 y5 y6 y7 y8 : DataW H × List MemPlace) (n : Nat), cs = [c0, c1, c2, c3, c4, c5, c6, c7, c8] ∧
      DataW.trod enc P w base spare held n f0.type [c0] = some y0 ∧ DataW.trod enc P w base spare held n f1.type [c1] = some y1 ∧ DataW.trod enc P w base spare held n f2.type [c2] = some y2 ∧ DataW.trod enc P w base spare held n f3.type [c3] = some y3 ∧ DataW.trod enc P w base spare held n f4.type [c4] = some y4 ∧ DataW.trod enc P w base spare held n f5.type [c5] = some y5 ∧ DataW.trod enc P w base spare held n f6.type [c6] = some y6 ∧ DataW.trod enc P w base spare held n f7.type [c7] = some y7 ∧ DataW.trod enc P w base spare held n f8.type [c8] = some y8 := by
  match cs, hl with
  | [c0, c1, c2, c3, c4, c5, c6, c7, c8], _ =>
    obtain ⟨xs, n, _, hx, _, hlen, hg⟩ := DataW.trod_struct hs h
    obtain ⟨o0, k0⟩ := hone_of hone 0 f0 rfl
    obtain ⟨o1, k1⟩ := hone_of hone 1 f1 rfl
    obtain ⟨o2, k2⟩ := hone_of hone 2 f2 rfl
    obtain ⟨o3, k3⟩ := hone_of hone 3 f3 rfl
    obtain ⟨o4, k4⟩ := hone_of hone 4 f4 rfl
    obtain ⟨o5, k5⟩ := hone_of hone 5 f5 rfl
    obtain ⟨o6, k6⟩ := hone_of hone 6 f6 rfl
    obtain ⟨o7, k7⟩ := hone_of hone 7 f7 rfl
    obtain ⟨o8, k8⟩ := hone_of hone 8 f8 rfl
    match xs, hlen with
    | [y0, y1, y2, y3, y4, y5, y6, y7, y8], _ =>
      exact ⟨c0, c1, c2, c3, c4, c5, c6, c7, c8, y0, y1, y2, y3, y4, y5, y6, y7, y8, n, rfl, by simpa [o0, k0] using hg 0 f0 rfl, by simpa [o1, k1] using hg 1 f1 rfl, by simpa [o2, k2] using hg 2 f2 rfl, by simpa [o3, k3] using hg 3 f3 rfl, by simpa [o4, k4] using hg 4 f4 rfl, by simpa [o5, k5] using hg 5 f5 rfl, by simpa [o6, k6] using hg 6 f6 rfl, by simpa [o7, k7] using hg 7 f7 rfl, by simpa [o8, k8] using hg 8 f8 rfl⟩
theorem cells_pk {H : Type} {enc : TypeId × Value → H} {w : World} {base : Nat} {spare : Nat → Bool} {held : Bool} {cs : List Value} {x : DataW H × List MemPlace} {fuel : Nat} (hl : cs.length = 9) (h : DataW.trod enc Try.prog w base spare held fuel 32 cs = some x) : ∃ p : _root_.Go.Proofs.Ytlhfkkionaemhaa.H.Pk, cs = _root_.Go.Proofs.Ytlhfkkionaemhaa.H.pkc p := by
  obtain ⟨c0, c1, c2, c3, c4, c5, c6, c7, c8, y0, y1, y2, y3, y4, y5, y6, y7, y8, n, rfl, h0, h1, h2, h3, h4, h5, h6, h7, h8⟩ := cells9 Try.underlying32 (by kernel_rfl) hl h
  obtain ⟨a0, e0, z0, wf0⟩ := DataW.trod_int (P := Try.prog) Try.underlying30 h0
  obtain ⟨a1, e1, z1, wf1⟩ := DataW.trod_int (P := Try.prog) Try.underlying30 h1
  obtain ⟨a2, e2, z2, wf2⟩ := DataW.trod_int (P := Try.prog) Try.underlying3 h2
  obtain ⟨a3, e3, z3, wf3⟩ := DataW.trod_int (P := Try.prog) Try.underlying3 h3
  obtain ⟨a4, e4, z4, wf4⟩ := DataW.trod_int (P := Try.prog) Try.underlying3 h4
  obtain ⟨a5, e5, z5, wf5⟩ := DataW.trod_int (P := Try.prog) Try.underlying3 h5
  obtain ⟨a6, e6, z6⟩ := DataW.trod_bool (P := Try.prog) Try.underlying4 h6
  obtain ⟨a7, e7, z7⟩ := DataW.trod_bool (P := Try.prog) Try.underlying4 h7
  obtain ⟨a8, e8, z8, s8⟩ := DataW.trod_string (P := Try.prog) Try.underlying9 h8
  simp only [List.cons.injEq, and_true] at e0 e1 e2 e3 e4 e5 e6 e7 e8
  subst e0 e1 e2 e3 e4 e5 e6 e7 e8
  exact ⟨⟨a0, a1, a2, a3, a4, a5, a6, a7, a8⟩, rfl⟩
theorem open_pks {H : Type} {enc : TypeId × Value → H} {w : World} {A : Option Addr} {len cap : Nat} {d : DataW H} {p : List MemPlace} (h : DataW.Trod enc Try.prog w 0 (fun _ => true) true 22 (.slice A len cap) d p) : _root_.Go.Proofs.Ytlhfkkionaemhaa.H.PksAt w (.slice A len cap) := by
  obtain ⟨fuel, hf⟩ := h
  rcases DataW.trod_slice Try.underlying22 hf with ⟨hcs, hx⟩ | ⟨a, len', cap', elems, rest, n, _, hcs, _, hb, hl, hm, hlen, hel, _, _⟩
  · simp [Value.cells] at hcs
    obtain ⟨rfl, rfl, rfl⟩ := hcs
    exact .inl rfl
  · simp [Value.cells] at hcs
    obtain ⟨rfl, rfl, rfl⟩ := hcs
    have h9 : Try.prog.cellsOf 32 = 9 := by kernel_rfl
    rw [h9] at hel
    have each : ∀ i, i < len → ∃ p : _root_.Go.Proofs.Ytlhfkkionaemhaa.H.Pk, ∀ j u, (_root_.Go.Proofs.Ytlhfkkionaemhaa.H.pkc p)[j]? = some u → w.cell? (a.add (i * 9 + j)) = some u := fun i hi => by
      have hi2 := hel i hi
      rw [List.getElem?_eq_getElem (by omega)] at hi2
      obtain ⟨cs, hc, ht⟩ := Option.bind_eq_some_iff.1 hi2
      obtain ⟨_, h2, h3⟩ := World.cells?_some hc
      obtain ⟨p, rfl⟩ := cells_pk h2 ht
      refine ⟨p, fun j u hu => ?_⟩
      have hj : j < 9 := by have := (List.getElem?_eq_some_iff.1 hu).1; simpa [_root_.Go.Proofs.Ytlhfkkionaemhaa.H.pkc] using this
      rw [← Addr.add_add, h3 j hj, hu]
    exact .inr ⟨a, len, cap, fun i => if hi : i < len then (each i hi).choose else _root_.Go.Proofs.Ytlhfkkionaemhaa.H.zeroPk, rfl, hl, hm, fun i hi => by
      show ∀ j u, (_root_.Go.Proofs.Ytlhfkkionaemhaa.H.pkc (dite (i < len) (fun hi => (each i hi).choose) (fun _ => _root_.Go.Proofs.Ytlhfkkionaemhaa.H.zeroPk)))[j]? = some u → _
      rw [dif_pos hi]
      exact (each i hi).choose_spec⟩
set_option maxRecDepth 100000 in
theorem lifted (os : Os) (started : os.Started) (H : Type) (enc : TypeId × Value → H) :
    ReturnsInHanded {} Try.checked os 3 .any (Rows.joinRoomSpec.pre6 enc Try.prog Try.f3 Rows.joinRoomRow.domain false) (Rows.joinRoomSpec.post enc Try.prog Try.f3 false true false false) := by
  refine returnsInHanded_of_change_sized (C := Try.checked) own started (by kernel_rfl) Try.func3
    (ChangeSpec.witness6 (enc := enc) (C := Try.checked) false ⟨#[], #[.int .i64 0, .int .i64 0, .slice none 0 0], []⟩ 12 (by kernel_rfl) (by kernel_rfl) (by kernel_rfl) (by kernel_rfl)) ?_
  intro W base args ds gs before hval0 hW hcnd hsz0 _
  have hsz : (DataW.weightsEach Try.prog (Try.f3.params.toList ++ Rows.joinRoomSpec.plain.varTypes Try.prog) (ds ++ gs)).all (· ≤ reachBytes) = true := hsz0
  have hval : ∀ (j : Nat) t v, Try.f3.params[j]? = some t → args[j]? = some v → Value.okWide Try.prog W .any base t v := hval0
  have hW' := hW
  obtain ⟨p, q, hA0, hV, rfl, hfz, hnd⟩ := hW
  have hA : DataW.TrodAll enc Try.prog W 0 (fun _ => true) true Try.f3.params.toList args.toList ds p := hA0
  rw [Try.params3] at hA hval hsz
  obtain ⟨v0, vs0, d0, ds0, p0, q0, hargs, rfl, rfl, h0, r0⟩ := trodAll_cons hA
  obtain ⟨v1, vs1, d1, ds1, p1, q1, rfl, rfl, rfl, h1, r1⟩ := trodAll_cons r0
  obtain ⟨v2, vs2, d2, ds2, p2, q2, rfl, rfl, rfl, h2, r2⟩ := trodAll_cons r1
  obtain ⟨rfl, rfl, rfl⟩ := trodAll_nil r2
  obtain rfl : args = #[v0, v1, v2] := by cases args; simp_all
  obtain ⟨rfl, rfl⟩ := trodVars_none hV
  obtain ⟨a0, rfl, rfl, rfl, y0⟩ := open_int Try.underlying3 (hval 0 3 v0 rfl rfl) h0
  obtain ⟨a1, rfl, rfl, rfl, y1⟩ := open_int Try.underlying3 (hval 1 3 v1 rfl rfl) h1
  have t2 := h2
  have lt2 : ∀ x ∈ p2, x.block < W.heap.size := fun x hx => by simpa using hW'.lt x (by simp [hx])
  obtain ⟨A2, n2, c2, rfl⟩ := okWide_slice Try.underlying22 (hval 2 22 v2 rfl rfl)
  have s2 := open_pks h2
  clear hA0 hval0 hsz0
  refine (_root_.Go.Proofs.Ytlhfkkionaemhaa.H.joinRoom_calls a0 a1 (.slice A2 n2 c2) W s2).mono fun e W' ⟨he, bel⟩ => ?_
  subst he
  exact ⟨_, rfl, _, _, _, [], _, [], hW', trodAll_mk1 (shut_bool Try.underlying4 _), (trodAll_cons_mk (shut_int Try.underlying3 y0) (trodAll_cons_mk (shut_int Try.underlying3 y1) (trodAll_cons_mk (Below.trod laid (by kernel_rfl) (of_decide_eq_true (by kernel_rfl)) t2 bel lt2) trodAll_mk0))), rfl, bel.frame _, fun h => by cases h⟩
theorem over : Rows.joinRoomRow.holds Try.pinned (OpenSpec.ofChange Rows.joinRoomSpec) :=
  OpenClaim.holds_of_wide 3 Try.f3 rfl rfl rfl rfl rfl rfl rfl ⟨rfl, rfl, rfl, rfl, rfl⟩ rfl rfl rfl rfl rfl (by kernel_rfl) Try.func3 (by kernel_rfl)
    (of_decide_eq_true (by kernel_rfl)) (by unfold Func.isWrapper; first | (rw [if_pos (by decide +kernel)]; kernel_rfl) | (rw [if_neg (by decide +kernel)]; exact ⟨rfl, rfl⟩))
    (fun os started H enc _ => lifted os started H enc)
theorem proved : Rows.JoinRoomSaid := over
#print axioms proved
end Go.Proofs.Ytlhfkkionaemhaa.joinRoom
namespace Go.Proofs.Ytlhfkkionaemhaa
/-- The row, under a short name, for the claim. -/
theorem joinRoom_holds : Rows.JoinRoomSaid := joinRoom.proved
end Go.Proofs.Ytlhfkkionaemhaa
