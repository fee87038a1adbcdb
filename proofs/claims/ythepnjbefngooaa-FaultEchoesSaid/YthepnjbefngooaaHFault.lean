/- Walks of fault.unicast, silent and Tell. Conditions: sizes that the rows give. -/
import Derived.RegionTactic
import Derived.ChangeAlike
import Derived.BigRegion
import Derived.Deep.QuietTactic
import Derived.BigQuiet
import Derived.IntWalk
import Derived.Test.YthepnjbefngooaaHCutAid
import Derived.Test.YthepnjbefngooaaHEnc
namespace Go.Proofs.Ythepnjbefngooaa.H
set_option linter.unusedSimpArgs false
set_option linter.unusedVariables false
open Go Go.RowKit Go.Proofs.YthepnjbefngooaaW.PrintWords Go.Proofs.YthepnjbefngooaaW.PrintLast Go.Proofs.YthepnjbefngooaaW.PrintMore Go.Proofs.Ythepnjbefngooaa.Plain

/-- An address of one node. -/
def uni (a : Int) : Bool := (a != 0) && ((a != 4294967295) && (a / 268435456 != 14))
theorem ret_bool {a b : Bool} (h : a = b) : Ending.returned (.bool a) = .returned (.bool b) := by rw [h]

theorem unicast_calls (a : Int) (h0 : 0 ≤ a) (h1 : a ≤ 4294967295) (w : World) :
    Calls Try.prog 32 #[.int .u32 a] w fun e w' => e = .returned (.bool (uni a)) ∧ w = w' := by
  by_cases c0 : a = 0
  · subst c0
    have hu : uni 0 = false := by decide
    rw [hu]
    go_enter Try.func32, Try.ntmps32
    go_wp2
    go_ret
    exact ⟨rfl, rfl⟩
  · by_cases c1 : a = 4294967295
    · subst c1
      have hu : uni 4294967295 = false := by decide
      rw [hu]
      go_enter Try.func32, Try.ntmps32
      go_wp2
      go_ret
      exact ⟨rfl, rfl⟩
    · have b0 : (a != 0) = true := bne_iff_ne.mpr c0
      have b1 : (a != 4294967295) = true := bne_iff_ne.mpr c1
      have hu : uni a = (a / 268435456 != 14) := by unfold uni; rw [b0, b1]; rfl
      have HU := Lib.hid hu
      clear hu c0 c1
      go_enter Try.func32, Try.ntmps32
      go_wp2
      go_ret
      exact ⟨ret_bool HU.out.symm, rfl⟩

/-- The first byte says an echo message. -/
def echoB (s : ByteArray) : Bool := decide (s.size ≠ 0 ∧ (bt s 0 = 8 ∨ bt s 0 = 9))
/-- No error message is told about the packet. -/
def silentv (src dst proto off : Int) (body : ByteArray) : Bool := decide (0 < off) || ((proto == 1) && !echoB body) || !uni src || !uni dst

set_option maxHeartbeats 4000000 in
theorem silent_calls (a0 a1 a2 a3 a4 a5 : Int) (a6 a7 : Bool) (a8 : ByteArray) (h0 : 0 ≤ a0 ∧ a0 ≤ 4294967295) (h1 : 0 ≤ a1 ∧ a1 ≤ 4294967295) (hs : a8.size ≤ 1500) (w : World) :
    Calls Try.prog 31 #[.agg #[.int .u32 a0, .int .u32 a1, .int .i64 a2, .int .i64 a3, .int .i64 a4, .int .i64 a5, .bool a6, .bool a7, .string a8]] w fun e w' => e = .returned (.bool (silentv a0 a1 a2 a5 a8)) ∧ Below w.heap.size w w' := by
  have u0 := fun W => unicast_calls a0 h0.1 h0.2 W
  have u1 := fun W => unicast_calls a1 h1.1 h1.2 W
  have hv : silentv a0 a1 a2 a5 a8 = (decide (0 < a5) || ((a2 == 1) && !echoB a8) || !uni a0 || !uni a1) := rfl
  generalize uni a0 = x0 at u0 hv
  generalize uni a1 = x1 at u1 hv
  have HV := Lib.hid hv
  clear hv
  have he : a8.size = 0 ∨ (∃ b, a8.toList.isEmpty = false ∧ 0 < a8.size ∧ bt a8 0 = b) := by
    by_cases h : a8.size = 0
    · exact .inl h
    · exact .inr ⟨_, by
        have := mt (toList_nil a8).mp h
        simpa using this, by omega, rfl⟩
  rcases he with he | ⟨b, hne, hpos, hb⟩
  · have hE : echoB a8 = false := by unfold echoB; simp [he]
    have hn : a8.toList = [] := (toList_nil a8).mpr he
    have hn' : a8.toList.isEmpty = true := by rw [hn]; rfl
    by_cases c5 : 0 < a5
    · go_enter Try.func31, Try.ntmps31
      go_wp2
      go_ret
      exact ⟨ret_bool (by rw [HV.out]; simp [c5]), (Below.refl _ _).alloc (Nat.le_refl _) _⟩
    · have b5 : decide (0 < a5) = false := decide_eq_false c5
      by_cases c2 : a2 = 1
      · subst c2
        go_enter Try.func31, Try.ntmps31
        go_wp2
        go_ret
        exact ⟨ret_bool (by rw [HV.out, hE, b5]; rfl), (Below.refl _ _).alloc (Nat.le_refl _) _⟩
      · have b2 : (a2 == 1) = false := beq_eq_false_iff_ne.mpr c2
        clear c2
        cases x0 <;> cases x1
        all_goals
          go_enter Try.func31, Try.ntmps31
          go_wp2_with (go_at_call 32; first | ((with_reducible refine (u0 _).mono ?_); rintro e w1 ⟨rfl, rfl⟩) | ((with_reducible refine (u1 _).mono ?_); rintro e w1 ⟨rfl, rfl⟩))
          go_ret
          exact ⟨ret_bool (by rw [HV.out, hE, b5, b2]; rfl), (Below.refl _ _).alloc (Nat.le_refl _) _⟩
  · have hbt : bt a8 0 = ((a8[0]'hpos).toNat : Int) := (bt_at a8 0 (by simpa using hpos)).symm
    rw [hbt] at hb
    have HE := Lib.hid (show echoB a8 = (decide (((a8[0]'hpos).toNat : Int) = 8) || decide (((a8[0]'hpos).toNat : Int) = 9)) by
      have hz : a8.size ≠ 0 := by omega
      unfold echoB
      rw [hbt, Bool.eq_iff_iff]
      simp [hz])
    clear hb hbt b
    have cases8 : ((((a8[0]'hpos).toNat : Int) == 8) = true ∧ echoB a8 = true) ∨ ((((a8[0]'hpos).toNat : Int) == 8) = false ∧ (((a8[0]'hpos).toNat : Int) == 9) = true ∧ echoB a8 = true) ∨ ((((a8[0]'hpos).toNat : Int) == 8) = false ∧ (((a8[0]'hpos).toNat : Int) == 9) = false ∧ echoB a8 = false) := by
      rw [HE.out]
      by_cases k8 : ((a8[0]'hpos).toNat : Int) = 8
      · exact .inl ⟨beq_iff_eq.mpr k8, by simp [k8]⟩
      · by_cases k9 : ((a8[0]'hpos).toNat : Int) = 9
        · exact .inr (.inl ⟨beq_eq_false_iff_ne.mpr k8, beq_iff_eq.mpr k9, by simp [k9]⟩)
        · exact .inr (.inr ⟨beq_eq_false_iff_ne.mpr k8, beq_eq_false_iff_ne.mpr k9, by simp [k8, k9]⟩)
    clear HE
    by_cases c5 : 0 < a5
    · rcases cases8 with ⟨f8, hE⟩ | ⟨f8, f9, hE⟩ | ⟨f8, f9, hE⟩
      all_goals
        have HE := Lib.hid hE
        clear hE
        go_enter Try.func31, Try.ntmps31
        go_wp2
        go_ret
        exact ⟨ret_bool (by rw [HV.out]; simp [c5]), (Below.refl _ _).alloc (Nat.le_refl _) _⟩
    · have b5 : decide (0 < a5) = false := decide_eq_false c5
      by_cases c2 : a2 = 1
      · subst c2
        rcases cases8 with ⟨f8, hE⟩ | ⟨f8, f9, hE⟩ | ⟨f8, f9, hE⟩
        all_goals
          have HE := Lib.hid hE
          clear hE
          cases x0 <;> cases x1
          all_goals
            go_enter Try.func31, Try.ntmps31
            go_wp2_with (go_at_call 32; first | ((with_reducible refine (u0 _).mono ?_); rintro e w1 ⟨rfl, rfl⟩) | ((with_reducible refine (u1 _).mono ?_); rintro e w1 ⟨rfl, rfl⟩))
            go_ret
            exact ⟨ret_bool (by rw [HV.out, HE.out, b5]; rfl), (Below.refl _ _).alloc (Nat.le_refl _) _⟩
      · have b2 : (a2 == 1) = false := beq_eq_false_iff_ne.mpr c2
        clear c2
        rcases cases8 with ⟨f8, hE⟩ | ⟨f8, f9, hE⟩ | ⟨f8, f9, hE⟩
        all_goals
          have HE := Lib.hid hE
          clear hE
          cases x0 <;> cases x1
          all_goals
            go_enter Try.func31, Try.ntmps31
            go_wp2_with (go_at_call 32; first | ((with_reducible refine (u0 _).mono ?_); rintro e w1 ⟨rfl, rfl⟩) | ((with_reducible refine (u1 _).mono ?_); rintro e w1 ⟨rfl, rfl⟩))
            go_ret
            exact ⟨ret_bool (by rw [HV.out, HE.out, b5, b2]; rfl), (Below.refl _ _).alloc (Nat.le_refl _) _⟩
end Go.Proofs.Ythepnjbefngooaa.H
