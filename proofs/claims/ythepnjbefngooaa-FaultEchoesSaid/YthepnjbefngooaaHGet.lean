/- The walk of pkt.get: the world is as it was. Conditions: the bytes lie in the string, at most four of them. -/
import Derived.LoopTactic
import Derived.Test.YthepnjbefngooaaHHead
namespace Go.Proofs.Ythepnjbefngooaa.H
set_option linter.unusedSimpArgs false
set_option linter.unusedVariables false
open Go Go.RowKit Go.Proofs.YthepnjbefngooaaW.PrintWords Go.Proofs.YthepnjbefngooaaW.PrintLast Go.Proofs.YthepnjbefngooaaW.PrintMore Go.Proofs.Ythepnjbefngooaa.Plain

def getn (s : ByteArray) (i : Nat) : Nat → Int
  | 0 => 0
  | j + 1 => getn s i j * 256 + bt s ((i + j : Nat) : Int)
theorem getn_range (s : ByteArray) (i : Nat) : ∀ j, j ≤ 4 → 0 ≤ getn s i j ∧ getn s i j ≤ 4294967295
  | 0, _ => ⟨Int.le_refl _, by simp only [getn]; decide⟩
  | 1, _ => by have h := bt_range s ((i + 0 : Nat) : Int); simp only [getn]; omega
  | 2, _ => by have h := bt_range s ((i + 0 : Nat) : Int); have h1 := bt_range s ((i + 1 : Nat) : Int); simp only [getn]; omega
  | 3, _ => by have h := bt_range s ((i + 0 : Nat) : Int); have h1 := bt_range s ((i + 1 : Nat) : Int); have h2 := bt_range s ((i + 2 : Nat) : Int); simp only [getn]; omega
  | 4, _ => by have h := bt_range s ((i + 0 : Nat) : Int); have h1 := bt_range s ((i + 1 : Nat) : Int); have h2 := bt_range s ((i + 2 : Nat) : Int); have h3 := bt_range s ((i + 3 : Nat) : Int); simp only [getn]; omega
  | n + 5, h => absurd h (by omega)

set_option maxHeartbeats 1000000 in
theorem get_calls (s : ByteArray) (i n : Nat) (hs : s.size ≤ 2000) (hn : n ≤ 4) (hi : i + n ≤ s.size) (w : World) :
    Calls Try.prog 38 #[.string s, .int .i64 (i : Int), .int .i64 (n : Int)] w fun e w' => e = .returned (.int .i64 (getn s i n)) ∧ w' = w := by
  go_enter Try.func38, Try.ntmps38
  go_wp2
  go_loop [7, 10] (fun x j => ∃ k : Nat, k ≤ n ∧ j = .int .i64 k ∧ x = .int .i64 (getn s i k)) (fun _ j => n - (intOf j).toNat)
  case atStart => exact ⟨0, Nat.zero_le _, rfl, rfl⟩
  case round =>
    obtain ⟨k, hk, rfl, rfl⟩ := hrel
    by_cases hlt : k < n
    · have hik : i + k < s.size := by omega
      have hr := getn_range s i k (by omega)
      have hb := bt_range s ((i + k : Nat) : Int)
      have hsucc : getn s i (k + 1) = getn s i k * 256 + bt s ((i + k : Nat) : Int) := rfl
      have hor := or_byte (x := getn s i k) (y := bt s ((i + k : Nat) : Int)) hr.1 (by omega) hb.1 (by omega)
      rw [w64 (n := getn s i k * 256) (by omega) (by omega), w64 (n := bt s ((i + k : Nat) : Int)) (by omega) (by omega), idx_bt s (i + k) hik] at hor
      have HS := Lib.hid hsucc
      have HB := Lib.hid (idx_bt s (i + k) hik)
      clear hsucc hb
      go_wp2
      go_round
      case rel => exact ⟨k + 1, by omega, by go_num, by rw [HS.out, HB.out, w64 (n := ((s[i + k]'hik).toNat : Int)) (by omega) (by have := (s[i + k]'hik).toNat_lt; omega), hor]⟩
      case measure => simp [intOf]; omega
    · obtain rfl : k = n := by omega
      go_wp2
      go_ret
      exact ⟨rfl, rfl⟩
end Go.Proofs.Ythepnjbefngooaa.H
