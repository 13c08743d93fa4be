/- Plain facts on the words of 32-bit numbers: which are subnormal, which are not numbers. No program in sight. -/
import Derived.Test.YthbinacchpjkmaaFc
import Derived.Laws.BitsLemmas
set_option linter.unusedSimpArgs false
set_option linter.unusedVariables false
namespace Go.Proofs.Ythbinacchpjkmaa.Fl
open Ieee

theorem s_sw : FloatKind.f32.format.signWeight = 2147483648 := by decide +kernel
theorem s_bin : FloatKind.f32.format.binade = 8388608 := by decide +kernel
theorem s_inf : FloatKind.f32.format.infRung = 2139095040 := by decide +kernel
theorem d_sw : FloatKind.f64.format.signWeight = 9223372036854775808 := by decide +kernel
theorem d_bin : FloatKind.f64.format.binade = 4503599627370496 := by decide +kernel
theorem d_inf : FloatKind.f64.format.infRung = 9218868437227405312 := by decide +kernel

theorem isN_rung (k : FloatKind) (x : Nat) : isN k x = decide (k.format.infRung < x % k.format.signWeight) := by
  unfold isN FloatKind.decode Format.read
  have hb : k.format.binade ≤ k.format.infRung := by cases k <;> decide +kernel
  generalize k.format.infRung = I at *
  generalize k.format.binade = B at *
  generalize x % k.format.signWeight = r
  by_cases h1 : r < B
  · rw [if_pos h1]; simp [Datum.isNaN]; omega
  · rw [if_neg h1]
    by_cases h2 : r < I
    · rw [if_pos h2]; simp [Datum.isNaN]; omega
    · rw [if_neg h2]
      by_cases h3 : r = I
      · rw [if_pos h3]; simp [Datum.isNaN]; omega
      · rw [if_neg h3]; simp [Datum.isNaN]; omega

theorem isN32 (x : Nat) : isN .f32 x = decide (2139095040 < x % 2147483648) := by rw [isN_rung, s_inf, s_sw]
theorem isN64 (x : Nat) : isN .f64 x = decide (9218868437227405312 < x % 9223372036854775808) := by rw [isN_rung, d_inf, d_sw]

theorem and_exp (x : Nat) : (x &&& 2139095040 == 0) = decide (x % 2147483648 < 8388608) := by
  have h1 : (x &&& 2139095040) % 2 ^ 23 = 0 := by
    rw [Nat.and_mod_two_pow, show 2139095040 % 2 ^ 23 = 0 by decide, Nat.and_zero]
  have h2 : (x &&& 2139095040) / 2 ^ 23 = x / 2 ^ 23 % 256 := by
    rw [Nat.and_div_two_pow, show 2139095040 / 2 ^ 23 = 2 ^ 8 - 1 by decide, Nat.and_two_pow_sub_one_eq_mod]
  have h3 := Nat.div_add_mod (x &&& 2139095040) (2 ^ 23)
  rw [h1, h2] at h3
  rw [← h3]
  rw [Bool.eq_iff_iff]
  simp
  omega

theorem fin32 {x : Nat} (h : x % 2147483648 < 2139095040) : fin FloatKind.f32.format x := by unfold fin; rw [s_sw, s_inf]; exact h
theorem fin64 {x : Nat} (h : x % 9223372036854775808 < 9218868437227405312) : fin FloatKind.f64.format x := by unfold fin; rw [d_sw, d_inf]; exact h

theorem aV32 (x : Nat) : aV FloatKind.f32.format x = if x % 2147483648 < 8388608 then x % 2147483648 else (8388608 + x % 2147483648 % 8388608) * 2 ^ (x % 2147483648 / 8388608 - 1) := by
  unfold aV; rw [s_sw, s_bin]
theorem sgn32 (x : Nat) : sgn FloatKind.f32.format x = (x / 2147483648 % 2 == 1) := by
  unfold sgn; rw [s_sw]
theorem aV64 (x : Nat) : aV FloatKind.f64.format x = if x % 9223372036854775808 < 4503599627370496 then x % 9223372036854775808 else (4503599627370496 + x % 9223372036854775808 % 4503599627370496) * 2 ^ (x % 9223372036854775808 / 4503599627370496 - 1) := by
  unfold aV; rw [d_sw, d_bin]
theorem sgn64 (x : Nat) : sgn FloatKind.f64.format x = (x / 9223372036854775808 % 2 == 1) := by
  unfold sgn; rw [d_sw]

/-- '|x| < 2 ^ -126', as the program asks it. -/
theorem sub_lt (x : Nat) (hn : isN .f32 x = false) : (FloatKind.f32.format.order (x % 2147483648) 8388608 == some .lt) = decide (x % 2147483648 < 8388608) := by
  rw [isN32] at hn
  have hn' : x % 2147483648 ≤ 2139095040 := by simpa using hn
  by_cases hi : x % 2147483648 = 2139095040
  · rw [hi]; decide +kernel
  · have hx : fin FloatKind.f32.format (x % 2147483648) := fin32 (by omega)
    have hy : fin FloatKind.f32.format 8388608 := fin32 (by omega)
    rw [order_fin _ hx hy]
    have e1 : sV FloatKind.f32.format (x % 2147483648) = aV FloatKind.f32.format (x % 2147483648) := by
      unfold sV; rw [sgn32, Nat.div_eq_of_lt (Nat.mod_lt _ (by omega))]; rfl
    have e2 : sV FloatKind.f32.format 8388608 = 8388608 := by decide +kernel
    rw [e1, e2, aV32]
    have e3 : x % 2147483648 % 2147483648 = x % 2147483648 := by omega
    rw [e3]
    by_cases c : x % 2147483648 < 8388608
    · rw [if_pos c]
      simp only [compare, compareOfLessAndEq]
      rw [if_pos (by omega)]; simp [c]
    · rw [if_neg c]
      have hp : 1 ≤ 2 ^ (x % 2147483648 / 8388608 - 1) := Nat.one_le_two_pow
      have hg : 8388608 * 1 ≤ (8388608 + x % 2147483648 % 8388608) * 2 ^ (x % 2147483648 / 8388608 - 1) := Nat.mul_le_mul (by omega) hp
      simp only [compare, compareOfLessAndEq]
      rw [if_neg (by omega)]
      split <;> simp [c]

theorem i64_and (a b : Nat) (ha : a < 2 ^ 63) (hb : b < 2 ^ 63) : bits .and .i64 (a : Int) (b : Int) = ((a &&& b : Nat) : Int) :=
  (bits_nat .i64 63 (by decide) (fun n h0 h1 => by rw [IntKind.wrap_i64]; omega) a b ha hb).1

/-- The same by its bits. -/
theorem sub_bits (x : Nat) : ((if isN .f32 x then 2143289344 else x) &&& 2139095040 == 0) = (FloatKind.f32.format.order (x % 2147483648) 8388608 == some .lt) := by
  by_cases h : isN .f32 x = true
  · rw [if_pos h]
    have h2 : isN .f32 (x % 2147483648) = true := by rw [isN32] at *; simpa using h
    rw [order_nanL h2]; decide
  · rw [if_neg h, and_exp, sub_lt x (by simpa using h)]
end Go.Proofs.Ythbinacchpjkmaa.Fl
