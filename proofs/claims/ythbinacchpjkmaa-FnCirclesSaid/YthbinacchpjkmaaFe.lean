/- Plain facts on conversions between 32-bit and 64-bit numbers: widening is exact; narrowing keeps bounds. No program in sight. -/
import Derived.Test.YthbinacchpjkmaaFd
set_option linter.unusedSimpArgs false
set_option linter.unusedVariables false
namespace Go.Proofs.Ythbinacchpjkmaa.Fl
open Ieee

abbrev S : Format := FloatKind.f32.format
abbrev D : Format := FloatKind.f64.format
theorem lpS : S.leastPlace = -149 := by decide +kernel
theorem lpD : D.leastPlace = -1074 := by decide +kernel
theorem ebS : 2 ≤ S.exponentBits := by decide +kernel
theorem ebD : 2 ≤ D.exponentBits := by decide +kernel

theorem fin_of_not {k : FloatKind} {x : Nat} (h : isN k x = false) : fin k.format x ∨ ∃ s, k.format.read x = .infinity s := by
  unfold isN FloatKind.decode at h
  unfold Format.read at *
  unfold fin
  have hb : k.format.binade ≤ k.format.infRung := by cases k <;> decide +kernel
  by_cases h1 : x % k.format.signWeight < k.format.binade
  · left; omega
  · by_cases h2 : x % k.format.signWeight < k.format.infRung
    · left; exact h2
    · right
      simp only [if_neg h1, if_neg h2] at h ⊢
      by_cases h3 : x % k.format.signWeight = k.format.infRung
      · exact ⟨_, by rw [if_pos h3]⟩
      · rw [if_neg h3] at h; simp [Datum.isNaN] at h

theorem fin_not_nan {k : FloatKind} {x : Nat} (h : fin k.format x) : isN k x = false := by
  obtain ⟨m, p, e, _⟩ := read_fin _ h
  unfold isN FloatKind.decode; rw [e]; rfl
theorem fin_not_inf {k : FloatKind} {x : Nat} (h : fin k.format x) : (k.decode x).isInfinity = false := by
  obtain ⟨m, p, e, _⟩ := read_fin _ h
  unfold FloatKind.decode; rw [e]; rfl

/-- A power of two, behind a name. -/
def P (n : Nat) : Nat := 2 ^ n
theorem P_pos (n : Nat) : 0 < P n := Nat.two_pow_pos n
theorem P_add (a b : Nat) : P (a + b) = P a * P b := Nat.pow_add 2 a b
theorem P_le (a b : Nat) (h : a ≤ b) : P a ≤ P b := Nat.pow_le_pow_right (by omega) h
theorem rep_P (f : Format) (n : Nat) (h : P n < infV f) : RepI f (P n : Int) :=
  ⟨⟨1, n, by rw [Int.natAbs_natCast, Nat.one_mul]; rfl, Nat.one_lt_two_pow (by omega)⟩, by rw [Int.natAbs_natCast]; exact h⟩
theorem RepI.neg {f : Format} {b : Int} (h : RepI f b) : RepI f (-b) := by
  unfold RepI at *; rw [Int.natAbs_neg]; exact h

/-- Narrowing, in units of the wider. -/
theorem narrow_bounds {x : Nat} (hx : fin D x) (lo hi : Int) (hlo : RepI S lo) (hhi : RepI S hi) (h1 : lo * (P 925 : Nat) ≤ sV D x) (h2 : sV D x ≤ hi * (P 925 : Nat)) :
    ∃ r, floatToFloatBits .f64 x .f32 = some r ∧ fin S r ∧ lo ≤ sV S r ∧ sV S r ≤ hi := by
  obtain ⟨s, m, p, a1, a2, a3, a4, a5⟩ := read_sV D hx
  have hw : fin S (S.write (.number s m p)) ∧ lo ≤ sV S (S.write (.number s m p)) ∧ sV S (S.write (.number s m p)) ≤ hi := by
    rw [← a3] at h1 h2
    unfold P at h1 h2
    have l1 := lpS
    have l2 := lpD
    by_cases c : -149 ≤ p
    · have e1 : up D p = up S p + 925 := by unfold up; omega
      have e2 : dn S p = 0 := by unfold dn; omega
      rw [e1, ← signed_split] at h1 h2
      have hU : (0 : Int) < ((P 925 : Nat) : Int) := by exact_mod_cast P_pos _
      unfold P at hU
      have g1 := Int.le_of_mul_le_mul_right h1 hU
      have g2 := Int.le_of_mul_le_mul_right h2 hU
      rw [signed_eq] at g1 g2
      apply write_bounds S ebS _ _ _ _ _ hlo hhi
      · rw [e2]; simpa using g1
      · rw [e2]; simpa using g2
    · have e1 : 925 = dn S p + up D p := by unfold up dn; omega
      have e2 : up S p = 0 := by unfold up; omega
      have e3 : signed s m (up D p) = signed s m 0 * ((2 ^ up D p : Nat) : Int) := by
        rw [signed_split]; simp
      rw [e3, e1, Nat.pow_add, Int.natCast_mul, ← Int.mul_assoc] at h1 h2
      have hU : (0 : Int) < ((2 ^ up D p : Nat) : Int) := by exact_mod_cast Nat.two_pow_pos _
      have g1 := Int.le_of_mul_le_mul_right h1 hU
      have g2 := Int.le_of_mul_le_mul_right h2 hU
      rw [signed_eq] at g1 g2
      apply write_bounds S ebS _ _ _ _ _ hlo hhi
      · rw [e2]; exact g1
      · rw [e2]; exact g2
  refine ⟨_, ?_, hw⟩
  unfold floatToFloatBits
  rw [if_neg (by decide)]
  have e0 : FloatKind.f64.decode x = .number s m p := a1
  rw [e0]
  simp only
  have e1 : (FloatKind.f32.decode (FloatKind.f32.encode (.number s m p))).isInfinity = false := fin_not_inf (k := .f32) hw.1
  rw [e1]
  rfl

theorem repS_big : RepI S (P 276 : Int) := rep_P S 276 (by decide +kernel)

/-- Below 2 ^ 127 in size: nothing overflows in narrowing. -/
theorem ovf_small {x : Nat} (hx : isN .f64 x = false → (∃ s, D.read x = .infinity s) ∨ (fin D x ∧ -(P 1201 : Int) ≤ sV D x ∧ sV D x ≤ (P 1201 : Int))) : ovf .f64 .f32 x = false := by
  unfold ovf
  by_cases hn : isN .f64 x = true
  · obtain ⟨s, t, e⟩ := decode_nan hn
    unfold FloatKind.decode; rw [e]
  · rcases hx (by simpa using hn) with ⟨s, e⟩ | ⟨h1, h2, h3⟩
    · unfold FloatKind.decode; rw [e]
    · have e276 : (P 1201 : Int) = (P 276 : Int) * ((P 925 : Nat) : Int) := by
        rw [← Int.natCast_mul, ← P_add]
      obtain ⟨r, g1, g2, _, _⟩ := narrow_bounds h1 _ _ repS_big.neg repS_big (by rw [Int.neg_mul, ← e276]; exact h2) (by rw [← e276]; exact h3)
      obtain ⟨m, p, e, _⟩ := read_fin D h1
      have e0 : FloatKind.f64.decode x = .number (sgn D x) m p := e
      unfold floatToFloatBits at g1
      rw [if_neg (by decide), e0] at g1
      rw [e0]
      simp only at g1 ⊢
      by_cases hi : (FloatKind.f32.decode (FloatKind.f32.encode (.number (sgn D x) m p))).isInfinity = true
      · rw [if_pos hi] at g1; cases g1
      · simp only [Bool.not_eq_true] at hi; rw [hi]; rfl

/-- Widening is exact. -/
theorem widen {x : Nat} (hx : fin S x) : ∃ r, floatToFloatBits .f32 x .f64 = some r ∧ fin D r ∧ sV D r = sV S x * ((P 925 : Nat) : Int) := by
  obtain ⟨s, m, p, a1, a2, a3, a4, a5⟩ := read_sV S hx
  have l1 := lpS
  have l2 := lpD
  have e1 : up D p = up S p + 925 := by unfold up; omega
  have e2 : dn D p = 0 := by unfold dn; omega
  have hX : signed s m (up D p) = sV S x * ((P 925 : Nat) : Int) := by unfold P; rw [e1, ← signed_split, a3]
  have hrep : RepI D (sV S x * ((P 925 : Nat) : Int)) := by
    have ha : (sV S x * ((P 925 : Nat) : Int)).natAbs = aV S x * P 925 := by
      rw [Int.natAbs_mul, Int.natAbs_natCast]
      congr 1
      unfold sV; split <;> simp
    have hlt : x % 2147483648 < 2139095040 := by unfold fin at hx; rw [s_sw, s_inf] at hx; exact hx
    unfold RepI
    rw [ha, aV32]
    by_cases c : x % 2147483648 < 8388608
    · rw [if_pos c]
      refine ⟨⟨x % 2147483648, 925, by unfold P; rfl, ?_⟩, ?_⟩
      · have : (2 : Nat) ^ (D.fractionBits + 1) = 9007199254740992 := by decide +kernel
        omega
      · have : x % 2147483648 * P 925 ≤ 8388608 * P 925 := Nat.mul_le_mul_right _ (by omega)
        exact Nat.lt_of_le_of_lt this (by decide +kernel)
    · rw [if_neg c]
      refine ⟨⟨8388608 + x % 2147483648 % 8388608, x % 2147483648 / 8388608 - 1 + 925, by rw [Nat.pow_add, Nat.mul_assoc]; rfl, ?_⟩, ?_⟩
      · have : (2 : Nat) ^ (D.fractionBits + 1) = 9007199254740992 := by decide +kernel
        omega
      · have h3 : (8388608 + x % 2147483648 % 8388608) ≤ 2 ^ 24 := by omega
        have h4 : 2 ^ (x % 2147483648 / 8388608 - 1) ≤ P 253 := P_le _ 253 (by omega)
        have := Nat.mul_le_mul_right (P 925) (Nat.mul_le_mul h3 h4)
        exact Nat.lt_of_le_of_lt this (by decide +kernel)
  have hw := write_bounds D ebD s m p _ _ hrep hrep (by rw [e2, ← signed_eq, hX, Nat.pow_zero, Int.natCast_one, Int.mul_one]; exact Int.le_refl _) (by rw [e2, ← signed_eq, hX, Nat.pow_zero, Int.natCast_one, Int.mul_one]; exact Int.le_refl _)
  refine ⟨D.write (.number s m p), ?_, hw.1, by omega⟩
  unfold floatToFloatBits
  rw [if_neg (by decide)]
  have e0 : FloatKind.f32.decode x = .number s m p := a1
  rw [e0]
  simp only
  have e1 : (FloatKind.f64.decode (FloatKind.f64.encode (.number s m p))).isInfinity = false := fin_not_inf (k := .f64) hw.1
  rw [e1]
  rfl

theorem ovf_widen (x : Nat) : ovf .f32 .f64 x = false := by
  unfold ovf
  by_cases hn : isN .f32 x = true
  · obtain ⟨s, t, e⟩ := decode_nan hn
    unfold FloatKind.decode; rw [e]
  · rcases fin_of_not (k := .f32) (by simpa using hn) with h1 | ⟨s, e⟩
    · obtain ⟨r, g1, g2, _⟩ := widen h1
      obtain ⟨m, p, e, _⟩ := read_fin S h1
      have e0 : FloatKind.f32.decode x = .number (sgn S x) m p := e
      unfold floatToFloatBits at g1
      rw [if_neg (by decide), e0] at g1
      rw [e0]
      simp only at g1 ⊢
      by_cases hi : (FloatKind.f64.decode (FloatKind.f64.encode (.number (sgn S x) m p))).isInfinity = true
      · rw [if_pos hi] at g1; cases g1
      · simp only [Bool.not_eq_true] at hi; rw [hi]; rfl
    · unfold FloatKind.decode; rw [e]

/-- The widened number, up to which not-a-number it is. -/
theorem cVw_can (x : Nat) (w : World) : can .f64 (cV .f32 x .f64 w) = cop .f32 .f64 (can .f32 x) := cV_can .f32 .f64 x w (ovf_widen x) (by decide)
end Go.Proofs.Ythbinacchpjkmaa.Fl
