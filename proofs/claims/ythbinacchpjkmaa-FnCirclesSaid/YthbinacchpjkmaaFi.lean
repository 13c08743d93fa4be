/- Plain facts on square roots of 64-bit numbers. No program in sight. -/
import Derived.Test.YthbinacchpjkmaaFf
set_option linter.unusedSimpArgs false
set_option linter.unusedVariables false
namespace Go.Proofs.Ythbinacchpjkmaa.Fl
open Ieee

theorem rootFrom_le (n : Nat) : ∀ (todo root : Nat), root * root ≤ n → Datum.rootFrom n todo root * Datum.rootFrom n todo root ≤ n := by
  intro todo
  induction todo with
  | zero => intro root h; exact h
  | succ t ih =>
    intro root h
    unfold Datum.rootFrom
    apply ih
    split
    · assumption
    · exact h

theorem root_bound {m whole more q : Nat} {i P : Int} (hm : m ≠ 0) (hi : D.leastPlace ≤ i) (hP : i - (more : Int) = 2 * (P + 1)) (hw : whole * whole ≤ m * 2 ^ more)
    (h : m * 2 ^ up D i * one D ≤ 2 ^ q * 2 ^ q) : (2 * whole + (whole * whole != m * 2 ^ more).toNat) * 2 ^ up D P ≤ 2 ^ q * 2 ^ dn D P := by
  obtain ⟨c, hc⟩ : ∃ c : Nat, c = 1074 := ⟨_, rfl⟩
  have hone : one D = 2 ^ c := by
    have : (-D.leastPlace).toNat = 1074 := by rw [lpD]; decide
    unfold one; rw [this, hc]
  have hlp := lpD
  have hui : up D i = (i + c).toNat := by unfold up; rw [lpD]; omega
  have hup : up D P = (P + c).toNat := by unfold up; rw [lpD]; omega
  have hdp : dn D P = (-(c : Int) - P).toNat := by unfold dn; rw [lpD]; omega
  rw [hlp] at hi
  rw [hone, hui] at h
  rw [hup, hdp]
  have hi' : -(c : Int) ≤ i := by omega
  have hc1 : 1 ≤ c := by omega
  clear hone hui hup hdp hlp hi hc
  have hn : 1 ≤ m * 2 ^ more := Nat.mul_pos (Nat.pos_of_ne_zero hm) (Nat.two_pow_pos _)
  obtain ⟨T, hT⟩ : ∃ T : Nat, T = (i + c).toNat + c := ⟨_, rfl⟩
  have eL : m * 2 ^ more * 2 ^ T = m * 2 ^ (i + c).toNat * 2 ^ c * 2 ^ more := by
    rw [hT, Nat.pow_add]; simp only [Nat.mul_assoc, Nat.mul_comm, Nat.mul_left_comm]
  have eR : 2 ^ q * 2 ^ q * 2 ^ more = 2 ^ (q + (q + more)) := by rw [Nat.pow_add, Nat.pow_add, Nat.mul_assoc]
  have h1 := Nat.mul_le_mul_right (2 ^ more) h
  rw [← eL, eR] at h1
  clear eL eR h
  by_cases hk : P + 1 ≤ (q : Int) - c
  · obtain ⟨κ, hκ⟩ : ∃ κ : Nat, (κ : Int) = (q : Int) - c - P - 1 := ⟨((q : Int) - c - P - 1).toNat, by omega⟩
    have e2 : q + (q + more) = κ + κ + T := by omega
    rw [e2, Nat.pow_add 2 (κ + κ)] at h1
    have h2 := Nat.le_of_mul_le_mul_right h1 (Nat.two_pow_pos _)
    rw [Nat.pow_add] at h2
    have hR : 2 ^ q * 2 ^ (-(c : Int) - P).toNat = 2 * 2 ^ κ * 2 ^ (P + c).toNat := by
      rw [Nat.mul_comm 2 (2 ^ κ), ← Nat.pow_succ, ← Nat.pow_add, ← Nat.pow_add]
      congr 1; omega
    rw [hR]
    apply Nat.mul_le_mul_right
    clear h1 hR
    generalize 2 ^ κ = N at *
    generalize m * 2 ^ more = n at *
    have hle : whole ≤ N := by
      rcases Nat.lt_or_ge N whole with g | g
      · exfalso
        have g2 : N * N < whole * whole := Nat.mul_lt_mul_of_lt_of_le g (Nat.le_of_lt g) (by omega)
        exact absurd (Nat.le_trans hw h2) (Nat.not_le.2 g2)
      · exact g
    by_cases e : whole = N
    · subst e
      have e3 : whole * whole = n := Nat.le_antisymm hw h2
      rw [e3]; simp
    · have e4 := Bool.toNat_le (whole * whole != n)
      generalize (whole * whole != n).toNat = st at *
      clear hw h2
      omega
  · exfalso
    have h3 : 2 ^ (q + (q + more)) ≤ 2 ^ (T - 1) := Nat.pow_le_pow_right (by omega) (by omega)
    obtain ⟨T', rfl⟩ : ∃ T', T = T' + 1 := ⟨T - 1, by omega⟩
    rw [Nat.pow_succ] at h1
    rw [Nat.add_sub_cancel] at h3
    have h5 := Nat.two_pow_pos T'
    have h6 : 1 * (2 ^ T' * 2) ≤ m * 2 ^ more * (2 ^ T' * 2) := Nat.mul_le_mul_right _ hn
    have h7 := Nat.le_trans h6 (Nat.le_trans h1 h3)
    generalize 2 ^ T' = Z at *
    clear h1 h3 h6
    omega

def fsqrt (x : Nat) : Nat := can .f64 ((D.sqrt x).getD (qn .f64))

theorem sqrt_nan {x : Nat} (h : isN .f64 x = true) : D.sqrt x = none := by
  obtain ⟨s, t, e⟩ := decode_nan h
  unfold Format.sqrt; rw [e]; rfl
theorem fsqrt_can (x : Nat) : fsqrt (can .f64 x) = fsqrt x := by
  unfold fsqrt
  by_cases h : isN .f64 x = true
  · rw [sqrt_nan h, sqrt_nan (by rw [isN_can]; exact h)]
  · rw [can_of_not (x := x) (by simpa using h)]

/-- The root of a number below 2 ^ (2 b): below 2 ^ b. -/
theorem In.sqrt {x : Nat} {a b : Nat} (hx : In x (-(P a : Int)) (P a)) (hab : a + 1074 = b + b) (hb : b ≤ 2000) : In (fsqrt x) 0 (P b) := by
  rcases hx with hx | ⟨hx, x1, x2⟩
  · left; unfold fsqrt; rw [sqrt_nan hx, isN_can]; exact isN_qn _
  obtain ⟨s, m, i, a1, a2, a3, a4, a5⟩ := read_sV D hx
  have hval : ∀ r, D.sqrt x = some r → (fin D r ∧ 0 ≤ sV D r ∧ sV D r ≤ (P b : Int)) → In (fsqrt x) 0 (P b) := by
    intro r e h
    have : fsqrt x = r := by unfold fsqrt; rw [e]; exact can_of_not (fin_not_nan (k := .f64) h.1)
    rw [this]; exact .inr h
  by_cases hm : m = 0
  · subst hm
    have e : D.sqrt x = some (D.write (.number s 0 i)) := by unfold Format.sqrt; rw [a1]; simp [Datum.root]
    refine hval _ e (write_bounds D ebD s 0 i 0 (P b) (rep0 D (infV_pos D)) (repP hb) ?_ ?_)
    · simp
    · simp only [Nat.zero_mul, Int.ofNat_zero, Int.neg_zero, ite_self]
      exact Int.mul_nonneg (Int.natCast_nonneg _) (Int.natCast_nonneg _)
  · cases s
    · generalize hmore : 2 * (D.fractionBits + 2) - m.log2 + ((i - ((2 * (D.fractionBits + 2) - m.log2 : Nat) : Int)) % 2).toNat = more
      generalize hwh : Datum.rootFrom (m * 2 ^ more) ((m * 2 ^ more).log2 / 2 + 1) 0 = whole
      have e : D.sqrt x = some (D.write (.number false (2 * whole + (whole * whole != m * 2 ^ more).toNat) ((i - (more : Int)) / 2 - 1))) := by
        unfold Format.sqrt; rw [a1]
        simp only [Datum.root, if_neg hm, Bool.false_eq_true, if_false, Nat.shiftLeft_eq, Option.map_some]
        rw [hmore, hwh]
      have hw : whole * whole ≤ m * 2 ^ more := by rw [← hwh]; exact rootFrom_le _ _ _ (by omega)
      have hP : i - (more : Int) = 2 * (((i - (more : Int)) / 2 - 1) + 1) := by
        rw [← hmore]
        generalize (2 * (D.fractionBits + 2) - m.log2 : Nat) = k
        omega
      refine hval _ e ?_
      have hx2 : m * 2 ^ up D i * one D ≤ 2 ^ b * 2 ^ b := by
        have g1 : (m * 2 ^ up D i : Nat) ≤ P a := by
          rw [← a3, signed_eq] at x2
          simp only [Bool.false_eq_true, if_false] at x2
          exact_mod_cast x2
        have g2 : one D = P 1074 := by have := oneD; exact_mod_cast this
        have g3 : P a * P 1074 = P b * P b := by rw [← P_add, ← P_add, hab]
        rw [g2]
        calc m * 2 ^ up D i * P 1074 ≤ P a * P 1074 := Nat.mul_le_mul_right _ g1
          _ = 2 ^ b * 2 ^ b := g3
      have hr := root_bound (q := b) hm a5 hP hw hx2
      refine write_bounds D ebD _ _ _ 0 (P b) (rep0 D (infV_pos D)) (repP hb) ?_ ?_
      · simp only [Int.zero_mul, Bool.false_eq_true, if_false]; exact Int.natCast_nonneg _
      · simp only [Bool.false_eq_true, if_false]; unfold P; exact_mod_cast hr
    · left
      have e : D.sqrt x = none := by
        unfold Format.sqrt; rw [a1]; simp [Datum.root, hm]
      unfold fsqrt; rw [e, isN_can]; exact isN_qn _

/-! ### A widened number -/
theorem wide_cases (x : Nat) : isN .f64 (cop .f32 .f64 x) = true ∨ (∃ s, S.read x = .infinity s ∧ cop .f32 .f64 x = D.word s D.infRung) ∨
    (fin S x ∧ fin D (cop .f32 .f64 x) ∧ sV D (cop .f32 .f64 x) = sV S x * (P 925 : Int)) := by
  by_cases hn : isN .f32 x = true
  · left
    have : floatToFloatBits .f32 x .f64 = none := by
      obtain ⟨a, b, e⟩ := decode_nan hn
      unfold floatToFloatBits FloatKind.decode
      rw [if_neg (by decide), e]
    unfold cop; rw [this, isN_can]; exact isN_qn _
  · rcases fin_of_not (k := .f32) (by simpa using hn) with h1 | ⟨s, e⟩
    · right; right
      obtain ⟨r, g1, g2, g3⟩ := widen h1
      have : cop .f32 .f64 x = r := by unfold cop; rw [g1]; exact can_of_not (fin_not_nan (k := .f64) g2)
      rw [this]; exact ⟨h1, g2, g3⟩
    · right; left
      refine ⟨s, e, ?_⟩
      have e1 : FloatKind.f32.decode x = .infinity s := e
      have : floatToFloatBits .f32 x .f64 = some (D.word s D.infRung) := by
        unfold floatToFloatBits
        rw [if_neg (by decide), e1]; rfl
      unfold cop; rw [this]
      cases s <;> decide +kernel

theorem wide_In {x : Nat} (h : fin S x) : In (cop .f32 .f64 x) (-(P 1202 : Int)) (P 1202) := by
  rcases wide_cases x with h1 | ⟨s, e, _⟩ | ⟨_, h2, h3⟩
  · exact .inl h1
  · exfalso; obtain ⟨m, p, e2, _⟩ := read_fin S h; rw [e] at e2; cases e2
  · right
    have hx : sV S x = aV S x ∨ sV S x = -(aV S x : Int) := by unfold sV; split <;> simp
    have ha : aV S x ≤ P 277 := by
      have hlt : x % 2147483648 < 2139095040 := by unfold fin at h; rw [s_sw, s_inf] at h; exact h
      rw [aV32]
      by_cases c : x % 2147483648 < 8388608
      · rw [if_pos c]; exact Nat.le_trans (Nat.le_of_lt c) (by decide +kernel)
      · rw [if_neg c]
        have h3 : (8388608 + x % 2147483648 % 8388608) ≤ P 24 := by
          have : P 24 = 16777216 := by decide
          omega
        have h4 : 2 ^ (x % 2147483648 / 8388608 - 1) ≤ P 253 := P_le _ 253 (by omega)
        have := Nat.mul_le_mul h3 h4
        rw [← P_add] at this
        exact this
    have e : (P 1202 : Int) = (P 277 : Int) * (P 925 : Int) := by rw [← Int.natCast_mul, ← P_add]
    have hp : (0 : Int) ≤ (P 925 : Int) := Int.natCast_nonneg _
    have ha' : (aV S x : Int) ≤ (P 277 : Int) := by exact_mod_cast ha
    have g := Int.mul_le_mul_of_nonneg_right ha' hp
    refine ⟨h2, ?_, ?_⟩
    · rw [h3, e]
      rcases hx with hx | hx <;> rw [hx]
      · have : 0 ≤ (aV S x : Int) * (P 925 : Int) := Int.mul_nonneg (Int.natCast_nonneg _) hp
        omega
      · rw [Int.neg_mul]; omega
    · rw [h3, e]
      rcases hx with hx | hx <;> rw [hx]
      · exact g
      · have : 0 ≤ (aV S x : Int) * (P 925 : Int) := Int.mul_nonneg (Int.natCast_nonneg _) hp
        rw [Int.neg_mul]; omega

theorem root_ovf (x : Nat) : ovf .f64 .f32 (fsqrt (cop .f32 .f64 x)) = false := by
  rcases wide_cases x with h1 | ⟨s, e, e2⟩ | ⟨h1, h2, h3⟩
  · apply ovf_small
    intro hn
    have : isN .f64 (fsqrt (cop .f32 .f64 x)) = true := by unfold fsqrt; rw [sqrt_nan h1, isN_can]; exact isN_qn _
    rw [this] at hn; cases hn
  · rw [e2]; cases s <;> decide +kernel
  · have := In.sqrt (wide_In h1) (b := 1138) (by omega) (by omega)
    exact (this.weaken (lo' := -(P 1138 : Int)) (hi' := P 1138) (by have : (0 : Int) ≤ (P 1138 : Int) := Int.natCast_nonneg _; omega) (Int.le_refl _)).ovf (by omega)
end Go.Proofs.Ythbinacchpjkmaa.Fl
