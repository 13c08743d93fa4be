/- Plain facts: how great the results of 64-bit operations can be; and words are known by what they stand for. No program in sight. -/
import Derived.Test.YthbinacchpjkmaaFe
set_option linter.unusedSimpArgs false
set_option linter.unusedVariables false
namespace Go.Proofs.Ythbinacchpjkmaa.Fl
open Ieee

theorem P_lt {e : Nat} (h : e ≤ 2000) : P e < infV D := Nat.lt_of_le_of_lt (P_le e 2000 h) (by decide +kernel)
theorem repP {e : Nat} (h : e ≤ 2000) : RepI D (P e : Int) := rep_P D e (P_lt h)
theorem rep0 (f : Format) (h : 0 < infV f) : RepI f 0 := ⟨⟨0, 0, by simp, Nat.two_pow_pos _⟩, by simpa using h⟩
theorem infV_pos (f : Format) : 0 < infV f := Nat.mul_pos (Nat.two_pow_pos _) (Nat.two_pow_pos _)
theorem oneD : (one D : Int) = (P 1074 : Int) := by
  have : (-D.leastPlace).toNat = 1074 := by rw [lpD]; decide
  unfold one P; rw [this]

/-- Not a number, or finite and between two bounds, in units of the least place. -/
def In (x : Nat) (lo hi : Int) : Prop := isN .f64 x = true ∨ (fin D x ∧ lo ≤ sV D x ∧ sV D x ≤ hi)

theorem In.weaken {x : Nat} {lo hi lo' hi' : Int} (h : In x lo hi) (h1 : lo' ≤ lo) (h2 : hi ≤ hi') : In x lo' hi' := by
  rcases h with h | ⟨h, a, b⟩
  · exact .inl h
  · exact .inr ⟨h, by omega, by omega⟩

theorem fop_none {op : BinOp} {x y : Nat} (h : floatBits op .f64 x y = none) {lo hi : Int} : In (fop op .f64 x y) lo hi := by
  left
  unfold fop; rw [h, isN_can]; exact isN_qn _
theorem fop_some {op : BinOp} {x y r : Nat} (h : floatBits op .f64 x y = some r) (hf : fin D r) : fop op .f64 x y = r := by
  unfold fop; rw [h]; exact can_of_not (fin_not_nan (k := .f64) hf)

theorem In.add {x y : Nat} {a b c d lo hi : Int} (hx : In x a b) (hy : In y c d) (hlo : RepI D lo) (hhi : RepI D hi) (h1 : lo ≤ a + c) (h2 : b + d ≤ hi) : In (fop .add .f64 x y) lo hi := by
  rcases hx with hx | ⟨hx, x1, x2⟩
  · exact fop_none (floatBits_nanL hx)
  rcases hy with hy | ⟨hy, y1, y2⟩
  · exact fop_none (floatBits_nanR hy)
  obtain ⟨r, e, hf, r1, r2⟩ := add_bounds D ebD hx hy lo hi hlo hhi (by omega) (by omega)
  rw [fop_some (op := .add) e hf]
  exact .inr ⟨hf, r1, r2⟩
theorem In.sub {x y : Nat} {a b c d lo hi : Int} (hx : In x a b) (hy : In y c d) (hlo : RepI D lo) (hhi : RepI D hi) (h1 : lo ≤ a - d) (h2 : b - c ≤ hi) : In (fop .sub .f64 x y) lo hi := by
  rcases hx with hx | ⟨hx, x1, x2⟩
  · exact fop_none (floatBits_nanL hx)
  rcases hy with hy | ⟨hy, y1, y2⟩
  · exact fop_none (floatBits_nanR hy)
  obtain ⟨r, e, hf, r1, r2⟩ := sub_bounds D ebD hx hy lo hi hlo hhi (by omega) (by omega)
  rw [fop_some (op := .sub) e hf]
  exact .inr ⟨hf, r1, r2⟩

theorem abs_mul_le {x y a b : Int} (h1 : -a ≤ x) (h2 : x ≤ a) (h3 : -b ≤ y) (h4 : y ≤ b) : -(a * b) ≤ x * y ∧ x * y ≤ a * b := by
  have ha : x.natAbs ≤ a.natAbs := by omega
  have hb : y.natAbs ≤ b.natAbs := by omega
  have h := Nat.mul_le_mul ha hb
  rw [← Int.natAbs_mul, ← Int.natAbs_mul] at h
  have hab : 0 ≤ a * b := Int.mul_nonneg (by omega) (by omega)
  omega

/-- Products, by powers of two. -/
theorem In.mul {x y : Nat} {a b c : Nat} (hx : In x (-(P a : Int)) (P a)) (hy : In y (-(P b : Int)) (P b)) (hab : a + b = c + 1074) (hc : c ≤ 2000) : In (fop .mul .f64 x y) (-(P c : Int)) (P c) := by
  rcases hx with hx | ⟨hx, x1, x2⟩
  · exact fop_none (floatBits_nanL hx)
  rcases hy with hy | ⟨hy, y1, y2⟩
  · exact fop_none (floatBits_nanR hy)
  have hm := abs_mul_le x1 x2 y1 y2
  have e1 : (P a : Int) * (P b : Int) = (P c : Int) * (one D : Int) := by
    rw [oneD, ← Int.natCast_mul, ← Int.natCast_mul, ← P_add, ← P_add, hab]
  rw [e1] at hm
  obtain ⟨r, e, hf, r1, r2⟩ := mul_bounds D ebD (by rw [lpD]; decide) hx hy _ _ (repP hc).neg (repP hc) (by rw [Int.neg_mul]; exact hm.1) hm.2
  rw [fop_some (op := .mul) e hf]
  exact .inr ⟨hf, r1, r2⟩

/-- Division by something not less than 1. -/
theorem In.quo {x y : Nat} {a : Nat} {hi : Int} (hx : In x (-(P a : Int)) (P a)) (hy : In y (P 1074) hi) (ha : a ≤ 2000) : In (fop .quo .f64 x y) (-(P a : Int)) (P a) := by
  rcases hx with hx | ⟨hx, x1, x2⟩
  · exact fop_none (floatBits_nanL hx)
  rcases hy with hy | ⟨hy, y1, y2⟩
  · exact fop_none (floatBits_nanR hy)
  have hp : (0 : Int) < (P 1074 : Int) := by exact_mod_cast P_pos _
  have hP : (0 : Int) ≤ (P a : Int) := Int.natCast_nonneg _
  obtain ⟨r, e, hf, r1, r2⟩ := div_bounds D ebD (by rw [lpD]; decide) hx hy (by omega) _ _ (repP ha).neg (repP ha)
    (by
      rw [oneD, Int.neg_mul]
      have g1 : (P a : Int) * (P 1074 : Int) ≤ (P a : Int) * sV D y := Int.mul_le_mul_of_nonneg_left y1 hP
      have g2 : -(P a : Int) * (P 1074 : Int) ≤ sV D x * (P 1074 : Int) := Int.mul_le_mul_of_nonneg_right x1 (Int.le_of_lt hp)
      rw [Int.neg_mul] at g2
      omega)
    (by
      rw [oneD]
      have g1 : (P a : Int) * (P 1074 : Int) ≤ (P a : Int) * sV D y := Int.mul_le_mul_of_nonneg_left y1 hP
      have g2 : sV D x * (P 1074 : Int) ≤ (P a : Int) * (P 1074 : Int) := Int.mul_le_mul_of_nonneg_right x2 (Int.le_of_lt hp)
      omega)
  rw [fop_some (op := .quo) e hf]
  exact .inr ⟨hf, r1, r2⟩

theorem In.ovf {x : Nat} {a : Nat} (hx : In x (-(P a : Int)) (P a)) (ha : a ≤ 1201) : ovf .f64 .f32 x = false := by
  apply ovf_small
  intro hn
  rcases hx with hx | ⟨h1, h2, h3⟩
  · rw [hx] at hn; cases hn
  · have : (P a : Int) ≤ (P 1201 : Int) := by exact_mod_cast P_le a 1201 ha
    exact .inr ⟨h1, by omega, by omega⟩

/-! ### The sign turned -/
theorem neg_rung (k : FloatKind) (x : Nat) : Op.negFloat k x % k.format.signWeight = x % k.format.signWeight := by
  unfold Op.negFloat Format.signWeight
  rw [Nat.xor_mod_two_pow, Nat.mod_self, Nat.xor_zero]
theorem neg_div (k : FloatKind) (x : Nat) : Op.negFloat k x / k.format.signWeight = (x / k.format.signWeight) ^^^ 1 := by
  unfold Op.negFloat Format.signWeight
  rw [Nat.xor_div_two_pow, Nat.div_self (Nat.two_pow_pos _)]
theorem neg_sgn (k : FloatKind) (x : Nat) : sgn k.format (Op.negFloat k x) = !sgn k.format x := by
  unfold sgn
  rw [neg_div]
  generalize x / k.format.signWeight = q
  have h : (q ^^^ 1) % 2 = (q % 2) ^^^ 1 := Nat.xor_mod_two_pow (n := 1)
  rw [h]
  rcases Nat.mod_two_eq_zero_or_one q with h | h <;> rw [h] <;> decide
theorem neg_isN (k : FloatKind) (x : Nat) : isN k (Op.negFloat k x) = isN k x := by rw [isN_rung, isN_rung, neg_rung]
theorem neg_fin (k : FloatKind) (x : Nat) : fin k.format (Op.negFloat k x) ↔ fin k.format x := by unfold fin; rw [neg_rung]
theorem neg_aV (k : FloatKind) (x : Nat) : aV k.format (Op.negFloat k x) = aV k.format x := by unfold aV; rw [neg_rung]
theorem neg_sV (k : FloatKind) (x : Nat) : sV k.format (Op.negFloat k x) = -sV k.format x := by
  unfold sV; rw [neg_sgn, neg_aV]; cases sgn k.format x <;> simp
def fneg (k : FloatKind) (x : Nat) : Nat := can k (Op.negFloat k x)
theorem fneg_can (k : FloatKind) (x : Nat) : can k (Op.negFloat k x) = fneg k (can k x) := by
  unfold fneg
  by_cases h : isN k x = true
  · rw [can_nan (by rw [neg_isN]; exact h), can_nan (by rw [neg_isN, isN_can]; exact h)]
  · rw [can_of_not (x := x) (by simpa using h)]
theorem In.neg {x : Nat} {lo hi : Int} (h : In x lo hi) : In (fneg .f64 x) (-hi) (-lo) := by
  rcases h with h | ⟨h, a, b⟩
  · left; unfold fneg; rw [isN_can, neg_isN]; exact h
  · right
    have hf : fin D (Op.negFloat .f64 x) := (neg_fin .f64 x).2 h
    have e : fneg .f64 x = Op.negFloat .f64 x := by unfold fneg; exact can_of_not (fin_not_nan (k := .f64) hf)
    have hs : sV D (Op.negFloat .f64 x) = -sV D x := neg_sV .f64 x
    rw [e]
    exact ⟨hf, by rw [hs]; omega, by rw [hs]; omega⟩

/-! ### Words are known by what they stand for -/
theorem aV_inj {b r1 r2 : Nat} (hb : 0 < b) (h : (if r1 < b then r1 else (b + r1 % b) * 2 ^ (r1 / b - 1)) = if r2 < b then r2 else (b + r2 % b) * 2 ^ (r2 / b - 1)) : r1 = r2 := by
  have lo : ∀ r, ¬ r < b → b * 2 ^ (r / b - 1) ≤ (b + r % b) * 2 ^ (r / b - 1) := fun r _ => Nat.mul_le_mul_right _ (by omega)
  have hi : ∀ r, ¬ r < b → (b + r % b) * 2 ^ (r / b - 1) < b * 2 ^ (r / b) := fun r hr => by
    have h1 : 1 ≤ r / b := (Nat.le_div_iff_mul_le hb).2 (by omega)
    have h2 : r / b = (r / b - 1) + 1 := by omega
    have h3 : b + r % b < 2 * b := by have := Nat.mod_lt r hb; omega
    have : b * 2 ^ (r / b) = (2 * b) * 2 ^ (r / b - 1) := by
      conv => lhs; rw [h2, Nat.pow_succ]
      rw [Nat.mul_comm (2 ^ _) 2, ← Nat.mul_assoc, Nat.mul_comm b 2]
    rw [this]
    exact Nat.mul_lt_mul_of_pos_right h3 (Nat.two_pow_pos _)
  have one_le : ∀ n, b * 1 ≤ b * 2 ^ n := fun n => Nat.mul_le_mul_left _ Nat.one_le_two_pow
  by_cases c1 : r1 < b
  · rw [if_pos c1] at h
    by_cases c2 : r2 < b
    · rw [if_pos c2] at h; exact h
    · rw [if_neg c2] at h
      have := lo r2 c2; have := one_le (r2 / b - 1); omega
  · rw [if_neg c1] at h
    by_cases c2 : r2 < b
    · rw [if_pos c2] at h
      have := lo r1 c1; have := one_le (r1 / b - 1); omega
    · rw [if_neg c2] at h
      have q1 : 1 ≤ r1 / b := (Nat.le_div_iff_mul_le hb).2 (by omega)
      have q2 : 1 ≤ r2 / b := (Nat.le_div_iff_mul_le hb).2 (by omega)
      have hq : r1 / b = r2 / b := by
        rcases Nat.lt_trichotomy (r1 / b) (r2 / b) with g | g | g
        · exfalso
          have g1 := hi r1 c1
          have g2 := lo r2 c2
          have g3 : b * 2 ^ (r1 / b) ≤ b * 2 ^ (r2 / b - 1) := Nat.mul_le_mul_left _ (Nat.pow_le_pow_right (by omega) (by omega))
          omega
        · exact g
        · exfalso
          have g1 := hi r2 c2
          have g2 := lo r1 c1
          have g3 : b * 2 ^ (r2 / b) ≤ b * 2 ^ (r1 / b - 1) := Nat.mul_le_mul_left _ (Nat.pow_le_pow_right (by omega) (by omega))
          omega
      rw [hq] at h
      have hm := Nat.eq_of_mul_eq_mul_right (Nat.two_pow_pos _) h
      have d1 := Nat.div_add_mod r1 b
      have d2 := Nat.div_add_mod r2 b
      rw [hq] at d1
      omega
theorem word_eq {f : Format} {x y : Nat} (hx : x < 2 * f.signWeight) (hy : y < 2 * f.signWeight) (hs : sgn f x = sgn f y) (ha : aV f x = aV f y) : x = y := by
  have hr : x % f.signWeight = y % f.signWeight := by
    unfold aV at ha
    exact aV_inj (Nat.two_pow_pos _) ha
  have hq : x / f.signWeight = y / f.signWeight := by
    have h1 : x / f.signWeight < 2 := Nat.div_lt_of_lt_mul (by rw [Nat.mul_comm]; exact hx)
    have h2 : y / f.signWeight < 2 := Nat.div_lt_of_lt_mul (by rw [Nat.mul_comm]; exact hy)
    unfold sgn at hs
    rw [Nat.mod_eq_of_lt h1, Nat.mod_eq_of_lt h2] at hs
    have : (x / f.signWeight == 1) = true ↔ (y / f.signWeight == 1) = true := by rw [hs]
    simp only [beq_iff_eq] at this
    generalize x / f.signWeight = q1 at *
    generalize y / f.signWeight = q2 at *
    omega
  have d1 := Nat.div_add_mod x f.signWeight
  have d2 := Nat.div_add_mod y f.signWeight
  rw [hr, hq] at d1
  omega
theorem width2 (f : Format) : 2 ^ f.width = 2 * f.signWeight := by
  unfold Format.width Format.signWeight
  rw [Nat.add_assoc, Nat.add_comm 1, Nat.pow_succ, Nat.mul_comm]
end Go.Proofs.Ythbinacchpjkmaa.Fl
