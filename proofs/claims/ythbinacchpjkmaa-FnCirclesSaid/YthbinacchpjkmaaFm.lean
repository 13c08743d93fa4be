/- Plain facts: the angle of a point as the program and the reference compute it, on words of which not-a-number is one. No program in sight. -/
import Derived.Test.YthbinacchpjkmaaFl
set_option linter.unusedSimpArgs false
set_option linter.unusedVariables false
namespace Go.Proofs.Ythbinacchpjkmaa.Fl
open Ieee

abbrev wEight : Nat := 4620693217682128896
def angT (A B : Nat) : Nat := if cmpF .gtr .f64 A B then fop .quo .f64 B A else fop .quo .f64 A B
def angS (t : Nat) : Nat := fop .quo .f64 t (fop .add .f64 wOne (fsqrt (fop .add .f64 wOne (fop .mul .f64 t t))))
def angI (t : Nat) : Nat → Nat
  | 0 => t
  | j + 1 => angS (angI t j)
def angP (u : Nat) : Nat → Nat
  | 0 => 0
  | j + 1 => fop .sub .f64 (fop .quo .f64 wOne (can .f64 (floatOfInt .f64 (15 - 2 * (j : Int))))) (fop .mul .f64 u (angP u j))
def angR (t : Nat) : Nat := fop .quo .f64 (fop .mul .f64 wEight (fop .mul .f64 t (angP (fop .mul .f64 t t) 8))) wTurn
def ang1 (c : Bool) (r : Nat) : Nat := if c then fop .sub .f64 wQuarter r else r
def ang2 (c : Bool) (r : Nat) : Nat := if c then fop .sub .f64 wHalf r else r
def ang3 (c : Bool) (r : Nat) : Nat := if c then fneg .f64 r else r

theorem sz_quarter : Sz wQuarter 1074 := In.const (by decide +kernel)
theorem sz_eight : Sz wEight 1077 := In.const (by decide +kernel)
theorem in_turn : In wTurn (P 1074) (P 1077) := In.const (by decide +kernel)
theorem in_one : In wOne (P 1074) (P 1074) := In.const (by decide +kernel)
theorem P_half (a : Nat) : P (a + 1) = P a + P a := by rw [P_add]; show P a * 2 = _; omega

theorem sz_angS {t : Nat} (h : Sz t 1074) : Sz (angS t) 1074 := by
  have h1 : Sz (fop .mul .f64 t t) 1074 := In.mul h h (by omega) (by omega)
  have h2 : Sz (fop .add .f64 wOne (fop .mul .f64 t t)) 1076 := Sz.more (Sz.add sz_one h1 (b := 1075) rfl (by omega)) (by omega)
  have h3 : In (fsqrt (fop .add .f64 wOne (fop .mul .f64 t t))) 0 (P 1076) := In.sqrt (b := 1075) h2 (by omega) (by omega) |>.weaken (Int.le_refl _) (by exact_mod_cast P_le 1075 1076 (by omega))
  have h4 : In (fop .add .f64 wOne (fsqrt (fop .add .f64 wOne (fop .mul .f64 t t)))) (P 1074) (P 1077) := by
    have e1 : (P 1077 : Int) = (P 1076 : Int) + (P 1076 : Int) := by exact_mod_cast P_half 1076
    have e2 : (P 1074 : Int) ≤ (P 1076 : Int) := by exact_mod_cast P_le 1074 1076 (by omega)
    exact In.add in_one h3 (repP (by omega)) (repP (by omega)) (by omega) (by omega)
  exact In.quo h h4 (by omega)
theorem sz_angI {t : Nat} (h : Sz t 1074) : ∀ j, Sz (angI t j) 1074 := by
  intro j
  induction j with
  | zero => exact h
  | succ j ih => exact sz_angS ih
theorem in_odd : ∀ j : Nat, j < 8 → In (can .f64 (floatOfInt .f64 (15 - 2 * (j : Int)))) (P 1074) (P 1079) := by
  intro j hj
  apply In.can_
  have h : ∀ i : Fin 8, (decide (floatOfInt .f64 (15 - 2 * ((i : Nat) : Int)) % 9223372036854775808 < 9218868437227405312) && decide ((P 1074 : Int) ≤ sV D (floatOfInt .f64 (15 - 2 * ((i : Nat) : Int)))) && decide (sV D (floatOfInt .f64 (15 - 2 * ((i : Nat) : Int))) ≤ (P 1079 : Int))) = true := by decide +kernel
  exact In.const (h ⟨j, hj⟩)
theorem sz_zero (a : Nat) : Sz 0 a := by
  have h : (0 : Int) ≤ (P a : Int) := Int.natCast_nonneg _
  exact .inr ⟨fin0, by rw [sV0]; omega, by rw [sV0]; omega⟩
theorem sz_angP {u : Nat} (hu : Sz u 1074) : ∀ j : Nat, j ≤ 8 → Sz (angP u j) (1074 + j) := by
  intro j
  induction j with
  | zero => intro _; exact sz_zero _
  | succ j ih =>
    intro hj
    have h1 := ih (by omega)
    have h2 : Sz (fop .mul .f64 u (angP u j)) (1074 + j) := In.mul hu h1 (by omega) (by omega)
    have h3 : Sz (fop .quo .f64 wOne (can .f64 (floatOfInt .f64 (15 - 2 * (j : Int))))) 1074 := In.quo sz_one (in_odd j (by omega)) (by omega)
    exact Sz.sub (h3.more (by omega)) h2 (by omega) (by omega)
theorem sz_angR {t : Nat} (h : Sz t 1074) : Sz (angR t) 1085 := by
  have h1 : Sz (fop .mul .f64 t t) 1074 := In.mul h h (by omega) (by omega)
  have h2 := sz_angP h1 8 (by omega)
  have h3 : Sz (fop .mul .f64 t (angP (fop .mul .f64 t t) 8)) 1082 := In.mul h h2 (by omega) (by omega)
  have h4 : Sz (fop .mul .f64 wEight (fop .mul .f64 t (angP (fop .mul .f64 t t) 8))) 1085 := In.mul sz_eight h3 (by omega) (by omega)
  exact In.quo h4 in_turn (by omega)
theorem sz_ang1 (c : Bool) {r : Nat} (h : Sz r 1085) : Sz (ang1 c r) 1086 := by
  unfold ang1; split
  · exact Sz.sub (sz_quarter.more (by omega)) h rfl (by omega)
  · exact h.more (by omega)
theorem sz_ang2 (c : Bool) {r : Nat} (h : Sz r 1086) : Sz (ang2 c r) 1087 := by
  unfold ang2; split
  · exact Sz.sub (sz_half.more (by omega)) h rfl (by omega)
  · exact h.more (by omega)
theorem sz_ang3 (c : Bool) {r : Nat} (h : Sz r 1087) : Sz (ang3 c r) 1087 := by
  unfold ang3; split
  · exact h.neg
  · exact h

/-- The first quotient lies between 0 and 1. -/
theorem sz_quot {x y : Nat} (hx : fin D x) (hy : fin D y) (h0 : 0 ≤ sV D x) (hxy : sV D x ≤ sV D y) (hp : 0 < sV D y) : Sz (fop .quo .f64 x y) 1074 := by
  have hP : (0 : Int) ≤ (P 1074 : Int) := Int.natCast_nonneg _
  obtain ⟨r, e, hf, r1, r2⟩ := div_bounds D ebD (by rw [lpD]; decide) hx hy hp 0 (P 1074) (rep0 D (infV_pos D)) (repP (by omega))
    (by rw [Int.zero_mul]; exact Int.mul_nonneg h0 (Int.natCast_nonneg _))
    (by rw [oneD, Int.mul_comm]; exact Int.mul_le_mul_of_nonneg_left hxy hP)
  rw [fop_some (op := .quo) e hf]
  exact .inr ⟨hf, by omega, r2⟩
theorem sz_angT {A B : Nat} (hA : fin D A) (hB : fin D B) (a0 : 0 ≤ sV D A) (b0 : 0 ≤ sV D B) (h : sV D A ≠ 0 ∨ sV D B ≠ 0) : Sz (angT A B) 1074 := by
  unfold angT
  rw [(cmp_fin hA hB).2.2.2.2.1]
  by_cases c : sV D B < sV D A
  · rw [if_pos (by simpa using c)]
    exact sz_quot hB hA b0 (by omega) (by omega)
  · rw [if_neg (by simpa using c)]
    exact sz_quot hA hB a0 (by omega) (by omega)

/-- The angle, of the words of |y| and |x| and the signs. -/
def angF (A B : Nat) (nx ny : Bool) : Nat := ang3 ny (ang2 nx (ang1 (cmpF .gtr .f64 A B) (angR (angI (angT A B) 3))))
theorem ang_ovf {A B : Nat} {nx ny : Bool} (hA : fin D A) (hB : fin D B) (a0 : 0 ≤ sV D A) (b0 : 0 ≤ sV D B) (h : sV D A ≠ 0 ∨ sV D B ≠ 0) : ovf .f64 .f32 (angF A B nx ny) = false :=
  In.ovf (sz_ang3 _ (sz_ang2 _ (sz_ang1 _ (sz_angR (sz_angI (sz_angT hA hB a0 b0 h) 3))))) (by omega)

theorem cmp_finS {x y : Nat} (hx : fin S x) (hy : fin S y) : cmpF .eql .f32 x y = decide (sV S x = sV S y) ∧ cmpF .lss .f32 x y = decide (sV S x < sV S y) := by
  have ho : FloatKind.f32.format.order x y = some (compare (sV S x) (sV S y)) := order_fin S hx hy
  unfold cmpF
  simp only [ho]
  generalize sV S x = a
  generalize sV S y = b
  simp only [compare, compareOfLessAndEq]
  by_cases c1 : a < b
  · rw [if_pos c1]
    have h1 : ¬ a = b := by omega
    simp [c1, h1]
  · rw [if_neg c1]
    by_cases c2 : a = b
    · rw [if_pos c2]; subst c2; simp
    · rw [if_neg c2]; simp [c1, c2]
theorem sV0S : sV S 0 = 0 := by decide +kernel
theorem fin0S : fin S 0 := fin32 (by omega)
theorem scale_sign {a : Int} {p : Nat} (hp : 0 < p) : (a * (p : Int) = 0 ↔ a = 0) ∧ (a * (p : Int) < 0 ↔ a < 0) := by
  have hp' : (0 : Int) < (p : Int) := by exact_mod_cast hp
  constructor
  · constructor
    · intro h; rcases Int.mul_eq_zero.1 h with h | h <;> omega
    · intro h; rw [h, Int.zero_mul]
  · constructor
    · intro h
      rcases Int.lt_or_le a 0 with g | g
      · exact g
      · have := Int.mul_nonneg g (Int.le_of_lt hp'); omega
    · intro h; exact Int.mul_neg_of_neg_of_pos h hp'
theorem order_eq_iff {x : Nat} (hx : fin D x) : FloatKind.f64.format.order x 0 = some (if sV D x < 0 then .lt else if sV D x = 0 then .eq else .gt) := by
  rw [show FloatKind.f64.format.order x 0 = _ from order_fin D hx fin0, sV0]; rfl
end Go.Proofs.Ythbinacchpjkmaa.Fl
