/- Plain facts: tenths of decibels, as the program and the reference compute them. No program in sight. -/
import Derived.Test.YthbinacchpjkmaaFm
set_option linter.unusedSimpArgs false
set_option linter.unusedVariables false
namespace Go.Proofs.Ythbinacchpjkmaa.Fl
open Ieee

abbrev w75 : Nat := 4604930618986332160
abbrev w15 : Nat := 4609434218613702656
abbrev wTwo : Nat := 4611686018427387904
abbrev wLn2 : Nat := 4604418534313441775
abbrev wDb : Nat := 4631308968768463603

/-! ### Finite and bounded -/
abbrev FZ (x e : Nat) : Prop := FI x (-(P e : Int)) (P e)
theorem FZ.more {x a b : Nat} (h : FZ x a) (hab : a ≤ b) : FZ x b := by
  have : (P a : Int) ≤ (P b : Int) := by exact_mod_cast P_le a b hab
  exact FI.weaken h (by omega) (by omega)
theorem FZ.add {x y a b : Nat} (hx : FZ x a) (hy : FZ y a) (hb : b = a + 1) (hl : b ≤ 2000) : FZ (fop .add .f64 x y) b := by
  subst hb
  have e := P_half a
  exact FI.add hx hy (repP hl).neg (repP hl) (by rw [e]; push_cast; omega) (by rw [e]; push_cast; omega)
theorem FZ.mul {x y : Nat} {a b c : Nat} (hx : FZ x a) (hy : FZ y b) (hab : a + b = c + 1074) (hc : c ≤ 2000) : FZ (fop .mul .f64 x y) c := by
  obtain ⟨hx, x1, x2⟩ := hx
  obtain ⟨hy, y1, y2⟩ := hy
  have hm := abs_mul_le x1 x2 y1 y2
  have e1 : (P a : Int) * (P b : Int) = (P c : Int) * (one D : Int) := by
    rw [oneD, ← Int.natCast_mul, ← Int.natCast_mul, ← P_add, ← P_add, hab]
  rw [e1] at hm
  obtain ⟨r, e, hf, r1, r2⟩ := mul_bounds D ebD (by rw [lpD]; decide) hx hy _ _ (repP hc).neg (repP hc) (by rw [Int.neg_mul]; exact hm.1) hm.2
  rw [fop_some (op := .mul) e hf]
  exact ⟨hf, r1, r2⟩
theorem FZ.quo {x y : Nat} {a : Nat} {hi : Int} (hx : FZ x a) (hy : FI y (P 1074) hi) (ha : a ≤ 2000) : FZ (fop .quo .f64 x y) a := by
  obtain ⟨hx, x1, x2⟩ := hx
  obtain ⟨hy, y1, y2⟩ := hy
  have hp : (0 : Int) < (P 1074 : Int) := by exact_mod_cast P_pos _
  have hP : (0 : Int) ≤ (P a : Int) := Int.natCast_nonneg _
  obtain ⟨r, e, hf, r1, r2⟩ := div_bounds D ebD (by rw [lpD]; decide) hx hy (by omega) _ _ (repP ha).neg (repP ha)
    (by
      rw [oneD, Int.neg_mul]
      have g1 : (P a : Int) * (P 1074 : Int) ≤ (P a : Int) * sV D y := Int.mul_le_mul_of_nonneg_left y1 hP
      have g2 : -(P a : Int) * (P 1074 : Int) ≤ sV D x * (P 1074 : Int) := Int.mul_le_mul_of_nonneg_right x1 (Int.le_of_lt hp)
      rw [Int.neg_mul] at g2
      omega)
    (by
      rw [oneD]
      have g1 : (P a : Int) * (P 1074 : Int) ≤ (P a : Int) * sV D y := Int.mul_le_mul_of_nonneg_left y1 hP
      have g2 : sV D x * (P 1074 : Int) ≤ (P a : Int) * (P 1074 : Int) := Int.mul_le_mul_of_nonneg_right x2 (Int.le_of_lt hp)
      omega)
  rw [fop_some (op := .quo) e hf]
  exact ⟨hf, r1, r2⟩
theorem FI.const {x : Nat} {lo hi : Int} (h : (decide (x % 9223372036854775808 < 9218868437227405312) && decide (lo ≤ sV D x) && decide (sV D x ≤ hi)) = true) : FI x lo hi := by
  simp only [Bool.and_eq_true, decide_eq_true_eq] at h
  exact ⟨fin64 h.1.1, h.1.2, h.2⟩
theorem fin_can {x : Nat} (h : fin D x) : can .f64 x = x := can_of_not (fin_not_nan (k := .f64) h)

/-! ### Doubled and halved -/
def dblN (x : Nat) : Nat → Nat
  | 0 => x
  | j + 1 => fop .mul .f64 (dblN x j) wTwo
def hlvN (x : Nat) : Nat → Nat
  | 0 => x
  | j + 1 => fop .quo .f64 (hlvN x j) wTwo
/-- A word of such a size. -/
def Pos (x : Nat) : Prop := x < 2 ^ 64 ∧ fin D x ∧ (P 925 : Int) ≤ sV D x ∧ sV D x ≤ (P 1202 : Int)
theorem two_val : sV D wTwo = 2 * (one D : Int) := by decide +kernel
theorem two_fin : fin D wTwo := fin64 (by decide)
theorem dbl_step {x : Nat} (h : fin D x) (h0 : 0 ≤ sV D x) (h1 : sV D x ≤ (P 1203 : Int)) : fin D (fop .mul .f64 x wTwo) ∧ sV D (fop .mul .f64 x wTwo) = 2 * sV D x := by
  have hr : RepI D (2 * sV D x) := by
    obtain ⟨⟨b, q, e, hb⟩, _⟩ := rep_sV h
    refine ⟨⟨b, q + 1, ?_, hb⟩, ?_⟩
    · rw [Int.natAbs_mul, e, Nat.pow_succ]; simp; rw [Nat.mul_comm 2, Nat.mul_assoc]
    · have h2 : (2 * sV D x).natAbs ≤ P 1204 := by
        have e2 : P 1204 = P 1203 + P 1203 := P_half 1203
        have : sV D x ≤ ((P 1203 : Nat) : Int) := h1
        omega
      exact Nat.lt_of_le_of_lt h2 (P_lt (by omega))
  obtain ⟨r, e, hf, r1, r2⟩ := mul_bounds D ebD (by rw [lpD]; decide) h two_fin _ _ hr hr
    (by rw [two_val]; exact Int.le_of_eq (by rw [Int.mul_comm 2 (sV D x), Int.mul_assoc]))
    (by rw [two_val]; exact Int.le_of_eq (by rw [Int.mul_comm 2 (sV D x), Int.mul_assoc]))
  rw [fop_some (op := .mul) e hf]
  exact ⟨hf, by omega⟩
theorem hlv_step {x : Nat} (h : fin D x) (h0 : (P 1074 : Int) ≤ sV D x) : fin D (fop .quo .f64 x wTwo) ∧ 2 * sV D (fop .quo .f64 x wTwo) = sV D x := by
  have hp : 0 < P 1074 := P_pos _
  obtain ⟨⟨b, q, e, hb⟩, hlt⟩ := rep_sV h
  have hq : 0 < q := by
    rcases Nat.eq_zero_or_pos q with h9 | h9
    · exfalso
      subst h9
      rw [Nat.pow_zero, Nat.mul_one] at e
      have h8 : (2 : Nat) ^ (D.fractionBits + 1) < P 1074 := by decide +kernel
      omega
    · exact h9
  obtain ⟨q, rfl⟩ : ∃ m, q = m + 1 := ⟨q - 1, by omega⟩
  have e2 : b * 2 ^ (q + 1) = 2 * (b * 2 ^ q) := by rw [Nat.pow_succ]; rw [← Nat.mul_assoc, Nat.mul_comm]
  have e3 : sV D x = 2 * ((b * 2 ^ q : Nat) : Int) := by omega
  have hr : RepI D ((b * 2 ^ q : Nat) : Int) := ⟨⟨b, q, by rw [Int.natAbs_natCast], hb⟩, by rw [Int.natAbs_natCast]; omega⟩
  have hone : (0 : Int) < (one D : Int) := by rw [oneD]; exact_mod_cast hp
  have e4 : ((b * 2 ^ q : Nat) : Int) * sV D wTwo = sV D x * (one D : Int) := by
    rw [two_val, e3, Int.mul_comm 2 ((b * 2 ^ q : Nat) : Int), Int.mul_assoc]
  obtain ⟨r, e, hf, r1, r2⟩ := div_bounds D ebD (by rw [lpD]; decide) h two_fin (by rw [two_val]; omega) _ _ hr hr (Int.le_of_eq e4) (Int.le_of_eq e4.symm)
  rw [fop_some (op := .quo) e hf]
  exact ⟨hf, by omega⟩
theorem v75 : sV D w75 = 3 * (P 1072 : Int) := by decide +kernel
theorem v15 : sV D w15 = 6 * (P 1072 : Int) := by decide +kernel
theorem lss75 {x : Nat} (h : fin D x) : cmpF .lss .f64 x w75 = decide (sV D x < 3 * (P 1072 : Int)) := by
  rw [(cmp_fin h (fin64 (by decide))).2.2.1, v75]
theorem geq15 {x : Nat} (h : fin D x) : cmpF .geq .f64 x w15 = decide (6 * (P 1072 : Int) ≤ sV D x) := by
  rw [(cmp_fin h (fin64 (by decide))).2.2.2.2.2, v15]
/-- So far each was too small. -/
def ExD (x j : Nat) : Prop := ∀ i, i < j → cmpF .lss .f64 (dblN x i) w75 = true
def ExH (x j : Nat) : Prop := ∀ i, i < j → cmpF .geq .f64 (hlvN x i) w15 = true
theorem ExD.zero (x : Nat) : ExD x 0 := fun i h => absurd h (by omega)
theorem ExH.zero (x : Nat) : ExH x 0 := fun i h => absurd h (by omega)
theorem ExD.succ {x j : Nat} (h : ExD x j) (h1 : cmpF .lss .f64 (dblN x j) w75 = true) : ExD x (j + 1) := fun i hi => by
  by_cases e : i = j
  · subst e; exact h1
  · exact h i (by omega)
theorem ExH.succ {x j : Nat} (h : ExH x j) (h1 : cmpF .geq .f64 (hlvN x j) w15 = true) : ExH x (j + 1) := fun i hi => by
  by_cases e : i = j
  · subst e; exact h1
  · exact h i (by omega)
theorem ExD.unique {x j i : Nat} (h1 : ExD x j) (h2 : cmpF .lss .f64 (dblN x j) w75 = false) (g1 : ExD x i) (g2 : cmpF .lss .f64 (dblN x i) w75 = false) : j = i := by
  rcases Nat.lt_trichotomy j i with h | h | h
  · rw [g1 j h] at h2; cases h2
  · exact h
  · rw [h1 i h] at g2; cases g2
theorem ExH.unique {x j i : Nat} (h1 : ExH x j) (h2 : cmpF .geq .f64 (hlvN x j) w15 = false) (g1 : ExH x i) (g2 : cmpF .geq .f64 (hlvN x i) w15 = false) : j = i := by
  rcases Nat.lt_trichotomy j i with h | h | h
  · rw [g1 j h] at h2; cases h2
  · exact h
  · rw [h1 i h] at g2; cases g2
theorem P72 : 4 * P 1072 = P 1074 := by
  have h1 : P 1073 = P 1072 + P 1072 := P_half 1072
  have h2 : P 1074 = P 1073 + P 1073 := P_half 1073
  omega
/-- Where the doubling has come. -/
theorem dbl_at {x : Nat} (hx : Pos x) : ∀ j, ExD x j → dblN x j < 2 ^ 64 ∧ fin D (dblN x j) ∧ sV D (dblN x j) = ((P j : Nat) : Int) * sV D x ∧ sV D (dblN x j) ≤ (P 1202 : Int) ∧ j ≤ 150 ∧ (0 < j → sV D (dblN x j) < 6 * (P 1072 : Int)) := by
  obtain ⟨h0, h1, h2, h3⟩ := hx
  have hP925 : (0 : Int) < (P 925 : Int) := by exact_mod_cast P_pos _
  have h8x : P 1075 ≤ P 1202 := P_le _ _ (by omega)
  have h8y : P 1075 = P 1074 + P 1074 := P_half 1074
  have h74 : (P 1074 : Int) ≤ (P 1202 : Int) := by exact_mod_cast P_le _ _ (by omega)
  have hP72 : (4 : Int) * (P 1072 : Int) = (P 1074 : Int) := by have := P72; omega
  intro j
  induction j with
  | zero => intro _; exact ⟨h0, h1, by simp [dblN, P], h3, by omega, fun h => absurd h (by omega)⟩
  | succ j ih =>
    intro hE
    obtain ⟨g0, g1, g2, g3, g4, _⟩ := ih (fun i hi => hE i (by omega))
    have hc := hE j (by omega)
    rw [lss75 g1] at hc
    have hc' : sV D (dblN x j) < 3 * (P 1072 : Int) := by simpa using hc
    have hpos : (P 925 : Int) ≤ sV D (dblN x j) := by
      rw [g2]
      have hj : (1 : Int) ≤ ((P j : Nat) : Int) := by exact_mod_cast P_pos j
      have := Int.mul_le_mul_of_nonneg_right hj (show (0 : Int) ≤ sV D x by omega)
      omega
    have h23 : P 1202 ≤ P 1203 := P_le _ _ (by omega)
    obtain ⟨s1, s2⟩ := dbl_step g1 (by omega) (by omega)
    have hv : sV D (dblN x (j + 1)) = ((P (j + 1) : Nat) : Int) * sV D x := by
      show sV D (fop .mul .f64 (dblN x j) wTwo) = _
      rw [s2, g2, P_half j]
      push_cast
      rw [Int.add_mul]; omega
    refine ⟨fop_lt _ _ _, s1, hv, ?_, ?_, fun _ => ?_⟩
    · show sV D (fop .mul .f64 (dblN x j) wTwo) ≤ _
      rw [s2]; omega
    · rcases Nat.lt_or_ge j 150 with h | h
      · omega
      · exfalso
        have h8 : (P 925 : Int) * ((P j : Nat) : Int) ≤ ((P j : Nat) : Int) * sV D x := by
          rw [Int.mul_comm]; exact Int.mul_le_mul_of_nonneg_left h2 (Int.natCast_nonneg _)
        rw [← g2, ← Int.natCast_mul, ← P_add] at h8
        have h9 : (P 1074 : Int) ≤ ((P (925 + j) : Nat) : Int) := by exact_mod_cast P_le _ _ (by omega)
        omega
    · show sV D (fop .mul .f64 (dblN x j) wTwo) < _
      rw [s2]; omega
theorem hlv_at {x : Nat} (hx : Pos x) : ∀ j, ExH x j → hlvN x j < 2 ^ 64 ∧ fin D (hlvN x j) ∧ ((P j : Nat) : Int) * sV D (hlvN x j) = sV D x ∧ j ≤ 150 ∧ (0 < j → 3 * (P 1072 : Int) ≤ sV D (hlvN x j)) ∧ sV D (hlvN x j) ≤ (P 1202 : Int) := by
  obtain ⟨h0, h1, h2, h3⟩ := hx
  have hP72 : (4 : Int) * (P 1072 : Int) = (P 1074 : Int) := by have := P72; omega
  have hPos : (0 : Int) < (P 1072 : Int) := by exact_mod_cast P_pos _
  intro j
  induction j with
  | zero => intro _; exact ⟨h0, h1, by simp [hlvN, P], by omega, fun h => absurd h (by omega), h3⟩
  | succ j ih =>
    intro hE
    obtain ⟨g0, g1, g2, g3, _, g5⟩ := ih (fun i hi => hE i (by omega))
    have hc := hE j (by omega)
    rw [geq15 g1] at hc
    have hc' : 6 * (P 1072 : Int) ≤ sV D (hlvN x j) := by simpa using hc
    obtain ⟨s1, s2⟩ := hlv_step g1 (by omega)
    have hv : ((P (j + 1) : Nat) : Int) * sV D (hlvN x (j + 1)) = sV D x := by
      show _ * sV D (fop .quo .f64 (hlvN x j) wTwo) = _
      rw [← g2, ← s2, P_half j]
      push_cast
      rw [Int.add_mul, Int.mul_left_comm]; omega
    refine ⟨fop_lt _ _ _, s1, hv, ?_, fun _ => ?_, ?_⟩
    · rcases Nat.lt_or_ge j 150 with h | h
      · omega
      · exfalso
        have h8 : ((P j : Nat) : Int) * (P 1074 : Int) ≤ ((P j : Nat) : Int) * sV D (hlvN x j) := Int.mul_le_mul_of_nonneg_left (by omega) (Int.natCast_nonneg _)
        rw [g2, ← Int.natCast_mul, ← P_add] at h8
        have h9 : (P 1202 : Int) < ((P (j + 1074) : Nat) : Int) := by
          have h10 : P 1202 < P 1203 := by rw [P_half 1202]; have := P_pos 1202; omega
          have h11 : P 1203 ≤ P (j + 1074) := P_le _ _ (by omega)
          exact_mod_cast Nat.lt_of_lt_of_le h10 h11
        omega
    · show _ ≤ sV D (fop .quo .f64 (hlvN x j) wTwo)
      omega
    · show sV D (fop .quo .f64 (hlvN x j) wTwo) ≤ _
      omega
theorem dbl_stop {x j : Nat} (hx : Pos x) (h : ExD x j) (hj : 0 < j) : cmpF .geq .f64 (dblN x j) w15 = false := by
  obtain ⟨_, g1, _, _, _, g5⟩ := dbl_at hx j h
  rw [geq15 g1]
  have := g5 hj
  simp; omega
theorem hlv_stop {x j : Nat} (hx : Pos x) (h : ExH x j) (hj : 0 < j) : cmpF .lss .f64 (hlvN x j) w75 = false := by
  obtain ⟨_, g1, _, _, g5, _⟩ := hlv_at hx j h
  rw [lss75 g1]
  have := g5 hj
  simp; omega
theorem hlv_big {x j : Nat} (hx : Pos x) (h : ExH x j) (hj : 0 < j) : cmpF .lss .f64 x w75 = false := by
  have hc := h 0 hj
  rw [show hlvN x 0 = x from rfl, geq15 hx.2.1] at hc
  have hPos : (0 : Int) < (P 1072 : Int) := by exact_mod_cast P_pos _
  have hc' : 6 * (P 1072 : Int) ≤ sV D x := by simpa using hc
  rw [lss75 hx.2.1]
  simp; omega

/-! ### How often -/
def eI (n : Int) : Nat := can .f64 (floatOfInt .f64 n)
theorem eI_down : ∀ j : Nat, j ≤ 150 → fop .sub .f64 (eI (-(j : Int))) wOne = eI (-((j + 1 : Nat) : Int)) := by
  have h : ∀ i : Fin 151, fop .sub .f64 (eI (-((i : Nat) : Int))) wOne = eI (-(((i : Nat) + 1 : Nat) : Int)) := by decide +kernel
  intro j hj
  exact h ⟨j, by omega⟩
theorem eI_up : ∀ j : Nat, j ≤ 150 → fop .add .f64 (eI (j : Int)) wOne = eI ((j + 1 : Nat) : Int) := by
  have h : ∀ i : Fin 151, fop .add .f64 (eI ((i : Nat) : Int)) wOne = eI (((i : Nat) + 1 : Nat) : Int) := by decide +kernel
  intro j hj
  exact h ⟨j, by omega⟩
theorem eI_zero : eI 0 = 0 := by decide +kernel
theorem fz_eI (n : Int) (h0 : -150 ≤ n) (h1 : n ≤ 150) : FZ (eI n) 1082 := by
  have h : ∀ i : Fin 301, (decide (eI ((i : Nat) - 150 : Int) % 9223372036854775808 < 9218868437227405312) && decide (-(P 1082 : Int) ≤ sV D (eI ((i : Nat) - 150 : Int))) && decide (sV D (eI ((i : Nat) - 150 : Int)) ≤ (P 1082 : Int))) = true := by decide +kernel
  have := FI.const (h ⟨(n + 150).toNat, by omega⟩)
  have e : (((n + 150).toNat : Nat) - 150 : Int) = n := by omega
  dsimp only at this
  rw [e] at this
  exact this
/-- The number between 3/4 and 3/2, and how often it was doubled or halved. -/
def Nrm (x z E : Nat) : Prop := (∃ j, 0 < j ∧ ExD x j ∧ cmpF .lss .f64 (dblN x j) w75 = false ∧ z = dblN x j ∧ E = eI (-(j : Int))) ∨
  (cmpF .lss .f64 x w75 = false ∧ ∃ i, ExH x i ∧ cmpF .geq .f64 (hlvN x i) w15 = false ∧ z = hlvN x i ∧ E = eI (i : Int))
theorem Nrm.unique {x z E z' E' : Nat} (h : Nrm x z E) (g : Nrm x z' E') : z = z' ∧ E = E' := by
  rcases h with ⟨j, hj, h1, h2, rfl, rfl⟩ | ⟨h0, j, h1, h2, rfl, rfl⟩
  · rcases g with ⟨i, hi, g1, g2, rfl, rfl⟩ | ⟨g0, i, g1, g2, rfl, rfl⟩
    · obtain rfl := ExD.unique h1 h2 g1 g2; exact ⟨rfl, rfl⟩
    · have := h1 0 hj; rw [show dblN x 0 = x from rfl, g0] at this; cases this
  · rcases g with ⟨i, hi, g1, g2, rfl, rfl⟩ | ⟨g0, i, g1, g2, rfl, rfl⟩
    · have := g1 0 hi; rw [show dblN x 0 = x from rfl, h0] at this; cases this
    · obtain rfl := ExH.unique h1 h2 g1 g2; exact ⟨rfl, rfl⟩
theorem Nrm.vals {x z E : Nat} (hx : Pos x) (h : Nrm x z E) : z < 2 ^ 64 ∧ FI z (3 * (P 1072 : Int)) (6 * (P 1072 : Int)) ∧ FZ E 1082 := by
  rcases h with ⟨j, hj, h1, h2, rfl, rfl⟩ | ⟨h0, j, h1, h2, rfl, rfl⟩
  · obtain ⟨g0, g1, g2, g3, g4, g5⟩ := dbl_at hx j h1
    rw [lss75 g1] at h2
    have h2' : 3 * (P 1072 : Int) ≤ sV D (dblN x j) := by simpa using h2
    have := g5 hj
    exact ⟨g0, ⟨g1, h2', by omega⟩, fz_eI _ (by omega) (by omega)⟩
  · obtain ⟨g0, g1, g2, g3, g4, g5⟩ := hlv_at hx j h1
    rw [geq15 g1] at h2
    rw [lss75 hx.2.1] at h0
    have h2' : sV D (hlvN x j) < 6 * (P 1072 : Int) := by simpa using h2
    have h0' : 3 * (P 1072 : Int) ≤ sV D x := by simpa using h0
    refine ⟨g0, ⟨g1, ?_, by omega⟩, fz_eI _ (by omega) (by omega)⟩
    rcases Nat.eq_zero_or_pos j with h9 | h9
    · subst h9; exact h0'
    · exact g4 h9

/-! ### The logarithm -/
def tenS (z : Nat) : Nat := fop .quo .f64 (fop .sub .f64 z wOne) (fop .add .f64 z wOne)
def tenQ (u : Nat) : Nat → Nat
  | 0 => 0
  | j + 1 => fop .add .f64 (fop .quo .f64 wOne (can .f64 (floatOfInt .f64 (25 - 2 * (j : Int))))) (fop .mul .f64 u (tenQ u j))
def tenL (z E : Nat) : Nat := fop .add .f64 (fop .mul .f64 wTwo (fop .mul .f64 (tenS z) (tenQ (fop .mul .f64 (tenS z) (tenS z)) 13))) (fop .mul .f64 E wLn2)
def tenR (z E : Nat) : Nat := fop .add .f64 (fop .mul .f64 (tenL z E) wDb) wHalf
theorem fi_one : FI wOne (P 1074) (P 1074) := FI.const (by decide +kernel)
theorem fi_odd : ∀ j : Nat, j < 13 → FI (can .f64 (floatOfInt .f64 (25 - 2 * (j : Int)))) (P 1074) (P 1079) := by
  intro j hj
  have h : ∀ i : Fin 13, (decide (can .f64 (floatOfInt .f64 (25 - 2 * ((i : Nat) : Int))) % 9223372036854775808 < 9218868437227405312) && decide ((P 1074 : Int) ≤ sV D (can .f64 (floatOfInt .f64 (25 - 2 * ((i : Nat) : Int))))) && decide (sV D (can .f64 (floatOfInt .f64 (25 - 2 * ((i : Nat) : Int)))) ≤ (P 1079 : Int))) = true := by decide +kernel
  exact FI.const (h ⟨j, hj⟩)
theorem FZ.of {x : Nat} {lo hi : Int} {e : Nat} (h : FI x lo hi) (h1 : -(P e : Int) ≤ lo) (h2 : hi ≤ (P e : Int)) : FZ x e := FI.weaken h h1 h2
theorem fz_tenS {z : Nat} (h : FI z (3 * (P 1072 : Int)) (6 * (P 1072 : Int))) : FZ (tenS z) 1074 := by
  have hP72 : (4 : Int) * (P 1072 : Int) = (P 1074 : Int) := by have := P72; omega
  have hPos : (0 : Int) < (P 1072 : Int) := by exact_mod_cast P_pos _
  have h75 : (P 1075 : Int) = (P 1074 : Int) + (P 1074 : Int) := by exact_mod_cast P_half 1074
  have h76 : (P 1076 : Int) = (P 1075 : Int) + (P 1075 : Int) := by exact_mod_cast P_half 1075
  have h1 : FZ (fop .sub .f64 z wOne) 1074 := FI.sub h fi_one (repP (by omega)).neg (repP (by omega)) (by omega) (by omega)
  have h2 : FI (fop .add .f64 z wOne) (P 1074) (P 1076) := FI.add h fi_one (repP (by omega)) (repP (by omega)) (by omega) (by omega)
  exact FZ.quo h1 h2 (by omega)
theorem fz_tenQ {u : Nat} (hu : FZ u 1074) : ∀ j : Nat, j ≤ 13 → FZ (tenQ u j) (1074 + j) := by
  intro j
  induction j with
  | zero =>
    intro _
    have h : (0 : Int) ≤ (P (1074 + 0) : Int) := Int.natCast_nonneg _
    exact ⟨fin0, by show _ ≤ sV D 0; rw [sV0]; omega, by show sV D 0 ≤ _; rw [sV0]; omega⟩
  | succ j ih =>
    intro hj
    have h1 := ih (by omega)
    have h2 : FZ (fop .mul .f64 u (tenQ u j)) (1074 + j) := FZ.mul hu h1 (by omega) (by omega)
    have hneg : (0 : Int) ≤ (P 1074 : Int) := Int.natCast_nonneg _
    have h3 : FZ (fop .quo .f64 wOne (can .f64 (floatOfInt .f64 (25 - 2 * (j : Int))))) 1074 := FZ.quo (FZ.of fi_one (by omega) (by omega)) (fi_odd j (by omega)) (by omega)
    exact FZ.add (h3.more (by omega)) h2 (by omega) (by omega)
theorem fz_tenR {z E : Nat} (h : FI z (3 * (P 1072 : Int)) (6 * (P 1072 : Int))) (hE : FZ E 1082) : FZ (tenR z E) 1096 := by
  have hs := fz_tenS h
  have hu : FZ (fop .mul .f64 (tenS z) (tenS z)) 1074 := FZ.mul hs hs (by omega) (by omega)
  have hq := fz_tenQ hu 13 (by omega)
  have h1 : FZ (fop .mul .f64 (tenS z) (tenQ (fop .mul .f64 (tenS z) (tenS z)) 13)) 1087 := FZ.mul hs hq (by omega) (by omega)
  have htwo : FZ wTwo 1075 := FI.const (by decide +kernel)
  have hln : FZ wLn2 1074 := FI.const (by decide +kernel)
  have hdb : FZ wDb 1080 := FI.const (by decide +kernel)
  have hhf : FZ wHalf 1074 := FI.const (by decide +kernel)
  have h2 : FZ (fop .mul .f64 wTwo (fop .mul .f64 (tenS z) (tenQ (fop .mul .f64 (tenS z) (tenS z)) 13))) 1088 := FZ.mul htwo h1 (by omega) (by omega)
  have h3 : FZ (fop .mul .f64 E wLn2) 1082 := FZ.mul hE hln (by omega) (by omega)
  have h4 : FZ (tenL z E) 1089 := FZ.add h2 (h3.more (by omega)) rfl (by omega)
  have h5 : FZ (fop .mul .f64 (tenL z E) wDb) 1095 := FZ.mul h4 hdb (by omega) (by omega)
  exact FZ.add h5 (hhf.more (by omega)) rfl (by omega)

/-! ### Down to a whole number -/
def flrW (x : Nat) : Nat := match D.read x with | .number s m p => Toward.down.cut s (m <<< p.toNat) (-p).toNat | _ => 0
def floorF (x : Nat) : Nat := D.write (.number (sgn D x) (flrW x) 0)
theorem cut_down (s : Bool) (n drop : Nat) : Toward.down.cut s n drop ≤ Toward.zero.cut s n drop + 1 := by
  unfold Toward.cut
  simp only
  cases (s && n % 1 <<< min drop (n.log2 + 2) != 0) <;> simp
theorem flrW_le {x : Nat} : flrW x ≤ cutW x + 1 := by
  unfold flrW cutW
  cases D.read x with
  | number s m p => exact cut_down _ _ _
  | _ => simp
theorem floorF_val {x : Nat} (hw : flrW x ≤ P 52) : fin D (floorF x) ∧ aV D (floorF x) = flrW x * P 1074 := by
  have hP : P 52 = 4503599627370496 := by decide
  have hr : RepI D ((flrW x * P 1074 : Nat) : Int) := by
    refine ⟨⟨flrW x, 1074, by rw [Int.natAbs_natCast]; rfl, ?_⟩, ?_⟩
    · have : (2 : Nat) ^ (D.fractionBits + 1) = 9007199254740992 := by decide +kernel
      omega
    · rw [Int.natAbs_natCast]
      refine Nat.lt_of_le_of_lt (Nat.mul_le_mul_right _ hw) ?_
      rw [← P_add]; decide +kernel
  have hup : up D 0 = 1074 := by unfold up; rw [lpD]; decide
  have hdn : dn D 0 = 0 := by unfold dn; rw [lpD]; decide
  unfold floorF
  have key : ∀ B : Int, B = (if sgn D x then -((flrW x * P 1074 : Nat) : Int) else ((flrW x * P 1074 : Nat) : Int)) → RepI D B → fin D (D.write (.number (sgn D x) (flrW x) 0)) ∧ sV D (D.write (.number (sgn D x) (flrW x) 0)) = B := by
    intro B hB hR
    have hb := write_bounds D ebD (sgn D x) (flrW x) 0 B B hR hR
    rw [hup, hdn, Nat.pow_zero, Int.natCast_one, Int.mul_one] at hb
    have hB' := hB
    unfold P at hB'
    obtain ⟨g1, g2, g3⟩ := hb (by rw [← hB']; exact Int.le_refl _) (by rw [← hB']; exact Int.le_refl _)
    exact ⟨g1, by omega⟩
  obtain ⟨g1, g2⟩ := key _ rfl (by split; exact hr.neg; exact hr)
  refine ⟨g1, ?_⟩
  generalize D.write (.number (sgn D x) (flrW x) 0) = y at *
  unfold sV at g2
  generalize flrW x * P 1074 = B at *
  split at g2 <;> split at g2 <;> omega
theorem cut_small {x : Nat} (h : FZ x 1096) : cutW x ≤ P 22 := by
  obtain ⟨hf, h1, h2⟩ := h
  have hb := (cutW_bounds hf).1
  have ha : (aV D x : Int) ≤ (P 1096 : Int) := by
    have hs : sV D x = if sgn D x then -(aV D x : Int) else (aV D x : Int) := rfl
    rw [hs] at h1 h2
    cases hq : sgn D x <;> rw [hq] at h1 h2 <;> simp only [Bool.false_eq_true, if_true, if_false] at h1 h2 <;> omega
  have ha' : aV D x ≤ P 1096 := by exact_mod_cast ha
  rw [show 1096 = 22 + 1074 by omega, P_add] at ha'
  exact Nat.le_of_mul_le_mul_right (Nat.le_trans hb ha') (P_pos 1074)
theorem floor_fin {x : Nat} (h : FZ x 1096) : fin D (floorF x) ∧ cutW (floorF x) ≤ P 52 := by
  have h1 := cut_small h
  have h2 := flrW_le (x := x)
  have h22 : P 22 = 4194304 := by decide
  have h52 : P 52 = 4503599627370496 := by decide
  obtain ⟨g1, g2⟩ := floorF_val (x := x) (by omega)
  refine ⟨g1, ?_⟩
  have hb := (cutW_bounds g1).1
  rw [g2] at hb
  have := Nat.le_of_mul_le_mul_right hb (P_pos 1074)
  omega
end Go.Proofs.Ythbinacchpjkmaa.Fl
