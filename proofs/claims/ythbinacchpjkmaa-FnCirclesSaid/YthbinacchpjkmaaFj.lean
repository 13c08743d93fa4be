/- Plain facts: the sine of a number of turns as the program and the reference compute it, on words of which not-a-number is one. No program in sight. -/
import Derived.Test.YthbinacchpjkmaaFi
import Derived.Test.YthbinacchpjkmaaFg
set_option linter.unusedSimpArgs false
set_option linter.unusedVariables false
namespace Go.Proofs.Ythbinacchpjkmaa.Fl
open Ieee

abbrev wHalf : Nat := 4602678819172646912
abbrev wQuarter : Nat := 4598175219545276416
abbrev wTurn : Nat := 4618760256179416344
abbrev wOne : Nat := 4607182418800017408
abbrev wWhole : Nat := 4841369599423283200
abbrev wWholeNeg : Nat := 14064741636278059008

/-- The polynomial behind j rounds. -/
def sinP (u : Nat) : Nat → Nat
  | 0 => wOne
  | j + 1 => fop .sub .f64 wOne (fop .quo .f64 (fop .mul .f64 u (sinP u j)) (can .f64 (floatOfInt .f64 (2 * (8 - (j : Int)) * (2 * (8 - (j : Int)) + 1)))))

def sin1 (f : Nat) : Nat := if cmpF .geq .f64 f wHalf then fop .sub .f64 f wHalf else f
def sin2 (f : Nat) : Nat := if cmpF .gtr .f64 f wQuarter then fop .sub .f64 wHalf f else f
def sinZ (f : Nat) : Nat := fop .mul .f64 (sin2 (sin1 f)) wTurn
def sinR (z : Nat) : Nat := fop .mul .f64 z (sinP (fop .mul .f64 z z) 8)
/-- The sine of the part of a turn f. -/
def sinF (f : Nat) : Nat := if cmpF .geq .f64 f wHalf then fneg .f64 (sinR (sinZ f)) else sinR (sinZ f)

theorem In.const {x : Nat} {lo hi : Int} (h : (decide (x % 9223372036854775808 < 9218868437227405312) && decide (lo ≤ sV D x) && decide (sV D x ≤ hi)) = true) : In x lo hi := by
  simp only [Bool.and_eq_true, decide_eq_true_eq] at h
  exact .inr ⟨fin64 h.1.1, h.1.2, h.2⟩
theorem In.can_ {x : Nat} {lo hi : Int} (h : In x lo hi) : In (can .f64 x) lo hi := by
  rcases h with h | ⟨h, a, b⟩
  · left; rw [isN_can]; exact h
  · rw [can_of_not (fin_not_nan (k := .f64) h)]; exact .inr ⟨h, a, b⟩

/-- Of size 2 ^ e at most (in units: 2 ^ (1074 + e)). -/
abbrev Sz (x e : Nat) : Prop := In x (-(P e : Int)) (P e)
theorem Sz.more {x a b : Nat} (h : Sz x a) (hab : a ≤ b) : Sz x b := by
  have : (P a : Int) ≤ (P b : Int) := by exact_mod_cast P_le a b hab
  exact In.weaken h (by omega) this
theorem Sz.add {x y a b : Nat} (hx : Sz x a) (hy : Sz y a) (hb : b = a + 1) (hl : b ≤ 2000) : Sz (fop .add .f64 x y) b := by
  have e : (P b : Int) = (P a : Int) + (P a : Int) := by
    have : P b = P a + P a := by rw [hb, P_add]; show P a * 2 = _; omega
    exact_mod_cast this
  exact In.add hx hy (repP hl).neg (repP hl) (by omega) (by omega)
theorem Sz.sub {x y a b : Nat} (hx : Sz x a) (hy : Sz y a) (hb : b = a + 1) (hl : b ≤ 2000) : Sz (fop .sub .f64 x y) b := by
  have e : (P b : Int) = (P a : Int) + (P a : Int) := by
    have : P b = P a + P a := by rw [hb, P_add]; show P a * 2 = _; omega
    exact_mod_cast this
  exact In.sub hx hy (repP hl).neg (repP hl) (by omega) (by omega)
theorem Sz.neg {x a : Nat} (h : Sz x a) : Sz (fneg .f64 x) a := by
  have := In.neg h
  rw [Int.neg_neg] at this
  exact this

theorem sz_half : Sz wHalf 1074 := In.const (by decide +kernel)
theorem sz_one : Sz wOne 1074 := In.const (by decide +kernel)
theorem sz_turn : Sz wTurn 1077 := In.const (by decide +kernel)
/-- The divisors. -/
theorem in_div : ∀ j : Nat, j < 8 → In (can .f64 (floatOfInt .f64 (2 * (8 - (j : Int)) * (2 * (8 - (j : Int)) + 1)))) (P 1074) (P 1084) := by
  intro j hj
  apply In.can_
  have h : ∀ i : Fin 8, (decide (floatOfInt .f64 (2 * (8 - ((i : Nat) : Int)) * (2 * (8 - ((i : Nat) : Int)) + 1)) % 9223372036854775808 < 9218868437227405312) && decide ((P 1074 : Int) ≤ sV D (floatOfInt .f64 (2 * (8 - ((i : Nat) : Int)) * (2 * (8 - ((i : Nat) : Int)) + 1)))) && decide (sV D (floatOfInt .f64 (2 * (8 - ((i : Nat) : Int)) * (2 * (8 - ((i : Nat) : Int)) + 1))) ≤ (P 1084 : Int))) = true := by decide +kernel
  exact In.const (h ⟨j, hj⟩)

theorem sz_sinP {u : Nat} (hu : Sz u 1086) : ∀ j : Nat, j ≤ 8 → Sz (sinP u j) (1074 + 14 * j) := by
  intro j
  induction j with
  | zero => intro _; exact sz_one
  | succ j ih =>
    intro hj
    have h1 := ih (by omega)
    have h2 : Sz (fop .mul .f64 u (sinP u j)) (1074 + 14 * j + 12) := In.mul hu h1 (by omega) (by omega)
    have h3 : Sz (fop .quo .f64 (fop .mul .f64 u (sinP u j)) (can .f64 (floatOfInt .f64 (2 * (8 - (j : Int)) * (2 * (8 - (j : Int)) + 1))))) (1074 + 14 * j + 12) := In.quo h2 (in_div j (by omega)) (by omega)
    exact (Sz.sub (sz_one.more (by omega)) h3 (b := 1074 + 14 * j + 13) (by omega) (by omega)).more (by omega)

/-- Of a part of size 1 at most the sine does not overflow in narrowing. -/
theorem sz_sinF {f : Nat} (h : Sz f 1074) : Sz (sinF f) 1191 := by
  have h1 : Sz (sin1 f) 1075 := by
    unfold sin1; split
    · exact Sz.sub h sz_half rfl (by omega)
    · exact h.more (by omega)
  have h2 : Sz (sin2 (sin1 f)) 1076 := by
    unfold sin2; split
    · exact Sz.sub (sz_half.more (by omega)) h1 rfl (by omega)
    · exact h1.more (by omega)
  have h3 : Sz (sinZ f) 1079 := In.mul h2 sz_turn (by omega) (by omega)
  have h4 : Sz (fop .mul .f64 (sinZ f) (sinZ f)) 1086 := Sz.more (In.mul (c := 1084) h3 h3 (by omega) (by omega)) (by omega)
  have h5 := sz_sinP h4 8 (by omega)
  have h6 : Sz (sinR (sinZ f)) 1191 := In.mul (c := 1191) h3 h5 (by omega) (by omega)
  unfold sinF; split
  · exact h6.neg
  · exact h6
theorem sin_ovf {f : Nat} (h : Sz f 1074) : ovf .f64 .f32 (sinF f) = false := In.ovf (sz_sinF h) (by omega)
end Go.Proofs.Ythbinacchpjkmaa.Fl
