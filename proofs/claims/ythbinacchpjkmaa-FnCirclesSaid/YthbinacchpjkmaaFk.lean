/- Plain facts: what is left of a number of turns, as the program and the reference compute it. No program in sight. -/
import Derived.Test.YthbinacchpjkmaaFj
set_option linter.unusedSimpArgs false
set_option linter.unusedVariables false
namespace Go.Proofs.Ythbinacchpjkmaa.Fl
open Ieee

/-! ### A finite word is what it stands for -/
theorem rep_self {x : Nat} (h : fin D x) : RepI D (aV D x : Int) := by
  have hlt : x % 9223372036854775808 < 9218868437227405312 := by unfold fin at h; rw [d_sw, d_inf] at h; exact h
  have hf : (2 : Nat) ^ (D.fractionBits + 1) = 9007199254740992 := by decide +kernel
  refine ⟨?_, ?_⟩
  · rw [Int.natAbs_natCast, aV64]
    split
    · rename_i c; exact ⟨_, 0, by rw [Nat.pow_zero, Nat.mul_one], by omega⟩
    · exact ⟨_, _, rfl, by omega⟩
  · rw [Int.natAbs_natCast, aV64]
    split
    · rename_i c; exact Nat.lt_trans c (by decide +kernel)
    · have h3 : 4503599627370496 + x % 9223372036854775808 % 4503599627370496 < P 53 := by
        have : P 53 = 9007199254740992 := by decide
        omega
      have h4 : 2 ^ (x % 9223372036854775808 / 4503599627370496 - 1) ≤ P 2045 := P_le _ 2045 (by omega)
      have h5 : (4503599627370496 + x % 9223372036854775808 % 4503599627370496) * 2 ^ (x % 9223372036854775808 / 4503599627370496 - 1) < P 53 * P 2045 :=
        Nat.lt_of_lt_of_le (Nat.mul_lt_mul_of_pos_right h3 (Nat.two_pow_pos _)) (Nat.mul_le_mul_left _ h4)
      refine Nat.lt_of_lt_of_le h5 ?_
      rw [← P_add]; decide +kernel
theorem rep_sV {x : Nat} (h : fin D x) : RepI D (sV D x) := by
  unfold sV; split
  · exact (rep_self h).neg
  · exact rep_self h
theorem sV_word {x y : Nat} (hx : x < 2 ^ 64) (hy : y < 2 ^ 64) (h : sV D x = sV D y) (h0 : sV D x ≠ 0) : x = y := by
  have e : 2 ^ 64 = 2 * D.signWeight := by rw [d_sw]
  rw [e] at hx hy
  unfold sV at h h0
  refine word_eq hx hy ?_ ?_
  · cases hsx : sgn D x <;> cases hsy : sgn D y <;> simp only [hsx, hsy, if_true, if_false, Bool.false_eq_true] at h h0 <;> first | rfl | (exfalso; omega)
  · cases hsx : sgn D x <;> cases hsy : sgn D y <;> simp only [hsx, hsy, if_true, if_false, Bool.false_eq_true] at h h0 <;> omega
theorem zero_word {x : Nat} (hx : x < 2 ^ 64) (h : sV D x = 0) : x = 0 ∨ x = 9223372036854775808 := by
  have ha : aV D x = 0 := by unfold sV at h; split at h <;> omega
  rw [aV64] at ha
  split at ha
  · omega
  · exfalso
    rcases Nat.mul_eq_zero.1 ha with h0 | h0
    · omega
    · have := Nat.two_pow_pos (x % 9223372036854775808 / 4503599627370496 - 1); omega
theorem fop_lt (op : BinOp) (x y : Nat) : fop op .f64 x y < 2 ^ 64 := by
  have e : (2 : Nat) ^ FloatKind.f64.format.width = 2 ^ 64 := by decide +kernel
  unfold fop can
  split
  · have := qn_lt .f64; rw [e] at this; exact this
  · cases h : floatBits op .f64 x y with
    | some r => have := lt_of_wf (floatBits_wf h); rw [e] at this; exact this
    | none => have := qn_lt .f64; rw [e] at this; exact this
theorem sub_zero {x : Nat} (hx : x < 2 ^ 64) (h : fin D x) : fop .sub .f64 x 0 = x := by
  by_cases h0 : sV D x = 0
  · rcases zero_word hx h0 with rfl | rfl <;> decide +kernel
  · obtain ⟨r, e, hf, r1, r2⟩ := sub_bounds D ebD h (fin64 (x := 0) (by omega)) (sV D x) (sV D x) (rep_sV h) (rep_sV h) (by rw [show sV D 0 = 0 by decide +kernel]; omega) (by rw [show sV D 0 = 0 by decide +kernel]; omega)
    have e2 := fop_some (op := .sub) e hf
    have hr : r < 2 ^ 64 := by rw [← e2]; exact fop_lt _ _ _
    rw [e2]
    exact (sV_word hx hr (by omega) h0).symm

/-! ### Cut towards zero -/
/-- The whole part, without its sign. -/
def cutW (x : Nat) : Nat := match D.read x with | .number s m p => Toward.zero.cut s (m <<< p.toNat) (-p).toNat | _ => 0

theorem cut_zero (s : Bool) (n drop : Nat) : Toward.zero.cut s n drop = n / 2 ^ drop := by
  unfold Toward.cut
  simp only [Nat.shiftLeft_eq, Nat.one_mul, Bool.toNat_false, Nat.add_zero]
  by_cases hd : drop ≤ n.log2 + 2
  · rw [Nat.min_eq_left hd]
  · rw [Nat.min_eq_right (by omega)]
    have hl : n < 2 ^ (n.log2 + 1) := Nat.lt_log2_self
    have h1 : 2 ^ (n.log2 + 1) ≤ 2 ^ (n.log2 + 2) := Nat.pow_le_pow_right (by omega) (by omega)
    have h2 : 2 ^ (n.log2 + 1) ≤ 2 ^ drop := Nat.pow_le_pow_right (by omega) (by omega)
    rw [Nat.div_eq_of_lt (by omega), Nat.div_eq_of_lt (by omega)]

theorem cutW_bounds {x : Nat} (h : fin D x) : cutW x * P 1074 ≤ aV D x ∧ aV D x < (cutW x + 1) * P 1074 := by
  obtain ⟨s, m, p, a1, a2, a3, a4, a5⟩ := read_sV D h
  unfold cutW; rw [a1]
  simp only [cut_zero, Nat.shiftLeft_eq]
  rw [lpD] at a5
  rw [← a4]
  obtain ⟨c, hc⟩ : ∃ c : Nat, c = 1074 := ⟨_, rfl⟩
  rw [← hc]
  unfold P
  have hup : up D p = (p + c).toNat := by unfold up; rw [lpD]; omega
  rw [hup]
  have a5' : -(c : Int) ≤ p := by omega
  clear hc hup a5
  by_cases hp : 0 ≤ p
  · have e1 : (-p).toNat = 0 := by omega
    have e2 : (p + c).toNat = p.toNat + c := by omega
    rw [e1, e2, Nat.pow_zero, Nat.div_one, Nat.pow_add, ← Nat.mul_assoc]
    have := Nat.two_pow_pos c
    exact ⟨Nat.le_refl _, Nat.mul_lt_mul_of_pos_right (by omega) this⟩
  · have e1 : p.toNat = 0 := by omega
    have e2 : c = (-p).toNat + (p + c).toNat := by omega
    rw [e1, Nat.pow_zero, Nat.mul_one]
    have hg : 2 ^ c = 2 ^ (-p).toNat * 2 ^ (p + c).toNat := by rw [← Nat.pow_add, ← e2]
    rw [hg, ← Nat.mul_assoc, ← Nat.mul_assoc]
    have hd := Nat.div_add_mod m (2 ^ (-p).toNat)
    have hm := Nat.mod_lt m (Nat.two_pow_pos (-p).toNat)
    refine ⟨Nat.mul_le_mul_right _ ?_, Nat.mul_lt_mul_of_pos_right ?_ (Nat.two_pow_pos _)⟩
    · rw [Nat.mul_comm]; omega
    · rw [Nat.add_mul, Nat.one_mul, Nat.mul_comm]; omega

/-- The whole part as a number. -/
def truncF (x : Nat) : Nat := D.write (.number (sgn D x) (cutW x) 0)
theorem truncF_val {x : Nat} (hw : cutW x ≤ P 52) : fin D (truncF x) ∧ sV D (truncF x) = if sgn D x then -((cutW x * P 1074 : Nat) : Int) else ((cutW x * P 1074 : Nat) : Int) := by
  have hP : P 52 = 4503599627370496 := by decide
  have hr : RepI D ((cutW x * P 1074 : Nat) : Int) := by
    refine ⟨⟨cutW x, 1074, by rw [Int.natAbs_natCast]; rfl, ?_⟩, ?_⟩
    · have : (2 : Nat) ^ (D.fractionBits + 1) = 9007199254740992 := by decide +kernel
      omega
    · rw [Int.natAbs_natCast]
      refine Nat.lt_of_le_of_lt (Nat.mul_le_mul_right _ hw) ?_
      rw [← P_add]; decide +kernel
  have hup : up D 0 = 1074 := by unfold up; rw [lpD]; decide
  have hdn : dn D 0 = 0 := by unfold dn; rw [lpD]; decide
  unfold truncF
  have key : ∀ B : Int, B = (if sgn D x then -((cutW x * P 1074 : Nat) : Int) else ((cutW x * P 1074 : Nat) : Int)) → RepI D B → fin D (D.write (.number (sgn D x) (cutW x) 0)) ∧ sV D (D.write (.number (sgn D x) (cutW x) 0)) = B := by
    intro B hB hR
    have hb := write_bounds D ebD (sgn D x) (cutW x) 0 B B hR hR
    rw [hup, hdn, Nat.pow_zero, Int.natCast_one, Int.mul_one] at hb
    have hB' := hB
    unfold P at hB'
    obtain ⟨g1, g2, g3⟩ := hb (by rw [← hB']; exact Int.le_refl _) (by rw [← hB']; exact Int.le_refl _)
    exact ⟨g1, by omega⟩
  obtain ⟨g1, g2⟩ := key _ rfl (by split; exact hr.neg; exact hr)
  exact ⟨g1, g2⟩

/-- The first step of the program, and of the reference. -/
def step1 (x : Nat) : Nat := if cmpF .neq .f64 (truncF x) 0 then fop .sub .f64 x (truncF x) else x
def toI (x : Nat) : Int := if sgn D x then -(cutW x : Int) else (cutW x : Int)
theorem cmp_fin {x y : Nat} (hx : fin D x) (hy : fin D y) :
    cmpF .eql .f64 x y = decide (sV D x = sV D y) ∧ cmpF .neq .f64 x y = decide (sV D x ≠ sV D y) ∧ cmpF .lss .f64 x y = decide (sV D x < sV D y) ∧
    cmpF .leq .f64 x y = decide (sV D x ≤ sV D y) ∧ cmpF .gtr .f64 x y = decide (sV D y < sV D x) ∧ cmpF .geq .f64 x y = decide (sV D y ≤ sV D x) := by
  have ho : FloatKind.f64.format.order x y = some (compare (sV D x) (sV D y)) := order_fin D hx hy
  unfold cmpF
  simp only [ho]
  generalize sV D x = a
  generalize sV D y = b
  simp only [compare, compareOfLessAndEq]
  by_cases c1 : a < b
  · rw [if_pos c1]
    have h1 : ¬ a = b := by omega
    have h2 : a ≤ b := by omega
    have h3 : ¬ b < a := by omega
    have h4 : ¬ b ≤ a := by omega
    simp [c1, h1, h2, h3, h4]
  · rw [if_neg c1]
    by_cases c2 : a = b
    · rw [if_pos c2]
      subst c2
      simp
    · rw [if_neg c2]
      have h2 : ¬ a ≤ b := by omega
      have h3 : b < a := by omega
      have h4 : b ≤ a := by omega
      simp [c1, c2, h2, h3, h4]
theorem sV0 : sV D 0 = 0 := by decide +kernel
theorem fin0 : fin D 0 := fin64 (x := 0) (by omega)

theorem step1_eq {x : Nat} (hx : x < 2 ^ 64) (h : fin D x) (hw : cutW x ≤ P 52) : step1 x = fop .sub .f64 x (can .f64 (floatOfInt .f64 (toI x))) := by
  obtain ⟨t1, t2⟩ := truncF_val hw
  unfold step1
  have hc := (cmp_fin t1 fin0).2.1
  rw [hc, sV0]
  have hP : 0 < P 1074 := P_pos _
  by_cases c : cutW x = 0
  · have e0 : sV D (truncF x) = 0 := by rw [t2, c]; simp
    have e1 : toI x = 0 := by unfold toI; rw [c]; simp
    rw [e0, e1]
    have e2 : can .f64 (floatOfInt .f64 0) = 0 := by decide +kernel
    rw [e2, sub_zero hx h]; simp
  · have hp : 0 < cutW x * P 1074 := Nat.mul_pos (Nat.pos_of_ne_zero c) hP
    have e0 : sV D (truncF x) ≠ 0 := by rw [t2]; split <;> omega
    have e1 : floatOfInt .f64 (toI x) = truncF x := by
      unfold floatOfInt FloatKind.nearest FloatKind.encode truncF toI
      cases hs : sgn D x
      · simp only [Bool.false_eq_true, if_false]
        have g1 : decide ((cutW x : Int) < 0) = false := by simp
        rw [g1, Int.natAbs_natCast]
      · simp only [if_true]
        have g1 : decide (-(cutW x : Int) < 0) = true := by simp; omega
        rw [g1, Int.natAbs_neg, Int.natAbs_natCast]
    rw [e1, can_of_not (fin_not_nan (k := .f64) t1)]
    simp [e0]

theorem one74 : (P 1074 : Int) = sV D wOne := by decide +kernel
theorem step1_sz {x : Nat} (h : fin D x) (hw : cutW x ≤ P 52) : Sz (step1 x) 1074 := by
  obtain ⟨t1, t2⟩ := truncF_val hw
  obtain ⟨b1, b2⟩ := cutW_bounds h
  have hP : (0 : Int) < (P 1074 : Int) := by exact_mod_cast P_pos _
  have e : (cutW x + 1) * P 1074 = cutW x * P 1074 + P 1074 := by rw [Nat.add_mul, Nat.one_mul]
  rw [e] at b2
  have hs : sV D x = if sgn D x then -(aV D x : Int) else (aV D x : Int) := rfl
  unfold step1
  rw [(cmp_fin t1 fin0).2.1, sV0]
  generalize hT : cutW x * P 1074 = T at *
  by_cases c : sV D (truncF x) ≠ 0
  · rw [if_pos (by simpa using c)]
    refine In.sub (a := sV D x) (b := sV D x) (c := sV D (truncF x)) (d := sV D (truncF x)) (.inr ⟨h, by omega, by omega⟩) (.inr ⟨t1, by omega, by omega⟩) (repP (e := 1074) (by omega)).neg (repP (by omega)) ?_ ?_
    · rw [t2, hs]; cases sgn D x <;> simp only [Bool.false_eq_true, if_false, if_true] <;> omega
    · rw [t2, hs]; cases sgn D x <;> simp only [Bool.false_eq_true, if_false, if_true] <;> omega
  · rw [if_neg (by simpa using c)]
    have c' : sV D (truncF x) = 0 := by omega
    have hT0 : T = 0 := by rw [t2] at c'; cases hq : sgn D x <;> rw [hq] at c' <;> simp at c' <;> omega
    refine .inr ⟨h, ?_, ?_⟩ <;> rw [hs] <;> cases sgn D x <;> simp only [Bool.false_eq_true, if_false, if_true] <;> omega

/-- What is left of a number of turns. -/
def partF (x : Nat) : Nat := if cmpF .lss .f64 (step1 x) 0 then fop .add .f64 (step1 x) wOne else step1 x
/-- It lies between 0 and 1. -/
theorem partF_in {x : Nat} (h : fin D x) (hw : cutW x ≤ P 52) : In (partF x) 0 (P 1074) := by
  have h1 := step1_sz h hw
  have h0 : RepI D 0 := rep0 D (infV_pos D)
  unfold partF
  rcases h1 with h1 | ⟨h1, h2, h3⟩
  · have : cmpF .lss .f64 (step1 x) 0 = false := by unfold cmpF; rw [order_nanL h1]; rfl
    rw [this]; exact .inl h1
  · rw [(cmp_fin h1 fin0).2.2.1, sV0]
    by_cases c : sV D (step1 x) < 0
    · rw [if_pos (by simpa using c)]
      refine In.add (a := sV D (step1 x)) (b := sV D (step1 x)) (c := (P 1074 : Int)) (d := (P 1074 : Int)) (.inr ⟨h1, by omega, by omega⟩) (.inr ⟨fin64 (by decide), by rw [one74]; omega, by rw [one74]; omega⟩) h0 (repP (by omega)) (by omega) (by omega)
    · rw [if_neg (by simpa using c)]
      exact .inr ⟨h1, by omega, h3⟩
theorem partF_sz {x : Nat} (h : fin D x) (hw : cutW x ≤ P 52) : Sz (partF x) 1074 := by
  have hP : (0 : Int) ≤ (P 1074 : Int) := Int.natCast_nonneg _
  exact (partF_in h hw).weaken (by omega) (Int.le_refl _)
end Go.Proofs.Ythbinacchpjkmaa.Fl
