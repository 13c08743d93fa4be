/- Plain facts on the numbers of IEEE 754 as the model has them: what a word stands for, counted in units of the least place; and that rounding keeps whatever bound is itself a number of the format. No program in sight. -/
import Derived.Laws.FloatArith
set_option linter.unusedSimpArgs false
set_option linter.unusedVariables false
namespace Go.Proofs.Ythbinacchpjkmaa.Fl
open Ieee

/-! ### Cutting to a whole number -/
theorem cut_le (neg : Bool) (n drop N : Nat) (h : n ≤ N * 2 ^ drop) : Toward.even.cut neg n drop ≤ N := by
  unfold Toward.cut
  simp only [Nat.shiftLeft_eq, Nat.one_mul]
  by_cases hd : drop ≤ n.log2 + 2
  · rw [Nat.min_eq_left hd]
    have hp : 0 < 2 ^ drop := Nat.two_pow_pos _
    generalize 2 ^ drop = g at *
    have h1 : n / g ≤ N := by
      apply Nat.div_le_of_le_mul; rw [Nat.mul_comm]; exact h
    have h2 : g * (n / g) + n % g = n := Nat.div_add_mod n g
    by_cases he : n / g = N
    · have h3 : n % g = 0 := by
        rw [he, Nat.mul_comm] at h2; omega
      have h4 : (decide (g < 2 * (n % g)) || g == 2 * (n % g) && n / g % 2 == 1) = false := by
        rw [h3]; simp; omega
      rw [h4]; simp; omega
    · have : (decide (g < 2 * (n % g)) || g == 2 * (n % g) && n / g % 2 == 1).toNat ≤ 1 := Bool.toNat_le _
      omega
  · rw [Nat.min_eq_right (by omega)]
    have hl : n < 2 ^ (n.log2 + 1) := Nat.lt_log2_self
    have hp : 2 ^ (n.log2 + 2) = 2 * 2 ^ (n.log2 + 1) := by rw [Nat.pow_succ, Nat.mul_comm]
    have h1 : n / 2 ^ (n.log2 + 2) = 0 := Nat.div_eq_of_lt (by omega)
    have h2 : n % 2 ^ (n.log2 + 2) = n := Nat.mod_eq_of_lt (by omega)
    have h4 : (decide (2 ^ (n.log2 + 2) < 2 * (n % 2 ^ (n.log2 + 2))) || 2 ^ (n.log2 + 2) == 2 * (n % 2 ^ (n.log2 + 2)) && n / 2 ^ (n.log2 + 2) % 2 == 1) = false := by
      rw [h1, h2]; simp; omega
    rw [h4, h1]; simp

theorem le_cut (neg : Bool) (n drop N : Nat) (h : N * 2 ^ drop ≤ n) : N ≤ Toward.even.cut neg n drop := by
  unfold Toward.cut
  simp only [Nat.shiftLeft_eq, Nat.one_mul]
  by_cases hd : drop ≤ n.log2 + 2
  · rw [Nat.min_eq_left hd]
    have hp : 0 < 2 ^ drop := Nat.two_pow_pos _
    have : N ≤ n / 2 ^ drop := (Nat.le_div_iff_mul_le hp).2 h
    omega
  · have hl : n < 2 ^ (n.log2 + 1) := Nat.lt_log2_self
    have hp : 2 ^ (n.log2 + 1) ≤ 2 ^ drop := Nat.pow_le_pow_right (by omega) (by omega)
    have hN : N = 0 := by
      rcases Nat.eq_zero_or_pos N with h0 | h0
      · exact h0
      · have : 1 * 2 ^ drop ≤ N * 2 ^ drop := Nat.mul_le_mul_right _ h0
        omega
    rw [hN]; exact Nat.zero_le _

/-! ### Rounding keeps bounds -/
section
variable (f : Format)

/-- 'B' units of the least place are a number of the format (but for its size). -/
def Rep (B : Nat) : Prop := ∃ b q, B = b * 2 ^ q ∧ b < 2 ^ (f.fractionBits + 1)

/-- exact, in units: mag * 2 ^ (place - least) -/
def up (place : Int) : Nat := (place - f.leastPlace).toNat
def dn (place : Int) : Nat := (f.leastPlace - place).toNat

theorem nearest_spec (neg : Bool) (mag : Nat) (place : Int) (h0 : mag ≠ 0) :
    ∃ m e, f.nearest neg mag place = f.word neg (min (e * f.binade + m) f.infRung) ∧ m ≤ 2 ^ (f.fractionBits + 1) ∧ (0 < e → 2 ^ f.fractionBits ≤ m) ∧
      ∀ B, Rep f B → (mag * 2 ^ up f place ≤ B * 2 ^ dn f place → m * 2 ^ e ≤ B) ∧ (B * 2 ^ dn f place ≤ mag * 2 ^ up f place → B ≤ m * 2 ^ e) := by
  unfold Format.nearest
  rw [if_neg h0]
  simp only [Nat.shiftLeft_eq]
  generalize hfb : f.fractionBits = fb at *
  generalize hlp : f.leastPlace = lp at *
  generalize hL : mag.log2 = L at *
  have hm1 : 2 ^ L ≤ mag := by rw [← hL]; exact Nat.log2_self_le h0
  have hm2 : mag < 2 ^ (L + 1) := by rw [← hL]; exact Nat.lt_log2_self
  unfold up dn
  rw [hlp]
  generalize hlast : max (place + (L : Int) - (fb : Int)) lp = last
  refine ⟨_, _, rfl, ?_, ?_, ?_⟩
  · apply cut_le
    have : mag * 2 ^ (place - last).toNat ≤ 2 ^ (L + 1) * 2 ^ (place - last).toNat := Nat.mul_le_mul_right _ (by omega)
    refine Nat.le_trans this ?_
    rw [← Nat.pow_add, ← Nat.pow_add]
    exact Nat.pow_le_pow_right (by omega) (by omega)
  · intro he
    apply le_cut
    have : 2 ^ L * 2 ^ (place - last).toNat ≤ mag * 2 ^ (place - last).toNat := Nat.mul_le_mul_right _ hm1
    refine Nat.le_trans ?_ this
    rw [← Nat.pow_add, ← Nat.pow_add]
    exact Nat.pow_le_pow_right (by omega) (by omega)
  · rintro B ⟨b, q, rfl, hb⟩
    rw [hfb] at hb
    generalize he : (last - lp).toNat = e
    by_cases hq : e ≤ q
    · obtain ⟨r, rfl⟩ : ∃ r, q = e + r := ⟨q - e, by omega⟩
      have hN : b * 2 ^ (e + r) = (b * 2 ^ r) * 2 ^ e := by rw [Nat.pow_add, Nat.mul_assoc, Nat.mul_comm (2 ^ r)]
      rw [hN]
      generalize b * 2 ^ r = N
      constructor
      · intro hx
        apply Nat.mul_le_mul_right
        apply cut_le
        by_cases c1 : last ≤ place
        · have e1 : (place - lp).toNat = (place - last).toNat + e := by omega
          have e2 : (lp - place).toNat = 0 := by omega
          have e3 : (last - place).toNat = 0 := by omega
          rw [e1, e2, Nat.pow_add, ← Nat.mul_assoc, Nat.pow_zero, Nat.mul_one] at hx
          rw [e3, Nat.pow_zero, Nat.mul_one]
          exact Nat.le_of_mul_le_mul_right hx (Nat.two_pow_pos _)
        · have e3 : (place - last).toNat = 0 := by omega
          rw [e3, Nat.pow_zero, Nat.mul_one]
          by_cases c2 : lp ≤ place
          · have e1 : (lp - place).toNat = 0 := by omega
            have e2 : e = (last - place).toNat + (place - lp).toNat := by omega
            rw [e1, e2, Nat.pow_zero, Nat.mul_one, Nat.pow_add, ← Nat.mul_assoc] at hx
            exact Nat.le_of_mul_le_mul_right hx (Nat.two_pow_pos _)
          · have e1 : (place - lp).toNat = 0 := by omega
            have e2 : (last - place).toNat = e + (lp - place).toNat := by omega
            rw [e1, Nat.pow_zero, Nat.mul_one, Nat.mul_assoc, ← Nat.pow_add, ← e2] at hx
            exact hx
      · intro hx
        apply Nat.mul_le_mul_right
        apply le_cut
        by_cases c1 : last ≤ place
        · have e1 : (place - lp).toNat = (place - last).toNat + e := by omega
          have e2 : (lp - place).toNat = 0 := by omega
          have e3 : (last - place).toNat = 0 := by omega
          rw [e1, e2, Nat.pow_add, ← Nat.mul_assoc, Nat.pow_zero, Nat.mul_one] at hx
          rw [e3, Nat.pow_zero, Nat.mul_one]
          exact Nat.le_of_mul_le_mul_right hx (Nat.two_pow_pos _)
        · have e3 : (place - last).toNat = 0 := by omega
          rw [e3, Nat.pow_zero, Nat.mul_one]
          by_cases c2 : lp ≤ place
          · have e1 : (lp - place).toNat = 0 := by omega
            have e2 : e = (last - place).toNat + (place - lp).toNat := by omega
            rw [e1, e2, Nat.pow_zero, Nat.mul_one, Nat.pow_add, ← Nat.mul_assoc] at hx
            exact Nat.le_of_mul_le_mul_right hx (Nat.two_pow_pos _)
          · have e1 : (place - lp).toNat = 0 := by omega
            have e2 : (last - place).toNat = e + (lp - place).toNat := by omega
            rw [e1, Nat.pow_zero, Nat.mul_one, Nat.mul_assoc, ← Nat.pow_add, ← e2] at hx
            exact hx
    · have hlt : last = place + (L : Int) - (fb : Int) := by omega
      have hB : b * 2 ^ q < 2 ^ (fb + e) := by
        have : b * 2 ^ q < 2 ^ (fb + 1) * 2 ^ q := Nat.mul_lt_mul_of_pos_right hb (Nat.two_pow_pos _)
        rw [← Nat.pow_add] at this
        exact Nat.lt_of_lt_of_le this (Nat.pow_le_pow_right (by omega) (by omega))
      have hk : 2 ^ fb ≤ Toward.even.cut neg (mag * 2 ^ (place - last).toNat) (last - place).toNat := by
        apply le_cut
        have : 2 ^ L * 2 ^ (place - last).toNat ≤ mag * 2 ^ (place - last).toNat := Nat.mul_le_mul_right _ hm1
        refine Nat.le_trans ?_ this
        rw [← Nat.pow_add, ← Nat.pow_add]
        exact Nat.pow_le_pow_right (by omega) (by omega)
      constructor
      · intro hx
        exfalso
        have h1 : 2 ^ (L + (place - lp).toNat) ≤ mag * 2 ^ (place - lp).toNat := by
          rw [Nat.pow_add]; exact Nat.mul_le_mul_right _ hm1
        have h2 : b * 2 ^ q * 2 ^ (lp - place).toNat < 2 ^ (fb + e + (lp - place).toNat) := by
          rw [Nat.pow_add (m := fb + e)]; exact Nat.mul_lt_mul_of_pos_right hB (Nat.two_pow_pos _)
        have h3 : 2 ^ (L + (place - lp).toNat) < 2 ^ (fb + e + (lp - place).toNat) := by omega
        have h4 := (Nat.pow_lt_pow_iff_right (by omega : 1 < 2)).1 h3
        omega
      · intro _
        refine Nat.le_trans (Nat.le_of_lt hB) ?_
        rw [Nat.pow_add]
        exact Nat.mul_le_mul_right _ hk
end

/-! ### Words -/
section
variable (f : Format)

def aV (x : Nat) : Nat := if x % f.signWeight < f.binade then x % f.signWeight else (f.binade + x % f.signWeight % f.binade) * 2 ^ (x % f.signWeight / f.binade - 1)
def sgn (x : Nat) : Bool := x / f.signWeight % 2 == 1
def fin (x : Nat) : Prop := x % f.signWeight < f.infRung
def sV (x : Nat) : Int := if sgn f x then -(aV f x : Int) else aV f x
/-- The units of 1. -/
def one : Nat := 2 ^ (-f.leastPlace).toNat
/-- The units of what would be the number behind the last. -/
def infV : Nat := f.binade * 2 ^ (2 ^ f.exponentBits - 2)

theorem sw_pos : 0 < f.signWeight := Nat.two_pow_pos _

theorem word_mod (neg : Bool) {rung : Nat} (h : rung < f.signWeight) : f.word neg rung % f.signWeight = rung := by
  unfold Format.word
  cases neg
  · simp [Nat.mod_eq_of_lt h]
  · simp [Nat.add_mod_left, Nat.mod_eq_of_lt h]

theorem word_sgn (neg : Bool) {rung : Nat} (h : rung < f.signWeight) : sgn f (f.word neg rung) = neg := by
  unfold Format.word sgn
  cases neg
  · simp [Nat.div_eq_of_lt h]
  · simp [Nat.add_div_left _ (sw_pos f), Nat.div_eq_of_lt h]

theorem read_fin {x : Nat} (h : fin f x) : ∃ m p, f.read x = .number (sgn f x) m p ∧ m * 2 ^ up f p = aV f x ∧ f.leastPlace ≤ p := by
  unfold Format.read fin at *
  by_cases h1 : x % f.signWeight < f.binade
  · refine ⟨x % f.signWeight, f.leastPlace, ?_, ?_, Int.le_refl _⟩
    · simp [h1, sgn]
    · simp [up, aV, h1]
  · refine ⟨f.binade + x % f.signWeight % f.binade, f.leastPlace + (x % f.signWeight / f.binade - 1 : Nat), ?_, ?_, by omega⟩
    · simp [h1, h, sgn]
    · have : up f (f.leastPlace + (x % f.signWeight / f.binade - 1 : Nat)) = x % f.signWeight / f.binade - 1 := by unfold up; omega
      rw [this]; simp [aV, h1]

theorem word_val (he2 : 2 ≤ f.exponentBits) (neg : Bool) (e m : Nat) (h1 : m ≤ 2 ^ (f.fractionBits + 1)) (h2 : 0 < e → 2 ^ f.fractionBits ≤ m) (h3 : m * 2 ^ e < infV f) :
    fin f (f.word neg (min (e * f.binade + m) f.infRung)) ∧ aV f (f.word neg (min (e * f.binade + m) f.infRung)) = m * 2 ^ e ∧ sgn f (f.word neg (min (e * f.binade + m) f.infRung)) = neg := by
  have hb : 2 ^ (f.fractionBits + 1) = 2 * f.binade := by unfold Format.binade; rw [Nat.pow_succ, Nat.mul_comm]
  have hbp : 0 < f.binade := Nat.two_pow_pos _
  have hG : 4 ≤ 2 ^ f.exponentBits := by
    have : 2 ^ 2 ≤ 2 ^ f.exponentBits := Nat.pow_le_pow_right (by omega) he2
    omega
  have hinf := f.infRung_lt
  have hlt : e * f.binade + m < f.infRung := by
    rcases Nat.lt_or_ge (e * f.binade + m) f.infRung with h | h
    · exact h
    exfalso
    unfold Format.infRung at h
    unfold infV at h3
    rw [show 2 ^ f.fractionBits = f.binade from rfl] at h2
    rw [hb] at h1
    generalize f.binade = b at *
    generalize 2 ^ f.exponentBits = G at *
    by_cases c1 : G - 2 ≤ e
    · have h4 : b ≤ m := h2 (by omega)
      have : b * 2 ^ (G - 2) ≤ m * 2 ^ e := Nat.mul_le_mul h4 (Nat.pow_le_pow_right (by omega) c1)
      omega
    · by_cases c2 : e = G - 3
      · have h4 : 2 * b ≤ m := by
          have : (G - 1) * b = e * b + 2 * b := by rw [← Nat.add_mul]; congr 1; omega
          omega
        have : b * 2 ^ (G - 2) ≤ m * 2 ^ e := by
          have e1 : G - 2 = e + 1 := by omega
          rw [e1, Nat.pow_succ, Nat.mul_comm (2 ^ e), ← Nat.mul_assoc, Nat.mul_comm b 2]
          exact Nat.mul_le_mul_right _ h4
        omega
      · have : (e + 3) * b ≤ (G - 1) * b := Nat.mul_le_mul_right _ (by omega)
        rw [Nat.add_mul] at this
        omega
  have hsw : e * f.binade + m < f.signWeight := by omega
  rw [Nat.min_eq_left (by omega)]
  refine ⟨?_, ?_, word_sgn f neg hsw⟩
  · unfold fin; rw [word_mod f neg hsw]; exact hlt
  · unfold aV
    rw [word_mod f neg hsw]
    rw [show 2 ^ f.fractionBits = f.binade from rfl] at h2
    rw [hb] at h1
    generalize f.binade = b at *
    by_cases c0 : e = 0
    · subst c0
      simp only [Nat.zero_mul, Nat.zero_add, Nat.pow_zero, Nat.mul_one]
      by_cases c1 : m < b
      · rw [if_pos c1]
      · rw [if_neg c1]
        by_cases c2 : m = 2 * b
        · subst c2
          rw [Nat.mul_mod_left, Nat.mul_div_cancel _ hbp]; omega
        · have d1 : m / b = 1 := by
            apply Nat.div_eq_of_lt_le <;> omega
          have d2 : m % b = m - b := by
            have := Nat.div_add_mod m b
            rw [d1] at this; omega
          rw [d1, d2]; simp; omega
    · have h4 := h2 (by omega)
      have c1 : ¬ e * b + m < b := by omega
      rw [if_neg c1]
      by_cases c2 : m = 2 * b
      · subst c2
        rw [← Nat.add_mul, Nat.mul_mod_left, Nat.mul_div_cancel _ hbp]
        have : e + 2 - 1 = e + 1 := by omega
        rw [this, Nat.pow_succ]; simp only [Nat.add_zero]; rw [Nat.mul_comm (2 ^ e) 2, ← Nat.mul_assoc, Nat.mul_comm b 2]
      · have d1 : m / b = 1 := by
          apply Nat.div_eq_of_lt_le <;> omega
        have d2 : m % b = m - b := by
          have := Nat.div_add_mod m b
          rw [d1] at this; omega
        have d3 : (e * b + m) / b = e + 1 := by
          rw [Nat.add_comm, Nat.add_mul_div_right _ _ hbp, d1, Nat.add_comm]
        have d4 : (e * b + m) % b = m - b := by
          rw [Nat.add_comm, Nat.add_mul_mod_self_right, d2]
        rw [d3, d4]
        have : b + (m - b) = m := by omega
        rw [this]; simp

/-- An integer of units is a finite number of the format. -/
def RepI (B : Int) : Prop := Rep f B.natAbs ∧ B.natAbs < infV f

theorem write_bounds (he2 : 2 ≤ f.exponentBits) (s : Bool) (m : Nat) (p : Int) (lo hi : Int) (hlo : RepI f lo) (hhi : RepI f hi)
    (h1 : lo * (2 ^ dn f p : Nat) ≤ (if s then -((m * 2 ^ up f p : Nat) : Int) else ((m * 2 ^ up f p : Nat) : Int)))
    (h2 : (if s then -((m * 2 ^ up f p : Nat) : Int) else ((m * 2 ^ up f p : Nat) : Int)) ≤ hi * (2 ^ dn f p : Nat)) :
    fin f (f.write (.number s m p)) ∧ lo ≤ sV f (f.write (.number s m p)) ∧ sV f (f.write (.number s m p)) ≤ hi := by
  unfold Format.write
  simp only
  have hD : 0 < 2 ^ dn f p := Nat.two_pow_pos _
  generalize hDg : 2 ^ dn f p = D at *
  by_cases h0 : m = 0
  · subst h0
    have hsw : 0 < f.signWeight := sw_pos f
    have hi0 : (0 : Nat) < f.infRung := by
      unfold Format.infRung
      have : 2 ^ 2 ≤ 2 ^ f.exponentBits := Nat.pow_le_pow_right (by omega) he2
      exact Nat.mul_pos (by omega) (Nat.two_pow_pos _)
    have e : f.nearest s 0 p = f.word s 0 := by simp [Format.nearest]
    rw [e]
    have e1 : aV f (f.word s 0) = 0 := by
      unfold aV; rw [word_mod f s hsw, if_pos (show 0 < f.binade from Nat.two_pow_pos _)]
    have e2 : sV f (f.word s 0) = 0 := by unfold sV; rw [e1]; simp
    rw [e2]
    simp only [Nat.zero_mul, Int.ofNat_zero, Int.neg_zero, ite_self] at h1 h2
    refine ⟨by unfold fin; rw [word_mod f s hsw]; exact hi0, ?_, ?_⟩
    · rcases Int.lt_or_le 0 lo with h | h
      · have := Int.mul_pos h (by omega : (0 : Int) < (D : Int)); omega
      · exact h
    · rcases Int.lt_or_le hi 0 with h | h
      · have : hi * (D : Int) < 0 := Int.mul_neg_of_neg_of_pos h (by omega); omega
      · exact h
  · obtain ⟨m', e, hn, ha, hb, hc⟩ := nearest_spec f s m p h0
    rw [hDg] at hc
    have hX : 0 < m * 2 ^ up f p := Nat.mul_pos (Nat.pos_of_ne_zero h0) (Nat.two_pow_pos _)
    generalize m * 2 ^ up f p = X at *
    rw [hn]
    cases s
    · simp only [Bool.false_eq_true, if_false] at h1 h2
      have hip : 0 < hi := by
        rcases Int.lt_or_le 0 hi with h | h
        · exact h
        · have : hi * (D : Int) ≤ 0 := Int.mul_nonpos_of_nonpos_of_nonneg h (by omega); omega
      obtain ⟨H, rfl⟩ : ∃ H : Nat, hi = (H : Int) := ⟨hi.natAbs, by omega⟩
      have u1 : X ≤ H * D := by exact_mod_cast h2
      have u2 : m' * 2 ^ e ≤ H := (hc H (by simpa using hhi.1)).1 u1
      have u3 : H < infV f := by simpa using hhi.2
      obtain ⟨v1, v2, v3⟩ := word_val f he2 false e m' ha hb (by omega)
      refine ⟨v1, ?_, ?_⟩
      · unfold sV; rw [v3, v2]; simp only [Bool.false_eq_true, if_false]
        rcases Int.lt_or_le 0 lo with h | h
        · obtain ⟨L, rfl⟩ : ∃ L : Nat, lo = (L : Int) := ⟨lo.natAbs, by omega⟩
          have l1 : L * D ≤ X := by exact_mod_cast h1
          have l2 := (hc L (by simpa using hlo.1)).2 l1
          exact_mod_cast l2
        · omega
      · unfold sV; rw [v3, v2]; simp only [Bool.false_eq_true, if_false]; exact_mod_cast u2
    · simp only [if_true] at h1 h2
      have hip : lo < 0 := by
        rcases Int.lt_or_le lo 0 with h | h
        · exact h
        · have : 0 ≤ lo * (D : Int) := Int.mul_nonneg h (by omega); omega
      obtain ⟨H, rfl⟩ : ∃ H : Nat, lo = -(H : Int) := ⟨lo.natAbs, by omega⟩
      have u1 : X ≤ H * D := by
        have : (X : Int) ≤ (H : Int) * (D : Int) := by rw [Int.neg_mul] at h1; omega
        exact_mod_cast this
      have u2 : m' * 2 ^ e ≤ H := (hc H (by simpa using hlo.1)).1 u1
      have u3 : H < infV f := by simpa using hlo.2
      obtain ⟨v1, v2, v3⟩ := word_val f he2 true e m' ha hb (by omega)
      refine ⟨v1, ?_, ?_⟩
      · unfold sV; rw [v3, v2]; simp only [if_true]; omega
      · unfold sV; rw [v3, v2]; simp only [if_true]
        rcases Int.lt_or_le hi 0 with h | h
        · obtain ⟨L, rfl⟩ : ∃ L : Nat, hi = -(L : Int) := ⟨hi.natAbs, by omega⟩
          have l1 : L * D ≤ X := by
            have : (L : Int) * (D : Int) ≤ (X : Int) := by rw [Int.neg_mul] at h2; omega
            exact_mod_cast this
          have l2 := (hc L (by simpa using hhi.1)).2 l1
          omega
        · omega
end
end Go.Proofs.Ythbinacchpjkmaa.Fl
