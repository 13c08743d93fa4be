/- Plain facts on the operations of IEEE 754 as the model has them: between two numbers of the format that bound the exact result, the rounded result lies too. No program in sight. -/
import Derived.Test.YthbinacchpjkmaaFa
set_option linter.unusedSimpArgs false
set_option linter.unusedVariables false
namespace Go.Proofs.Ythbinacchpjkmaa.Fl
open Ieee

section
variable (f : Format)

theorem signed_eq (s : Bool) (m u : Nat) : signed s m u = if s then -((m * 2 ^ u : Nat) : Int) else ((m * 2 ^ u : Nat) : Int) := by
  unfold signed; rw [Nat.shiftLeft_eq]

theorem read_sV {x : Nat} (h : fin f x) : ∃ s m p, f.read x = .number s m p ∧ s = sgn f x ∧ signed s m (up f p) = sV f x ∧ m * 2 ^ up f p = aV f x ∧ f.leastPlace ≤ p := by
  obtain ⟨m, p, h1, h2, h3⟩ := read_fin f h
  refine ⟨_, m, p, h1, rfl, ?_, h2, h3⟩
  rw [signed_eq, h2]; rfl

theorem signed_split (s : Bool) (m a b : Nat) : signed s m a * (2 ^ b : Nat) = signed s m (a + b) := by
  rw [signed_eq, signed_eq, Nat.pow_add, ← Nat.mul_assoc]
  cases s
  · simp
  · simp [Int.neg_mul]

theorem sum_bounds (he2 : 2 ≤ f.exponentBits) {dx dy : Datum} {s m i t n j} (hx : dx = .number s m i) (hy : dy = .number t n j) (hi : f.leastPlace ≤ i) (hj : f.leastPlace ≤ j)
    (lo hi' : Int) (hlo : RepI f lo) (hhi : RepI f hi') (h1 : lo ≤ signed s m (up f i) + signed t n (up f j)) (h2 : signed s m (up f i) + signed t n (up f j) ≤ hi') :
    ∃ r, (dx.sum dy).map f.write = some r ∧ fin f r ∧ lo ≤ sV f r ∧ sV f r ≤ hi' := by
  subst hx; subst hy
  simp only [Datum.sum, Option.map_some]
  refine ⟨_, rfl, ?_⟩
  have eb : (f.leastPlace : Int) ≤ min i j := by omega
  have e0 : dn f (min i j) = 0 := by unfold dn; omega
  have ei : signed s m (i - min i j).toNat * (2 ^ up f (min i j) : Nat) = signed s m (up f i) := by
    rw [signed_split]; congr 1; unfold up; omega
  have ej : signed t n (j - min i j).toNat * (2 ^ up f (min i j) : Nat) = signed t n (up f j) := by
    rw [signed_split]; congr 1; unfold up; omega
  have et : (signed s m (i - min i j).toNat + signed t n (j - min i j).toNat) * (2 ^ up f (min i j) : Nat) = signed s m (up f i) + signed t n (up f j) := by
    rw [Int.add_mul, ei, ej]
  generalize signed s m (i - min i j).toNat + signed t n (j - min i j).toNat = T at *
  have hsg : (if (if T = 0 then s && t else decide (T < 0)) = true then -((T.natAbs * 2 ^ up f (min i j) : Nat) : Int) else ((T.natAbs * 2 ^ up f (min i j) : Nat) : Int)) = T * (2 ^ up f (min i j) : Nat) := by
    by_cases c : T = 0
    · subst c; simp
    · rw [if_neg c]
      by_cases c2 : T < 0
      · have : ((T.natAbs : Nat) : Int) = -T := by omega
        simp only [c2, decide_true, if_true, Int.natCast_mul, this, Int.neg_mul, Int.neg_neg]
      · have : ((T.natAbs : Nat) : Int) = T := by omega
        simp only [c2, decide_false, Bool.false_eq_true, if_false, Int.natCast_mul, this]
  apply write_bounds f he2 _ _ _ _ _ hlo hhi
  · rw [e0, hsg, et]; simpa using h1
  · rw [e0, hsg, et]; simpa using h2

theorem add_bounds (he2 : 2 ≤ f.exponentBits) {x y : Nat} (hx : fin f x) (hy : fin f y) (lo hi : Int) (hlo : RepI f lo) (hhi : RepI f hi)
    (h1 : lo ≤ sV f x + sV f y) (h2 : sV f x + sV f y ≤ hi) : ∃ r, f.add x y = some r ∧ fin f r ∧ lo ≤ sV f r ∧ sV f r ≤ hi := by
  obtain ⟨s, m, p, a1, a2, a3, a4, a5⟩ := read_sV f hx
  obtain ⟨t, n, q, b1, b2, b3, b4, b5⟩ := read_sV f hy
  unfold Format.add
  exact sum_bounds f he2 a1 b1 a5 b5 lo hi hlo hhi (by rw [a3, b3]; exact h1) (by rw [a3, b3]; exact h2)

theorem signed_not (t : Bool) (n u : Nat) : signed (!t) n u = -signed t n u := by
  rw [signed_eq, signed_eq]; cases t <;> simp

theorem sub_bounds (he2 : 2 ≤ f.exponentBits) {x y : Nat} (hx : fin f x) (hy : fin f y) (lo hi : Int) (hlo : RepI f lo) (hhi : RepI f hi)
    (h1 : lo ≤ sV f x - sV f y) (h2 : sV f x - sV f y ≤ hi) : ∃ r, f.sub x y = some r ∧ fin f r ∧ lo ≤ sV f r ∧ sV f r ≤ hi := by
  obtain ⟨s, m, p, a1, a2, a3, a4, a5⟩ := read_sV f hx
  obtain ⟨t, n, q, b1, b2, b3, b4, b5⟩ := read_sV f hy
  unfold Format.sub
  have b1' : (f.read y).opposite = .number (!t) n q := by rw [b1]; rfl
  exact sum_bounds f he2 a1 b1' a5 b5 lo hi hlo hhi (by rw [signed_not, a3, b3]; omega) (by rw [signed_not, a3, b3]; omega)

theorem signed_mul (s t : Bool) (m n a b : Nat) : signed s m a * signed t n b = signed (s ^^ t) (m * n) (a + b) := by
  rw [signed_eq, signed_eq, signed_eq, Nat.pow_add]
  have e : m * n * (2 ^ a * 2 ^ b) = (m * 2 ^ a) * (n * 2 ^ b) := by
    rw [Nat.mul_assoc, Nat.mul_assoc, ← Nat.mul_assoc n, Nat.mul_comm n (2 ^ a), Nat.mul_assoc]
  rw [e]
  generalize m * 2 ^ a = X
  generalize n * 2 ^ b = Y
  cases s <;> cases t <;> simp [Int.neg_mul, Int.mul_neg]

theorem mul_bounds (he2 : 2 ≤ f.exponentBits) (hneg : f.leastPlace ≤ 0) {x y : Nat} (hx : fin f x) (hy : fin f y) (lo hi : Int) (hlo : RepI f lo) (hhi : RepI f hi)
    (h1 : lo * one f ≤ sV f x * sV f y) (h2 : sV f x * sV f y ≤ hi * one f) : ∃ r, f.mul x y = some r ∧ fin f r ∧ lo ≤ sV f r ∧ sV f r ≤ hi := by
  obtain ⟨s, m, p, a1, a2, a3, a4, a5⟩ := read_sV f hx
  obtain ⟨t, n, q, b1, b2, b3, b4, b5⟩ := read_sV f hy
  unfold Format.mul
  rw [a1, b1]
  simp only [Datum.product, Option.map_some]
  refine ⟨_, rfl, ?_⟩
  rw [← a3, ← b3, signed_mul] at h1 h2
  -- the exact product, in units of units
  by_cases c : f.leastPlace ≤ p + q
  · have e1 : up f p + up f q = up f (p + q) + (-f.leastPlace).toNat := by unfold up; omega
    have e2 : dn f (p + q) = 0 := by unfold dn; omega
    rw [e1, ← signed_split] at h1 h2
    have hU : (0 : Int) < ((2 ^ (-f.leastPlace).toNat : Nat) : Int) := by exact_mod_cast Nat.two_pow_pos _
    unfold one at h1 h2
    have g1 := Int.le_of_mul_le_mul_right h1 hU
    have g2 := Int.le_of_mul_le_mul_right h2 hU
    rw [signed_eq] at g1 g2
    apply write_bounds f he2 _ _ _ _ _ hlo hhi
    · rw [e2]; simpa using g1
    · rw [e2]; simpa using g2
  · have e1 : (-f.leastPlace).toNat = dn f (p + q) + (up f p + up f q) := by unfold up dn; omega
    have e2 : up f (p + q) = 0 := by unfold up; omega
    have e3 : signed (s ^^ t) (m * n) (up f p + up f q) = signed (s ^^ t) (m * n) 0 * ((2 ^ (up f p + up f q) : Nat) : Int) := by
      rw [signed_split]; simp
    unfold one at h1 h2
    rw [e1, Nat.pow_add _ (dn f (p + q)), e3, Int.natCast_mul, ← Int.mul_assoc] at h1 h2
    have hU : (0 : Int) < ((2 ^ (up f p + up f q) : Nat) : Int) := by exact_mod_cast Nat.two_pow_pos _
    have g1 := Int.le_of_mul_le_mul_right h1 hU
    have g2 := Int.le_of_mul_le_mul_right h2 hU
    rw [signed_eq] at g1 g2
    apply write_bounds f he2 _ _ _ _ _ hlo hhi
    · rw [e2]; exact g1
    · rw [e2]; exact g2

theorem quot_bound {m n i j more B : _} {fb : Nat} {lp : Int} (hfb : fb = f.fractionBits) (hlp : lp = f.leastPlace) (hneg : lp < 0) (hm : m ≠ 0) (hn : n ≠ 0) (hi : lp ≤ i) (hj : lp ≤ j)
    (hmore : fb + 2 + n.log2 ≤ m.log2 + more) (hB : Rep f B) :
    (m * 2 ^ up f i * one f ≤ B * (n * 2 ^ up f j) → (2 * (m * 2 ^ more / n) + (m * 2 ^ more % n != 0).toNat) * 2 ^ up f (i - j - (more : Int) - 1) ≤ B * 2 ^ dn f (i - j - (more : Int) - 1)) ∧
    (B * (n * 2 ^ up f j) ≤ m * 2 ^ up f i * one f → B * 2 ^ dn f (i - j - (more : Int) - 1) ≤ (2 * (m * 2 ^ more / n) + (m * 2 ^ more % n != 0).toNat) * 2 ^ up f (i - j - (more : Int) - 1)) := by
  obtain ⟨b, q, rfl, hb⟩ := hB
  rw [← hfb] at hb
  have hd0 : 2 ^ (fb + 1) * n < m * 2 ^ more := by
    have h1 : 2 ^ m.log2 ≤ m := Nat.log2_self_le hm
    have h2 : n < 2 ^ (n.log2 + 1) := Nat.lt_log2_self
    have h3 : 2 ^ m.log2 * 2 ^ more ≤ m * 2 ^ more := Nat.mul_le_mul_right _ h1
    have h4 : 2 ^ (fb + 1) * n < 2 ^ (fb + 1) * 2 ^ (n.log2 + 1) := Nat.mul_lt_mul_of_pos_left h2 (Nat.two_pow_pos _)
    rw [← Nat.pow_add] at h3 h4
    have h5 : 2 ^ (fb + 1 + (n.log2 + 1)) ≤ 2 ^ (m.log2 + more) := Nat.pow_le_pow_right (by omega) (by omega)
    omega
  have hnp : 0 < n := Nat.pos_of_ne_zero hn
  have hone : one f = 2 ^ (-lp).toNat := by unfold one; rw [hlp]
  have hui : up f i = (i - lp).toNat := by unfold up; rw [hlp]
  have huj : up f j = (j - lp).toNat := by unfold up; rw [hlp]
  rw [hone, hui, huj]
  generalize hP : i - j - (more : Int) - 1 = P
  have hdP : dn f P = (lp - P).toNat := by unfold dn; rw [hlp]
  have huP : up f P = (P - lp).toNat := by unfold up; rw [hlp]
  rw [hdP, huP]
  by_cases hk : P + 1 ≤ (q : Int) + lp
  · obtain ⟨κ, hκ⟩ : ∃ κ : Nat, (κ : Int) = (q : Int) + lp - P - 1 := ⟨((q : Int) + lp - P - 1).toNat, by omega⟩
    have hR : b * 2 ^ q * 2 ^ (lp - P).toNat = 2 * (b * 2 ^ κ) * 2 ^ (P - lp).toNat := by
      rw [Nat.mul_comm 2 (b * 2 ^ κ)]
      have : b * 2 ^ κ * 2 = b * 2 ^ (κ + 1) := by rw [Nat.pow_succ, Nat.mul_assoc]
      rw [this, Nat.mul_assoc, Nat.mul_assoc, ← Nat.pow_add, ← Nat.pow_add]
      congr 2; omega
    have eL : m * 2 ^ more * 2 ^ ((i - lp).toNat + (-lp).toNat) = m * 2 ^ (i - lp).toNat * 2 ^ (-lp).toNat * 2 ^ more := by
      rw [Nat.pow_add]; simp only [Nat.mul_assoc, Nat.mul_comm, Nat.mul_left_comm]
    have eR : b * 2 ^ κ * n * 2 ^ ((i - lp).toNat + (-lp).toNat) = b * 2 ^ q * (n * 2 ^ (j - lp).toNat) * 2 ^ more := by
      have : b * 2 ^ q * (n * 2 ^ (j - lp).toNat) * 2 ^ more = b * n * 2 ^ (q + ((j - lp).toNat + more)) := by
        rw [Nat.pow_add, Nat.pow_add]; simp only [Nat.mul_assoc, Nat.mul_comm, Nat.mul_left_comm]
      rw [this]
      have : b * 2 ^ κ * n * 2 ^ ((i - lp).toNat + (-lp).toNat) = b * n * 2 ^ (κ + ((i - lp).toNat + (-lp).toNat)) := by
        rw [Nat.pow_add _ κ]; simp only [Nat.mul_assoc, Nat.mul_comm, Nat.mul_left_comm]
      rw [this]
      congr 2; omega
    rw [hR]
    generalize b * 2 ^ κ = N at *
    constructor
    · intro hx
      apply Nat.mul_le_mul_right
      have g : m * 2 ^ more ≤ N * n := by
        have := Nat.mul_le_mul_right (2 ^ more) hx
        rw [← eL, ← eR] at this
        exact Nat.le_of_mul_le_mul_right this (Nat.two_pow_pos _)
      generalize m * 2 ^ more = d at *
      have h1 : d / n ≤ N := by apply Nat.div_le_of_le_mul; rw [Nat.mul_comm]; exact g
      have h2 : n * (d / n) + d % n = d := Nat.div_add_mod d n
      by_cases h3 : d / n = N
      · have h4 : d % n = 0 := by rw [h3, Nat.mul_comm] at h2; omega
        rw [h4]; simp; omega
      · have : (d % n != 0).toNat ≤ 1 := Bool.toNat_le _
        omega
    · intro hx
      apply Nat.mul_le_mul_right
      have g : N * n ≤ m * 2 ^ more := by
        have := Nat.mul_le_mul_right (2 ^ more) hx
        rw [← eL, ← eR] at this
        exact Nat.le_of_mul_le_mul_right this (Nat.two_pow_pos _)
      have : N ≤ m * 2 ^ more / n := (Nat.le_div_iff_mul_le hnp).2 g
      omega
  · constructor
    · intro hx
      exfalso
      have e1 : m * 2 ^ (i - lp).toNat * 2 ^ (-lp).toNat * 2 ^ more = m * 2 ^ more * 2 ^ ((i - lp).toNat + (-lp).toNat) := by
        rw [Nat.pow_add]; simp only [Nat.mul_assoc, Nat.mul_comm, Nat.mul_left_comm]
      have e2 : b * 2 ^ q * (n * 2 ^ (j - lp).toNat) * 2 ^ more = b * n * 2 ^ (q + ((j - lp).toNat + more)) := by
        rw [Nat.pow_add, Nat.pow_add]; simp only [Nat.mul_assoc, Nat.mul_comm, Nat.mul_left_comm]
      have h1 := Nat.mul_le_mul_right (2 ^ more) hx
      rw [e1, e2] at h1
      have h2 : b * n * 2 ^ (q + ((j - lp).toNat + more)) ≤ 2 ^ (fb + 1) * n * 2 ^ ((i - lp).toNat + (-lp).toNat) :=
        Nat.mul_le_mul (Nat.mul_le_mul_right _ (Nat.le_of_lt hb)) (Nat.pow_le_pow_right (by omega) (by omega))
      have h3 := Nat.le_of_mul_le_mul_right (Nat.le_trans h1 h2) (Nat.two_pow_pos _)
      omega
    · intro _
      have h1 : 2 ^ (fb + 1) ≤ m * 2 ^ more / n := (Nat.le_div_iff_mul_le hnp).2 (Nat.le_of_lt hd0)
      have h2 : b * 2 ^ q * 2 ^ (lp - P).toNat ≤ 2 ^ (fb + 1) * 2 ^ q * 2 ^ (lp - P).toNat := Nat.mul_le_mul_right _ (Nat.mul_le_mul_right _ (Nat.le_of_lt hb))
      have h3 : 2 ^ (fb + 1) * 2 ^ q * 2 ^ (lp - P).toNat ≤ 2 ^ (fb + 1) * 2 ^ (P - lp).toNat := by
        rw [Nat.mul_assoc, ← Nat.pow_add]
        exact Nat.mul_le_mul_left _ (Nat.pow_le_pow_right (by omega) (by omega))
      refine Nat.le_trans h2 (Nat.le_trans h3 (Nat.mul_le_mul_right _ (by omega)))

theorem div_bounds (he2 : 2 ≤ f.exponentBits) (hneg : f.leastPlace < 0) {x y : Nat} (hx : fin f x) (hy : fin f y) (hy0 : 0 < sV f y) (lo hi : Int) (hlo : RepI f lo) (hhi : RepI f hi)
    (h1 : lo * sV f y ≤ sV f x * one f) (h2 : sV f x * one f ≤ hi * sV f y) : ∃ r, f.div x y = some r ∧ fin f r ∧ lo ≤ sV f r ∧ sV f r ≤ hi := by
  obtain ⟨s, m, p, a1, a2, a3, a4, a5⟩ := read_sV f hx
  obtain ⟨t, n, q, b1, b2, b3, b4, b5⟩ := read_sV f hy
  have ht : t = false := by
    cases t
    · rfl
    · rw [← b3, signed_eq] at hy0; simp only [if_true] at hy0; omega
  subst ht
  have hn : n ≠ 0 := by
    rintro rfl; rw [← b3, signed_eq] at hy0; simp at hy0
  unfold Format.div
  rw [a1, b1]
  simp only [Datum.quotient, if_neg hn, Option.map_some, Nat.shiftLeft_eq]
  refine ⟨_, rfl, ?_⟩
  have hone : 0 < one f := Nat.two_pow_pos _
  rw [← a3, ← b3] at h1 h2
  rw [signed_eq false n] at h1 h2
  simp only [Bool.false_eq_true, if_false] at h1 h2
  have hY : 0 < n * 2 ^ up f q := Nat.mul_pos (Nat.pos_of_ne_zero hn) (Nat.two_pow_pos _)
  generalize hmore : f.fractionBits + 2 + n.log2 - m.log2 = more
  by_cases hm : m = 0
  · subst hm
    have e0 : signed s 0 (up f p) = 0 := by rw [signed_eq]; simp
    rw [e0] at h1 h2
    have g1 : lo ≤ 0 := by
      rcases Int.lt_or_le 0 lo with h | h
      · have := Int.mul_pos h (by exact_mod_cast hY : (0 : Int) < ((n * 2 ^ up f q : Nat) : Int)); omega
      · exact h
    have g2 : 0 ≤ hi := by
      rcases Int.lt_or_le hi 0 with h | h
      · have := Int.mul_neg_of_neg_of_pos h (by exact_mod_cast hY : (0 : Int) < ((n * 2 ^ up f q : Nat) : Int)); omega
      · exact h
    have e1 : (2 * (0 * 2 ^ more / n) + (0 * 2 ^ more % n != 0).toNat) = 0 := by simp
    rw [e1]
    apply write_bounds f he2 _ _ _ _ _ hlo hhi
    · simp only [Nat.zero_mul, Int.ofNat_zero, Int.neg_zero, ite_self]
      exact Int.mul_nonpos_of_nonpos_of_nonneg g1 (Int.natCast_nonneg _)
    · simp only [Nat.zero_mul, Int.ofNat_zero, Int.neg_zero, ite_self]
      exact Int.mul_nonneg g2 (Int.natCast_nonneg _)
  · have hq := fun B hB => quot_bound f (m := m) (n := n) (i := p) (j := q) (more := more) (B := B) rfl rfl hneg hm hn a5 b5 (by omega) hB
    have hX : 0 < m * 2 ^ up f p := Nat.mul_pos (Nat.pos_of_ne_zero hm) (Nat.two_pow_pos _)
    have hxor : (s ^^ false) = s := by cases s <;> rfl
    rw [hxor]
    apply write_bounds f he2 _ _ _ _ _ hlo hhi
    · cases s
      · simp only [Bool.false_eq_true, if_false]
        rw [signed_eq] at h1
        simp only [Bool.false_eq_true, if_false] at h1
        rcases Int.lt_or_le 0 lo with h | h
        · obtain ⟨L, rfl⟩ : ∃ L : Nat, lo = (L : Int) := ⟨lo.natAbs, by omega⟩
          have := (hq L (by simpa using hlo.1)).2 (by exact_mod_cast h1)
          exact_mod_cast this
        · have := Int.mul_nonpos_of_nonpos_of_nonneg h (Int.natCast_nonneg (2 ^ dn f (p - q - (more : Int) - 1)))
          omega
      · simp only [if_true]
        rw [signed_eq] at h1
        simp only [if_true] at h1
        obtain ⟨H, rfl⟩ : ∃ H : Nat, lo = -(H : Int) := by
          refine ⟨lo.natAbs, ?_⟩
          rcases Int.lt_or_le 0 lo with h | h
          · have g1 := Int.mul_pos h (by exact_mod_cast hY : (0 : Int) < ((n * 2 ^ up f q : Nat) : Int))
            have g2 : (0 : Int) ≤ ((m * 2 ^ up f p : Nat) : Int) * (one f : Int) := Int.mul_nonneg (by omega) (by omega)
            rw [Int.neg_mul] at h1; omega
          · omega
        have := (hq H (by simpa using hlo.1)).1 (by
          rw [Int.neg_mul, Int.neg_mul] at h1
          have : ((m * 2 ^ up f p : Nat) : Int) * (one f : Int) ≤ (H : Int) * ((n * 2 ^ up f q : Nat) : Int) := by omega
          exact_mod_cast this)
        rw [Int.neg_mul]
        have g : (((2 * (m * 2 ^ more / n) + (m * 2 ^ more % n != 0).toNat) * 2 ^ up f (p - q - (more : Int) - 1) : Nat) : Int) ≤ (H : Int) * ((2 ^ dn f (p - q - (more : Int) - 1) : Nat) : Int) := by exact_mod_cast this
        omega
    · cases s
      · simp only [Bool.false_eq_true, if_false]
        rw [signed_eq] at h2
        simp only [Bool.false_eq_true, if_false] at h2
        obtain ⟨H, rfl⟩ : ∃ H : Nat, hi = (H : Int) := by
          refine ⟨hi.natAbs, ?_⟩
          rcases Int.lt_or_le hi 0 with h | h
          · have g1 := Int.mul_neg_of_neg_of_pos h (by exact_mod_cast hY : (0 : Int) < ((n * 2 ^ up f q : Nat) : Int))
            have g2 : (0 : Int) ≤ ((m * 2 ^ up f p : Nat) : Int) * (one f : Int) := Int.mul_nonneg (by omega) (by omega)
            omega
          · omega
        have := (hq H (by simpa using hhi.1)).1 (by exact_mod_cast h2)
        exact_mod_cast this
      · simp only [if_true]
        rw [signed_eq] at h2
        simp only [if_true] at h2
        rcases Int.lt_or_le hi 0 with h | h
        · obtain ⟨L, rfl⟩ : ∃ L : Nat, hi = -(L : Int) := ⟨hi.natAbs, by omega⟩
          have := (hq L (by simpa using hhi.1)).2 (by
            rw [Int.neg_mul, Int.neg_mul] at h2
            have : (L : Int) * ((n * 2 ^ up f q : Nat) : Int) ≤ ((m * 2 ^ up f p : Nat) : Int) * (one f : Int) := by omega
            exact_mod_cast this)
          rw [Int.neg_mul]
          have g : (L : Int) * ((2 ^ dn f (p - q - (more : Int) - 1) : Nat) : Int) ≤ (((2 * (m * 2 ^ more / n) + (m * 2 ^ more % n != 0).toNat) * 2 ^ up f (p - q - (more : Int) - 1) : Nat) : Int) := by exact_mod_cast this
          omega
        · have := Int.mul_nonneg h (Int.natCast_nonneg (2 ^ dn f (p - q - (more : Int) - 1)))
          omega

theorem order_fin {x y : Nat} (hx : fin f x) (hy : fin f y) : f.order x y = some (compare (sV f x) (sV f y)) := by
  obtain ⟨s, m, p, a1, a2, a3, a4, a5⟩ := read_sV f hx
  obtain ⟨t, n, q, b1, b2, b3, b4, b5⟩ := read_sV f hy
  unfold Format.order
  rw [a1, b1]
  simp only [Datum.order]
  congr 1
  have ei : signed s m (p - min p q).toNat * (2 ^ up f (min p q) : Nat) = signed s m (up f p) := by
    rw [signed_split]; congr 1; unfold up; omega
  have ej : signed t n (q - min p q).toNat * (2 ^ up f (min p q) : Nat) = signed t n (up f q) := by
    rw [signed_split]; congr 1; unfold up; omega
  rw [← a3, ← b3, ← ei, ← ej]
  have hp : (0 : Int) < ((2 ^ up f (min p q) : Nat) : Int) := by exact_mod_cast Nat.two_pow_pos _
  generalize ((2 ^ up f (min p q) : Nat) : Int) = D at *
  generalize signed s m (p - min p q).toNat = A
  generalize signed t n (q - min p q).toNat = B
  have l1 : A < B ↔ A * D < B * D := ⟨fun h => Int.mul_lt_mul_of_pos_right h hp, fun h => Int.lt_of_mul_lt_mul_right h (Int.le_of_lt hp)⟩
  have l2 : A = B ↔ A * D = B * D := ⟨fun h => by rw [h], fun h => Int.eq_of_mul_eq_mul_right (by omega) h⟩
  simp only [compare, compareOfLessAndEq]
  by_cases c1 : A < B
  · rw [if_pos c1, if_pos (l1.1 c1)]
  · rw [if_neg c1, if_neg (fun h => c1 (l1.2 h))]
    by_cases c2 : A = B
    · rw [if_pos c2, if_pos (l2.1 c2)]
    · rw [if_neg c2, if_neg (fun h => c2 (l2.2 h))]
end
end Go.Proofs.Ythbinacchpjkmaa.Fl
