/- Plain facts: down to a whole number, within bounds; tenths of a product. No program in sight. -/
import Derived.Test.YthbinacchpjkmaaCa
set_option linter.unusedSimpArgs false
set_option linter.unusedVariables false
namespace Go.Proofs.Ythbinacchpjkmaa.Fl
open Ieee

theorem cut_down_eq (s : Bool) (n drop : Nat) : Toward.down.cut s n drop = n / 2 ^ drop + (s && decide (n % 2 ^ drop ≠ 0)).toNat := by
  unfold Toward.cut
  simp only [Nat.shiftLeft_eq, Nat.one_mul]
  by_cases hd : drop ≤ n.log2 + 2
  · rw [Nat.min_eq_left hd]
    congr 2
    cases s <;> simp [bne]
    by_cases h : n % 2 ^ drop = 0 <;> simp [h]
  · rw [Nat.min_eq_right (by omega)]
    have hl : n < 2 ^ (n.log2 + 1) := Nat.lt_log2_self
    have h1 : 2 ^ (n.log2 + 1) ≤ 2 ^ (n.log2 + 2) := Nat.pow_le_pow_right (by omega) (by omega)
    have h2 : 2 ^ (n.log2 + 1) ≤ 2 ^ drop := Nat.pow_le_pow_right (by omega) (by omega)
    rw [Nat.div_eq_of_lt (by omega), Nat.div_eq_of_lt (by omega), Nat.mod_eq_of_lt (by omega), Nat.mod_eq_of_lt (by omega)]
    congr 2
    cases s <;> simp [bne]
    by_cases h : n = 0 <;> simp [h]
theorem flr_spec {x : Nat} (h : fin D x) : (sgn D x = false → flrW x * P 1074 ≤ aV D x ∧ aV D x < (flrW x + 1) * P 1074) ∧ (sgn D x = true → aV D x ≤ flrW x * P 1074 ∧ flrW x * P 1074 < aV D x + P 1074) := by
  obtain ⟨s, m, p, a1, a2, a3, a4, a5⟩ := read_sV D h
  have hP := P_pos 1074
  unfold flrW; rw [a1]
  simp only [cut_down_eq, Nat.shiftLeft_eq]
  rw [lpD] at a5
  rw [← a4, ← a2]
  obtain ⟨c, hc⟩ : ∃ c : Nat, c = 1074 := ⟨_, rfl⟩
  rw [← hc] at hP ⊢
  have hup : up D p = (p + c).toNat := by unfold up; rw [lpD]; omega
  rw [hup]
  have a5' : -(c : Int) ≤ p := by omega
  clear hc hup a5
  by_cases hp : 0 ≤ p
  · have e1 : (-p).toNat = 0 := by omega
    have e2 : (p + c).toNat = p.toNat + c := by omega
    have hq : m * 2 ^ (p.toNat + c) = m * 2 ^ p.toNat * P c := by unfold P; rw [Nat.pow_add, Nat.mul_assoc]
    rw [e1, e2, Nat.pow_zero, Nat.div_one, Nat.mod_one, hq]
    simp only [ne_eq, not_true, decide_false, Bool.and_false, Bool.toNat_false, Nat.add_zero]
    refine ⟨fun _ => ⟨Nat.le_refl _, Nat.mul_lt_mul_of_pos_right (by omega) hP⟩, fun _ => ⟨Nat.le_refl _, by omega⟩⟩
  · have e1 : p.toNat = 0 := by omega
    have e2 : c = (-p).toNat + (p + c).toNat := by omega
    rw [e1, Nat.pow_zero, Nat.mul_one]
    have hg : P c = 2 ^ (-p).toNat * 2 ^ (p + c).toNat := by unfold P; rw [← Nat.pow_add, ← e2]
    rw [hg]
    have hw := Nat.two_pow_pos (-p).toNat
    have hv := Nat.two_pow_pos (p + c).toNat
    generalize 2 ^ (-p).toNat = G at *
    generalize 2 ^ (p + c).toNat = V at *
    have hd := Nat.div_add_mod m G
    have hm := Nat.mod_lt m hw
    refine ⟨fun hs => ?_, fun hs => ?_⟩
    · rw [hs]
      simp only [Bool.false_and, Bool.toNat_false, Nat.add_zero]
      rw [← Nat.mul_assoc, ← Nat.mul_assoc]
      refine ⟨Nat.mul_le_mul_right _ ?_, Nat.mul_lt_mul_of_pos_right ?_ hv⟩
      · rw [Nat.mul_comm]; omega
      · rw [Nat.add_mul, Nat.one_mul, Nat.mul_comm]; omega
    · rw [hs]
      simp only [Bool.true_and]
      rw [← Nat.mul_assoc]
      by_cases hz : m % G = 0
      · simp only [hz, ne_eq, not_true, decide_false, Bool.toNat_false, Nat.add_zero]
        have e3 : m / G * G = m := by rw [Nat.mul_comm]; omega
        rw [e3]
        exact ⟨Nat.le_refl _, by have := Nat.mul_pos hw hv; omega⟩
      · simp only [hz, ne_eq, not_false_iff, decide_true, Bool.toNat_true]
        have e3 : (m / G + 1) * G = G * (m / G) + G := by rw [Nat.add_mul, Nat.one_mul, Nat.mul_comm]
        rw [e3]
        refine ⟨Nat.mul_le_mul_right _ (by omega), ?_⟩
        rw [← Nat.add_mul]
        exact Nat.mul_lt_mul_of_pos_right (by omega) hv
theorem floorF_sV {x : Nat} (hw : flrW x ≤ P 52) : sV D (floorF x) = if sgn D x then -((flrW x * P 1074 : Nat) : Int) else ((flrW x * P 1074 : Nat) : Int) := by
  have hP : P 52 = 4503599627370496 := by decide
  have hr : RepI D ((flrW x * P 1074 : Nat) : Int) := by
    refine ⟨⟨flrW x, 1074, by rw [Int.natAbs_natCast]; rfl, ?_⟩, ?_⟩
    · have : (2 : Nat) ^ (D.fractionBits + 1) = 9007199254740992 := by decide +kernel
      omega
    · rw [Int.natAbs_natCast]
      refine Nat.lt_of_le_of_lt (Nat.mul_le_mul_right _ hw) ?_
      rw [← P_add]; decide +kernel
  have hup : up D 0 = 1074 := by unfold up; rw [lpD]; decide
  have hdn : dn D 0 = 0 := by unfold dn; rw [lpD]; decide
  unfold floorF
  have key : ∀ B : Int, B = (if sgn D x then -((flrW x * P 1074 : Nat) : Int) else ((flrW x * P 1074 : Nat) : Int)) → RepI D B → sV D (D.write (.number (sgn D x) (flrW x) 0)) = B := by
    intro B hB hR
    have hb := write_bounds D ebD (sgn D x) (flrW x) 0 B B hR hR
    rw [hup, hdn, Nat.pow_zero, Int.natCast_one, Int.mul_one] at hb
    have hB' := hB
    unfold P at hB'
    obtain ⟨g1, g2, g3⟩ := hb (by rw [← hB']; exact Int.le_refl _) (by rw [← hB']; exact Int.le_refl _)
    omega
  exact key _ rfl (by split; exact hr.neg; exact hr)
theorem floor_val {x : Nat} (h : FZ x 1096) : ∃ n : Int, toI (floorF x) = n ∧ n * (P 1074 : Int) ≤ sV D x ∧ sV D x < (n + 1) * (P 1074 : Int) := by
  have h1 := cut_small h
  have h2 := flrW_le (x := x)
  have h22 : P 22 = 4194304 := by decide
  have h52 : P 52 = 4503599627370496 := by decide
  have hP := P_pos 1074
  have hw : flrW x ≤ P 52 := by omega
  obtain ⟨g1, g2⟩ := floorF_val (x := x) hw
  obtain ⟨s1, s2⟩ := flr_spec h.1
  have hb := cutW_bounds g1
  rw [g2] at hb
  have hc : cutW (floorF x) = flrW x := by
    have b1 := Nat.le_of_mul_le_mul_right hb.1 hP
    have b2 := Nat.lt_of_mul_lt_mul_right hb.2
    omega
  have hsg : sV D (floorF x) = if sgn D x then -((flrW x * P 1074 : Nat) : Int) else ((flrW x * P 1074 : Nat) : Int) := floorF_sV hw
  have hx : sV D x = if sgn D x then -(aV D x : Int) else (aV D x : Int) := rfl
  have hy : sV D (floorF x) = if sgn D (floorF x) then -(aV D (floorF x) : Int) else (aV D (floorF x) : Int) := rfl
  have ht : toI (floorF x) = if sgn D (floorF x) then -(cutW (floorF x) : Int) else (cutW (floorF x) : Int) := rfl
  rw [hc] at ht
  rw [g2] at hy
  have hn : toI (floorF x) = if sgn D x then -(flrW x : Int) else (flrW x : Int) := by
    rw [ht]
    rcases Nat.eq_zero_or_pos (flrW x) with hz | hz
    · rw [hz]; simp
    · have hpos : 0 < flrW x * P 1074 := Nat.mul_pos hz hP
      rw [hy] at hsg
      cases hs1 : sgn D (floorF x) <;> cases hs2 : sgn D x <;> rw [hs1, hs2] at hsg <;> simp only [Bool.false_eq_true, if_true, if_false] at hsg ⊢ <;> omega
  refine ⟨_, hn, ?_, ?_⟩
  · rw [hx]
    cases hs2 : sgn D x <;> simp only [Bool.false_eq_true, if_true, if_false]
    · have := (s1 hs2).1
      rw [← Int.natCast_mul]; omega
    · have := (s2 hs2).1
      rw [Int.neg_mul, ← Int.natCast_mul]; omega
  · rw [hx]
    cases hs2 : sgn D x <;> simp only [Bool.false_eq_true, if_true, if_false]
    · have := (s1 hs2).2
      rw [Nat.add_mul, Nat.one_mul] at this
      rw [Int.add_mul, ← Int.natCast_mul]; omega
    · have := (s2 hs2).2
      rw [Int.add_mul, Int.neg_mul, ← Int.natCast_mul]; omega
theorem iv_floor {x : Nat} (h : FZ x 1096) {i : Int × Int} (hi : IV x i) : i.1 < (toI (floorF x) + 1) * 16777216 ∧ toI (floorF x) * 16777216 ≤ i.2 := by
  obtain ⟨n, hn, h1, h2⟩ := floor_val h
  rw [hn]
  obtain ⟨_, a1, a2⟩ := hi
  have hT : (0 : Int) < (P 1050 : Int) := by exact_mod_cast P_pos _
  rw [P50] at h1 h2
  rw [← Int.mul_assoc] at h1 h2
  constructor
  · exact Int.lt_of_mul_lt_mul_right (by omega : i.1 * (P 1050 : Int) < (n + 1) * 16777216 * (P 1050 : Int)) (Int.le_of_lt hT)
  · exact Int.le_of_mul_le_mul_right (by omega : n * 16777216 * (P 1050 : Int) ≤ i.2 * (P 1050 : Int)) hT

/-! ### Tenths of a product, checked for all numbers that the law draws -/
def chk3 (i j k : Int × Int) : Bool := decide (i.2 + j.2 - k.1 ≤ 16777216) && decide (k.2 - i.1 - j.1 ≤ 0)
def rowC (X : Nat) (i : Int × Int) : List (Int × Int) → Nat → Bool
  | [], _ => true
  | j :: r, Y => (match tenIV (X * Y) 6 with | some k => chk3 i j k | none => false) && rowC X i r (Y + 1)
/-- Each number with itself and those before it. -/
def colC : List (Int × Int) → List (Int × Int) → Nat → Bool
  | _, [], _ => true
  | T, i :: r, X => rowC X i (T ++ [i]) 1 && colC (T ++ [i]) r (X + 1)
theorem rowC_at {X : Nat} {i : Int × Int} : ∀ (T : List (Int × Int)) (Y : Nat), rowC X i T Y = true → ∀ n j, T[n]? = some j → ∃ k, tenIV (X * (Y + n)) 6 = some k ∧ chk3 i j k = true
  | [], Y, h, n, j, hj => by simp at hj
  | j0 :: r, Y, h, n, j, hj => by
    unfold rowC at h
    simp only [Bool.and_eq_true] at h
    cases n with
    | zero =>
      cases hj
      have h1 := h.1
      cases hk : tenIV (X * Y) 6 with
      | none => rw [hk] at h1; cases h1
      | some k => rw [hk] at h1; exact ⟨k, rfl, h1⟩
    | succ n =>
      have := rowC_at r (Y + 1) h.2 n j (by simpa using hj)
      rwa [show Y + 1 + n = Y + (n + 1) by omega] at this
theorem colC_at : ∀ (R T : List (Int × Int)) (X : Nat), colC T R X = true → ∀ m i, R[m]? = some i → rowC (X + m) i (T ++ R.take (m + 1)) 1 = true
  | [], T, X, h, m, i, hi => by simp at hi
  | i0 :: r, T, X, h, m, i, hi => by
    unfold colC at h
    simp only [Bool.and_eq_true] at h
    cases m with
    | zero => cases hi; simpa using h.1
    | succ m =>
      have := colC_at r (T ++ [i0]) (X + 1) h.2 m i (by simpa using hi)
      rw [show X + 1 + m = X + (m + 1) by omega] at this
      simpa using this
theorem chk3_use {i j k : Int × Int} (h : chk3 i j k = true) {m n o : Int} (m1 : i.1 < (m + 1) * 16777216) (m2 : m * 16777216 ≤ i.2) (n1 : j.1 < (n + 1) * 16777216) (n2 : n * 16777216 ≤ j.2) (o1 : k.1 < (o + 1) * 16777216) (o2 : o * 16777216 ≤ k.2) : m + n - o ≤ 1 ∧ o - m - n ≤ 1 := by
  unfold chk3 at h
  simp only [Bool.and_eq_true, decide_eq_true_eq] at h
  omega
end Go.Proofs.Ythbinacchpjkmaa.Fl
