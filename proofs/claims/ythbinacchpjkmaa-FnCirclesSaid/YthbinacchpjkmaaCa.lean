/- Plain facts: numbers between two multiples of 2^-24, and what the operations do to such bounds; tenths of decibels within bounds. No program in sight. -/
import Derived.Test.YthbinacchpjkmaaVa
set_option linter.unusedSimpArgs false
set_option linter.unusedVariables false
namespace Go.Proofs.Ythbinacchpjkmaa.Fl
open Ieee

theorem P50 : (P 1074 : Int) = 16777216 * (P 1050 : Int) := by
  have h : P 1074 = P 24 * P 1050 := by rw [← P_add]
  have h2 : P 24 = 16777216 := by decide
  rw [h2] at h
  generalize P 1074 = A at *
  generalize P 1050 = B at *
  omega
theorem repU {k : Int} (h : k.natAbs < 9007199254740992) : RepI D (k * (P 1050 : Int)) := by
  have hM : P 53 = 9007199254740992 := by decide
  have hf : (2 : Nat) ^ (D.fractionBits + 1) = 9007199254740992 := by decide +kernel
  have e : (k * (P 1050 : Int)).natAbs = k.natAbs * P 1050 := by rw [Int.natAbs_mul, Int.natAbs_natCast]
  refine ⟨⟨k.natAbs, 1050, by rw [e]; rfl, by rw [hf]; exact h⟩, ?_⟩
  rw [e]
  refine Nat.lt_of_lt_of_le (Nat.mul_lt_mul_of_pos_right h (P_pos 1050)) ?_
  rw [← hM, ← P_add]
  exact Nat.le_of_lt (P_lt (by omega))
/-- Finite and between the two, in units of 2^-24. -/
def IV (x : Nat) (i : Int × Int) : Prop := FI x (i.1 * (P 1050 : Int)) (i.2 * (P 1050 : Int))
def ck (lo hi : Int) : Option (Int × Int) := if lo.natAbs < 9007199254740992 ∧ hi.natAbs < 9007199254740992 then some (lo, hi) else none
theorem ck_some {lo hi : Int} {i : Int × Int} (h : ck lo hi = some i) : i = (lo, hi) ∧ lo.natAbs < 9007199254740992 ∧ hi.natAbs < 9007199254740992 := by
  unfold ck at h
  split at h
  · rename_i c; exact ⟨(Option.some.inj h).symm, c.1, c.2⟩
  · cases h
def addI (a b : Int × Int) : Option (Int × Int) := ck (a.1 + b.1) (a.2 + b.2)
theorem IV.add {x y : Nat} {a b c : Int × Int} (hx : IV x a) (hy : IV y b) (h : addI a b = some c) : IV (fop .add .f64 x y) c := by
  obtain ⟨rfl, h1, h2⟩ := ck_some h
  exact FI.add hx hy (repU h1) (repU h2) (by dsimp only; rw [Int.add_mul]; exact Int.le_refl _) (by dsimp only; rw [Int.add_mul]; exact Int.le_refl _)
theorem lin {X A1 A2 : Int} (Y : Int) (h1 : A1 ≤ X) (h2 : X ≤ A2) : (A1 * Y ≤ X * Y ∧ X * Y ≤ A2 * Y) ∨ (A2 * Y ≤ X * Y ∧ X * Y ≤ A1 * Y) := by
  rcases Int.le_total 0 Y with h | h
  · exact .inl ⟨Int.mul_le_mul_of_nonneg_right h1 h, Int.mul_le_mul_of_nonneg_right h2 h⟩
  · exact .inr ⟨Int.mul_le_mul_of_nonpos_right h2 h, Int.mul_le_mul_of_nonpos_right h1 h⟩
theorem corners {X Y A1 A2 B1 B2 lo hi : Int} (h1 : A1 ≤ X) (h2 : X ≤ A2) (h3 : B1 ≤ Y) (h4 : Y ≤ B2) (l1 : lo ≤ A1 * B1) (l2 : lo ≤ A1 * B2) (l3 : lo ≤ A2 * B1) (l4 : lo ≤ A2 * B2) (u1 : A1 * B1 ≤ hi) (u2 : A1 * B2 ≤ hi) (u3 : A2 * B1 ≤ hi) (u4 : A2 * B2 ≤ hi) : lo ≤ X * Y ∧ X * Y ≤ hi := by
  have g1 := lin A1 h3 h4
  have g2 := lin A2 h3 h4
  rw [Int.mul_comm B1 A1, Int.mul_comm B2 A1, Int.mul_comm Y A1] at g1
  rw [Int.mul_comm B1 A2, Int.mul_comm B2 A2, Int.mul_comm Y A2] at g2
  rcases lin Y h1 h2 with g | g <;> rcases g1 with g1 | g1 <;> rcases g2 with g2 | g2 <;> omega
def mulI (a b : Int × Int) : Option (Int × Int) :=
  ck (min (min (a.1 * b.1) (a.1 * b.2)) (min (a.2 * b.1) (a.2 * b.2)) / 16777216) (max (max (a.1 * b.1) (a.1 * b.2)) (max (a.2 * b.1) (a.2 * b.2)) / 16777216 + 1)
theorem IV.mul {x y : Nat} {a b c : Int × Int} (hx : IV x a) (hy : IV y b) (h : mulI a b = some c) : IV (fop .mul .f64 x y) c := by
  obtain ⟨rfl, h1, h2⟩ := ck_some h
  obtain ⟨hx, x1, x2⟩ := hx
  obtain ⟨hy, y1, y2⟩ := hy
  generalize hm : min (min (a.1 * b.1) (a.1 * b.2)) (min (a.2 * b.1) (a.2 * b.2)) = m at *
  generalize hM : max (max (a.1 * b.1) (a.1 * b.2)) (max (a.2 * b.1) (a.2 * b.2)) = M at *
  have hT : (0 : Int) ≤ (P 1050 : Int) := Int.natCast_nonneg _
  generalize hTT : (P 1050 : Int) = T at *
  have hT2 : 0 ≤ T * T := Int.mul_nonneg hT hT
  have key : ∀ p q : Int, (p * T) * (q * T) = (p * q) * (T * T) := fun p q => by
    rw [Int.mul_assoc, Int.mul_assoc]; congr 1; rw [← Int.mul_assoc, Int.mul_comm T q, Int.mul_assoc]
  have lo1 : m / 16777216 * 16777216 ≤ m := Int.ediv_mul_le _ (by decide)
  have hi1 : M < (M / 16777216 + 1) * 16777216 := Int.lt_ediv_add_one_mul_self _ (by decide)
  have L : ∀ p q : Int, m ≤ p * q → (m / 16777216 * 16777216) * (T * T) ≤ (p * T) * (q * T) := fun p q hh => by
    rw [key]; exact Int.mul_le_mul_of_nonneg_right (by omega) hT2
  have H : ∀ p q : Int, p * q ≤ M → (p * T) * (q * T) ≤ ((M / 16777216 + 1) * 16777216) * (T * T) := fun p q hh => by
    rw [key]; exact Int.mul_le_mul_of_nonneg_right (by omega) hT2
  have hb := corners x1 x2 y1 y2 (L _ _ (by omega)) (L _ _ (by omega)) (L _ _ (by omega)) (L _ _ (by omega)) (H _ _ (by omega)) (H _ _ (by omega)) (H _ _ (by omega)) (H _ _ (by omega))
  have e1 : (one D : Int) = 16777216 * T := by rw [oneD, P50, hTT]
  have r1 := repU h1
  have r2 := repU h2
  rw [hTT] at r1 r2
  have e2 : ∀ v : Int, v * T * (16777216 * T) = v * 16777216 * (T * T) := fun v => by
    rw [Int.mul_assoc, Int.mul_assoc v 16777216]; congr 1; rw [← Int.mul_assoc, Int.mul_comm T 16777216, Int.mul_assoc]
  obtain ⟨r, e, hf, g1, g2⟩ := mul_bounds D ebD (by rw [lpD]; decide) hx hy _ _ r1 r2 (by rw [e1, e2]; exact hb.1) (by rw [e1, e2]; exact hb.2)
  rw [fop_some (op := .mul) e hf]
  refine ⟨hf, ?_, ?_⟩
  · dsimp only; rw [hTT]; exact g1
  · dsimp only; rw [hTT]; exact g2
def quoE (N Q : Int) : Option (Int × Int) := if 0 < Q then ck (N * 16777216 / Q) (N * 16777216 / Q + 1) else none
theorem IV.quo {x y : Nat} {N Q : Int} {c : Int × Int} (hx : IV x (N, N)) (hy : IV y (Q, Q)) (h : quoE N Q = some c) : IV (fop .quo .f64 x y) c := by
  unfold quoE at h
  split at h
  · rename_i hQ
    obtain ⟨rfl, h1, h2⟩ := ck_some h
    obtain ⟨hx, x1, x2⟩ := hx
    obtain ⟨hy, y1, y2⟩ := hy
    dsimp only at x1 x2 y1 y2
    have ex : sV D x = N * (P 1050 : Int) := by omega
    have ey : sV D y = Q * (P 1050 : Int) := by omega
    have hT : (0 : Int) < (P 1050 : Int) := by exact_mod_cast P_pos _
    have r1 := repU h1
    have r2 := repU h2
    have e1 : (one D : Int) = 16777216 * (P 1050 : Int) := by rw [oneD, P50]
    generalize hTT : (P 1050 : Int) = T at *
    have hT2 : 0 ≤ T * T := Int.mul_nonneg (by omega) (by omega)
    have key : ∀ p q : Int, (p * T) * (q * T) = (p * q) * (T * T) := fun p q => by
      rw [Int.mul_assoc, Int.mul_assoc]; congr 1; rw [← Int.mul_assoc, Int.mul_comm T q, Int.mul_assoc]
    have lo1 : N * 16777216 / Q * Q ≤ N * 16777216 := Int.ediv_mul_le _ (by omega)
    have hi1 : N * 16777216 < (N * 16777216 / Q + 1) * Q := Int.lt_ediv_add_one_mul_self _ hQ
    obtain ⟨r, e, hf, g1, g2⟩ := div_bounds D ebD (by rw [lpD]; decide) hx hy (by rw [ey]; exact Int.mul_pos hQ hT) _ _ r1 r2
      (by rw [ey, ex, e1, key, key]; exact Int.mul_le_mul_of_nonneg_right lo1 hT2)
      (by rw [ey, ex, e1, key, key]; exact Int.mul_le_mul_of_nonneg_right (Int.le_of_lt hi1) hT2)
    rw [fop_some (op := .quo) e hf]
    refine ⟨hf, ?_, ?_⟩
    · dsimp only; rw [hTT]; exact g1
    · dsimp only; rw [hTT]; exact g2
  · cases h
theorem IV.const {x : Nat} {i : Int × Int} (h : (decide (x % 9223372036854775808 < 9218868437227405312) && decide (i.1 * (P 1050 : Int) ≤ sV D x) && decide (sV D x ≤ i.2 * (P 1050 : Int))) = true) : IV x i := FI.const h
theorem iv_one : IV wOne (16777216, 16777216) := IV.const (by decide +kernel)
theorem iv_two : IV wTwo (2 * 16777216, 2 * 16777216) := IV.const (by decide +kernel)
theorem iv_half : IV wHalf (8388608, 8388608) := IV.const (by decide +kernel)
theorem iv_ln2 : IV wLn2 (11629079, 11629080) := IV.const (by decide +kernel)
theorem iv_db : IV wDb (728625233, 728625234) := IV.const (by decide +kernel)
theorem iv_odd : ∀ j : Nat, j < 13 → IV (can .f64 (floatOfInt .f64 (25 - 2 * (j : Int)))) ((25 - 2 * (j : Int)) * 16777216, (25 - 2 * (j : Int)) * 16777216) := by
  intro j hj
  have h : ∀ i : Fin 13, (decide (can .f64 (floatOfInt .f64 (25 - 2 * ((i : Nat) : Int))) % 9223372036854775808 < 9218868437227405312) && decide (((25 - 2 * ((i : Nat) : Int)) * 16777216) * (P 1050 : Int) ≤ sV D (can .f64 (floatOfInt .f64 (25 - 2 * ((i : Nat) : Int))))) && decide (sV D (can .f64 (floatOfInt .f64 (25 - 2 * ((i : Nat) : Int)))) ≤ ((25 - 2 * ((i : Nat) : Int)) * 16777216) * (P 1050 : Int))) = true := by decide +kernel
  exact IV.const (h ⟨j, hj⟩)
theorem iv_eI (n : Int) (h0 : -6 ≤ n) (h1 : n ≤ 20) : IV (eI n) (n * 16777216, n * 16777216) := by
  have h : ∀ i : Fin 27, (decide (eI ((i : Nat) - 6 : Int) % 9223372036854775808 < 9218868437227405312) && decide ((((i : Nat) - 6 : Int) * 16777216) * (P 1050 : Int) ≤ sV D (eI ((i : Nat) - 6 : Int))) && decide (sV D (eI ((i : Nat) - 6 : Int)) ≤ (((i : Nat) - 6 : Int) * 16777216) * (P 1050 : Int))) = true := by decide +kernel
  have := h ⟨(n + 6).toNat, by omega⟩
  have e : (((n + 6).toNat : Nat) - 6 : Int) = n := by omega
  dsimp only at this
  rw [e] at this
  exact IV.const this

/-! ### Tenths within bounds -/
def tenQI (u : Int × Int) : Nat → Option (Int × Int)
  | 0 => some (0, 0)
  | j + 1 => (tenQI u j).bind fun q => (quoE 16777216 ((25 - 2 * (j : Int)) * 16777216)).bind fun r => (mulI u q).bind fun m => addI r m
theorem iv_tenQ {u : Nat} {i : Int × Int} (hu : IV u i) : ∀ j, j ≤ 13 → ∀ c, tenQI i j = some c → IV (tenQ u j) c := by
  intro j
  induction j with
  | zero =>
    intro _ c h
    cases h
    refine ⟨fin0, ?_, ?_⟩
    · show _ ≤ sV D 0
      rw [sV0]; simp
    · show sV D 0 ≤ _
      rw [sV0]; simp
  | succ j ih =>
    intro hj c h
    unfold tenQI at h
    obtain ⟨q, h1, h⟩ := Option.bind_eq_some_iff.1 h
    obtain ⟨r, h2, h⟩ := Option.bind_eq_some_iff.1 h
    obtain ⟨m, h3, h⟩ := Option.bind_eq_some_iff.1 h
    exact IV.add (IV.quo iv_one (iv_odd j (by omega)) h2) (IV.mul hu (ih (by omega) q h1) h3) h
theorem q11 : tenQI (0, 680000) 11 = some (3355443, 3455755) := by decide +kernel
theorem q3 : quoE 16777216 ((25 - 2 * ((11 : Nat) : Int)) * 16777216) = some (5592405, 5592406) := by decide +kernel
theorem q1 : quoE 16777216 ((25 - 2 * ((12 : Nat) : Int)) * 16777216) = some (16777216, 16777217) := by decide +kernel
/-- The tenths of K / 2^c, as bounds. -/
def tenIV (K c : Nat) : Option (Int × Int) :=
  if Nat.log2 (4 * K / 3) ≤ 20 then
    (quoE (((K * 2 ^ (24 - Nat.log2 (4 * K / 3)) : Nat) : Int) - 16777216) (((K * 2 ^ (24 - Nat.log2 (4 * K / 3)) : Nat) : Int) + 16777216)).bind fun s =>
    (mulI s s).bind fun u => (if 0 ≤ u.1 ∧ u.2 ≤ 680000 then (mulI u (3355443, 3455755)).bind fun m1 => (addI (5592405, 5592406) m1).bind fun q2 => (mulI u q2).bind fun m2 => addI (16777216, 16777217) m2 else none).bind fun q =>
    (mulI s q).bind fun p => (mulI (2 * 16777216, 2 * 16777216) p).bind fun l =>
    (mulI (((Nat.log2 (4 * K / 3) : Int) - (c : Int)) * 16777216, ((Nat.log2 (4 * K / 3) : Int) - (c : Int)) * 16777216) (11629079, 11629080)).bind fun e =>
    (addI l e).bind fun L => (mulI L (728625233, 728625234)).bind fun d => addI d (8388608, 8388608)
  else none
theorem log_of {K t : Nat} (h1 : 3 * P t ≤ 4 * K) (h2 : 4 * K < 6 * P t) : Nat.log2 (4 * K / 3) = t := by
  have hp : 0 < P t := P_pos t
  have h3 : P t ≤ 4 * K / 3 := by omega
  have h4 : 4 * K / 3 < P (t + 1) := by rw [P_half]; omega
  have h0 : 4 * K / 3 ≠ 0 := by omega
  exact (Nat.log2_eq_iff h0).2 ⟨h3, h4⟩
theorem nrm_val {x z E K c : Nat} (hx : Pos x) (hN : Nrm x z E) (hv : sV D x = ((K * P (1074 - c) : Nat) : Int)) (hc : c ≤ 6) (hK : 0 < K) :
    ∃ t, t ≤ 160 ∧ Nat.log2 (4 * K / 3) = t ∧ sV D z = ((K * P (1074 - t) : Nat) : Int) ∧ fin D z ∧ E = eI ((t : Int) - (c : Int)) := by
  have hp72 := P_pos 1072
  have hP72 := P72
  have fin_t : ∀ t, t ≤ 160 → sV D z = ((K * P (1074 - t) : Nat) : Int) → 3 * (P 1072 : Int) ≤ sV D z → sV D z < 6 * (P 1072 : Int) → Nat.log2 (4 * K / 3) = t := by
    intro t ht e1 e2 e3
    rw [e1] at e2 e3
    have f2 : 3 * P 1072 ≤ K * P (1074 - t) := by omega
    have f3 : K * P (1074 - t) < 6 * P 1072 := by omega
    have e5 : P (1074 - t) * P t = P 1074 := by rw [← P_add]; exact congrArg P (by omega)
    have e4 : K * P (1074 - t) * P t = 4 * K * P 1072 := by
      rw [Nat.mul_assoc, e5, ← hP72]
      generalize P 1072 = A
      rw [← Nat.mul_assoc, Nat.mul_comm K 4]
    have g2 := Nat.mul_le_mul_right (P t) f2
    have g3 := Nat.mul_lt_mul_of_pos_right f3 (P_pos t)
    rw [e4] at g2 g3
    have c1 : 3 * P 1072 * P t = 3 * P t * P 1072 := by rw [Nat.mul_assoc, Nat.mul_comm (P 1072), ← Nat.mul_assoc]
    have c2 : 6 * P 1072 * P t = 6 * P t * P 1072 := by rw [Nat.mul_assoc, Nat.mul_comm (P 1072), ← Nat.mul_assoc]
    rw [c1] at g2
    rw [c2] at g3
    exact log_of (Nat.le_of_mul_le_mul_right g2 hp72) (Nat.lt_of_mul_lt_mul_right g3)
  rcases hN with ⟨j, hj, h1, h2, rfl, rfl⟩ | ⟨h0, i, h1, h2, rfl, rfl⟩
  · obtain ⟨g0, g1, g2, g3, g4, g5⟩ := dbl_at hx j h1
    rw [lss75 g1] at h2
    have h2' : 3 * (P 1072 : Int) ≤ sV D (dblN x j) := by simpa using h2
    have h3' := g5 hj
    have e1 : sV D (dblN x j) = ((K * P (1074 - c + j) : Nat) : Int) := by
      rw [g2, hv, ← Int.natCast_mul, Nat.mul_left_comm, ← P_add, Nat.add_comm j]
    have hjc : j ≤ c := by
      rcases Nat.lt_or_ge c j with h | h
      · exfalso
        have a1 : P 1075 ≤ P (1074 - c + j) := P_le _ _ (by omega)
        have a2 : P 1075 = P 1074 + P 1074 := P_half 1074
        have a3 : 1 * P (1074 - c + j) ≤ K * P (1074 - c + j) := Nat.mul_le_mul_right _ hK
        omega
      · exact h
    have e2 : sV D (dblN x j) = ((K * P (1074 - (c - j)) : Nat) : Int) := by rw [e1, show 1074 - c + j = 1074 - (c - j) by omega]
    exact ⟨c - j, by omega, fin_t _ (by omega) e2 h2' h3', e2, g1, congrArg eI (by omega)⟩
  · obtain ⟨g0, g1, g2, g3, g4, g5⟩ := hlv_at hx i h1
    rw [geq15 g1] at h2
    have h2' : sV D (hlvN x i) < 6 * (P 1072 : Int) := by simpa using h2
    rw [lss75 hx.2.1] at h0
    have h0' : 3 * (P 1072 : Int) ≤ sV D x := by simpa using h0
    have h3' : 3 * (P 1072 : Int) ≤ sV D (hlvN x i) := by
      rcases Nat.eq_zero_or_pos i with h9 | h9
      · subst h9; exact h0'
      · exact g4 h9
    have e2 : sV D (hlvN x i) = ((K * P (1074 - (c + i)) : Nat) : Int) := by
      have hp : (0 : Int) < ((P i : Nat) : Int) := by exact_mod_cast P_pos i
      refine Int.eq_of_mul_eq_mul_left (Int.ne_of_gt hp) ?_
      rw [g2, hv, ← Int.natCast_mul, Nat.mul_left_comm, ← P_add, show i + (1074 - (c + i)) = 1074 - c by omega]
    exact ⟨c + i, by omega, fin_t _ (by omega) e2 h3' h2', e2, g1, congrArg eI (by omega)⟩
theorem iv_ten {x z E K c : Nat} (hx : Pos x) (hN : Nrm x z E) (hv : sV D x = ((K * P (1074 - c) : Nat) : Int)) (hc : c ≤ 6) (hK : 0 < K) {i : Int × Int} (h : tenIV K c = some i) : IV (tenR z E) i := by
  obtain ⟨t, ht, hlog, hz, hf, rfl⟩ := nrm_val hx hN hv hc hK
  unfold tenIV at h
  rw [hlog] at h
  split at h
  · rename_i ht20
    obtain ⟨s, h1, h⟩ := Option.bind_eq_some_iff.1 h
    obtain ⟨u, h2, h⟩ := Option.bind_eq_some_iff.1 h
    obtain ⟨q, h3, h⟩ := Option.bind_eq_some_iff.1 h
    obtain ⟨p, h4, h⟩ := Option.bind_eq_some_iff.1 h
    obtain ⟨l, h5, h⟩ := Option.bind_eq_some_iff.1 h
    obtain ⟨e, h6, h⟩ := Option.bind_eq_some_iff.1 h
    obtain ⟨L, h7, h⟩ := Option.bind_eq_some_iff.1 h
    obtain ⟨d, h8, hfin⟩ := Option.bind_eq_some_iff.1 h
    have hzz : sV D z = ((K * 2 ^ (24 - t) : Nat) : Int) * (P 1050 : Int) := by
      rw [hz, ← Int.natCast_mul]
      refine congrArg (fun n : Nat => (n : Int)) ?_
      show K * P (1074 - t) = K * P (24 - t) * P 1050
      rw [Nat.mul_assoc, ← P_add, show 24 - t + 1050 = 1074 - t by omega]
    generalize ((K * 2 ^ (24 - t) : Nat) : Int) = a at *
    have hone := iv_one
    have v1 : sV D wOne = 16777216 * (P 1050 : Int) := by
      have h9 := hone.2.1
      have h8 := hone.2.2
      dsimp only at h9 h8
      omega
    have hb : (a - 16777216).natAbs < 9007199254740992 ∧ (a + 16777216).natAbs < 9007199254740992 := by
      have g1 := (Nrm.vals hx hN).2.1
      have g2 := g1.2.1
      have g3 := g1.2.2
      have h74 : (P 1074 : Int) = 16777216 * (P 1050 : Int) := P50
      have h72 : 4 * (P 1072 : Int) = (P 1074 : Int) := by have := P72; omega
      have hT : (0 : Int) < (P 1050 : Int) := by exact_mod_cast P_pos _
      have a1 : 0 ≤ a := by
        rcases Int.lt_or_le a 0 with hh | hh
        · exfalso
          have := Int.mul_neg_of_neg_of_pos hh hT
          omega
        · exact hh
      have a2 : a ≤ 2 * 16777216 := by
        rcases Int.lt_or_le (2 * 16777216) a with hh | hh
        · exfalso
          have := Int.mul_lt_mul_of_pos_right hh hT
          rw [Int.mul_assoc] at this
          omega
        · exact hh
      omega
    have s1 : IV (fop .sub .f64 z wOne) (a - 16777216, a - 16777216) := FI.sub (FI.self hf) hone (repU hb.1) (repU hb.1)
      (by dsimp only; rw [Int.sub_mul, hzz]; exact Int.le_refl _) (by dsimp only; rw [Int.sub_mul, hzz]; exact Int.le_refl _)
    have s2 : IV (fop .add .f64 z wOne) (a + 16777216, a + 16777216) := FI.add (FI.self hf) hone (repU hb.2) (repU hb.2)
      (by dsimp only; rw [Int.add_mul, hzz]; exact Int.le_refl _) (by dsimp only; rw [Int.add_mul, hzz]; exact Int.le_refl _)
    have hs : IV (tenS z) s := IV.quo s1 s2 h1
    have hu := IV.mul hs hs h2
    have hq : IV (tenQ (fop .mul .f64 (tenS z) (tenS z)) 13) q := by
      split at h3
      · rename_i hu2
        obtain ⟨m1, k1, h3⟩ := Option.bind_eq_some_iff.1 h3
        obtain ⟨q2, k2, h3⟩ := Option.bind_eq_some_iff.1 h3
        obtain ⟨m2, k3, h3⟩ := Option.bind_eq_some_iff.1 h3
        have hT : (0 : Int) ≤ (P 1050 : Int) := Int.natCast_nonneg _
        have hu0 : IV (fop .mul .f64 (tenS z) (tenS z)) (0, 680000) := FI.weaken hu (Int.mul_le_mul_of_nonneg_right hu2.1 hT) (Int.mul_le_mul_of_nonneg_right hu2.2 hT)
        have h11 := iv_tenQ hu0 11 (by omega) _ q11
        have h12 : IV (tenQ (fop .mul .f64 (tenS z) (tenS z)) 12) q2 := IV.add (IV.quo iv_one (iv_odd 11 (by omega)) q3) (IV.mul hu h11 k1) k2
        exact IV.add (IV.quo iv_one (iv_odd 12 (by omega)) q1) (IV.mul hu h12 k3) h3
      · cases h3
    have hp := IV.mul hs hq h4
    have hl := IV.mul iv_two hp h5
    have he := IV.mul (iv_eI ((t : Int) - (c : Int)) (by omega) (by omega)) iv_ln2 h6
    have hL : IV (tenL z (eI ((t : Int) - (c : Int)))) L := IV.add hl he h7
    have hd := IV.mul hL iv_db h8
    exact IV.add hd iv_half hfin
  · cases h
end Go.Proofs.Ythbinacchpjkmaa.Fl
