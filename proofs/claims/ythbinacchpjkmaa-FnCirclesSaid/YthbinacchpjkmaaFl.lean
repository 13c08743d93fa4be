/- Plain facts: the quarters of a turn that the phasor takes away. No program in sight. -/
import Derived.Test.YthbinacchpjkmaaFk
set_option linter.unusedSimpArgs false
set_option linter.unusedVariables false
namespace Go.Proofs.Ythbinacchpjkmaa.Fl
open Ieee

/-- Finite and between two bounds. -/
def FI (x : Nat) (lo hi : Int) : Prop := fin D x ∧ lo ≤ sV D x ∧ sV D x ≤ hi
theorem FI.in_ {x : Nat} {lo hi : Int} (h : FI x lo hi) : In x lo hi := .inr h
theorem FI.sub {x y : Nat} {a b c d lo hi : Int} (hx : FI x a b) (hy : FI y c d) (hlo : RepI D lo) (hhi : RepI D hi) (h1 : lo ≤ a - d) (h2 : b - c ≤ hi) : FI (fop .sub .f64 x y) lo hi := by
  obtain ⟨hx, x1, x2⟩ := hx
  obtain ⟨hy, y1, y2⟩ := hy
  obtain ⟨r, e, hf, r1, r2⟩ := sub_bounds D ebD hx hy lo hi hlo hhi (by omega) (by omega)
  rw [fop_some (op := .sub) e hf]
  exact ⟨hf, r1, r2⟩
theorem FI.add {x y : Nat} {a b c d lo hi : Int} (hx : FI x a b) (hy : FI y c d) (hlo : RepI D lo) (hhi : RepI D hi) (h1 : lo ≤ a + c) (h2 : b + d ≤ hi) : FI (fop .add .f64 x y) lo hi := by
  obtain ⟨hx, x1, x2⟩ := hx
  obtain ⟨hy, y1, y2⟩ := hy
  obtain ⟨r, e, hf, r1, r2⟩ := add_bounds D ebD hx hy lo hi hlo hhi (by omega) (by omega)
  rw [fop_some (op := .add) e hf]
  exact ⟨hf, r1, r2⟩
theorem FI.self {x : Nat} (h : fin D x) : FI x (sV D x) (sV D x) := ⟨h, Int.le_refl _, Int.le_refl _⟩
theorem FI.weaken {x : Nat} {lo hi lo' hi' : Int} (h : FI x lo hi) (h1 : lo' ≤ lo) (h2 : hi ≤ hi') : FI x lo' hi' := ⟨h.1, by have := h.2.1; omega, by have := h.2.2; omega⟩
theorem raw_eq {r v : Nat} (h : can .f64 r = v) (hf : fin D v) : r = v := by
  have hn : isN .f64 r = false := by rw [← isN_can, h]; exact fin_not_nan (k := .f64) hf
  rw [← can_of_not hn, h]

theorem step1_fi {x : Nat} (h : fin D x) (hw : cutW x ≤ P 52) : FI (step1 x) (-(P 1074 : Int)) (P 1074) := by
  obtain ⟨t1, t2⟩ := truncF_val hw
  obtain ⟨b1, b2⟩ := cutW_bounds h
  have hP : (0 : Int) < (P 1074 : Int) := by exact_mod_cast P_pos _
  have e : (cutW x + 1) * P 1074 = cutW x * P 1074 + P 1074 := by rw [Nat.add_mul, Nat.one_mul]
  rw [e] at b2
  have hs : sV D x = if sgn D x then -(aV D x : Int) else (aV D x : Int) := rfl
  unfold step1
  rw [(cmp_fin t1 fin0).2.1, sV0]
  generalize hT : cutW x * P 1074 = T at *
  by_cases c : sV D (truncF x) ≠ 0
  · rw [if_pos (by simpa using c)]
    refine FI.sub (FI.self h) (FI.self t1) (repP (e := 1074) (by omega)).neg (repP (by omega)) ?_ ?_
    · rw [t2, hs]; cases sgn D x <;> simp only [Bool.false_eq_true, if_false, if_true] <;> omega
    · rw [t2, hs]; cases sgn D x <;> simp only [Bool.false_eq_true, if_false, if_true] <;> omega
  · rw [if_neg (by simpa using c)]
    have c' : sV D (truncF x) = 0 := by omega
    have hT0 : T = 0 := by rw [t2] at c'; cases hq : sgn D x <;> rw [hq] at c' <;> simp at c' <;> omega
    refine ⟨h, ?_, ?_⟩ <;> rw [hs] <;> cases sgn D x <;> simp only [Bool.false_eq_true, if_false, if_true] <;> omega
theorem partF_fi {x : Nat} (h : fin D x) (hw : cutW x ≤ P 52) : FI (partF x) 0 (P 1074) := by
  obtain ⟨h1, h2, h3⟩ := step1_fi h hw
  have h0 : RepI D 0 := rep0 D (infV_pos D)
  unfold partF
  rw [(cmp_fin h1 fin0).2.2.1, sV0]
  by_cases c : sV D (step1 x) < 0
  · rw [if_pos (by simpa using c)]
    exact FI.add (FI.self h1) (c := (P 1074 : Int)) (d := (P 1074 : Int)) ⟨fin64 (by decide), by rw [one74]; omega, by rw [one74]; omega⟩ h0 (repP (by omega)) (by omega) (by omega)
  · rw [if_neg (by simpa using c)]
    exact ⟨h1, by omega, h3⟩

/-! ### Quarters -/
def phF (F : Nat) : Nat → Nat
  | 0 => F
  | j + 1 => fop .sub .f64 (phF F j) wQuarter
theorem quarter72 : sV D wQuarter = (P 1072 : Int) := by decide +kernel
theorem finQuarter : fin D wQuarter := fin64 (by decide)
theorem rep72 (j : Nat) (hj : j ≤ 4) : RepI D ((j * P 1072 : Nat) : Int) := by
  refine ⟨⟨j, 1072, by rw [Int.natAbs_natCast]; rfl, ?_⟩, ?_⟩
  · have : (2 : Nat) ^ (D.fractionBits + 1) = 9007199254740992 := by decide +kernel
    omega
  · rw [Int.natAbs_natCast]
    refine Nat.lt_of_le_of_lt (Nat.mul_le_mul_right _ hj) ?_
    decide +kernel
/-- Each quarter so far was there. -/
def Ex (F j : Nat) : Prop := ∀ i, i < j → cmpF .geq .f64 (phF F i) wQuarter = true
theorem Ex.zero (F : Nat) : Ex F 0 := fun i h => absurd h (by omega)
theorem Ex.succ {F j : Nat} (h : Ex F j) (h1 : cmpF .geq .f64 (phF F j) wQuarter = true) : Ex F (j + 1) := fun i hi => by
  by_cases e : i = j
  · subst e; exact h1
  · exact h i (by omega)
theorem Ex.unique {F j i : Nat} (h1 : Ex F j) (h2 : cmpF .geq .f64 (phF F j) wQuarter = false) (g1 : Ex F i) (g2 : cmpF .geq .f64 (phF F i) wQuarter = false) : j = i := by
  rcases Nat.lt_trichotomy j i with h | h | h
  · have := g1 j h; rw [this] at h2; cases h2
  · exact h
  · have := h1 i h; rw [this] at g2; cases g2
theorem phF_fi {F : Nat} (h : FI F 0 (P 1074)) : ∀ j, Ex F j → j ≤ 4 ∧ FI (phF F j) 0 (((4 - j) * P 1072 : Nat) : Int) := by
  intro j
  induction j with
  | zero =>
    intro _
    have e0 : P 1074 = P 1072 * P 2 := P_add 1072 2
    have e2 : P 2 = 4 := by decide
    have e : P 1074 = 4 * P 1072 := by rw [e0, e2, Nat.mul_comm]
    exact ⟨by omega, h.1, h.2.1, by rw [show (4 - 0) * P 1072 = P 1074 by omega]; exact h.2.2⟩
  | succ j ih =>
    intro hE
    obtain ⟨hj, hf⟩ := ih (fun i hi => hE i (by omega))
    have ht := hE j (by omega)
    rw [(cmp_fin hf.1 finQuarter).2.2.2.2.2, quarter72] at ht
    have ht' : (P 1072 : Int) ≤ sV D (phF F j) := by simpa using ht
    have hP : (0 : Int) < (P 1072 : Int) := by exact_mod_cast P_pos _
    have hj4 : j < 4 := by
      rcases Nat.lt_or_ge j 4 with g | g
      · exact g
      · exfalso
        have e : j = 4 := by omega
        have h2 := hf.2.2
        rw [e] at h2 ht'
        simp at h2
        omega
    have e : (4 - j) * P 1072 = (4 - (j + 1)) * P 1072 + P 1072 := by
      rw [show 4 - j = (4 - (j + 1)) + 1 by omega, Nat.add_mul, Nat.one_mul]
    refine ⟨by omega, ?_⟩
    have h2 := hf.2.2
    rw [e] at h2
    exact FI.sub (lo := 0) ⟨hf.1, ht', h2⟩ ⟨finQuarter, by rw [quarter72]; exact Int.le_refl _, by rw [quarter72]; exact Int.le_refl _⟩ (rep0 D (infV_pos D)) (rep72 _ (by omega)) (by omega) (by rw [Int.natCast_add]; omega)
/-- What is left, and a quarter less that: both are parts whose sines are taken. -/
theorem phF_left {F j : Nat} (h : FI F 0 (P 1074)) (hE : Ex F j) (ht : cmpF .geq .f64 (phF F j) wQuarter = false) : FI (phF F j) 0 (P 1072) ∧ FI (fop .sub .f64 wQuarter (phF F j)) 0 (P 1072) := by
  obtain ⟨hj, hf⟩ := phF_fi h j hE
  rw [(cmp_fin hf.1 finQuarter).2.2.2.2.2, quarter72] at ht
  have ht' : sV D (phF F j) < (P 1072 : Int) := by simpa using ht
  have h1 : FI (phF F j) 0 (P 1072) := ⟨hf.1, hf.2.1, by omega⟩
  refine ⟨h1, FI.sub ⟨finQuarter, by rw [quarter72]; exact Int.le_refl _, by rw [quarter72]; exact Int.le_refl _⟩ h1 (rep0 D (infV_pos D)) (repP (by omega)) (by omega) (by omega)⟩
theorem fi_cut {x : Nat} (h : FI x 0 (P 1072)) : cutW x ≤ P 52 ∧ -(P 1126 : Int) < sV D x ∧ sV D x < (P 1126 : Int) := by
  have h1 : (P 1072 : Int) < (P 1126 : Int) := by exact_mod_cast (by decide +kernel : P 1072 < P 1126)
  have hP : (0 : Int) < (P 1072 : Int) := by exact_mod_cast P_pos _
  have hs := h.2.1
  have hs2 := h.2.2
  refine ⟨?_, by omega, by omega⟩
  obtain ⟨b1, _⟩ := cutW_bounds h.1
  have ha : (aV D x : Int) ≤ (P 1072 : Int) := by
    have hq : sV D x = aV D x ∨ sV D x = -(aV D x : Int) := by unfold sV; split <;> simp
    rcases hq with hq | hq <;> omega
  have ha' : aV D x ≤ P 1072 := by exact_mod_cast ha
  have e : P 1126 = P 52 * P 1074 := by rw [← P_add]
  rcases Nat.lt_or_ge (P 52) (cutW x) with g | g
  · exfalso
    have h5 := Nat.mul_le_mul_right (P 1074) (Nat.le_of_lt g)
    have h4 : P 1072 < P 1126 := by exact_mod_cast h1
    rw [← e] at h5
    omega
  · exact g
theorem lt64 {op : BinOp} {x y : Nat} : fop op .f64 x y < 2 ^ 64 := fop_lt op x y
theorem phF_lt {F : Nat} (h : F < 2 ^ 64) (j : Nat) : phF F j < 2 ^ 64 := by
  cases j with
  | zero => exact h
  | succ j => exact fop_lt _ _ _

/-! ### The two parts -/
def phC (F j : Nat) : Nat := sinF (partF (fop .sub .f64 wQuarter (phF F j)))
def phS (F j : Nat) : Nat := sinF (partF (phF F j))
def phRe (F j : Nat) : Nat := if j = 1 then fop .sub .f64 0 (phS F j) else if j = 2 then fop .sub .f64 0 (phC F j) else if j = 3 then phS F j else phC F j
def phIm (F j : Nat) : Nat := if j = 1 then phC F j else if j = 2 then fop .sub .f64 0 (phS F j) else if j = 3 then fop .sub .f64 0 (phC F j) else phS F j
theorem sz0 : Sz 0 1191 := by
  have h : (0 : Int) < (P 1191 : Int) := by exact_mod_cast P_pos _
  exact .inr ⟨fin0, by rw [sV0]; omega, by rw [sV0]; omega⟩
theorem ph_sz {F j : Nat} (h : FI F 0 (P 1074)) (hE : Ex F j) (ht : cmpF .geq .f64 (phF F j) wQuarter = false) : Sz (phC F j) 1191 ∧ Sz (phS F j) 1191 := by
  obtain ⟨h1, h2⟩ := phF_left h hE ht
  exact ⟨sz_sinF (partF_sz h2.1 (fi_cut h2).1), sz_sinF (partF_sz h1.1 (fi_cut h1).1)⟩
theorem ovf_sub0 {x : Nat} (h : Sz x 1191) : ovf .f64 .f32 (fop .sub .f64 0 x) = false := In.ovf (Sz.sub sz0 h rfl (by omega)) (by omega)
theorem ovf_self {x : Nat} (h : Sz x 1191) : ovf .f64 .f32 x = false := In.ovf h (by omega)
end Go.Proofs.Ythbinacchpjkmaa.Fl
