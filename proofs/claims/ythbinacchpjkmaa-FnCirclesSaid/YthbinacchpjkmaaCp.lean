/- Plain facts: products of phasors of 64ths of turns are nearly those of the sum, by bounds. No program in sight. -/
import Derived.Test.YthbinacchpjkmaaCd
import Derived.Test.YthbinacchpjkmaaCb
set_option linter.unusedSimpArgs false
set_option linter.unusedVariables false
set_option maxRecDepth 100000
namespace Go.Proofs.Ythbinacchpjkmaa.Wk
open Go.RowKit Fl

def RIl : List (Int × Int) := [(16777216, 16777217), (16696429, 16696430), (16454846, 16454847), (16054795, 16054796), (15500126, 15500127), (14796184, 14796185), (13949745, 13949746), (12968963, 12968964), (11863283, 11863284), (10643353, 10643354), (9320922, 9320923), (7908725, 7908726), (6420362, 6420363), (4870168, 4870169), (3273072, 3273073), (1644454, 1644455), (0, 1), (-1644455, -1644454), (-3273073, -3273072), (-4870169, -4870168), (-6420363, -6420362), (-7908725, -7908724), (-9320922, -9320921), (-10643353, -10643352), (-11863283, -11863282), (-12968963, -12968962), (-13949745, -13949744), (-14796184, -14796183), (-15500126, -15500125), (-16054795, -16054794), (-16454846, -16454845), (-16696429, -16696428), (-16777216, -16777215), (-16696429, -16696428), (-16454846, -16454845), (-16054795, -16054794), (-15500126, -15500125), (-14796184, -14796183), (-13949745, -13949744), (-12968963, -12968962), (-11863283, -11863282), (-10643353, -10643352), (-9320922, -9320921), (-7908725, -7908724), (-6420363, -6420362), (-4870169, -4870168), (-3273073, -3273072), (-1644455, -1644454), (0, 1), (1644454, 1644455), (3273072, 3273073), (4870168, 4870169), (6420362, 6420363), (7908725, 7908726), (9320922, 9320923), (10643353, 10643354), (11863283, 11863284), (12968963, 12968964), (13949745, 13949746), (14796184, 14796185), (15500126, 15500127), (16054795, 16054796), (16454846, 16454847), (16696429, 16696430)]
def IIl : List (Int × Int) := [(0, 1), (1644454, 1644455), (3273072, 3273073), (4870168, 4870169), (6420362, 6420363), (7908725, 7908726), (9320922, 9320923), (10643353, 10643354), (11863283, 11863284), (12968963, 12968964), (13949745, 13949746), (14796184, 14796185), (15500126, 15500127), (16054795, 16054796), (16454846, 16454847), (16696429, 16696430), (16777216, 16777217), (16696429, 16696430), (16454846, 16454847), (16054795, 16054796), (15500126, 15500127), (14796184, 14796185), (13949745, 13949746), (12968963, 12968964), (11863283, 11863284), (10643353, 10643354), (9320922, 9320923), (7908725, 7908726), (6420362, 6420363), (4870168, 4870169), (3273072, 3273073), (1644454, 1644455), (0, 1), (-1644455, -1644454), (-3273073, -3273072), (-4870169, -4870168), (-6420363, -6420362), (-7908725, -7908724), (-9320922, -9320921), (-10643353, -10643352), (-11863283, -11863282), (-12968963, -12968962), (-13949745, -13949744), (-14796184, -14796183), (-15500126, -15500125), (-16054795, -16054794), (-16454846, -16454845), (-16696429, -16696428), (-16777216, -16777215), (-16696429, -16696428), (-16454846, -16454845), (-16054795, -16054794), (-15500126, -15500125), (-14796184, -14796183), (-13949745, -13949744), (-12968963, -12968962), (-11863283, -11863282), (-10643353, -10643352), (-9320922, -9320921), (-7908725, -7908724), (-6420363, -6420362), (-4870169, -4870168), (-3273073, -3273072), (-1644455, -1644454)]
def RI (k : Nat) : Int × Int := RIl.getD k (0, 0)
def II (k : Nat) : Int × Int := IIl.getD k (0, 0)
def ivB (x : Nat) (i : Int × Int) : Bool := decide (x % 9223372036854775808 < 9218868437227405312) && decide (i.1 * (P 1050 : Int) ≤ sV D x) && decide (sV D x ≤ i.2 * (P 1050 : Int))
def ivsOK (k : Nat) : Bool := ivB (wideF (PR k)) (RI k) && ivB (wideF (PI k)) (II k)
theorem ivs_ok : (List.range 64).all ivsOK = true := by decide +kernel
theorem iv_re {k : Nat} (h : k < 64) : IV (wideF (PR k)) (RI k) := by
  have := all_lt ivs_ok h
  unfold ivsOK at this
  rw [Bool.and_eq_true] at this
  exact IV.const this.1
theorem iv_im {k : Nat} (h : k < 64) : IV (wideF (PI k)) (II k) := by
  have := all_lt ivs_ok h
  unfold ivsOK at this
  rw [Bool.and_eq_true] at this
  exact IV.const this.2
def subI (a b : Int × Int) : Option (Int × Int) := ck (a.1 - b.2) (a.2 - b.1)
theorem IV.sub {x y : Nat} {a b c : Int × Int} (hx : IV x a) (hy : IV y b) (h : subI a b = some c) : IV (fop .sub .f64 x y) c := by
  obtain ⟨rfl, h1, h2⟩ := ck_some h
  exact FI.sub hx hy (repU h1) (repU h2) (by dsimp only; rw [Int.sub_mul]; exact Int.le_refl _) (by dsimp only; rw [Int.sub_mul]; exact Int.le_refl _)
/-- Narrowed: bounds in units of 2^-22. -/
def narI (a : Int × Int) : Option (Int × Int) := if (a.1 / 4).natAbs < 8388608 ∧ (a.2 / 4 + 1).natAbs < 8388608 then some (a.1 / 4 * 4, (a.2 / 4 + 1) * 4) else none
theorem repS22 {n : Int} (h : n.natAbs < 8388608) : RepI S (n * (P 127 : Int)) := by
  have hf : (2 : Nat) ^ (S.fractionBits + 1) = 16777216 := by decide +kernel
  have hM : P 23 = 8388608 := by decide
  have e : (n * (P 127 : Int)).natAbs = n.natAbs * P 127 := by rw [Int.natAbs_mul, Int.natAbs_natCast]
  refine ⟨⟨n.natAbs, 127, by rw [e]; rfl, by rw [hf]; omega⟩, ?_⟩
  rw [e]
  refine Nat.lt_of_lt_of_le (Nat.mul_lt_mul_of_pos_right h (P_pos 127)) ?_
  rw [← hM, ← P_add]
  decide +kernel
theorem IV.narrow {x : Nat} {a c : Int × Int} (hx : IV x a) (h : narI a = some c) : fin S (cop .f64 .f32 x) ∧ IV (wideF (cop .f64 .f32 x)) c := by
  unfold narI at h
  split at h
  · rename_i hb
    cases h
    obtain ⟨hf, x1, x2⟩ := hx
    have e52 : (P 127 : Int) * ((P 925 : Nat) : Int) = 4 * (P 1050 : Int) := by
      have h1 : P 127 * P 925 = P 1052 := by rw [← P_add]
      have h2 : P 1052 = P 1051 + P 1051 := P_half 1051
      have h3 : P 1051 = P 1050 + P 1050 := P_half 1050
      rw [← Int.natCast_mul, h1]
      generalize P 1052 = A at *
      generalize P 1051 = B at *
      generalize P 1050 = C at *
      omega
    have hT : (0 : Int) ≤ (P 1050 : Int) := Int.natCast_nonneg _
    have l1 : a.1 / 4 * 4 ≤ a.1 := Int.ediv_mul_le _ (by decide)
    have l2 : a.2 < (a.2 / 4 + 1) * 4 := Int.lt_ediv_add_one_mul_self _ (by decide)
    obtain ⟨r, g1, g2, g3, g4⟩ := narrow_bounds hf _ _ (repS22 hb.1) (repS22 hb.2)
      (by rw [Int.mul_assoc, e52, ← Int.mul_assoc]; exact Int.le_trans (Int.mul_le_mul_of_nonneg_right l1 hT) x1)
      (by rw [Int.mul_assoc, e52, ← Int.mul_assoc]; exact Int.le_trans x2 (Int.mul_le_mul_of_nonneg_right (Int.le_of_lt l2) hT))
    have hr : cop .f64 .f32 x = r := by unfold cop; rw [g1]; exact can_of_not (fin_not_nan (k := .f32) g2)
    rw [hr]
    refine ⟨g2, ?_⟩
    obtain ⟨w1, _⟩ := wide_fin g2
    have hw : sV D (wideF r) = sV S r * ((P 925 : Nat) : Int) := by
      obtain ⟨q, q1, q2, q3⟩ := widen g2
      have : wideF r = q := by
        unfold wideF
        rw [can_of_not (fin_not_nan (k := .f32) g2)]
        unfold cop; rw [q1]; exact can_of_not (fin_not_nan (k := .f64) q2)
      rw [this, q3]
    have h925 : (0 : Int) ≤ ((P 925 : Nat) : Int) := Int.natCast_nonneg _
    refine ⟨w1, ?_, ?_⟩
    · dsimp only
      rw [hw, Int.mul_assoc, ← e52, ← Int.mul_assoc]
      exact Int.mul_le_mul_of_nonneg_right g3 h925
    · dsimp only
      rw [hw, Int.mul_assoc, ← e52, ← Int.mul_assoc]
      exact Int.mul_le_mul_of_nonneg_right g4 h925
  · cases h
def gapI (a b : Int × Int) : Bool := decide ((a.1 - b.2).natAbs < 9007199254740992) && decide ((a.2 - b.1).natAbs < 1678) && decide ((b.1 - a.2).natAbs < 9007199254740992) && decide ((b.2 - a.1).natAbs < 1678)
theorem v4 : 1677 * (P 1050 : Int) < sV D w4 := by decide +kernel
/-- The gap is small. -/
theorem gap_lt {x y : Nat} {a b : Int × Int} (hx : IV x a) (hy : IV y b) (h : gapI a b = true) : fin D (gapF x y) ∧ FloatKind.f64.format.order (gapF x y) w4 = some .lt := by
  unfold gapI at h
  simp only [Bool.and_eq_true, decide_eq_true_eq] at h
  obtain ⟨⟨⟨h1, h2⟩, h3⟩, h4⟩ := h
  have key : ∀ g c, IV g c → c.2.natAbs < 1678 → fin D g ∧ FloatKind.f64.format.order g w4 = some .lt := by
    intro g c hg hc
    obtain ⟨g1, g2, g3⟩ := hg
    refine ⟨g1, ?_⟩
    rw [show FloatKind.f64.format.order g w4 = _ from order_fin D g1 (fin64 (by decide))]
    simp only [compare, compareOfLessAndEq]
    have hT : (0 : Int) ≤ (P 1050 : Int) := Int.natCast_nonneg _
    have := Int.mul_le_mul_of_nonneg_right (show c.2 ≤ 1677 by omega) hT
    have h9 := v4
    rw [if_pos (by omega)]
  unfold gapF
  split
  · exact key _ (b.1 - a.2, b.2 - a.1) (IV.sub hy hx (by unfold subI ck; rw [if_pos ⟨h3, by omega⟩])) h4
  · exact key _ (a.1 - b.2, a.2 - b.1) (IV.sub hx hy (by unfold subI ck; rw [if_pos ⟨h1, by omega⟩])) h2
def mR (k l : Nat) : Nat := fop .sub .f64 (fop .mul .f64 (wideF (PR k)) (wideF (PR l))) (fop .mul .f64 (wideF (PI k)) (wideF (PI l)))
def mI (k l : Nat) : Nat := fop .add .f64 (fop .mul .f64 (wideF (PR k)) (wideF (PI l))) (fop .mul .f64 (wideF (PI k)) (wideF (PR l)))
def proR (k l : Nat) : Option (Int × Int) := (mulI (RI k) (RI l)).bind fun a => (mulI (II k) (II l)).bind fun b => (subI a b).bind fun c => narI c
def proI (k l : Nat) : Option (Int × Int) := (mulI (RI k) (II l)).bind fun a => (mulI (II k) (RI l)).bind fun b => (addI a b).bind fun c => narI c
def proOK (k l : Nat) : Bool := (match proR k l with | some c => gapI c (RI ((k + l) % 64)) | none => false) && (match proI k l with | some c => gapI c (II ((k + l) % 64)) | none => false)
theorem pro_ok : (List.range 64).all (fun k => (List.range 64).all (proOK k)) = true := by decide +kernel
theorem sz_of {x : Nat} {a : Int × Int} (h : IV x a) (h1 : a.1.natAbs < 9007199254740992) (h2 : a.2.natAbs < 9007199254740992) : In x (-(P 1103 : Int)) (P 1103) := by
  obtain ⟨f, g1, g2⟩ := h
  have hM : P 53 = 9007199254740992 := by decide
  have e : P 1103 = P 53 * P 1050 := by rw [← P_add]
  rw [hM] at e
  have hT : (0 : Int) ≤ (P 1050 : Int) := Int.natCast_nonneg _
  have u1 := Int.mul_le_mul_of_nonneg_right (show -9007199254740992 ≤ a.1 by omega) hT
  have u2 := Int.mul_le_mul_of_nonneg_right (show a.2 ≤ 9007199254740992 by omega) hT
  refine .inr ⟨f, ?_, ?_⟩ <;> generalize P 1103 = A at * <;> generalize P 1050 = B at * <;> omega
/-- The product is nearly the phasor of the sum. -/
theorem pro_near {k l : Nat} (hk : k < 64) (hl : l < 64) :
    (ovf .f64 .f32 (mR k l) = false ∧ fin S (cop .f64 .f32 (mR k l)) ∧ fin D (gapF (wideF (cop .f64 .f32 (mR k l))) (wideF (PR ((k + l) % 64)))) ∧ FloatKind.f64.format.order (gapF (wideF (cop .f64 .f32 (mR k l))) (wideF (PR ((k + l) % 64)))) w4 = some .lt) ∧
    (ovf .f64 .f32 (mI k l) = false ∧ fin S (cop .f64 .f32 (mI k l)) ∧ fin D (gapF (wideF (cop .f64 .f32 (mI k l))) (wideF (PI ((k + l) % 64)))) ∧ FloatKind.f64.format.order (gapF (wideF (cop .f64 .f32 (mI k l))) (wideF (PI ((k + l) % 64)))) w4 = some .lt) := by
  have h := all_lt (all_lt pro_ok hk) hl
  unfold proOK at h
  rw [Bool.and_eq_true] at h
  have hkl : (k + l) % 64 < 64 := Nat.mod_lt _ (by decide)
  constructor
  · have h1 := h.1
    cases hp : proR k l with
    | none => rw [hp] at h1; cases h1
    | some c =>
      rw [hp] at h1
      unfold proR at hp
      obtain ⟨a, e1, hp⟩ := Option.bind_eq_some_iff.1 hp
      obtain ⟨b, e2, hp⟩ := Option.bind_eq_some_iff.1 hp
      obtain ⟨d, e3, hp⟩ := Option.bind_eq_some_iff.1 hp
      have hi : IV (mR k l) d := IV.sub (IV.mul (iv_re hk) (iv_re hl) e1) (IV.mul (iv_im hk) (iv_im hl) e2) e3
      obtain ⟨f1, f2⟩ := IV.narrow hi hp
      obtain ⟨g1, g2⟩ := gap_lt f2 (iv_re hkl) h1
      obtain ⟨e4, q1, q2⟩ := ck_some e3
      exact ⟨In.ovf (sz_of hi (by rw [e4]; exact q1) (by rw [e4]; exact q2)) (by omega), f1, g1, g2⟩
  · have h1 := h.2
    cases hp : proI k l with
    | none => rw [hp] at h1; cases h1
    | some c =>
      rw [hp] at h1
      unfold proI at hp
      obtain ⟨a, e1, hp⟩ := Option.bind_eq_some_iff.1 hp
      obtain ⟨b, e2, hp⟩ := Option.bind_eq_some_iff.1 hp
      obtain ⟨d, e3, hp⟩ := Option.bind_eq_some_iff.1 hp
      have hi : IV (mI k l) d := IV.add (IV.mul (iv_re hk) (iv_im hl) e1) (IV.mul (iv_im hk) (iv_re hl) e2) e3
      obtain ⟨f1, f2⟩ := IV.narrow hi hp
      obtain ⟨g1, g2⟩ := gap_lt f2 (iv_im hkl) h1
      obtain ⟨e4, q1, q2⟩ := ck_some e3
      exact ⟨In.ovf (sz_of hi (by rw [e4]; exact q1) (by rw [e4]; exact q2)) (by omega), f1, g1, g2⟩
end Go.Proofs.Ythbinacchpjkmaa.Wk
