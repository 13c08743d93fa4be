/- The walks of the sine itself, of the program's and of the reference's. -/
import Derived.Test.YthbinacchpjkmaaSf
set_option linter.unusedSimpArgs false
set_option linter.unusedVariables false
namespace Go.Proofs.Ythbinacchpjkmaa.Wk
open Go.RowKit Fl

/-! ### int64(x) and back -/
theorem trunc_int {x : Nat} (h : fin D x) (hw : cutW x ≤ P 52) : floatToIntVal .f64 x .i64 = some (toI x) := by
  obtain ⟨m, p, e, _⟩ := read_fin D h
  have e0 : FloatKind.f64.decode x = .number (sgn D x) m p := e
  have e1 : (FloatKind.f64.decode x).toInt .zero = some (toI x) := by
    rw [e0]
    unfold toI cutW
    rw [e]
    simp only [Ieee.Datum.toInt, Ieee.Datum.integral, signed_eq, Nat.pow_zero, Nat.mul_one]
  unfold floatToIntVal
  rw [e1]
  simp only
  have hP : P 52 = 4503599627370496 := by decide
  rw [if_pos]
  have hm : IntKind.min .i64 = -9223372036854775808 := by decide
  have hM : IntKind.max .i64 = 9223372036854775807 := by decide
  rw [hm, hM]
  unfold toI
  split <;> omega

set_option maxHeartbeats 3200000 in
theorem specSineWide (x : Nat) (hx : x < 2 ^ 64) (h : fin D x) (hlo : -(P 1126 : Int) < sV D x) (hhi : sV D x < (P 1126 : Int)) (hw : cutW x ≤ P 52) (w : World) :
    Calls Try.prog 71 #[.float .f64 x] w fun e w' => ∃ r n, e = .returned (.float .f64 r) ∧ can .f64 r = sinF (partF x) ∧ w' = w.drewN n := by
  have hcx : can .f64 x = x := can_of_not (fin_not_nan (k := .f64) h)
  have hst : fop .sub .f64 x (can .f64 (floatOfInt .f64 (toI x))) = step1 x := (step1_eq hx h hw).symm
  have hz0 : cmpF .neq .f64 (fop .sub .f64 x x) 0 = false := by
    obtain ⟨r, e, hf, r1, r2⟩ := sub_bounds D ebD h h 0 0 (rep0 D (infV_pos D)) (rep0 D (infV_pos D)) (by omega) (by omega)
    rw [fop_some (op := .sub) e hf, (cmp_fin hf fin0).2.1, sV0]
    simp; omega
  have hW : sV D 4841369599423283200 = (P 1126 : Int) := by decide +kernel
  have hWn : sV D 14064741636278059008 = -(P 1126 : Int) := by decide +kernel
  have o1 : FloatKind.f64.format.order x 4841369599423283200 = some .lt := by
    rw [show FloatKind.f64.format.order x 4841369599423283200 = _ from order_fin D h (fin64 (by decide)), hW]
    simp only [compare, compareOfLessAndEq]; rw [if_pos hhi]
  have o2 : FloatKind.f64.format.order x 14064741636278059008 = some .gt := by
    rw [show FloatKind.f64.format.order x 14064741636278059008 = _ from order_fin D h (fin64 (by decide)), hWn]
    simp only [compare, compareOfLessAndEq]; rw [if_neg (by omega), if_neg (by omega)]
  have o1' : cmpF .geq .f64 x 4841369599423283200 = false := by unfold cmpF; rw [o1]; rfl
  have o2' : cmpF .leq .f64 x 14064741636278059008 = false := by unfold cmpF; rw [o2]; rfl
  have hcv := fun w => run_convert_float_int (P := Try.prog) w 30 2 .f64 .i64 x (toI x) (by kernel_rfl) Try.underlying2 (trunc_int h hw)
  have k0 := c0
  have k1 := cOne
  have k2 := cHalf
  have k3 := cQuarter
  have k4 := cTurn
  have k5 := cWhole
  have k6 := cWholeNeg
  by_cases t3 : cmpF .lss .f64 (step1 x) 0 = true
  · have hF : fop .add .f64 (step1 x) 4607182418800017408 = partF x := by unfold partF; rw [if_pos t3]
    clear h hw hx hlo hhi hW hWn
    generalize partF x = F at *
    by_cases t1 : cmpF .geq .f64 F 4602678819172646912 = true
    · by_cases t2 : cmpF .gtr .f64 (fop .sub .f64 F 4602678819172646912) 4598175219545276416 = true
      · skip
        have hz : fop .mul .f64 (fop .sub .f64 4602678819172646912 (fop .sub .f64 F 4602678819172646912)) 4618760256179416344 = sinZ F := by unfold sinZ; rw [show sin1 F = (fop .sub .f64 F 4602678819172646912) by unfold sin1; rw [t1]; rfl, show sin2 (fop .sub .f64 F 4602678819172646912) = (fop .sub .f64 4602678819172646912 (fop .sub .f64 F 4602678819172646912)) by unfold sin2; rw [t2]; rfl]
        have hv := Lib.hid (show sinF F = fneg .f64 (sinR (sinZ F)) by unfold sinF; rw [t1]; rfl)
        go_enter Try.func71, Try.ntmps71
        go_wp2_with (first | (refine wpList_fl _ rfl .add (by simp) _ _ _ _ _ _ _ rfl rfl rfl ?_; intro r n hr) | (refine wpList_fl _ rfl .sub (by simp) _ _ _ _ _ _ _ rfl rfl rfl ?_; intro r n hr) | (refine wpList_fl _ rfl .mul (by simp) _ _ _ _ _ _ _ rfl rfl rfl ?_; intro r n hr) | (refine wpList_fl _ rfl .quo (by simp) _ _ _ _ _ _ _ rfl rfl rfl ?_; intro r n hr) | (refine wpList_cmp _ rfl .lss (by simp) _ _ _ _ _ _ _ rfl rfl rfl ?_; try simp only [*]) | (refine wpList_cmp _ rfl .geq (by simp) _ _ _ _ _ _ _ rfl rfl rfl ?_; try simp only [*]) | (refine wpList_cmp _ rfl .gtr (by simp) _ _ _ _ _ _ _ rfl rfl rfl ?_; try simp only [*]) | (refine wpList_cmp _ rfl .neq (by simp) _ _ _ _ _ _ _ rfl rfl rfl ?_; try simp only [*]) | (refine wpList_cmp _ rfl .eql (by simp) _ _ _ _ _ _ _ rfl rfl rfl ?_; try simp only [*]) | (refine wpList_cmp _ rfl .leq (by simp) _ _ _ _ _ _ _ rfl rfl rfl ?_; try simp only [*]) | (refine wpList_neg _ rfl _ _ _ _ rfl rfl ?_; intro r hr))
        go_loopw [7, 8] (fun p k wr => ∃ (j r m : Nat), j ≤ 8 ∧ k = .int .i64 (8 - (j : Int)) ∧ p = .float .f64 r ∧ can .f64 r = sinP (fop .mul .f64 (sinZ F) (sinZ F)) j ∧ wr = w.drewN m) (fun _ k _ => (intOf k).toNat)
        case atStart => exact ⟨0, _, _, by omega, rfl, rfl, cOne, rfl⟩
        case round =>
          obtain ⟨j, r, m, hj, rfl, rfl, hp, rfl⟩ := hrel
          by_cases hlt : j < 8
          · have hge : (1 : Int) ≤ 8 - (j : Int) := by omega
            have hq := wrapK j hlt
            go_wp2_with (first | (refine wpList_fl _ rfl .add (by simp) _ _ _ _ _ _ _ rfl rfl rfl ?_; intro r n hr) | (refine wpList_fl _ rfl .sub (by simp) _ _ _ _ _ _ _ rfl rfl rfl ?_; intro r n hr) | (refine wpList_fl _ rfl .mul (by simp) _ _ _ _ _ _ _ rfl rfl rfl ?_; intro r n hr) | (refine wpList_fl _ rfl .quo (by simp) _ _ _ _ _ _ _ rfl rfl rfl ?_; intro r n hr) | (refine wpList_cmp _ rfl .lss (by simp) _ _ _ _ _ _ _ rfl rfl rfl ?_; try simp only [*]) | (refine wpList_cmp _ rfl .geq (by simp) _ _ _ _ _ _ _ rfl rfl rfl ?_; try simp only [*]) | (refine wpList_cmp _ rfl .gtr (by simp) _ _ _ _ _ _ _ rfl rfl rfl ?_; try simp only [*]) | (refine wpList_cmp _ rfl .neq (by simp) _ _ _ _ _ _ _ rfl rfl rfl ?_; try simp only [*]) | (refine wpList_cmp _ rfl .eql (by simp) _ _ _ _ _ _ _ rfl rfl rfl ?_; try simp only [*]) | (refine wpList_cmp _ rfl .leq (by simp) _ _ _ _ _ _ _ rfl rfl rfl ?_; try simp only [*]) | (refine wpList_neg _ rfl _ _ _ _ rfl rfl ?_; intro r hr))
            go_roundw
            case rel => exact ⟨j + 1, _, _, by omega, by go_num, rfl, by simp only [sinP, wOne, *], rfl⟩
            case measure => simp [intOf]; omega
          · obtain rfl : j = 8 := by omega
            go_wp2_with (first | (refine wpList_fl _ rfl .add (by simp) _ _ _ _ _ _ _ rfl rfl rfl ?_; intro r n hr) | (refine wpList_fl _ rfl .sub (by simp) _ _ _ _ _ _ _ rfl rfl rfl ?_; intro r n hr) | (refine wpList_fl _ rfl .mul (by simp) _ _ _ _ _ _ _ rfl rfl rfl ?_; intro r n hr) | (refine wpList_fl _ rfl .quo (by simp) _ _ _ _ _ _ _ rfl rfl rfl ?_; intro r n hr) | (refine wpList_cmp _ rfl .lss (by simp) _ _ _ _ _ _ _ rfl rfl rfl ?_; try simp only [*]) | (refine wpList_cmp _ rfl .geq (by simp) _ _ _ _ _ _ _ rfl rfl rfl ?_; try simp only [*]) | (refine wpList_cmp _ rfl .gtr (by simp) _ _ _ _ _ _ _ rfl rfl rfl ?_; try simp only [*]) | (refine wpList_cmp _ rfl .neq (by simp) _ _ _ _ _ _ _ rfl rfl rfl ?_; try simp only [*]) | (refine wpList_cmp _ rfl .eql (by simp) _ _ _ _ _ _ _ rfl rfl rfl ?_; try simp only [*]) | (refine wpList_cmp _ rfl .leq (by simp) _ _ _ _ _ _ _ rfl rfl rfl ?_; try simp only [*]) | (refine wpList_neg _ rfl _ _ _ _ rfl rfl ?_; intro r hr))
            go_ret
            exact ⟨_, _, rfl, by rw [hv.out]; unfold sinR; simp only [*], rfl⟩
      · simp only [Bool.not_eq_true] at t2
        have hz : fop .mul .f64 (fop .sub .f64 F 4602678819172646912) 4618760256179416344 = sinZ F := by unfold sinZ; rw [show sin1 F = (fop .sub .f64 F 4602678819172646912) by unfold sin1; rw [t1]; rfl, show sin2 (fop .sub .f64 F 4602678819172646912) = (fop .sub .f64 F 4602678819172646912) by unfold sin2; rw [t2]; rfl]
        have hv := Lib.hid (show sinF F = fneg .f64 (sinR (sinZ F)) by unfold sinF; rw [t1]; rfl)
        go_enter Try.func71, Try.ntmps71
        go_wp2_with (first | (refine wpList_fl _ rfl .add (by simp) _ _ _ _ _ _ _ rfl rfl rfl ?_; intro r n hr) | (refine wpList_fl _ rfl .sub (by simp) _ _ _ _ _ _ _ rfl rfl rfl ?_; intro r n hr) | (refine wpList_fl _ rfl .mul (by simp) _ _ _ _ _ _ _ rfl rfl rfl ?_; intro r n hr) | (refine wpList_fl _ rfl .quo (by simp) _ _ _ _ _ _ _ rfl rfl rfl ?_; intro r n hr) | (refine wpList_cmp _ rfl .lss (by simp) _ _ _ _ _ _ _ rfl rfl rfl ?_; try simp only [*]) | (refine wpList_cmp _ rfl .geq (by simp) _ _ _ _ _ _ _ rfl rfl rfl ?_; try simp only [*]) | (refine wpList_cmp _ rfl .gtr (by simp) _ _ _ _ _ _ _ rfl rfl rfl ?_; try simp only [*]) | (refine wpList_cmp _ rfl .neq (by simp) _ _ _ _ _ _ _ rfl rfl rfl ?_; try simp only [*]) | (refine wpList_cmp _ rfl .eql (by simp) _ _ _ _ _ _ _ rfl rfl rfl ?_; try simp only [*]) | (refine wpList_cmp _ rfl .leq (by simp) _ _ _ _ _ _ _ rfl rfl rfl ?_; try simp only [*]) | (refine wpList_neg _ rfl _ _ _ _ rfl rfl ?_; intro r hr))
        go_loopw [7, 8] (fun p k wr => ∃ (j r m : Nat), j ≤ 8 ∧ k = .int .i64 (8 - (j : Int)) ∧ p = .float .f64 r ∧ can .f64 r = sinP (fop .mul .f64 (sinZ F) (sinZ F)) j ∧ wr = w.drewN m) (fun _ k _ => (intOf k).toNat)
        case atStart => exact ⟨0, _, _, by omega, rfl, rfl, cOne, rfl⟩
        case round =>
          obtain ⟨j, r, m, hj, rfl, rfl, hp, rfl⟩ := hrel
          by_cases hlt : j < 8
          · have hge : (1 : Int) ≤ 8 - (j : Int) := by omega
            have hq := wrapK j hlt
            go_wp2_with (first | (refine wpList_fl _ rfl .add (by simp) _ _ _ _ _ _ _ rfl rfl rfl ?_; intro r n hr) | (refine wpList_fl _ rfl .sub (by simp) _ _ _ _ _ _ _ rfl rfl rfl ?_; intro r n hr) | (refine wpList_fl _ rfl .mul (by simp) _ _ _ _ _ _ _ rfl rfl rfl ?_; intro r n hr) | (refine wpList_fl _ rfl .quo (by simp) _ _ _ _ _ _ _ rfl rfl rfl ?_; intro r n hr) | (refine wpList_cmp _ rfl .lss (by simp) _ _ _ _ _ _ _ rfl rfl rfl ?_; try simp only [*]) | (refine wpList_cmp _ rfl .geq (by simp) _ _ _ _ _ _ _ rfl rfl rfl ?_; try simp only [*]) | (refine wpList_cmp _ rfl .gtr (by simp) _ _ _ _ _ _ _ rfl rfl rfl ?_; try simp only [*]) | (refine wpList_cmp _ rfl .neq (by simp) _ _ _ _ _ _ _ rfl rfl rfl ?_; try simp only [*]) | (refine wpList_cmp _ rfl .eql (by simp) _ _ _ _ _ _ _ rfl rfl rfl ?_; try simp only [*]) | (refine wpList_cmp _ rfl .leq (by simp) _ _ _ _ _ _ _ rfl rfl rfl ?_; try simp only [*]) | (refine wpList_neg _ rfl _ _ _ _ rfl rfl ?_; intro r hr))
            go_roundw
            case rel => exact ⟨j + 1, _, _, by omega, by go_num, rfl, by simp only [sinP, wOne, *], rfl⟩
            case measure => simp [intOf]; omega
          · obtain rfl : j = 8 := by omega
            go_wp2_with (first | (refine wpList_fl _ rfl .add (by simp) _ _ _ _ _ _ _ rfl rfl rfl ?_; intro r n hr) | (refine wpList_fl _ rfl .sub (by simp) _ _ _ _ _ _ _ rfl rfl rfl ?_; intro r n hr) | (refine wpList_fl _ rfl .mul (by simp) _ _ _ _ _ _ _ rfl rfl rfl ?_; intro r n hr) | (refine wpList_fl _ rfl .quo (by simp) _ _ _ _ _ _ _ rfl rfl rfl ?_; intro r n hr) | (refine wpList_cmp _ rfl .lss (by simp) _ _ _ _ _ _ _ rfl rfl rfl ?_; try simp only [*]) | (refine wpList_cmp _ rfl .geq (by simp) _ _ _ _ _ _ _ rfl rfl rfl ?_; try simp only [*]) | (refine wpList_cmp _ rfl .gtr (by simp) _ _ _ _ _ _ _ rfl rfl rfl ?_; try simp only [*]) | (refine wpList_cmp _ rfl .neq (by simp) _ _ _ _ _ _ _ rfl rfl rfl ?_; try simp only [*]) | (refine wpList_cmp _ rfl .eql (by simp) _ _ _ _ _ _ _ rfl rfl rfl ?_; try simp only [*]) | (refine wpList_cmp _ rfl .leq (by simp) _ _ _ _ _ _ _ rfl rfl rfl ?_; try simp only [*]) | (refine wpList_neg _ rfl _ _ _ _ rfl rfl ?_; intro r hr))
            go_ret
            exact ⟨_, _, rfl, by rw [hv.out]; unfold sinR; simp only [*], rfl⟩
    · simp only [Bool.not_eq_true] at t1
      by_cases t2 : cmpF .gtr .f64 F 4598175219545276416 = true
      · skip
        have hz : fop .mul .f64 (fop .sub .f64 4602678819172646912 F) 4618760256179416344 = sinZ F := by unfold sinZ; rw [show sin1 F = F by unfold sin1; rw [t1]; rfl, show sin2 F = (fop .sub .f64 4602678819172646912 F) by unfold sin2; rw [t2]; rfl]
        have hv := Lib.hid (show sinF F = sinR (sinZ F) by unfold sinF; rw [t1]; rfl)
        go_enter Try.func71, Try.ntmps71
        go_wp2_with (first | (refine wpList_fl _ rfl .add (by simp) _ _ _ _ _ _ _ rfl rfl rfl ?_; intro r n hr) | (refine wpList_fl _ rfl .sub (by simp) _ _ _ _ _ _ _ rfl rfl rfl ?_; intro r n hr) | (refine wpList_fl _ rfl .mul (by simp) _ _ _ _ _ _ _ rfl rfl rfl ?_; intro r n hr) | (refine wpList_fl _ rfl .quo (by simp) _ _ _ _ _ _ _ rfl rfl rfl ?_; intro r n hr) | (refine wpList_cmp _ rfl .lss (by simp) _ _ _ _ _ _ _ rfl rfl rfl ?_; try simp only [*]) | (refine wpList_cmp _ rfl .geq (by simp) _ _ _ _ _ _ _ rfl rfl rfl ?_; try simp only [*]) | (refine wpList_cmp _ rfl .gtr (by simp) _ _ _ _ _ _ _ rfl rfl rfl ?_; try simp only [*]) | (refine wpList_cmp _ rfl .neq (by simp) _ _ _ _ _ _ _ rfl rfl rfl ?_; try simp only [*]) | (refine wpList_cmp _ rfl .eql (by simp) _ _ _ _ _ _ _ rfl rfl rfl ?_; try simp only [*]) | (refine wpList_cmp _ rfl .leq (by simp) _ _ _ _ _ _ _ rfl rfl rfl ?_; try simp only [*]) | (refine wpList_neg _ rfl _ _ _ _ rfl rfl ?_; intro r hr))
        go_loopw [7, 8] (fun p k wr => ∃ (j r m : Nat), j ≤ 8 ∧ k = .int .i64 (8 - (j : Int)) ∧ p = .float .f64 r ∧ can .f64 r = sinP (fop .mul .f64 (sinZ F) (sinZ F)) j ∧ wr = w.drewN m) (fun _ k _ => (intOf k).toNat)
        case atStart => exact ⟨0, _, _, by omega, rfl, rfl, cOne, rfl⟩
        case round =>
          obtain ⟨j, r, m, hj, rfl, rfl, hp, rfl⟩ := hrel
          by_cases hlt : j < 8
          · have hge : (1 : Int) ≤ 8 - (j : Int) := by omega
            have hq := wrapK j hlt
            go_wp2_with (first | (refine wpList_fl _ rfl .add (by simp) _ _ _ _ _ _ _ rfl rfl rfl ?_; intro r n hr) | (refine wpList_fl _ rfl .sub (by simp) _ _ _ _ _ _ _ rfl rfl rfl ?_; intro r n hr) | (refine wpList_fl _ rfl .mul (by simp) _ _ _ _ _ _ _ rfl rfl rfl ?_; intro r n hr) | (refine wpList_fl _ rfl .quo (by simp) _ _ _ _ _ _ _ rfl rfl rfl ?_; intro r n hr) | (refine wpList_cmp _ rfl .lss (by simp) _ _ _ _ _ _ _ rfl rfl rfl ?_; try simp only [*]) | (refine wpList_cmp _ rfl .geq (by simp) _ _ _ _ _ _ _ rfl rfl rfl ?_; try simp only [*]) | (refine wpList_cmp _ rfl .gtr (by simp) _ _ _ _ _ _ _ rfl rfl rfl ?_; try simp only [*]) | (refine wpList_cmp _ rfl .neq (by simp) _ _ _ _ _ _ _ rfl rfl rfl ?_; try simp only [*]) | (refine wpList_cmp _ rfl .eql (by simp) _ _ _ _ _ _ _ rfl rfl rfl ?_; try simp only [*]) | (refine wpList_cmp _ rfl .leq (by simp) _ _ _ _ _ _ _ rfl rfl rfl ?_; try simp only [*]) | (refine wpList_neg _ rfl _ _ _ _ rfl rfl ?_; intro r hr))
            go_roundw
            case rel => exact ⟨j + 1, _, _, by omega, by go_num, rfl, by simp only [sinP, wOne, *], rfl⟩
            case measure => simp [intOf]; omega
          · obtain rfl : j = 8 := by omega
            go_wp2_with (first | (refine wpList_fl _ rfl .add (by simp) _ _ _ _ _ _ _ rfl rfl rfl ?_; intro r n hr) | (refine wpList_fl _ rfl .sub (by simp) _ _ _ _ _ _ _ rfl rfl rfl ?_; intro r n hr) | (refine wpList_fl _ rfl .mul (by simp) _ _ _ _ _ _ _ rfl rfl rfl ?_; intro r n hr) | (refine wpList_fl _ rfl .quo (by simp) _ _ _ _ _ _ _ rfl rfl rfl ?_; intro r n hr) | (refine wpList_cmp _ rfl .lss (by simp) _ _ _ _ _ _ _ rfl rfl rfl ?_; try simp only [*]) | (refine wpList_cmp _ rfl .geq (by simp) _ _ _ _ _ _ _ rfl rfl rfl ?_; try simp only [*]) | (refine wpList_cmp _ rfl .gtr (by simp) _ _ _ _ _ _ _ rfl rfl rfl ?_; try simp only [*]) | (refine wpList_cmp _ rfl .neq (by simp) _ _ _ _ _ _ _ rfl rfl rfl ?_; try simp only [*]) | (refine wpList_cmp _ rfl .eql (by simp) _ _ _ _ _ _ _ rfl rfl rfl ?_; try simp only [*]) | (refine wpList_cmp _ rfl .leq (by simp) _ _ _ _ _ _ _ rfl rfl rfl ?_; try simp only [*]) | (refine wpList_neg _ rfl _ _ _ _ rfl rfl ?_; intro r hr))
            go_ret
            exact ⟨_, _, rfl, by rw [hv.out]; unfold sinR; simp only [*], rfl⟩
      · simp only [Bool.not_eq_true] at t2
        have hz : fop .mul .f64 F 4618760256179416344 = sinZ F := by unfold sinZ; rw [show sin1 F = F by unfold sin1; rw [t1]; rfl, show sin2 F = F by unfold sin2; rw [t2]; rfl]
        have hv := Lib.hid (show sinF F = sinR (sinZ F) by unfold sinF; rw [t1]; rfl)
        go_enter Try.func71, Try.ntmps71
        go_wp2_with (first | (refine wpList_fl _ rfl .add (by simp) _ _ _ _ _ _ _ rfl rfl rfl ?_; intro r n hr) | (refine wpList_fl _ rfl .sub (by simp) _ _ _ _ _ _ _ rfl rfl rfl ?_; intro r n hr) | (refine wpList_fl _ rfl .mul (by simp) _ _ _ _ _ _ _ rfl rfl rfl ?_; intro r n hr) | (refine wpList_fl _ rfl .quo (by simp) _ _ _ _ _ _ _ rfl rfl rfl ?_; intro r n hr) | (refine wpList_cmp _ rfl .lss (by simp) _ _ _ _ _ _ _ rfl rfl rfl ?_; try simp only [*]) | (refine wpList_cmp _ rfl .geq (by simp) _ _ _ _ _ _ _ rfl rfl rfl ?_; try simp only [*]) | (refine wpList_cmp _ rfl .gtr (by simp) _ _ _ _ _ _ _ rfl rfl rfl ?_; try simp only [*]) | (refine wpList_cmp _ rfl .neq (by simp) _ _ _ _ _ _ _ rfl rfl rfl ?_; try simp only [*]) | (refine wpList_cmp _ rfl .eql (by simp) _ _ _ _ _ _ _ rfl rfl rfl ?_; try simp only [*]) | (refine wpList_cmp _ rfl .leq (by simp) _ _ _ _ _ _ _ rfl rfl rfl ?_; try simp only [*]) | (refine wpList_neg _ rfl _ _ _ _ rfl rfl ?_; intro r hr))
        go_loopw [7, 8] (fun p k wr => ∃ (j r m : Nat), j ≤ 8 ∧ k = .int .i64 (8 - (j : Int)) ∧ p = .float .f64 r ∧ can .f64 r = sinP (fop .mul .f64 (sinZ F) (sinZ F)) j ∧ wr = w.drewN m) (fun _ k _ => (intOf k).toNat)
        case atStart => exact ⟨0, _, _, by omega, rfl, rfl, cOne, rfl⟩
        case round =>
          obtain ⟨j, r, m, hj, rfl, rfl, hp, rfl⟩ := hrel
          by_cases hlt : j < 8
          · have hge : (1 : Int) ≤ 8 - (j : Int) := by omega
            have hq := wrapK j hlt
            go_wp2_with (first | (refine wpList_fl _ rfl .add (by simp) _ _ _ _ _ _ _ rfl rfl rfl ?_; intro r n hr) | (refine wpList_fl _ rfl .sub (by simp) _ _ _ _ _ _ _ rfl rfl rfl ?_; intro r n hr) | (refine wpList_fl _ rfl .mul (by simp) _ _ _ _ _ _ _ rfl rfl rfl ?_; intro r n hr) | (refine wpList_fl _ rfl .quo (by simp) _ _ _ _ _ _ _ rfl rfl rfl ?_; intro r n hr) | (refine wpList_cmp _ rfl .lss (by simp) _ _ _ _ _ _ _ rfl rfl rfl ?_; try simp only [*]) | (refine wpList_cmp _ rfl .geq (by simp) _ _ _ _ _ _ _ rfl rfl rfl ?_; try simp only [*]) | (refine wpList_cmp _ rfl .gtr (by simp) _ _ _ _ _ _ _ rfl rfl rfl ?_; try simp only [*]) | (refine wpList_cmp _ rfl .neq (by simp) _ _ _ _ _ _ _ rfl rfl rfl ?_; try simp only [*]) | (refine wpList_cmp _ rfl .eql (by simp) _ _ _ _ _ _ _ rfl rfl rfl ?_; try simp only [*]) | (refine wpList_cmp _ rfl .leq (by simp) _ _ _ _ _ _ _ rfl rfl rfl ?_; try simp only [*]) | (refine wpList_neg _ rfl _ _ _ _ rfl rfl ?_; intro r hr))
            go_roundw
            case rel => exact ⟨j + 1, _, _, by omega, by go_num, rfl, by simp only [sinP, wOne, *], rfl⟩
            case measure => simp [intOf]; omega
          · obtain rfl : j = 8 := by omega
            go_wp2_with (first | (refine wpList_fl _ rfl .add (by simp) _ _ _ _ _ _ _ rfl rfl rfl ?_; intro r n hr) | (refine wpList_fl _ rfl .sub (by simp) _ _ _ _ _ _ _ rfl rfl rfl ?_; intro r n hr) | (refine wpList_fl _ rfl .mul (by simp) _ _ _ _ _ _ _ rfl rfl rfl ?_; intro r n hr) | (refine wpList_fl _ rfl .quo (by simp) _ _ _ _ _ _ _ rfl rfl rfl ?_; intro r n hr) | (refine wpList_cmp _ rfl .lss (by simp) _ _ _ _ _ _ _ rfl rfl rfl ?_; try simp only [*]) | (refine wpList_cmp _ rfl .geq (by simp) _ _ _ _ _ _ _ rfl rfl rfl ?_; try simp only [*]) | (refine wpList_cmp _ rfl .gtr (by simp) _ _ _ _ _ _ _ rfl rfl rfl ?_; try simp only [*]) | (refine wpList_cmp _ rfl .neq (by simp) _ _ _ _ _ _ _ rfl rfl rfl ?_; try simp only [*]) | (refine wpList_cmp _ rfl .eql (by simp) _ _ _ _ _ _ _ rfl rfl rfl ?_; try simp only [*]) | (refine wpList_cmp _ rfl .leq (by simp) _ _ _ _ _ _ _ rfl rfl rfl ?_; try simp only [*]) | (refine wpList_neg _ rfl _ _ _ _ rfl rfl ?_; intro r hr))
            go_ret
            exact ⟨_, _, rfl, by rw [hv.out]; unfold sinR; simp only [*], rfl⟩
  · simp only [Bool.not_eq_true] at t3
    have hF : step1 x = partF x := by unfold partF; rw [t3]; rfl
    rw [hF] at hst t3
    clear h hw hx hlo hhi hW hWn hF
    generalize partF x = F at *
    by_cases t1 : cmpF .geq .f64 F 4602678819172646912 = true
    · by_cases t2 : cmpF .gtr .f64 (fop .sub .f64 F 4602678819172646912) 4598175219545276416 = true
      · skip
        have hz : fop .mul .f64 (fop .sub .f64 4602678819172646912 (fop .sub .f64 F 4602678819172646912)) 4618760256179416344 = sinZ F := by unfold sinZ; rw [show sin1 F = (fop .sub .f64 F 4602678819172646912) by unfold sin1; rw [t1]; rfl, show sin2 (fop .sub .f64 F 4602678819172646912) = (fop .sub .f64 4602678819172646912 (fop .sub .f64 F 4602678819172646912)) by unfold sin2; rw [t2]; rfl]
        have hv := Lib.hid (show sinF F = fneg .f64 (sinR (sinZ F)) by unfold sinF; rw [t1]; rfl)
        go_enter Try.func71, Try.ntmps71
        go_wp2_with (first | (refine wpList_fl _ rfl .add (by simp) _ _ _ _ _ _ _ rfl rfl rfl ?_; intro r n hr) | (refine wpList_fl _ rfl .sub (by simp) _ _ _ _ _ _ _ rfl rfl rfl ?_; intro r n hr) | (refine wpList_fl _ rfl .mul (by simp) _ _ _ _ _ _ _ rfl rfl rfl ?_; intro r n hr) | (refine wpList_fl _ rfl .quo (by simp) _ _ _ _ _ _ _ rfl rfl rfl ?_; intro r n hr) | (refine wpList_cmp _ rfl .lss (by simp) _ _ _ _ _ _ _ rfl rfl rfl ?_; try simp only [*]) | (refine wpList_cmp _ rfl .geq (by simp) _ _ _ _ _ _ _ rfl rfl rfl ?_; try simp only [*]) | (refine wpList_cmp _ rfl .gtr (by simp) _ _ _ _ _ _ _ rfl rfl rfl ?_; try simp only [*]) | (refine wpList_cmp _ rfl .neq (by simp) _ _ _ _ _ _ _ rfl rfl rfl ?_; try simp only [*]) | (refine wpList_cmp _ rfl .eql (by simp) _ _ _ _ _ _ _ rfl rfl rfl ?_; try simp only [*]) | (refine wpList_cmp _ rfl .leq (by simp) _ _ _ _ _ _ _ rfl rfl rfl ?_; try simp only [*]) | (refine wpList_neg _ rfl _ _ _ _ rfl rfl ?_; intro r hr))
        go_loopw [7, 8] (fun p k wr => ∃ (j r m : Nat), j ≤ 8 ∧ k = .int .i64 (8 - (j : Int)) ∧ p = .float .f64 r ∧ can .f64 r = sinP (fop .mul .f64 (sinZ F) (sinZ F)) j ∧ wr = w.drewN m) (fun _ k _ => (intOf k).toNat)
        case atStart => exact ⟨0, _, _, by omega, rfl, rfl, cOne, rfl⟩
        case round =>
          obtain ⟨j, r, m, hj, rfl, rfl, hp, rfl⟩ := hrel
          by_cases hlt : j < 8
          · have hge : (1 : Int) ≤ 8 - (j : Int) := by omega
            have hq := wrapK j hlt
            go_wp2_with (first | (refine wpList_fl _ rfl .add (by simp) _ _ _ _ _ _ _ rfl rfl rfl ?_; intro r n hr) | (refine wpList_fl _ rfl .sub (by simp) _ _ _ _ _ _ _ rfl rfl rfl ?_; intro r n hr) | (refine wpList_fl _ rfl .mul (by simp) _ _ _ _ _ _ _ rfl rfl rfl ?_; intro r n hr) | (refine wpList_fl _ rfl .quo (by simp) _ _ _ _ _ _ _ rfl rfl rfl ?_; intro r n hr) | (refine wpList_cmp _ rfl .lss (by simp) _ _ _ _ _ _ _ rfl rfl rfl ?_; try simp only [*]) | (refine wpList_cmp _ rfl .geq (by simp) _ _ _ _ _ _ _ rfl rfl rfl ?_; try simp only [*]) | (refine wpList_cmp _ rfl .gtr (by simp) _ _ _ _ _ _ _ rfl rfl rfl ?_; try simp only [*]) | (refine wpList_cmp _ rfl .neq (by simp) _ _ _ _ _ _ _ rfl rfl rfl ?_; try simp only [*]) | (refine wpList_cmp _ rfl .eql (by simp) _ _ _ _ _ _ _ rfl rfl rfl ?_; try simp only [*]) | (refine wpList_cmp _ rfl .leq (by simp) _ _ _ _ _ _ _ rfl rfl rfl ?_; try simp only [*]) | (refine wpList_neg _ rfl _ _ _ _ rfl rfl ?_; intro r hr))
            go_roundw
            case rel => exact ⟨j + 1, _, _, by omega, by go_num, rfl, by simp only [sinP, wOne, *], rfl⟩
            case measure => simp [intOf]; omega
          · obtain rfl : j = 8 := by omega
            go_wp2_with (first | (refine wpList_fl _ rfl .add (by simp) _ _ _ _ _ _ _ rfl rfl rfl ?_; intro r n hr) | (refine wpList_fl _ rfl .sub (by simp) _ _ _ _ _ _ _ rfl rfl rfl ?_; intro r n hr) | (refine wpList_fl _ rfl .mul (by simp) _ _ _ _ _ _ _ rfl rfl rfl ?_; intro r n hr) | (refine wpList_fl _ rfl .quo (by simp) _ _ _ _ _ _ _ rfl rfl rfl ?_; intro r n hr) | (refine wpList_cmp _ rfl .lss (by simp) _ _ _ _ _ _ _ rfl rfl rfl ?_; try simp only [*]) | (refine wpList_cmp _ rfl .geq (by simp) _ _ _ _ _ _ _ rfl rfl rfl ?_; try simp only [*]) | (refine wpList_cmp _ rfl .gtr (by simp) _ _ _ _ _ _ _ rfl rfl rfl ?_; try simp only [*]) | (refine wpList_cmp _ rfl .neq (by simp) _ _ _ _ _ _ _ rfl rfl rfl ?_; try simp only [*]) | (refine wpList_cmp _ rfl .eql (by simp) _ _ _ _ _ _ _ rfl rfl rfl ?_; try simp only [*]) | (refine wpList_cmp _ rfl .leq (by simp) _ _ _ _ _ _ _ rfl rfl rfl ?_; try simp only [*]) | (refine wpList_neg _ rfl _ _ _ _ rfl rfl ?_; intro r hr))
            go_ret
            exact ⟨_, _, rfl, by rw [hv.out]; unfold sinR; simp only [*], rfl⟩
      · simp only [Bool.not_eq_true] at t2
        have hz : fop .mul .f64 (fop .sub .f64 F 4602678819172646912) 4618760256179416344 = sinZ F := by unfold sinZ; rw [show sin1 F = (fop .sub .f64 F 4602678819172646912) by unfold sin1; rw [t1]; rfl, show sin2 (fop .sub .f64 F 4602678819172646912) = (fop .sub .f64 F 4602678819172646912) by unfold sin2; rw [t2]; rfl]
        have hv := Lib.hid (show sinF F = fneg .f64 (sinR (sinZ F)) by unfold sinF; rw [t1]; rfl)
        go_enter Try.func71, Try.ntmps71
        go_wp2_with (first | (refine wpList_fl _ rfl .add (by simp) _ _ _ _ _ _ _ rfl rfl rfl ?_; intro r n hr) | (refine wpList_fl _ rfl .sub (by simp) _ _ _ _ _ _ _ rfl rfl rfl ?_; intro r n hr) | (refine wpList_fl _ rfl .mul (by simp) _ _ _ _ _ _ _ rfl rfl rfl ?_; intro r n hr) | (refine wpList_fl _ rfl .quo (by simp) _ _ _ _ _ _ _ rfl rfl rfl ?_; intro r n hr) | (refine wpList_cmp _ rfl .lss (by simp) _ _ _ _ _ _ _ rfl rfl rfl ?_; try simp only [*]) | (refine wpList_cmp _ rfl .geq (by simp) _ _ _ _ _ _ _ rfl rfl rfl ?_; try simp only [*]) | (refine wpList_cmp _ rfl .gtr (by simp) _ _ _ _ _ _ _ rfl rfl rfl ?_; try simp only [*]) | (refine wpList_cmp _ rfl .neq (by simp) _ _ _ _ _ _ _ rfl rfl rfl ?_; try simp only [*]) | (refine wpList_cmp _ rfl .eql (by simp) _ _ _ _ _ _ _ rfl rfl rfl ?_; try simp only [*]) | (refine wpList_cmp _ rfl .leq (by simp) _ _ _ _ _ _ _ rfl rfl rfl ?_; try simp only [*]) | (refine wpList_neg _ rfl _ _ _ _ rfl rfl ?_; intro r hr))
        go_loopw [7, 8] (fun p k wr => ∃ (j r m : Nat), j ≤ 8 ∧ k = .int .i64 (8 - (j : Int)) ∧ p = .float .f64 r ∧ can .f64 r = sinP (fop .mul .f64 (sinZ F) (sinZ F)) j ∧ wr = w.drewN m) (fun _ k _ => (intOf k).toNat)
        case atStart => exact ⟨0, _, _, by omega, rfl, rfl, cOne, rfl⟩
        case round =>
          obtain ⟨j, r, m, hj, rfl, rfl, hp, rfl⟩ := hrel
          by_cases hlt : j < 8
          · have hge : (1 : Int) ≤ 8 - (j : Int) := by omega
            have hq := wrapK j hlt
            go_wp2_with (first | (refine wpList_fl _ rfl .add (by simp) _ _ _ _ _ _ _ rfl rfl rfl ?_; intro r n hr) | (refine wpList_fl _ rfl .sub (by simp) _ _ _ _ _ _ _ rfl rfl rfl ?_; intro r n hr) | (refine wpList_fl _ rfl .mul (by simp) _ _ _ _ _ _ _ rfl rfl rfl ?_; intro r n hr) | (refine wpList_fl _ rfl .quo (by simp) _ _ _ _ _ _ _ rfl rfl rfl ?_; intro r n hr) | (refine wpList_cmp _ rfl .lss (by simp) _ _ _ _ _ _ _ rfl rfl rfl ?_; try simp only [*]) | (refine wpList_cmp _ rfl .geq (by simp) _ _ _ _ _ _ _ rfl rfl rfl ?_; try simp only [*]) | (refine wpList_cmp _ rfl .gtr (by simp) _ _ _ _ _ _ _ rfl rfl rfl ?_; try simp only [*]) | (refine wpList_cmp _ rfl .neq (by simp) _ _ _ _ _ _ _ rfl rfl rfl ?_; try simp only [*]) | (refine wpList_cmp _ rfl .eql (by simp) _ _ _ _ _ _ _ rfl rfl rfl ?_; try simp only [*]) | (refine wpList_cmp _ rfl .leq (by simp) _ _ _ _ _ _ _ rfl rfl rfl ?_; try simp only [*]) | (refine wpList_neg _ rfl _ _ _ _ rfl rfl ?_; intro r hr))
            go_roundw
            case rel => exact ⟨j + 1, _, _, by omega, by go_num, rfl, by simp only [sinP, wOne, *], rfl⟩
            case measure => simp [intOf]; omega
          · obtain rfl : j = 8 := by omega
            go_wp2_with (first | (refine wpList_fl _ rfl .add (by simp) _ _ _ _ _ _ _ rfl rfl rfl ?_; intro r n hr) | (refine wpList_fl _ rfl .sub (by simp) _ _ _ _ _ _ _ rfl rfl rfl ?_; intro r n hr) | (refine wpList_fl _ rfl .mul (by simp) _ _ _ _ _ _ _ rfl rfl rfl ?_; intro r n hr) | (refine wpList_fl _ rfl .quo (by simp) _ _ _ _ _ _ _ rfl rfl rfl ?_; intro r n hr) | (refine wpList_cmp _ rfl .lss (by simp) _ _ _ _ _ _ _ rfl rfl rfl ?_; try simp only [*]) | (refine wpList_cmp _ rfl .geq (by simp) _ _ _ _ _ _ _ rfl rfl rfl ?_; try simp only [*]) | (refine wpList_cmp _ rfl .gtr (by simp) _ _ _ _ _ _ _ rfl rfl rfl ?_; try simp only [*]) | (refine wpList_cmp _ rfl .neq (by simp) _ _ _ _ _ _ _ rfl rfl rfl ?_; try simp only [*]) | (refine wpList_cmp _ rfl .eql (by simp) _ _ _ _ _ _ _ rfl rfl rfl ?_; try simp only [*]) | (refine wpList_cmp _ rfl .leq (by simp) _ _ _ _ _ _ _ rfl rfl rfl ?_; try simp only [*]) | (refine wpList_neg _ rfl _ _ _ _ rfl rfl ?_; intro r hr))
            go_ret
            exact ⟨_, _, rfl, by rw [hv.out]; unfold sinR; simp only [*], rfl⟩
    · simp only [Bool.not_eq_true] at t1
      by_cases t2 : cmpF .gtr .f64 F 4598175219545276416 = true
      · skip
        have hz : fop .mul .f64 (fop .sub .f64 4602678819172646912 F) 4618760256179416344 = sinZ F := by unfold sinZ; rw [show sin1 F = F by unfold sin1; rw [t1]; rfl, show sin2 F = (fop .sub .f64 4602678819172646912 F) by unfold sin2; rw [t2]; rfl]
        have hv := Lib.hid (show sinF F = sinR (sinZ F) by unfold sinF; rw [t1]; rfl)
        go_enter Try.func71, Try.ntmps71
        go_wp2_with (first | (refine wpList_fl _ rfl .add (by simp) _ _ _ _ _ _ _ rfl rfl rfl ?_; intro r n hr) | (refine wpList_fl _ rfl .sub (by simp) _ _ _ _ _ _ _ rfl rfl rfl ?_; intro r n hr) | (refine wpList_fl _ rfl .mul (by simp) _ _ _ _ _ _ _ rfl rfl rfl ?_; intro r n hr) | (refine wpList_fl _ rfl .quo (by simp) _ _ _ _ _ _ _ rfl rfl rfl ?_; intro r n hr) | (refine wpList_cmp _ rfl .lss (by simp) _ _ _ _ _ _ _ rfl rfl rfl ?_; try simp only [*]) | (refine wpList_cmp _ rfl .geq (by simp) _ _ _ _ _ _ _ rfl rfl rfl ?_; try simp only [*]) | (refine wpList_cmp _ rfl .gtr (by simp) _ _ _ _ _ _ _ rfl rfl rfl ?_; try simp only [*]) | (refine wpList_cmp _ rfl .neq (by simp) _ _ _ _ _ _ _ rfl rfl rfl ?_; try simp only [*]) | (refine wpList_cmp _ rfl .eql (by simp) _ _ _ _ _ _ _ rfl rfl rfl ?_; try simp only [*]) | (refine wpList_cmp _ rfl .leq (by simp) _ _ _ _ _ _ _ rfl rfl rfl ?_; try simp only [*]) | (refine wpList_neg _ rfl _ _ _ _ rfl rfl ?_; intro r hr))
        go_loopw [7, 8] (fun p k wr => ∃ (j r m : Nat), j ≤ 8 ∧ k = .int .i64 (8 - (j : Int)) ∧ p = .float .f64 r ∧ can .f64 r = sinP (fop .mul .f64 (sinZ F) (sinZ F)) j ∧ wr = w.drewN m) (fun _ k _ => (intOf k).toNat)
        case atStart => exact ⟨0, _, _, by omega, rfl, rfl, cOne, rfl⟩
        case round =>
          obtain ⟨j, r, m, hj, rfl, rfl, hp, rfl⟩ := hrel
          by_cases hlt : j < 8
          · have hge : (1 : Int) ≤ 8 - (j : Int) := by omega
            have hq := wrapK j hlt
            go_wp2_with (first | (refine wpList_fl _ rfl .add (by simp) _ _ _ _ _ _ _ rfl rfl rfl ?_; intro r n hr) | (refine wpList_fl _ rfl .sub (by simp) _ _ _ _ _ _ _ rfl rfl rfl ?_; intro r n hr) | (refine wpList_fl _ rfl .mul (by simp) _ _ _ _ _ _ _ rfl rfl rfl ?_; intro r n hr) | (refine wpList_fl _ rfl .quo (by simp) _ _ _ _ _ _ _ rfl rfl rfl ?_; intro r n hr) | (refine wpList_cmp _ rfl .lss (by simp) _ _ _ _ _ _ _ rfl rfl rfl ?_; try simp only [*]) | (refine wpList_cmp _ rfl .geq (by simp) _ _ _ _ _ _ _ rfl rfl rfl ?_; try simp only [*]) | (refine wpList_cmp _ rfl .gtr (by simp) _ _ _ _ _ _ _ rfl rfl rfl ?_; try simp only [*]) | (refine wpList_cmp _ rfl .neq (by simp) _ _ _ _ _ _ _ rfl rfl rfl ?_; try simp only [*]) | (refine wpList_cmp _ rfl .eql (by simp) _ _ _ _ _ _ _ rfl rfl rfl ?_; try simp only [*]) | (refine wpList_cmp _ rfl .leq (by simp) _ _ _ _ _ _ _ rfl rfl rfl ?_; try simp only [*]) | (refine wpList_neg _ rfl _ _ _ _ rfl rfl ?_; intro r hr))
            go_roundw
            case rel => exact ⟨j + 1, _, _, by omega, by go_num, rfl, by simp only [sinP, wOne, *], rfl⟩
            case measure => simp [intOf]; omega
          · obtain rfl : j = 8 := by omega
            go_wp2_with (first | (refine wpList_fl _ rfl .add (by simp) _ _ _ _ _ _ _ rfl rfl rfl ?_; intro r n hr) | (refine wpList_fl _ rfl .sub (by simp) _ _ _ _ _ _ _ rfl rfl rfl ?_; intro r n hr) | (refine wpList_fl _ rfl .mul (by simp) _ _ _ _ _ _ _ rfl rfl rfl ?_; intro r n hr) | (refine wpList_fl _ rfl .quo (by simp) _ _ _ _ _ _ _ rfl rfl rfl ?_; intro r n hr) | (refine wpList_cmp _ rfl .lss (by simp) _ _ _ _ _ _ _ rfl rfl rfl ?_; try simp only [*]) | (refine wpList_cmp _ rfl .geq (by simp) _ _ _ _ _ _ _ rfl rfl rfl ?_; try simp only [*]) | (refine wpList_cmp _ rfl .gtr (by simp) _ _ _ _ _ _ _ rfl rfl rfl ?_; try simp only [*]) | (refine wpList_cmp _ rfl .neq (by simp) _ _ _ _ _ _ _ rfl rfl rfl ?_; try simp only [*]) | (refine wpList_cmp _ rfl .eql (by simp) _ _ _ _ _ _ _ rfl rfl rfl ?_; try simp only [*]) | (refine wpList_cmp _ rfl .leq (by simp) _ _ _ _ _ _ _ rfl rfl rfl ?_; try simp only [*]) | (refine wpList_neg _ rfl _ _ _ _ rfl rfl ?_; intro r hr))
            go_ret
            exact ⟨_, _, rfl, by rw [hv.out]; unfold sinR; simp only [*], rfl⟩
      · simp only [Bool.not_eq_true] at t2
        have hz : fop .mul .f64 F 4618760256179416344 = sinZ F := by unfold sinZ; rw [show sin1 F = F by unfold sin1; rw [t1]; rfl, show sin2 F = F by unfold sin2; rw [t2]; rfl]
        have hv := Lib.hid (show sinF F = sinR (sinZ F) by unfold sinF; rw [t1]; rfl)
        go_enter Try.func71, Try.ntmps71
        go_wp2_with (first | (refine wpList_fl _ rfl .add (by simp) _ _ _ _ _ _ _ rfl rfl rfl ?_; intro r n hr) | (refine wpList_fl _ rfl .sub (by simp) _ _ _ _ _ _ _ rfl rfl rfl ?_; intro r n hr) | (refine wpList_fl _ rfl .mul (by simp) _ _ _ _ _ _ _ rfl rfl rfl ?_; intro r n hr) | (refine wpList_fl _ rfl .quo (by simp) _ _ _ _ _ _ _ rfl rfl rfl ?_; intro r n hr) | (refine wpList_cmp _ rfl .lss (by simp) _ _ _ _ _ _ _ rfl rfl rfl ?_; try simp only [*]) | (refine wpList_cmp _ rfl .geq (by simp) _ _ _ _ _ _ _ rfl rfl rfl ?_; try simp only [*]) | (refine wpList_cmp _ rfl .gtr (by simp) _ _ _ _ _ _ _ rfl rfl rfl ?_; try simp only [*]) | (refine wpList_cmp _ rfl .neq (by simp) _ _ _ _ _ _ _ rfl rfl rfl ?_; try simp only [*]) | (refine wpList_cmp _ rfl .eql (by simp) _ _ _ _ _ _ _ rfl rfl rfl ?_; try simp only [*]) | (refine wpList_cmp _ rfl .leq (by simp) _ _ _ _ _ _ _ rfl rfl rfl ?_; try simp only [*]) | (refine wpList_neg _ rfl _ _ _ _ rfl rfl ?_; intro r hr))
        go_loopw [7, 8] (fun p k wr => ∃ (j r m : Nat), j ≤ 8 ∧ k = .int .i64 (8 - (j : Int)) ∧ p = .float .f64 r ∧ can .f64 r = sinP (fop .mul .f64 (sinZ F) (sinZ F)) j ∧ wr = w.drewN m) (fun _ k _ => (intOf k).toNat)
        case atStart => exact ⟨0, _, _, by omega, rfl, rfl, cOne, rfl⟩
        case round =>
          obtain ⟨j, r, m, hj, rfl, rfl, hp, rfl⟩ := hrel
          by_cases hlt : j < 8
          · have hge : (1 : Int) ≤ 8 - (j : Int) := by omega
            have hq := wrapK j hlt
            go_wp2_with (first | (refine wpList_fl _ rfl .add (by simp) _ _ _ _ _ _ _ rfl rfl rfl ?_; intro r n hr) | (refine wpList_fl _ rfl .sub (by simp) _ _ _ _ _ _ _ rfl rfl rfl ?_; intro r n hr) | (refine wpList_fl _ rfl .mul (by simp) _ _ _ _ _ _ _ rfl rfl rfl ?_; intro r n hr) | (refine wpList_fl _ rfl .quo (by simp) _ _ _ _ _ _ _ rfl rfl rfl ?_; intro r n hr) | (refine wpList_cmp _ rfl .lss (by simp) _ _ _ _ _ _ _ rfl rfl rfl ?_; try simp only [*]) | (refine wpList_cmp _ rfl .geq (by simp) _ _ _ _ _ _ _ rfl rfl rfl ?_; try simp only [*]) | (refine wpList_cmp _ rfl .gtr (by simp) _ _ _ _ _ _ _ rfl rfl rfl ?_; try simp only [*]) | (refine wpList_cmp _ rfl .neq (by simp) _ _ _ _ _ _ _ rfl rfl rfl ?_; try simp only [*]) | (refine wpList_cmp _ rfl .eql (by simp) _ _ _ _ _ _ _ rfl rfl rfl ?_; try simp only [*]) | (refine wpList_cmp _ rfl .leq (by simp) _ _ _ _ _ _ _ rfl rfl rfl ?_; try simp only [*]) | (refine wpList_neg _ rfl _ _ _ _ rfl rfl ?_; intro r hr))
            go_roundw
            case rel => exact ⟨j + 1, _, _, by omega, by go_num, rfl, by simp only [sinP, wOne, *], rfl⟩
            case measure => simp [intOf]; omega
          · obtain rfl : j = 8 := by omega
            go_wp2_with (first | (refine wpList_fl _ rfl .add (by simp) _ _ _ _ _ _ _ rfl rfl rfl ?_; intro r n hr) | (refine wpList_fl _ rfl .sub (by simp) _ _ _ _ _ _ _ rfl rfl rfl ?_; intro r n hr) | (refine wpList_fl _ rfl .mul (by simp) _ _ _ _ _ _ _ rfl rfl rfl ?_; intro r n hr) | (refine wpList_fl _ rfl .quo (by simp) _ _ _ _ _ _ _ rfl rfl rfl ?_; intro r n hr) | (refine wpList_cmp _ rfl .lss (by simp) _ _ _ _ _ _ _ rfl rfl rfl ?_; try simp only [*]) | (refine wpList_cmp _ rfl .geq (by simp) _ _ _ _ _ _ _ rfl rfl rfl ?_; try simp only [*]) | (refine wpList_cmp _ rfl .gtr (by simp) _ _ _ _ _ _ _ rfl rfl rfl ?_; try simp only [*]) | (refine wpList_cmp _ rfl .neq (by simp) _ _ _ _ _ _ _ rfl rfl rfl ?_; try simp only [*]) | (refine wpList_cmp _ rfl .eql (by simp) _ _ _ _ _ _ _ rfl rfl rfl ?_; try simp only [*]) | (refine wpList_cmp _ rfl .leq (by simp) _ _ _ _ _ _ _ rfl rfl rfl ?_; try simp only [*]) | (refine wpList_neg _ rfl _ _ _ _ rfl rfl ?_; intro r hr))
            go_ret
            exact ⟨_, _, rfl, by rw [hv.out]; unfold sinR; simp only [*], rfl⟩
end Go.Proofs.Ythbinacchpjkmaa.Wk
