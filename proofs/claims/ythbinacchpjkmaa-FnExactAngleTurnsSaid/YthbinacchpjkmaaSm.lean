/- The walk of the reference's angle. -/
import Derived.Test.YthbinacchpjkmaaSl
import Derived.Test.YthbinacchpjkmaaFm
set_option linter.unusedSimpArgs false
set_option linter.unusedVariables false
namespace Go.Proofs.Ythbinacchpjkmaa.Wk
open Go.RowKit Fl

theorem cEight : can .f64 4620693217682128896 = 4620693217682128896 := by decide +kernel
theorem sub_self_fin {x : Nat} (h : fin D x) : cmpF .neq .f64 (fop .sub .f64 x x) 0 = false ∧ ∀ w, FloatKind.f64.format.order (fV .sub .f64 x x w) 0 = some .eq := by
  obtain ⟨r, e, hf, r1, r2⟩ := sub_bounds D ebD h h 0 0 (rep0 D (infV_pos D)) (rep0 D (infV_pos D)) (by omega) (by omega)
  refine ⟨?_, fun w => ?_⟩
  · rw [fop_some (op := .sub) e hf, (cmp_fin hf fin0).2.1, sV0]
    simp; omega
  · rw [ord_fV, can_of_not (fin_not_nan (k := .f64) h), c0, fop_some (op := .sub) e hf, show FloatKind.f64.format.order r 0 = _ from order_fin D hf fin0, sV0]
    have : sV D r = 0 := by omega
    rw [this]; rfl
set_option maxRecDepth 100000 in
set_option maxHeartbeats 40000000 in
theorem specAngleWide (y x : Nat) (hy : y < 2 ^ 64) (hx : x < 2 ^ 64) (fy : fin D y) (fx : fin D x) (h0 : sV D x ≠ 0 ∨ sV D y ≠ 0) (w : World) :
    Calls Try.prog 74 #[.float .f64 y, .float .f64 x] w fun e w' => ∃ r n, e = .returned (.float .f64 r) ∧ can .f64 r = angF (y % 9223372036854775808) (x % 9223372036854775808) (cmpF .lss .f64 x 0) (cmpF .lss .f64 y 0) ∧ w' = w.drewN n := by
  have hcy : can .f64 y = y := can_of_not (fin_not_nan (k := .f64) fy)
  have hcx : can .f64 x = x := can_of_not (fin_not_nan (k := .f64) fx)
  obtain ⟨zy, zy'⟩ := sub_self_fin fy
  obtain ⟨zx, zx'⟩ := sub_self_fin fx
  have hA : can .f64 (y % 9223372036854775808) = y % 9223372036854775808 := can_of_not (fin_not_nan (k := .f64) (abs_fin fy).1)
  have hB : can .f64 (x % 9223372036854775808) = x % 9223372036854775808 := can_of_not (fin_not_nan (k := .f64) (abs_fin fx).1)
  have ex : cmpF .eql .f64 x 0 = decide (sV D x = 0) := by rw [(cmp_fin fx fin0).1, sV0]
  have ey := order_eq_iff fy
  have HAy := Lib.hid (fun w => mathAbs y hy w)
  have HAx := Lib.hid (fun w => mathAbs x hx w)
  have k0 := c0
  have k1 := cOne
  have k2 := cHalf
  have k3 := cQuarter
  have k4 := cTurn
  have k5 := cEight
  generalize hnX : cmpF .lss .f64 x 0 = nx at *
  generalize hnY : cmpF .lss .f64 y 0 = ny at *
  generalize y % 9223372036854775808 = A at *
  generalize x % 9223372036854775808 = B at *
  by_cases hz : sV D x = 0
  · have ex' : cmpF .eql .f64 x 0 = true := by rw [ex]; simpa using hz
    have ey' : FloatKind.f64.format.order y 0 = some .lt ∨ FloatKind.f64.format.order y 0 = some .gt := by
      rw [ey]
      split
      · exact .inl rfl
      · rw [if_neg (by omega)]; exact .inr rfl
    clear ex ey fy fx h0 hz hy hx
    rcases ey' with ey | ey
    · skip
      by_cases tov : cmpF .gtr .f64 A B = true
      · have hT : fop .quo .f64 B A = angT A B := by unfold angT; rw [tov]; rfl
        have hR : ∀ nx ny, angF A B nx ny = ang3 ny (ang2 nx (fop .sub .f64 wQuarter (angR (angI (angT A B) 3)))) := fun nx ny => by unfold angF ang1; rw [tov]; rfl
        have HR := Lib.hid hR
        clear hR
        go_enter Try.func74, Try.ntmps74
        go_wp2_with (first | (go_at_call 54; (first | (with_reducible refine (HAy.out _).mono ?_) | (with_reducible refine (HAx.out _).mono ?_)); rintro e w' ⟨rfl, rfl⟩) | (first | (refine wpList_fl _ rfl .add (by simp) _ _ _ _ _ _ _ rfl rfl rfl ?_; intro r n hr) | (refine wpList_fl _ rfl .sub (by simp) _ _ _ _ _ _ _ rfl rfl rfl ?_; intro r n hr) | (refine wpList_fl _ rfl .mul (by simp) _ _ _ _ _ _ _ rfl rfl rfl ?_; intro r n hr) | (refine wpList_fl _ rfl .quo (by simp) _ _ _ _ _ _ _ rfl rfl rfl ?_; intro r n hr) | (refine wpList_cmp _ rfl .lss (by simp) _ _ _ _ _ _ _ rfl rfl rfl ?_; try simp only [*]) | (refine wpList_cmp _ rfl .geq (by simp) _ _ _ _ _ _ _ rfl rfl rfl ?_; try simp only [*]) | (refine wpList_cmp _ rfl .gtr (by simp) _ _ _ _ _ _ _ rfl rfl rfl ?_; try simp only [*]) | (refine wpList_cmp _ rfl .neq (by simp) _ _ _ _ _ _ _ rfl rfl rfl ?_; try simp only [*]) | (refine wpList_cmp _ rfl .eql (by simp) _ _ _ _ _ _ _ rfl rfl rfl ?_; try simp only [*]) | (refine wpList_cmp _ rfl .leq (by simp) _ _ _ _ _ _ _ rfl rfl rfl ?_; try simp only [*]) | (refine wpList_neg _ rfl _ _ _ _ rfl rfl ?_; intro r hr)))
        go_loopw [8, 9] (fun t k wr => ∃ (j r m : Nat), j ≤ 3 ∧ k = .int .i64 (j : Int) ∧ t = .float .f64 r ∧ can .f64 r = angI (angT A B) j ∧ wr = w.drewN m) (fun _ k _ => 4 - (intOf k).toNat)
        case atStart => exact ⟨0, _, _, by omega, rfl, rfl, by simp only [angI, *], rfl⟩
        case round =>
          obtain ⟨j, r, m, hj, rfl, rfl, hp, rfl⟩ := hrel
          by_cases hlt : j < 3
          · go_wp2_with (first | (go_at_call 50; refine (mathSqrt _ _).mono ?_; rintro e w' ⟨r, n, rfl, hr, rfl⟩) | (first | (refine wpList_fl _ rfl .add (by simp) _ _ _ _ _ _ _ rfl rfl rfl ?_; intro r n hr) | (refine wpList_fl _ rfl .sub (by simp) _ _ _ _ _ _ _ rfl rfl rfl ?_; intro r n hr) | (refine wpList_fl _ rfl .mul (by simp) _ _ _ _ _ _ _ rfl rfl rfl ?_; intro r n hr) | (refine wpList_fl _ rfl .quo (by simp) _ _ _ _ _ _ _ rfl rfl rfl ?_; intro r n hr) | (refine wpList_cmp _ rfl .lss (by simp) _ _ _ _ _ _ _ rfl rfl rfl ?_; try simp only [*]) | (refine wpList_cmp _ rfl .geq (by simp) _ _ _ _ _ _ _ rfl rfl rfl ?_; try simp only [*]) | (refine wpList_cmp _ rfl .gtr (by simp) _ _ _ _ _ _ _ rfl rfl rfl ?_; try simp only [*]) | (refine wpList_cmp _ rfl .neq (by simp) _ _ _ _ _ _ _ rfl rfl rfl ?_; try simp only [*]) | (refine wpList_cmp _ rfl .eql (by simp) _ _ _ _ _ _ _ rfl rfl rfl ?_; try simp only [*]) | (refine wpList_cmp _ rfl .leq (by simp) _ _ _ _ _ _ _ rfl rfl rfl ?_; try simp only [*]) | (refine wpList_neg _ rfl _ _ _ _ rfl rfl ?_; intro r hr)))
            go_roundw
            case rel => exact ⟨j + 1, _, _, by omega, by go_num, rfl, by simp only [angI, angS, wOne, *], rfl⟩
            case measure => simp [intOf]; omega
          · obtain rfl : j = 3 := by omega
            go_wp2_with (first | (refine wpList_fl _ rfl .add (by simp) _ _ _ _ _ _ _ rfl rfl rfl ?_; intro r n hr) | (refine wpList_fl _ rfl .sub (by simp) _ _ _ _ _ _ _ rfl rfl rfl ?_; intro r n hr) | (refine wpList_fl _ rfl .mul (by simp) _ _ _ _ _ _ _ rfl rfl rfl ?_; intro r n hr) | (refine wpList_fl _ rfl .quo (by simp) _ _ _ _ _ _ _ rfl rfl rfl ?_; intro r n hr) | (refine wpList_cmp _ rfl .lss (by simp) _ _ _ _ _ _ _ rfl rfl rfl ?_; try simp only [*]) | (refine wpList_cmp _ rfl .geq (by simp) _ _ _ _ _ _ _ rfl rfl rfl ?_; try simp only [*]) | (refine wpList_cmp _ rfl .gtr (by simp) _ _ _ _ _ _ _ rfl rfl rfl ?_; try simp only [*]) | (refine wpList_cmp _ rfl .neq (by simp) _ _ _ _ _ _ _ rfl rfl rfl ?_; try simp only [*]) | (refine wpList_cmp _ rfl .eql (by simp) _ _ _ _ _ _ _ rfl rfl rfl ?_; try simp only [*]) | (refine wpList_cmp _ rfl .leq (by simp) _ _ _ _ _ _ _ rfl rfl rfl ?_; try simp only [*]) | (refine wpList_neg _ rfl _ _ _ _ rfl rfl ?_; intro r hr))
            go_loopw [11, 12] (fun p k wr => ∃ (j r m : Nat), j ≤ 8 ∧ k = .int .i64 (15 - 2 * (j : Int)) ∧ p = .float .f64 r ∧ can .f64 r = angP (fop .mul .f64 (angI (angT A B) 3) (angI (angT A B) 3)) j ∧ wr = w.drewN m) (fun _ k _ => (intOf k + 2).toNat)
            case atStart => exact ⟨0, _, _, by omega, rfl, rfl, c0, rfl⟩
            case round =>
              obtain ⟨j, r, m, hj, rfl, rfl, hq, rfl⟩ := hrel
              by_cases hlt2 : j < 8
              · have hge : (1 : Int) ≤ 15 - 2 * (j : Int) := by omega
                go_wp2_with (first | (refine wpList_fl _ rfl .add (by simp) _ _ _ _ _ _ _ rfl rfl rfl ?_; intro r n hr) | (refine wpList_fl _ rfl .sub (by simp) _ _ _ _ _ _ _ rfl rfl rfl ?_; intro r n hr) | (refine wpList_fl _ rfl .mul (by simp) _ _ _ _ _ _ _ rfl rfl rfl ?_; intro r n hr) | (refine wpList_fl _ rfl .quo (by simp) _ _ _ _ _ _ _ rfl rfl rfl ?_; intro r n hr) | (refine wpList_cmp _ rfl .lss (by simp) _ _ _ _ _ _ _ rfl rfl rfl ?_; try simp only [*]) | (refine wpList_cmp _ rfl .geq (by simp) _ _ _ _ _ _ _ rfl rfl rfl ?_; try simp only [*]) | (refine wpList_cmp _ rfl .gtr (by simp) _ _ _ _ _ _ _ rfl rfl rfl ?_; try simp only [*]) | (refine wpList_cmp _ rfl .neq (by simp) _ _ _ _ _ _ _ rfl rfl rfl ?_; try simp only [*]) | (refine wpList_cmp _ rfl .eql (by simp) _ _ _ _ _ _ _ rfl rfl rfl ?_; try simp only [*]) | (refine wpList_cmp _ rfl .leq (by simp) _ _ _ _ _ _ _ rfl rfl rfl ?_; try simp only [*]) | (refine wpList_neg _ rfl _ _ _ _ rfl rfl ?_; intro r hr))
                go_roundw
                case rel => exact ⟨j + 1, _, _, by omega, by go_num, rfl, by simp only [angP, wOne, *], rfl⟩
                case measure => simp [intOf]; omega
              · obtain rfl : j = 8 := by omega
                have hRR : fop .quo .f64 (fop .mul .f64 4620693217682128896 (fop .mul .f64 (angI (angT A B) 3) (angP (fop .mul .f64 (angI (angT A B) 3) (angI (angT A B) 3)) 8))) 4618760256179416344 = angR (angI (angT A B) 3) := rfl
                by_cases hnx : nx = true <;> by_cases hny : ny = true
                all_goals
                  try simp only [Bool.not_eq_true] at hnx hny
                  go_wp2_with (first | (refine wpList_fl _ rfl .add (by simp) _ _ _ _ _ _ _ rfl rfl rfl ?_; intro r n hr) | (refine wpList_fl _ rfl .sub (by simp) _ _ _ _ _ _ _ rfl rfl rfl ?_; intro r n hr) | (refine wpList_fl _ rfl .mul (by simp) _ _ _ _ _ _ _ rfl rfl rfl ?_; intro r n hr) | (refine wpList_fl _ rfl .quo (by simp) _ _ _ _ _ _ _ rfl rfl rfl ?_; intro r n hr) | (refine wpList_cmp _ rfl .lss (by simp) _ _ _ _ _ _ _ rfl rfl rfl ?_; try simp only [*]) | (refine wpList_cmp _ rfl .geq (by simp) _ _ _ _ _ _ _ rfl rfl rfl ?_; try simp only [*]) | (refine wpList_cmp _ rfl .gtr (by simp) _ _ _ _ _ _ _ rfl rfl rfl ?_; try simp only [*]) | (refine wpList_cmp _ rfl .neq (by simp) _ _ _ _ _ _ _ rfl rfl rfl ?_; try simp only [*]) | (refine wpList_cmp _ rfl .eql (by simp) _ _ _ _ _ _ _ rfl rfl rfl ?_; try simp only [*]) | (refine wpList_cmp _ rfl .leq (by simp) _ _ _ _ _ _ _ rfl rfl rfl ?_; try simp only [*]) | (refine wpList_neg _ rfl _ _ _ _ rfl rfl ?_; intro r hr))
                  go_ret
                  exact ⟨_, _, rfl, by rw [HR.out]; simp only [ang2, ang3, wHalf, wQuarter, Bool.false_eq_true, if_true, if_false, *], rfl⟩
      · simp only [Bool.not_eq_true] at tov
        have hT : fop .quo .f64 A B = angT A B := by unfold angT; rw [tov]; rfl
        have hR : ∀ nx ny, angF A B nx ny = ang3 ny (ang2 nx (angR (angI (angT A B) 3))) := fun nx ny => by unfold angF ang1; rw [tov]; rfl
        have HR := Lib.hid hR
        clear hR
        go_enter Try.func74, Try.ntmps74
        go_wp2_with (first | (go_at_call 54; (first | (with_reducible refine (HAy.out _).mono ?_) | (with_reducible refine (HAx.out _).mono ?_)); rintro e w' ⟨rfl, rfl⟩) | (first | (refine wpList_fl _ rfl .add (by simp) _ _ _ _ _ _ _ rfl rfl rfl ?_; intro r n hr) | (refine wpList_fl _ rfl .sub (by simp) _ _ _ _ _ _ _ rfl rfl rfl ?_; intro r n hr) | (refine wpList_fl _ rfl .mul (by simp) _ _ _ _ _ _ _ rfl rfl rfl ?_; intro r n hr) | (refine wpList_fl _ rfl .quo (by simp) _ _ _ _ _ _ _ rfl rfl rfl ?_; intro r n hr) | (refine wpList_cmp _ rfl .lss (by simp) _ _ _ _ _ _ _ rfl rfl rfl ?_; try simp only [*]) | (refine wpList_cmp _ rfl .geq (by simp) _ _ _ _ _ _ _ rfl rfl rfl ?_; try simp only [*]) | (refine wpList_cmp _ rfl .gtr (by simp) _ _ _ _ _ _ _ rfl rfl rfl ?_; try simp only [*]) | (refine wpList_cmp _ rfl .neq (by simp) _ _ _ _ _ _ _ rfl rfl rfl ?_; try simp only [*]) | (refine wpList_cmp _ rfl .eql (by simp) _ _ _ _ _ _ _ rfl rfl rfl ?_; try simp only [*]) | (refine wpList_cmp _ rfl .leq (by simp) _ _ _ _ _ _ _ rfl rfl rfl ?_; try simp only [*]) | (refine wpList_neg _ rfl _ _ _ _ rfl rfl ?_; intro r hr)))
        go_loopw [8, 9] (fun t k wr => ∃ (j r m : Nat), j ≤ 3 ∧ k = .int .i64 (j : Int) ∧ t = .float .f64 r ∧ can .f64 r = angI (angT A B) j ∧ wr = w.drewN m) (fun _ k _ => 4 - (intOf k).toNat)
        case atStart => exact ⟨0, _, _, by omega, rfl, rfl, by simp only [angI, *], rfl⟩
        case round =>
          obtain ⟨j, r, m, hj, rfl, rfl, hp, rfl⟩ := hrel
          by_cases hlt : j < 3
          · go_wp2_with (first | (go_at_call 50; refine (mathSqrt _ _).mono ?_; rintro e w' ⟨r, n, rfl, hr, rfl⟩) | (first | (refine wpList_fl _ rfl .add (by simp) _ _ _ _ _ _ _ rfl rfl rfl ?_; intro r n hr) | (refine wpList_fl _ rfl .sub (by simp) _ _ _ _ _ _ _ rfl rfl rfl ?_; intro r n hr) | (refine wpList_fl _ rfl .mul (by simp) _ _ _ _ _ _ _ rfl rfl rfl ?_; intro r n hr) | (refine wpList_fl _ rfl .quo (by simp) _ _ _ _ _ _ _ rfl rfl rfl ?_; intro r n hr) | (refine wpList_cmp _ rfl .lss (by simp) _ _ _ _ _ _ _ rfl rfl rfl ?_; try simp only [*]) | (refine wpList_cmp _ rfl .geq (by simp) _ _ _ _ _ _ _ rfl rfl rfl ?_; try simp only [*]) | (refine wpList_cmp _ rfl .gtr (by simp) _ _ _ _ _ _ _ rfl rfl rfl ?_; try simp only [*]) | (refine wpList_cmp _ rfl .neq (by simp) _ _ _ _ _ _ _ rfl rfl rfl ?_; try simp only [*]) | (refine wpList_cmp _ rfl .eql (by simp) _ _ _ _ _ _ _ rfl rfl rfl ?_; try simp only [*]) | (refine wpList_cmp _ rfl .leq (by simp) _ _ _ _ _ _ _ rfl rfl rfl ?_; try simp only [*]) | (refine wpList_neg _ rfl _ _ _ _ rfl rfl ?_; intro r hr)))
            go_roundw
            case rel => exact ⟨j + 1, _, _, by omega, by go_num, rfl, by simp only [angI, angS, wOne, *], rfl⟩
            case measure => simp [intOf]; omega
          · obtain rfl : j = 3 := by omega
            go_wp2_with (first | (refine wpList_fl _ rfl .add (by simp) _ _ _ _ _ _ _ rfl rfl rfl ?_; intro r n hr) | (refine wpList_fl _ rfl .sub (by simp) _ _ _ _ _ _ _ rfl rfl rfl ?_; intro r n hr) | (refine wpList_fl _ rfl .mul (by simp) _ _ _ _ _ _ _ rfl rfl rfl ?_; intro r n hr) | (refine wpList_fl _ rfl .quo (by simp) _ _ _ _ _ _ _ rfl rfl rfl ?_; intro r n hr) | (refine wpList_cmp _ rfl .lss (by simp) _ _ _ _ _ _ _ rfl rfl rfl ?_; try simp only [*]) | (refine wpList_cmp _ rfl .geq (by simp) _ _ _ _ _ _ _ rfl rfl rfl ?_; try simp only [*]) | (refine wpList_cmp _ rfl .gtr (by simp) _ _ _ _ _ _ _ rfl rfl rfl ?_; try simp only [*]) | (refine wpList_cmp _ rfl .neq (by simp) _ _ _ _ _ _ _ rfl rfl rfl ?_; try simp only [*]) | (refine wpList_cmp _ rfl .eql (by simp) _ _ _ _ _ _ _ rfl rfl rfl ?_; try simp only [*]) | (refine wpList_cmp _ rfl .leq (by simp) _ _ _ _ _ _ _ rfl rfl rfl ?_; try simp only [*]) | (refine wpList_neg _ rfl _ _ _ _ rfl rfl ?_; intro r hr))
            go_loopw [11, 12] (fun p k wr => ∃ (j r m : Nat), j ≤ 8 ∧ k = .int .i64 (15 - 2 * (j : Int)) ∧ p = .float .f64 r ∧ can .f64 r = angP (fop .mul .f64 (angI (angT A B) 3) (angI (angT A B) 3)) j ∧ wr = w.drewN m) (fun _ k _ => (intOf k + 2).toNat)
            case atStart => exact ⟨0, _, _, by omega, rfl, rfl, c0, rfl⟩
            case round =>
              obtain ⟨j, r, m, hj, rfl, rfl, hq, rfl⟩ := hrel
              by_cases hlt2 : j < 8
              · have hge : (1 : Int) ≤ 15 - 2 * (j : Int) := by omega
                go_wp2_with (first | (refine wpList_fl _ rfl .add (by simp) _ _ _ _ _ _ _ rfl rfl rfl ?_; intro r n hr) | (refine wpList_fl _ rfl .sub (by simp) _ _ _ _ _ _ _ rfl rfl rfl ?_; intro r n hr) | (refine wpList_fl _ rfl .mul (by simp) _ _ _ _ _ _ _ rfl rfl rfl ?_; intro r n hr) | (refine wpList_fl _ rfl .quo (by simp) _ _ _ _ _ _ _ rfl rfl rfl ?_; intro r n hr) | (refine wpList_cmp _ rfl .lss (by simp) _ _ _ _ _ _ _ rfl rfl rfl ?_; try simp only [*]) | (refine wpList_cmp _ rfl .geq (by simp) _ _ _ _ _ _ _ rfl rfl rfl ?_; try simp only [*]) | (refine wpList_cmp _ rfl .gtr (by simp) _ _ _ _ _ _ _ rfl rfl rfl ?_; try simp only [*]) | (refine wpList_cmp _ rfl .neq (by simp) _ _ _ _ _ _ _ rfl rfl rfl ?_; try simp only [*]) | (refine wpList_cmp _ rfl .eql (by simp) _ _ _ _ _ _ _ rfl rfl rfl ?_; try simp only [*]) | (refine wpList_cmp _ rfl .leq (by simp) _ _ _ _ _ _ _ rfl rfl rfl ?_; try simp only [*]) | (refine wpList_neg _ rfl _ _ _ _ rfl rfl ?_; intro r hr))
                go_roundw
                case rel => exact ⟨j + 1, _, _, by omega, by go_num, rfl, by simp only [angP, wOne, *], rfl⟩
                case measure => simp [intOf]; omega
              · obtain rfl : j = 8 := by omega
                have hRR : fop .quo .f64 (fop .mul .f64 4620693217682128896 (fop .mul .f64 (angI (angT A B) 3) (angP (fop .mul .f64 (angI (angT A B) 3) (angI (angT A B) 3)) 8))) 4618760256179416344 = angR (angI (angT A B) 3) := rfl
                by_cases hnx : nx = true <;> by_cases hny : ny = true
                all_goals
                  try simp only [Bool.not_eq_true] at hnx hny
                  go_wp2_with (first | (refine wpList_fl _ rfl .add (by simp) _ _ _ _ _ _ _ rfl rfl rfl ?_; intro r n hr) | (refine wpList_fl _ rfl .sub (by simp) _ _ _ _ _ _ _ rfl rfl rfl ?_; intro r n hr) | (refine wpList_fl _ rfl .mul (by simp) _ _ _ _ _ _ _ rfl rfl rfl ?_; intro r n hr) | (refine wpList_fl _ rfl .quo (by simp) _ _ _ _ _ _ _ rfl rfl rfl ?_; intro r n hr) | (refine wpList_cmp _ rfl .lss (by simp) _ _ _ _ _ _ _ rfl rfl rfl ?_; try simp only [*]) | (refine wpList_cmp _ rfl .geq (by simp) _ _ _ _ _ _ _ rfl rfl rfl ?_; try simp only [*]) | (refine wpList_cmp _ rfl .gtr (by simp) _ _ _ _ _ _ _ rfl rfl rfl ?_; try simp only [*]) | (refine wpList_cmp _ rfl .neq (by simp) _ _ _ _ _ _ _ rfl rfl rfl ?_; try simp only [*]) | (refine wpList_cmp _ rfl .eql (by simp) _ _ _ _ _ _ _ rfl rfl rfl ?_; try simp only [*]) | (refine wpList_cmp _ rfl .leq (by simp) _ _ _ _ _ _ _ rfl rfl rfl ?_; try simp only [*]) | (refine wpList_neg _ rfl _ _ _ _ rfl rfl ?_; intro r hr))
                  go_ret
                  exact ⟨_, _, rfl, by rw [HR.out]; simp only [ang2, ang3, wHalf, wQuarter, Bool.false_eq_true, if_true, if_false, *], rfl⟩
    · skip
      by_cases tov : cmpF .gtr .f64 A B = true
      · have hT : fop .quo .f64 B A = angT A B := by unfold angT; rw [tov]; rfl
        have hR : ∀ nx ny, angF A B nx ny = ang3 ny (ang2 nx (fop .sub .f64 wQuarter (angR (angI (angT A B) 3)))) := fun nx ny => by unfold angF ang1; rw [tov]; rfl
        have HR := Lib.hid hR
        clear hR
        go_enter Try.func74, Try.ntmps74
        go_wp2_with (first | (go_at_call 54; (first | (with_reducible refine (HAy.out _).mono ?_) | (with_reducible refine (HAx.out _).mono ?_)); rintro e w' ⟨rfl, rfl⟩) | (first | (refine wpList_fl _ rfl .add (by simp) _ _ _ _ _ _ _ rfl rfl rfl ?_; intro r n hr) | (refine wpList_fl _ rfl .sub (by simp) _ _ _ _ _ _ _ rfl rfl rfl ?_; intro r n hr) | (refine wpList_fl _ rfl .mul (by simp) _ _ _ _ _ _ _ rfl rfl rfl ?_; intro r n hr) | (refine wpList_fl _ rfl .quo (by simp) _ _ _ _ _ _ _ rfl rfl rfl ?_; intro r n hr) | (refine wpList_cmp _ rfl .lss (by simp) _ _ _ _ _ _ _ rfl rfl rfl ?_; try simp only [*]) | (refine wpList_cmp _ rfl .geq (by simp) _ _ _ _ _ _ _ rfl rfl rfl ?_; try simp only [*]) | (refine wpList_cmp _ rfl .gtr (by simp) _ _ _ _ _ _ _ rfl rfl rfl ?_; try simp only [*]) | (refine wpList_cmp _ rfl .neq (by simp) _ _ _ _ _ _ _ rfl rfl rfl ?_; try simp only [*]) | (refine wpList_cmp _ rfl .eql (by simp) _ _ _ _ _ _ _ rfl rfl rfl ?_; try simp only [*]) | (refine wpList_cmp _ rfl .leq (by simp) _ _ _ _ _ _ _ rfl rfl rfl ?_; try simp only [*]) | (refine wpList_neg _ rfl _ _ _ _ rfl rfl ?_; intro r hr)))
        go_loopw [8, 9] (fun t k wr => ∃ (j r m : Nat), j ≤ 3 ∧ k = .int .i64 (j : Int) ∧ t = .float .f64 r ∧ can .f64 r = angI (angT A B) j ∧ wr = w.drewN m) (fun _ k _ => 4 - (intOf k).toNat)
        case atStart => exact ⟨0, _, _, by omega, rfl, rfl, by simp only [angI, *], rfl⟩
        case round =>
          obtain ⟨j, r, m, hj, rfl, rfl, hp, rfl⟩ := hrel
          by_cases hlt : j < 3
          · go_wp2_with (first | (go_at_call 50; refine (mathSqrt _ _).mono ?_; rintro e w' ⟨r, n, rfl, hr, rfl⟩) | (first | (refine wpList_fl _ rfl .add (by simp) _ _ _ _ _ _ _ rfl rfl rfl ?_; intro r n hr) | (refine wpList_fl _ rfl .sub (by simp) _ _ _ _ _ _ _ rfl rfl rfl ?_; intro r n hr) | (refine wpList_fl _ rfl .mul (by simp) _ _ _ _ _ _ _ rfl rfl rfl ?_; intro r n hr) | (refine wpList_fl _ rfl .quo (by simp) _ _ _ _ _ _ _ rfl rfl rfl ?_; intro r n hr) | (refine wpList_cmp _ rfl .lss (by simp) _ _ _ _ _ _ _ rfl rfl rfl ?_; try simp only [*]) | (refine wpList_cmp _ rfl .geq (by simp) _ _ _ _ _ _ _ rfl rfl rfl ?_; try simp only [*]) | (refine wpList_cmp _ rfl .gtr (by simp) _ _ _ _ _ _ _ rfl rfl rfl ?_; try simp only [*]) | (refine wpList_cmp _ rfl .neq (by simp) _ _ _ _ _ _ _ rfl rfl rfl ?_; try simp only [*]) | (refine wpList_cmp _ rfl .eql (by simp) _ _ _ _ _ _ _ rfl rfl rfl ?_; try simp only [*]) | (refine wpList_cmp _ rfl .leq (by simp) _ _ _ _ _ _ _ rfl rfl rfl ?_; try simp only [*]) | (refine wpList_neg _ rfl _ _ _ _ rfl rfl ?_; intro r hr)))
            go_roundw
            case rel => exact ⟨j + 1, _, _, by omega, by go_num, rfl, by simp only [angI, angS, wOne, *], rfl⟩
            case measure => simp [intOf]; omega
          · obtain rfl : j = 3 := by omega
            go_wp2_with (first | (refine wpList_fl _ rfl .add (by simp) _ _ _ _ _ _ _ rfl rfl rfl ?_; intro r n hr) | (refine wpList_fl _ rfl .sub (by simp) _ _ _ _ _ _ _ rfl rfl rfl ?_; intro r n hr) | (refine wpList_fl _ rfl .mul (by simp) _ _ _ _ _ _ _ rfl rfl rfl ?_; intro r n hr) | (refine wpList_fl _ rfl .quo (by simp) _ _ _ _ _ _ _ rfl rfl rfl ?_; intro r n hr) | (refine wpList_cmp _ rfl .lss (by simp) _ _ _ _ _ _ _ rfl rfl rfl ?_; try simp only [*]) | (refine wpList_cmp _ rfl .geq (by simp) _ _ _ _ _ _ _ rfl rfl rfl ?_; try simp only [*]) | (refine wpList_cmp _ rfl .gtr (by simp) _ _ _ _ _ _ _ rfl rfl rfl ?_; try simp only [*]) | (refine wpList_cmp _ rfl .neq (by simp) _ _ _ _ _ _ _ rfl rfl rfl ?_; try simp only [*]) | (refine wpList_cmp _ rfl .eql (by simp) _ _ _ _ _ _ _ rfl rfl rfl ?_; try simp only [*]) | (refine wpList_cmp _ rfl .leq (by simp) _ _ _ _ _ _ _ rfl rfl rfl ?_; try simp only [*]) | (refine wpList_neg _ rfl _ _ _ _ rfl rfl ?_; intro r hr))
            go_loopw [11, 12] (fun p k wr => ∃ (j r m : Nat), j ≤ 8 ∧ k = .int .i64 (15 - 2 * (j : Int)) ∧ p = .float .f64 r ∧ can .f64 r = angP (fop .mul .f64 (angI (angT A B) 3) (angI (angT A B) 3)) j ∧ wr = w.drewN m) (fun _ k _ => (intOf k + 2).toNat)
            case atStart => exact ⟨0, _, _, by omega, rfl, rfl, c0, rfl⟩
            case round =>
              obtain ⟨j, r, m, hj, rfl, rfl, hq, rfl⟩ := hrel
              by_cases hlt2 : j < 8
              · have hge : (1 : Int) ≤ 15 - 2 * (j : Int) := by omega
                go_wp2_with (first | (refine wpList_fl _ rfl .add (by simp) _ _ _ _ _ _ _ rfl rfl rfl ?_; intro r n hr) | (refine wpList_fl _ rfl .sub (by simp) _ _ _ _ _ _ _ rfl rfl rfl ?_; intro r n hr) | (refine wpList_fl _ rfl .mul (by simp) _ _ _ _ _ _ _ rfl rfl rfl ?_; intro r n hr) | (refine wpList_fl _ rfl .quo (by simp) _ _ _ _ _ _ _ rfl rfl rfl ?_; intro r n hr) | (refine wpList_cmp _ rfl .lss (by simp) _ _ _ _ _ _ _ rfl rfl rfl ?_; try simp only [*]) | (refine wpList_cmp _ rfl .geq (by simp) _ _ _ _ _ _ _ rfl rfl rfl ?_; try simp only [*]) | (refine wpList_cmp _ rfl .gtr (by simp) _ _ _ _ _ _ _ rfl rfl rfl ?_; try simp only [*]) | (refine wpList_cmp _ rfl .neq (by simp) _ _ _ _ _ _ _ rfl rfl rfl ?_; try simp only [*]) | (refine wpList_cmp _ rfl .eql (by simp) _ _ _ _ _ _ _ rfl rfl rfl ?_; try simp only [*]) | (refine wpList_cmp _ rfl .leq (by simp) _ _ _ _ _ _ _ rfl rfl rfl ?_; try simp only [*]) | (refine wpList_neg _ rfl _ _ _ _ rfl rfl ?_; intro r hr))
                go_roundw
                case rel => exact ⟨j + 1, _, _, by omega, by go_num, rfl, by simp only [angP, wOne, *], rfl⟩
                case measure => simp [intOf]; omega
              · obtain rfl : j = 8 := by omega
                have hRR : fop .quo .f64 (fop .mul .f64 4620693217682128896 (fop .mul .f64 (angI (angT A B) 3) (angP (fop .mul .f64 (angI (angT A B) 3) (angI (angT A B) 3)) 8))) 4618760256179416344 = angR (angI (angT A B) 3) := rfl
                by_cases hnx : nx = true <;> by_cases hny : ny = true
                all_goals
                  try simp only [Bool.not_eq_true] at hnx hny
                  go_wp2_with (first | (refine wpList_fl _ rfl .add (by simp) _ _ _ _ _ _ _ rfl rfl rfl ?_; intro r n hr) | (refine wpList_fl _ rfl .sub (by simp) _ _ _ _ _ _ _ rfl rfl rfl ?_; intro r n hr) | (refine wpList_fl _ rfl .mul (by simp) _ _ _ _ _ _ _ rfl rfl rfl ?_; intro r n hr) | (refine wpList_fl _ rfl .quo (by simp) _ _ _ _ _ _ _ rfl rfl rfl ?_; intro r n hr) | (refine wpList_cmp _ rfl .lss (by simp) _ _ _ _ _ _ _ rfl rfl rfl ?_; try simp only [*]) | (refine wpList_cmp _ rfl .geq (by simp) _ _ _ _ _ _ _ rfl rfl rfl ?_; try simp only [*]) | (refine wpList_cmp _ rfl .gtr (by simp) _ _ _ _ _ _ _ rfl rfl rfl ?_; try simp only [*]) | (refine wpList_cmp _ rfl .neq (by simp) _ _ _ _ _ _ _ rfl rfl rfl ?_; try simp only [*]) | (refine wpList_cmp _ rfl .eql (by simp) _ _ _ _ _ _ _ rfl rfl rfl ?_; try simp only [*]) | (refine wpList_cmp _ rfl .leq (by simp) _ _ _ _ _ _ _ rfl rfl rfl ?_; try simp only [*]) | (refine wpList_neg _ rfl _ _ _ _ rfl rfl ?_; intro r hr))
                  go_ret
                  exact ⟨_, _, rfl, by rw [HR.out]; simp only [ang2, ang3, wHalf, wQuarter, Bool.false_eq_true, if_true, if_false, *], rfl⟩
      · simp only [Bool.not_eq_true] at tov
        have hT : fop .quo .f64 A B = angT A B := by unfold angT; rw [tov]; rfl
        have hR : ∀ nx ny, angF A B nx ny = ang3 ny (ang2 nx (angR (angI (angT A B) 3))) := fun nx ny => by unfold angF ang1; rw [tov]; rfl
        have HR := Lib.hid hR
        clear hR
        go_enter Try.func74, Try.ntmps74
        go_wp2_with (first | (go_at_call 54; (first | (with_reducible refine (HAy.out _).mono ?_) | (with_reducible refine (HAx.out _).mono ?_)); rintro e w' ⟨rfl, rfl⟩) | (first | (refine wpList_fl _ rfl .add (by simp) _ _ _ _ _ _ _ rfl rfl rfl ?_; intro r n hr) | (refine wpList_fl _ rfl .sub (by simp) _ _ _ _ _ _ _ rfl rfl rfl ?_; intro r n hr) | (refine wpList_fl _ rfl .mul (by simp) _ _ _ _ _ _ _ rfl rfl rfl ?_; intro r n hr) | (refine wpList_fl _ rfl .quo (by simp) _ _ _ _ _ _ _ rfl rfl rfl ?_; intro r n hr) | (refine wpList_cmp _ rfl .lss (by simp) _ _ _ _ _ _ _ rfl rfl rfl ?_; try simp only [*]) | (refine wpList_cmp _ rfl .geq (by simp) _ _ _ _ _ _ _ rfl rfl rfl ?_; try simp only [*]) | (refine wpList_cmp _ rfl .gtr (by simp) _ _ _ _ _ _ _ rfl rfl rfl ?_; try simp only [*]) | (refine wpList_cmp _ rfl .neq (by simp) _ _ _ _ _ _ _ rfl rfl rfl ?_; try simp only [*]) | (refine wpList_cmp _ rfl .eql (by simp) _ _ _ _ _ _ _ rfl rfl rfl ?_; try simp only [*]) | (refine wpList_cmp _ rfl .leq (by simp) _ _ _ _ _ _ _ rfl rfl rfl ?_; try simp only [*]) | (refine wpList_neg _ rfl _ _ _ _ rfl rfl ?_; intro r hr)))
        go_loopw [8, 9] (fun t k wr => ∃ (j r m : Nat), j ≤ 3 ∧ k = .int .i64 (j : Int) ∧ t = .float .f64 r ∧ can .f64 r = angI (angT A B) j ∧ wr = w.drewN m) (fun _ k _ => 4 - (intOf k).toNat)
        case atStart => exact ⟨0, _, _, by omega, rfl, rfl, by simp only [angI, *], rfl⟩
        case round =>
          obtain ⟨j, r, m, hj, rfl, rfl, hp, rfl⟩ := hrel
          by_cases hlt : j < 3
          · go_wp2_with (first | (go_at_call 50; refine (mathSqrt _ _).mono ?_; rintro e w' ⟨r, n, rfl, hr, rfl⟩) | (first | (refine wpList_fl _ rfl .add (by simp) _ _ _ _ _ _ _ rfl rfl rfl ?_; intro r n hr) | (refine wpList_fl _ rfl .sub (by simp) _ _ _ _ _ _ _ rfl rfl rfl ?_; intro r n hr) | (refine wpList_fl _ rfl .mul (by simp) _ _ _ _ _ _ _ rfl rfl rfl ?_; intro r n hr) | (refine wpList_fl _ rfl .quo (by simp) _ _ _ _ _ _ _ rfl rfl rfl ?_; intro r n hr) | (refine wpList_cmp _ rfl .lss (by simp) _ _ _ _ _ _ _ rfl rfl rfl ?_; try simp only [*]) | (refine wpList_cmp _ rfl .geq (by simp) _ _ _ _ _ _ _ rfl rfl rfl ?_; try simp only [*]) | (refine wpList_cmp _ rfl .gtr (by simp) _ _ _ _ _ _ _ rfl rfl rfl ?_; try simp only [*]) | (refine wpList_cmp _ rfl .neq (by simp) _ _ _ _ _ _ _ rfl rfl rfl ?_; try simp only [*]) | (refine wpList_cmp _ rfl .eql (by simp) _ _ _ _ _ _ _ rfl rfl rfl ?_; try simp only [*]) | (refine wpList_cmp _ rfl .leq (by simp) _ _ _ _ _ _ _ rfl rfl rfl ?_; try simp only [*]) | (refine wpList_neg _ rfl _ _ _ _ rfl rfl ?_; intro r hr)))
            go_roundw
            case rel => exact ⟨j + 1, _, _, by omega, by go_num, rfl, by simp only [angI, angS, wOne, *], rfl⟩
            case measure => simp [intOf]; omega
          · obtain rfl : j = 3 := by omega
            go_wp2_with (first | (refine wpList_fl _ rfl .add (by simp) _ _ _ _ _ _ _ rfl rfl rfl ?_; intro r n hr) | (refine wpList_fl _ rfl .sub (by simp) _ _ _ _ _ _ _ rfl rfl rfl ?_; intro r n hr) | (refine wpList_fl _ rfl .mul (by simp) _ _ _ _ _ _ _ rfl rfl rfl ?_; intro r n hr) | (refine wpList_fl _ rfl .quo (by simp) _ _ _ _ _ _ _ rfl rfl rfl ?_; intro r n hr) | (refine wpList_cmp _ rfl .lss (by simp) _ _ _ _ _ _ _ rfl rfl rfl ?_; try simp only [*]) | (refine wpList_cmp _ rfl .geq (by simp) _ _ _ _ _ _ _ rfl rfl rfl ?_; try simp only [*]) | (refine wpList_cmp _ rfl .gtr (by simp) _ _ _ _ _ _ _ rfl rfl rfl ?_; try simp only [*]) | (refine wpList_cmp _ rfl .neq (by simp) _ _ _ _ _ _ _ rfl rfl rfl ?_; try simp only [*]) | (refine wpList_cmp _ rfl .eql (by simp) _ _ _ _ _ _ _ rfl rfl rfl ?_; try simp only [*]) | (refine wpList_cmp _ rfl .leq (by simp) _ _ _ _ _ _ _ rfl rfl rfl ?_; try simp only [*]) | (refine wpList_neg _ rfl _ _ _ _ rfl rfl ?_; intro r hr))
            go_loopw [11, 12] (fun p k wr => ∃ (j r m : Nat), j ≤ 8 ∧ k = .int .i64 (15 - 2 * (j : Int)) ∧ p = .float .f64 r ∧ can .f64 r = angP (fop .mul .f64 (angI (angT A B) 3) (angI (angT A B) 3)) j ∧ wr = w.drewN m) (fun _ k _ => (intOf k + 2).toNat)
            case atStart => exact ⟨0, _, _, by omega, rfl, rfl, c0, rfl⟩
            case round =>
              obtain ⟨j, r, m, hj, rfl, rfl, hq, rfl⟩ := hrel
              by_cases hlt2 : j < 8
              · have hge : (1 : Int) ≤ 15 - 2 * (j : Int) := by omega
                go_wp2_with (first | (refine wpList_fl _ rfl .add (by simp) _ _ _ _ _ _ _ rfl rfl rfl ?_; intro r n hr) | (refine wpList_fl _ rfl .sub (by simp) _ _ _ _ _ _ _ rfl rfl rfl ?_; intro r n hr) | (refine wpList_fl _ rfl .mul (by simp) _ _ _ _ _ _ _ rfl rfl rfl ?_; intro r n hr) | (refine wpList_fl _ rfl .quo (by simp) _ _ _ _ _ _ _ rfl rfl rfl ?_; intro r n hr) | (refine wpList_cmp _ rfl .lss (by simp) _ _ _ _ _ _ _ rfl rfl rfl ?_; try simp only [*]) | (refine wpList_cmp _ rfl .geq (by simp) _ _ _ _ _ _ _ rfl rfl rfl ?_; try simp only [*]) | (refine wpList_cmp _ rfl .gtr (by simp) _ _ _ _ _ _ _ rfl rfl rfl ?_; try simp only [*]) | (refine wpList_cmp _ rfl .neq (by simp) _ _ _ _ _ _ _ rfl rfl rfl ?_; try simp only [*]) | (refine wpList_cmp _ rfl .eql (by simp) _ _ _ _ _ _ _ rfl rfl rfl ?_; try simp only [*]) | (refine wpList_cmp _ rfl .leq (by simp) _ _ _ _ _ _ _ rfl rfl rfl ?_; try simp only [*]) | (refine wpList_neg _ rfl _ _ _ _ rfl rfl ?_; intro r hr))
                go_roundw
                case rel => exact ⟨j + 1, _, _, by omega, by go_num, rfl, by simp only [angP, wOne, *], rfl⟩
                case measure => simp [intOf]; omega
              · obtain rfl : j = 8 := by omega
                have hRR : fop .quo .f64 (fop .mul .f64 4620693217682128896 (fop .mul .f64 (angI (angT A B) 3) (angP (fop .mul .f64 (angI (angT A B) 3) (angI (angT A B) 3)) 8))) 4618760256179416344 = angR (angI (angT A B) 3) := rfl
                by_cases hnx : nx = true <;> by_cases hny : ny = true
                all_goals
                  try simp only [Bool.not_eq_true] at hnx hny
                  go_wp2_with (first | (refine wpList_fl _ rfl .add (by simp) _ _ _ _ _ _ _ rfl rfl rfl ?_; intro r n hr) | (refine wpList_fl _ rfl .sub (by simp) _ _ _ _ _ _ _ rfl rfl rfl ?_; intro r n hr) | (refine wpList_fl _ rfl .mul (by simp) _ _ _ _ _ _ _ rfl rfl rfl ?_; intro r n hr) | (refine wpList_fl _ rfl .quo (by simp) _ _ _ _ _ _ _ rfl rfl rfl ?_; intro r n hr) | (refine wpList_cmp _ rfl .lss (by simp) _ _ _ _ _ _ _ rfl rfl rfl ?_; try simp only [*]) | (refine wpList_cmp _ rfl .geq (by simp) _ _ _ _ _ _ _ rfl rfl rfl ?_; try simp only [*]) | (refine wpList_cmp _ rfl .gtr (by simp) _ _ _ _ _ _ _ rfl rfl rfl ?_; try simp only [*]) | (refine wpList_cmp _ rfl .neq (by simp) _ _ _ _ _ _ _ rfl rfl rfl ?_; try simp only [*]) | (refine wpList_cmp _ rfl .eql (by simp) _ _ _ _ _ _ _ rfl rfl rfl ?_; try simp only [*]) | (refine wpList_cmp _ rfl .leq (by simp) _ _ _ _ _ _ _ rfl rfl rfl ?_; try simp only [*]) | (refine wpList_neg _ rfl _ _ _ _ rfl rfl ?_; intro r hr))
                  go_ret
                  exact ⟨_, _, rfl, by rw [HR.out]; simp only [ang2, ang3, wHalf, wQuarter, Bool.false_eq_true, if_true, if_false, *], rfl⟩
  · have ex' : cmpF .eql .f64 x 0 = false := by rw [ex]; simpa using hz
    clear ex ey fy fx h0 hz hy hx
    by_cases tov : cmpF .gtr .f64 A B = true
    · have hT : fop .quo .f64 B A = angT A B := by unfold angT; rw [tov]; rfl
      have hR : ∀ nx ny, angF A B nx ny = ang3 ny (ang2 nx (fop .sub .f64 wQuarter (angR (angI (angT A B) 3)))) := fun nx ny => by unfold angF ang1; rw [tov]; rfl
      have HR := Lib.hid hR
      clear hR
      go_enter Try.func74, Try.ntmps74
      go_wp2_with (first | (go_at_call 54; (first | (with_reducible refine (HAy.out _).mono ?_) | (with_reducible refine (HAx.out _).mono ?_)); rintro e w' ⟨rfl, rfl⟩) | (first | (refine wpList_fl _ rfl .add (by simp) _ _ _ _ _ _ _ rfl rfl rfl ?_; intro r n hr) | (refine wpList_fl _ rfl .sub (by simp) _ _ _ _ _ _ _ rfl rfl rfl ?_; intro r n hr) | (refine wpList_fl _ rfl .mul (by simp) _ _ _ _ _ _ _ rfl rfl rfl ?_; intro r n hr) | (refine wpList_fl _ rfl .quo (by simp) _ _ _ _ _ _ _ rfl rfl rfl ?_; intro r n hr) | (refine wpList_cmp _ rfl .lss (by simp) _ _ _ _ _ _ _ rfl rfl rfl ?_; try simp only [*]) | (refine wpList_cmp _ rfl .geq (by simp) _ _ _ _ _ _ _ rfl rfl rfl ?_; try simp only [*]) | (refine wpList_cmp _ rfl .gtr (by simp) _ _ _ _ _ _ _ rfl rfl rfl ?_; try simp only [*]) | (refine wpList_cmp _ rfl .neq (by simp) _ _ _ _ _ _ _ rfl rfl rfl ?_; try simp only [*]) | (refine wpList_cmp _ rfl .eql (by simp) _ _ _ _ _ _ _ rfl rfl rfl ?_; try simp only [*]) | (refine wpList_cmp _ rfl .leq (by simp) _ _ _ _ _ _ _ rfl rfl rfl ?_; try simp only [*]) | (refine wpList_neg _ rfl _ _ _ _ rfl rfl ?_; intro r hr)))
      go_loopw [8, 9] (fun t k wr => ∃ (j r m : Nat), j ≤ 3 ∧ k = .int .i64 (j : Int) ∧ t = .float .f64 r ∧ can .f64 r = angI (angT A B) j ∧ wr = w.drewN m) (fun _ k _ => 4 - (intOf k).toNat)
      case atStart => exact ⟨0, _, _, by omega, rfl, rfl, by simp only [angI, *], rfl⟩
      case round =>
        obtain ⟨j, r, m, hj, rfl, rfl, hp, rfl⟩ := hrel
        by_cases hlt : j < 3
        · go_wp2_with (first | (go_at_call 50; refine (mathSqrt _ _).mono ?_; rintro e w' ⟨r, n, rfl, hr, rfl⟩) | (first | (refine wpList_fl _ rfl .add (by simp) _ _ _ _ _ _ _ rfl rfl rfl ?_; intro r n hr) | (refine wpList_fl _ rfl .sub (by simp) _ _ _ _ _ _ _ rfl rfl rfl ?_; intro r n hr) | (refine wpList_fl _ rfl .mul (by simp) _ _ _ _ _ _ _ rfl rfl rfl ?_; intro r n hr) | (refine wpList_fl _ rfl .quo (by simp) _ _ _ _ _ _ _ rfl rfl rfl ?_; intro r n hr) | (refine wpList_cmp _ rfl .lss (by simp) _ _ _ _ _ _ _ rfl rfl rfl ?_; try simp only [*]) | (refine wpList_cmp _ rfl .geq (by simp) _ _ _ _ _ _ _ rfl rfl rfl ?_; try simp only [*]) | (refine wpList_cmp _ rfl .gtr (by simp) _ _ _ _ _ _ _ rfl rfl rfl ?_; try simp only [*]) | (refine wpList_cmp _ rfl .neq (by simp) _ _ _ _ _ _ _ rfl rfl rfl ?_; try simp only [*]) | (refine wpList_cmp _ rfl .eql (by simp) _ _ _ _ _ _ _ rfl rfl rfl ?_; try simp only [*]) | (refine wpList_cmp _ rfl .leq (by simp) _ _ _ _ _ _ _ rfl rfl rfl ?_; try simp only [*]) | (refine wpList_neg _ rfl _ _ _ _ rfl rfl ?_; intro r hr)))
          go_roundw
          case rel => exact ⟨j + 1, _, _, by omega, by go_num, rfl, by simp only [angI, angS, wOne, *], rfl⟩
          case measure => simp [intOf]; omega
        · obtain rfl : j = 3 := by omega
          go_wp2_with (first | (refine wpList_fl _ rfl .add (by simp) _ _ _ _ _ _ _ rfl rfl rfl ?_; intro r n hr) | (refine wpList_fl _ rfl .sub (by simp) _ _ _ _ _ _ _ rfl rfl rfl ?_; intro r n hr) | (refine wpList_fl _ rfl .mul (by simp) _ _ _ _ _ _ _ rfl rfl rfl ?_; intro r n hr) | (refine wpList_fl _ rfl .quo (by simp) _ _ _ _ _ _ _ rfl rfl rfl ?_; intro r n hr) | (refine wpList_cmp _ rfl .lss (by simp) _ _ _ _ _ _ _ rfl rfl rfl ?_; try simp only [*]) | (refine wpList_cmp _ rfl .geq (by simp) _ _ _ _ _ _ _ rfl rfl rfl ?_; try simp only [*]) | (refine wpList_cmp _ rfl .gtr (by simp) _ _ _ _ _ _ _ rfl rfl rfl ?_; try simp only [*]) | (refine wpList_cmp _ rfl .neq (by simp) _ _ _ _ _ _ _ rfl rfl rfl ?_; try simp only [*]) | (refine wpList_cmp _ rfl .eql (by simp) _ _ _ _ _ _ _ rfl rfl rfl ?_; try simp only [*]) | (refine wpList_cmp _ rfl .leq (by simp) _ _ _ _ _ _ _ rfl rfl rfl ?_; try simp only [*]) | (refine wpList_neg _ rfl _ _ _ _ rfl rfl ?_; intro r hr))
          go_loopw [11, 12] (fun p k wr => ∃ (j r m : Nat), j ≤ 8 ∧ k = .int .i64 (15 - 2 * (j : Int)) ∧ p = .float .f64 r ∧ can .f64 r = angP (fop .mul .f64 (angI (angT A B) 3) (angI (angT A B) 3)) j ∧ wr = w.drewN m) (fun _ k _ => (intOf k + 2).toNat)
          case atStart => exact ⟨0, _, _, by omega, rfl, rfl, c0, rfl⟩
          case round =>
            obtain ⟨j, r, m, hj, rfl, rfl, hq, rfl⟩ := hrel
            by_cases hlt2 : j < 8
            · have hge : (1 : Int) ≤ 15 - 2 * (j : Int) := by omega
              go_wp2_with (first | (refine wpList_fl _ rfl .add (by simp) _ _ _ _ _ _ _ rfl rfl rfl ?_; intro r n hr) | (refine wpList_fl _ rfl .sub (by simp) _ _ _ _ _ _ _ rfl rfl rfl ?_; intro r n hr) | (refine wpList_fl _ rfl .mul (by simp) _ _ _ _ _ _ _ rfl rfl rfl ?_; intro r n hr) | (refine wpList_fl _ rfl .quo (by simp) _ _ _ _ _ _ _ rfl rfl rfl ?_; intro r n hr) | (refine wpList_cmp _ rfl .lss (by simp) _ _ _ _ _ _ _ rfl rfl rfl ?_; try simp only [*]) | (refine wpList_cmp _ rfl .geq (by simp) _ _ _ _ _ _ _ rfl rfl rfl ?_; try simp only [*]) | (refine wpList_cmp _ rfl .gtr (by simp) _ _ _ _ _ _ _ rfl rfl rfl ?_; try simp only [*]) | (refine wpList_cmp _ rfl .neq (by simp) _ _ _ _ _ _ _ rfl rfl rfl ?_; try simp only [*]) | (refine wpList_cmp _ rfl .eql (by simp) _ _ _ _ _ _ _ rfl rfl rfl ?_; try simp only [*]) | (refine wpList_cmp _ rfl .leq (by simp) _ _ _ _ _ _ _ rfl rfl rfl ?_; try simp only [*]) | (refine wpList_neg _ rfl _ _ _ _ rfl rfl ?_; intro r hr))
              go_roundw
              case rel => exact ⟨j + 1, _, _, by omega, by go_num, rfl, by simp only [angP, wOne, *], rfl⟩
              case measure => simp [intOf]; omega
            · obtain rfl : j = 8 := by omega
              have hRR : fop .quo .f64 (fop .mul .f64 4620693217682128896 (fop .mul .f64 (angI (angT A B) 3) (angP (fop .mul .f64 (angI (angT A B) 3) (angI (angT A B) 3)) 8))) 4618760256179416344 = angR (angI (angT A B) 3) := rfl
              by_cases hnx : nx = true <;> by_cases hny : ny = true
              all_goals
                try simp only [Bool.not_eq_true] at hnx hny
                go_wp2_with (first | (refine wpList_fl _ rfl .add (by simp) _ _ _ _ _ _ _ rfl rfl rfl ?_; intro r n hr) | (refine wpList_fl _ rfl .sub (by simp) _ _ _ _ _ _ _ rfl rfl rfl ?_; intro r n hr) | (refine wpList_fl _ rfl .mul (by simp) _ _ _ _ _ _ _ rfl rfl rfl ?_; intro r n hr) | (refine wpList_fl _ rfl .quo (by simp) _ _ _ _ _ _ _ rfl rfl rfl ?_; intro r n hr) | (refine wpList_cmp _ rfl .lss (by simp) _ _ _ _ _ _ _ rfl rfl rfl ?_; try simp only [*]) | (refine wpList_cmp _ rfl .geq (by simp) _ _ _ _ _ _ _ rfl rfl rfl ?_; try simp only [*]) | (refine wpList_cmp _ rfl .gtr (by simp) _ _ _ _ _ _ _ rfl rfl rfl ?_; try simp only [*]) | (refine wpList_cmp _ rfl .neq (by simp) _ _ _ _ _ _ _ rfl rfl rfl ?_; try simp only [*]) | (refine wpList_cmp _ rfl .eql (by simp) _ _ _ _ _ _ _ rfl rfl rfl ?_; try simp only [*]) | (refine wpList_cmp _ rfl .leq (by simp) _ _ _ _ _ _ _ rfl rfl rfl ?_; try simp only [*]) | (refine wpList_neg _ rfl _ _ _ _ rfl rfl ?_; intro r hr))
                go_ret
                exact ⟨_, _, rfl, by rw [HR.out]; simp only [ang2, ang3, wHalf, wQuarter, Bool.false_eq_true, if_true, if_false, *], rfl⟩
    · simp only [Bool.not_eq_true] at tov
      have hT : fop .quo .f64 A B = angT A B := by unfold angT; rw [tov]; rfl
      have hR : ∀ nx ny, angF A B nx ny = ang3 ny (ang2 nx (angR (angI (angT A B) 3))) := fun nx ny => by unfold angF ang1; rw [tov]; rfl
      have HR := Lib.hid hR
      clear hR
      go_enter Try.func74, Try.ntmps74
      go_wp2_with (first | (go_at_call 54; (first | (with_reducible refine (HAy.out _).mono ?_) | (with_reducible refine (HAx.out _).mono ?_)); rintro e w' ⟨rfl, rfl⟩) | (first | (refine wpList_fl _ rfl .add (by simp) _ _ _ _ _ _ _ rfl rfl rfl ?_; intro r n hr) | (refine wpList_fl _ rfl .sub (by simp) _ _ _ _ _ _ _ rfl rfl rfl ?_; intro r n hr) | (refine wpList_fl _ rfl .mul (by simp) _ _ _ _ _ _ _ rfl rfl rfl ?_; intro r n hr) | (refine wpList_fl _ rfl .quo (by simp) _ _ _ _ _ _ _ rfl rfl rfl ?_; intro r n hr) | (refine wpList_cmp _ rfl .lss (by simp) _ _ _ _ _ _ _ rfl rfl rfl ?_; try simp only [*]) | (refine wpList_cmp _ rfl .geq (by simp) _ _ _ _ _ _ _ rfl rfl rfl ?_; try simp only [*]) | (refine wpList_cmp _ rfl .gtr (by simp) _ _ _ _ _ _ _ rfl rfl rfl ?_; try simp only [*]) | (refine wpList_cmp _ rfl .neq (by simp) _ _ _ _ _ _ _ rfl rfl rfl ?_; try simp only [*]) | (refine wpList_cmp _ rfl .eql (by simp) _ _ _ _ _ _ _ rfl rfl rfl ?_; try simp only [*]) | (refine wpList_cmp _ rfl .leq (by simp) _ _ _ _ _ _ _ rfl rfl rfl ?_; try simp only [*]) | (refine wpList_neg _ rfl _ _ _ _ rfl rfl ?_; intro r hr)))
      go_loopw [8, 9] (fun t k wr => ∃ (j r m : Nat), j ≤ 3 ∧ k = .int .i64 (j : Int) ∧ t = .float .f64 r ∧ can .f64 r = angI (angT A B) j ∧ wr = w.drewN m) (fun _ k _ => 4 - (intOf k).toNat)
      case atStart => exact ⟨0, _, _, by omega, rfl, rfl, by simp only [angI, *], rfl⟩
      case round =>
        obtain ⟨j, r, m, hj, rfl, rfl, hp, rfl⟩ := hrel
        by_cases hlt : j < 3
        · go_wp2_with (first | (go_at_call 50; refine (mathSqrt _ _).mono ?_; rintro e w' ⟨r, n, rfl, hr, rfl⟩) | (first | (refine wpList_fl _ rfl .add (by simp) _ _ _ _ _ _ _ rfl rfl rfl ?_; intro r n hr) | (refine wpList_fl _ rfl .sub (by simp) _ _ _ _ _ _ _ rfl rfl rfl ?_; intro r n hr) | (refine wpList_fl _ rfl .mul (by simp) _ _ _ _ _ _ _ rfl rfl rfl ?_; intro r n hr) | (refine wpList_fl _ rfl .quo (by simp) _ _ _ _ _ _ _ rfl rfl rfl ?_; intro r n hr) | (refine wpList_cmp _ rfl .lss (by simp) _ _ _ _ _ _ _ rfl rfl rfl ?_; try simp only [*]) | (refine wpList_cmp _ rfl .geq (by simp) _ _ _ _ _ _ _ rfl rfl rfl ?_; try simp only [*]) | (refine wpList_cmp _ rfl .gtr (by simp) _ _ _ _ _ _ _ rfl rfl rfl ?_; try simp only [*]) | (refine wpList_cmp _ rfl .neq (by simp) _ _ _ _ _ _ _ rfl rfl rfl ?_; try simp only [*]) | (refine wpList_cmp _ rfl .eql (by simp) _ _ _ _ _ _ _ rfl rfl rfl ?_; try simp only [*]) | (refine wpList_cmp _ rfl .leq (by simp) _ _ _ _ _ _ _ rfl rfl rfl ?_; try simp only [*]) | (refine wpList_neg _ rfl _ _ _ _ rfl rfl ?_; intro r hr)))
          go_roundw
          case rel => exact ⟨j + 1, _, _, by omega, by go_num, rfl, by simp only [angI, angS, wOne, *], rfl⟩
          case measure => simp [intOf]; omega
        · obtain rfl : j = 3 := by omega
          go_wp2_with (first | (refine wpList_fl _ rfl .add (by simp) _ _ _ _ _ _ _ rfl rfl rfl ?_; intro r n hr) | (refine wpList_fl _ rfl .sub (by simp) _ _ _ _ _ _ _ rfl rfl rfl ?_; intro r n hr) | (refine wpList_fl _ rfl .mul (by simp) _ _ _ _ _ _ _ rfl rfl rfl ?_; intro r n hr) | (refine wpList_fl _ rfl .quo (by simp) _ _ _ _ _ _ _ rfl rfl rfl ?_; intro r n hr) | (refine wpList_cmp _ rfl .lss (by simp) _ _ _ _ _ _ _ rfl rfl rfl ?_; try simp only [*]) | (refine wpList_cmp _ rfl .geq (by simp) _ _ _ _ _ _ _ rfl rfl rfl ?_; try simp only [*]) | (refine wpList_cmp _ rfl .gtr (by simp) _ _ _ _ _ _ _ rfl rfl rfl ?_; try simp only [*]) | (refine wpList_cmp _ rfl .neq (by simp) _ _ _ _ _ _ _ rfl rfl rfl ?_; try simp only [*]) | (refine wpList_cmp _ rfl .eql (by simp) _ _ _ _ _ _ _ rfl rfl rfl ?_; try simp only [*]) | (refine wpList_cmp _ rfl .leq (by simp) _ _ _ _ _ _ _ rfl rfl rfl ?_; try simp only [*]) | (refine wpList_neg _ rfl _ _ _ _ rfl rfl ?_; intro r hr))
          go_loopw [11, 12] (fun p k wr => ∃ (j r m : Nat), j ≤ 8 ∧ k = .int .i64 (15 - 2 * (j : Int)) ∧ p = .float .f64 r ∧ can .f64 r = angP (fop .mul .f64 (angI (angT A B) 3) (angI (angT A B) 3)) j ∧ wr = w.drewN m) (fun _ k _ => (intOf k + 2).toNat)
          case atStart => exact ⟨0, _, _, by omega, rfl, rfl, c0, rfl⟩
          case round =>
            obtain ⟨j, r, m, hj, rfl, rfl, hq, rfl⟩ := hrel
            by_cases hlt2 : j < 8
            · have hge : (1 : Int) ≤ 15 - 2 * (j : Int) := by omega
              go_wp2_with (first | (refine wpList_fl _ rfl .add (by simp) _ _ _ _ _ _ _ rfl rfl rfl ?_; intro r n hr) | (refine wpList_fl _ rfl .sub (by simp) _ _ _ _ _ _ _ rfl rfl rfl ?_; intro r n hr) | (refine wpList_fl _ rfl .mul (by simp) _ _ _ _ _ _ _ rfl rfl rfl ?_; intro r n hr) | (refine wpList_fl _ rfl .quo (by simp) _ _ _ _ _ _ _ rfl rfl rfl ?_; intro r n hr) | (refine wpList_cmp _ rfl .lss (by simp) _ _ _ _ _ _ _ rfl rfl rfl ?_; try simp only [*]) | (refine wpList_cmp _ rfl .geq (by simp) _ _ _ _ _ _ _ rfl rfl rfl ?_; try simp only [*]) | (refine wpList_cmp _ rfl .gtr (by simp) _ _ _ _ _ _ _ rfl rfl rfl ?_; try simp only [*]) | (refine wpList_cmp _ rfl .neq (by simp) _ _ _ _ _ _ _ rfl rfl rfl ?_; try simp only [*]) | (refine wpList_cmp _ rfl .eql (by simp) _ _ _ _ _ _ _ rfl rfl rfl ?_; try simp only [*]) | (refine wpList_cmp _ rfl .leq (by simp) _ _ _ _ _ _ _ rfl rfl rfl ?_; try simp only [*]) | (refine wpList_neg _ rfl _ _ _ _ rfl rfl ?_; intro r hr))
              go_roundw
              case rel => exact ⟨j + 1, _, _, by omega, by go_num, rfl, by simp only [angP, wOne, *], rfl⟩
              case measure => simp [intOf]; omega
            · obtain rfl : j = 8 := by omega
              have hRR : fop .quo .f64 (fop .mul .f64 4620693217682128896 (fop .mul .f64 (angI (angT A B) 3) (angP (fop .mul .f64 (angI (angT A B) 3) (angI (angT A B) 3)) 8))) 4618760256179416344 = angR (angI (angT A B) 3) := rfl
              by_cases hnx : nx = true <;> by_cases hny : ny = true
              all_goals
                try simp only [Bool.not_eq_true] at hnx hny
                go_wp2_with (first | (refine wpList_fl _ rfl .add (by simp) _ _ _ _ _ _ _ rfl rfl rfl ?_; intro r n hr) | (refine wpList_fl _ rfl .sub (by simp) _ _ _ _ _ _ _ rfl rfl rfl ?_; intro r n hr) | (refine wpList_fl _ rfl .mul (by simp) _ _ _ _ _ _ _ rfl rfl rfl ?_; intro r n hr) | (refine wpList_fl _ rfl .quo (by simp) _ _ _ _ _ _ _ rfl rfl rfl ?_; intro r n hr) | (refine wpList_cmp _ rfl .lss (by simp) _ _ _ _ _ _ _ rfl rfl rfl ?_; try simp only [*]) | (refine wpList_cmp _ rfl .geq (by simp) _ _ _ _ _ _ _ rfl rfl rfl ?_; try simp only [*]) | (refine wpList_cmp _ rfl .gtr (by simp) _ _ _ _ _ _ _ rfl rfl rfl ?_; try simp only [*]) | (refine wpList_cmp _ rfl .neq (by simp) _ _ _ _ _ _ _ rfl rfl rfl ?_; try simp only [*]) | (refine wpList_cmp _ rfl .eql (by simp) _ _ _ _ _ _ _ rfl rfl rfl ?_; try simp only [*]) | (refine wpList_cmp _ rfl .leq (by simp) _ _ _ _ _ _ _ rfl rfl rfl ?_; try simp only [*]) | (refine wpList_neg _ rfl _ _ _ _ rfl rfl ?_; intro r hr))
                go_ret
                exact ⟨_, _, rfl, by rw [HR.out]; simp only [ang2, ang3, wHalf, wQuarter, Bool.false_eq_true, if_true, if_false, *], rfl⟩
end Go.Proofs.Ythbinacchpjkmaa.Wk
