/- The walk of the program's angle (as So, without the reference's). -/
import Derived.Test.YthbinacchpjkmaaSl
import Derived.Test.YthbinacchpjkmaaFm
set_option linter.unusedSimpArgs false
set_option linter.unusedVariables false
namespace Go.Proofs.Ythbinacchpjkmaa.Wk
open Go.RowKit Fl

theorem cEight : can .f64 4620693217682128896 = 4620693217682128896 := by decide +kernel

theorem narrowTo {r v : Nat} {w : World} (hr : can .f64 r = v) (hov : ovf .f64 .f32 v = false) : can .f32 (cV .f64 r .f32 w) = cop .f64 .f32 v := by
  rw [cV_can .f64 .f32 r w (by rw [← ovf_can, hr]; exact hov) (by decide), hr]
theorem c0S : can .f32 0 = 0 := by decide +kernel
/-- The widened number has the sign that the number has. -/
theorem wide_sign {x : Nat} (h : fin S x) : (sV D (wideF x) = 0 ↔ sV S x = 0) ∧ cmpF .lss .f32 x 0 = cmpF .lss .f64 (wideF x) 0 := by
  obtain ⟨r, g1, g2, g3⟩ := widen h
  have e : wideF x = r := by
    unfold wideF
    rw [can_of_not (fin_not_nan (k := .f32) h)]
    unfold cop; rw [g1]; exact can_of_not (fin_not_nan (k := .f64) g2)
  rw [e]
  have hs := scale_sign (a := sV S x) (P_pos 925)
  have g3' : sV D r = sV S x * (P 925 : Int) := g3
  refine ⟨by rw [g3']; exact hs.1, ?_⟩
  rw [(cmp_finS h fin0S).2, (cmp_fin g2 fin0).2.2.1, sV0, sV0S, g3']
  exact decide_eq_decide.2 hs.2.symm

def angM : Nat := 9223372036854775808
/-- The angle of two 32-bit numbers. -/
def angleT (y x : Nat) : Nat :=
  if finB y && finB x then
    if sV S x = 0 ∧ sV S y = 0 then 0
    else cop .f64 .f32 (angF (wideF y % 9223372036854775808) (wideF x % 9223372036854775808) (cmpF .lss .f64 (wideF x) 0) (cmpF .lss .f64 (wideF y) 0))
  else qn .f32
theorem finB_iff {x : Nat} : finB x = true ↔ fin S x := by
  constructor
  · intro h
    by_cases c : fin S x
    · exact c
    · rw [finB_not c] at h; cases h
  · exact finB_fin
theorem order_eq_iffS {x : Nat} (hx : fin S x) : FloatKind.f32.format.order x 0 = some (if sV S x < 0 then .lt else if sV S x = 0 then .eq else .gt) := by
  rw [show FloatKind.f32.format.order x 0 = _ from order_fin S hx fin0S, sV0S]; rfl
/-- A result that is the angle, in a world that is as it was below. -/
def RB (v : Nat) (w : World) (e : Ending) (w' : World) : Prop := ∃ r, e = .returned (.float .f32 r) ∧ can .f32 r = v ∧ Below w.heap.size w w'
set_option maxRecDepth 100000 in
set_option maxHeartbeats 40000000 in
theorem implAngle (y x : Nat) (w : World) : Calls Try.prog 27 #[.float .f32 y, .float .f32 x] w (RB (angleT y x) w) := by
  by_cases hf : (finB y && finB x) = true
  · have HFB := Lib.hid hf
    have hff : finB y = true ∧ finB x = true := by simpa using hf
    have fy := finB_iff.1 hff.1
    have fx := finB_iff.1 hff.2
    have hcy : can .f32 y = y := can_of_not (fin_not_nan (k := .f32) fy)
    have hcx : can .f32 x = x := can_of_not (fin_not_nan (k := .f32) fx)
    obtain ⟨eY, hY⟩ := wide_fin fy
    obtain ⟨eX, hX⟩ := wide_fin fx
    have hly := wide_lt y
    have hlx := wide_lt x
    obtain ⟨ay, ay2⟩ := abs_fin eY
    obtain ⟨ax, ax2⟩ := abs_fin eX
    obtain ⟨sx0, sxl⟩ := wide_sign fx
    obtain ⟨sy0, syl⟩ := wide_sign fy
    have ex : cmpF .eql .f32 x 0 = decide (sV S x = 0) := by rw [(cmp_finS fx fin0S).1, sV0S]
    have ey := order_eq_iffS fy
    by_cases hz : sV S x = 0 ∧ sV S y = 0
    · have ex' : cmpF .eql .f32 x 0 = true := by rw [ex]; simpa using hz.1
      have ey' : FloatKind.f32.format.order y 0 = some .eq := by rw [ey, if_neg (by omega), if_pos hz.2]
      have HV := Lib.hid (show angleT y x = 0 by unfold angleT; rw [if_pos hf, if_pos hz])
      have k0 := c0S
      clear ex ey hz sx0 sxl sy0 syl ay ay2 ax ax2 hly hlx eY hY eX hX fy fx hff hf
      go_enter Try.func27, Try.ntmps27
      go_wp2_with fail
      refine (implFinite2 _ y x _ (by simp [go_sem]) (by simp [go_sem])).mono ?_
      rintro e w' ⟨rfl, n, hw'⟩
      rw [HFB.out]
      have HW : Hid (Below w.heap.size w w') := by
        rw [hw']; exact Go.below_drewN (Below.alloc (Below.refl _ _) (Nat.le_refl _) _) n
      clear hw'
      go_wp2_with (first | (refine wpList_fl _ rfl .add (by simp) _ _ _ _ _ _ _ rfl rfl rfl ?_; intro r n hr) | (refine wpList_fl _ rfl .sub (by simp) _ _ _ _ _ _ _ rfl rfl rfl ?_; intro r n hr) | (refine wpList_fl _ rfl .mul (by simp) _ _ _ _ _ _ _ rfl rfl rfl ?_; intro r n hr) | (refine wpList_fl _ rfl .quo (by simp) _ _ _ _ _ _ _ rfl rfl rfl ?_; intro r n hr) | (refine wpList_cmp _ rfl .lss (by simp) _ _ _ _ _ _ _ rfl rfl rfl ?_; try simp only [*]) | (refine wpList_cmp _ rfl .geq (by simp) _ _ _ _ _ _ _ rfl rfl rfl ?_; try simp only [*]) | (refine wpList_cmp _ rfl .gtr (by simp) _ _ _ _ _ _ _ rfl rfl rfl ?_; try simp only [*]) | (refine wpList_cmp _ rfl .neq (by simp) _ _ _ _ _ _ _ rfl rfl rfl ?_; try simp only [*]) | (refine wpList_cmp _ rfl .eql (by simp) _ _ _ _ _ _ _ rfl rfl rfl ?_; try simp only [*]) | (refine wpList_cmp _ rfl .leq (by simp) _ _ _ _ _ _ _ rfl rfl rfl ?_; try simp only [*]) | (refine wpList_neg _ rfl _ _ _ _ rfl rfl ?_; intro r hr))
      go_ret
      exact ⟨_, rfl, by rw [HV.out]; decide +kernel, by first | exact HW.out | exact Go.below_drewN HW.out _⟩
    · have h0 : sV D (wideF y % 9223372036854775808) ≠ 0 ∨ sV D (wideF x % 9223372036854775808) ≠ 0 := by
        have q1 : sV D (wideF y) = aV D (wideF y) ∨ sV D (wideF y) = -(aV D (wideF y) : Int) := by unfold sV; split <;> simp
        have q2 : sV D (wideF x) = aV D (wideF x) ∨ sV D (wideF x) = -(aV D (wideF x) : Int) := by unfold sV; split <;> simp
        omega
      have HO := Lib.hid (fun nx ny => ang_ovf (nx := nx) (ny := ny) ay ax (by omega) (by omega) h0)
      have hA : can .f64 (wideF y % 9223372036854775808) = wideF y % 9223372036854775808 := can_of_not (fin_not_nan (k := .f64) ay)
      have hB : can .f64 (wideF x % 9223372036854775808) = wideF x % 9223372036854775808 := can_of_not (fin_not_nan (k := .f64) ax)
      have HV := Lib.hid (show angleT y x = cop .f64 .f32 (angF (wideF y % 9223372036854775808) (wideF x % 9223372036854775808) (cmpF .lss .f32 x 0) (cmpF .lss .f32 y 0)) by
        unfold angleT; rw [if_pos hf, if_neg hz, sxl, syl])
      have HAy := Lib.hid (fun w => mathAbs (wideF y) hly w)
      have HAx := Lib.hid (fun w => mathAbs (wideF x) hlx w)
      have k00 := c0S
      have k0 := c0
      have k1 := cOne
      have k2 := cHalf
      have k3 := cQuarter
      have k4 := cTurn
      have k5 := cEight
      generalize hnX : cmpF .lss .f32 x 0 = nx at *
      generalize hnY : cmpF .lss .f32 y 0 = ny at *
      generalize wideF y % 9223372036854775808 = A at *
      generalize wideF x % 9223372036854775808 = B at *
      by_cases hzx : sV S x = 0
      · have ex' : cmpF .eql .f32 x 0 = true := by rw [ex]; simpa using hzx
        have ey' : FloatKind.f32.format.order y 0 = some .lt ∨ FloatKind.f32.format.order y 0 = some .gt := by
          rw [ey]
          split
          · exact .inl rfl
          · rw [if_neg (by omega)]; exact .inr rfl
        clear ex ey hz hzx sx0 sxl sy0 syl ay ay2 ax ax2 hly hlx eY eX fy fx hff hf h0
        rcases ey' with ey | ey
        · skip
          by_cases tov : cmpF .gtr .f64 A B = true
          · have hT : fop .quo .f64 B A = angT A B := by unfold angT; rw [tov]; rfl
            have hR : ∀ nx ny, angF A B nx ny = ang3 ny (ang2 nx (fop .sub .f64 wQuarter (angR (angI (angT A B) 3)))) := fun nx ny => by unfold angF ang1; rw [tov]; rfl
            have HR := Lib.hid hR
            clear hR
            go_enter Try.func27, Try.ntmps27
            go_wp2_with fail
            refine (implFinite2 _ y x _ (by simp [go_sem]) (by simp [go_sem])).mono ?_
            rintro e w' ⟨rfl, n, hw'⟩
            rw [HFB.out]
            have HW : Hid (Below w.heap.size w w') := by
              rw [hw']; exact Go.below_drewN (Below.alloc (Below.refl _ _) (Nat.le_refl _) _) n
            clear hw'
            go_wp2_with (first | (go_at_call 54; (first | (with_reducible refine (HAy.out _).mono ?_) | (with_reducible refine (HAx.out _).mono ?_)); rintro e w' ⟨rfl, rfl⟩) | (go_at_call 58; refine (mathNaN _).mono ?_; rintro e w' ⟨rfl, rfl⟩) | (first | (refine wpList_fl _ rfl .add (by simp) _ _ _ _ _ _ _ rfl rfl rfl ?_; intro r n hr) | (refine wpList_fl _ rfl .sub (by simp) _ _ _ _ _ _ _ rfl rfl rfl ?_; intro r n hr) | (refine wpList_fl _ rfl .mul (by simp) _ _ _ _ _ _ _ rfl rfl rfl ?_; intro r n hr) | (refine wpList_fl _ rfl .quo (by simp) _ _ _ _ _ _ _ rfl rfl rfl ?_; intro r n hr) | (refine wpList_cmp _ rfl .lss (by simp) _ _ _ _ _ _ _ rfl rfl rfl ?_; try simp only [*]) | (refine wpList_cmp _ rfl .geq (by simp) _ _ _ _ _ _ _ rfl rfl rfl ?_; try simp only [*]) | (refine wpList_cmp _ rfl .gtr (by simp) _ _ _ _ _ _ _ rfl rfl rfl ?_; try simp only [*]) | (refine wpList_cmp _ rfl .neq (by simp) _ _ _ _ _ _ _ rfl rfl rfl ?_; try simp only [*]) | (refine wpList_cmp _ rfl .eql (by simp) _ _ _ _ _ _ _ rfl rfl rfl ?_; try simp only [*]) | (refine wpList_cmp _ rfl .leq (by simp) _ _ _ _ _ _ _ rfl rfl rfl ?_; try simp only [*]) | (refine wpList_neg _ rfl _ _ _ _ rfl rfl ?_; intro r hr)))
            go_loopw [7, 42] (fun t k wr => ∃ (j r m : Nat), j ≤ 3 ∧ k = .int .i64 (j : Int) ∧ t = .float .f64 r ∧ can .f64 r = angI (angT A B) j ∧ wr = w'.drewN m) (fun _ k _ => 4 - (intOf k).toNat)
            case atStart => exact ⟨0, _, _, by omega, rfl, rfl, by simp only [angI, *], rfl⟩
            case round =>
              obtain ⟨j, r, m, hj, rfl, rfl, hp, rfl⟩ := hrel
              by_cases hlt : j < 3
              · go_wp2_with (first | (go_at_call 50; refine (mathSqrt _ _).mono ?_; rintro e w' ⟨r, n, rfl, hr, rfl⟩) | (first | (refine wpList_fl _ rfl .add (by simp) _ _ _ _ _ _ _ rfl rfl rfl ?_; intro r n hr) | (refine wpList_fl _ rfl .sub (by simp) _ _ _ _ _ _ _ rfl rfl rfl ?_; intro r n hr) | (refine wpList_fl _ rfl .mul (by simp) _ _ _ _ _ _ _ rfl rfl rfl ?_; intro r n hr) | (refine wpList_fl _ rfl .quo (by simp) _ _ _ _ _ _ _ rfl rfl rfl ?_; intro r n hr) | (refine wpList_cmp _ rfl .lss (by simp) _ _ _ _ _ _ _ rfl rfl rfl ?_; try simp only [*]) | (refine wpList_cmp _ rfl .geq (by simp) _ _ _ _ _ _ _ rfl rfl rfl ?_; try simp only [*]) | (refine wpList_cmp _ rfl .gtr (by simp) _ _ _ _ _ _ _ rfl rfl rfl ?_; try simp only [*]) | (refine wpList_cmp _ rfl .neq (by simp) _ _ _ _ _ _ _ rfl rfl rfl ?_; try simp only [*]) | (refine wpList_cmp _ rfl .eql (by simp) _ _ _ _ _ _ _ rfl rfl rfl ?_; try simp only [*]) | (refine wpList_cmp _ rfl .leq (by simp) _ _ _ _ _ _ _ rfl rfl rfl ?_; try simp only [*]) | (refine wpList_neg _ rfl _ _ _ _ rfl rfl ?_; intro r hr)))
                go_roundw
                case rel => exact ⟨j + 1, _, _, by omega, by go_num, rfl, by simp only [angI, angS, wOne, *], rfl⟩
                case measure => simp [intOf]; omega
              · obtain rfl : j = 3 := by omega
                go_wp2_with (first | (refine wpList_fl _ rfl .add (by simp) _ _ _ _ _ _ _ rfl rfl rfl ?_; intro r n hr) | (refine wpList_fl _ rfl .sub (by simp) _ _ _ _ _ _ _ rfl rfl rfl ?_; intro r n hr) | (refine wpList_fl _ rfl .mul (by simp) _ _ _ _ _ _ _ rfl rfl rfl ?_; intro r n hr) | (refine wpList_fl _ rfl .quo (by simp) _ _ _ _ _ _ _ rfl rfl rfl ?_; intro r n hr) | (refine wpList_cmp _ rfl .lss (by simp) _ _ _ _ _ _ _ rfl rfl rfl ?_; try simp only [*]) | (refine wpList_cmp _ rfl .geq (by simp) _ _ _ _ _ _ _ rfl rfl rfl ?_; try simp only [*]) | (refine wpList_cmp _ rfl .gtr (by simp) _ _ _ _ _ _ _ rfl rfl rfl ?_; try simp only [*]) | (refine wpList_cmp _ rfl .neq (by simp) _ _ _ _ _ _ _ rfl rfl rfl ?_; try simp only [*]) | (refine wpList_cmp _ rfl .eql (by simp) _ _ _ _ _ _ _ rfl rfl rfl ?_; try simp only [*]) | (refine wpList_cmp _ rfl .leq (by simp) _ _ _ _ _ _ _ rfl rfl rfl ?_; try simp only [*]) | (refine wpList_neg _ rfl _ _ _ _ rfl rfl ?_; intro r hr))
                go_loopw [9, 10] (fun p k wr => ∃ (j r m : Nat), j ≤ 8 ∧ k = .int .i64 (15 - 2 * (j : Int)) ∧ p = .float .f64 r ∧ can .f64 r = angP (fop .mul .f64 (angI (angT A B) 3) (angI (angT A B) 3)) j ∧ wr = w'.drewN m) (fun _ k _ => (intOf k + 2).toNat)
                case atStart => exact ⟨0, _, _, by omega, rfl, rfl, c0, rfl⟩
                case round =>
                  obtain ⟨j, r, m, hj, rfl, rfl, hq, rfl⟩ := hrel
                  by_cases hlt2 : j < 8
                  · have hge : (1 : Int) ≤ 15 - 2 * (j : Int) := by omega
                    go_wp2_with (first | (refine wpList_fl _ rfl .add (by simp) _ _ _ _ _ _ _ rfl rfl rfl ?_; intro r n hr) | (refine wpList_fl _ rfl .sub (by simp) _ _ _ _ _ _ _ rfl rfl rfl ?_; intro r n hr) | (refine wpList_fl _ rfl .mul (by simp) _ _ _ _ _ _ _ rfl rfl rfl ?_; intro r n hr) | (refine wpList_fl _ rfl .quo (by simp) _ _ _ _ _ _ _ rfl rfl rfl ?_; intro r n hr) | (refine wpList_cmp _ rfl .lss (by simp) _ _ _ _ _ _ _ rfl rfl rfl ?_; try simp only [*]) | (refine wpList_cmp _ rfl .geq (by simp) _ _ _ _ _ _ _ rfl rfl rfl ?_; try simp only [*]) | (refine wpList_cmp _ rfl .gtr (by simp) _ _ _ _ _ _ _ rfl rfl rfl ?_; try simp only [*]) | (refine wpList_cmp _ rfl .neq (by simp) _ _ _ _ _ _ _ rfl rfl rfl ?_; try simp only [*]) | (refine wpList_cmp _ rfl .eql (by simp) _ _ _ _ _ _ _ rfl rfl rfl ?_; try simp only [*]) | (refine wpList_cmp _ rfl .leq (by simp) _ _ _ _ _ _ _ rfl rfl rfl ?_; try simp only [*]) | (refine wpList_neg _ rfl _ _ _ _ rfl rfl ?_; intro r hr))
                    go_roundw
                    case rel => exact ⟨j + 1, _, _, by omega, by go_num, rfl, by simp only [angP, wOne, *], rfl⟩
                    case measure => simp [intOf]; omega
                  · obtain rfl : j = 8 := by omega
                    have hRR : fop .quo .f64 (fop .mul .f64 4620693217682128896 (fop .mul .f64 (angI (angT A B) 3) (angP (fop .mul .f64 (angI (angT A B) 3) (angI (angT A B) 3)) 8))) 4618760256179416344 = angR (angI (angT A B) 3) := rfl
                    by_cases hnx : nx = true <;> by_cases hny : ny = true
                    all_goals
                      try simp only [Bool.not_eq_true] at hnx hny
                      go_wp2_with (first | (refine wpList_fl _ rfl .add (by simp) _ _ _ _ _ _ _ rfl rfl rfl ?_; intro r n hr) | (refine wpList_fl _ rfl .sub (by simp) _ _ _ _ _ _ _ rfl rfl rfl ?_; intro r n hr) | (refine wpList_fl _ rfl .mul (by simp) _ _ _ _ _ _ _ rfl rfl rfl ?_; intro r n hr) | (refine wpList_fl _ rfl .quo (by simp) _ _ _ _ _ _ _ rfl rfl rfl ?_; intro r n hr) | (refine wpList_cmp _ rfl .lss (by simp) _ _ _ _ _ _ _ rfl rfl rfl ?_; try simp only [*]) | (refine wpList_cmp _ rfl .geq (by simp) _ _ _ _ _ _ _ rfl rfl rfl ?_; try simp only [*]) | (refine wpList_cmp _ rfl .gtr (by simp) _ _ _ _ _ _ _ rfl rfl rfl ?_; try simp only [*]) | (refine wpList_cmp _ rfl .neq (by simp) _ _ _ _ _ _ _ rfl rfl rfl ?_; try simp only [*]) | (refine wpList_cmp _ rfl .eql (by simp) _ _ _ _ _ _ _ rfl rfl rfl ?_; try simp only [*]) | (refine wpList_cmp _ rfl .leq (by simp) _ _ _ _ _ _ _ rfl rfl rfl ?_; try simp only [*]) | (refine wpList_neg _ rfl _ _ _ _ rfl rfl ?_; intro r hr))
                      go_ret
                      refine ⟨_, rfl, ?_, Go.below_drewN HW.out _⟩
                      rw [HV.out]
                      refine narrowTo ?_ (HO.out _ _)
                      rw [HR.out]; simp only [ang2, ang3, wHalf, wQuarter, Bool.false_eq_true, if_true, if_false, *]
          · simp only [Bool.not_eq_true] at tov
            have hT : fop .quo .f64 A B = angT A B := by unfold angT; rw [tov]; rfl
            have hR : ∀ nx ny, angF A B nx ny = ang3 ny (ang2 nx (angR (angI (angT A B) 3))) := fun nx ny => by unfold angF ang1; rw [tov]; rfl
            have HR := Lib.hid hR
            clear hR
            go_enter Try.func27, Try.ntmps27
            go_wp2_with fail
            refine (implFinite2 _ y x _ (by simp [go_sem]) (by simp [go_sem])).mono ?_
            rintro e w' ⟨rfl, n, hw'⟩
            rw [HFB.out]
            have HW : Hid (Below w.heap.size w w') := by
              rw [hw']; exact Go.below_drewN (Below.alloc (Below.refl _ _) (Nat.le_refl _) _) n
            clear hw'
            go_wp2_with (first | (go_at_call 54; (first | (with_reducible refine (HAy.out _).mono ?_) | (with_reducible refine (HAx.out _).mono ?_)); rintro e w' ⟨rfl, rfl⟩) | (go_at_call 58; refine (mathNaN _).mono ?_; rintro e w' ⟨rfl, rfl⟩) | (first | (refine wpList_fl _ rfl .add (by simp) _ _ _ _ _ _ _ rfl rfl rfl ?_; intro r n hr) | (refine wpList_fl _ rfl .sub (by simp) _ _ _ _ _ _ _ rfl rfl rfl ?_; intro r n hr) | (refine wpList_fl _ rfl .mul (by simp) _ _ _ _ _ _ _ rfl rfl rfl ?_; intro r n hr) | (refine wpList_fl _ rfl .quo (by simp) _ _ _ _ _ _ _ rfl rfl rfl ?_; intro r n hr) | (refine wpList_cmp _ rfl .lss (by simp) _ _ _ _ _ _ _ rfl rfl rfl ?_; try simp only [*]) | (refine wpList_cmp _ rfl .geq (by simp) _ _ _ _ _ _ _ rfl rfl rfl ?_; try simp only [*]) | (refine wpList_cmp _ rfl .gtr (by simp) _ _ _ _ _ _ _ rfl rfl rfl ?_; try simp only [*]) | (refine wpList_cmp _ rfl .neq (by simp) _ _ _ _ _ _ _ rfl rfl rfl ?_; try simp only [*]) | (refine wpList_cmp _ rfl .eql (by simp) _ _ _ _ _ _ _ rfl rfl rfl ?_; try simp only [*]) | (refine wpList_cmp _ rfl .leq (by simp) _ _ _ _ _ _ _ rfl rfl rfl ?_; try simp only [*]) | (refine wpList_neg _ rfl _ _ _ _ rfl rfl ?_; intro r hr)))
            go_loopw [7, 42] (fun t k wr => ∃ (j r m : Nat), j ≤ 3 ∧ k = .int .i64 (j : Int) ∧ t = .float .f64 r ∧ can .f64 r = angI (angT A B) j ∧ wr = w'.drewN m) (fun _ k _ => 4 - (intOf k).toNat)
            case atStart => exact ⟨0, _, _, by omega, rfl, rfl, by simp only [angI, *], rfl⟩
            case round =>
              obtain ⟨j, r, m, hj, rfl, rfl, hp, rfl⟩ := hrel
              by_cases hlt : j < 3
              · go_wp2_with (first | (go_at_call 50; refine (mathSqrt _ _).mono ?_; rintro e w' ⟨r, n, rfl, hr, rfl⟩) | (first | (refine wpList_fl _ rfl .add (by simp) _ _ _ _ _ _ _ rfl rfl rfl ?_; intro r n hr) | (refine wpList_fl _ rfl .sub (by simp) _ _ _ _ _ _ _ rfl rfl rfl ?_; intro r n hr) | (refine wpList_fl _ rfl .mul (by simp) _ _ _ _ _ _ _ rfl rfl rfl ?_; intro r n hr) | (refine wpList_fl _ rfl .quo (by simp) _ _ _ _ _ _ _ rfl rfl rfl ?_; intro r n hr) | (refine wpList_cmp _ rfl .lss (by simp) _ _ _ _ _ _ _ rfl rfl rfl ?_; try simp only [*]) | (refine wpList_cmp _ rfl .geq (by simp) _ _ _ _ _ _ _ rfl rfl rfl ?_; try simp only [*]) | (refine wpList_cmp _ rfl .gtr (by simp) _ _ _ _ _ _ _ rfl rfl rfl ?_; try simp only [*]) | (refine wpList_cmp _ rfl .neq (by simp) _ _ _ _ _ _ _ rfl rfl rfl ?_; try simp only [*]) | (refine wpList_cmp _ rfl .eql (by simp) _ _ _ _ _ _ _ rfl rfl rfl ?_; try simp only [*]) | (refine wpList_cmp _ rfl .leq (by simp) _ _ _ _ _ _ _ rfl rfl rfl ?_; try simp only [*]) | (refine wpList_neg _ rfl _ _ _ _ rfl rfl ?_; intro r hr)))
                go_roundw
                case rel => exact ⟨j + 1, _, _, by omega, by go_num, rfl, by simp only [angI, angS, wOne, *], rfl⟩
                case measure => simp [intOf]; omega
              · obtain rfl : j = 3 := by omega
                go_wp2_with (first | (refine wpList_fl _ rfl .add (by simp) _ _ _ _ _ _ _ rfl rfl rfl ?_; intro r n hr) | (refine wpList_fl _ rfl .sub (by simp) _ _ _ _ _ _ _ rfl rfl rfl ?_; intro r n hr) | (refine wpList_fl _ rfl .mul (by simp) _ _ _ _ _ _ _ rfl rfl rfl ?_; intro r n hr) | (refine wpList_fl _ rfl .quo (by simp) _ _ _ _ _ _ _ rfl rfl rfl ?_; intro r n hr) | (refine wpList_cmp _ rfl .lss (by simp) _ _ _ _ _ _ _ rfl rfl rfl ?_; try simp only [*]) | (refine wpList_cmp _ rfl .geq (by simp) _ _ _ _ _ _ _ rfl rfl rfl ?_; try simp only [*]) | (refine wpList_cmp _ rfl .gtr (by simp) _ _ _ _ _ _ _ rfl rfl rfl ?_; try simp only [*]) | (refine wpList_cmp _ rfl .neq (by simp) _ _ _ _ _ _ _ rfl rfl rfl ?_; try simp only [*]) | (refine wpList_cmp _ rfl .eql (by simp) _ _ _ _ _ _ _ rfl rfl rfl ?_; try simp only [*]) | (refine wpList_cmp _ rfl .leq (by simp) _ _ _ _ _ _ _ rfl rfl rfl ?_; try simp only [*]) | (refine wpList_neg _ rfl _ _ _ _ rfl rfl ?_; intro r hr))
                go_loopw [9, 10] (fun p k wr => ∃ (j r m : Nat), j ≤ 8 ∧ k = .int .i64 (15 - 2 * (j : Int)) ∧ p = .float .f64 r ∧ can .f64 r = angP (fop .mul .f64 (angI (angT A B) 3) (angI (angT A B) 3)) j ∧ wr = w'.drewN m) (fun _ k _ => (intOf k + 2).toNat)
                case atStart => exact ⟨0, _, _, by omega, rfl, rfl, c0, rfl⟩
                case round =>
                  obtain ⟨j, r, m, hj, rfl, rfl, hq, rfl⟩ := hrel
                  by_cases hlt2 : j < 8
                  · have hge : (1 : Int) ≤ 15 - 2 * (j : Int) := by omega
                    go_wp2_with (first | (refine wpList_fl _ rfl .add (by simp) _ _ _ _ _ _ _ rfl rfl rfl ?_; intro r n hr) | (refine wpList_fl _ rfl .sub (by simp) _ _ _ _ _ _ _ rfl rfl rfl ?_; intro r n hr) | (refine wpList_fl _ rfl .mul (by simp) _ _ _ _ _ _ _ rfl rfl rfl ?_; intro r n hr) | (refine wpList_fl _ rfl .quo (by simp) _ _ _ _ _ _ _ rfl rfl rfl ?_; intro r n hr) | (refine wpList_cmp _ rfl .lss (by simp) _ _ _ _ _ _ _ rfl rfl rfl ?_; try simp only [*]) | (refine wpList_cmp _ rfl .geq (by simp) _ _ _ _ _ _ _ rfl rfl rfl ?_; try simp only [*]) | (refine wpList_cmp _ rfl .gtr (by simp) _ _ _ _ _ _ _ rfl rfl rfl ?_; try simp only [*]) | (refine wpList_cmp _ rfl .neq (by simp) _ _ _ _ _ _ _ rfl rfl rfl ?_; try simp only [*]) | (refine wpList_cmp _ rfl .eql (by simp) _ _ _ _ _ _ _ rfl rfl rfl ?_; try simp only [*]) | (refine wpList_cmp _ rfl .leq (by simp) _ _ _ _ _ _ _ rfl rfl rfl ?_; try simp only [*]) | (refine wpList_neg _ rfl _ _ _ _ rfl rfl ?_; intro r hr))
                    go_roundw
                    case rel => exact ⟨j + 1, _, _, by omega, by go_num, rfl, by simp only [angP, wOne, *], rfl⟩
                    case measure => simp [intOf]; omega
                  · obtain rfl : j = 8 := by omega
                    have hRR : fop .quo .f64 (fop .mul .f64 4620693217682128896 (fop .mul .f64 (angI (angT A B) 3) (angP (fop .mul .f64 (angI (angT A B) 3) (angI (angT A B) 3)) 8))) 4618760256179416344 = angR (angI (angT A B) 3) := rfl
                    by_cases hnx : nx = true <;> by_cases hny : ny = true
                    all_goals
                      try simp only [Bool.not_eq_true] at hnx hny
                      go_wp2_with (first | (refine wpList_fl _ rfl .add (by simp) _ _ _ _ _ _ _ rfl rfl rfl ?_; intro r n hr) | (refine wpList_fl _ rfl .sub (by simp) _ _ _ _ _ _ _ rfl rfl rfl ?_; intro r n hr) | (refine wpList_fl _ rfl .mul (by simp) _ _ _ _ _ _ _ rfl rfl rfl ?_; intro r n hr) | (refine wpList_fl _ rfl .quo (by simp) _ _ _ _ _ _ _ rfl rfl rfl ?_; intro r n hr) | (refine wpList_cmp _ rfl .lss (by simp) _ _ _ _ _ _ _ rfl rfl rfl ?_; try simp only [*]) | (refine wpList_cmp _ rfl .geq (by simp) _ _ _ _ _ _ _ rfl rfl rfl ?_; try simp only [*]) | (refine wpList_cmp _ rfl .gtr (by simp) _ _ _ _ _ _ _ rfl rfl rfl ?_; try simp only [*]) | (refine wpList_cmp _ rfl .neq (by simp) _ _ _ _ _ _ _ rfl rfl rfl ?_; try simp only [*]) | (refine wpList_cmp _ rfl .eql (by simp) _ _ _ _ _ _ _ rfl rfl rfl ?_; try simp only [*]) | (refine wpList_cmp _ rfl .leq (by simp) _ _ _ _ _ _ _ rfl rfl rfl ?_; try simp only [*]) | (refine wpList_neg _ rfl _ _ _ _ rfl rfl ?_; intro r hr))
                      go_ret
                      refine ⟨_, rfl, ?_, Go.below_drewN HW.out _⟩
                      rw [HV.out]
                      refine narrowTo ?_ (HO.out _ _)
                      rw [HR.out]; simp only [ang2, ang3, wHalf, wQuarter, Bool.false_eq_true, if_true, if_false, *]
        · skip
          by_cases tov : cmpF .gtr .f64 A B = true
          · have hT : fop .quo .f64 B A = angT A B := by unfold angT; rw [tov]; rfl
            have hR : ∀ nx ny, angF A B nx ny = ang3 ny (ang2 nx (fop .sub .f64 wQuarter (angR (angI (angT A B) 3)))) := fun nx ny => by unfold angF ang1; rw [tov]; rfl
            have HR := Lib.hid hR
            clear hR
            go_enter Try.func27, Try.ntmps27
            go_wp2_with fail
            refine (implFinite2 _ y x _ (by simp [go_sem]) (by simp [go_sem])).mono ?_
            rintro e w' ⟨rfl, n, hw'⟩
            rw [HFB.out]
            have HW : Hid (Below w.heap.size w w') := by
              rw [hw']; exact Go.below_drewN (Below.alloc (Below.refl _ _) (Nat.le_refl _) _) n
            clear hw'
            go_wp2_with (first | (go_at_call 54; (first | (with_reducible refine (HAy.out _).mono ?_) | (with_reducible refine (HAx.out _).mono ?_)); rintro e w' ⟨rfl, rfl⟩) | (go_at_call 58; refine (mathNaN _).mono ?_; rintro e w' ⟨rfl, rfl⟩) | (first | (refine wpList_fl _ rfl .add (by simp) _ _ _ _ _ _ _ rfl rfl rfl ?_; intro r n hr) | (refine wpList_fl _ rfl .sub (by simp) _ _ _ _ _ _ _ rfl rfl rfl ?_; intro r n hr) | (refine wpList_fl _ rfl .mul (by simp) _ _ _ _ _ _ _ rfl rfl rfl ?_; intro r n hr) | (refine wpList_fl _ rfl .quo (by simp) _ _ _ _ _ _ _ rfl rfl rfl ?_; intro r n hr) | (refine wpList_cmp _ rfl .lss (by simp) _ _ _ _ _ _ _ rfl rfl rfl ?_; try simp only [*]) | (refine wpList_cmp _ rfl .geq (by simp) _ _ _ _ _ _ _ rfl rfl rfl ?_; try simp only [*]) | (refine wpList_cmp _ rfl .gtr (by simp) _ _ _ _ _ _ _ rfl rfl rfl ?_; try simp only [*]) | (refine wpList_cmp _ rfl .neq (by simp) _ _ _ _ _ _ _ rfl rfl rfl ?_; try simp only [*]) | (refine wpList_cmp _ rfl .eql (by simp) _ _ _ _ _ _ _ rfl rfl rfl ?_; try simp only [*]) | (refine wpList_cmp _ rfl .leq (by simp) _ _ _ _ _ _ _ rfl rfl rfl ?_; try simp only [*]) | (refine wpList_neg _ rfl _ _ _ _ rfl rfl ?_; intro r hr)))
            go_loopw [7, 42] (fun t k wr => ∃ (j r m : Nat), j ≤ 3 ∧ k = .int .i64 (j : Int) ∧ t = .float .f64 r ∧ can .f64 r = angI (angT A B) j ∧ wr = w'.drewN m) (fun _ k _ => 4 - (intOf k).toNat)
            case atStart => exact ⟨0, _, _, by omega, rfl, rfl, by simp only [angI, *], rfl⟩
            case round =>
              obtain ⟨j, r, m, hj, rfl, rfl, hp, rfl⟩ := hrel
              by_cases hlt : j < 3
              · go_wp2_with (first | (go_at_call 50; refine (mathSqrt _ _).mono ?_; rintro e w' ⟨r, n, rfl, hr, rfl⟩) | (first | (refine wpList_fl _ rfl .add (by simp) _ _ _ _ _ _ _ rfl rfl rfl ?_; intro r n hr) | (refine wpList_fl _ rfl .sub (by simp) _ _ _ _ _ _ _ rfl rfl rfl ?_; intro r n hr) | (refine wpList_fl _ rfl .mul (by simp) _ _ _ _ _ _ _ rfl rfl rfl ?_; intro r n hr) | (refine wpList_fl _ rfl .quo (by simp) _ _ _ _ _ _ _ rfl rfl rfl ?_; intro r n hr) | (refine wpList_cmp _ rfl .lss (by simp) _ _ _ _ _ _ _ rfl rfl rfl ?_; try simp only [*]) | (refine wpList_cmp _ rfl .geq (by simp) _ _ _ _ _ _ _ rfl rfl rfl ?_; try simp only [*]) | (refine wpList_cmp _ rfl .gtr (by simp) _ _ _ _ _ _ _ rfl rfl rfl ?_; try simp only [*]) | (refine wpList_cmp _ rfl .neq (by simp) _ _ _ _ _ _ _ rfl rfl rfl ?_; try simp only [*]) | (refine wpList_cmp _ rfl .eql (by simp) _ _ _ _ _ _ _ rfl rfl rfl ?_; try simp only [*]) | (refine wpList_cmp _ rfl .leq (by simp) _ _ _ _ _ _ _ rfl rfl rfl ?_; try simp only [*]) | (refine wpList_neg _ rfl _ _ _ _ rfl rfl ?_; intro r hr)))
                go_roundw
                case rel => exact ⟨j + 1, _, _, by omega, by go_num, rfl, by simp only [angI, angS, wOne, *], rfl⟩
                case measure => simp [intOf]; omega
              · obtain rfl : j = 3 := by omega
                go_wp2_with (first | (refine wpList_fl _ rfl .add (by simp) _ _ _ _ _ _ _ rfl rfl rfl ?_; intro r n hr) | (refine wpList_fl _ rfl .sub (by simp) _ _ _ _ _ _ _ rfl rfl rfl ?_; intro r n hr) | (refine wpList_fl _ rfl .mul (by simp) _ _ _ _ _ _ _ rfl rfl rfl ?_; intro r n hr) | (refine wpList_fl _ rfl .quo (by simp) _ _ _ _ _ _ _ rfl rfl rfl ?_; intro r n hr) | (refine wpList_cmp _ rfl .lss (by simp) _ _ _ _ _ _ _ rfl rfl rfl ?_; try simp only [*]) | (refine wpList_cmp _ rfl .geq (by simp) _ _ _ _ _ _ _ rfl rfl rfl ?_; try simp only [*]) | (refine wpList_cmp _ rfl .gtr (by simp) _ _ _ _ _ _ _ rfl rfl rfl ?_; try simp only [*]) | (refine wpList_cmp _ rfl .neq (by simp) _ _ _ _ _ _ _ rfl rfl rfl ?_; try simp only [*]) | (refine wpList_cmp _ rfl .eql (by simp) _ _ _ _ _ _ _ rfl rfl rfl ?_; try simp only [*]) | (refine wpList_cmp _ rfl .leq (by simp) _ _ _ _ _ _ _ rfl rfl rfl ?_; try simp only [*]) | (refine wpList_neg _ rfl _ _ _ _ rfl rfl ?_; intro r hr))
                go_loopw [9, 10] (fun p k wr => ∃ (j r m : Nat), j ≤ 8 ∧ k = .int .i64 (15 - 2 * (j : Int)) ∧ p = .float .f64 r ∧ can .f64 r = angP (fop .mul .f64 (angI (angT A B) 3) (angI (angT A B) 3)) j ∧ wr = w'.drewN m) (fun _ k _ => (intOf k + 2).toNat)
                case atStart => exact ⟨0, _, _, by omega, rfl, rfl, c0, rfl⟩
                case round =>
                  obtain ⟨j, r, m, hj, rfl, rfl, hq, rfl⟩ := hrel
                  by_cases hlt2 : j < 8
                  · have hge : (1 : Int) ≤ 15 - 2 * (j : Int) := by omega
                    go_wp2_with (first | (refine wpList_fl _ rfl .add (by simp) _ _ _ _ _ _ _ rfl rfl rfl ?_; intro r n hr) | (refine wpList_fl _ rfl .sub (by simp) _ _ _ _ _ _ _ rfl rfl rfl ?_; intro r n hr) | (refine wpList_fl _ rfl .mul (by simp) _ _ _ _ _ _ _ rfl rfl rfl ?_; intro r n hr) | (refine wpList_fl _ rfl .quo (by simp) _ _ _ _ _ _ _ rfl rfl rfl ?_; intro r n hr) | (refine wpList_cmp _ rfl .lss (by simp) _ _ _ _ _ _ _ rfl rfl rfl ?_; try simp only [*]) | (refine wpList_cmp _ rfl .geq (by simp) _ _ _ _ _ _ _ rfl rfl rfl ?_; try simp only [*]) | (refine wpList_cmp _ rfl .gtr (by simp) _ _ _ _ _ _ _ rfl rfl rfl ?_; try simp only [*]) | (refine wpList_cmp _ rfl .neq (by simp) _ _ _ _ _ _ _ rfl rfl rfl ?_; try simp only [*]) | (refine wpList_cmp _ rfl .eql (by simp) _ _ _ _ _ _ _ rfl rfl rfl ?_; try simp only [*]) | (refine wpList_cmp _ rfl .leq (by simp) _ _ _ _ _ _ _ rfl rfl rfl ?_; try simp only [*]) | (refine wpList_neg _ rfl _ _ _ _ rfl rfl ?_; intro r hr))
                    go_roundw
                    case rel => exact ⟨j + 1, _, _, by omega, by go_num, rfl, by simp only [angP, wOne, *], rfl⟩
                    case measure => simp [intOf]; omega
                  · obtain rfl : j = 8 := by omega
                    have hRR : fop .quo .f64 (fop .mul .f64 4620693217682128896 (fop .mul .f64 (angI (angT A B) 3) (angP (fop .mul .f64 (angI (angT A B) 3) (angI (angT A B) 3)) 8))) 4618760256179416344 = angR (angI (angT A B) 3) := rfl
                    by_cases hnx : nx = true <;> by_cases hny : ny = true
                    all_goals
                      try simp only [Bool.not_eq_true] at hnx hny
                      go_wp2_with (first | (refine wpList_fl _ rfl .add (by simp) _ _ _ _ _ _ _ rfl rfl rfl ?_; intro r n hr) | (refine wpList_fl _ rfl .sub (by simp) _ _ _ _ _ _ _ rfl rfl rfl ?_; intro r n hr) | (refine wpList_fl _ rfl .mul (by simp) _ _ _ _ _ _ _ rfl rfl rfl ?_; intro r n hr) | (refine wpList_fl _ rfl .quo (by simp) _ _ _ _ _ _ _ rfl rfl rfl ?_; intro r n hr) | (refine wpList_cmp _ rfl .lss (by simp) _ _ _ _ _ _ _ rfl rfl rfl ?_; try simp only [*]) | (refine wpList_cmp _ rfl .geq (by simp) _ _ _ _ _ _ _ rfl rfl rfl ?_; try simp only [*]) | (refine wpList_cmp _ rfl .gtr (by simp) _ _ _ _ _ _ _ rfl rfl rfl ?_; try simp only [*]) | (refine wpList_cmp _ rfl .neq (by simp) _ _ _ _ _ _ _ rfl rfl rfl ?_; try simp only [*]) | (refine wpList_cmp _ rfl .eql (by simp) _ _ _ _ _ _ _ rfl rfl rfl ?_; try simp only [*]) | (refine wpList_cmp _ rfl .leq (by simp) _ _ _ _ _ _ _ rfl rfl rfl ?_; try simp only [*]) | (refine wpList_neg _ rfl _ _ _ _ rfl rfl ?_; intro r hr))
                      go_ret
                      refine ⟨_, rfl, ?_, Go.below_drewN HW.out _⟩
                      rw [HV.out]
                      refine narrowTo ?_ (HO.out _ _)
                      rw [HR.out]; simp only [ang2, ang3, wHalf, wQuarter, Bool.false_eq_true, if_true, if_false, *]
          · simp only [Bool.not_eq_true] at tov
            have hT : fop .quo .f64 A B = angT A B := by unfold angT; rw [tov]; rfl
            have hR : ∀ nx ny, angF A B nx ny = ang3 ny (ang2 nx (angR (angI (angT A B) 3))) := fun nx ny => by unfold angF ang1; rw [tov]; rfl
            have HR := Lib.hid hR
            clear hR
            go_enter Try.func27, Try.ntmps27
            go_wp2_with fail
            refine (implFinite2 _ y x _ (by simp [go_sem]) (by simp [go_sem])).mono ?_
            rintro e w' ⟨rfl, n, hw'⟩
            rw [HFB.out]
            have HW : Hid (Below w.heap.size w w') := by
              rw [hw']; exact Go.below_drewN (Below.alloc (Below.refl _ _) (Nat.le_refl _) _) n
            clear hw'
            go_wp2_with (first | (go_at_call 54; (first | (with_reducible refine (HAy.out _).mono ?_) | (with_reducible refine (HAx.out _).mono ?_)); rintro e w' ⟨rfl, rfl⟩) | (go_at_call 58; refine (mathNaN _).mono ?_; rintro e w' ⟨rfl, rfl⟩) | (first | (refine wpList_fl _ rfl .add (by simp) _ _ _ _ _ _ _ rfl rfl rfl ?_; intro r n hr) | (refine wpList_fl _ rfl .sub (by simp) _ _ _ _ _ _ _ rfl rfl rfl ?_; intro r n hr) | (refine wpList_fl _ rfl .mul (by simp) _ _ _ _ _ _ _ rfl rfl rfl ?_; intro r n hr) | (refine wpList_fl _ rfl .quo (by simp) _ _ _ _ _ _ _ rfl rfl rfl ?_; intro r n hr) | (refine wpList_cmp _ rfl .lss (by simp) _ _ _ _ _ _ _ rfl rfl rfl ?_; try simp only [*]) | (refine wpList_cmp _ rfl .geq (by simp) _ _ _ _ _ _ _ rfl rfl rfl ?_; try simp only [*]) | (refine wpList_cmp _ rfl .gtr (by simp) _ _ _ _ _ _ _ rfl rfl rfl ?_; try simp only [*]) | (refine wpList_cmp _ rfl .neq (by simp) _ _ _ _ _ _ _ rfl rfl rfl ?_; try simp only [*]) | (refine wpList_cmp _ rfl .eql (by simp) _ _ _ _ _ _ _ rfl rfl rfl ?_; try simp only [*]) | (refine wpList_cmp _ rfl .leq (by simp) _ _ _ _ _ _ _ rfl rfl rfl ?_; try simp only [*]) | (refine wpList_neg _ rfl _ _ _ _ rfl rfl ?_; intro r hr)))
            go_loopw [7, 42] (fun t k wr => ∃ (j r m : Nat), j ≤ 3 ∧ k = .int .i64 (j : Int) ∧ t = .float .f64 r ∧ can .f64 r = angI (angT A B) j ∧ wr = w'.drewN m) (fun _ k _ => 4 - (intOf k).toNat)
            case atStart => exact ⟨0, _, _, by omega, rfl, rfl, by simp only [angI, *], rfl⟩
            case round =>
              obtain ⟨j, r, m, hj, rfl, rfl, hp, rfl⟩ := hrel
              by_cases hlt : j < 3
              · go_wp2_with (first | (go_at_call 50; refine (mathSqrt _ _).mono ?_; rintro e w' ⟨r, n, rfl, hr, rfl⟩) | (first | (refine wpList_fl _ rfl .add (by simp) _ _ _ _ _ _ _ rfl rfl rfl ?_; intro r n hr) | (refine wpList_fl _ rfl .sub (by simp) _ _ _ _ _ _ _ rfl rfl rfl ?_; intro r n hr) | (refine wpList_fl _ rfl .mul (by simp) _ _ _ _ _ _ _ rfl rfl rfl ?_; intro r n hr) | (refine wpList_fl _ rfl .quo (by simp) _ _ _ _ _ _ _ rfl rfl rfl ?_; intro r n hr) | (refine wpList_cmp _ rfl .lss (by simp) _ _ _ _ _ _ _ rfl rfl rfl ?_; try simp only [*]) | (refine wpList_cmp _ rfl .geq (by simp) _ _ _ _ _ _ _ rfl rfl rfl ?_; try simp only [*]) | (refine wpList_cmp _ rfl .gtr (by simp) _ _ _ _ _ _ _ rfl rfl rfl ?_; try simp only [*]) | (refine wpList_cmp _ rfl .neq (by simp) _ _ _ _ _ _ _ rfl rfl rfl ?_; try simp only [*]) | (refine wpList_cmp _ rfl .eql (by simp) _ _ _ _ _ _ _ rfl rfl rfl ?_; try simp only [*]) | (refine wpList_cmp _ rfl .leq (by simp) _ _ _ _ _ _ _ rfl rfl rfl ?_; try simp only [*]) | (refine wpList_neg _ rfl _ _ _ _ rfl rfl ?_; intro r hr)))
                go_roundw
                case rel => exact ⟨j + 1, _, _, by omega, by go_num, rfl, by simp only [angI, angS, wOne, *], rfl⟩
                case measure => simp [intOf]; omega
              · obtain rfl : j = 3 := by omega
                go_wp2_with (first | (refine wpList_fl _ rfl .add (by simp) _ _ _ _ _ _ _ rfl rfl rfl ?_; intro r n hr) | (refine wpList_fl _ rfl .sub (by simp) _ _ _ _ _ _ _ rfl rfl rfl ?_; intro r n hr) | (refine wpList_fl _ rfl .mul (by simp) _ _ _ _ _ _ _ rfl rfl rfl ?_; intro r n hr) | (refine wpList_fl _ rfl .quo (by simp) _ _ _ _ _ _ _ rfl rfl rfl ?_; intro r n hr) | (refine wpList_cmp _ rfl .lss (by simp) _ _ _ _ _ _ _ rfl rfl rfl ?_; try simp only [*]) | (refine wpList_cmp _ rfl .geq (by simp) _ _ _ _ _ _ _ rfl rfl rfl ?_; try simp only [*]) | (refine wpList_cmp _ rfl .gtr (by simp) _ _ _ _ _ _ _ rfl rfl rfl ?_; try simp only [*]) | (refine wpList_cmp _ rfl .neq (by simp) _ _ _ _ _ _ _ rfl rfl rfl ?_; try simp only [*]) | (refine wpList_cmp _ rfl .eql (by simp) _ _ _ _ _ _ _ rfl rfl rfl ?_; try simp only [*]) | (refine wpList_cmp _ rfl .leq (by simp) _ _ _ _ _ _ _ rfl rfl rfl ?_; try simp only [*]) | (refine wpList_neg _ rfl _ _ _ _ rfl rfl ?_; intro r hr))
                go_loopw [9, 10] (fun p k wr => ∃ (j r m : Nat), j ≤ 8 ∧ k = .int .i64 (15 - 2 * (j : Int)) ∧ p = .float .f64 r ∧ can .f64 r = angP (fop .mul .f64 (angI (angT A B) 3) (angI (angT A B) 3)) j ∧ wr = w'.drewN m) (fun _ k _ => (intOf k + 2).toNat)
                case atStart => exact ⟨0, _, _, by omega, rfl, rfl, c0, rfl⟩
                case round =>
                  obtain ⟨j, r, m, hj, rfl, rfl, hq, rfl⟩ := hrel
                  by_cases hlt2 : j < 8
                  · have hge : (1 : Int) ≤ 15 - 2 * (j : Int) := by omega
                    go_wp2_with (first | (refine wpList_fl _ rfl .add (by simp) _ _ _ _ _ _ _ rfl rfl rfl ?_; intro r n hr) | (refine wpList_fl _ rfl .sub (by simp) _ _ _ _ _ _ _ rfl rfl rfl ?_; intro r n hr) | (refine wpList_fl _ rfl .mul (by simp) _ _ _ _ _ _ _ rfl rfl rfl ?_; intro r n hr) | (refine wpList_fl _ rfl .quo (by simp) _ _ _ _ _ _ _ rfl rfl rfl ?_; intro r n hr) | (refine wpList_cmp _ rfl .lss (by simp) _ _ _ _ _ _ _ rfl rfl rfl ?_; try simp only [*]) | (refine wpList_cmp _ rfl .geq (by simp) _ _ _ _ _ _ _ rfl rfl rfl ?_; try simp only [*]) | (refine wpList_cmp _ rfl .gtr (by simp) _ _ _ _ _ _ _ rfl rfl rfl ?_; try simp only [*]) | (refine wpList_cmp _ rfl .neq (by simp) _ _ _ _ _ _ _ rfl rfl rfl ?_; try simp only [*]) | (refine wpList_cmp _ rfl .eql (by simp) _ _ _ _ _ _ _ rfl rfl rfl ?_; try simp only [*]) | (refine wpList_cmp _ rfl .leq (by simp) _ _ _ _ _ _ _ rfl rfl rfl ?_; try simp only [*]) | (refine wpList_neg _ rfl _ _ _ _ rfl rfl ?_; intro r hr))
                    go_roundw
                    case rel => exact ⟨j + 1, _, _, by omega, by go_num, rfl, by simp only [angP, wOne, *], rfl⟩
                    case measure => simp [intOf]; omega
                  · obtain rfl : j = 8 := by omega
                    have hRR : fop .quo .f64 (fop .mul .f64 4620693217682128896 (fop .mul .f64 (angI (angT A B) 3) (angP (fop .mul .f64 (angI (angT A B) 3) (angI (angT A B) 3)) 8))) 4618760256179416344 = angR (angI (angT A B) 3) := rfl
                    by_cases hnx : nx = true <;> by_cases hny : ny = true
                    all_goals
                      try simp only [Bool.not_eq_true] at hnx hny
                      go_wp2_with (first | (refine wpList_fl _ rfl .add (by simp) _ _ _ _ _ _ _ rfl rfl rfl ?_; intro r n hr) | (refine wpList_fl _ rfl .sub (by simp) _ _ _ _ _ _ _ rfl rfl rfl ?_; intro r n hr) | (refine wpList_fl _ rfl .mul (by simp) _ _ _ _ _ _ _ rfl rfl rfl ?_; intro r n hr) | (refine wpList_fl _ rfl .quo (by simp) _ _ _ _ _ _ _ rfl rfl rfl ?_; intro r n hr) | (refine wpList_cmp _ rfl .lss (by simp) _ _ _ _ _ _ _ rfl rfl rfl ?_; try simp only [*]) | (refine wpList_cmp _ rfl .geq (by simp) _ _ _ _ _ _ _ rfl rfl rfl ?_; try simp only [*]) | (refine wpList_cmp _ rfl .gtr (by simp) _ _ _ _ _ _ _ rfl rfl rfl ?_; try simp only [*]) | (refine wpList_cmp _ rfl .neq (by simp) _ _ _ _ _ _ _ rfl rfl rfl ?_; try simp only [*]) | (refine wpList_cmp _ rfl .eql (by simp) _ _ _ _ _ _ _ rfl rfl rfl ?_; try simp only [*]) | (refine wpList_cmp _ rfl .leq (by simp) _ _ _ _ _ _ _ rfl rfl rfl ?_; try simp only [*]) | (refine wpList_neg _ rfl _ _ _ _ rfl rfl ?_; intro r hr))
                      go_ret
                      refine ⟨_, rfl, ?_, Go.below_drewN HW.out _⟩
                      rw [HV.out]
                      refine narrowTo ?_ (HO.out _ _)
                      rw [HR.out]; simp only [ang2, ang3, wHalf, wQuarter, Bool.false_eq_true, if_true, if_false, *]
      · have ex' : cmpF .eql .f32 x 0 = false := by rw [ex]; simpa using hzx
        clear ex ey hz hzx sx0 sxl sy0 syl ay ay2 ax ax2 hly hlx eY eX fy fx hff hf h0
        by_cases tov : cmpF .gtr .f64 A B = true
        · have hT : fop .quo .f64 B A = angT A B := by unfold angT; rw [tov]; rfl
          have hR : ∀ nx ny, angF A B nx ny = ang3 ny (ang2 nx (fop .sub .f64 wQuarter (angR (angI (angT A B) 3)))) := fun nx ny => by unfold angF ang1; rw [tov]; rfl
          have HR := Lib.hid hR
          clear hR
          go_enter Try.func27, Try.ntmps27
          go_wp2_with fail
          refine (implFinite2 _ y x _ (by simp [go_sem]) (by simp [go_sem])).mono ?_
          rintro e w' ⟨rfl, n, hw'⟩
          rw [HFB.out]
          have HW : Hid (Below w.heap.size w w') := by
            rw [hw']; exact Go.below_drewN (Below.alloc (Below.refl _ _) (Nat.le_refl _) _) n
          clear hw'
          go_wp2_with (first | (go_at_call 54; (first | (with_reducible refine (HAy.out _).mono ?_) | (with_reducible refine (HAx.out _).mono ?_)); rintro e w' ⟨rfl, rfl⟩) | (go_at_call 58; refine (mathNaN _).mono ?_; rintro e w' ⟨rfl, rfl⟩) | (first | (refine wpList_fl _ rfl .add (by simp) _ _ _ _ _ _ _ rfl rfl rfl ?_; intro r n hr) | (refine wpList_fl _ rfl .sub (by simp) _ _ _ _ _ _ _ rfl rfl rfl ?_; intro r n hr) | (refine wpList_fl _ rfl .mul (by simp) _ _ _ _ _ _ _ rfl rfl rfl ?_; intro r n hr) | (refine wpList_fl _ rfl .quo (by simp) _ _ _ _ _ _ _ rfl rfl rfl ?_; intro r n hr) | (refine wpList_cmp _ rfl .lss (by simp) _ _ _ _ _ _ _ rfl rfl rfl ?_; try simp only [*]) | (refine wpList_cmp _ rfl .geq (by simp) _ _ _ _ _ _ _ rfl rfl rfl ?_; try simp only [*]) | (refine wpList_cmp _ rfl .gtr (by simp) _ _ _ _ _ _ _ rfl rfl rfl ?_; try simp only [*]) | (refine wpList_cmp _ rfl .neq (by simp) _ _ _ _ _ _ _ rfl rfl rfl ?_; try simp only [*]) | (refine wpList_cmp _ rfl .eql (by simp) _ _ _ _ _ _ _ rfl rfl rfl ?_; try simp only [*]) | (refine wpList_cmp _ rfl .leq (by simp) _ _ _ _ _ _ _ rfl rfl rfl ?_; try simp only [*]) | (refine wpList_neg _ rfl _ _ _ _ rfl rfl ?_; intro r hr)))
          go_loopw [7, 42] (fun t k wr => ∃ (j r m : Nat), j ≤ 3 ∧ k = .int .i64 (j : Int) ∧ t = .float .f64 r ∧ can .f64 r = angI (angT A B) j ∧ wr = w'.drewN m) (fun _ k _ => 4 - (intOf k).toNat)
          case atStart => exact ⟨0, _, _, by omega, rfl, rfl, by simp only [angI, *], rfl⟩
          case round =>
            obtain ⟨j, r, m, hj, rfl, rfl, hp, rfl⟩ := hrel
            by_cases hlt : j < 3
            · go_wp2_with (first | (go_at_call 50; refine (mathSqrt _ _).mono ?_; rintro e w' ⟨r, n, rfl, hr, rfl⟩) | (first | (refine wpList_fl _ rfl .add (by simp) _ _ _ _ _ _ _ rfl rfl rfl ?_; intro r n hr) | (refine wpList_fl _ rfl .sub (by simp) _ _ _ _ _ _ _ rfl rfl rfl ?_; intro r n hr) | (refine wpList_fl _ rfl .mul (by simp) _ _ _ _ _ _ _ rfl rfl rfl ?_; intro r n hr) | (refine wpList_fl _ rfl .quo (by simp) _ _ _ _ _ _ _ rfl rfl rfl ?_; intro r n hr) | (refine wpList_cmp _ rfl .lss (by simp) _ _ _ _ _ _ _ rfl rfl rfl ?_; try simp only [*]) | (refine wpList_cmp _ rfl .geq (by simp) _ _ _ _ _ _ _ rfl rfl rfl ?_; try simp only [*]) | (refine wpList_cmp _ rfl .gtr (by simp) _ _ _ _ _ _ _ rfl rfl rfl ?_; try simp only [*]) | (refine wpList_cmp _ rfl .neq (by simp) _ _ _ _ _ _ _ rfl rfl rfl ?_; try simp only [*]) | (refine wpList_cmp _ rfl .eql (by simp) _ _ _ _ _ _ _ rfl rfl rfl ?_; try simp only [*]) | (refine wpList_cmp _ rfl .leq (by simp) _ _ _ _ _ _ _ rfl rfl rfl ?_; try simp only [*]) | (refine wpList_neg _ rfl _ _ _ _ rfl rfl ?_; intro r hr)))
              go_roundw
              case rel => exact ⟨j + 1, _, _, by omega, by go_num, rfl, by simp only [angI, angS, wOne, *], rfl⟩
              case measure => simp [intOf]; omega
            · obtain rfl : j = 3 := by omega
              go_wp2_with (first | (refine wpList_fl _ rfl .add (by simp) _ _ _ _ _ _ _ rfl rfl rfl ?_; intro r n hr) | (refine wpList_fl _ rfl .sub (by simp) _ _ _ _ _ _ _ rfl rfl rfl ?_; intro r n hr) | (refine wpList_fl _ rfl .mul (by simp) _ _ _ _ _ _ _ rfl rfl rfl ?_; intro r n hr) | (refine wpList_fl _ rfl .quo (by simp) _ _ _ _ _ _ _ rfl rfl rfl ?_; intro r n hr) | (refine wpList_cmp _ rfl .lss (by simp) _ _ _ _ _ _ _ rfl rfl rfl ?_; try simp only [*]) | (refine wpList_cmp _ rfl .geq (by simp) _ _ _ _ _ _ _ rfl rfl rfl ?_; try simp only [*]) | (refine wpList_cmp _ rfl .gtr (by simp) _ _ _ _ _ _ _ rfl rfl rfl ?_; try simp only [*]) | (refine wpList_cmp _ rfl .neq (by simp) _ _ _ _ _ _ _ rfl rfl rfl ?_; try simp only [*]) | (refine wpList_cmp _ rfl .eql (by simp) _ _ _ _ _ _ _ rfl rfl rfl ?_; try simp only [*]) | (refine wpList_cmp _ rfl .leq (by simp) _ _ _ _ _ _ _ rfl rfl rfl ?_; try simp only [*]) | (refine wpList_neg _ rfl _ _ _ _ rfl rfl ?_; intro r hr))
              go_loopw [9, 10] (fun p k wr => ∃ (j r m : Nat), j ≤ 8 ∧ k = .int .i64 (15 - 2 * (j : Int)) ∧ p = .float .f64 r ∧ can .f64 r = angP (fop .mul .f64 (angI (angT A B) 3) (angI (angT A B) 3)) j ∧ wr = w'.drewN m) (fun _ k _ => (intOf k + 2).toNat)
              case atStart => exact ⟨0, _, _, by omega, rfl, rfl, c0, rfl⟩
              case round =>
                obtain ⟨j, r, m, hj, rfl, rfl, hq, rfl⟩ := hrel
                by_cases hlt2 : j < 8
                · have hge : (1 : Int) ≤ 15 - 2 * (j : Int) := by omega
                  go_wp2_with (first | (refine wpList_fl _ rfl .add (by simp) _ _ _ _ _ _ _ rfl rfl rfl ?_; intro r n hr) | (refine wpList_fl _ rfl .sub (by simp) _ _ _ _ _ _ _ rfl rfl rfl ?_; intro r n hr) | (refine wpList_fl _ rfl .mul (by simp) _ _ _ _ _ _ _ rfl rfl rfl ?_; intro r n hr) | (refine wpList_fl _ rfl .quo (by simp) _ _ _ _ _ _ _ rfl rfl rfl ?_; intro r n hr) | (refine wpList_cmp _ rfl .lss (by simp) _ _ _ _ _ _ _ rfl rfl rfl ?_; try simp only [*]) | (refine wpList_cmp _ rfl .geq (by simp) _ _ _ _ _ _ _ rfl rfl rfl ?_; try simp only [*]) | (refine wpList_cmp _ rfl .gtr (by simp) _ _ _ _ _ _ _ rfl rfl rfl ?_; try simp only [*]) | (refine wpList_cmp _ rfl .neq (by simp) _ _ _ _ _ _ _ rfl rfl rfl ?_; try simp only [*]) | (refine wpList_cmp _ rfl .eql (by simp) _ _ _ _ _ _ _ rfl rfl rfl ?_; try simp only [*]) | (refine wpList_cmp _ rfl .leq (by simp) _ _ _ _ _ _ _ rfl rfl rfl ?_; try simp only [*]) | (refine wpList_neg _ rfl _ _ _ _ rfl rfl ?_; intro r hr))
                  go_roundw
                  case rel => exact ⟨j + 1, _, _, by omega, by go_num, rfl, by simp only [angP, wOne, *], rfl⟩
                  case measure => simp [intOf]; omega
                · obtain rfl : j = 8 := by omega
                  have hRR : fop .quo .f64 (fop .mul .f64 4620693217682128896 (fop .mul .f64 (angI (angT A B) 3) (angP (fop .mul .f64 (angI (angT A B) 3) (angI (angT A B) 3)) 8))) 4618760256179416344 = angR (angI (angT A B) 3) := rfl
                  by_cases hnx : nx = true <;> by_cases hny : ny = true
                  all_goals
                    try simp only [Bool.not_eq_true] at hnx hny
                    go_wp2_with (first | (refine wpList_fl _ rfl .add (by simp) _ _ _ _ _ _ _ rfl rfl rfl ?_; intro r n hr) | (refine wpList_fl _ rfl .sub (by simp) _ _ _ _ _ _ _ rfl rfl rfl ?_; intro r n hr) | (refine wpList_fl _ rfl .mul (by simp) _ _ _ _ _ _ _ rfl rfl rfl ?_; intro r n hr) | (refine wpList_fl _ rfl .quo (by simp) _ _ _ _ _ _ _ rfl rfl rfl ?_; intro r n hr) | (refine wpList_cmp _ rfl .lss (by simp) _ _ _ _ _ _ _ rfl rfl rfl ?_; try simp only [*]) | (refine wpList_cmp _ rfl .geq (by simp) _ _ _ _ _ _ _ rfl rfl rfl ?_; try simp only [*]) | (refine wpList_cmp _ rfl .gtr (by simp) _ _ _ _ _ _ _ rfl rfl rfl ?_; try simp only [*]) | (refine wpList_cmp _ rfl .neq (by simp) _ _ _ _ _ _ _ rfl rfl rfl ?_; try simp only [*]) | (refine wpList_cmp _ rfl .eql (by simp) _ _ _ _ _ _ _ rfl rfl rfl ?_; try simp only [*]) | (refine wpList_cmp _ rfl .leq (by simp) _ _ _ _ _ _ _ rfl rfl rfl ?_; try simp only [*]) | (refine wpList_neg _ rfl _ _ _ _ rfl rfl ?_; intro r hr))
                    go_ret
                    refine ⟨_, rfl, ?_, Go.below_drewN HW.out _⟩
                    rw [HV.out]
                    refine narrowTo ?_ (HO.out _ _)
                    rw [HR.out]; simp only [ang2, ang3, wHalf, wQuarter, Bool.false_eq_true, if_true, if_false, *]
        · simp only [Bool.not_eq_true] at tov
          have hT : fop .quo .f64 A B = angT A B := by unfold angT; rw [tov]; rfl
          have hR : ∀ nx ny, angF A B nx ny = ang3 ny (ang2 nx (angR (angI (angT A B) 3))) := fun nx ny => by unfold angF ang1; rw [tov]; rfl
          have HR := Lib.hid hR
          clear hR
          go_enter Try.func27, Try.ntmps27
          go_wp2_with fail
          refine (implFinite2 _ y x _ (by simp [go_sem]) (by simp [go_sem])).mono ?_
          rintro e w' ⟨rfl, n, hw'⟩
          rw [HFB.out]
          have HW : Hid (Below w.heap.size w w') := by
            rw [hw']; exact Go.below_drewN (Below.alloc (Below.refl _ _) (Nat.le_refl _) _) n
          clear hw'
          go_wp2_with (first | (go_at_call 54; (first | (with_reducible refine (HAy.out _).mono ?_) | (with_reducible refine (HAx.out _).mono ?_)); rintro e w' ⟨rfl, rfl⟩) | (go_at_call 58; refine (mathNaN _).mono ?_; rintro e w' ⟨rfl, rfl⟩) | (first | (refine wpList_fl _ rfl .add (by simp) _ _ _ _ _ _ _ rfl rfl rfl ?_; intro r n hr) | (refine wpList_fl _ rfl .sub (by simp) _ _ _ _ _ _ _ rfl rfl rfl ?_; intro r n hr) | (refine wpList_fl _ rfl .mul (by simp) _ _ _ _ _ _ _ rfl rfl rfl ?_; intro r n hr) | (refine wpList_fl _ rfl .quo (by simp) _ _ _ _ _ _ _ rfl rfl rfl ?_; intro r n hr) | (refine wpList_cmp _ rfl .lss (by simp) _ _ _ _ _ _ _ rfl rfl rfl ?_; try simp only [*]) | (refine wpList_cmp _ rfl .geq (by simp) _ _ _ _ _ _ _ rfl rfl rfl ?_; try simp only [*]) | (refine wpList_cmp _ rfl .gtr (by simp) _ _ _ _ _ _ _ rfl rfl rfl ?_; try simp only [*]) | (refine wpList_cmp _ rfl .neq (by simp) _ _ _ _ _ _ _ rfl rfl rfl ?_; try simp only [*]) | (refine wpList_cmp _ rfl .eql (by simp) _ _ _ _ _ _ _ rfl rfl rfl ?_; try simp only [*]) | (refine wpList_cmp _ rfl .leq (by simp) _ _ _ _ _ _ _ rfl rfl rfl ?_; try simp only [*]) | (refine wpList_neg _ rfl _ _ _ _ rfl rfl ?_; intro r hr)))
          go_loopw [7, 42] (fun t k wr => ∃ (j r m : Nat), j ≤ 3 ∧ k = .int .i64 (j : Int) ∧ t = .float .f64 r ∧ can .f64 r = angI (angT A B) j ∧ wr = w'.drewN m) (fun _ k _ => 4 - (intOf k).toNat)
          case atStart => exact ⟨0, _, _, by omega, rfl, rfl, by simp only [angI, *], rfl⟩
          case round =>
            obtain ⟨j, r, m, hj, rfl, rfl, hp, rfl⟩ := hrel
            by_cases hlt : j < 3
            · go_wp2_with (first | (go_at_call 50; refine (mathSqrt _ _).mono ?_; rintro e w' ⟨r, n, rfl, hr, rfl⟩) | (first | (refine wpList_fl _ rfl .add (by simp) _ _ _ _ _ _ _ rfl rfl rfl ?_; intro r n hr) | (refine wpList_fl _ rfl .sub (by simp) _ _ _ _ _ _ _ rfl rfl rfl ?_; intro r n hr) | (refine wpList_fl _ rfl .mul (by simp) _ _ _ _ _ _ _ rfl rfl rfl ?_; intro r n hr) | (refine wpList_fl _ rfl .quo (by simp) _ _ _ _ _ _ _ rfl rfl rfl ?_; intro r n hr) | (refine wpList_cmp _ rfl .lss (by simp) _ _ _ _ _ _ _ rfl rfl rfl ?_; try simp only [*]) | (refine wpList_cmp _ rfl .geq (by simp) _ _ _ _ _ _ _ rfl rfl rfl ?_; try simp only [*]) | (refine wpList_cmp _ rfl .gtr (by simp) _ _ _ _ _ _ _ rfl rfl rfl ?_; try simp only [*]) | (refine wpList_cmp _ rfl .neq (by simp) _ _ _ _ _ _ _ rfl rfl rfl ?_; try simp only [*]) | (refine wpList_cmp _ rfl .eql (by simp) _ _ _ _ _ _ _ rfl rfl rfl ?_; try simp only [*]) | (refine wpList_cmp _ rfl .leq (by simp) _ _ _ _ _ _ _ rfl rfl rfl ?_; try simp only [*]) | (refine wpList_neg _ rfl _ _ _ _ rfl rfl ?_; intro r hr)))
              go_roundw
              case rel => exact ⟨j + 1, _, _, by omega, by go_num, rfl, by simp only [angI, angS, wOne, *], rfl⟩
              case measure => simp [intOf]; omega
            · obtain rfl : j = 3 := by omega
              go_wp2_with (first | (refine wpList_fl _ rfl .add (by simp) _ _ _ _ _ _ _ rfl rfl rfl ?_; intro r n hr) | (refine wpList_fl _ rfl .sub (by simp) _ _ _ _ _ _ _ rfl rfl rfl ?_; intro r n hr) | (refine wpList_fl _ rfl .mul (by simp) _ _ _ _ _ _ _ rfl rfl rfl ?_; intro r n hr) | (refine wpList_fl _ rfl .quo (by simp) _ _ _ _ _ _ _ rfl rfl rfl ?_; intro r n hr) | (refine wpList_cmp _ rfl .lss (by simp) _ _ _ _ _ _ _ rfl rfl rfl ?_; try simp only [*]) | (refine wpList_cmp _ rfl .geq (by simp) _ _ _ _ _ _ _ rfl rfl rfl ?_; try simp only [*]) | (refine wpList_cmp _ rfl .gtr (by simp) _ _ _ _ _ _ _ rfl rfl rfl ?_; try simp only [*]) | (refine wpList_cmp _ rfl .neq (by simp) _ _ _ _ _ _ _ rfl rfl rfl ?_; try simp only [*]) | (refine wpList_cmp _ rfl .eql (by simp) _ _ _ _ _ _ _ rfl rfl rfl ?_; try simp only [*]) | (refine wpList_cmp _ rfl .leq (by simp) _ _ _ _ _ _ _ rfl rfl rfl ?_; try simp only [*]) | (refine wpList_neg _ rfl _ _ _ _ rfl rfl ?_; intro r hr))
              go_loopw [9, 10] (fun p k wr => ∃ (j r m : Nat), j ≤ 8 ∧ k = .int .i64 (15 - 2 * (j : Int)) ∧ p = .float .f64 r ∧ can .f64 r = angP (fop .mul .f64 (angI (angT A B) 3) (angI (angT A B) 3)) j ∧ wr = w'.drewN m) (fun _ k _ => (intOf k + 2).toNat)
              case atStart => exact ⟨0, _, _, by omega, rfl, rfl, c0, rfl⟩
              case round =>
                obtain ⟨j, r, m, hj, rfl, rfl, hq, rfl⟩ := hrel
                by_cases hlt2 : j < 8
                · have hge : (1 : Int) ≤ 15 - 2 * (j : Int) := by omega
                  go_wp2_with (first | (refine wpList_fl _ rfl .add (by simp) _ _ _ _ _ _ _ rfl rfl rfl ?_; intro r n hr) | (refine wpList_fl _ rfl .sub (by simp) _ _ _ _ _ _ _ rfl rfl rfl ?_; intro r n hr) | (refine wpList_fl _ rfl .mul (by simp) _ _ _ _ _ _ _ rfl rfl rfl ?_; intro r n hr) | (refine wpList_fl _ rfl .quo (by simp) _ _ _ _ _ _ _ rfl rfl rfl ?_; intro r n hr) | (refine wpList_cmp _ rfl .lss (by simp) _ _ _ _ _ _ _ rfl rfl rfl ?_; try simp only [*]) | (refine wpList_cmp _ rfl .geq (by simp) _ _ _ _ _ _ _ rfl rfl rfl ?_; try simp only [*]) | (refine wpList_cmp _ rfl .gtr (by simp) _ _ _ _ _ _ _ rfl rfl rfl ?_; try simp only [*]) | (refine wpList_cmp _ rfl .neq (by simp) _ _ _ _ _ _ _ rfl rfl rfl ?_; try simp only [*]) | (refine wpList_cmp _ rfl .eql (by simp) _ _ _ _ _ _ _ rfl rfl rfl ?_; try simp only [*]) | (refine wpList_cmp _ rfl .leq (by simp) _ _ _ _ _ _ _ rfl rfl rfl ?_; try simp only [*]) | (refine wpList_neg _ rfl _ _ _ _ rfl rfl ?_; intro r hr))
                  go_roundw
                  case rel => exact ⟨j + 1, _, _, by omega, by go_num, rfl, by simp only [angP, wOne, *], rfl⟩
                  case measure => simp [intOf]; omega
                · obtain rfl : j = 8 := by omega
                  have hRR : fop .quo .f64 (fop .mul .f64 4620693217682128896 (fop .mul .f64 (angI (angT A B) 3) (angP (fop .mul .f64 (angI (angT A B) 3) (angI (angT A B) 3)) 8))) 4618760256179416344 = angR (angI (angT A B) 3) := rfl
                  by_cases hnx : nx = true <;> by_cases hny : ny = true
                  all_goals
                    try simp only [Bool.not_eq_true] at hnx hny
                    go_wp2_with (first | (refine wpList_fl _ rfl .add (by simp) _ _ _ _ _ _ _ rfl rfl rfl ?_; intro r n hr) | (refine wpList_fl _ rfl .sub (by simp) _ _ _ _ _ _ _ rfl rfl rfl ?_; intro r n hr) | (refine wpList_fl _ rfl .mul (by simp) _ _ _ _ _ _ _ rfl rfl rfl ?_; intro r n hr) | (refine wpList_fl _ rfl .quo (by simp) _ _ _ _ _ _ _ rfl rfl rfl ?_; intro r n hr) | (refine wpList_cmp _ rfl .lss (by simp) _ _ _ _ _ _ _ rfl rfl rfl ?_; try simp only [*]) | (refine wpList_cmp _ rfl .geq (by simp) _ _ _ _ _ _ _ rfl rfl rfl ?_; try simp only [*]) | (refine wpList_cmp _ rfl .gtr (by simp) _ _ _ _ _ _ _ rfl rfl rfl ?_; try simp only [*]) | (refine wpList_cmp _ rfl .neq (by simp) _ _ _ _ _ _ _ rfl rfl rfl ?_; try simp only [*]) | (refine wpList_cmp _ rfl .eql (by simp) _ _ _ _ _ _ _ rfl rfl rfl ?_; try simp only [*]) | (refine wpList_cmp _ rfl .leq (by simp) _ _ _ _ _ _ _ rfl rfl rfl ?_; try simp only [*]) | (refine wpList_neg _ rfl _ _ _ _ rfl rfl ?_; intro r hr))
                    go_ret
                    refine ⟨_, rfl, ?_, Go.below_drewN HW.out _⟩
                    rw [HV.out]
                    refine narrowTo ?_ (HO.out _ _)
                    rw [HR.out]; simp only [ang2, ang3, wHalf, wQuarter, Bool.false_eq_true, if_true, if_false, *]
  · have HFB := Lib.hid (show (finB y && finB x) = false by simpa using hf)
    have HV := Lib.hid (show angleT y x = qn .f32 by unfold angleT; rw [if_neg hf])
    clear hf
    go_enter Try.func27, Try.ntmps27
    go_wp2_with fail
    refine (implFinite2 _ y x _ (by simp [go_sem]) (by simp [go_sem])).mono ?_
    rintro e w' ⟨rfl, n, hw'⟩
    rw [HFB.out]
    have HW : Hid (Below w.heap.size w w') := by
      rw [hw']; exact Go.below_drewN (Below.alloc (Below.refl _ _) (Nat.le_refl _) _) n
    clear hw'
    go_wp2_with (first | (go_at_call 54; (first | (with_reducible refine (HAy.out _).mono ?_) | (with_reducible refine (HAx.out _).mono ?_)); rintro e w' ⟨rfl, rfl⟩) | (go_at_call 58; refine (mathNaN _).mono ?_; rintro e w' ⟨rfl, rfl⟩) | (first | (refine wpList_fl _ rfl .add (by simp) _ _ _ _ _ _ _ rfl rfl rfl ?_; intro r n hr) | (refine wpList_fl _ rfl .sub (by simp) _ _ _ _ _ _ _ rfl rfl rfl ?_; intro r n hr) | (refine wpList_fl _ rfl .mul (by simp) _ _ _ _ _ _ _ rfl rfl rfl ?_; intro r n hr) | (refine wpList_fl _ rfl .quo (by simp) _ _ _ _ _ _ _ rfl rfl rfl ?_; intro r n hr) | (refine wpList_cmp _ rfl .lss (by simp) _ _ _ _ _ _ _ rfl rfl rfl ?_; try simp only [*]) | (refine wpList_cmp _ rfl .geq (by simp) _ _ _ _ _ _ _ rfl rfl rfl ?_; try simp only [*]) | (refine wpList_cmp _ rfl .gtr (by simp) _ _ _ _ _ _ _ rfl rfl rfl ?_; try simp only [*]) | (refine wpList_cmp _ rfl .neq (by simp) _ _ _ _ _ _ _ rfl rfl rfl ?_; try simp only [*]) | (refine wpList_cmp _ rfl .eql (by simp) _ _ _ _ _ _ _ rfl rfl rfl ?_; try simp only [*]) | (refine wpList_cmp _ rfl .leq (by simp) _ _ _ _ _ _ _ rfl rfl rfl ?_; try simp only [*]) | (refine wpList_neg _ rfl _ _ _ _ rfl rfl ?_; intro r hr)))
    go_ret
    refine ⟨_, rfl, ?_, Go.below_drewN HW.out _⟩
    rw [HV.out]
    exact narrowTo (v := qn .f64) (by decide +kernel) (by decide +kernel)
end Go.Proofs.Ythbinacchpjkmaa.Wk
