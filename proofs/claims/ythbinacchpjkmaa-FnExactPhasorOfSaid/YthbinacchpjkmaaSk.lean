/- The walk of the reference's phasor. -/
import Derived.Test.YthbinacchpjkmaaSj
set_option linter.unusedSimpArgs false
set_option linter.unusedVariables false
namespace Go.Proofs.Ythbinacchpjkmaa.Wk
open Go.RowKit Fl

theorem partF_lt {x : Nat} (hx : x < 2 ^ 64) : partF x < 2 ^ 64 := by
  unfold partF; split
  · exact fop_lt _ _ _
  · unfold step1; split
    · exact fop_lt _ _ _
    · exact hx
set_option maxRecDepth 100000 in
set_option maxHeartbeats 40000000 in
theorem specPhasor_in (x : Nat) (hx : x < 2 ^ 64) (h : fin D x) (hlo : -(P 1126 : Int) < sV D x) (hhi : sV D x < (P 1126 : Int)) (hw : cutW x ≤ P 52) (w : World) :
    Calls Try.prog 62 #[.float .f64 x] w (RP (partF x) w) := by
  have hcx : can .f64 x = x := can_of_not (fin_not_nan (k := .f64) h)
  have hst : fop .sub .f64 x (can .f64 (floatOfInt .f64 (toI x))) = step1 x := (step1_eq hx h hw).symm
  have hz0 : cmpF .neq .f64 (fop .sub .f64 x x) 0 = false := by
    obtain ⟨r, e, hf, r1, r2⟩ := sub_bounds D ebD h h 0 0 (rep0 D (infV_pos D)) (rep0 D (infV_pos D)) (by omega) (by omega)
    rw [fop_some (op := .sub) e hf, (cmp_fin hf fin0).2.1, sV0]
    simp; omega
  have hW : sV D 4841369599423283200 = (P 1126 : Int) := by decide +kernel
  have hWn : sV D 14064741636278059008 = -(P 1126 : Int) := by decide +kernel
  have o1 : FloatKind.f64.format.order x 4841369599423283200 = some .lt := by
    rw [show FloatKind.f64.format.order x 4841369599423283200 = _ from order_fin D h (fin64 (by decide)), hW]
    simp only [compare, compareOfLessAndEq]; rw [if_pos hhi]
  have o2 : FloatKind.f64.format.order x 14064741636278059008 = some .gt := by
    rw [show FloatKind.f64.format.order x 14064741636278059008 = _ from order_fin D h (fin64 (by decide)), hWn]
    simp only [compare, compareOfLessAndEq]; rw [if_neg (by omega), if_neg (by omega)]
  have o1' : cmpF .geq .f64 x 4841369599423283200 = false := by unfold cmpF; rw [o1]; rfl
  have o2' : cmpF .leq .f64 x 14064741636278059008 = false := by unfold cmpF; rw [o2]; rfl
  have hcv := fun w => run_convert_float_int (P := Try.prog) w 30 2 .f64 .i64 x (toI x) (by kernel_rfl) Try.underlying2 (trunc_int h hw)
  have hFI := partF_fi h hw
  have HlF := Lib.hid (partF_lt hx)
  have k0 := c0
  have k1 := cOne
  have k3 := cQuarter
  have k5 := cWhole
  have k6 := cWholeNeg
  by_cases t3 : cmpF .lss .f64 (step1 x) 0 = true
  · have hF : fop .add .f64 (step1 x) 4607182418800017408 = partF x := by unfold partF; rw [if_pos t3]
    clear h hw hx hlo hhi hW hWn
    generalize partF x = F at *

    have HF := Lib.hid hFI
    clear hFI
    go_enter Try.func62, Try.ntmps62
    go_wp2_with (first | (refine wpList_fl _ rfl .add (by simp) _ _ _ _ _ _ _ rfl rfl rfl ?_; intro r n hr) | (refine wpList_fl _ rfl .sub (by simp) _ _ _ _ _ _ _ rfl rfl rfl ?_; intro r n hr) | (refine wpList_fl _ rfl .mul (by simp) _ _ _ _ _ _ _ rfl rfl rfl ?_; intro r n hr) | (refine wpList_fl _ rfl .quo (by simp) _ _ _ _ _ _ _ rfl rfl rfl ?_; intro r n hr) | (refine wpList_cmp _ rfl .lss (by simp) _ _ _ _ _ _ _ rfl rfl rfl ?_; try simp only [*]) | (refine wpList_cmp _ rfl .geq (by simp) _ _ _ _ _ _ _ rfl rfl rfl ?_; try simp only [*]) | (refine wpList_cmp _ rfl .gtr (by simp) _ _ _ _ _ _ _ rfl rfl rfl ?_; try simp only [*]) | (refine wpList_cmp _ rfl .neq (by simp) _ _ _ _ _ _ _ rfl rfl rfl ?_; try simp only [*]) | (refine wpList_cmp _ rfl .eql (by simp) _ _ _ _ _ _ _ rfl rfl rfl ?_; try simp only [*]) | (refine wpList_cmp _ rfl .leq (by simp) _ _ _ _ _ _ _ rfl rfl rfl ?_; try simp only [*]) | (refine wpList_neg _ rfl _ _ _ _ rfl rfl ?_; intro r hr))
    go_loopw [3, 4] (fun f q wr => ∃ (j r m : Nat), Hid (Ex F j) ∧ j ≤ 4 ∧ f = .float .f64 r ∧ q = .int .i64 (j : Int) ∧ can .f64 r = phF F j ∧ wr = w.drewN m) (fun _ q _ => 5 - (intOf q).toNat)
    case atStart => exact ⟨0, _, _, Ex.zero F, by omega, rfl, rfl, by simp only [phF, *], rfl⟩
    case round =>
      obtain ⟨j, r, m, hE, hj, rfl, rfl, hp, rfl⟩ := hrel
      have hr' := raw_eq hp (phF_fi HF.out j hE.out).2.1
      subst hr'
      by_cases ht : cmpF .geq .f64 (phF F j) 4598175219545276416 = true
      · have hE2 : Hid (Ex F (j + 1)) := hE.out.succ ht
        have hj2 : j + 1 ≤ 4 := (phF_fi HF.out (j + 1) hE2.out).1
        have hs : fop .sub .f64 (phF F j) 4598175219545276416 = phF F (j + 1) := rfl
        go_wp2_with (first | (refine wpList_fl _ rfl .add (by simp) _ _ _ _ _ _ _ rfl rfl rfl ?_; intro r n hr) | (refine wpList_fl _ rfl .sub (by simp) _ _ _ _ _ _ _ rfl rfl rfl ?_; intro r n hr) | (refine wpList_fl _ rfl .mul (by simp) _ _ _ _ _ _ _ rfl rfl rfl ?_; intro r n hr) | (refine wpList_fl _ rfl .quo (by simp) _ _ _ _ _ _ _ rfl rfl rfl ?_; intro r n hr) | (refine wpList_cmp _ rfl .lss (by simp) _ _ _ _ _ _ _ rfl rfl rfl ?_; try simp only [*]) | (refine wpList_cmp _ rfl .geq (by simp) _ _ _ _ _ _ _ rfl rfl rfl ?_; try simp only [*]) | (refine wpList_cmp _ rfl .gtr (by simp) _ _ _ _ _ _ _ rfl rfl rfl ?_; try simp only [*]) | (refine wpList_cmp _ rfl .neq (by simp) _ _ _ _ _ _ _ rfl rfl rfl ?_; try simp only [*]) | (refine wpList_cmp _ rfl .eql (by simp) _ _ _ _ _ _ _ rfl rfl rfl ?_; try simp only [*]) | (refine wpList_cmp _ rfl .leq (by simp) _ _ _ _ _ _ _ rfl rfl rfl ?_; try simp only [*]) | (refine wpList_neg _ rfl _ _ _ _ rfl rfl ?_; intro r hr))
        go_roundw
        case rel => exact ⟨j + 1, _, _, hE2, by omega, rfl, by go_num, by simp only [*], rfl⟩
        case measure => simp [intOf]; omega
      · simp only [Bool.not_eq_true] at ht
        have HT := Lib.hid ht
        obtain ⟨l1, l2⟩ := phF_left HF.out hE.out ht
        have g1 := fi_cut l1
        have g2 := fi_cut l2
        have HS1 := Lib.hid (fun w => specSineWide (fop .sub .f64 wQuarter (phF F j)) lt64 l2.1 g2.2.1 g2.2.2 g2.1 w)
        have HS2 := Lib.hid (fun w => specSineWide (phF F j) (phF_lt HlF.out j) l1.1 g1.2.1 g1.2.2 g1.1 w)
        have HL2 := Lib.hid l2.1
        obtain ⟨z1, z2⟩ := ph_sz HF.out hE.out ht
        have Q1 := Lib.hid (ovf_self z1)
        have Q2 := Lib.hid (ovf_self z2)
        have Q3 := Lib.hid (ovf_sub0 z1)
        have Q4 := Lib.hid (ovf_sub0 z2)
        clear l1 l2 g1 g2 z1 z2
        have hjj : j = 0 ∨ j = 1 ∨ j = 2 ∨ j = 3 ∨ j = 4 := by omega
        rcases hjj with rfl | rfl | rfl | rfl | rfl
        all_goals
          go_wp2_with (first | (refine wpList_fl _ rfl .add (by simp) _ _ _ _ _ _ _ rfl rfl rfl ?_; intro r n hr) | (refine wpList_fl _ rfl .sub (by simp) _ _ _ _ _ _ _ rfl rfl rfl ?_; intro r n hr) | (refine wpList_fl _ rfl .mul (by simp) _ _ _ _ _ _ _ rfl rfl rfl ?_; intro r n hr) | (refine wpList_fl _ rfl .quo (by simp) _ _ _ _ _ _ _ rfl rfl rfl ?_; intro r n hr) | (refine wpList_cmp _ rfl .lss (by simp) _ _ _ _ _ _ _ rfl rfl rfl ?_; try simp only [*]) | (refine wpList_cmp _ rfl .geq (by simp) _ _ _ _ _ _ _ rfl rfl rfl ?_; try simp only [*]) | (refine wpList_cmp _ rfl .gtr (by simp) _ _ _ _ _ _ _ rfl rfl rfl ?_; try simp only [*]) | (refine wpList_cmp _ rfl .neq (by simp) _ _ _ _ _ _ _ rfl rfl rfl ?_; try simp only [*]) | (refine wpList_cmp _ rfl .eql (by simp) _ _ _ _ _ _ _ rfl rfl rfl ?_; try simp only [*]) | (refine wpList_cmp _ rfl .leq (by simp) _ _ _ _ _ _ _ rfl rfl rfl ?_; try simp only [*]) | (refine wpList_neg _ rfl _ _ _ _ rfl rfl ?_; intro r hr))
          have e1 := raw_eq (hr.trans (by simp only [*] : _ = fop .sub .f64 wQuarter (phF F _))) HL2.out
          subst e1
          refine (HS1.out _).mono ?_; rintro e w' ⟨rc, nc, rfl, hc, rfl⟩
          go_wp2_with (first | (refine wpList_fl _ rfl .add (by simp) _ _ _ _ _ _ _ rfl rfl rfl ?_; intro r n hr) | (refine wpList_fl _ rfl .sub (by simp) _ _ _ _ _ _ _ rfl rfl rfl ?_; intro r n hr) | (refine wpList_fl _ rfl .mul (by simp) _ _ _ _ _ _ _ rfl rfl rfl ?_; intro r n hr) | (refine wpList_fl _ rfl .quo (by simp) _ _ _ _ _ _ _ rfl rfl rfl ?_; intro r n hr) | (refine wpList_cmp _ rfl .lss (by simp) _ _ _ _ _ _ _ rfl rfl rfl ?_; try simp only [*]) | (refine wpList_cmp _ rfl .geq (by simp) _ _ _ _ _ _ _ rfl rfl rfl ?_; try simp only [*]) | (refine wpList_cmp _ rfl .gtr (by simp) _ _ _ _ _ _ _ rfl rfl rfl ?_; try simp only [*]) | (refine wpList_cmp _ rfl .neq (by simp) _ _ _ _ _ _ _ rfl rfl rfl ?_; try simp only [*]) | (refine wpList_cmp _ rfl .eql (by simp) _ _ _ _ _ _ _ rfl rfl rfl ?_; try simp only [*]) | (refine wpList_cmp _ rfl .leq (by simp) _ _ _ _ _ _ _ rfl rfl rfl ?_; try simp only [*]) | (refine wpList_neg _ rfl _ _ _ _ rfl rfl ?_; intro r hr))
          refine (HS2.out _).mono ?_; rintro e w' ⟨rs, ns, rfl, hs, rfl⟩
          clear hr
          have hc' : can .f64 rc = phC F _ := hc
          have hs' : can .f64 rs = phS F _ := hs
          clear hc hs
          go_wp2_with (first | (refine wpList_fl _ rfl .add (by simp) _ _ _ _ _ _ _ rfl rfl rfl ?_; intro r n hr) | (refine wpList_fl _ rfl .sub (by simp) _ _ _ _ _ _ _ rfl rfl rfl ?_; intro r n hr) | (refine wpList_fl _ rfl .mul (by simp) _ _ _ _ _ _ _ rfl rfl rfl ?_; intro r n hr) | (refine wpList_fl _ rfl .quo (by simp) _ _ _ _ _ _ _ rfl rfl rfl ?_; intro r n hr) | (refine wpList_cmp _ rfl .lss (by simp) _ _ _ _ _ _ _ rfl rfl rfl ?_; try simp only [*]) | (refine wpList_cmp _ rfl .geq (by simp) _ _ _ _ _ _ _ rfl rfl rfl ?_; try simp only [*]) | (refine wpList_cmp _ rfl .gtr (by simp) _ _ _ _ _ _ _ rfl rfl rfl ?_; try simp only [*]) | (refine wpList_cmp _ rfl .neq (by simp) _ _ _ _ _ _ _ rfl rfl rfl ?_; try simp only [*]) | (refine wpList_cmp _ rfl .eql (by simp) _ _ _ _ _ _ _ rfl rfl rfl ?_; try simp only [*]) | (refine wpList_cmp _ rfl .leq (by simp) _ _ _ _ _ _ _ rfl rfl rfl ?_; try simp only [*]) | (refine wpList_neg _ rfl _ _ _ _ rfl rfl ?_; intro r hr))
          refine (l01Narrow _ _ ?_).mono ?_
          · simp only [*]
            with_reducible (first | exact Q1.out | exact Q2.out | exact Q3.out | exact Q4.out)
          rintro e w' ⟨ra, na, rfl, ha, rfl⟩
          go_wp2_with (first | (refine wpList_fl _ rfl .add (by simp) _ _ _ _ _ _ _ rfl rfl rfl ?_; intro r n hr) | (refine wpList_fl _ rfl .sub (by simp) _ _ _ _ _ _ _ rfl rfl rfl ?_; intro r n hr) | (refine wpList_fl _ rfl .mul (by simp) _ _ _ _ _ _ _ rfl rfl rfl ?_; intro r n hr) | (refine wpList_fl _ rfl .quo (by simp) _ _ _ _ _ _ _ rfl rfl rfl ?_; intro r n hr) | (refine wpList_cmp _ rfl .lss (by simp) _ _ _ _ _ _ _ rfl rfl rfl ?_; try simp only [*]) | (refine wpList_cmp _ rfl .geq (by simp) _ _ _ _ _ _ _ rfl rfl rfl ?_; try simp only [*]) | (refine wpList_cmp _ rfl .gtr (by simp) _ _ _ _ _ _ _ rfl rfl rfl ?_; try simp only [*]) | (refine wpList_cmp _ rfl .neq (by simp) _ _ _ _ _ _ _ rfl rfl rfl ?_; try simp only [*]) | (refine wpList_cmp _ rfl .eql (by simp) _ _ _ _ _ _ _ rfl rfl rfl ?_; try simp only [*]) | (refine wpList_cmp _ rfl .leq (by simp) _ _ _ _ _ _ _ rfl rfl rfl ?_; try simp only [*]) | (refine wpList_neg _ rfl _ _ _ _ rfl rfl ?_; intro r hr))
          refine (l01Narrow _ _ ?_).mono ?_
          · simp only [*]
            with_reducible (first | exact Q1.out | exact Q2.out | exact Q3.out | exact Q4.out)
          rintro e w' ⟨rb, nb, rfl, hb, rfl⟩
          go_wp2_with (first | (refine wpList_fl _ rfl .add (by simp) _ _ _ _ _ _ _ rfl rfl rfl ?_; intro r n hr) | (refine wpList_fl _ rfl .sub (by simp) _ _ _ _ _ _ _ rfl rfl rfl ?_; intro r n hr) | (refine wpList_fl _ rfl .mul (by simp) _ _ _ _ _ _ _ rfl rfl rfl ?_; intro r n hr) | (refine wpList_fl _ rfl .quo (by simp) _ _ _ _ _ _ _ rfl rfl rfl ?_; intro r n hr) | (refine wpList_cmp _ rfl .lss (by simp) _ _ _ _ _ _ _ rfl rfl rfl ?_; try simp only [*]) | (refine wpList_cmp _ rfl .geq (by simp) _ _ _ _ _ _ _ rfl rfl rfl ?_; try simp only [*]) | (refine wpList_cmp _ rfl .gtr (by simp) _ _ _ _ _ _ _ rfl rfl rfl ?_; try simp only [*]) | (refine wpList_cmp _ rfl .neq (by simp) _ _ _ _ _ _ _ rfl rfl rfl ?_; try simp only [*]) | (refine wpList_cmp _ rfl .eql (by simp) _ _ _ _ _ _ _ rfl rfl rfl ?_; try simp only [*]) | (refine wpList_cmp _ rfl .leq (by simp) _ _ _ _ _ _ _ rfl rfl rfl ?_; try simp only [*]) | (refine wpList_neg _ rfl _ _ _ _ rfl rfl ?_; intro r hr))
          go_ret
          refine ⟨_, _, _, rfl, ⟨_, hE.out, HT.out, ?_, ?_⟩, rfl⟩
          all_goals
            simp only [phRe, phIm, Nat.reduceEqDiff, if_true, if_false, *]
  · simp only [Bool.not_eq_true] at t3
    have hF : step1 x = partF x := by unfold partF; rw [t3]; rfl
    rw [hF] at hst t3
    clear h hw hx hlo hhi hW hWn hF
    generalize partF x = F at *

    have HF := Lib.hid hFI
    clear hFI
    go_enter Try.func62, Try.ntmps62
    go_wp2_with (first | (refine wpList_fl _ rfl .add (by simp) _ _ _ _ _ _ _ rfl rfl rfl ?_; intro r n hr) | (refine wpList_fl _ rfl .sub (by simp) _ _ _ _ _ _ _ rfl rfl rfl ?_; intro r n hr) | (refine wpList_fl _ rfl .mul (by simp) _ _ _ _ _ _ _ rfl rfl rfl ?_; intro r n hr) | (refine wpList_fl _ rfl .quo (by simp) _ _ _ _ _ _ _ rfl rfl rfl ?_; intro r n hr) | (refine wpList_cmp _ rfl .lss (by simp) _ _ _ _ _ _ _ rfl rfl rfl ?_; try simp only [*]) | (refine wpList_cmp _ rfl .geq (by simp) _ _ _ _ _ _ _ rfl rfl rfl ?_; try simp only [*]) | (refine wpList_cmp _ rfl .gtr (by simp) _ _ _ _ _ _ _ rfl rfl rfl ?_; try simp only [*]) | (refine wpList_cmp _ rfl .neq (by simp) _ _ _ _ _ _ _ rfl rfl rfl ?_; try simp only [*]) | (refine wpList_cmp _ rfl .eql (by simp) _ _ _ _ _ _ _ rfl rfl rfl ?_; try simp only [*]) | (refine wpList_cmp _ rfl .leq (by simp) _ _ _ _ _ _ _ rfl rfl rfl ?_; try simp only [*]) | (refine wpList_neg _ rfl _ _ _ _ rfl rfl ?_; intro r hr))
    go_loopw [3, 4] (fun f q wr => ∃ (j r m : Nat), Hid (Ex F j) ∧ j ≤ 4 ∧ f = .float .f64 r ∧ q = .int .i64 (j : Int) ∧ can .f64 r = phF F j ∧ wr = w.drewN m) (fun _ q _ => 5 - (intOf q).toNat)
    case atStart => exact ⟨0, _, _, Ex.zero F, by omega, rfl, rfl, by simp only [phF, *], rfl⟩
    case round =>
      obtain ⟨j, r, m, hE, hj, rfl, rfl, hp, rfl⟩ := hrel
      have hr' := raw_eq hp (phF_fi HF.out j hE.out).2.1
      subst hr'
      by_cases ht : cmpF .geq .f64 (phF F j) 4598175219545276416 = true
      · have hE2 : Hid (Ex F (j + 1)) := hE.out.succ ht
        have hj2 : j + 1 ≤ 4 := (phF_fi HF.out (j + 1) hE2.out).1
        have hs : fop .sub .f64 (phF F j) 4598175219545276416 = phF F (j + 1) := rfl
        go_wp2_with (first | (refine wpList_fl _ rfl .add (by simp) _ _ _ _ _ _ _ rfl rfl rfl ?_; intro r n hr) | (refine wpList_fl _ rfl .sub (by simp) _ _ _ _ _ _ _ rfl rfl rfl ?_; intro r n hr) | (refine wpList_fl _ rfl .mul (by simp) _ _ _ _ _ _ _ rfl rfl rfl ?_; intro r n hr) | (refine wpList_fl _ rfl .quo (by simp) _ _ _ _ _ _ _ rfl rfl rfl ?_; intro r n hr) | (refine wpList_cmp _ rfl .lss (by simp) _ _ _ _ _ _ _ rfl rfl rfl ?_; try simp only [*]) | (refine wpList_cmp _ rfl .geq (by simp) _ _ _ _ _ _ _ rfl rfl rfl ?_; try simp only [*]) | (refine wpList_cmp _ rfl .gtr (by simp) _ _ _ _ _ _ _ rfl rfl rfl ?_; try simp only [*]) | (refine wpList_cmp _ rfl .neq (by simp) _ _ _ _ _ _ _ rfl rfl rfl ?_; try simp only [*]) | (refine wpList_cmp _ rfl .eql (by simp) _ _ _ _ _ _ _ rfl rfl rfl ?_; try simp only [*]) | (refine wpList_cmp _ rfl .leq (by simp) _ _ _ _ _ _ _ rfl rfl rfl ?_; try simp only [*]) | (refine wpList_neg _ rfl _ _ _ _ rfl rfl ?_; intro r hr))
        go_roundw
        case rel => exact ⟨j + 1, _, _, hE2, by omega, rfl, by go_num, by simp only [*], rfl⟩
        case measure => simp [intOf]; omega
      · simp only [Bool.not_eq_true] at ht
        have HT := Lib.hid ht
        obtain ⟨l1, l2⟩ := phF_left HF.out hE.out ht
        have g1 := fi_cut l1
        have g2 := fi_cut l2
        have HS1 := Lib.hid (fun w => specSineWide (fop .sub .f64 wQuarter (phF F j)) lt64 l2.1 g2.2.1 g2.2.2 g2.1 w)
        have HS2 := Lib.hid (fun w => specSineWide (phF F j) (phF_lt HlF.out j) l1.1 g1.2.1 g1.2.2 g1.1 w)
        have HL2 := Lib.hid l2.1
        obtain ⟨z1, z2⟩ := ph_sz HF.out hE.out ht
        have Q1 := Lib.hid (ovf_self z1)
        have Q2 := Lib.hid (ovf_self z2)
        have Q3 := Lib.hid (ovf_sub0 z1)
        have Q4 := Lib.hid (ovf_sub0 z2)
        clear l1 l2 g1 g2 z1 z2
        have hjj : j = 0 ∨ j = 1 ∨ j = 2 ∨ j = 3 ∨ j = 4 := by omega
        rcases hjj with rfl | rfl | rfl | rfl | rfl
        all_goals
          go_wp2_with (first | (refine wpList_fl _ rfl .add (by simp) _ _ _ _ _ _ _ rfl rfl rfl ?_; intro r n hr) | (refine wpList_fl _ rfl .sub (by simp) _ _ _ _ _ _ _ rfl rfl rfl ?_; intro r n hr) | (refine wpList_fl _ rfl .mul (by simp) _ _ _ _ _ _ _ rfl rfl rfl ?_; intro r n hr) | (refine wpList_fl _ rfl .quo (by simp) _ _ _ _ _ _ _ rfl rfl rfl ?_; intro r n hr) | (refine wpList_cmp _ rfl .lss (by simp) _ _ _ _ _ _ _ rfl rfl rfl ?_; try simp only [*]) | (refine wpList_cmp _ rfl .geq (by simp) _ _ _ _ _ _ _ rfl rfl rfl ?_; try simp only [*]) | (refine wpList_cmp _ rfl .gtr (by simp) _ _ _ _ _ _ _ rfl rfl rfl ?_; try simp only [*]) | (refine wpList_cmp _ rfl .neq (by simp) _ _ _ _ _ _ _ rfl rfl rfl ?_; try simp only [*]) | (refine wpList_cmp _ rfl .eql (by simp) _ _ _ _ _ _ _ rfl rfl rfl ?_; try simp only [*]) | (refine wpList_cmp _ rfl .leq (by simp) _ _ _ _ _ _ _ rfl rfl rfl ?_; try simp only [*]) | (refine wpList_neg _ rfl _ _ _ _ rfl rfl ?_; intro r hr))
          have e1 := raw_eq (hr.trans (by simp only [*] : _ = fop .sub .f64 wQuarter (phF F _))) HL2.out
          subst e1
          refine (HS1.out _).mono ?_; rintro e w' ⟨rc, nc, rfl, hc, rfl⟩
          go_wp2_with (first | (refine wpList_fl _ rfl .add (by simp) _ _ _ _ _ _ _ rfl rfl rfl ?_; intro r n hr) | (refine wpList_fl _ rfl .sub (by simp) _ _ _ _ _ _ _ rfl rfl rfl ?_; intro r n hr) | (refine wpList_fl _ rfl .mul (by simp) _ _ _ _ _ _ _ rfl rfl rfl ?_; intro r n hr) | (refine wpList_fl _ rfl .quo (by simp) _ _ _ _ _ _ _ rfl rfl rfl ?_; intro r n hr) | (refine wpList_cmp _ rfl .lss (by simp) _ _ _ _ _ _ _ rfl rfl rfl ?_; try simp only [*]) | (refine wpList_cmp _ rfl .geq (by simp) _ _ _ _ _ _ _ rfl rfl rfl ?_; try simp only [*]) | (refine wpList_cmp _ rfl .gtr (by simp) _ _ _ _ _ _ _ rfl rfl rfl ?_; try simp only [*]) | (refine wpList_cmp _ rfl .neq (by simp) _ _ _ _ _ _ _ rfl rfl rfl ?_; try simp only [*]) | (refine wpList_cmp _ rfl .eql (by simp) _ _ _ _ _ _ _ rfl rfl rfl ?_; try simp only [*]) | (refine wpList_cmp _ rfl .leq (by simp) _ _ _ _ _ _ _ rfl rfl rfl ?_; try simp only [*]) | (refine wpList_neg _ rfl _ _ _ _ rfl rfl ?_; intro r hr))
          refine (HS2.out _).mono ?_; rintro e w' ⟨rs, ns, rfl, hs, rfl⟩
          clear hr
          have hc' : can .f64 rc = phC F _ := hc
          have hs' : can .f64 rs = phS F _ := hs
          clear hc hs
          go_wp2_with (first | (refine wpList_fl _ rfl .add (by simp) _ _ _ _ _ _ _ rfl rfl rfl ?_; intro r n hr) | (refine wpList_fl _ rfl .sub (by simp) _ _ _ _ _ _ _ rfl rfl rfl ?_; intro r n hr) | (refine wpList_fl _ rfl .mul (by simp) _ _ _ _ _ _ _ rfl rfl rfl ?_; intro r n hr) | (refine wpList_fl _ rfl .quo (by simp) _ _ _ _ _ _ _ rfl rfl rfl ?_; intro r n hr) | (refine wpList_cmp _ rfl .lss (by simp) _ _ _ _ _ _ _ rfl rfl rfl ?_; try simp only [*]) | (refine wpList_cmp _ rfl .geq (by simp) _ _ _ _ _ _ _ rfl rfl rfl ?_; try simp only [*]) | (refine wpList_cmp _ rfl .gtr (by simp) _ _ _ _ _ _ _ rfl rfl rfl ?_; try simp only [*]) | (refine wpList_cmp _ rfl .neq (by simp) _ _ _ _ _ _ _ rfl rfl rfl ?_; try simp only [*]) | (refine wpList_cmp _ rfl .eql (by simp) _ _ _ _ _ _ _ rfl rfl rfl ?_; try simp only [*]) | (refine wpList_cmp _ rfl .leq (by simp) _ _ _ _ _ _ _ rfl rfl rfl ?_; try simp only [*]) | (refine wpList_neg _ rfl _ _ _ _ rfl rfl ?_; intro r hr))
          refine (l01Narrow _ _ ?_).mono ?_
          · simp only [*]
            with_reducible (first | exact Q1.out | exact Q2.out | exact Q3.out | exact Q4.out)
          rintro e w' ⟨ra, na, rfl, ha, rfl⟩
          go_wp2_with (first | (refine wpList_fl _ rfl .add (by simp) _ _ _ _ _ _ _ rfl rfl rfl ?_; intro r n hr) | (refine wpList_fl _ rfl .sub (by simp) _ _ _ _ _ _ _ rfl rfl rfl ?_; intro r n hr) | (refine wpList_fl _ rfl .mul (by simp) _ _ _ _ _ _ _ rfl rfl rfl ?_; intro r n hr) | (refine wpList_fl _ rfl .quo (by simp) _ _ _ _ _ _ _ rfl rfl rfl ?_; intro r n hr) | (refine wpList_cmp _ rfl .lss (by simp) _ _ _ _ _ _ _ rfl rfl rfl ?_; try simp only [*]) | (refine wpList_cmp _ rfl .geq (by simp) _ _ _ _ _ _ _ rfl rfl rfl ?_; try simp only [*]) | (refine wpList_cmp _ rfl .gtr (by simp) _ _ _ _ _ _ _ rfl rfl rfl ?_; try simp only [*]) | (refine wpList_cmp _ rfl .neq (by simp) _ _ _ _ _ _ _ rfl rfl rfl ?_; try simp only [*]) | (refine wpList_cmp _ rfl .eql (by simp) _ _ _ _ _ _ _ rfl rfl rfl ?_; try simp only [*]) | (refine wpList_cmp _ rfl .leq (by simp) _ _ _ _ _ _ _ rfl rfl rfl ?_; try simp only [*]) | (refine wpList_neg _ rfl _ _ _ _ rfl rfl ?_; intro r hr))
          refine (l01Narrow _ _ ?_).mono ?_
          · simp only [*]
            with_reducible (first | exact Q1.out | exact Q2.out | exact Q3.out | exact Q4.out)
          rintro e w' ⟨rb, nb, rfl, hb, rfl⟩
          go_wp2_with (first | (refine wpList_fl _ rfl .add (by simp) _ _ _ _ _ _ _ rfl rfl rfl ?_; intro r n hr) | (refine wpList_fl _ rfl .sub (by simp) _ _ _ _ _ _ _ rfl rfl rfl ?_; intro r n hr) | (refine wpList_fl _ rfl .mul (by simp) _ _ _ _ _ _ _ rfl rfl rfl ?_; intro r n hr) | (refine wpList_fl _ rfl .quo (by simp) _ _ _ _ _ _ _ rfl rfl rfl ?_; intro r n hr) | (refine wpList_cmp _ rfl .lss (by simp) _ _ _ _ _ _ _ rfl rfl rfl ?_; try simp only [*]) | (refine wpList_cmp _ rfl .geq (by simp) _ _ _ _ _ _ _ rfl rfl rfl ?_; try simp only [*]) | (refine wpList_cmp _ rfl .gtr (by simp) _ _ _ _ _ _ _ rfl rfl rfl ?_; try simp only [*]) | (refine wpList_cmp _ rfl .neq (by simp) _ _ _ _ _ _ _ rfl rfl rfl ?_; try simp only [*]) | (refine wpList_cmp _ rfl .eql (by simp) _ _ _ _ _ _ _ rfl rfl rfl ?_; try simp only [*]) | (refine wpList_cmp _ rfl .leq (by simp) _ _ _ _ _ _ _ rfl rfl rfl ?_; try simp only [*]) | (refine wpList_neg _ rfl _ _ _ _ rfl rfl ?_; intro r hr))
          go_ret
          refine ⟨_, _, _, rfl, ⟨_, hE.out, HT.out, ?_, ?_⟩, rfl⟩
          all_goals
            simp only [phRe, phIm, Nat.reduceEqDiff, if_true, if_false, *]
end Go.Proofs.Ythbinacchpjkmaa.Wk
