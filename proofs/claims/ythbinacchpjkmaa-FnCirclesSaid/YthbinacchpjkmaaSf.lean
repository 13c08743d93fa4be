/- The walks of the sine itself, of the program's and of the reference's. -/
import Derived.Test.YthbinacchpjkmaaSe
set_option linter.unusedSimpArgs false
set_option linter.unusedVariables false
namespace Go.Proofs.Ythbinacchpjkmaa.Wk
open Go.RowKit Fl

theorem wrapK : ∀ j : Nat, j < 8 → wrap64 (2 * (8 - (j : Int)) * (2 * (8 - (j : Int)) + 1)) = 2 * (8 - (j : Int)) * (2 * (8 - (j : Int)) + 1) := by
  intro j hj
  have h : ∀ i : Fin 8, wrap64 (2 * (8 - ((i : Nat) : Int)) * (2 * (8 - ((i : Nat) : Int)) + 1)) = 2 * (8 - ((i : Nat) : Int)) * (2 * (8 - ((i : Nat) : Int)) + 1) := by decide +kernel
  exact h ⟨j, hj⟩

set_option maxHeartbeats 1600000 in
theorem implSine (x : Nat) (h : fin D x) (hw : cutW x ≤ P 52) (w : World) : Calls Try.prog 55 #[.float .f64 x] w fun e w' => ∃ r n, e = .returned (.float .f64 r) ∧ can .f64 r = sinF (partF x) ∧ w' = w.drewN n := by
  have HP := Lib.hid (implPartOf x h hw w)
  have k1 := cOne
  have k2 := cHalf
  have k3 := cQuarter
  have k4 := cTurn
  clear h hw
  generalize partF x = F at *
  by_cases t1 : cmpF .geq .f64 F 4602678819172646912 = true
  · by_cases t2 : cmpF .gtr .f64 (fop .sub .f64 F 4602678819172646912) 4598175219545276416 = true
    · skip
      have hz : fop .mul .f64 (fop .sub .f64 4602678819172646912 (fop .sub .f64 F 4602678819172646912)) 4618760256179416344 = sinZ F := by unfold sinZ; rw [show sin1 F = (fop .sub .f64 F 4602678819172646912) by unfold sin1; rw [t1]; rfl, show sin2 (fop .sub .f64 F 4602678819172646912) = (fop .sub .f64 4602678819172646912 (fop .sub .f64 F 4602678819172646912)) by unfold sin2; rw [t2]; rfl]
      have hv := Lib.hid (show sinF F = fneg .f64 (sinR (sinZ F)) by unfold sinF; rw [t1]; rfl)
      go_enter Try.func55, Try.ntmps55
      go_wp2_with (first | (go_at_call 63; refine HP.out.mono ?_; rintro e w' ⟨r, n, rfl, hr, rfl⟩) | (first | (refine wpList_fl _ rfl .add (by simp) _ _ _ _ _ _ _ rfl rfl rfl ?_; intro r n hr) | (refine wpList_fl _ rfl .sub (by simp) _ _ _ _ _ _ _ rfl rfl rfl ?_; intro r n hr) | (refine wpList_fl _ rfl .mul (by simp) _ _ _ _ _ _ _ rfl rfl rfl ?_; intro r n hr) | (refine wpList_fl _ rfl .quo (by simp) _ _ _ _ _ _ _ rfl rfl rfl ?_; intro r n hr) | (refine wpList_cmp _ rfl .lss (by simp) _ _ _ _ _ _ _ rfl rfl rfl ?_; try simp only [*]) | (refine wpList_cmp _ rfl .geq (by simp) _ _ _ _ _ _ _ rfl rfl rfl ?_; try simp only [*]) | (refine wpList_cmp _ rfl .gtr (by simp) _ _ _ _ _ _ _ rfl rfl rfl ?_; try simp only [*]) | (refine wpList_cmp _ rfl .neq (by simp) _ _ _ _ _ _ _ rfl rfl rfl ?_; try simp only [*]) | (refine wpList_cmp _ rfl .eql (by simp) _ _ _ _ _ _ _ rfl rfl rfl ?_; try simp only [*]) | (refine wpList_cmp _ rfl .leq (by simp) _ _ _ _ _ _ _ rfl rfl rfl ?_; try simp only [*]) | (refine wpList_neg _ rfl _ _ _ _ rfl rfl ?_; intro r hr)))
      go_loopw [7, 8] (fun p k wr => ∃ (j r m : Nat), j ≤ 8 ∧ k = .int .i64 (8 - (j : Int)) ∧ p = .float .f64 r ∧ can .f64 r = sinP (fop .mul .f64 (sinZ F) (sinZ F)) j ∧ wr = w.drewN m) (fun _ k _ => (intOf k).toNat)
      case atStart => exact ⟨0, _, _, by omega, rfl, rfl, cOne, rfl⟩
      case round =>
        obtain ⟨j, r, m, hj, rfl, rfl, hp, rfl⟩ := hrel
        by_cases hlt : j < 8
        · have hge : (1 : Int) ≤ 8 - (j : Int) := by omega
          have hq := wrapK j hlt
          go_wp2_with (first | (refine wpList_fl _ rfl .add (by simp) _ _ _ _ _ _ _ rfl rfl rfl ?_; intro r n hr) | (refine wpList_fl _ rfl .sub (by simp) _ _ _ _ _ _ _ rfl rfl rfl ?_; intro r n hr) | (refine wpList_fl _ rfl .mul (by simp) _ _ _ _ _ _ _ rfl rfl rfl ?_; intro r n hr) | (refine wpList_fl _ rfl .quo (by simp) _ _ _ _ _ _ _ rfl rfl rfl ?_; intro r n hr) | (refine wpList_cmp _ rfl .lss (by simp) _ _ _ _ _ _ _ rfl rfl rfl ?_; try simp only [*]) | (refine wpList_cmp _ rfl .geq (by simp) _ _ _ _ _ _ _ rfl rfl rfl ?_; try simp only [*]) | (refine wpList_cmp _ rfl .gtr (by simp) _ _ _ _ _ _ _ rfl rfl rfl ?_; try simp only [*]) | (refine wpList_cmp _ rfl .neq (by simp) _ _ _ _ _ _ _ rfl rfl rfl ?_; try simp only [*]) | (refine wpList_cmp _ rfl .eql (by simp) _ _ _ _ _ _ _ rfl rfl rfl ?_; try simp only [*]) | (refine wpList_cmp _ rfl .leq (by simp) _ _ _ _ _ _ _ rfl rfl rfl ?_; try simp only [*]) | (refine wpList_neg _ rfl _ _ _ _ rfl rfl ?_; intro r hr))
          go_roundw
          case rel => exact ⟨j + 1, _, _, by omega, by go_num, rfl, by simp only [sinP, wOne, *], rfl⟩
          case measure => simp [intOf]; omega
        · obtain rfl : j = 8 := by omega
          go_wp2_with (first | (refine wpList_fl _ rfl .add (by simp) _ _ _ _ _ _ _ rfl rfl rfl ?_; intro r n hr) | (refine wpList_fl _ rfl .sub (by simp) _ _ _ _ _ _ _ rfl rfl rfl ?_; intro r n hr) | (refine wpList_fl _ rfl .mul (by simp) _ _ _ _ _ _ _ rfl rfl rfl ?_; intro r n hr) | (refine wpList_fl _ rfl .quo (by simp) _ _ _ _ _ _ _ rfl rfl rfl ?_; intro r n hr) | (refine wpList_cmp _ rfl .lss (by simp) _ _ _ _ _ _ _ rfl rfl rfl ?_; try simp only [*]) | (refine wpList_cmp _ rfl .geq (by simp) _ _ _ _ _ _ _ rfl rfl rfl ?_; try simp only [*]) | (refine wpList_cmp _ rfl .gtr (by simp) _ _ _ _ _ _ _ rfl rfl rfl ?_; try simp only [*]) | (refine wpList_cmp _ rfl .neq (by simp) _ _ _ _ _ _ _ rfl rfl rfl ?_; try simp only [*]) | (refine wpList_cmp _ rfl .eql (by simp) _ _ _ _ _ _ _ rfl rfl rfl ?_; try simp only [*]) | (refine wpList_cmp _ rfl .leq (by simp) _ _ _ _ _ _ _ rfl rfl rfl ?_; try simp only [*]) | (refine wpList_neg _ rfl _ _ _ _ rfl rfl ?_; intro r hr))
          go_ret
          exact ⟨_, _, rfl, by rw [hv.out]; unfold sinR; simp only [*], rfl⟩
    · simp only [Bool.not_eq_true] at t2
      have hz : fop .mul .f64 (fop .sub .f64 F 4602678819172646912) 4618760256179416344 = sinZ F := by unfold sinZ; rw [show sin1 F = (fop .sub .f64 F 4602678819172646912) by unfold sin1; rw [t1]; rfl, show sin2 (fop .sub .f64 F 4602678819172646912) = (fop .sub .f64 F 4602678819172646912) by unfold sin2; rw [t2]; rfl]
      have hv := Lib.hid (show sinF F = fneg .f64 (sinR (sinZ F)) by unfold sinF; rw [t1]; rfl)
      go_enter Try.func55, Try.ntmps55
      go_wp2_with (first | (go_at_call 63; refine HP.out.mono ?_; rintro e w' ⟨r, n, rfl, hr, rfl⟩) | (first | (refine wpList_fl _ rfl .add (by simp) _ _ _ _ _ _ _ rfl rfl rfl ?_; intro r n hr) | (refine wpList_fl _ rfl .sub (by simp) _ _ _ _ _ _ _ rfl rfl rfl ?_; intro r n hr) | (refine wpList_fl _ rfl .mul (by simp) _ _ _ _ _ _ _ rfl rfl rfl ?_; intro r n hr) | (refine wpList_fl _ rfl .quo (by simp) _ _ _ _ _ _ _ rfl rfl rfl ?_; intro r n hr) | (refine wpList_cmp _ rfl .lss (by simp) _ _ _ _ _ _ _ rfl rfl rfl ?_; try simp only [*]) | (refine wpList_cmp _ rfl .geq (by simp) _ _ _ _ _ _ _ rfl rfl rfl ?_; try simp only [*]) | (refine wpList_cmp _ rfl .gtr (by simp) _ _ _ _ _ _ _ rfl rfl rfl ?_; try simp only [*]) | (refine wpList_cmp _ rfl .neq (by simp) _ _ _ _ _ _ _ rfl rfl rfl ?_; try simp only [*]) | (refine wpList_cmp _ rfl .eql (by simp) _ _ _ _ _ _ _ rfl rfl rfl ?_; try simp only [*]) | (refine wpList_cmp _ rfl .leq (by simp) _ _ _ _ _ _ _ rfl rfl rfl ?_; try simp only [*]) | (refine wpList_neg _ rfl _ _ _ _ rfl rfl ?_; intro r hr)))
      go_loopw [7, 8] (fun p k wr => ∃ (j r m : Nat), j ≤ 8 ∧ k = .int .i64 (8 - (j : Int)) ∧ p = .float .f64 r ∧ can .f64 r = sinP (fop .mul .f64 (sinZ F) (sinZ F)) j ∧ wr = w.drewN m) (fun _ k _ => (intOf k).toNat)
      case atStart => exact ⟨0, _, _, by omega, rfl, rfl, cOne, rfl⟩
      case round =>
        obtain ⟨j, r, m, hj, rfl, rfl, hp, rfl⟩ := hrel
        by_cases hlt : j < 8
        · have hge : (1 : Int) ≤ 8 - (j : Int) := by omega
          have hq := wrapK j hlt
          go_wp2_with (first | (refine wpList_fl _ rfl .add (by simp) _ _ _ _ _ _ _ rfl rfl rfl ?_; intro r n hr) | (refine wpList_fl _ rfl .sub (by simp) _ _ _ _ _ _ _ rfl rfl rfl ?_; intro r n hr) | (refine wpList_fl _ rfl .mul (by simp) _ _ _ _ _ _ _ rfl rfl rfl ?_; intro r n hr) | (refine wpList_fl _ rfl .quo (by simp) _ _ _ _ _ _ _ rfl rfl rfl ?_; intro r n hr) | (refine wpList_cmp _ rfl .lss (by simp) _ _ _ _ _ _ _ rfl rfl rfl ?_; try simp only [*]) | (refine wpList_cmp _ rfl .geq (by simp) _ _ _ _ _ _ _ rfl rfl rfl ?_; try simp only [*]) | (refine wpList_cmp _ rfl .gtr (by simp) _ _ _ _ _ _ _ rfl rfl rfl ?_; try simp only [*]) | (refine wpList_cmp _ rfl .neq (by simp) _ _ _ _ _ _ _ rfl rfl rfl ?_; try simp only [*]) | (refine wpList_cmp _ rfl .eql (by simp) _ _ _ _ _ _ _ rfl rfl rfl ?_; try simp only [*]) | (refine wpList_cmp _ rfl .leq (by simp) _ _ _ _ _ _ _ rfl rfl rfl ?_; try simp only [*]) | (refine wpList_neg _ rfl _ _ _ _ rfl rfl ?_; intro r hr))
          go_roundw
          case rel => exact ⟨j + 1, _, _, by omega, by go_num, rfl, by simp only [sinP, wOne, *], rfl⟩
          case measure => simp [intOf]; omega
        · obtain rfl : j = 8 := by omega
          go_wp2_with (first | (refine wpList_fl _ rfl .add (by simp) _ _ _ _ _ _ _ rfl rfl rfl ?_; intro r n hr) | (refine wpList_fl _ rfl .sub (by simp) _ _ _ _ _ _ _ rfl rfl rfl ?_; intro r n hr) | (refine wpList_fl _ rfl .mul (by simp) _ _ _ _ _ _ _ rfl rfl rfl ?_; intro r n hr) | (refine wpList_fl _ rfl .quo (by simp) _ _ _ _ _ _ _ rfl rfl rfl ?_; intro r n hr) | (refine wpList_cmp _ rfl .lss (by simp) _ _ _ _ _ _ _ rfl rfl rfl ?_; try simp only [*]) | (refine wpList_cmp _ rfl .geq (by simp) _ _ _ _ _ _ _ rfl rfl rfl ?_; try simp only [*]) | (refine wpList_cmp _ rfl .gtr (by simp) _ _ _ _ _ _ _ rfl rfl rfl ?_; try simp only [*]) | (refine wpList_cmp _ rfl .neq (by simp) _ _ _ _ _ _ _ rfl rfl rfl ?_; try simp only [*]) | (refine wpList_cmp _ rfl .eql (by simp) _ _ _ _ _ _ _ rfl rfl rfl ?_; try simp only [*]) | (refine wpList_cmp _ rfl .leq (by simp) _ _ _ _ _ _ _ rfl rfl rfl ?_; try simp only [*]) | (refine wpList_neg _ rfl _ _ _ _ rfl rfl ?_; intro r hr))
          go_ret
          exact ⟨_, _, rfl, by rw [hv.out]; unfold sinR; simp only [*], rfl⟩
  · simp only [Bool.not_eq_true] at t1
    by_cases t2 : cmpF .gtr .f64 F 4598175219545276416 = true
    · skip
      have hz : fop .mul .f64 (fop .sub .f64 4602678819172646912 F) 4618760256179416344 = sinZ F := by unfold sinZ; rw [show sin1 F = F by unfold sin1; rw [t1]; rfl, show sin2 F = (fop .sub .f64 4602678819172646912 F) by unfold sin2; rw [t2]; rfl]
      have hv := Lib.hid (show sinF F = sinR (sinZ F) by unfold sinF; rw [t1]; rfl)
      go_enter Try.func55, Try.ntmps55
      go_wp2_with (first | (go_at_call 63; refine HP.out.mono ?_; rintro e w' ⟨r, n, rfl, hr, rfl⟩) | (first | (refine wpList_fl _ rfl .add (by simp) _ _ _ _ _ _ _ rfl rfl rfl ?_; intro r n hr) | (refine wpList_fl _ rfl .sub (by simp) _ _ _ _ _ _ _ rfl rfl rfl ?_; intro r n hr) | (refine wpList_fl _ rfl .mul (by simp) _ _ _ _ _ _ _ rfl rfl rfl ?_; intro r n hr) | (refine wpList_fl _ rfl .quo (by simp) _ _ _ _ _ _ _ rfl rfl rfl ?_; intro r n hr) | (refine wpList_cmp _ rfl .lss (by simp) _ _ _ _ _ _ _ rfl rfl rfl ?_; try simp only [*]) | (refine wpList_cmp _ rfl .geq (by simp) _ _ _ _ _ _ _ rfl rfl rfl ?_; try simp only [*]) | (refine wpList_cmp _ rfl .gtr (by simp) _ _ _ _ _ _ _ rfl rfl rfl ?_; try simp only [*]) | (refine wpList_cmp _ rfl .neq (by simp) _ _ _ _ _ _ _ rfl rfl rfl ?_; try simp only [*]) | (refine wpList_cmp _ rfl .eql (by simp) _ _ _ _ _ _ _ rfl rfl rfl ?_; try simp only [*]) | (refine wpList_cmp _ rfl .leq (by simp) _ _ _ _ _ _ _ rfl rfl rfl ?_; try simp only [*]) | (refine wpList_neg _ rfl _ _ _ _ rfl rfl ?_; intro r hr)))
      go_loopw [7, 8] (fun p k wr => ∃ (j r m : Nat), j ≤ 8 ∧ k = .int .i64 (8 - (j : Int)) ∧ p = .float .f64 r ∧ can .f64 r = sinP (fop .mul .f64 (sinZ F) (sinZ F)) j ∧ wr = w.drewN m) (fun _ k _ => (intOf k).toNat)
      case atStart => exact ⟨0, _, _, by omega, rfl, rfl, cOne, rfl⟩
      case round =>
        obtain ⟨j, r, m, hj, rfl, rfl, hp, rfl⟩ := hrel
        by_cases hlt : j < 8
        · have hge : (1 : Int) ≤ 8 - (j : Int) := by omega
          have hq := wrapK j hlt
          go_wp2_with (first | (refine wpList_fl _ rfl .add (by simp) _ _ _ _ _ _ _ rfl rfl rfl ?_; intro r n hr) | (refine wpList_fl _ rfl .sub (by simp) _ _ _ _ _ _ _ rfl rfl rfl ?_; intro r n hr) | (refine wpList_fl _ rfl .mul (by simp) _ _ _ _ _ _ _ rfl rfl rfl ?_; intro r n hr) | (refine wpList_fl _ rfl .quo (by simp) _ _ _ _ _ _ _ rfl rfl rfl ?_; intro r n hr) | (refine wpList_cmp _ rfl .lss (by simp) _ _ _ _ _ _ _ rfl rfl rfl ?_; try simp only [*]) | (refine wpList_cmp _ rfl .geq (by simp) _ _ _ _ _ _ _ rfl rfl rfl ?_; try simp only [*]) | (refine wpList_cmp _ rfl .gtr (by simp) _ _ _ _ _ _ _ rfl rfl rfl ?_; try simp only [*]) | (refine wpList_cmp _ rfl .neq (by simp) _ _ _ _ _ _ _ rfl rfl rfl ?_; try simp only [*]) | (refine wpList_cmp _ rfl .eql (by simp) _ _ _ _ _ _ _ rfl rfl rfl ?_; try simp only [*]) | (refine wpList_cmp _ rfl .leq (by simp) _ _ _ _ _ _ _ rfl rfl rfl ?_; try simp only [*]) | (refine wpList_neg _ rfl _ _ _ _ rfl rfl ?_; intro r hr))
          go_roundw
          case rel => exact ⟨j + 1, _, _, by omega, by go_num, rfl, by simp only [sinP, wOne, *], rfl⟩
          case measure => simp [intOf]; omega
        · obtain rfl : j = 8 := by omega
          go_wp2_with (first | (refine wpList_fl _ rfl .add (by simp) _ _ _ _ _ _ _ rfl rfl rfl ?_; intro r n hr) | (refine wpList_fl _ rfl .sub (by simp) _ _ _ _ _ _ _ rfl rfl rfl ?_; intro r n hr) | (refine wpList_fl _ rfl .mul (by simp) _ _ _ _ _ _ _ rfl rfl rfl ?_; intro r n hr) | (refine wpList_fl _ rfl .quo (by simp) _ _ _ _ _ _ _ rfl rfl rfl ?_; intro r n hr) | (refine wpList_cmp _ rfl .lss (by simp) _ _ _ _ _ _ _ rfl rfl rfl ?_; try simp only [*]) | (refine wpList_cmp _ rfl .geq (by simp) _ _ _ _ _ _ _ rfl rfl rfl ?_; try simp only [*]) | (refine wpList_cmp _ rfl .gtr (by simp) _ _ _ _ _ _ _ rfl rfl rfl ?_; try simp only [*]) | (refine wpList_cmp _ rfl .neq (by simp) _ _ _ _ _ _ _ rfl rfl rfl ?_; try simp only [*]) | (refine wpList_cmp _ rfl .eql (by simp) _ _ _ _ _ _ _ rfl rfl rfl ?_; try simp only [*]) | (refine wpList_cmp _ rfl .leq (by simp) _ _ _ _ _ _ _ rfl rfl rfl ?_; try simp only [*]) | (refine wpList_neg _ rfl _ _ _ _ rfl rfl ?_; intro r hr))
          go_ret
          exact ⟨_, _, rfl, by rw [hv.out]; unfold sinR; simp only [*], rfl⟩
    · simp only [Bool.not_eq_true] at t2
      have hz : fop .mul .f64 F 4618760256179416344 = sinZ F := by unfold sinZ; rw [show sin1 F = F by unfold sin1; rw [t1]; rfl, show sin2 F = F by unfold sin2; rw [t2]; rfl]
      have hv := Lib.hid (show sinF F = sinR (sinZ F) by unfold sinF; rw [t1]; rfl)
      go_enter Try.func55, Try.ntmps55
      go_wp2_with (first | (go_at_call 63; refine HP.out.mono ?_; rintro e w' ⟨r, n, rfl, hr, rfl⟩) | (first | (refine wpList_fl _ rfl .add (by simp) _ _ _ _ _ _ _ rfl rfl rfl ?_; intro r n hr) | (refine wpList_fl _ rfl .sub (by simp) _ _ _ _ _ _ _ rfl rfl rfl ?_; intro r n hr) | (refine wpList_fl _ rfl .mul (by simp) _ _ _ _ _ _ _ rfl rfl rfl ?_; intro r n hr) | (refine wpList_fl _ rfl .quo (by simp) _ _ _ _ _ _ _ rfl rfl rfl ?_; intro r n hr) | (refine wpList_cmp _ rfl .lss (by simp) _ _ _ _ _ _ _ rfl rfl rfl ?_; try simp only [*]) | (refine wpList_cmp _ rfl .geq (by simp) _ _ _ _ _ _ _ rfl rfl rfl ?_; try simp only [*]) | (refine wpList_cmp _ rfl .gtr (by simp) _ _ _ _ _ _ _ rfl rfl rfl ?_; try simp only [*]) | (refine wpList_cmp _ rfl .neq (by simp) _ _ _ _ _ _ _ rfl rfl rfl ?_; try simp only [*]) | (refine wpList_cmp _ rfl .eql (by simp) _ _ _ _ _ _ _ rfl rfl rfl ?_; try simp only [*]) | (refine wpList_cmp _ rfl .leq (by simp) _ _ _ _ _ _ _ rfl rfl rfl ?_; try simp only [*]) | (refine wpList_neg _ rfl _ _ _ _ rfl rfl ?_; intro r hr)))
      go_loopw [7, 8] (fun p k wr => ∃ (j r m : Nat), j ≤ 8 ∧ k = .int .i64 (8 - (j : Int)) ∧ p = .float .f64 r ∧ can .f64 r = sinP (fop .mul .f64 (sinZ F) (sinZ F)) j ∧ wr = w.drewN m) (fun _ k _ => (intOf k).toNat)
      case atStart => exact ⟨0, _, _, by omega, rfl, rfl, cOne, rfl⟩
      case round =>
        obtain ⟨j, r, m, hj, rfl, rfl, hp, rfl⟩ := hrel
        by_cases hlt : j < 8
        · have hge : (1 : Int) ≤ 8 - (j : Int) := by omega
          have hq := wrapK j hlt
          go_wp2_with (first | (refine wpList_fl _ rfl .add (by simp) _ _ _ _ _ _ _ rfl rfl rfl ?_; intro r n hr) | (refine wpList_fl _ rfl .sub (by simp) _ _ _ _ _ _ _ rfl rfl rfl ?_; intro r n hr) | (refine wpList_fl _ rfl .mul (by simp) _ _ _ _ _ _ _ rfl rfl rfl ?_; intro r n hr) | (refine wpList_fl _ rfl .quo (by simp) _ _ _ _ _ _ _ rfl rfl rfl ?_; intro r n hr) | (refine wpList_cmp _ rfl .lss (by simp) _ _ _ _ _ _ _ rfl rfl rfl ?_; try simp only [*]) | (refine wpList_cmp _ rfl .geq (by simp) _ _ _ _ _ _ _ rfl rfl rfl ?_; try simp only [*]) | (refine wpList_cmp _ rfl .gtr (by simp) _ _ _ _ _ _ _ rfl rfl rfl ?_; try simp only [*]) | (refine wpList_cmp _ rfl .neq (by simp) _ _ _ _ _ _ _ rfl rfl rfl ?_; try simp only [*]) | (refine wpList_cmp _ rfl .eql (by simp) _ _ _ _ _ _ _ rfl rfl rfl ?_; try simp only [*]) | (refine wpList_cmp _ rfl .leq (by simp) _ _ _ _ _ _ _ rfl rfl rfl ?_; try simp only [*]) | (refine wpList_neg _ rfl _ _ _ _ rfl rfl ?_; intro r hr))
          go_roundw
          case rel => exact ⟨j + 1, _, _, by omega, by go_num, rfl, by simp only [sinP, wOne, *], rfl⟩
          case measure => simp [intOf]; omega
        · obtain rfl : j = 8 := by omega
          go_wp2_with (first | (refine wpList_fl _ rfl .add (by simp) _ _ _ _ _ _ _ rfl rfl rfl ?_; intro r n hr) | (refine wpList_fl _ rfl .sub (by simp) _ _ _ _ _ _ _ rfl rfl rfl ?_; intro r n hr) | (refine wpList_fl _ rfl .mul (by simp) _ _ _ _ _ _ _ rfl rfl rfl ?_; intro r n hr) | (refine wpList_fl _ rfl .quo (by simp) _ _ _ _ _ _ _ rfl rfl rfl ?_; intro r n hr) | (refine wpList_cmp _ rfl .lss (by simp) _ _ _ _ _ _ _ rfl rfl rfl ?_; try simp only [*]) | (refine wpList_cmp _ rfl .geq (by simp) _ _ _ _ _ _ _ rfl rfl rfl ?_; try simp only [*]) | (refine wpList_cmp _ rfl .gtr (by simp) _ _ _ _ _ _ _ rfl rfl rfl ?_; try simp only [*]) | (refine wpList_cmp _ rfl .neq (by simp) _ _ _ _ _ _ _ rfl rfl rfl ?_; try simp only [*]) | (refine wpList_cmp _ rfl .eql (by simp) _ _ _ _ _ _ _ rfl rfl rfl ?_; try simp only [*]) | (refine wpList_cmp _ rfl .leq (by simp) _ _ _ _ _ _ _ rfl rfl rfl ?_; try simp only [*]) | (refine wpList_neg _ rfl _ _ _ _ rfl rfl ?_; intro r hr))
          go_ret
          exact ⟨_, _, rfl, by rw [hv.out]; unfold sinR; simp only [*], rfl⟩
end Go.Proofs.Ythbinacchpjkmaa.Wk
