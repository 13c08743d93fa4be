/- The walk of the reference's angle, its other cases, and the law of angles. -/
import Derived.Test.YthbinacchpjkmaaSo
set_option linter.unusedSimpArgs false
set_option linter.unusedVariables false
namespace Go.Proofs.Ythbinacchpjkmaa.Wk
open Go.RowKit Fl

theorem specAngle_nan (y x : Nat) (h : floatBits .sub .f64 y y = none ∨ (fin D y ∧ floatBits .sub .f64 x x = none)) (w : World) : Calls Try.prog 74 #[.float .f64 y, .float .f64 x] w fun e w' => ∃ r n, e = .returned (.float .f64 r) ∧ isN .f64 r = true ∧ w' = w.drewN n := by
  have none_ord : ∀ z, floatBits .sub .f64 z z = none → ∀ w, FloatKind.f64.format.order (fV .sub .f64 z z w) 0 = none := by
    intro z h w
    rw [ord_fV]
    apply order_nanL
    unfold fop; rw [floatBits_can, h, isN_can]; exact isN_qn _
  rcases h with h | ⟨fy, h⟩
  · have ho := none_ord y h
    clear h none_ord
    go_enter Try.func74, Try.ntmps74
    go_wp2_with (first | (go_at_call 58; refine (mathNaN _).mono ?_; rintro e w' ⟨rfl, rfl⟩))
    go_ret
    exact ⟨_, _, rfl, by decide +kernel, rfl⟩
  · have ho := none_ord x h
    have hy := (sub_self_fin fy).2
    clear h none_ord fy
    go_enter Try.func74, Try.ntmps74
    go_wp2_with (first | (go_at_call 58; refine (mathNaN _).mono ?_; rintro e w' ⟨rfl, rfl⟩))
    go_ret
    exact ⟨_, _, rfl, by decide +kernel, rfl⟩
theorem specAngle_zero (y x : Nat) (fy : fin D y) (fx : fin D x) (hy : sV D y = 0) (hx : sV D x = 0) (w : World) : Calls Try.prog 74 #[.float .f64 y, .float .f64 x] w fun e w' => ∃ n, e = .returned (.float .f64 0) ∧ w' = w.drewN n := by
  have oy := (sub_self_fin fy).2
  have ox := (sub_self_fin fx).2
  have ey : FloatKind.f64.format.order y 0 = some .eq := by rw [order_eq_iff fy, if_neg (by omega), if_pos hy]
  have ex : FloatKind.f64.format.order x 0 = some .eq := by rw [order_eq_iff fx, if_neg (by omega), if_pos hx]
  clear fy fx hy hx
  go_enter Try.func74, Try.ntmps74
  go_wp2
  go_ret
  exact ⟨_, rfl, rfl⟩
theorem specL01Angle (y x : Nat) (w : World) : Calls Try.prog 56 #[.float .f32 y, .float .f32 x] w (RS (angleT y x) w) := by
  have nf : ∀ z, ¬ fin S z → ∀ w, floatBits .sub .f64 (cV .f32 z .f64 w) (cV .f32 z .f64 w) = none := fun z hz w => by
    have : can .f64 (cV .f32 z .f64 w) = wideF z := cVw_can z w
    rw [← floatBits_can, this]; exact wide_notfin hz
  by_cases fy : fin S y
  · obtain ⟨eY, hY⟩ := wide_fin fy
    by_cases fx : fin S x
    · obtain ⟨eX, hX⟩ := wide_fin fx
      have hly := wide_lt y
      have hlx := wide_lt x
      have hf : (finB y && finB x) = true := by rw [finB_fin fy, finB_fin fx]; rfl
      obtain ⟨ay, ay2⟩ := abs_fin eY
      obtain ⟨ax, ax2⟩ := abs_fin eX
      obtain ⟨sx0, sxl⟩ := wide_sign fx
      obtain ⟨sy0, syl⟩ := wide_sign fy
      by_cases hz : sV S x = 0 ∧ sV S y = 0
      · have HV := Lib.hid (show angleT y x = 0 by unfold angleT; rw [if_pos hf, if_pos hz])
        have HS := Lib.hid (fun w => specAngle_zero (wideF y) (wideF x) eY eX (sy0.2 hz.2) (sx0.2 hz.1) w)
        clear nf fy eY fx eX hly hlx hf ay ay2 ax ax2 sx0 sxl sy0 syl hz
        go_enter Try.func56, Try.ntmps56
        go_wp2_with fail
        refine (HS.out _).mono ?_; rintro e w' ⟨n, rfl, rfl⟩
        go_wp2_with fail
        refine (l01Narrow _ _ (by decide +kernel)).mono ?_; rintro e w' ⟨r2, n2, rfl, hr2, rfl⟩
        go_wp2
        go_ret
        exact ⟨_, _, rfl, by rw [HV.out, hr2]; decide +kernel, rfl⟩
      · have q1 : sV D (wideF y) = aV D (wideF y) ∨ sV D (wideF y) = -(aV D (wideF y) : Int) := by unfold sV; split <;> simp
        have q2 : sV D (wideF x) = aV D (wideF x) ∨ sV D (wideF x) = -(aV D (wideF x) : Int) := by unfold sV; split <;> simp
        have h0 : sV D (wideF y % 9223372036854775808) ≠ 0 ∨ sV D (wideF x % 9223372036854775808) ≠ 0 := by omega
        have HO := Lib.hid (fun nx ny => ang_ovf (nx := nx) (ny := ny) ay ax (by omega) (by omega) h0)
        have HV := Lib.hid (show angleT y x = cop .f64 .f32 (angF (wideF y % 9223372036854775808) (wideF x % 9223372036854775808) (cmpF .lss .f64 (wideF x) 0) (cmpF .lss .f64 (wideF y) 0)) by
          unfold angleT; rw [if_pos hf, if_neg hz])
        have HS := Lib.hid (fun w => specAngleWide (wideF y) (wideF x) hly hlx eY eX (by omega) w)
        clear nf fy eY fx eX hly hlx hf ay ay2 ax ax2 sx0 sxl sy0 syl hz q1 q2 h0
        go_enter Try.func56, Try.ntmps56
        go_wp2_with fail
        refine (HS.out _).mono ?_; rintro e w' ⟨r, n, rfl, hr, rfl⟩
        go_wp2_with fail
        refine (l01Narrow _ _ (by rw [hr]; exact HO.out _ _)).mono ?_; rintro e w' ⟨r2, n2, rfl, hr2, rfl⟩
        rw [hr, ← HV.out] at hr2
        go_wp2
        go_ret
        exact ⟨_, _, rfl, hr2, rfl⟩
    · have HV := Lib.hid (show angleT y x = qn .f32 by unfold angleT; rw [finB_not fx, Bool.and_false]; rfl)
      have HS := Lib.hid (fun w v => specAngle_nan (wideF y) (cV .f32 x .f64 w) (.inr ⟨eY, nf x fx w⟩) v)
      clear nf fy eY fx
      go_enter Try.func56, Try.ntmps56
      go_wp2_with fail
      refine (HS.out _ _).mono ?_; rintro e w' ⟨r, n, rfl, hr, rfl⟩
      go_wp2_with fail
      refine (l01Narrow _ _ (narrowNan r hr).1).mono ?_; rintro e w' ⟨r2, n2, rfl, hr2, rfl⟩
      rw [(narrowNan r hr).2, ← HV.out] at hr2
      go_wp2
      go_ret
      exact ⟨_, _, rfl, hr2, rfl⟩
  · have HV := Lib.hid (show angleT y x = qn .f32 by unfold angleT; rw [finB_not fy]; rfl)
    have HS := Lib.hid (fun w u v => specAngle_nan (cV .f32 y .f64 w) u (.inl (nf y fy w)) v)
    clear nf fy
    go_enter Try.func56, Try.ntmps56
    go_wp2_with fail
    refine (HS.out _ _ _).mono ?_; rintro e w' ⟨r, n, rfl, hr, rfl⟩
    go_wp2_with fail
    refine (l01Narrow _ _ (narrowNan r hr).1).mono ?_; rintro e w' ⟨r2, n2, rfl, hr2, rfl⟩
    rw [(narrowNan r hr).2, ← HV.out] at hr2
    go_wp2
    go_ret
    exact ⟨_, _, rfl, hr2, rfl⟩
theorem specAngleTurns (y x : Nat) (w : World) : Calls Try.prog 26 #[.float .f32 y, .float .f32 x] w (RS (angleT y x) w) := by
  go_enter Try.func26, Try.ntmps26
  go_wp2_with fail
  refine (specL01Angle _ _ _).mono ?_; rintro e w' ⟨r, n, rfl, hr, rfl⟩
  go_wp2
  go_ret
  exact ⟨_, _, rfl, hr, rfl⟩
theorem fnExactAngleTurns_walk (a : Nat) (wa : (Lit.float .f32 a).wf = true) (b : Nat) (wb : (Lit.float .f32 b).wf = true) (w : World) :
    Calls Try.prog 9 #[.float .f32 a, .float .f32 b] w fun e w' => e = .returned (.bool true) ∧ Below w.heap.size w w' := by
  clear wa wb
  go_enter Try.func9, Try.ntmps9
  go_wp2_with fail
  refine (specAngleTurns _ _ _).mono ?_; rintro e w' ⟨r, n, rfl, hr, rfl⟩
  go_wp2_with fail
  refine (implAngle _ _ _).mono ?_; rintro e w' ⟨r2, rfl, hr2, hB⟩
  have HB : Hid (Below w.heap.size w w') := (bdrewN _ _).trans hB
  have Hs := Lib.hid (show can .f32 r2 = can .f32 r by rw [hr, hr2])
  clear hr hr2 hB
  go_wp2_with fail
  refine (sameF _ _ (by rw [cVw_can, cVw_can, Hs.out]) _).mono ?_; rintro e w' ⟨rfl, n3, rfl⟩
  go_wp2
  go_ret
  exact ⟨rfl, Go.below_drewN HB.out _⟩
end Go.Proofs.Ythbinacchpjkmaa.Wk
