/- The walks of sines: what each returns up to which not-a-number it is. -/
import Derived.Test.YthbinacchpjkmaaFk
import Derived.Test.YthbinacchpjkmaaSd
import Derived.Deep.DeepCutAuto
set_option linter.unusedSimpArgs false
set_option linter.unusedVariables false
namespace Go.Proofs.Ythbinacchpjkmaa.Wk
open Go.RowKit Fl

theorem run_trunc (x : Nat) (w : World) (h : fin D x) : (callFunc 86 #[.float .f64 x]).run Try.prog w = .ok (.value (.float .f64 (truncF x))) w := by
  rw [run_callFunc_extern Try.func86 (by kernel_rfl) (by kernel_rfl) (by kernel_rfl) (e := Extern.MathFloor.toIntegral "math.archTrunc" .zero) (by kernel_rfl)]
  obtain ⟨m, p, e, _⟩ := read_fin D h
  have e0 : FloatKind.f64.decode x = .number (sgn D x) m p := e
  have e1 : Extern.MathFloor.toIntegral "math.archTrunc" .zero #[.float .f64 x] = (match FloatKind.f64.decode x with
    | .nan s t =>
      if FloatKind.f64.format.quiet t = t then pure (.float .f64 x) else do
      let kept ← choose (.extern "math.Floor,Ceil,Trunc,RoundToEven.signallingNaN kept" 2)
      pure (.float .f64 (if kept == 1 then x else FloatKind.f64.encode (.nan s (FloatKind.f64.format.quiet t))))
    | d => pure (.float .f64 (FloatKind.f64.encode (d.integral .zero)))) := rfl
  rw [e1, e0]
  have e2 : truncF x = FloatKind.f64.encode ((Ieee.Datum.number (sgn D x) m p).integral .zero) := by
    unfold truncF cutW; rw [e]; rfl
  rw [e2]; rfl
theorem mathTrunc (x : Nat) (w : World) (h : fin D x) : Calls Try.prog 80 #[.float .f64 x] w fun e w' => e = .returned (.float .f64 (truncF x)) ∧ w = w' := by
  have hr := run_trunc x w h
  clear h
  go_enter Try.func80, Try.ntmps80
  go_wp2
  go_ret
  exact ⟨rfl, rfl⟩
theorem mathAbs (x : Nat) (hx : x < 2 ^ 64) (w : World) : Calls Try.prog 54 #[.float .f64 x] w fun e w' => e = .returned (.float .f64 (x % 9223372036854775808)) ∧ w = w' := by
  have h1 := f64bits x w
  have h2 := fun n => f64frombits n w
  have H := Lib.hid (show bits .andNot .u64 (x : Int) 9223372036854775808 = ((x % 9223372036854775808 : Nat) : Int) by
    rw [show (9223372036854775808 : Int) = ((9223372036854775808 : Nat) : Int) from rfl, u64_andNot_nat x _ (by omega) (by omega)]
    exact congrArg Int.ofNat (Nat.and_two_pow_sub_one_eq_mod x 63))
  clear hx
  go_enter Try.func54, Try.ntmps54
  go_wp2
  go_ret
  exact ⟨retF (by rw [H.out, Int.toNat_natCast]), rfl⟩
theorem mathNaN (w : World) : Calls Try.prog 58 #[] w fun e w' => e = .returned (.float .f64 9221120237041090561) ∧ w = w' := by
  have h2 := f64frombits 9221120237041090561 w
  go_enter Try.func58, Try.ntmps58
  go_wp2
  go_ret
  exact ⟨rfl, rfl⟩
theorem implNan (w : World) : Calls Try.prog 53 #[] w fun e w' => ∃ r n, e = .returned (.float .f32 r) ∧ isN .f32 r = true ∧ w' = w.drewN n := by
  go_enter Try.func53, Try.ntmps53
  go_wp2_with fail
  refine (mathNaN _).mono ?_; rintro e w' ⟨rfl, rfl⟩
  go_wp2
  go_ret
  refine ⟨_, _, rfl, ?_, rfl⟩
  have := cV_can .f64 .f32 9221120237041090561 w (by decide +kernel) (by decide)
  rw [← isN_can, this]; decide +kernel

theorem truncF_can {x : Nat} (hw : cutW x ≤ P 52) : can .f64 (truncF x) = truncF x := can_of_not (fin_not_nan (k := .f64) (truncF_val hw).1)
theorem c0 : can .f64 0 = 0 := by decide +kernel
theorem cHalf : can .f64 4602678819172646912 = 4602678819172646912 := by decide +kernel
theorem cQuarter : can .f64 4598175219545276416 = 4598175219545276416 := by decide +kernel
theorem cTurn : can .f64 4618760256179416344 = 4618760256179416344 := by decide +kernel
theorem cOne : can .f64 4607182418800017408 = 4607182418800017408 := by decide +kernel
theorem cWhole : can .f64 4841369599423283200 = 4841369599423283200 := by decide +kernel
theorem cWholeNeg : can .f64 14064741636278059008 = 14064741636278059008 := by decide +kernel

/-- 'what is left of a number of turns' -/
theorem implPartOf (x : Nat) (h : fin D x) (hw : cutW x ≤ P 52) (w : World) : Calls Try.prog 63 #[.float .f64 x] w fun e w' => ∃ r n, e = .returned (.float .f64 r) ∧ can .f64 r = partF x ∧ w' = w.drewN n := by
  have hcx : can .f64 x = x := can_of_not (fin_not_nan (k := .f64) h)
  have hct := truncF_can hw
  have HT := Lib.hid (mathTrunc x w h)
  have k0 := c0
  have k1 := cOne
  clear h hw
  by_cases t1 : cmpF .neq .f64 (truncF x) 0 = true
  · have s1 : step1 x = fop .sub .f64 x (truncF x) := by unfold step1; rw [if_pos t1]
    by_cases t2 : cmpF .lss .f64 (fop .sub .f64 x (truncF x)) 0 = true
    · have hv := Lib.hid (show partF x = fop .add .f64 (fop .sub .f64 x (truncF x)) wOne by unfold partF; rw [s1, if_pos t2])
      clear s1
      go_enter Try.func63, Try.ntmps63
      go_wp2_with (first | (go_at_call 80; refine HT.out.mono ?_; rintro e w' ⟨rfl, rfl⟩) | (first | (refine wpList_fl _ rfl .add (by simp) _ _ _ _ _ _ _ rfl rfl rfl ?_; intro r n hr) | (refine wpList_fl _ rfl .sub (by simp) _ _ _ _ _ _ _ rfl rfl rfl ?_; intro r n hr) | (refine wpList_fl _ rfl .mul (by simp) _ _ _ _ _ _ _ rfl rfl rfl ?_; intro r n hr) | (refine wpList_fl _ rfl .quo (by simp) _ _ _ _ _ _ _ rfl rfl rfl ?_; intro r n hr) | (refine wpList_cmp _ rfl .lss (by simp) _ _ _ _ _ _ _ rfl rfl rfl ?_; try simp only [*]) | (refine wpList_cmp _ rfl .geq (by simp) _ _ _ _ _ _ _ rfl rfl rfl ?_; try simp only [*]) | (refine wpList_cmp _ rfl .gtr (by simp) _ _ _ _ _ _ _ rfl rfl rfl ?_; try simp only [*]) | (refine wpList_cmp _ rfl .neq (by simp) _ _ _ _ _ _ _ rfl rfl rfl ?_; try simp only [*]) | (refine wpList_cmp _ rfl .eql (by simp) _ _ _ _ _ _ _ rfl rfl rfl ?_; try simp only [*]) | (refine wpList_cmp _ rfl .leq (by simp) _ _ _ _ _ _ _ rfl rfl rfl ?_; try simp only [*]) | (refine wpList_neg _ rfl _ _ _ _ rfl rfl ?_; intro r hr)))
      go_ret
      exact ⟨_, _, rfl, by rw [hv.out]; simp only [*], rfl⟩
    · simp only [Bool.not_eq_true] at t2
      have hv := Lib.hid (show partF x = fop .sub .f64 x (truncF x) by unfold partF; rw [s1, t2]; rfl)
      clear s1
      go_enter Try.func63, Try.ntmps63
      go_wp2_with (first | (go_at_call 80; refine HT.out.mono ?_; rintro e w' ⟨rfl, rfl⟩) | (first | (refine wpList_fl _ rfl .add (by simp) _ _ _ _ _ _ _ rfl rfl rfl ?_; intro r n hr) | (refine wpList_fl _ rfl .sub (by simp) _ _ _ _ _ _ _ rfl rfl rfl ?_; intro r n hr) | (refine wpList_fl _ rfl .mul (by simp) _ _ _ _ _ _ _ rfl rfl rfl ?_; intro r n hr) | (refine wpList_fl _ rfl .quo (by simp) _ _ _ _ _ _ _ rfl rfl rfl ?_; intro r n hr) | (refine wpList_cmp _ rfl .lss (by simp) _ _ _ _ _ _ _ rfl rfl rfl ?_; try simp only [*]) | (refine wpList_cmp _ rfl .geq (by simp) _ _ _ _ _ _ _ rfl rfl rfl ?_; try simp only [*]) | (refine wpList_cmp _ rfl .gtr (by simp) _ _ _ _ _ _ _ rfl rfl rfl ?_; try simp only [*]) | (refine wpList_cmp _ rfl .neq (by simp) _ _ _ _ _ _ _ rfl rfl rfl ?_; try simp only [*]) | (refine wpList_cmp _ rfl .eql (by simp) _ _ _ _ _ _ _ rfl rfl rfl ?_; try simp only [*]) | (refine wpList_cmp _ rfl .leq (by simp) _ _ _ _ _ _ _ rfl rfl rfl ?_; try simp only [*]) | (refine wpList_neg _ rfl _ _ _ _ rfl rfl ?_; intro r hr)))
      go_ret
      exact ⟨_, _, rfl, by rw [hv.out]; simp only [*], rfl⟩
  · simp only [Bool.not_eq_true] at t1
    have s1 : step1 x = x := by unfold step1; rw [t1]; rfl
    by_cases t2 : cmpF .lss .f64 x 0 = true
    · have hv := Lib.hid (show partF x = fop .add .f64 x wOne by unfold partF; rw [s1, if_pos t2])
      clear s1
      go_enter Try.func63, Try.ntmps63
      go_wp2_with (first | (go_at_call 80; refine HT.out.mono ?_; rintro e w' ⟨rfl, rfl⟩) | (first | (refine wpList_fl _ rfl .add (by simp) _ _ _ _ _ _ _ rfl rfl rfl ?_; intro r n hr) | (refine wpList_fl _ rfl .sub (by simp) _ _ _ _ _ _ _ rfl rfl rfl ?_; intro r n hr) | (refine wpList_fl _ rfl .mul (by simp) _ _ _ _ _ _ _ rfl rfl rfl ?_; intro r n hr) | (refine wpList_fl _ rfl .quo (by simp) _ _ _ _ _ _ _ rfl rfl rfl ?_; intro r n hr) | (refine wpList_cmp _ rfl .lss (by simp) _ _ _ _ _ _ _ rfl rfl rfl ?_; try simp only [*]) | (refine wpList_cmp _ rfl .geq (by simp) _ _ _ _ _ _ _ rfl rfl rfl ?_; try simp only [*]) | (refine wpList_cmp _ rfl .gtr (by simp) _ _ _ _ _ _ _ rfl rfl rfl ?_; try simp only [*]) | (refine wpList_cmp _ rfl .neq (by simp) _ _ _ _ _ _ _ rfl rfl rfl ?_; try simp only [*]) | (refine wpList_cmp _ rfl .eql (by simp) _ _ _ _ _ _ _ rfl rfl rfl ?_; try simp only [*]) | (refine wpList_cmp _ rfl .leq (by simp) _ _ _ _ _ _ _ rfl rfl rfl ?_; try simp only [*]) | (refine wpList_neg _ rfl _ _ _ _ rfl rfl ?_; intro r hr)))
      go_ret
      exact ⟨_, _, rfl, by rw [hv.out]; simp only [*], rfl⟩
    · simp only [Bool.not_eq_true] at t2
      have hv := Lib.hid (show partF x = x by unfold partF; rw [s1, t2]; rfl)
      clear s1
      go_enter Try.func63, Try.ntmps63
      go_wp2_with (first | (go_at_call 80; refine HT.out.mono ?_; rintro e w' ⟨rfl, rfl⟩) | (first | (refine wpList_fl _ rfl .add (by simp) _ _ _ _ _ _ _ rfl rfl rfl ?_; intro r n hr) | (refine wpList_fl _ rfl .sub (by simp) _ _ _ _ _ _ _ rfl rfl rfl ?_; intro r n hr) | (refine wpList_fl _ rfl .mul (by simp) _ _ _ _ _ _ _ rfl rfl rfl ?_; intro r n hr) | (refine wpList_fl _ rfl .quo (by simp) _ _ _ _ _ _ _ rfl rfl rfl ?_; intro r n hr) | (refine wpList_cmp _ rfl .lss (by simp) _ _ _ _ _ _ _ rfl rfl rfl ?_; try simp only [*]) | (refine wpList_cmp _ rfl .geq (by simp) _ _ _ _ _ _ _ rfl rfl rfl ?_; try simp only [*]) | (refine wpList_cmp _ rfl .gtr (by simp) _ _ _ _ _ _ _ rfl rfl rfl ?_; try simp only [*]) | (refine wpList_cmp _ rfl .neq (by simp) _ _ _ _ _ _ _ rfl rfl rfl ?_; try simp only [*]) | (refine wpList_cmp _ rfl .eql (by simp) _ _ _ _ _ _ _ rfl rfl rfl ?_; try simp only [*]) | (refine wpList_cmp _ rfl .leq (by simp) _ _ _ _ _ _ _ rfl rfl rfl ?_; try simp only [*]) | (refine wpList_neg _ rfl _ _ _ _ rfl rfl ?_; intro r hr)))
      go_ret
      exact ⟨_, 0, rfl, by rw [hv.out]; exact hcx, rfl⟩
end Go.Proofs.Ythbinacchpjkmaa.Wk
