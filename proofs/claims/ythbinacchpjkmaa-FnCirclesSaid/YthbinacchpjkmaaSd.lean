/- The walks of roots, sines and their kin: what each returns up to which not-a-number it is. -/
import Derived.Test.YthbinacchpjkmaaFg
import Derived.Test.YthbinacchpjkmaaFi
import Derived.Test.YthbinacchpjkmaaSa
set_option linter.unusedSimpArgs false
set_option linter.unusedVariables false
namespace Go.Proofs.Ythbinacchpjkmaa.Wk
open Go.RowKit Fl

/-! ### math -/
def sqV (x : Nat) (w : World) : Nat := match FloatKind.f64.format.sqrt x with | some r => r | none => (Question.nanBits .f64 x x).cut (w.tape w.drawn (.nanBits .f64 x x))
def sqN (x : Nat) : Nat := if (FloatKind.f64.format.sqrt x).isSome then 0 else 1
theorem sqV_can (x : Nat) (w : World) : can .f64 (sqV x w) = fsqrt (can .f64 x) := by
  rw [fsqrt_can]
  unfold sqV fsqrt
  cases FloatKind.f64.format.sqrt x with
  | some r => rfl
  | none => simp only [Option.getD_none]; rw [can_nan (nanWord .f64 _ (.inl ⟨x, x, rfl⟩) _).1, can_nan (isN_qn .f64)]
theorem run_sqrt (x : Nat) (w : World) : (callFunc 70 #[.float .f64 x]).run Try.prog w = .ok (.value (.float .f64 (sqV x w))) (w.drewN (sqN x)) := by
  rw [run_callFunc_extern Try.func70 (by kernel_rfl) (by kernel_rfl) (by kernel_rfl) (e := Extern.MathSqrt.sqrt) (by kernel_rfl)]
  have hf : (Question.nanBits .f64 x x).forced = false := rfl
  have e : Extern.MathSqrt.sqrt #[.float .f64 x] = (match FloatKind.f64.format.sqrt x with | some r => pure (.float .f64 r) | none => do pure (.float .f64 (← choose (.nanBits .f64 x x)))) := rfl
  rw [e]
  cases h : FloatKind.f64.format.sqrt x with
  | some r => simp [h, sqV, sqN, World.drewN_zero]
  | none => simp [h, sqV, sqN, run_choose_drew, hf, World.drew_is_drewN]
theorem mathSqrt (x : Nat) (w : World) : Calls Try.prog 50 #[.float .f64 x] w fun e w' => ∃ r n, e = .returned (.float .f64 r) ∧ can .f64 r = fsqrt (can .f64 x) ∧ w' = w.drewN n := by
  have h := run_sqrt x w
  go_enter Try.func50, Try.ntmps50
  go_wp2
  go_ret
  exact ⟨_, _, rfl, sqV_can x w, rfl⟩
theorem f64bits (x : Nat) (w : World) : (callFunc 73 #[.float .f64 x]).run Try.prog w = .ok (.value (.int .u64 x)) w := by
  rw [run_callFunc_extern Try.func73 (by kernel_rfl) (by kernel_rfl) (by kernel_rfl) (e := Extern.MathFloatBits.float64bits) (by kernel_rfl)]
  rfl
theorem f64frombits (n : Int) (w : World) : (callFunc 72 #[.int .u64 n]).run Try.prog w = .ok (.value (.float .f64 n.toNat)) w := by
  rw [run_callFunc_extern Try.func72 (by kernel_rfl) (by kernel_rfl) (by kernel_rfl) (e := Extern.MathFloatBits.float64frombits) (by kernel_rfl)]
  rfl

/-! ### RootNumber -/
/-- Narrowing, by the program and by the reference. -/
def rootF (x : Nat) : Nat := cop .f64 .f32 (fsqrt (cop .f32 .f64 (can .f32 x)))
theorem l01Narrow (x : Nat) (w : World) (hov : ovf .f64 .f32 (can .f64 x) = false) : Calls Try.prog 69 #[.float .f64 x] w fun e w' => ∃ r n, e = .returned (.float .f32 r) ∧ can .f32 r = cop .f64 .f32 (can .f64 x) ∧ w' = w.drewN n := by
  have hov' := hov
  rw [ovf_can] at hov'
  go_enter Try.func69, Try.ntmps69
  go_wp2
  go_ret
  exact ⟨_, _, rfl, cV_can .f64 .f32 x _ hov' (by decide), rfl⟩
theorem l01Sqrt (x : Nat) (w : World) : Calls Try.prog 49 #[.float .f32 x] w fun e w' => ∃ r n, e = .returned (.float .f32 r) ∧ can .f32 r = rootF x ∧ w' = w.drewN n := by
  go_enter Try.func49, Try.ntmps49
  go_wp2_with fail
  refine (mathSqrt _ _).mono ?_; rintro e w' ⟨r, n, rfl, hr, rfl⟩
  rw [cVw_can] at hr
  go_wp2_with fail
  refine (l01Narrow _ _ (by rw [hr]; exact root_ovf _)).mono ?_; rintro e w' ⟨r2, n2, rfl, hr2, rfl⟩
  rw [hr] at hr2
  go_wp2
  go_ret
  exact ⟨_, _, rfl, hr2, rfl⟩
theorem specRootNumber (x : Nat) (w : World) : Calls Try.prog 22 #[.float .f32 x] w fun e w' => ∃ r n, e = .returned (.float .f32 r) ∧ can .f32 r = rootF x ∧ w' = w.drewN n := by
  go_enter Try.func22, Try.ntmps22
  go_wp2_with fail
  refine (l01Sqrt _ _).mono ?_; rintro e w' ⟨r, n, rfl, hr, rfl⟩
  go_wp2
  go_ret
  exact ⟨_, _, rfl, hr, rfl⟩
theorem implRootNumber (x : Nat) (w : World) : Calls Try.prog 23 #[.float .f32 x] w fun e w' => ∃ r n, e = .returned (.float .f32 r) ∧ can .f32 r = rootF x ∧ w' = w.drewN n := by
  go_enter Try.func23, Try.ntmps23
  go_wp2_with fail
  refine (mathSqrt _ _).mono ?_; rintro e w' ⟨r, n, rfl, hr, rfl⟩
  rw [cVw_can] at hr
  have hov : ovf .f64 .f32 r = false := by rw [← ovf_can, hr]; exact root_ovf _
  go_wp2
  go_ret
  exact ⟨_, _, rfl, by rw [cV_can .f64 .f32 r _ hov (by decide), hr]; rfl, rfl⟩
theorem fnExactRootNumber_walk (a : Nat) (wa : (Lit.float .f32 a).wf = true) (w : World) :
    Calls Try.prog 7 #[.float .f32 a] w fun e w' => e = .returned (.bool true) ∧ Below w.heap.size w w' := by
  clear wa
  go_enter Try.func7, Try.ntmps7
  go_wp2_with fail
  refine (specRootNumber _ _).mono ?_; rintro e w' ⟨r, n, rfl, hr, rfl⟩
  go_wp2_with fail
  refine (implRootNumber _ _).mono ?_; rintro e w' ⟨r2, n2, rfl, hr2, rfl⟩
  have hs : can .f32 r2 = can .f32 r := by rw [hr, hr2]
  have Hs := Lib.hid hs
  clear hs hr hr2
  go_wp2_with fail
  refine (sameF _ _ (by rw [cVw_can, cVw_can, Hs.out]) _).mono ?_; rintro e w' ⟨rfl, n3, rfl⟩
  go_wp2
  go_ret
  exact ⟨rfl, bdrewN _ _⟩
end Go.Proofs.Ythbinacchpjkmaa.Wk
