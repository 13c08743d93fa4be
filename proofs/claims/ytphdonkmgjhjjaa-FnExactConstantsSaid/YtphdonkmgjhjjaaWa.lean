/- The walks of the small float functions of this seat: what each returns, and that it writes nothing. -/
import Derived.Test.YtphdonkmgjhjjaaFd
import Derived.Laws.BitsAllLaws
import Derived.Test.YtphdonkmgjhjjaaChecked
import Derived.Deep.QuietTactic
import Derived.BigQuiet
import Derived.Below
import Derived.Outline
set_option linter.unusedSimpArgs false
set_option linter.unusedVariables false
namespace Go.Proofs.Ytphdonkmgjhjjaa.Wk
open Go.RowKit Fl

theorem bdrewN (w : World) (n : Nat) : Below w.heap.size w (w.drewN n) := Go.below_drewN (Below.refl _ _) n
theorem retB {a b : Bool} (h : a = b) : Ending.returned (.bool a) = Ending.returned (.bool b) := by rw [h]
theorem retI {k : IntKind} {a b : Int} (h : a = b) : Ending.returned (.int k a) = Ending.returned (.int k b) := by rw [h]
theorem f32bits (x : Nat) (w : World) : (callFunc 25 #[.float .f32 x]).run Try.prog w = .ok (.value (.int .u32 x)) w := by
  rw [run_callFunc_extern Try.func25 (by kernel_rfl) (by kernel_rfl) (by kernel_rfl) (e := Extern.MathFloatBits.float32bits) (by kernel_rfl)]
  rfl
theorem f32frombits (n : Int) (w : World) : (callFunc 27 #[.int .u32 n]).run Try.prog w = .ok (.value (.float .f32 n.toNat)) w := by
  rw [run_callFunc_extern Try.func27 (by kernel_rfl) (by kernel_rfl) (by kernel_rfl) (e := Extern.MathFloatBits.float32frombits) (by kernel_rfl)]
  rfl

theorem ord_fV (op : BinOp) (k : FloatKind) (x y z : Nat) (w : World) : k.format.order (fV op k x y w) z = k.format.order (fop op k (can k x) (can k y)) (can k z) := by
  rw [← order_can, fV_can]

/-- 'x - x == 0' -/
def finB (x : Nat) : Bool := FloatKind.f32.format.order (fop .sub .f32 (can .f32 x) (can .f32 x)) 0 == some .eq
theorem finB_eq (x : Nat) (w : World) : (FloatKind.f32.format.order (fV .sub .f32 x x w) 0 == some .eq) = finB x := by
  unfold finB
  rw [ord_fV, show can .f32 0 = 0 by decide +kernel]

theorem implIsFinite (x : Nat) (w : World) : Calls Try.prog 10 #[.float .f32 x] w fun e w' => e = .returned (.bool (finB x)) ∧ ∃ n, w' = w.drewN n := by
  go_enter Try.func10, Try.ntmps10
  go_wp2
  go_ret
  exact ⟨retB (finB_eq x w), _, rfl⟩
theorem l01Finite (x : Nat) (w : World) : Calls Try.prog 20 #[.float .f32 x] w fun e w' => e = .returned (.bool (finB x)) ∧ ∃ n, w' = w.drewN n := by
  go_enter Try.func20, Try.ntmps20
  go_wp2
  go_ret
  exact ⟨retB (finB_eq x w), _, rfl⟩
theorem specIsFinite (x : Nat) (w : World) : Calls Try.prog 9 #[.float .f32 x] w fun e w' => e = .returned (.bool (finB x)) ∧ ∃ n, w' = w.drewN n := by
  go_enter Try.func9, Try.ntmps9
  go_wp2_with (go_at_call 20; refine (l01Finite _ _).mono ?_; rintro e w' ⟨rfl, n, rfl⟩)
  go_ret
  exact ⟨rfl, _, rfl⟩

theorem fnExactIsFinite_walk (a : Nat) (wa : (Lit.float .f32 a).wf = true) (w : World) :
    Calls Try.prog 4 #[.float .f32 a] w fun e w' => e = .returned (.bool true) ∧ Below w.heap.size w w' := by
  clear wa
  go_enter Try.func4, Try.ntmps4
  go_wp2_with (first | (go_at_call 9; refine (specIsFinite _ _).mono ?_; rintro e w' ⟨rfl, n, rfl⟩) | (go_at_call 10; refine (implIsFinite _ _).mono ?_; rintro e w' ⟨rfl, m, rfl⟩))
  go_ret
  exact ⟨rfl, bdrewN _ _⟩

theorem fnExactConstants_walk (w : World) :
    Calls Try.prog 3 #[] w fun e w' => e = .returned (.bool true) ∧ Below w.heap.size w w' := by
  go_enter Try.func3, Try.ntmps3
  go_wp2
  go_ret
  exact ⟨rfl, Below.refl _ _⟩

/-! ### bits -/
def bitsN (x : Nat) : Nat := if isN .f32 x then 2143289344 else x
theorem l01Bits (x : Nat) (hx : x < 4294967296) (w : World) : Calls Try.prog 22 #[.float .f32 x] w fun e w' => e = .returned (.int .i64 (bitsN x)) ∧ w = w' := by
  have hb := f32bits x w
  by_cases h : isN .f32 x = true
  · have ho : FloatKind.f32.format.order x x = none := by rw [order_self, h]; rfl
    go_enter Try.func22, Try.ntmps22
    go_wp2
    go_ret
    exact ⟨retI (by unfold bitsN; rw [if_pos h]; rfl), rfl⟩
  · have ho : FloatKind.f32.format.order x x = some .eq := by rw [order_self]; simp [h]
    go_enter Try.func22, Try.ntmps22
    go_wp2
    go_ret
    exact ⟨retI (by unfold bitsN; rw [if_neg h]), rfl⟩
theorem specBitsOf (x : Nat) (hx : x < 4294967296) (w : World) : Calls Try.prog 16 #[.float .f32 x] w fun e w' => e = .returned (.int .i64 (bitsN x)) ∧ w = w' := by
  go_enter Try.func16, Try.ntmps16
  go_wp2_with (go_at_call 22; refine (l01Bits _ hx _).mono ?_; rintro e w' ⟨rfl, rfl⟩)
  go_ret
  exact ⟨rfl, rfl⟩
theorem implIsNaN (x : Nat) (w : World) : Calls Try.prog 24 #[.float .f32 x] w fun e w' => e = .returned (.bool (isN .f32 x)) ∧ w = w' := by
  by_cases h : isN .f32 x = true
  · have ho : FloatKind.f32.format.order x x = none := by rw [order_self, h]; rfl
    go_enter Try.func24, Try.ntmps24
    go_wp2
    go_ret
    exact ⟨retB (by rw [h]; rfl), rfl⟩
  · have ho : FloatKind.f32.format.order x x = some .eq := by rw [order_self]; simp [h]
    go_enter Try.func24, Try.ntmps24
    go_wp2
    go_ret
    exact ⟨retB (by simp only [Bool.not_eq_true] at h; rw [h]), rfl⟩
theorem implBitsOf (x : Nat) (hx : x < 4294967296) (w : World) : Calls Try.prog 17 #[.float .f32 x] w fun e w' => e = .returned (.int .i64 (bitsN x)) ∧ w = w' := by
  have hb := f32bits x w
  by_cases h : isN .f32 x = true
  · go_enter Try.func17, Try.ntmps17
    go_wp2_with (go_at_call 24; refine (implIsNaN _ _).mono ?_; rintro e w' ⟨rfl, rfl⟩)
    go_ret
    exact ⟨retI (by unfold bitsN; rw [if_pos h]; rfl), rfl⟩
  · go_enter Try.func17, Try.ntmps17
    go_wp2_with (go_at_call 24; refine (implIsNaN _ _).mono ?_; rintro e w' ⟨rfl, rfl⟩)
    go_ret
    exact ⟨retI (by unfold bitsN; rw [if_neg h]), rfl⟩
theorem lt32 {a : Nat} (wa : (Lit.float .f32 a).wf = true) : a < 4294967296 := by simpa [Lit.wf] using wa
theorem fnExactBitsOf_walk (a : Nat) (wa : (Lit.float .f32 a).wf = true) (w : World) :
    Calls Try.prog 7 #[.float .f32 a] w fun e w' => e = .returned (.bool true) ∧ Below w.heap.size w w' := by
  have hx := lt32 wa
  clear wa
  go_enter Try.func7, Try.ntmps7
  go_wp2_with (first | (go_at_call 16; refine (specBitsOf _ hx _).mono ?_; rintro e w' ⟨rfl, rfl⟩) | (go_at_call 17; refine (implBitsOf _ hx _).mono ?_; rintro e w' ⟨rfl, rfl⟩))
  go_ret
  exact ⟨rfl, Below.refl _ _⟩

/-! ### the same -/
def sameN (a b : Nat) : Bool := bitsN a == bitsN b
theorem l01Same (a b : Nat) (ha : a < 4294967296) (hb : b < 4294967296) (w : World) : Calls Try.prog 26 #[.float .f32 a, .float .f32 b] w fun e w' => e = .returned (.bool (sameN a b)) ∧ w = w' := by
  go_enter Try.func26, Try.ntmps26
  go_wp2_with fail
  refine (l01Bits _ ha _).mono ?_; rintro e w' ⟨rfl, rfl⟩
  go_wp2_with fail
  refine (l01Bits _ hb _).mono ?_; rintro e w' ⟨rfl, rfl⟩
  go_wp2
  go_ret
  exact ⟨retB (by unfold sameN; rw [Bool.eq_iff_iff]; simp; omega), rfl⟩
theorem specSameNumber (a b : Nat) (ha : a < 4294967296) (hb : b < 4294967296) (w : World) : Calls Try.prog 18 #[.float .f32 a, .float .f32 b] w fun e w' => e = .returned (.bool (sameN a b)) ∧ w = w' := by
  go_enter Try.func18, Try.ntmps18
  go_wp2_with (go_at_call 26; refine (l01Same _ _ ha hb _).mono ?_; rintro e w' ⟨rfl, rfl⟩)
  go_ret
  exact ⟨rfl, rfl⟩
theorem retF {k : FloatKind} {a b : Nat} (h : a = b) : Ending.returned (.float k a) = Ending.returned (.float k b) := by rw [h]
theorem implAbs (x : Nat) (hx : x < 4294967296) (w : World) : Calls Try.prog 23 #[.float .f32 x] w fun e w' => e = .returned (.float .f32 (x % 2147483648)) ∧ w = w' := by
  have h1 := f32bits x w
  have h2 := fun n => f32frombits n w
  go_enter Try.func23, Try.ntmps23
  go_wp2
  go_ret
  refine ⟨retF ?_, rfl⟩
  rw [show (2147483648 : Int) = ((2147483648 : Nat) : Int) from rfl, u32_andNot_nat x _ hx (by omega), Int.toNat_natCast]
  exact Nat.and_two_pow_sub_one_eq_mod x 31

/-- '|x| < 2 ^ -126' -/
def subB (x : Nat) : Bool := FloatKind.f32.format.order (x % 2147483648) 8388608 == some .lt
theorem subB_bits (x : Nat) (hx : x < 4294967296) : (bits .and .i64 (bitsN x : Int) 2139095040 == 0) = subB x := by
  have hb : bitsN x < 2 ^ 63 := by unfold bitsN; split <;> omega
  rw [show (2139095040 : Int) = ((2139095040 : Nat) : Int) from rfl, i64_and _ _ hb (by omega)]
  unfold subB
  rw [← sub_bits]
  unfold bitsN
  rw [Bool.eq_iff_iff]; simp <;> omega
def zeroB (x : Nat) : Bool := FloatKind.f32.format.order x 0 == some .eq

theorem specIsSubnormal (x : Nat) (hx : x < 4294967296) (w : World) : Calls Try.prog 14 #[.float .f32 x] w fun e w' => e = .returned (.bool (!zeroB x && subB x)) ∧ w = w' := by
  have hs := subB_bits x hx
  by_cases hz : FloatKind.f32.format.order x 0 = some .eq
  · have hz' : zeroB x = true := by unfold zeroB; rw [hz]; rfl
    go_enter Try.func14, Try.ntmps14
    go_wp2
    go_ret
    exact ⟨retB (by simp [hz']), rfl⟩
  · have hz' : (FloatKind.f32.format.order x 0 != some .eq) = true := by simpa using hz
    have hz2 : zeroB x = false := by unfold zeroB; simpa using hz
    go_enter Try.func14, Try.ntmps14
    go_wp2_with (go_at_call 22; refine (l01Bits _ hx _).mono ?_; rintro e w' ⟨rfl, rfl⟩)
    go_ret
    exact ⟨retB (by simp [hz2]), rfl⟩
theorem implIsSubnormal (x : Nat) (hx : x < 4294967296) (w : World) : Calls Try.prog 15 #[.float .f32 x] w fun e w' => e = .returned (.bool (!zeroB x && subB x)) ∧ w = w' := by
  have hs : (FloatKind.f32.format.order (x % 2147483648) 8388608 == some .lt) = subB x := rfl
  by_cases hz : FloatKind.f32.format.order x 0 = some .eq
  · have hz' : zeroB x = true := by unfold zeroB; rw [hz]; rfl
    go_enter Try.func15, Try.ntmps15
    go_wp2
    go_ret
    exact ⟨retB (by simp [hz']), rfl⟩
  · have hz' : (FloatKind.f32.format.order x 0 != some .eq) = true := by simpa using hz
    have hz2 : zeroB x = false := by unfold zeroB; simpa using hz
    go_enter Try.func15, Try.ntmps15
    go_wp2_with (go_at_call 23; refine (implAbs _ hx _).mono ?_; rintro e w' ⟨rfl, rfl⟩)
    go_ret
    exact ⟨retB (by simp [hz2]), rfl⟩
theorem fnExactIsSubnormal_walk (a : Nat) (wa : (Lit.float .f32 a).wf = true) (w : World) :
    Calls Try.prog 6 #[.float .f32 a] w fun e w' => e = .returned (.bool true) ∧ Below w.heap.size w w' := by
  have hx := lt32 wa
  clear wa
  go_enter Try.func6, Try.ntmps6
  go_wp2_with (first | (go_at_call 14; refine (specIsSubnormal _ hx _).mono ?_; rintro e w' ⟨rfl, rfl⟩) | (go_at_call 15; refine (implIsSubnormal _ hx _).mono ?_; rintro e w' ⟨rfl, rfl⟩))
  go_ret
  exact ⟨rfl, Below.refl _ _⟩

theorem same_of (a b : Nat) (hn : isN .f32 a = false) (hm : isN .f32 b = false) : ((a : Int) == (b : Int)) = sameN a b := by
  unfold sameN bitsN; rw [hn, hm]; rw [Bool.eq_iff_iff]; simp; omega
theorem same_nan (a b : Nat) (h : isN .f32 a = true ∨ isN .f32 b = true) : (isN .f32 a && isN .f32 b) = sameN a b := by
  have q := isN_qn .f32
  unfold sameN bitsN
  by_cases ha : isN .f32 a = true <;> by_cases hb : isN .f32 b = true
  · simp [ha, hb]
  · simp only [ha, hb, Bool.and_false, Bool.false_eq_true, if_false, if_true]
    simp only [Bool.not_eq_true] at hb
    cases h2 : (2143289344 == b)
    · rfl
    · exfalso; have : 2143289344 = b := by simpa using h2
      subst this; rw [show isN .f32 2143289344 = true from q] at hb; cases hb
  · simp only [ha, hb, Bool.false_and, Bool.false_eq_true, if_false, if_true]
    simp only [Bool.not_eq_true] at ha
    cases h2 : (a == 2143289344)
    · rfl
    · exfalso; have : a = 2143289344 := by simpa using h2
      subst this; rw [show isN .f32 2143289344 = true from q] at ha; cases ha
  · rcases h with h | h <;> contradiction
theorem implSameNumber (a b : Nat) (ha : a < 4294967296) (hb : b < 4294967296) (w : World) : Calls Try.prog 19 #[.float .f32 a, .float .f32 b] w fun e w' => e = .returned (.bool (sameN a b)) ∧ w = w' := by
  have hba := f32bits a w
  have hbb := f32bits b w
  by_cases h1 : isN .f32 a = true
  · have hs := same_nan a b (.inl h1)
    by_cases h2 : isN .f32 b = true
    · rw [h1, h2] at hs
      go_enter Try.func19, Try.ntmps19
      go_wp2_with (go_at_call 24; refine (implIsNaN _ _).mono ?_; rintro e w' ⟨rfl, rfl⟩)
      go_ret
      exact ⟨retB hs, rfl⟩
    · simp only [Bool.not_eq_true] at h2
      rw [h1, h2] at hs
      go_enter Try.func19, Try.ntmps19
      go_wp2_with (go_at_call 24; refine (implIsNaN _ _).mono ?_; rintro e w' ⟨rfl, rfl⟩)
      go_ret
      exact ⟨retB hs, rfl⟩
  · simp only [Bool.not_eq_true] at h1
    by_cases h2 : isN .f32 b = true
    · have hs := same_nan a b (.inr h2)
      rw [h1, h2] at hs
      go_enter Try.func19, Try.ntmps19
      go_wp2_with (go_at_call 24; refine (implIsNaN _ _).mono ?_; rintro e w' ⟨rfl, rfl⟩)
      go_ret
      exact ⟨retB hs, rfl⟩
    · simp only [Bool.not_eq_true] at h2
      have hs := same_of a b h1 h2
      go_enter Try.func19, Try.ntmps19
      go_wp2_with (go_at_call 24; refine (implIsNaN _ _).mono ?_; rintro e w' ⟨rfl, rfl⟩)
      go_ret
      exact ⟨rfl, rfl⟩
theorem fnExactSameNumber_walk (a : Nat) (wa : (Lit.float .f32 a).wf = true) (b : Nat) (wb : (Lit.float .f32 b).wf = true) (w : World) :
    Calls Try.prog 8 #[.float .f32 a, .float .f32 b] w fun e w' => e = .returned (.bool true) ∧ Below w.heap.size w w' := by
  have hx := lt32 wa
  have hy := lt32 wb
  clear wa wb
  go_enter Try.func8, Try.ntmps8
  go_wp2_with (first | (go_at_call 18; refine (specSameNumber _ _ hx hy _).mono ?_; rintro e w' ⟨rfl, rfl⟩) | (go_at_call 19; refine (implSameNumber _ _ hx hy _).mono ?_; rintro e w' ⟨rfl, rfl⟩))
  go_ret
  exact ⟨rfl, Below.refl _ _⟩
end Go.Proofs.Ytphdonkmgjhjjaa.Wk
