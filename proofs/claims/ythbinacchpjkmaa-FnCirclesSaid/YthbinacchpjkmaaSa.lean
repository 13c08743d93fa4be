/- The walks of the small functions of this seat: bits, the same, names and check numbers. -/
import Derived.Test.YthbinacchpjkmaaFe
import Derived.Test.YthbinacchpjkmaaChecked
import Derived.Laws.BitsAllLaws
import Derived.Deep.QuietTactic
import Derived.BigQuiet
import Derived.Below
import Derived.Outline
import Derived.Lib.Hide
set_option linter.unusedSimpArgs false
set_option linter.unusedVariables false
namespace Go.Proofs.Ythbinacchpjkmaa.Wk
open Go.RowKit Fl

theorem bdrewN (w : World) (n : Nat) : Below w.heap.size w (w.drewN n) := Go.below_drewN (Below.refl _ _) n
theorem retB {a b : Bool} (h : a = b) : Ending.returned (.bool a) = Ending.returned (.bool b) := by rw [h]
theorem retI {k : IntKind} {a b : Int} (h : a = b) : Ending.returned (.int k a) = Ending.returned (.int k b) := by rw [h]
theorem retF {k : FloatKind} {a b : Nat} (h : a = b) : Ending.returned (.float k a) = Ending.returned (.float k b) := by rw [h]
theorem f32bits (x : Nat) (w : World) : (callFunc 48 #[.float .f32 x]).run Try.prog w = .ok (.value (.int .u32 x)) w := by
  rw [run_callFunc_extern Try.func48 (by kernel_rfl) (by kernel_rfl) (by kernel_rfl) (e := Extern.MathFloatBits.float32bits) (by kernel_rfl)]
  rfl
theorem f32frombits (n : Int) (w : World) : (callFunc 45 #[.int .u32 n]).run Try.prog w = .ok (.value (.float .f32 n.toNat)) w := by
  rw [run_callFunc_extern Try.func45 (by kernel_rfl) (by kernel_rfl) (by kernel_rfl) (e := Extern.MathFloatBits.float32frombits) (by kernel_rfl)]
  rfl
theorem ord_fV (op : BinOp) (k : FloatKind) (x y z : Nat) (w : World) : k.format.order (fV op k x y w) z = k.format.order (fop op k (can k x) (can k y)) (can k z) := by
  rw [← order_can, fV_can]
theorem lt32 {a : Nat} (wa : (Lit.float .f32 a).wf = true) : a < 4294967296 := by simpa [Lit.wf] using wa

/-! ### The law's own 'the same' -/
theorem sameF (a b : Nat) (h : can .f64 a = can .f64 b) (w : World) : Calls Try.prog 19 #[.float .f64 a, .float .f64 b] w fun e w' => e = .returned (.bool true) ∧ ∃ n, w' = w.drewN n := by
  have hn := isN_of_can h
  by_cases ha : isN .f64 a = true
  · have h1 : FloatKind.f64.format.order a a = none := by rw [order_self, ha]; rfl
    have h2 : FloatKind.f64.format.order b b = none := by rw [order_self, ← hn, ha]; rfl
    clear h hn ha
    go_enter Try.func19, Try.ntmps19
    go_wp2
    go_ret
    exact ⟨rfl, 0, rfl⟩
  · have hab : a = b := by
      rw [can_of_not (by simpa using ha), can_of_not (by rw [← hn]; simpa using ha)] at h; exact h
    subst hab
    have h1 : FloatKind.f64.format.order a a = some .eq := by rw [order_self]; simp [ha]
    clear h hn ha
    by_cases hz : (FloatKind.f64.format.order a 0 == some .eq) = true
    · go_enter Try.func19, Try.ntmps19
      go_wp2
      go_ret
      refine ⟨retB ?_, _, rfl⟩
      rw [ord_fV, ord_fV]
      simp
    · simp only [Bool.not_eq_true] at hz
      go_enter Try.func19, Try.ntmps19
      go_wp2
      go_ret
      exact ⟨rfl, 0, rfl⟩

/-- A result that is the same up to which not-a-number it is. -/
def RF (k : FloatKind) (v : Nat) (w : World) (e : Ending) (w' : World) : Prop := ∃ r n, e = .returned (.float k r) ∧ can k r = v ∧ r < 2 ^ k.format.width ∧ w' = w.drewN n

/-! ### bits -/
def bitsN (x : Nat) : Nat := if isN .f32 x then 2143289344 else x
theorem bitsN_eq (x : Nat) : bitsN x = can .f32 x := rfl
theorem l01Bits (x : Nat) (hx : x < 4294967296) (w : World) : Calls Try.prog 67 #[.float .f32 x] w fun e w' => e = .returned (.int .i64 (bitsN x)) ∧ w = w' := by
  have hb := f32bits x w
  by_cases h : isN .f32 x = true
  · have ho : FloatKind.f32.format.order x x = none := by rw [order_self, h]; rfl
    go_enter Try.func67, Try.ntmps67
    go_wp2
    go_ret
    exact ⟨retI (by unfold bitsN; rw [if_pos h]; rfl), rfl⟩
  · have ho : FloatKind.f32.format.order x x = some .eq := by rw [order_self]; simp [h]
    go_enter Try.func67, Try.ntmps67
    go_wp2
    go_ret
    exact ⟨retI (by unfold bitsN; rw [if_neg h]), rfl⟩
theorem wrapu32 (n : Int) (h0 : 0 ≤ n) (h1 : n ≤ 4294967295) : IntKind.u32.wrap n = n := by rw [IntKind.wrap_u32]; omega
theorem l01From (n : Int) (h0 : 0 ≤ n) (h1 : n ≤ 4294967295) (w : World) : Calls Try.prog 44 #[.int .i64 n] w fun e w' => e = .returned (.float .f32 n.toNat) ∧ w = w' := by
  have h2 := fun n => f32frombits n w
  have h3 := wrapu32 n h0 h1
  go_enter Try.func44, Try.ntmps44
  go_wp2
  go_ret
  exact ⟨rfl, rfl⟩

/-! ### within -/
def inB (n lo hi : Int) : Bool := decide (lo ≤ n) && decide (n ≤ hi)
theorem specIn (n lo hi : Int) (w : World) : Calls Try.prog 41 #[.int .i64 n, .int .i64 lo, .int .i64 hi] w fun e w' => e = .returned (.bool (inB n lo hi)) ∧ w = w' := by
  by_cases h1 : lo ≤ n <;> by_cases h2 : n ≤ hi
  all_goals
    go_enter Try.func41, Try.ntmps41
    go_wp2
    go_ret
    exact ⟨retB (by unfold inB; simp [h1, h2]), rfl⟩
theorem implIn (n lo hi : Int) (w : World) : Calls Try.prog 43 #[.int .i64 n, .int .i64 lo, .int .i64 hi] w fun e w' => e = .returned (.bool (inB n lo hi)) ∧ w = w' := by
  by_cases h1 : lo ≤ n <;> by_cases h2 : n ≤ hi
  all_goals
    go_enter Try.func43, Try.ntmps43
    go_wp2
    go_ret
    exact ⟨retB (by unfold inB; simp [h1, h2]), rfl⟩

/-! ### FromBits -/
def fromF (n : Int) : Nat := if inB n 0 4294967295 then n.toNat else 0
theorem specFromBits (n : Int) (w : World) : Calls Try.prog 17 #[.int .i64 n] w fun e w' => e = .returned (.tuple #[.float .f32 (fromF n), .bool (inB n 0 4294967295)]) ∧ w = w' := by
  by_cases h : inB n 0 4294967295 = true
  · have h0 : 0 ≤ n ∧ n ≤ 4294967295 := by unfold inB at h; simpa using h
    go_enter Try.func17, Try.ntmps17
    go_wp2_with (first | (go_at_call 41; refine (specIn _ _ _ _).mono ?_; rintro e w' ⟨rfl, rfl⟩) | (go_at_call 44; refine (l01From _ h0.1 h0.2 _).mono ?_; rintro e w' ⟨rfl, rfl⟩))
    go_ret2
    refine ⟨?_, rfl⟩
    unfold fromF; rw [if_pos h, h]; rfl
  · simp only [Bool.not_eq_true] at h
    go_enter Try.func17, Try.ntmps17
    go_wp2_with (first | (go_at_call 41; refine (specIn _ _ _ _).mono ?_; rintro e w' ⟨rfl, rfl⟩))
    go_ret2
    refine ⟨?_, rfl⟩
    unfold fromF; rw [h]; rfl
theorem implFromBits (n : Int) (w : World) : Calls Try.prog 18 #[.int .i64 n] w fun e w' => e = .returned (.tuple #[.float .f32 (fromF n), .bool (inB n 0 4294967295)]) ∧ w = w' := by
  have h2 := fun n => f32frombits n w
  by_cases h : inB n 0 4294967295 = true
  · have h0 : 0 ≤ n ∧ n ≤ 4294967295 := by unfold inB at h; simpa using h
    have h3 := wrapu32 n h0.1 h0.2
    go_enter Try.func18, Try.ntmps18
    go_wp2_with (first | (go_at_call 43; refine (implIn _ _ _ _).mono ?_; rintro e w' ⟨rfl, rfl⟩))
    go_ret2
    refine ⟨?_, rfl⟩
    unfold fromF; rw [if_pos h, h]; rfl
  · simp only [Bool.not_eq_true] at h
    go_enter Try.func18, Try.ntmps18
    go_wp2_with (first | (go_at_call 43; refine (implIn _ _ _ _).mono ?_; rintro e w' ⟨rfl, rfl⟩))
    go_ret2
    refine ⟨?_, rfl⟩
    unfold fromF; rw [h]; rfl
theorem fnExactFromBits_walk (a : Int) (wa : (Lit.int .i64 a).wf = true) (w : World) :
    Calls Try.prog 5 #[.int .i64 a] w fun e w' => e = .returned (.bool true) ∧ Below w.heap.size w w' := by
  clear wa
  go_enter Try.func5, Try.ntmps5
  go_wp2_with (first | (go_at_call 17; refine (specFromBits _ _).mono ?_; rintro e w' ⟨rfl, rfl⟩) | (go_at_call 18; refine (implFromBits _ _).mono ?_; rintro e w' ⟨rfl, rfl⟩) | (go_at_call 19; refine (sameF _ _ (by rw [cVw_can, cVw_can]) _).mono ?_; rintro e w' ⟨rfl, n, rfl⟩))
  go_ret
  exact ⟨rfl, bdrewN _ _⟩
/-! ### FlushNumber -/
theorem implAbs (x : Nat) (hx : x < 4294967296) (w : World) : Calls Try.prog 68 #[.float .f32 x] w fun e w' => e = .returned (.float .f32 (x % 2147483648)) ∧ w = w' := by
  have h1 := f32bits x w
  have h2 := fun n => f32frombits n w
  go_enter Try.func68, Try.ntmps68
  go_wp2
  go_ret
  refine ⟨retF ?_, rfl⟩
  rw [show (2147483648 : Int) = ((2147483648 : Nat) : Int) from rfl, u32_andNot_nat x _ hx (by omega), Int.toNat_natCast]
  exact Nat.and_two_pow_sub_one_eq_mod x 31

/-- '|x| < 2 ^ -126' -/
def subB (x : Nat) : Bool := FloatKind.f32.format.order (x % 2147483648) 8388608 == some .lt
theorem subB_bits (x : Nat) (hx : x < 4294967296) : (bits .and .i64 (bitsN x : Int) 2139095040 == 0) = subB x := by
  have hb : bitsN x < 2 ^ 63 := by unfold bitsN; split <;> omega
  rw [show (2139095040 : Int) = ((2139095040 : Nat) : Int) from rfl, i64_and _ _ hb (by omega)]
  unfold subB
  rw [← sub_bits]
  unfold bitsN
  rw [Bool.eq_iff_iff]; simp <;> omega
def zeroB (x : Nat) : Bool := FloatKind.f32.format.order x 0 == some .eq

def isubB (x : Nat) : Bool := !zeroB x && subB x
theorem implIsSubnormal (x : Nat) (hx : x < 4294967296) (w : World) : Calls Try.prog 47 #[.float .f32 x] w fun e w' => e = .returned (.bool (isubB x)) ∧ w = w' := by
  have hs : (FloatKind.f32.format.order (x % 2147483648) 8388608 == some .lt) = subB x := rfl
  by_cases hz : FloatKind.f32.format.order x 0 = some .eq
  · have hz' : zeroB x = true := by unfold zeroB; rw [hz]; rfl
    go_enter Try.func47, Try.ntmps47
    go_wp2
    go_ret
    exact ⟨retB (by unfold isubB; simp [hz']), rfl⟩
  · have hz' : (FloatKind.f32.format.order x 0 != some .eq) = true := by simpa using hz
    have hz2 : zeroB x = false := by unfold zeroB; simpa using hz
    go_enter Try.func47, Try.ntmps47
    go_wp2_with (go_at_call 68; refine (implAbs _ hx _).mono ?_; rintro e w' ⟨rfl, rfl⟩)
    go_ret
    exact ⟨retB (by unfold isubB; simp [hz2]), rfl⟩
def signW (x : Nat) : Nat := x / 2147483648 % 2 * 2147483648
theorem and_sign (x : Nat) : x &&& 2147483648 = signW x := by
  have h1 : (x &&& 2147483648) % 2 ^ 31 = 0 := by
    rw [Nat.and_mod_two_pow, show 2147483648 % 2 ^ 31 = 0 by decide, Nat.and_zero]
  have h2 : (x &&& 2147483648) / 2 ^ 31 = x / 2 ^ 31 % 2 := by
    rw [Nat.and_div_two_pow, show 2147483648 / 2 ^ 31 = 1 by decide, Nat.and_one_is_mod]
  have h3 := Nat.div_add_mod (x &&& 2147483648) (2 ^ 31)
  rw [h1, h2] at h3
  rw [← h3]; unfold signW; omega
def flushN (x : Nat) : Nat := if subB x then signW x else x
theorem zero_rung (x : Nat) (h : zeroB x = true) : x % 2147483648 = 0 := by
  unfold zeroB at h
  have h' : FloatKind.f32.format.order x 0 = some .eq := by simpa using h
  by_cases hn : isN .f32 x = true
  · rw [order_nanL hn] at h'; cases h'
  · rcases fin_of_not (k := .f32) (by simpa using hn) with hf | ⟨s, e⟩
    · rw [order_fin _ hf (fin32 (by omega)), show sV S 0 = 0 by decide +kernel] at h'
      simp only [Option.some.injEq, compare, compareOfLessAndEq] at h'
      have hv : sV S x = 0 := by
        by_cases c : sV S x < 0
        · rw [if_pos c] at h'; cases h'
        · rw [if_neg c] at h'
          by_cases c2 : sV S x = 0
          · exact c2
          · rw [if_neg c2] at h'; cases h'
      have ha : aV S x = 0 := by unfold sV at hv; split at hv <;> omega
      rw [aV32] at ha
      split at ha
      · exact ha
      · exfalso
        rcases Nat.mul_eq_zero.1 ha with h0 | h0
        · omega
        · have := Nat.two_pow_pos (x % 2147483648 / 8388608 - 1); omega
    · exfalso
      have e2 : FloatKind.f32.format.order x 0 = (Ieee.Datum.infinity s).order (FloatKind.f32.format.read 0) := by unfold Ieee.Format.order; rw [e]
      have e3 : FloatKind.f32.format.read 0 = .number false 0 (-149) := by decide +kernel
      rw [e2, e3] at h'
      cases s <;> simp [Ieee.Datum.order] at h'
theorem l01Flush (x : Nat) (hx : x < 4294967296) (w : World) : Calls Try.prog 46 #[.float .f32 x] w fun e w' => e = .returned (.float .f32 (flushN x)) ∧ w = w' := by
  have hs := subB_bits x hx
  by_cases h : subB x = true
  · have hb : bitsN x = x := by
      have : isN .f32 x = false := by
        cases hn : isN .f32 x
        · rfl
        · unfold subB at h
          have h2 : isN .f32 (x % 2147483648) = true := by rw [isN32] at *; simpa using hn
          rw [order_nanL h2] at h; simp at h
      unfold bitsN; rw [this]; rfl
    have hq : bits .and .i64 (bitsN x : Int) 2147483648 = ((signW x : Nat) : Int) := by
      rw [hb, show (2147483648 : Int) = ((2147483648 : Nat) : Int) from rfl, i64_and _ _ (by omega) (by omega), and_sign]
    rw [h] at hs
    have hl : signW x ≤ 4294967295 := by unfold signW; omega
    have hl2 : (0 : Int) ≤ (signW x : Int) := by omega
    clear hb
    go_enter Try.func46, Try.ntmps46
    go_wp2_with (first | (go_at_call 67; refine (l01Bits _ hx _).mono ?_; rintro e w' ⟨rfl, rfl⟩) | (go_at_call 44; refine (l01From _ hl2 (by omega) _).mono ?_; rintro e w' ⟨rfl, rfl⟩))
    go_ret
    exact ⟨retF (by unfold flushN; rw [if_pos h]), rfl⟩
  · simp only [Bool.not_eq_true] at h
    rw [h] at hs
    go_enter Try.func46, Try.ntmps46
    go_wp2_with (first | (go_at_call 67; refine (l01Bits _ hx _).mono ?_; rintro e w' ⟨rfl, rfl⟩))
    go_ret
    exact ⟨retF (by unfold flushN; rw [h]; rfl), rfl⟩
theorem specFlushNumber (x : Nat) (hx : x < 4294967296) (w : World) : Calls Try.prog 20 #[.float .f32 x] w fun e w' => e = .returned (.float .f32 (flushN x)) ∧ w = w' := by
  go_enter Try.func20, Try.ntmps20
  go_wp2_with (first | (go_at_call 46; refine (l01Flush _ hx _).mono ?_; rintro e w' ⟨rfl, rfl⟩))
  go_ret
  exact ⟨rfl, rfl⟩
theorem implFlushNumber (x : Nat) (hx : x < 4294967296) (w : World) : Calls Try.prog 21 #[.float .f32 x] w fun e w' => e = .returned (.float .f32 (flushN x)) ∧ w = w' := by
  have h1 := f32bits x w
  have h2 := fun n => f32frombits n w
  by_cases h : isubB x = true
  · have hs : subB x = true := by revert h; unfold isubB; cases zeroB x <;> cases subB x <;> simp
    have hq : bits .and .u32 (x : Int) 2147483648 = ((signW x : Nat) : Int) := by
      rw [show (2147483648 : Int) = ((2147483648 : Nat) : Int) from rfl, u32_and_nat x _ hx (by omega), and_sign]
    go_enter Try.func21, Try.ntmps21
    go_wp2_with (first | (go_at_call 47; refine (implIsSubnormal _ hx _).mono ?_; rintro e w' ⟨rfl, rfl⟩))
    go_ret
    refine ⟨retF ?_, rfl⟩
    unfold flushN; rw [if_pos hs]
  · have hv : flushN x = x := by
      unfold flushN
      cases hs : subB x
      · rfl
      · cases hz : zeroB x
        · unfold isubB at h; rw [hz, hs] at h; simp at h
        · have := zero_rung x hz
          unfold signW; simp only [if_true]; omega
    simp only [Bool.not_eq_true] at h
    have Hv := Lib.hid hv
    clear hv
    go_enter Try.func21, Try.ntmps21
    go_wp2_with (first | (go_at_call 47; refine (implIsSubnormal _ hx _).mono ?_; rintro e w' ⟨rfl, rfl⟩))
    go_ret
    exact ⟨retF Hv.out.symm, rfl⟩
theorem fnExactFlushNumber_walk (a : Nat) (wa : (Lit.float .f32 a).wf = true) (w : World) :
    Calls Try.prog 6 #[.float .f32 a] w fun e w' => e = .returned (.bool true) ∧ Below w.heap.size w w' := by
  have hx := lt32 wa
  clear wa
  go_enter Try.func6, Try.ntmps6
  go_wp2_with (first | (go_at_call 20; refine (specFlushNumber _ hx _).mono ?_; rintro e w' ⟨rfl, rfl⟩) | (go_at_call 21; refine (implFlushNumber _ hx _).mono ?_; rintro e w' ⟨rfl, rfl⟩) | (go_at_call 19; refine (sameF _ _ (by rw [cVw_can, cVw_can]) _).mono ?_; rintro e w' ⟨rfl, n, rfl⟩))
  go_ret
  exact ⟨rfl, bdrewN _ _⟩
end Go.Proofs.Ythbinacchpjkmaa.Wk
