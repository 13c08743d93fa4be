/- Products of rows of numbers, and their law. -/
import Derived.Test.YtonngkkhefppdaaRc
set_option linter.unusedSimpArgs false
set_option linter.unusedVariables false
namespace Go.Proofs.Ytonngkkhefppdaa.Wk
open Go.RowKit Fl

def dotK (f g : Nat → Nat) : Nat → Nat
  | 0 => 0
  | k + 1 => fop .add .f32 (dotK f g k) (fop .mul .f32 (can .f32 (f k)) (can .f32 (g k)))
theorem cV_self (k : FloatKind) (x : Nat) (w : World) : cV k x k w = x := by unfold cV floatToFloatBits; simp
theorem cN_self (k : FloatKind) (x : Nat) : cN k x k = 0 := by unfold cN floatToFloatBits; simp
attribute [go_sem] cV_self cN_self
def okB (n n2 : Nat) : Bool := decide (n ≤ 256) && decide (n = n2)
def RD (n n2 v : Nat) (w : World) (e : Ending) (w' : World) : Prop := ∃ r m, e = .returned (.tuple #[.float .f32 r, .bool (okB n n2)]) ∧ can .f32 r = (if okB n n2 then v else 0) ∧ w' = w.drewN m
theorem specDot (a b : Value) (n : Nat) (f g : Nat → Nat) (w : World) (ha : RowF w a n f) (hb : RowF w b n g) : Calls Try.prog 22 #[a, b] w (RS (dotK f g n) w) := by
  obtain ⟨ao, cap, rfl, hm, ca⟩ := ha
  obtain ⟨bo, cap2, rfl, hm', cb⟩ := hb
  have hm2 : n ≤ 9223372036854775807 := by unfold maxLen at hm; omega
  have HA := Lib.hid ca
  have HB := Lib.hid cb
  have k0 := c0S
  clear ca cb hm hm'
  go_enter Try.func22, Try.ntmps22
  go_wp2_with fail
  go_loopw [5, 6] (fun s q wr => ∃ (k r m : Nat), k ≤ n ∧ q = .int .i64 k ∧ s = .float .f32 r ∧ can .f32 r = dotK f g k ∧ wr = w.drewN m) (fun _ q _ => n - (intOf q).toNat)
  case atStart => exact ⟨0, 0, 0, by omega, rfl, rfl, k0, rfl⟩
  case round =>
    obtain ⟨k, r, m, hk, rfl, rfl, hr, rfl⟩ := hrel
    by_cases hlt : k < n
    · obtain ⟨x, rfl, hxb, hcx⟩ := HA.out k hlt
      obtain ⟨y, rfl, hyb, hcy⟩ := HB.out k hlt
      clear hxb HA hyb HB
      go_wp2_with fail
      refine Soft.wp_region_soft (by kernel_rfl) (by decide +kernel) (by decide +kernel) ?_
      repeat (first | (refine Soft.step_fl rfl .mul (by simp) _ _ _ _ _ _ _ rfl rfl rfl ?_; intro r1 hr1) | (refine Soft.step_fl rfl .add (by simp) _ _ _ _ _ _ _ rfl rfl rfl ?_; intro r2 hr2) | (refine Soft.step_quiet (fun K hK => ?_); go_simp; (refine hK _ ?_; clear hK K)))
      rintro w' ⟨nn, rfl⟩
      go_wp2_with fail
      go_roundw
      case rel => exact ⟨k + 1, _, _, by omega, by go_num, rfl, by simp only [dotK, *], rfl⟩
      case measure => simp [intOf]; omega
    · obtain rfl : n = k := by omega
      go_wp2
      go_ret
      exact ⟨_, _, rfl, hr, rfl⟩
theorem implDot (a b : Value) (n : Nat) (f g : Nat → Nat) (w : World) (ha : RowF w a n f) (hb : RowF w b n g) : Calls Try.prog 23 #[a, b] w (RS (dotK f g n) w) := by
  obtain ⟨ao, cap, rfl, hm, ca⟩ := ha
  obtain ⟨bo, cap2, rfl, hm', cb⟩ := hb
  have hm2 : n ≤ 9223372036854775807 := by unfold maxLen at hm; omega
  have HA := Lib.hid ca
  have HB := Lib.hid cb
  have k0 := c0S
  clear ca cb hm hm'
  go_enter Try.func23, Try.ntmps23
  go_wp2_with fail
  go_loopw [5, 10] (fun s q wr => ∃ (k r m : Nat), k ≤ n ∧ q = .int .i64 k ∧ s = .float .f32 r ∧ can .f32 r = dotK f g k ∧ wr = w.drewN m) (fun _ q _ => n - (intOf q).toNat)
  case atStart => exact ⟨0, 0, 0, by omega, rfl, rfl, k0, rfl⟩
  case round =>
    obtain ⟨k, r, m, hk, rfl, rfl, hr, rfl⟩ := hrel
    by_cases hlt : k < n
    · obtain ⟨x, rfl, hxb, hcx⟩ := HA.out k hlt
      obtain ⟨y, rfl, hyb, hcy⟩ := HB.out k hlt
      clear hxb HA hyb HB
      go_wp2_with (first | (refine wpList_fl _ rfl .add (by simp) _ _ _ _ _ _ _ rfl rfl rfl ?_; intro r n hr) | (refine wpList_fl _ rfl .sub (by simp) _ _ _ _ _ _ _ rfl rfl rfl ?_; intro r n hr) | (refine wpList_fl _ rfl .mul (by simp) _ _ _ _ _ _ _ rfl rfl rfl ?_; intro r n hr) | (refine wpList_fl _ rfl .quo (by simp) _ _ _ _ _ _ _ rfl rfl rfl ?_; intro r n hr) | (refine wpList_cmp _ rfl .lss (by simp) _ _ _ _ _ _ _ rfl rfl rfl ?_; try simp only [*]) | (refine wpList_cmp _ rfl .geq (by simp) _ _ _ _ _ _ _ rfl rfl rfl ?_; try simp only [*]) | (refine wpList_cmp _ rfl .gtr (by simp) _ _ _ _ _ _ _ rfl rfl rfl ?_; try simp only [*]) | (refine wpList_cmp _ rfl .neq (by simp) _ _ _ _ _ _ _ rfl rfl rfl ?_; try simp only [*]) | (refine wpList_cmp _ rfl .eql (by simp) _ _ _ _ _ _ _ rfl rfl rfl ?_; try simp only [*]) | (refine wpList_cmp _ rfl .leq (by simp) _ _ _ _ _ _ _ rfl rfl rfl ?_; try simp only [*]) | (refine wpList_neg _ rfl _ _ _ _ rfl rfl ?_; intro r hr))
      go_roundw
      case rel => exact ⟨k + 1, _, _, by omega, by go_num, rfl, by simp only [dotK, *], rfl⟩
      case measure => simp [intOf]; omega
    · obtain rfl : n = k := by omega
      go_wp2
      go_ret
      exact ⟨_, _, rfl, hr, rfl⟩
theorem specDotNumbers (a b : Value) (n : Nat) (f : Nat → Nat) (n2 : Nat) (g : Nat → Nat) (w : World) (ha : RowF w a n f) (hb : RowF w b n2 g) : Calls Try.prog 13 #[a, b] w (RD n n2 (dotK f g n) w) := by
  have HF := Lib.hid (fun w (h : RowF w a n f) => specFew a n f w h)
  have HS := Lib.hid (fun w (h : RowF w a n f) (e : n = n2) (h' : RowF w b n2 g) => specDot a b n f g w h (e ▸ h'))
  have HA := Lib.hid ha
  have HB := Lib.hid hb
  obtain ⟨ao, cap, rfl, hm, ca⟩ := ha
  obtain ⟨bo, cap2, rfl, hm', cb⟩ := hb
  clear ca cb hm hm'
  by_cases hn : n ≤ 256
  · have ht : decide (n ≤ 256) = true := by simpa using hn
    rw [ht] at HF
    by_cases he : n = n2
    · have HE := Lib.hid he
      have Hv := Lib.hid (show okB n n2 = true ∧ (if okB n n2 then dotK f g n else 0) = dotK f g n by unfold okB; rw [ht, ← he]; simp)
      have he2 : (n : Int) = (n2 : Int) := by exact_mod_cast he
      clear hn ht he
      go_enter Try.func13, Try.ntmps13
      go_wp2_with fail
      refine (HF.out _ HA.out).mono ?_; rintro e w' ⟨rfl, rfl⟩
      go_wp2_with fail
      refine (HS.out _ HA.out HE.out HB.out).mono ?_; rintro e w' ⟨r, m, rfl, hr, rfl⟩
      go_wp2_with fail
      go_ret2
      refine ⟨_, _, ?_, hr.trans Hv.out.2.symm, rfl⟩
      rw [Hv.out.1]; rfl
    · have Hv := Lib.hid (show okB n n2 = false ∧ (if okB n n2 then dotK f g n else 0) = 0 by unfold okB; simp [he])
      have he2 : ¬ (n : Int) = (n2 : Int) := by exact_mod_cast he
      clear hn ht he
      go_enter Try.func13, Try.ntmps13
      go_wp2_with fail
      refine (HF.out _ HA.out).mono ?_; rintro e w' ⟨rfl, rfl⟩
      go_wp2_with fail
      go_ret2
      refine ⟨_, 0, ?_, c0S.trans Hv.out.2.symm, rfl⟩
      rw [Hv.out.1]; rfl
  · have ht : decide (n ≤ 256) = false := by simpa using hn
    rw [ht] at HF
    have Hv := Lib.hid (show okB n n2 = false ∧ (if okB n n2 then dotK f g n else 0) = 0 by unfold okB; rw [ht]; simp)
    clear hn ht
    go_enter Try.func13, Try.ntmps13
    go_wp2_with fail
    refine (HF.out _ HA.out).mono ?_; rintro e w' ⟨rfl, rfl⟩
    go_wp2_with fail
    go_ret2
    refine ⟨_, 0, ?_, c0S.trans Hv.out.2.symm, rfl⟩
    rw [Hv.out.1]; rfl
theorem implDotNumbers (a b : Value) (n : Nat) (f : Nat → Nat) (n2 : Nat) (g : Nat → Nat) (w : World) (ha : RowF w a n f) (hb : RowF w b n2 g) : Calls Try.prog 14 #[a, b] w (RD n n2 (dotK f g n) w) := by
  have HF := Lib.hid (fun w (h : RowF w a n f) => implFew a n f w h)
  have HS := Lib.hid (fun w (h : RowF w a n f) (e : n = n2) (h' : RowF w b n2 g) => implDot a b n f g w h (e ▸ h'))
  have HA := Lib.hid ha
  have HB := Lib.hid hb
  obtain ⟨ao, cap, rfl, hm, ca⟩ := ha
  obtain ⟨bo, cap2, rfl, hm', cb⟩ := hb
  clear ca cb hm hm'
  by_cases hn : n ≤ 256
  · have ht : decide (n ≤ 256) = true := by simpa using hn
    rw [ht] at HF
    by_cases he : n = n2
    · have HE := Lib.hid he
      have Hv := Lib.hid (show okB n n2 = true ∧ (if okB n n2 then dotK f g n else 0) = dotK f g n by unfold okB; rw [ht, ← he]; simp)
      have he2 : (n : Int) = (n2 : Int) := by exact_mod_cast he
      clear hn ht he
      go_enter Try.func14, Try.ntmps14
      go_wp2_with fail
      refine (HF.out _ HA.out).mono ?_; rintro e w' ⟨rfl, rfl⟩
      go_wp2_with fail
      refine (HS.out _ HA.out HE.out HB.out).mono ?_; rintro e w' ⟨r, m, rfl, hr, rfl⟩
      go_wp2_with fail
      go_ret2
      refine ⟨_, _, ?_, hr.trans Hv.out.2.symm, rfl⟩
      rw [Hv.out.1]; rfl
    · have Hv := Lib.hid (show okB n n2 = false ∧ (if okB n n2 then dotK f g n else 0) = 0 by unfold okB; simp [he])
      have he2 : ¬ (n : Int) = (n2 : Int) := by exact_mod_cast he
      clear hn ht he
      go_enter Try.func14, Try.ntmps14
      go_wp2_with fail
      refine (HF.out _ HA.out).mono ?_; rintro e w' ⟨rfl, rfl⟩
      go_wp2_with fail
      go_ret2
      refine ⟨_, 0, ?_, c0S.trans Hv.out.2.symm, rfl⟩
      rw [Hv.out.1]; rfl
  · have ht : decide (n ≤ 256) = false := by simpa using hn
    rw [ht] at HF
    have Hv := Lib.hid (show okB n n2 = false ∧ (if okB n n2 then dotK f g n else 0) = 0 by unfold okB; rw [ht]; simp)
    clear hn ht
    go_enter Try.func14, Try.ntmps14
    go_wp2_with fail
    refine (HF.out _ HA.out).mono ?_; rintro e w' ⟨rfl, rfl⟩
    go_wp2_with fail
    go_ret2
    refine ⟨_, 0, ?_, c0S.trans Hv.out.2.symm, rfl⟩
    rw [Hv.out.1]; rfl
end Go.Proofs.Ytonngkkhefppdaa.Wk
