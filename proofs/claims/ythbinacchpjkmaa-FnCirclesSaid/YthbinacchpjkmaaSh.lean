/- The walks of SineTurns, of the program's and of the reference's, and of their law. -/
import Derived.Test.YthbinacchpjkmaaSg
set_option linter.unusedSimpArgs false
set_option linter.unusedVariables false
namespace Go.Proofs.Ythbinacchpjkmaa.Wk
open Go.RowKit Fl

/-- 'x - x == 0' -/
def finB (x : Nat) : Bool := FloatKind.f32.format.order (fop .sub .f32 (can .f32 x) (can .f32 x)) 0 == some .eq
theorem finB_eq (x : Nat) (w : World) : (FloatKind.f32.format.order (fV .sub .f32 x x w) 0 == some .eq) = finB x := by
  unfold finB
  rw [ord_fV, show can .f32 0 = 0 by decide +kernel]
theorem implIsFinite (x : Nat) (w : World) : Calls Try.prog 52 #[.float .f32 x] w fun e w' => e = .returned (.bool (finB x)) ∧ ∃ n, w' = w.drewN n := by
  go_enter Try.func52, Try.ntmps52
  go_wp2
  go_ret
  exact ⟨retB (finB_eq x w), _, rfl⟩
theorem sub_inf {k : FloatKind} {x : Nat} {s : Bool} (e : k.format.read x = .infinity s) : floatBits .sub k x x = none := by
  unfold floatBits; simp only [Ieee.Format.sub, e]
  cases s <;> simp [Ieee.Datum.opposite, Ieee.Datum.sum]
theorem finB_fin {x : Nat} (h : fin S x) : finB x = true := by
  unfold finB
  rw [can_of_not (fin_not_nan (k := .f32) h)]
  obtain ⟨r, e, hf, r1, r2⟩ := sub_bounds S ebS h h 0 0 (rep0 S (infV_pos S)) (rep0 S (infV_pos S)) (by omega) (by omega)
  have e2 : fop .sub .f32 x x = r := by
    unfold fop
    have : floatBits .sub .f32 x x = some r := e
    rw [this]; exact can_of_not (fin_not_nan (k := .f32) hf)
  have h0 : sV S 0 = 0 := by decide +kernel
  rw [e2, show FloatKind.f32.format.order r 0 = _ from order_fin S hf (fin32 (by omega)), h0]
  have : sV S r = 0 := by omega
  rw [this]; rfl
theorem finB_not {x : Nat} (h : ¬ fin S x) : finB x = false := by
  have hn : floatBits .sub .f32 x x = none := by
    by_cases hn : isN .f32 x = true
    · exact floatBits_nanL hn
    · rcases fin_of_not (k := .f32) (by simpa using hn) with h1 | ⟨s, e⟩
      · exact absurd h1 h
      · exact sub_inf e
  have hq : isN .f32 (fop .sub .f32 (can .f32 x) (can .f32 x)) = true := by
    unfold fop; rw [floatBits_can, hn, isN_can]; exact isN_qn _
  unfold finB; rw [order_nanL hq]; rfl
/-- The widened number. -/
def wideF (x : Nat) : Nat := cop .f32 .f64 (can .f32 x)
theorem wide_fin {x : Nat} (h : fin S x) : fin D (wideF x) ∧ ∀ w, cV .f32 x .f64 w = wideF x := by
  obtain ⟨r, g1, g2, g3⟩ := widen h
  have e : wideF x = r := by
    unfold wideF
    rw [can_of_not (fin_not_nan (k := .f32) h)]
    unfold cop; rw [g1]; exact can_of_not (fin_not_nan (k := .f64) g2)
  rw [e]
  exact ⟨g2, fun w => by unfold cV; rw [g1]⟩
theorem can_lt {k : FloatKind} {x : Nat} (h : x < 2 ^ k.format.width) : can k x < 2 ^ k.format.width := by
  unfold can; split
  · exact qn_lt k
  · exact h
theorem wide_lt (x : Nat) : wideF x < 2 ^ 64 := by
  have e : (2 : Nat) ^ FloatKind.f64.format.width = 2 ^ 64 := by decide +kernel
  unfold wideF cop
  rw [← e]
  apply can_lt
  generalize can .f32 x = y
  cases h : floatToFloatBits .f32 y .f64 with
  | some r =>
    unfold floatToFloatBits at h
    rw [if_neg (by decide)] at h
    split at h
    · cases h
    · cases h; exact lt_of_wf (encode_wf .f64 (.infinity _))
    · split at h
      · cases h
      · cases h; exact lt_of_wf (encode_wf .f64 (.number _ _ _))
  | none => exact qn_lt .f64
theorem wide_notfin {x : Nat} (h : ¬ fin S x) : floatBits .sub .f64 (wideF x) (wideF x) = none := by
  by_cases hn : isN .f32 x = true
  · have : isN .f64 (wideF x) = true := by
      rcases wide_cases (can .f32 x) with h1 | ⟨s, e, _⟩ | ⟨h1, _⟩
      · exact h1
      · exfalso
        have : isN .f32 (can .f32 x) = false := by unfold isN FloatKind.decode; rw [e]; rfl
        rw [isN_can, hn] at this; cases this
      · exfalso
        have := fin_not_nan (k := .f32) h1
        rw [isN_can, hn] at this; cases this
    exact floatBits_nanL this
  · rcases fin_of_not (k := .f32) (by simpa using hn) with h1 | ⟨s, e⟩
    · exact absurd h1 h
    · rcases wide_cases x with h1 | ⟨s', e', e2⟩ | ⟨h1, _⟩
      · unfold wideF; rw [can_of_not (by simpa using hn)]; exact floatBits_nanL h1
      · unfold wideF; rw [can_of_not (by simpa using hn), e2]
        exact sub_inf (s := s') (by cases s' <;> decide +kernel)
      · exact absurd h1 h
theorem cut_small {x : Nat} (h : fin D x) (ha : aV D x < P 1126) : cutW x ≤ P 52 := by
  obtain ⟨b1, _⟩ := cutW_bounds h
  have e : P 1126 = P 52 * P 1074 := by rw [← P_add]
  rcases Nat.lt_or_ge (P 52) (cutW x) with g | g
  · exfalso
    have := Nat.mul_le_mul_right (P 1074) (Nat.le_of_lt g)
    omega
  · exact g
theorem abs_fin {x : Nat} (h : fin D x) : fin D (x % 9223372036854775808) ∧ sV D (x % 9223372036854775808) = aV D x := by
  have hr : x % 9223372036854775808 % 9223372036854775808 = x % 9223372036854775808 := by omega
  have hlt : x % 9223372036854775808 < 9218868437227405312 := by unfold fin at h; rw [d_sw, d_inf] at h; exact h
  refine ⟨fin64 (by omega), ?_⟩
  have hs : sgn D (x % 9223372036854775808) = false := by rw [sgn64, Nat.div_eq_of_lt (Nat.mod_lt _ (by omega))]; rfl
  have ha : aV D (x % 9223372036854775808) = aV D x := by rw [aV64, aV64, hr]
  unfold sV; rw [hs, ha]; rfl

/-- The sine of a 32-bit number of turns. -/
def sineT (x : Nat) : Nat := if finB x then (if decide (aV D (wideF x) < P 1126) then cop .f64 .f32 (sinF (partF (wideF x))) else 0) else qn .f32
theorem sineT_ovf {x : Nat} (h : fin S x) (ha : aV D (wideF x) < P 1126) : ovf .f64 .f32 (sinF (partF (wideF x))) = false :=
  sin_ovf (partF_sz (wide_fin h).1 (cut_small (wide_fin h).1 ha))

def RS (v : Nat) (w : World) (e : Ending) (w' : World) : Prop := ∃ r n, e = .returned (.float .f32 r) ∧ can .f32 r = v ∧ w' = w.drewN n

theorem implSineTurns (x : Nat) (w : World) : Calls Try.prog 25 #[.float .f32 x] w (RS (sineT x) w) := by
  by_cases hf : fin S x
  · have hB := finB_fin hf
    obtain ⟨hE, hY⟩ := wide_fin hf
    have hlt := wide_lt x
    obtain ⟨a1, a2⟩ := abs_fin hE
    have hW : sV D 4841369599423283200 = (P 1126 : Int) := by decide +kernel
    have ho : FloatKind.f64.format.order (wideF x % 9223372036854775808) 4841369599423283200 = some (compare ((aV D (wideF x) : Nat) : Int) ((P 1126 : Nat) : Int)) := by
      rw [show FloatKind.f64.format.order (wideF x % 9223372036854775808) 4841369599423283200 = _ from order_fin D a1 (fin64 (by decide)), hW, a2]
    by_cases ha : aV D (wideF x) < P 1126
    · have hv := Lib.hid (show sineT x = cop .f64 .f32 (sinF (partF (wideF x))) by unfold sineT; rw [hB, if_pos rfl, if_pos (by simpa using ha)])
      have hov := sineT_ovf hf ha
      have HS := Lib.hid (fun w => implSine (wideF x) hE (cut_small hE ha) w)
      have HA := Lib.hid (fun w => mathAbs (wideF x) hlt w)
      have o1 : FloatKind.f64.format.order (wideF x % 9223372036854775808) 4841369599423283200 = some .lt := by
        rw [ho]; simp only [compare, compareOfLessAndEq]; rw [if_pos (by exact_mod_cast ha)]
      clear hf hE hlt a1 a2 hW ho ha
      go_enter Try.func25, Try.ntmps25
      go_wp2_with (first | (go_at_call 52; refine (implIsFinite _ _).mono ?_; rintro e w' ⟨rfl, n, rfl⟩) | (go_at_call 54; refine (HA.out _).mono ?_; rintro e w' ⟨rfl, rfl⟩) | (go_at_call 55; refine (HS.out _).mono ?_; rintro e w' ⟨r, n, rfl, hr, rfl⟩))
      go_ret
      exact ⟨_, _, rfl, by rw [cV_can .f64 .f32 r _ (by rw [← ovf_can, hr]; exact hov) (by decide), hr, hv.out], rfl⟩
    · have hv := Lib.hid (show sineT x = 0 by unfold sineT; rw [hB, if_pos rfl, if_neg (by simpa using ha)])
      have HA := Lib.hid (fun w => mathAbs (wideF x) hlt w)
      have o1 : FloatKind.f64.format.order (wideF x % 9223372036854775808) 4841369599423283200 = some .gt ∨ FloatKind.f64.format.order (wideF x % 9223372036854775808) 4841369599423283200 = some .eq := by
        rw [ho]; simp only [compare, compareOfLessAndEq]
        rw [if_neg (by omega)]
        split
        · exact .inr rfl
        · exact .inl rfl
      clear hf hE hlt a1 a2 hW ho ha
      rcases o1 with o1 | o1
      all_goals
        go_enter Try.func25, Try.ntmps25
        go_wp2_with (first | (go_at_call 52; refine (implIsFinite _ _).mono ?_; rintro e w' ⟨rfl, n, rfl⟩) | (go_at_call 54; refine (HA.out _).mono ?_; rintro e w' ⟨rfl, rfl⟩))
        go_ret
        exact ⟨_, _, rfl, by rw [hv.out]; decide +kernel, rfl⟩
  · have hB := finB_not hf
    have hv := Lib.hid (show sineT x = qn .f32 by unfold sineT; rw [hB]; rfl)
    clear hf
    go_enter Try.func25, Try.ntmps25
    go_wp2_with (first | (go_at_call 52; refine (implIsFinite _ _).mono ?_; rintro e w' ⟨rfl, n, rfl⟩) | (go_at_call 53; refine (implNan _).mono ?_; rintro e w' ⟨r, m, rfl, hr, rfl⟩))
    go_ret
    exact ⟨_, _, rfl, by rw [hv.out]; exact can_nan hr, rfl⟩

/-! ### The reference -/
theorem specSineWide_nan (x : Nat) (h : floatBits .sub .f64 x x = none) (w : World) : Calls Try.prog 71 #[.float .f64 x] w fun e w' => ∃ r n, e = .returned (.float .f64 r) ∧ isN .f64 r = true ∧ w' = w.drewN n := by
  have hn : FloatKind.f64.format.order (fop .sub .f64 (can .f64 x) (can .f64 x)) (can .f64 0) = none := by
    apply order_nanL
    unfold fop; rw [floatBits_can, h, isN_can]; exact isN_qn _
  have ho := fun w => (ord_fV .sub .f64 x x 0 w).trans hn
  clear h hn
  go_enter Try.func71, Try.ntmps71
  go_wp2_with (first | (go_at_call 58; refine (mathNaN _).mono ?_; rintro e w' ⟨rfl, rfl⟩))
  go_ret
  exact ⟨_, _, rfl, by decide +kernel, rfl⟩
theorem specSineWide_big (x : Nat) (h : fin D x) (hb : sV D x ≤ -(P 1126 : Int) ∨ (P 1126 : Int) ≤ sV D x) (w : World) : Calls Try.prog 71 #[.float .f64 x] w fun e w' => ∃ n, e = .returned (.float .f64 0) ∧ w' = w.drewN n := by
  have hP : (0 : Int) < (P 1126 : Int) := by exact_mod_cast P_pos _
  have hn : FloatKind.f64.format.order (fop .sub .f64 (can .f64 x) (can .f64 x)) (can .f64 0) = some .eq := by
    rw [can_of_not (fin_not_nan (k := .f64) h), c0]
    obtain ⟨r, e, hf, r1, r2⟩ := sub_bounds D ebD h h 0 0 (rep0 D (infV_pos D)) (rep0 D (infV_pos D)) (by omega) (by omega)
    rw [fop_some (op := .sub) e hf, show FloatKind.f64.format.order r 0 = _ from order_fin D hf fin0, sV0]
    have : sV D r = 0 := by omega
    rw [this]; rfl
  have ho := fun w => (ord_fV .sub .f64 x x 0 w).trans hn
  have hW : sV D 4841369599423283200 = (P 1126 : Int) := by decide +kernel
  have hWn : sV D 14064741636278059008 = -(P 1126 : Int) := by decide +kernel
  have p1 : FloatKind.f64.format.order x 4841369599423283200 = some (compare (sV D x) (P 1126 : Int)) := by
    rw [show FloatKind.f64.format.order x 4841369599423283200 = _ from order_fin D h (fin64 (by decide)), hW]
  have p2 : FloatKind.f64.format.order x 14064741636278059008 = some (compare (sV D x) (-(P 1126 : Int))) := by
    rw [show FloatKind.f64.format.order x 14064741636278059008 = _ from order_fin D h (fin64 (by decide)), hWn]
  simp only [compare, compareOfLessAndEq] at p1 p2
  generalize sV D x = v at *
  clear hn h hW hWn
  by_cases g : (P 1126 : Int) ≤ v
  · have o1 : FloatKind.f64.format.order x 4841369599423283200 = some .gt ∨ FloatKind.f64.format.order x 4841369599423283200 = some .eq := by
      rw [p1, if_neg (by omega)]; split
      · exact .inr rfl
      · exact .inl rfl
    clear p1 p2 hb hP g
    rcases o1 with o1 | o1
    all_goals
      go_enter Try.func71, Try.ntmps71
      go_wp2
      go_ret
      exact ⟨_, rfl, rfl⟩
  · have o1 : FloatKind.f64.format.order x 4841369599423283200 = some .lt := by rw [p1, if_pos (by omega)]
    have o2 : FloatKind.f64.format.order x 14064741636278059008 = some .lt ∨ FloatKind.f64.format.order x 14064741636278059008 = some .eq := by
      rw [p2]; by_cases c : v < -(P 1126 : Int)
      · rw [if_pos c]; exact .inl rfl
      · rw [if_neg c, if_pos (by omega)]; exact .inr rfl
    clear p1 p2 hb hP g
    rcases o2 with o2 | o2
    all_goals
      go_enter Try.func71, Try.ntmps71
      go_wp2
      go_ret
      exact ⟨_, rfl, rfl⟩
theorem narrowNan (x : Nat) (h : isN .f64 x = true) : ovf .f64 .f32 (can .f64 x) = false ∧ cop .f64 .f32 (can .f64 x) = qn .f32 := by
  rw [can_nan h]; exact ⟨by decide +kernel, by decide +kernel⟩
theorem specL01Sine (x : Nat) (w : World) : Calls Try.prog 51 #[.float .f32 x] w (RS (sineT x) w) := by
  by_cases hf : fin S x
  · have hB := finB_fin hf
    obtain ⟨hE, hY⟩ := wide_fin hf
    have hlt := wide_lt x
    have hs : sV D (wideF x) = aV D (wideF x) ∨ sV D (wideF x) = -(aV D (wideF x) : Int) := by unfold sV; split <;> simp
    by_cases ha : aV D (wideF x) < P 1126
    · have hv := Lib.hid (show sineT x = cop .f64 .f32 (sinF (partF (wideF x))) by unfold sineT; rw [hB, if_pos rfl, if_pos (by simpa using ha)])
      have hov := sineT_ovf hf ha
      have ha' : ((aV D (wideF x) : Nat) : Int) < (P 1126 : Int) := by exact_mod_cast ha
      have HS := Lib.hid (fun w => specSineWide (wideF x) hlt hE (by omega) (by omega) (cut_small hE ha) w)
      clear hf hE hlt hs ha ha' hB
      go_enter Try.func51, Try.ntmps51
      go_wp2_with fail
      refine (HS.out _).mono ?_; rintro e w' ⟨r, n, rfl, hr, rfl⟩
      go_wp2_with fail
      refine (l01Narrow _ _ (by rw [hr]; exact hov)).mono ?_; rintro e w' ⟨r2, n2, rfl, hr2, rfl⟩
      rw [hr, ← hv.out] at hr2
      go_wp2
      go_ret
      exact ⟨_, _, rfl, hr2, rfl⟩
    · have hv := Lib.hid (show sineT x = 0 by unfold sineT; rw [hB, if_pos rfl, if_neg (by simpa using ha)])
      have ha' : (P 1126 : Int) ≤ ((aV D (wideF x) : Nat) : Int) := by exact_mod_cast Nat.le_of_not_lt ha
      have HS := Lib.hid (fun w => specSineWide_big (wideF x) hE (by omega) w)
      clear hf hE hlt hs ha ha' hB
      go_enter Try.func51, Try.ntmps51
      go_wp2_with fail
      refine (HS.out _).mono ?_; rintro e w' ⟨n, rfl, rfl⟩
      go_wp2_with fail
      refine (l01Narrow _ _ (by decide +kernel)).mono ?_; rintro e w' ⟨r2, n2, rfl, hr2, rfl⟩
      go_wp2
      go_ret
      exact ⟨_, _, rfl, by rw [hv.out, hr2]; decide +kernel, rfl⟩
  · have hB := finB_not hf
    have hv := Lib.hid (show sineT x = qn .f32 by unfold sineT; rw [hB]; rfl)
    have hw := wide_notfin hf
    have hS : ∀ w, floatBits .sub .f64 (cV .f32 x .f64 w) (cV .f32 x .f64 w) = none := fun w => by
      have : can .f64 (cV .f32 x .f64 w) = wideF x := cVw_can x w
      rw [← floatBits_can, this]; exact hw
    have HS := Lib.hid (fun w v => specSineWide_nan (cV .f32 x .f64 w) (hS w) v)
    clear hf hw hS hB
    go_enter Try.func51, Try.ntmps51
    go_wp2_with fail
    refine (HS.out _ _).mono ?_; rintro e w' ⟨r, n, rfl, hr, rfl⟩
    go_wp2_with fail
    refine (l01Narrow _ _ (narrowNan r hr).1).mono ?_; rintro e w' ⟨r2, n2, rfl, hr2, rfl⟩
    rw [(narrowNan r hr).2, ← hv.out] at hr2
    go_wp2
    go_ret
    exact ⟨_, _, rfl, hr2, rfl⟩
theorem specSineTurns (x : Nat) (w : World) : Calls Try.prog 24 #[.float .f32 x] w (RS (sineT x) w) := by
  go_enter Try.func24, Try.ntmps24
  go_wp2_with fail
  refine (specL01Sine _ _).mono ?_; rintro e w' ⟨r, n, rfl, hr, rfl⟩
  go_wp2
  go_ret
  exact ⟨_, _, rfl, hr, rfl⟩
theorem fnExactSineTurns_walk (a : Nat) (wa : (Lit.float .f32 a).wf = true) (w : World) :
    Calls Try.prog 8 #[.float .f32 a] w fun e w' => e = .returned (.bool true) ∧ Below w.heap.size w w' := by
  clear wa
  go_enter Try.func8, Try.ntmps8
  go_wp2_with fail
  refine (specSineTurns _ _).mono ?_; rintro e w' ⟨r, n, rfl, hr, rfl⟩
  go_wp2_with fail
  refine (implSineTurns _ _).mono ?_; rintro e w' ⟨r2, n2, rfl, hr2, rfl⟩
  have Hs := Lib.hid (show can .f32 r2 = can .f32 r by rw [hr, hr2])
  clear hr hr2
  go_wp2_with fail
  refine (sameF _ _ (by rw [cVw_can, cVw_can, Hs.out]) _).mono ?_; rintro e w' ⟨rfl, n3, rfl⟩
  go_wp2
  go_ret
  exact ⟨rfl, bdrewN _ _⟩
end Go.Proofs.Ythbinacchpjkmaa.Wk
