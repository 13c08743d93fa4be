/- The phasor's outer cases, and its law. -/
import Derived.Test.YthbinacchpjkmaaSk
set_option linter.unusedSimpArgs false
set_option linter.unusedVariables false
namespace Go.Proofs.Ythbinacchpjkmaa.Wk
open Go.RowKit Fl

/-- Both are not numbers, or one whole turn, or the phasor of the part. -/
def phAll (x re im : Nat) : Prop :=
  if floatBits .sub .f64 x x = none then re = qn .f32 ∧ im = qn .f32
  else if aV D x < P 1126 then phVal (partF x) re im else re = 1065353216 ∧ im = 0
theorem phAll.unique {x a b c d : Nat} (h : phAll x a b) (g : phAll x c d) : a = c ∧ b = d := by
  unfold phAll at h g
  by_cases h1 : floatBits .sub .f64 x x = none
  · rw [if_pos h1] at h g
    exact ⟨h.1.trans g.1.symm, h.2.trans g.2.symm⟩
  · rw [if_neg h1] at h g
    by_cases h2 : aV D x < P 1126
    · rw [if_pos h2] at h g
      exact h.unique g
    · rw [if_neg h2] at h g
      exact ⟨h.1.trans g.1.symm, h.2.trans g.2.symm⟩
def RA (x : Nat) (w : World) (e : Ending) (w' : World) : Prop := ∃ a b n, e = .returned (.complex .f32 a b) ∧ phAll x (can .f32 a) (can .f32 b) ∧ w' = w.drewN n

theorem sub_none_or_fin {x : Nat} (h : ¬ floatBits .sub .f64 x x = none) : fin D x := by
  by_cases hn : isN .f64 x = true
  · exact absurd (floatBits_nanL hn) h
  · rcases fin_of_not (k := .f64) (by simpa using hn) with h1 | ⟨s, e⟩
    · exact h1
    · exact absurd (sub_inf e) h
theorem neq_self_none {x : Nat} (h : floatBits .sub .f64 x x = none) : cmpF .neq .f64 (fop .sub .f64 (can .f64 x) (can .f64 x)) 0 = true := by
  unfold fop cmpF
  rw [floatBits_can, h, order_nanL (by rw [isN_can]; exact isN_qn _)]; rfl
theorem neq_self_fin {x : Nat} (h : fin D x) : cmpF .neq .f64 (fop .sub .f64 x x) 0 = false := by
  obtain ⟨r, e, hf, r1, r2⟩ := sub_bounds D ebD h h 0 0 (rep0 D (infV_pos D)) (rep0 D (infV_pos D)) (by omega) (by omega)
  rw [fop_some (op := .sub) e hf, (cmp_fin hf fin0).2.1, sV0]
  simp; omega
theorem phAll_nan {x a b : Nat} (h : floatBits .sub .f64 x x = none) (ha : isN .f32 a = true) (hb : isN .f32 b = true) : phAll x (can .f32 a) (can .f32 b) := by
  unfold phAll; rw [if_pos h]; exact ⟨can_nan ha, can_nan hb⟩
theorem fin_sub_ne {x : Nat} (h : fin D x) : ¬ floatBits .sub .f64 x x = none := by
  obtain ⟨r, e, hf, r1, r2⟩ := sub_bounds D ebD h h 0 0 (rep0 D (infV_pos D)) (rep0 D (infV_pos D)) (by omega) (by omega)
  have e' : floatBits .sub .f64 x x = some r := e
  rw [e']; intro c; cases c

theorem implPhasor (x : Nat) (hx : x < 2 ^ 64) (w : World) : Calls Try.prog 31 #[.float .f64 x] w (RA x w) := by
  by_cases h0 : floatBits .sub .f64 x x = none
  · have hz := neq_self_none h0
    have HN := Lib.hid h0
    have k0 := c0
    clear h0 hx
    go_enter Try.func31, Try.ntmps31
    go_wp2_with (first | (go_at_call 53; refine (implNan _).mono ?_; rintro e w' ⟨r, m, rfl, hr, rfl⟩) | (first | (refine wpList_fl _ rfl .add (by simp) _ _ _ _ _ _ _ rfl rfl rfl ?_; intro r n hr) | (refine wpList_fl _ rfl .sub (by simp) _ _ _ _ _ _ _ rfl rfl rfl ?_; intro r n hr) | (refine wpList_fl _ rfl .mul (by simp) _ _ _ _ _ _ _ rfl rfl rfl ?_; intro r n hr) | (refine wpList_fl _ rfl .quo (by simp) _ _ _ _ _ _ _ rfl rfl rfl ?_; intro r n hr) | (refine wpList_cmp _ rfl .lss (by simp) _ _ _ _ _ _ _ rfl rfl rfl ?_; try simp only [*]) | (refine wpList_cmp _ rfl .geq (by simp) _ _ _ _ _ _ _ rfl rfl rfl ?_; try simp only [*]) | (refine wpList_cmp _ rfl .gtr (by simp) _ _ _ _ _ _ _ rfl rfl rfl ?_; try simp only [*]) | (refine wpList_cmp _ rfl .neq (by simp) _ _ _ _ _ _ _ rfl rfl rfl ?_; try simp only [*]) | (refine wpList_cmp _ rfl .eql (by simp) _ _ _ _ _ _ _ rfl rfl rfl ?_; try simp only [*]) | (refine wpList_cmp _ rfl .leq (by simp) _ _ _ _ _ _ _ rfl rfl rfl ?_; try simp only [*]) | (refine wpList_neg _ rfl _ _ _ _ rfl rfl ?_; intro r hr)))
    go_ret
    refine ⟨_, _, _, rfl, phAll_nan HN.out ?_ ?_, rfl⟩
    all_goals assumption
  · have h := sub_none_or_fin h0
    by_cases ha : aV D x < P 1126
    · refine (implPhasor_in x hx h ha w).mono ?_
      rintro e w' ⟨a, b, n, rfl, hv, rfl⟩
      refine ⟨_, _, _, rfl, ?_, rfl⟩
      unfold phAll; rw [if_neg h0, if_pos ha]; exact hv
    · have hz0 := neq_self_fin h
      have hcx : can .f64 x = x := can_of_not (fin_not_nan (k := .f64) h)
      obtain ⟨a1, a2⟩ := abs_fin h
      have o1' : cmpF .geq .f64 (can .f64 (x % 9223372036854775808)) 4841369599423283200 = true := by
        rw [← cWhole, cmpF_can, (cmp_fin a1 (show fin D 4841369599423283200 from fin64 (by decide))).2.2.2.2.2, a2, show sV D 4841369599423283200 = (P 1126 : Int) by decide +kernel]
        simp; omega
      have HA := Lib.hid (fun w => mathAbs x hx w)
      have HP : Hid (phAll x (can .f32 1065353216) (can .f32 0)) := Lib.hid (by
        unfold phAll; rw [if_neg h0, if_neg ha]; exact ⟨by decide +kernel, by decide +kernel⟩)
      have k0 := c0
      have k5 := cWhole
      clear h hx h0 ha a1 a2
      go_enter Try.func31, Try.ntmps31
      go_wp2_with (first | (go_at_call 54; refine (HA.out _).mono ?_; rintro e w' ⟨rfl, rfl⟩) | (first | (refine wpList_fl _ rfl .add (by simp) _ _ _ _ _ _ _ rfl rfl rfl ?_; intro r n hr) | (refine wpList_fl _ rfl .sub (by simp) _ _ _ _ _ _ _ rfl rfl rfl ?_; intro r n hr) | (refine wpList_fl _ rfl .mul (by simp) _ _ _ _ _ _ _ rfl rfl rfl ?_; intro r n hr) | (refine wpList_fl _ rfl .quo (by simp) _ _ _ _ _ _ _ rfl rfl rfl ?_; intro r n hr) | (refine wpList_cmp _ rfl .lss (by simp) _ _ _ _ _ _ _ rfl rfl rfl ?_; try simp only [*]) | (refine wpList_cmp _ rfl .geq (by simp) _ _ _ _ _ _ _ rfl rfl rfl ?_; try simp only [*]) | (refine wpList_cmp _ rfl .gtr (by simp) _ _ _ _ _ _ _ rfl rfl rfl ?_; try simp only [*]) | (refine wpList_cmp _ rfl .neq (by simp) _ _ _ _ _ _ _ rfl rfl rfl ?_; try simp only [*]) | (refine wpList_cmp _ rfl .eql (by simp) _ _ _ _ _ _ _ rfl rfl rfl ?_; try simp only [*]) | (refine wpList_cmp _ rfl .leq (by simp) _ _ _ _ _ _ _ rfl rfl rfl ?_; try simp only [*]) | (refine wpList_neg _ rfl _ _ _ _ rfl rfl ?_; intro r hr)))
      go_ret
      exact ⟨_, _, _, rfl, HP.out, rfl⟩

theorem specPhasor (x : Nat) (hx : x < 2 ^ 64) (w : World) : Calls Try.prog 62 #[.float .f64 x] w (RA x w) := by
  by_cases h0 : floatBits .sub .f64 x x = none
  · have hz := neq_self_none h0
    have HN := Lib.hid h0
    have k0 := c0
    clear h0 hx
    go_enter Try.func62, Try.ntmps62
    go_wp2_with (first | (go_at_call 44; refine (l01From _ (by omega) (by omega) _).mono ?_; rintro e w' ⟨rfl, rfl⟩) | (first | (refine wpList_fl _ rfl .add (by simp) _ _ _ _ _ _ _ rfl rfl rfl ?_; intro r n hr) | (refine wpList_fl _ rfl .sub (by simp) _ _ _ _ _ _ _ rfl rfl rfl ?_; intro r n hr) | (refine wpList_fl _ rfl .mul (by simp) _ _ _ _ _ _ _ rfl rfl rfl ?_; intro r n hr) | (refine wpList_fl _ rfl .quo (by simp) _ _ _ _ _ _ _ rfl rfl rfl ?_; intro r n hr) | (refine wpList_cmp _ rfl .lss (by simp) _ _ _ _ _ _ _ rfl rfl rfl ?_; try simp only [*]) | (refine wpList_cmp _ rfl .geq (by simp) _ _ _ _ _ _ _ rfl rfl rfl ?_; try simp only [*]) | (refine wpList_cmp _ rfl .gtr (by simp) _ _ _ _ _ _ _ rfl rfl rfl ?_; try simp only [*]) | (refine wpList_cmp _ rfl .neq (by simp) _ _ _ _ _ _ _ rfl rfl rfl ?_; try simp only [*]) | (refine wpList_cmp _ rfl .eql (by simp) _ _ _ _ _ _ _ rfl rfl rfl ?_; try simp only [*]) | (refine wpList_cmp _ rfl .leq (by simp) _ _ _ _ _ _ _ rfl rfl rfl ?_; try simp only [*]) | (refine wpList_neg _ rfl _ _ _ _ rfl rfl ?_; intro r hr)))
    go_ret
    refine ⟨_, _, _, rfl, phAll_nan HN.out ?_ ?_, rfl⟩
    all_goals decide +kernel
  · have h := sub_none_or_fin h0
    by_cases ha : aV D x < P 1126
    · have hs : sV D x = aV D x ∨ sV D x = -(aV D x : Int) := by unfold sV; split <;> simp
      have ha' : ((aV D x : Nat) : Int) < (P 1126 : Int) := by exact_mod_cast ha
      refine (specPhasor_in x hx h (by omega) (by omega) (cut_small h ha) w).mono ?_
      rintro e w' ⟨a, b, n, rfl, hv, rfl⟩
      refine ⟨_, _, _, rfl, ?_, rfl⟩
      unfold phAll; rw [if_neg h0, if_pos ha]; exact hv
    · have hz0 := neq_self_fin h
      have hcx : can .f64 x = x := can_of_not (fin_not_nan (k := .f64) h)
      have hs : sV D x = aV D x ∨ sV D x = -(aV D x : Int) := by unfold sV; split <;> simp
      have ha' : (P 1126 : Int) ≤ ((aV D x : Nat) : Int) := by exact_mod_cast Nat.le_of_not_lt ha
      have hW : sV D 4841369599423283200 = (P 1126 : Int) := by decide +kernel
      have hWn : sV D 14064741636278059008 = -(P 1126 : Int) := by decide +kernel
      have p1 : cmpF .geq .f64 x 4841369599423283200 = decide ((P 1126 : Int) ≤ sV D x) := by
        rw [(cmp_fin h (show fin D 4841369599423283200 from fin64 (by decide))).2.2.2.2.2, hW]
      have HP : Hid (phAll x (can .f32 1065353216) (can .f32 0)) := Lib.hid (by
        unfold phAll; rw [if_neg h0, if_neg ha]; exact ⟨by decide +kernel, by decide +kernel⟩)
      have k0 := c0
      have k5 := cWhole
      have k6 := cWholeNeg
      by_cases g : (P 1126 : Int) ≤ sV D x
      · have o1' : cmpF .geq .f64 x 4841369599423283200 = true := by rw [p1]; simpa using g
        clear h hx h0 ha hs ha' hW hWn p1 g
        go_enter Try.func62, Try.ntmps62
        go_wp2_with (first | (refine wpList_fl _ rfl .add (by simp) _ _ _ _ _ _ _ rfl rfl rfl ?_; intro r n hr) | (refine wpList_fl _ rfl .sub (by simp) _ _ _ _ _ _ _ rfl rfl rfl ?_; intro r n hr) | (refine wpList_fl _ rfl .mul (by simp) _ _ _ _ _ _ _ rfl rfl rfl ?_; intro r n hr) | (refine wpList_fl _ rfl .quo (by simp) _ _ _ _ _ _ _ rfl rfl rfl ?_; intro r n hr) | (refine wpList_cmp _ rfl .lss (by simp) _ _ _ _ _ _ _ rfl rfl rfl ?_; try simp only [*]) | (refine wpList_cmp _ rfl .geq (by simp) _ _ _ _ _ _ _ rfl rfl rfl ?_; try simp only [*]) | (refine wpList_cmp _ rfl .gtr (by simp) _ _ _ _ _ _ _ rfl rfl rfl ?_; try simp only [*]) | (refine wpList_cmp _ rfl .neq (by simp) _ _ _ _ _ _ _ rfl rfl rfl ?_; try simp only [*]) | (refine wpList_cmp _ rfl .eql (by simp) _ _ _ _ _ _ _ rfl rfl rfl ?_; try simp only [*]) | (refine wpList_cmp _ rfl .leq (by simp) _ _ _ _ _ _ _ rfl rfl rfl ?_; try simp only [*]) | (refine wpList_neg _ rfl _ _ _ _ rfl rfl ?_; intro r hr))
        go_ret
        exact ⟨_, _, _, rfl, HP.out, rfl⟩
      · have o1' : cmpF .geq .f64 x 4841369599423283200 = false := by rw [p1]; simpa using g
        have hv : sV D x ≤ -(P 1126 : Int) := by have := P_pos 1126; omega
        have o2 : FloatKind.f64.format.order x 14064741636278059008 = some .lt ∨ FloatKind.f64.format.order x 14064741636278059008 = some .eq := by
          have p2 : FloatKind.f64.format.order x 14064741636278059008 = some (compare (sV D x) (-(P 1126 : Int))) := by
            rw [show FloatKind.f64.format.order x 14064741636278059008 = _ from order_fin D h (fin64 (by decide)), hWn]
          rw [p2]
          simp only [compare, compareOfLessAndEq]
          by_cases c : sV D x < -(P 1126 : Int)
          · rw [if_pos c]; exact .inl rfl
          · rw [if_neg c, if_pos (by omega)]; exact .inr rfl
        have o2' : cmpF .leq .f64 x 14064741636278059008 = true := by
          unfold cmpF; rcases o2 with o2 | o2 <;> rw [o2] <;> rfl
        clear h hx h0 ha hs ha' hW hWn p1 g hv
        rcases o2 with o2 | o2
        all_goals
          go_enter Try.func62, Try.ntmps62
          go_wp2_with (first | (refine wpList_fl _ rfl .add (by simp) _ _ _ _ _ _ _ rfl rfl rfl ?_; intro r n hr) | (refine wpList_fl _ rfl .sub (by simp) _ _ _ _ _ _ _ rfl rfl rfl ?_; intro r n hr) | (refine wpList_fl _ rfl .mul (by simp) _ _ _ _ _ _ _ rfl rfl rfl ?_; intro r n hr) | (refine wpList_fl _ rfl .quo (by simp) _ _ _ _ _ _ _ rfl rfl rfl ?_; intro r n hr) | (refine wpList_cmp _ rfl .lss (by simp) _ _ _ _ _ _ _ rfl rfl rfl ?_; try simp only [*]) | (refine wpList_cmp _ rfl .geq (by simp) _ _ _ _ _ _ _ rfl rfl rfl ?_; try simp only [*]) | (refine wpList_cmp _ rfl .gtr (by simp) _ _ _ _ _ _ _ rfl rfl rfl ?_; try simp only [*]) | (refine wpList_cmp _ rfl .neq (by simp) _ _ _ _ _ _ _ rfl rfl rfl ?_; try simp only [*]) | (refine wpList_cmp _ rfl .eql (by simp) _ _ _ _ _ _ _ rfl rfl rfl ?_; try simp only [*]) | (refine wpList_cmp _ rfl .leq (by simp) _ _ _ _ _ _ _ rfl rfl rfl ?_; try simp only [*]) | (refine wpList_neg _ rfl _ _ _ _ rfl rfl ?_; intro r hr))
          go_ret
          exact ⟨_, _, _, rfl, HP.out, rfl⟩
theorem specPhasorOf (x : Nat) (hx : x < 2 ^ 64) (w : World) : Calls Try.prog 30 #[.float .f64 x] w (RA x w) := by
  have HS := Lib.hid (fun w => specPhasor x hx w)
  clear hx
  go_enter Try.func30, Try.ntmps30
  go_wp2_with fail
  refine (HS.out _).mono ?_; rintro e w' ⟨a, b, n, rfl, hr, rfl⟩
  go_wp2
  go_ret
  exact ⟨_, _, _, rfl, hr, rfl⟩
theorem sameC (a b c d : Nat) (h1 : can .f64 a = can .f64 c) (h2 : can .f64 b = can .f64 d) (w : World) : Calls Try.prog 32 #[.complex .f64 a b, .complex .f64 c d] w fun e w' => e = .returned (.bool true) ∧ ∃ n, w' = w.drewN n := by
  have H1 := Lib.hid h1
  have H2 := Lib.hid h2
  clear h1 h2
  go_enter Try.func32, Try.ntmps32
  go_wp2_with (first | (go_at_call 19; refine (sameF _ _ (by first | exact H1.out | exact H2.out) _).mono ?_; rintro e w' ⟨rfl, n, rfl⟩))
  go_ret
  exact ⟨rfl, _, rfl⟩
theorem fnExactPhasorOf_walk (a : Nat) (wa : (Lit.float .f64 a).wf = true) (w : World) :
    Calls Try.prog 11 #[.float .f64 a] w fun e w' => e = .returned (.bool true) ∧ Below w.heap.size w w' := by
  have hx : a < 2 ^ 64 := lt_of_wf (k := .f64) wa
  have HS := Lib.hid (fun w => specPhasorOf a hx w)
  have HI := Lib.hid (fun w => implPhasor a hx w)
  clear wa hx
  go_enter Try.func11, Try.ntmps11
  go_wp2_with fail
  refine (HS.out _).mono ?_; rintro e w' ⟨x1, y1, n, rfl, hr, rfl⟩
  go_wp2_with fail
  refine (HI.out _).mono ?_; rintro e w' ⟨x2, y2, n2, rfl, hr2, rfl⟩
  obtain ⟨h1, h2⟩ := hr2.unique hr
  have G1 := Lib.hid h1
  have G2 := Lib.hid h2
  clear hr hr2 h1 h2
  go_wp2_with fail
  refine (sameC _ _ _ _ (by rw [cVw_can, cVw_can, G1.out]) (by rw [cVw_can, cVw_can, G2.out]) _).mono ?_; rintro e w' ⟨rfl, n3, rfl⟩
  go_wp2
  go_ret
  exact ⟨rfl, bdrewN _ _⟩
end Go.Proofs.Ythbinacchpjkmaa.Wk
