/- The walks of the phasor, of the program's and of the reference's, and of its law. -/
import Derived.Test.YthbinacchpjkmaaSh
import Derived.Test.YthbinacchpjkmaaFl
set_option linter.unusedSimpArgs false
set_option linter.unusedVariables false
namespace Go.Proofs.Ythbinacchpjkmaa.Wk
open Go.RowKit Fl

theorem run_ccv (a b : Nat) (w : World) (src dst : TypeId) (s k : FloatKind) {P : Program} (hs : (P.underlying src).isSome = true) (hd : P.underlying dst = some (.complex k)) :
    (convert src dst (.complex s a b)).run P w = .ok (.complex k (cV s a k w) (cV s b k (w.drewN (cN s a k)))) ((w.drewN (cN s a k)).drewN (cN s b k)) := by
  obtain ⟨u, hs'⟩ := Option.isSome_iff_exists.1 hs
  have key : ∀ (x : Nat) (w : World), (Conv.floatToFloat s x k).run P w = .ok (.float k (cV s x k w)) (w.drewN (cN s x k)) := by
    intro x w
    cases h : floatToFloatBits s x k with
    | some r => rw [run_floatToFloat w h]; simp [cV, cN, h, World.drewN_zero]
    | none =>
      have h0 := h
      unfold floatToFloatBits at h
      split at h
      · cases h
      · rename_i ne
        split at h
        · rename_i sg tt he
          have hn : isN s x = true := by unfold isN; rw [he]; rfl
          have hf : (Question.nanConv k x).forced = false := rfl
          simp [Conv.floatToFloat, ne, he, cV, cN, h0, hn, run_choose_drew, hf, World.drew_is_drewN]
        · cases h
        · rename_i sg m e he
          split at h
          · rename_i ho
            have hn : isN s x = false := by unfold isN; rw [he]; rfl
            have hf : (Question.floatToFloat x).forced = false := rfl
            simp [Conv.floatToFloat, ne, he, ho, cV, cN, h0, hn, run_choose_drew, hf, World.drew_is_drewN]
          · cases h
  cases u <;> simp [convert, run_underlying hs', run_underlying hd, Conv.complexToComplex, key]
attribute [go_sem] run_ccv

theorem narrow_to {r v : Nat} {w : World} (hr : can .f64 r = v) (hov : ovf .f64 .f32 v = false) : can .f32 (cV .f64 r .f32 w) = cop .f64 .f32 v := by
  rw [cV_can .f64 .f32 r w (by rw [← ovf_can, hr]; exact hov) (by decide), hr]
/-- Both parts, each the same up to which not-a-number it is. -/
def RC (a b : Nat) (w : World) (e : Ending) (w' : World) : Prop := ∃ x y n, e = .returned (.complex .f32 x y) ∧ can .f32 x = a ∧ can .f32 y = b ∧ w' = w.drewN n

/-- What the phasor is, of what is left of its turns. -/
def phVal (F : Nat) (re im : Nat) : Prop := ∃ j, Ex F j ∧ cmpF .geq .f64 (phF F j) wQuarter = false ∧ re = cop .f64 .f32 (phRe F j) ∧ im = cop .f64 .f32 (phIm F j)
theorem phVal.unique {F a b c d : Nat} (h : phVal F a b) (g : phVal F c d) : a = c ∧ b = d := by
  obtain ⟨j, h1, h2, rfl, rfl⟩ := h
  obtain ⟨i, g1, g2, rfl, rfl⟩ := g
  have := Ex.unique h1 h2 g1 g2
  subst this; exact ⟨rfl, rfl⟩
def RP (F : Nat) (w : World) (e : Ending) (w' : World) : Prop := ∃ x y n, e = .returned (.complex .f32 x y) ∧ phVal F (can .f32 x) (can .f32 y) ∧ w' = w.drewN n

set_option maxHeartbeats 3200000 in
theorem implPhasor_in (x : Nat) (hx : x < 2 ^ 64) (h : fin D x) (ha : aV D x < P 1126) (w : World) : Calls Try.prog 31 #[.float .f64 x] w (RP (partF x) w) := by
  have hcx : can .f64 x = x := can_of_not (fin_not_nan (k := .f64) h)
  have hz0 : cmpF .neq .f64 (fop .sub .f64 x x) 0 = false := by
    obtain ⟨r, e, hf, r1, r2⟩ := sub_bounds D ebD h h 0 0 (rep0 D (infV_pos D)) (rep0 D (infV_pos D)) (by omega) (by omega)
    rw [fop_some (op := .sub) e hf, (cmp_fin hf fin0).2.1, sV0]
    simp; omega
  obtain ⟨a1, a2⟩ := abs_fin h
  have o1 : FloatKind.f64.format.order (x % 9223372036854775808) 4841369599423283200 = some .lt := by
    rw [show FloatKind.f64.format.order (x % 9223372036854775808) 4841369599423283200 = _ from order_fin D a1 (fin64 (by decide)), a2, show sV D 4841369599423283200 = (P 1126 : Int) by decide +kernel]
    simp only [compare, compareOfLessAndEq]; rw [if_pos (by exact_mod_cast ha)]
  have o1' : cmpF .geq .f64 (can .f64 (x % 9223372036854775808)) 4841369599423283200 = false := by
    rw [← cWhole, cmpF_can]; unfold cmpF; rw [o1]; rfl
  have HA := Lib.hid (fun w => mathAbs x hx w)
  have hcut := cut_small h ha
  have HP := Lib.hid (fun w => implPartOf x h hcut w)
  have hFI := partF_fi h hcut
  have k0 := c0
  have k3 := cQuarter
  have k5 := cWhole
  clear h hx a1 a2 o1 ha hcut
  generalize partF x = F at *
  have HF := Lib.hid hFI
  clear hFI
  go_enter Try.func31, Try.ntmps31
  go_wp2_with (first | (go_at_call 54; refine (HA.out _).mono ?_; rintro e w' ⟨rfl, rfl⟩) | (go_at_call 63; refine (HP.out _).mono ?_; rintro e w' ⟨r, n, rfl, hr, rfl⟩) | (first | (refine wpList_fl _ rfl .add (by simp) _ _ _ _ _ _ _ rfl rfl rfl ?_; intro r n hr) | (refine wpList_fl _ rfl .sub (by simp) _ _ _ _ _ _ _ rfl rfl rfl ?_; intro r n hr) | (refine wpList_fl _ rfl .mul (by simp) _ _ _ _ _ _ _ rfl rfl rfl ?_; intro r n hr) | (refine wpList_fl _ rfl .quo (by simp) _ _ _ _ _ _ _ rfl rfl rfl ?_; intro r n hr) | (refine wpList_cmp _ rfl .lss (by simp) _ _ _ _ _ _ _ rfl rfl rfl ?_; try simp only [*]) | (refine wpList_cmp _ rfl .geq (by simp) _ _ _ _ _ _ _ rfl rfl rfl ?_; try simp only [*]) | (refine wpList_cmp _ rfl .gtr (by simp) _ _ _ _ _ _ _ rfl rfl rfl ?_; try simp only [*]) | (refine wpList_cmp _ rfl .neq (by simp) _ _ _ _ _ _ _ rfl rfl rfl ?_; try simp only [*]) | (refine wpList_cmp _ rfl .eql (by simp) _ _ _ _ _ _ _ rfl rfl rfl ?_; try simp only [*]) | (refine wpList_cmp _ rfl .leq (by simp) _ _ _ _ _ _ _ rfl rfl rfl ?_; try simp only [*]) | (refine wpList_neg _ rfl _ _ _ _ rfl rfl ?_; intro r hr)))
  go_loopw [3, 4] (fun f q wr => ∃ (j r m : Nat), Hid (Ex F j) ∧ j ≤ 4 ∧ f = .float .f64 r ∧ q = .int .i64 (j : Int) ∧ can .f64 r = phF F j ∧ wr = w.drewN m) (fun _ q _ => 5 - (intOf q).toNat)
  case atStart => exact ⟨0, _, _, Ex.zero F, by omega, rfl, rfl, hr, rfl⟩
  case round =>
    obtain ⟨j, r, m, hE, hj, rfl, rfl, hp, rfl⟩ := hrel
    have hr' := raw_eq hp (phF_fi HF.out j hE.out).2.1
    subst hr'
    by_cases ht : cmpF .geq .f64 (phF F j) 4598175219545276416 = true
    · have hE2 : Hid (Ex F (j + 1)) := hE.out.succ ht
      have hj2 : j + 1 ≤ 4 := (phF_fi HF.out (j + 1) hE2.out).1
      have hs : fop .sub .f64 (phF F j) 4598175219545276416 = phF F (j + 1) := rfl
      go_wp2_with (first | (refine wpList_fl _ rfl .add (by simp) _ _ _ _ _ _ _ rfl rfl rfl ?_; intro r n hr) | (refine wpList_fl _ rfl .sub (by simp) _ _ _ _ _ _ _ rfl rfl rfl ?_; intro r n hr) | (refine wpList_fl _ rfl .mul (by simp) _ _ _ _ _ _ _ rfl rfl rfl ?_; intro r n hr) | (refine wpList_fl _ rfl .quo (by simp) _ _ _ _ _ _ _ rfl rfl rfl ?_; intro r n hr) | (refine wpList_cmp _ rfl .lss (by simp) _ _ _ _ _ _ _ rfl rfl rfl ?_; try simp only [*]) | (refine wpList_cmp _ rfl .geq (by simp) _ _ _ _ _ _ _ rfl rfl rfl ?_; try simp only [*]) | (refine wpList_cmp _ rfl .gtr (by simp) _ _ _ _ _ _ _ rfl rfl rfl ?_; try simp only [*]) | (refine wpList_cmp _ rfl .neq (by simp) _ _ _ _ _ _ _ rfl rfl rfl ?_; try simp only [*]) | (refine wpList_cmp _ rfl .eql (by simp) _ _ _ _ _ _ _ rfl rfl rfl ?_; try simp only [*]) | (refine wpList_cmp _ rfl .leq (by simp) _ _ _ _ _ _ _ rfl rfl rfl ?_; try simp only [*]) | (refine wpList_neg _ rfl _ _ _ _ rfl rfl ?_; intro r hr))
      go_roundw
      case rel => exact ⟨j + 1, _, _, hE2, by omega, rfl, by go_num, by simp only [*], rfl⟩
      case measure => simp [intOf]; omega
    · simp only [Bool.not_eq_true] at ht
      have HT := Lib.hid ht
      obtain ⟨l1, l2⟩ := phF_left HF.out hE.out ht
      have HS1 := Lib.hid (fun w => implSine (fop .sub .f64 wQuarter (phF F j)) l2.1 (fi_cut l2).1 w)
      have HS2 := Lib.hid (fun w => implSine (phF F j) l1.1 (fi_cut l1).1 w)
      have HL2 := Lib.hid l2.1
      have HZ := Lib.hid (ph_sz HF.out hE.out ht)
      clear l1 l2
      have hjj : j = 0 ∨ j = 1 ∨ j = 2 ∨ j = 3 ∨ j = 4 := by omega
      rcases hjj with rfl | rfl | rfl | rfl | rfl
      all_goals
        go_wp2_with (first | (refine wpList_fl _ rfl .add (by simp) _ _ _ _ _ _ _ rfl rfl rfl ?_; intro r n hr) | (refine wpList_fl _ rfl .sub (by simp) _ _ _ _ _ _ _ rfl rfl rfl ?_; intro r n hr) | (refine wpList_fl _ rfl .mul (by simp) _ _ _ _ _ _ _ rfl rfl rfl ?_; intro r n hr) | (refine wpList_fl _ rfl .quo (by simp) _ _ _ _ _ _ _ rfl rfl rfl ?_; intro r n hr) | (refine wpList_cmp _ rfl .lss (by simp) _ _ _ _ _ _ _ rfl rfl rfl ?_; try simp only [*]) | (refine wpList_cmp _ rfl .geq (by simp) _ _ _ _ _ _ _ rfl rfl rfl ?_; try simp only [*]) | (refine wpList_cmp _ rfl .gtr (by simp) _ _ _ _ _ _ _ rfl rfl rfl ?_; try simp only [*]) | (refine wpList_cmp _ rfl .neq (by simp) _ _ _ _ _ _ _ rfl rfl rfl ?_; try simp only [*]) | (refine wpList_cmp _ rfl .eql (by simp) _ _ _ _ _ _ _ rfl rfl rfl ?_; try simp only [*]) | (refine wpList_cmp _ rfl .leq (by simp) _ _ _ _ _ _ _ rfl rfl rfl ?_; try simp only [*]) | (refine wpList_neg _ rfl _ _ _ _ rfl rfl ?_; intro r hr))
        have e1 := raw_eq (hr.trans (by simp only [*] : _ = fop .sub .f64 wQuarter (phF F _))) HL2.out
        subst e1
        refine (HS1.out _).mono ?_; rintro e w' ⟨rc, nc, rfl, hc, rfl⟩
        go_wp2_with (first | (refine wpList_fl _ rfl .add (by simp) _ _ _ _ _ _ _ rfl rfl rfl ?_; intro r n hr) | (refine wpList_fl _ rfl .sub (by simp) _ _ _ _ _ _ _ rfl rfl rfl ?_; intro r n hr) | (refine wpList_fl _ rfl .mul (by simp) _ _ _ _ _ _ _ rfl rfl rfl ?_; intro r n hr) | (refine wpList_fl _ rfl .quo (by simp) _ _ _ _ _ _ _ rfl rfl rfl ?_; intro r n hr) | (refine wpList_cmp _ rfl .lss (by simp) _ _ _ _ _ _ _ rfl rfl rfl ?_; try simp only [*]) | (refine wpList_cmp _ rfl .geq (by simp) _ _ _ _ _ _ _ rfl rfl rfl ?_; try simp only [*]) | (refine wpList_cmp _ rfl .gtr (by simp) _ _ _ _ _ _ _ rfl rfl rfl ?_; try simp only [*]) | (refine wpList_cmp _ rfl .neq (by simp) _ _ _ _ _ _ _ rfl rfl rfl ?_; try simp only [*]) | (refine wpList_cmp _ rfl .eql (by simp) _ _ _ _ _ _ _ rfl rfl rfl ?_; try simp only [*]) | (refine wpList_cmp _ rfl .leq (by simp) _ _ _ _ _ _ _ rfl rfl rfl ?_; try simp only [*]) | (refine wpList_neg _ rfl _ _ _ _ rfl rfl ?_; intro r hr))
        refine (HS2.out _).mono ?_; rintro e w' ⟨rs, ns, rfl, hs, rfl⟩
        clear hr
        go_wp2_with (first | (refine wpList_fl _ rfl .add (by simp) _ _ _ _ _ _ _ rfl rfl rfl ?_; intro r n hr) | (refine wpList_fl _ rfl .sub (by simp) _ _ _ _ _ _ _ rfl rfl rfl ?_; intro r n hr) | (refine wpList_fl _ rfl .mul (by simp) _ _ _ _ _ _ _ rfl rfl rfl ?_; intro r n hr) | (refine wpList_fl _ rfl .quo (by simp) _ _ _ _ _ _ _ rfl rfl rfl ?_; intro r n hr) | (refine wpList_cmp _ rfl .lss (by simp) _ _ _ _ _ _ _ rfl rfl rfl ?_; try simp only [*]) | (refine wpList_cmp _ rfl .geq (by simp) _ _ _ _ _ _ _ rfl rfl rfl ?_; try simp only [*]) | (refine wpList_cmp _ rfl .gtr (by simp) _ _ _ _ _ _ _ rfl rfl rfl ?_; try simp only [*]) | (refine wpList_cmp _ rfl .neq (by simp) _ _ _ _ _ _ _ rfl rfl rfl ?_; try simp only [*]) | (refine wpList_cmp _ rfl .eql (by simp) _ _ _ _ _ _ _ rfl rfl rfl ?_; try simp only [*]) | (refine wpList_cmp _ rfl .leq (by simp) _ _ _ _ _ _ _ rfl rfl rfl ?_; try simp only [*]) | (refine wpList_neg _ rfl _ _ _ _ rfl rfl ?_; intro r hr))
        go_ret
        refine ⟨_, _, _, rfl, ⟨_, hE.out, HT.out, ?_, ?_⟩, rfl⟩
        all_goals
          refine narrow_to ?_ ?_
          · simp only [phRe, phIm, phC, phS, *]
            try rfl
          · obtain ⟨z1, z2⟩ := HZ.out
            have q1 := ovf_self z1
            have q2 := ovf_self z2
            have q3 := ovf_sub0 z1
            have q4 := ovf_sub0 z2
            simp only [phRe, phIm, Nat.reduceEqDiff, if_true, if_false]
            with_reducible (first | exact q1 | exact q2 | exact q3 | exact q4)
end Go.Proofs.Ythbinacchpjkmaa.Wk
