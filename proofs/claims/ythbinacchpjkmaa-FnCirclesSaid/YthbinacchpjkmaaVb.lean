/- The walk of tenths of decibels: the program's. -/
import Derived.Test.YthbinacchpjkmaaVa
import Derived.Test.YthbinacchpjkmaaSh
set_option linter.unusedSimpArgs false
set_option linter.unusedVariables false
namespace Go.Proofs.Ythbinacchpjkmaa.Wk
open Go.RowKit Fl

theorem run_floor (x : Nat) (w : World) (h : fin D x) : (callFunc 78 #[.float .f64 x]).run Try.prog w = .ok (.value (.float .f64 (floorF x))) w := by
  rw [run_callFunc_extern Try.func78 (by kernel_rfl) (by kernel_rfl) (by kernel_rfl) (e := Extern.MathFloor.toIntegral "math.archFloor" .down) (by kernel_rfl)]
  obtain ⟨m, p, e, _⟩ := read_fin D h
  have e0 : FloatKind.f64.decode x = .number (sgn D x) m p := e
  have e1 : Extern.MathFloor.toIntegral "math.archFloor" .down #[.float .f64 x] = (match FloatKind.f64.decode x with
    | .nan s t =>
      if FloatKind.f64.format.quiet t = t then pure (.float .f64 x) else do
      let kept ← choose (.extern "math.Floor,Ceil,Trunc,RoundToEven.signallingNaN kept" 2)
      pure (.float .f64 (if kept == 1 then x else FloatKind.f64.encode (.nan s (FloatKind.f64.format.quiet t))))
    | d => pure (.float .f64 (FloatKind.f64.encode (d.integral .down)))) := rfl
  rw [e1, e0]
  have e2 : floorF x = FloatKind.f64.encode ((Ieee.Datum.number (sgn D x) m p).integral .down) := by
    unfold floorF flrW; rw [e]; rfl
  rw [e2]; rfl
theorem mathFloor (x : Nat) (w : World) (h : fin D x) : Calls Try.prog 61 #[.float .f64 x] w fun e w' => e = .returned (.float .f64 (floorF x)) ∧ w = w' := by
  have hr := run_floor x w h
  clear h
  go_enter Try.func61, Try.ntmps61
  go_wp2
  go_ret
  exact ⟨rfl, rfl⟩
theorem mathFloor2 (x v : Nat) (hc : can .f64 x = v) (hv : FZ v 1096) (w : World) : Calls Try.prog 61 #[.float .f64 x] w fun e w' => e = .returned (.float .f64 (floorF v)) ∧ w = w' := by
  obtain rfl := raw_eq hc hv.1
  exact mathFloor x w hv.1
/-- The tenths. -/
def tenI (z E : Nat) : Int := Fl.toI (floorF (tenR z E))
theorem ten_conv {z E : Nat} (h : FZ (tenR z E) 1096) (u : World) : (convert 30 2 (.float .f64 (floorF (tenR z E)))).run Try.prog u = .ok (.int .i64 (tenI z E)) u := by
  obtain ⟨g1, g2⟩ := floor_fin h
  exact run_convert_float_int (P := Try.prog) u 30 2 .f64 .i64 (floorF (tenR z E)) (Fl.toI (floorF (tenR z E))) (by kernel_rfl) Try.underlying2 (trunc_int g1 g2)
def fb : Value → Nat | .float _ b => b | _ => 0
noncomputable def meD (v : Value) : Nat := ((P 1203 : Int) - sV D (fb v)).toNat
noncomputable def meH (v : Value) : Nat := (sV D (fb v)).toNat
theorem meD_lt {x : Nat} (h : fin D x) (h0 : (P 925 : Int) ≤ sV D x) (h1 : sV D x ≤ (P 1202 : Int)) : meD (.float .f64 (fop .mul .f64 x wTwo)) < meD (.float .f64 x) := by
  have h2 : P 1203 = P 1202 + P 1202 := P_half 1202
  have h3 : (0 : Int) < (P 925 : Int) := by exact_mod_cast P_pos _
  have h4 := P_pos 1202
  obtain ⟨g1, g2⟩ := dbl_step h (by omega) (by omega)
  unfold meD fb
  dsimp only
  rw [g2]; omega
theorem meH_lt {x : Nat} (h : fin D x) (h0 : (P 1074 : Int) ≤ sV D x) : meH (.float .f64 (fop .quo .f64 x wTwo)) < meH (.float .f64 x) := by
  have h4 := P_pos 1074
  obtain ⟨g1, g2⟩ := hlv_step h h0
  unfold meH fb
  dsimp only
  omega
theorem cTwo : can .f64 4611686018427387904 = 4611686018427387904 := by decide +kernel
theorem c75 : can .f64 4604930618986332160 = 4604930618986332160 := by decide +kernel
theorem c15 : can .f64 4609434218613702656 = 4609434218613702656 := by decide +kernel
theorem cLn2 : can .f64 4604418534313441775 = 4604418534313441775 := by decide +kernel
theorem cDb : can .f64 4631308968768463603 = 4631308968768463603 := by decide +kernel
theorem pos_of {x : Nat} (h : fin S x) (h0 : 0 < sV S x) : Pos (wideF x) := by
  obtain ⟨g1, _⟩ := wide_fin h
  have hc : can .f32 x = x := can_of_not (fin_not_nan (k := .f32) h)
  have hI := wide_In h
  rcases wide_cases x with h1 | ⟨s, e, _⟩ | ⟨_, h2, h3⟩
  · exfalso; have := fin_not_nan (k := .f64) g1; unfold wideF at this; rw [hc, h1] at this; cases this
  · exfalso; obtain ⟨m, p, e2, _⟩ := read_fin S h; rw [e] at e2; cases e2
  · refine ⟨wide_lt x, g1, ?_, ?_⟩
    · unfold wideF; rw [hc, h3]
      have := Int.mul_le_mul_of_nonneg_right (show (1 : Int) ≤ sV S x by omega) (show (0 : Int) ≤ (P 925 : Int) from Int.natCast_nonneg _)
      omega
    · unfold wideF; rw [hc]
      rcases hI with h9 | ⟨_, _, h9⟩
      · exfalso; have := fin_not_nan (k := .f64) h2; rw [h9] at this; cases this
      · exact h9
theorem eI_can (n : Int) (h0 : -150 ≤ n) (h1 : n ≤ 150) : fin D (eI n) := (fz_eI n h0 h1).1
def RTn (x0 : Nat) (w : World) (e : Ending) (w' : World) : Prop := ∃ z E m, Nrm x0 z E ∧ e = .returned (.tuple #[.int .i64 (tenI z E), .bool true]) ∧ w' = w.drewN m
/-- What is left when both loops are done, of the program's. -/
theorem nrm_left {x j i : Nat} (hx : Pos x) (hD : ExD x j) (hs : cmpF .lss .f64 (dblN x j) w75 = false) (hH : ExH (dblN x j) i) (he : cmpF .geq .f64 (hlvN (dblN x j) i) w15 = false) (hji : 0 < j → i = 0) : Nrm x (hlvN (dblN x j) i) (eI ((i : Int) - (j : Int))) := by
  rcases Nat.eq_zero_or_pos j with h | h
  · subst h
    refine .inr ⟨hs, i, hH, he, rfl, by congr 1; try omega⟩
  · obtain rfl := hji h
    exact .inl ⟨j, h, hD, hs, rfl, by congr 1; omega⟩
set_option maxRecDepth 100000 in
set_option maxHeartbeats 8000000 in
theorem implTenthsCore (p : Nat) (hf : fin S p) (ho : FloatKind.f32.format.order p 0 = some .gt) (hx : Pos (wideF p)) (w : World) : Calls Try.prog 29 #[.float .f32 p] w (RTn (wideF p) w) := by
  have hB := finB_fin hf
  obtain ⟨hE, hY⟩ := wide_fin hf
  have hwc := fin_can hE
  have k0 := c0
  have k1 := cOne
  have k2 := cHalf
  have k3 := cTwo
  have k4 := c75
  have k5 := c15
  have k6 := cLn2
  have k7 := cDb
  have HX := Lib.hid hx
  clear hf hE hx
  generalize wideF p = x0 at *
  go_enter Try.func29, Try.ntmps29
  go_wp2_with (first | (go_at_call 52; refine (implIsFinite _ _).mono ?_; rintro e w' ⟨rfl, n, rfl⟩) | (first | (refine wpList_fl _ rfl .add (by simp) _ _ _ _ _ _ _ rfl rfl rfl ?_; intro r n hr) | (refine wpList_fl _ rfl .sub (by simp) _ _ _ _ _ _ _ rfl rfl rfl ?_; intro r n hr) | (refine wpList_fl _ rfl .mul (by simp) _ _ _ _ _ _ _ rfl rfl rfl ?_; intro r n hr) | (refine wpList_fl _ rfl .quo (by simp) _ _ _ _ _ _ _ rfl rfl rfl ?_; intro r n hr) | (refine wpList_cmp _ rfl .lss (by simp) _ _ _ _ _ _ _ rfl rfl rfl ?_; try simp only [*]) | (refine wpList_cmp _ rfl .geq (by simp) _ _ _ _ _ _ _ rfl rfl rfl ?_; try simp only [*]) | (refine wpList_cmp _ rfl .gtr (by simp) _ _ _ _ _ _ _ rfl rfl rfl ?_; try simp only [*]) | (refine wpList_cmp _ rfl .neq (by simp) _ _ _ _ _ _ _ rfl rfl rfl ?_; try simp only [*]) | (refine wpList_cmp _ rfl .eql (by simp) _ _ _ _ _ _ _ rfl rfl rfl ?_; try simp only [*]) | (refine wpList_cmp _ rfl .leq (by simp) _ _ _ _ _ _ _ rfl rfl rfl ?_; try simp only [*]) | (refine wpList_neg _ rfl _ _ _ _ rfl rfl ?_; intro r hr)))
  go_loopw [4, 5] (fun x e wr => ∃ (j m : Nat), x = .float .f64 (dblN x0 j) ∧ e = .float .f64 (eI (-(j : Int))) ∧ Hid (ExD x0 j) ∧ wr = w.drewN m) (fun x _ _ => meD x)
  case atStart => exact ⟨0, _, rfl, by rw [show (-((0 : Nat) : Int)) = 0 by rfl, eI_zero], ExD.zero _, rfl⟩
  case round =>
    obtain ⟨j, m, rfl, rfl, hD, rfl⟩ := hrel
    obtain ⟨g0, g1, g2, g3, g4, g5⟩ := dbl_at HX.out j hD.out
    have hc1 := fin_can g1
    have G1 := Lib.hid g1
    have hj := Lib.hid g4
    have hmag := Lib.hid g3
    have hlow : Hid ((P 925 : Int) ≤ sV D (dblN x0 j)) := by
      show _ ≤ _
      rw [g2]
      have h9 : (1 : Int) ≤ ((P j : Nat) : Int) := by exact_mod_cast P_pos j
      have h8 := HX.out.2.2.1
      have := Int.mul_le_mul_of_nonneg_right h9 (show (0 : Int) ≤ sV D x0 by have : (0 : Int) < (P 925 : Int) := by exact_mod_cast P_pos _
                                                                             omega)
      omega
    clear g0 g1 g2 g3 g4 g5
    by_cases hc : cmpF .lss .f64 (dblN x0 j) 4604930618986332160 = true
    · have hD2 := Lib.hid (hD.out.succ hc)
      have g4' := (dbl_at HX.out (j + 1) hD2.out).2.2.2.2.1
      have hN : Hid (dblN x0 (j + 1) = fop .mul .f64 (dblN x0 j) 4611686018427387904) := rfl
      have hfn := Lib.hid (dbl_at HX.out (j + 1) hD2.out).2.1
      have heN := Lib.hid (eI_down j hj.out)
      have hce := fin_can (eI_can (-(j : Int)) (by have := hj.out; omega) (by omega))
      have hfe := Lib.hid (eI_can (-((j + 1 : Nat) : Int)) (by omega) (by omega))
      go_wp2_with ((first | (refine wpList_fl _ rfl .add (by simp) _ _ _ _ _ _ _ rfl rfl rfl ?_; intro r n hr) | (refine wpList_fl _ rfl .sub (by simp) _ _ _ _ _ _ _ rfl rfl rfl ?_; intro r n hr) | (refine wpList_fl _ rfl .mul (by simp) _ _ _ _ _ _ _ rfl rfl rfl ?_; intro r n hr) | (refine wpList_fl _ rfl .quo (by simp) _ _ _ _ _ _ _ rfl rfl rfl ?_; intro r n hr) | (refine wpList_cmp _ rfl .lss (by simp) _ _ _ _ _ _ _ rfl rfl rfl ?_; try simp only [*]) | (refine wpList_cmp _ rfl .geq (by simp) _ _ _ _ _ _ _ rfl rfl rfl ?_; try simp only [*]) | (refine wpList_cmp _ rfl .gtr (by simp) _ _ _ _ _ _ _ rfl rfl rfl ?_; try simp only [*]) | (refine wpList_cmp _ rfl .neq (by simp) _ _ _ _ _ _ _ rfl rfl rfl ?_; try simp only [*]) | (refine wpList_cmp _ rfl .eql (by simp) _ _ _ _ _ _ _ rfl rfl rfl ?_; try simp only [*]) | (refine wpList_cmp _ rfl .leq (by simp) _ _ _ _ _ _ _ rfl rfl rfl ?_; try simp only [*]) | (refine wpList_neg _ rfl _ _ _ _ rfl rfl ?_; intro r hr)))
      go_roundw
      case rel =>
        refine ⟨j + 1, _, ?_, ?_, hD2.out, rfl⟩
        · congr 1; refine raw_eq ?_ hfn.out; rw [hN.out]; simp only [*]
        · congr 1; refine raw_eq ?_ hfe.out; rw [← heN.out]; simp only [*]
      case measure =>
        rename_i r1 n1 hr1
        have e1 : r1 = dblN x0 (j + 1) := raw_eq (by rw [hr1, hN.out]; simp only [*]) hfn.out
        rw [e1, hN.out]
        exact meD_lt G1.out hlow.out hmag.out
    · simp only [Bool.not_eq_true] at hc
      have HST := Lib.hid hc
      go_wp2_with ((first | (refine wpList_fl _ rfl .add (by simp) _ _ _ _ _ _ _ rfl rfl rfl ?_; intro r n hr) | (refine wpList_fl _ rfl .sub (by simp) _ _ _ _ _ _ _ rfl rfl rfl ?_; intro r n hr) | (refine wpList_fl _ rfl .mul (by simp) _ _ _ _ _ _ _ rfl rfl rfl ?_; intro r n hr) | (refine wpList_fl _ rfl .quo (by simp) _ _ _ _ _ _ _ rfl rfl rfl ?_; intro r n hr) | (refine wpList_cmp _ rfl .lss (by simp) _ _ _ _ _ _ _ rfl rfl rfl ?_; try simp only [*]) | (refine wpList_cmp _ rfl .geq (by simp) _ _ _ _ _ _ _ rfl rfl rfl ?_; try simp only [*]) | (refine wpList_cmp _ rfl .gtr (by simp) _ _ _ _ _ _ _ rfl rfl rfl ?_; try simp only [*]) | (refine wpList_cmp _ rfl .neq (by simp) _ _ _ _ _ _ _ rfl rfl rfl ?_; try simp only [*]) | (refine wpList_cmp _ rfl .eql (by simp) _ _ _ _ _ _ _ rfl rfl rfl ?_; try simp only [*]) | (refine wpList_cmp _ rfl .leq (by simp) _ _ _ _ _ _ _ rfl rfl rfl ?_; try simp only [*]) | (refine wpList_neg _ rfl _ _ _ _ rfl rfl ?_; intro r hr)))
      clear hlow hmag
      go_simp
      go_loopw [4, 5] (fun x e wr => ∃ (i m : Nat), x = .float .f64 (hlvN (dblN x0 j) i) ∧ e = .float .f64 (eI ((i : Int) - (j : Int))) ∧ Hid (ExH (dblN x0 j) i) ∧ Hid (0 < j → i = 0) ∧ wr = w.drewN m) (fun x _ _ => meH x)
      case atStart => exact ⟨0, _, rfl, by congr 2; omega, ExH.zero _, fun _ => rfl, rfl⟩
      case round =>
        obtain ⟨i, m, rfl, rfl, hH, hji, rfl⟩ := hrel
        have hvals : Hid (hlvN (dblN x0 j) i < 2 ^ 64 ∧ fin D (hlvN (dblN x0 j) i) ∧ i ≤ 150 ∧ sV D (hlvN (dblN x0 j) i) ≤ (P 1202 : Int)) := by
          rcases Nat.eq_zero_or_pos j with h0 | h0
          · subst h0
            obtain ⟨q0, q1, q2, q3, q4, q5⟩ := hlv_at HX.out i hH.out
            exact ⟨q0, q1, q3, q5⟩
          · have hi0 := hji.out h0
            subst hi0
            obtain ⟨q0, q1, q2, q3, q4, q5⟩ := dbl_at HX.out j hD.out
            exact ⟨q0, q1, by omega, q3⟩
        have hcz := fin_can hvals.out.2.1
        have hce := fin_can (eI_can ((i : Int) - (j : Int)) (by have := hj.out; omega) (by have := hvals.out.2.2.1; omega))
        by_cases hg : cmpF .geq .f64 (hlvN (dblN x0 j) i) 4609434218613702656 = true
        · have hj0 : j = 0 := by
            rcases Nat.eq_zero_or_pos j with h0 | h0
            · exact h0
            · exfalso
              have hi0 := hji.out h0
              subst hi0
              have hst := dbl_stop HX.out hD.out h0
              rw [show hlvN (dblN x0 j) 0 = dblN x0 j from rfl] at hg
              rw [show cmpF .geq .f64 (dblN x0 j) 4609434218613702656 = false from hst] at hg
              cases hg
          have hH2 := Lib.hid (hH.out.succ hg)
          have hN : Hid (hlvN (dblN x0 j) (i + 1) = fop .quo .f64 (hlvN (dblN x0 j) i) 4611686018427387904) := rfl
          have hbig : Hid ((P 1074 : Int) ≤ sV D (hlvN (dblN x0 j) i)) := by
            show _ ≤ _
            rw [show (4609434218613702656 : Nat) = w15 from rfl, geq15 hvals.out.2.1] at hg
            have h6 : 6 * (P 1072 : Int) ≤ sV D (hlvN (dblN x0 j) i) := by simpa using hg
            have := P72
            have := P_pos 1072
            omega
          have hfn := Lib.hid (hlv_step hvals.out.2.1 hbig.out).1
          have hji2 : Hid (0 < j → i + 1 = 0) := fun h => by omega
          have hi1 : i + 1 ≤ 150 := by
            have hH3 := hH2.out
            rw [hj0] at hH3
            exact (hlv_at HX.out (i + 1) hH3).2.2.2.1
          have heN : Hid (fop .add .f64 (eI ((i : Int) - (j : Int))) wOne = eI (((i + 1 : Nat) : Int) - (j : Int))) := by
            show _ = _
            have := eI_up i hvals.out.2.2.1
            rw [hj0]
            rw [show ((i : Int) - ((0 : Nat) : Int)) = (i : Int) by omega, show (((i + 1 : Nat) : Int) - ((0 : Nat) : Int)) = ((i + 1 : Nat) : Int) by omega]
            exact this
          have hfe := Lib.hid (eI_can (((i + 1 : Nat) : Int) - (j : Int)) (by omega) (by omega))
          have hi1h := Lib.hid hi1
          clear hi1 hj0
          go_wp2_with ((first | (refine wpList_fl _ rfl .add (by simp) _ _ _ _ _ _ _ rfl rfl rfl ?_; intro r n hr) | (refine wpList_fl _ rfl .sub (by simp) _ _ _ _ _ _ _ rfl rfl rfl ?_; intro r n hr) | (refine wpList_fl _ rfl .mul (by simp) _ _ _ _ _ _ _ rfl rfl rfl ?_; intro r n hr) | (refine wpList_fl _ rfl .quo (by simp) _ _ _ _ _ _ _ rfl rfl rfl ?_; intro r n hr) | (refine wpList_cmp _ rfl .lss (by simp) _ _ _ _ _ _ _ rfl rfl rfl ?_; try simp only [*]) | (refine wpList_cmp _ rfl .geq (by simp) _ _ _ _ _ _ _ rfl rfl rfl ?_; try simp only [*]) | (refine wpList_cmp _ rfl .gtr (by simp) _ _ _ _ _ _ _ rfl rfl rfl ?_; try simp only [*]) | (refine wpList_cmp _ rfl .neq (by simp) _ _ _ _ _ _ _ rfl rfl rfl ?_; try simp only [*]) | (refine wpList_cmp _ rfl .eql (by simp) _ _ _ _ _ _ _ rfl rfl rfl ?_; try simp only [*]) | (refine wpList_cmp _ rfl .leq (by simp) _ _ _ _ _ _ _ rfl rfl rfl ?_; try simp only [*]) | (refine wpList_neg _ rfl _ _ _ _ rfl rfl ?_; intro r hr)))
          go_roundw
          case rel =>
            refine ⟨i + 1, _, ?_, ?_, hH2.out, hji2.out, rfl⟩
            · congr 1; refine raw_eq ?_ (show fin D (hlvN (dblN x0 j) (i + 1)) from hfn.out); rw [hN.out]; simp only [*]
            · congr 1; refine raw_eq ?_ hfe.out; rw [← heN.out]; simp only [*]
          case measure =>
            rename_i r1 n1 hr1
            have e1 : r1 = hlvN (dblN x0 j) (i + 1) := raw_eq (by rw [hr1, hN.out]; simp only [*]) hfn.out
            rw [e1, hN.out]
            exact meH_lt hvals.out.2.1 hbig.out
        · simp only [Bool.not_eq_true] at hg
          have HN := Lib.hid (nrm_left HX.out hD.out HST.out hH.out hg hji.out)
          obtain ⟨_, hfi, hfe⟩ := HN.out.vals HX.out
          have hFZ := fz_tenR hfi hfe
          have HFZ := Lib.hid hFZ
          have hcv := fun u => ten_conv hFZ u
          clear hvals hH hji hfi hfe hFZ hD HST hj G1 hc hc1
          generalize hlvN (dblN x0 j) i = z at *
          generalize eI ((i : Int) - (j : Int)) = E at *
          go_wp2_with ((first | (refine wpList_fl _ rfl .add (by simp) _ _ _ _ _ _ _ rfl rfl rfl ?_; intro r n hr) | (refine wpList_fl _ rfl .sub (by simp) _ _ _ _ _ _ _ rfl rfl rfl ?_; intro r n hr) | (refine wpList_fl _ rfl .mul (by simp) _ _ _ _ _ _ _ rfl rfl rfl ?_; intro r n hr) | (refine wpList_fl _ rfl .quo (by simp) _ _ _ _ _ _ _ rfl rfl rfl ?_; intro r n hr) | (refine wpList_cmp _ rfl .lss (by simp) _ _ _ _ _ _ _ rfl rfl rfl ?_; try simp only [*]) | (refine wpList_cmp _ rfl .geq (by simp) _ _ _ _ _ _ _ rfl rfl rfl ?_; try simp only [*]) | (refine wpList_cmp _ rfl .gtr (by simp) _ _ _ _ _ _ _ rfl rfl rfl ?_; try simp only [*]) | (refine wpList_cmp _ rfl .neq (by simp) _ _ _ _ _ _ _ rfl rfl rfl ?_; try simp only [*]) | (refine wpList_cmp _ rfl .eql (by simp) _ _ _ _ _ _ _ rfl rfl rfl ?_; try simp only [*]) | (refine wpList_cmp _ rfl .leq (by simp) _ _ _ _ _ _ _ rfl rfl rfl ?_; try simp only [*]) | (refine wpList_neg _ rfl _ _ _ _ rfl rfl ?_; intro r hr)))
          go_loopw [8, 9] (fun q k wr => ∃ (tt r m : Nat), tt ≤ 13 ∧ k = .int .i64 (25 - 2 * (tt : Int)) ∧ q = .float .f64 r ∧ can .f64 r = tenQ (fop .mul .f64 (tenS z) (tenS z)) tt ∧ wr = w.drewN m) (fun _ k _ => (intOf k + 2).toNat)
          case atStart => exact ⟨0, _, _, by omega, rfl, rfl, c0, rfl⟩
          case round =>
            obtain ⟨tt, q, m, hn, rfl, rfl, hp, rfl⟩ := hrel
            by_cases hlt : tt < 13
            · have hge : (1 : Int) ≤ 25 - 2 * (tt : Int) := by omega
              go_wp2_with ((first | (refine wpList_fl _ rfl .add (by simp) _ _ _ _ _ _ _ rfl rfl rfl ?_; intro r n hr) | (refine wpList_fl _ rfl .sub (by simp) _ _ _ _ _ _ _ rfl rfl rfl ?_; intro r n hr) | (refine wpList_fl _ rfl .mul (by simp) _ _ _ _ _ _ _ rfl rfl rfl ?_; intro r n hr) | (refine wpList_fl _ rfl .quo (by simp) _ _ _ _ _ _ _ rfl rfl rfl ?_; intro r n hr) | (refine wpList_cmp _ rfl .lss (by simp) _ _ _ _ _ _ _ rfl rfl rfl ?_; try simp only [*]) | (refine wpList_cmp _ rfl .geq (by simp) _ _ _ _ _ _ _ rfl rfl rfl ?_; try simp only [*]) | (refine wpList_cmp _ rfl .gtr (by simp) _ _ _ _ _ _ _ rfl rfl rfl ?_; try simp only [*]) | (refine wpList_cmp _ rfl .neq (by simp) _ _ _ _ _ _ _ rfl rfl rfl ?_; try simp only [*]) | (refine wpList_cmp _ rfl .eql (by simp) _ _ _ _ _ _ _ rfl rfl rfl ?_; try simp only [*]) | (refine wpList_cmp _ rfl .leq (by simp) _ _ _ _ _ _ _ rfl rfl rfl ?_; try simp only [*]) | (refine wpList_neg _ rfl _ _ _ _ rfl rfl ?_; intro r hr)))
              go_roundw
              case rel => exact ⟨tt + 1, _, _, by omega, by go_num, rfl, by simp only [tenQ, tenS, wOne, *], rfl⟩
              case measure => simp [intOf]; omega
            · obtain rfl : tt = 13 := by omega
              go_wp2_with (first | (go_at_call 61; refine (mathFloor2 _ (tenR z E) (by simp only [tenR, tenL, tenS, wOne, wTwo, wLn2, wDb, wHalf, *]) HFZ.out _).mono ?_; rintro e w' ⟨rfl, rfl⟩) | (first | (refine wpList_fl _ rfl .add (by simp) _ _ _ _ _ _ _ rfl rfl rfl ?_; intro r n hr) | (refine wpList_fl _ rfl .sub (by simp) _ _ _ _ _ _ _ rfl rfl rfl ?_; intro r n hr) | (refine wpList_fl _ rfl .mul (by simp) _ _ _ _ _ _ _ rfl rfl rfl ?_; intro r n hr) | (refine wpList_fl _ rfl .quo (by simp) _ _ _ _ _ _ _ rfl rfl rfl ?_; intro r n hr) | (refine wpList_cmp _ rfl .lss (by simp) _ _ _ _ _ _ _ rfl rfl rfl ?_; try simp only [*]) | (refine wpList_cmp _ rfl .geq (by simp) _ _ _ _ _ _ _ rfl rfl rfl ?_; try simp only [*]) | (refine wpList_cmp _ rfl .gtr (by simp) _ _ _ _ _ _ _ rfl rfl rfl ?_; try simp only [*]) | (refine wpList_cmp _ rfl .neq (by simp) _ _ _ _ _ _ _ rfl rfl rfl ?_; try simp only [*]) | (refine wpList_cmp _ rfl .eql (by simp) _ _ _ _ _ _ _ rfl rfl rfl ?_; try simp only [*]) | (refine wpList_cmp _ rfl .leq (by simp) _ _ _ _ _ _ _ rfl rfl rfl ?_; try simp only [*]) | (refine wpList_neg _ rfl _ _ _ _ rfl rfl ?_; intro r hr)))
              go_ret2
              exact ⟨z, E, _, HN.out, rfl, rfl⟩
end Go.Proofs.Ythbinacchpjkmaa.Wk
