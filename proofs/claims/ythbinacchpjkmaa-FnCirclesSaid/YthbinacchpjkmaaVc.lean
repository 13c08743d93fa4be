/- The walk of tenths of decibels: the reference's; the law. -/
import Derived.Test.YthbinacchpjkmaaVb
set_option linter.unusedSimpArgs false
set_option linter.unusedVariables false
namespace Go.Proofs.Ythbinacchpjkmaa.Wk
open Go.RowKit Fl

theorem notInf (x : Nat) (ho : FloatKind.f64.format.order x 9218868437227405311 = some .lt) (w : World) : Calls Try.prog 83 #[.float .f64 x, .int .i64 1] w fun e w' => e = .returned (.bool false) ∧ w = w' := by
  go_enter Try.func83, Try.ntmps83
  go_wp2
  go_ret
  exact ⟨rfl, rfl⟩
theorem nrm_right {x i j : Nat} (hx : Pos x) (hH : ExH x i) (hs : cmpF .geq .f64 (hlvN x i) w15 = false) (hD : ExD (hlvN x i) j) (he : cmpF .lss .f64 (dblN (hlvN x i) j) w75 = false) (hij : 0 < i → j = 0) : Nrm x (dblN (hlvN x i) j) (eI ((i : Int) - (j : Int))) := by
  rcases Nat.eq_zero_or_pos i with h | h
  · subst h
    rcases Nat.eq_zero_or_pos j with h2 | h2
    · subst h2
      exact .inr ⟨he, 0, ExH.zero _, hs, rfl, by congr 1⟩
    · exact .inl ⟨j, h2, hD, he, rfl, by congr 1; try omega⟩
  · obtain rfl := hij h
    exact .inr ⟨hlv_big hx hH h, i, hH, hs, rfl, by congr 1; try omega⟩
def RLg (x0 : Nat) (w : World) (e : Ending) (w' : World) : Prop := ∃ z E r m, Nrm x0 z E ∧ e = .returned (.float .f64 r) ∧ can .f64 r = tenL z E ∧ w' = w.drewN m
set_option maxRecDepth 100000 in
set_option maxHeartbeats 8000000 in
theorem specLogWide (x0 : Nat) (hx : Pos x0) (w : World) : Calls Try.prog 77 #[.float .f64 x0] w (RLg x0 w) := by
  have hP : (0 : Int) < (P 925 : Int) := by exact_mod_cast P_pos _
  have hmax : sV D 9218868437227405311 = (P 2098 : Int) - (P 2045 : Int) := by decide +kernel
  have o1 : FloatKind.f64.format.order x0 x0 = some .eq := by rw [order_self, fin_not_nan (k := .f64) hx.2.1]; rfl
  have o2 : FloatKind.f64.format.order x0 0 = some .gt := by
    rw [order_eq_iff hx.2.1, if_neg (by have := hx.2.2.1; omega), if_neg (by have := hx.2.2.1; omega)]
  have o3 : FloatKind.f64.format.order x0 9218868437227405311 = some .lt := by
    rw [show FloatKind.f64.format.order x0 9218868437227405311 = _ from order_fin D hx.2.1 (fin64 (by decide)), hmax]
    simp only [compare, compareOfLessAndEq]
    rw [if_pos]
    have h1 := hx.2.2.2
    have h2 : P 1202 < P 2098 - P 2045 := by decide +kernel
    omega
  have HI := Lib.hid (fun w => notInf x0 o3 w)
  have k0 := c0
  have k1 := cOne
  have k2 := cHalf
  have k3 := cTwo
  have k4 := c75
  have k5 := c15
  have k6 := cLn2
  have k7 := cDb
  have hwc := fin_can hx.2.1
  have HX := Lib.hid hx
  clear hx hP hmax o3
  go_enter Try.func77, Try.ntmps77
  go_wp2_with (first | (go_at_call 83; refine (HI.out _).mono ?_; rintro e w' ⟨rfl, rfl⟩))
  go_loopw [0, 3] (fun x e wr => ∃ (i m : Nat), i ≤ 150 ∧ x = .float .f64 (hlvN x0 i) ∧ e = .int .i64 (i : Int) ∧ Hid (ExH x0 i) ∧ wr = w.drewN m) (fun x _ _ => meH x)
  case atStart => exact ⟨0, 0, by omega, rfl, rfl, ExH.zero _, rfl⟩
  case round =>
    obtain ⟨i, m, hi, rfl, rfl, hH, rfl⟩ := hrel
    obtain ⟨g0, g1, g2, g3, g4, g5⟩ := hlv_at HX.out i hH.out
    have hc1 := fin_can g1
    have G1 := Lib.hid g1
    clear g0 g1 g2 g3 g4 g5
    by_cases hc : cmpF .geq .f64 (hlvN x0 i) 4609434218613702656 = true
    · have hH2 := Lib.hid (hH.out.succ hc)
      have hi2 := (hlv_at HX.out (i + 1) hH2.out).2.2.2.1
      have hN : Hid (hlvN x0 (i + 1) = fop .quo .f64 (hlvN x0 i) 4611686018427387904) := rfl
      have hfn := Lib.hid (hlv_at HX.out (i + 1) hH2.out).2.1
      have hbig : Hid ((P 1074 : Int) ≤ sV D (hlvN x0 i)) := by
        show _ ≤ _
        have hg := hc
        rw [show (4609434218613702656 : Nat) = w15 from rfl, geq15 G1.out] at hg
        have h6 : 6 * (P 1072 : Int) ≤ sV D (hlvN x0 i) := by simpa using hg
        have := P72
        have := P_pos 1072
        omega
      go_wp2_with ((first | (refine wpList_fl _ rfl .add (by simp) _ _ _ _ _ _ _ rfl rfl rfl ?_; intro r n hr) | (refine wpList_fl _ rfl .sub (by simp) _ _ _ _ _ _ _ rfl rfl rfl ?_; intro r n hr) | (refine wpList_fl _ rfl .mul (by simp) _ _ _ _ _ _ _ rfl rfl rfl ?_; intro r n hr) | (refine wpList_fl _ rfl .quo (by simp) _ _ _ _ _ _ _ rfl rfl rfl ?_; intro r n hr) | (refine wpList_cmp _ rfl .lss (by simp) _ _ _ _ _ _ _ rfl rfl rfl ?_; try simp only [*]) | (refine wpList_cmp _ rfl .geq (by simp) _ _ _ _ _ _ _ rfl rfl rfl ?_; try simp only [*]) | (refine wpList_cmp _ rfl .gtr (by simp) _ _ _ _ _ _ _ rfl rfl rfl ?_; try simp only [*]) | (refine wpList_cmp _ rfl .neq (by simp) _ _ _ _ _ _ _ rfl rfl rfl ?_; try simp only [*]) | (refine wpList_cmp _ rfl .eql (by simp) _ _ _ _ _ _ _ rfl rfl rfl ?_; try simp only [*]) | (refine wpList_cmp _ rfl .leq (by simp) _ _ _ _ _ _ _ rfl rfl rfl ?_; try simp only [*]) | (refine wpList_neg _ rfl _ _ _ _ rfl rfl ?_; intro r hr)))
      go_roundw
      case rel =>
        refine ⟨i + 1, _, hi2, ?_, by go_num, hH2.out, rfl⟩
        congr 1; refine raw_eq ?_ hfn.out; rw [hN.out]; simp only [*]
      case measure =>
        rename_i r1 n1 hr1
        have e1 : r = hlvN x0 (i + 1) := raw_eq (by rw [hr, hN.out]; simp only [*]) hfn.out
        rw [e1, hN.out]
        exact meH_lt G1.out hbig.out
    · simp only [Bool.not_eq_true] at hc
      have HST := Lib.hid hc
      go_wp2_with ((first | (refine wpList_fl _ rfl .add (by simp) _ _ _ _ _ _ _ rfl rfl rfl ?_; intro r n hr) | (refine wpList_fl _ rfl .sub (by simp) _ _ _ _ _ _ _ rfl rfl rfl ?_; intro r n hr) | (refine wpList_fl _ rfl .mul (by simp) _ _ _ _ _ _ _ rfl rfl rfl ?_; intro r n hr) | (refine wpList_fl _ rfl .quo (by simp) _ _ _ _ _ _ _ rfl rfl rfl ?_; intro r n hr) | (refine wpList_cmp _ rfl .lss (by simp) _ _ _ _ _ _ _ rfl rfl rfl ?_; try simp only [*]) | (refine wpList_cmp _ rfl .geq (by simp) _ _ _ _ _ _ _ rfl rfl rfl ?_; try simp only [*]) | (refine wpList_cmp _ rfl .gtr (by simp) _ _ _ _ _ _ _ rfl rfl rfl ?_; try simp only [*]) | (refine wpList_cmp _ rfl .neq (by simp) _ _ _ _ _ _ _ rfl rfl rfl ?_; try simp only [*]) | (refine wpList_cmp _ rfl .eql (by simp) _ _ _ _ _ _ _ rfl rfl rfl ?_; try simp only [*]) | (refine wpList_cmp _ rfl .leq (by simp) _ _ _ _ _ _ _ rfl rfl rfl ?_; try simp only [*]) | (refine wpList_neg _ rfl _ _ _ _ rfl rfl ?_; intro r hr)))
      go_simp
      go_loopw [0, 3] (fun x e wr => ∃ (j m : Nat), j ≤ 150 ∧ x = .float .f64 (dblN (hlvN x0 i) j) ∧ e = .int .i64 ((i : Int) - (j : Int)) ∧ Hid (ExD (hlvN x0 i) j) ∧ Hid (0 < i → j = 0) ∧ wr = w.drewN m) (fun x _ _ => meD x)
      case atStart => exact ⟨0, _, by omega, rfl, by congr 1; try omega, ExD.zero _, fun _ => rfl, rfl⟩
      case round =>
        obtain ⟨j, m, hj, rfl, rfl, hD, hij, rfl⟩ := hrel
        have hvals : Hid (dblN (hlvN x0 i) j < 2 ^ 64 ∧ fin D (dblN (hlvN x0 i) j) ∧ sV D (dblN (hlvN x0 i) j) ≤ (P 1202 : Int)) := by
          rcases Nat.eq_zero_or_pos i with h0 | h0
          · subst h0
            obtain ⟨q0, q1, q2, q3, q4, q5⟩ := dbl_at HX.out j hD.out
            exact ⟨q0, q1, q3⟩
          · have hi0 := hij.out h0
            subst hi0
            obtain ⟨q0, q1, q2, q3, q4, q5⟩ := hlv_at HX.out i hH.out
            exact ⟨q0, q1, q5⟩
        have hcz := fin_can hvals.out.2.1
        by_cases hg : cmpF .lss .f64 (dblN (hlvN x0 i) j) 4604930618986332160 = true
        · have hi0 : i = 0 := by
            rcases Nat.eq_zero_or_pos i with h0 | h0
            · exact h0
            · exfalso
              have hj0 := hij.out h0
              subst hj0
              have hst := hlv_stop HX.out hH.out h0
              rw [show dblN (hlvN x0 i) 0 = hlvN x0 i from rfl] at hg
              rw [show cmpF .lss .f64 (hlvN x0 i) 4604930618986332160 = false from hst] at hg
              cases hg
          have hD2 := Lib.hid (hD.out.succ hg)
          have hN : Hid (dblN (hlvN x0 i) (j + 1) = fop .mul .f64 (dblN (hlvN x0 i) j) 4611686018427387904) := rfl
          have hD3 : ExD x0 (j + 1) := by have h := hD2.out; rw [hi0] at h; exact h
          obtain ⟨p0, p1, p2, p3, p4, p5⟩ := dbl_at HX.out (j + 1) hD3
          have hfn : Hid (fin D (dblN (hlvN x0 i) (j + 1))) := by show fin D _; rw [hi0]; exact p1
          have hlow : Hid ((P 925 : Int) ≤ sV D (dblN (hlvN x0 i) j)) := by
            show _ ≤ _
            rw [hi0]
            have hD4 : ExD x0 j := by have h := hD.out; rw [hi0] at h; exact h
            rw [show hlvN x0 0 = x0 from rfl, (dbl_at HX.out j hD4).2.2.1]
            have h9 : (1 : Int) ≤ ((P j : Nat) : Int) := by exact_mod_cast P_pos j
            have h8 := HX.out.2.2.1
            have h7 : (0 : Int) < (P 925 : Int) := by exact_mod_cast P_pos _
            have := Int.mul_le_mul_of_nonneg_right h9 (show (0 : Int) ≤ sV D x0 by omega)
            omega
          have hij2 : Hid (0 < i → j + 1 = 0) := fun h => by omega
          have hp4 := p4
          clear p0 p1 p2 p3 p4 p5 hD3 hi0
          go_wp2_with ((first | (refine wpList_fl _ rfl .add (by simp) _ _ _ _ _ _ _ rfl rfl rfl ?_; intro r n hr) | (refine wpList_fl _ rfl .sub (by simp) _ _ _ _ _ _ _ rfl rfl rfl ?_; intro r n hr) | (refine wpList_fl _ rfl .mul (by simp) _ _ _ _ _ _ _ rfl rfl rfl ?_; intro r n hr) | (refine wpList_fl _ rfl .quo (by simp) _ _ _ _ _ _ _ rfl rfl rfl ?_; intro r n hr) | (refine wpList_cmp _ rfl .lss (by simp) _ _ _ _ _ _ _ rfl rfl rfl ?_; try simp only [*]) | (refine wpList_cmp _ rfl .geq (by simp) _ _ _ _ _ _ _ rfl rfl rfl ?_; try simp only [*]) | (refine wpList_cmp _ rfl .gtr (by simp) _ _ _ _ _ _ _ rfl rfl rfl ?_; try simp only [*]) | (refine wpList_cmp _ rfl .neq (by simp) _ _ _ _ _ _ _ rfl rfl rfl ?_; try simp only [*]) | (refine wpList_cmp _ rfl .eql (by simp) _ _ _ _ _ _ _ rfl rfl rfl ?_; try simp only [*]) | (refine wpList_cmp _ rfl .leq (by simp) _ _ _ _ _ _ _ rfl rfl rfl ?_; try simp only [*]) | (refine wpList_neg _ rfl _ _ _ _ rfl rfl ?_; intro r hr)))
          go_roundw
          case rel =>
            refine ⟨j + 1, _, hp4, ?_, by go_num, hD2.out, hij2.out, rfl⟩
            congr 1; refine raw_eq ?_ hfn.out; rw [hN.out]; simp only [*]
          case measure =>
            have e1 : r = dblN (hlvN x0 i) (j + 1) := raw_eq (by rw [hr, hN.out]; simp only [*]) hfn.out
            rw [e1, hN.out]
            exact meD_lt hvals.out.2.1 hlow.out hvals.out.2.2
        · simp only [Bool.not_eq_true] at hg
          have HN := Lib.hid (nrm_right HX.out hH.out HST.out hD.out hg hij.out)
          have hE : can .f64 (floatOfInt .f64 ((i : Int) - (j : Int))) = eI ((i : Int) - (j : Int)) := rfl
          clear hvals hH hij hD HST G1 hc hc1
          generalize dblN (hlvN x0 i) j = z at *
          generalize hEE : eI ((i : Int) - (j : Int)) = E at *
          clear hEE
          go_wp2_with ((first | (refine wpList_fl _ rfl .add (by simp) _ _ _ _ _ _ _ rfl rfl rfl ?_; intro r n hr) | (refine wpList_fl _ rfl .sub (by simp) _ _ _ _ _ _ _ rfl rfl rfl ?_; intro r n hr) | (refine wpList_fl _ rfl .mul (by simp) _ _ _ _ _ _ _ rfl rfl rfl ?_; intro r n hr) | (refine wpList_fl _ rfl .quo (by simp) _ _ _ _ _ _ _ rfl rfl rfl ?_; intro r n hr) | (refine wpList_cmp _ rfl .lss (by simp) _ _ _ _ _ _ _ rfl rfl rfl ?_; try simp only [*]) | (refine wpList_cmp _ rfl .geq (by simp) _ _ _ _ _ _ _ rfl rfl rfl ?_; try simp only [*]) | (refine wpList_cmp _ rfl .gtr (by simp) _ _ _ _ _ _ _ rfl rfl rfl ?_; try simp only [*]) | (refine wpList_cmp _ rfl .neq (by simp) _ _ _ _ _ _ _ rfl rfl rfl ?_; try simp only [*]) | (refine wpList_cmp _ rfl .eql (by simp) _ _ _ _ _ _ _ rfl rfl rfl ?_; try simp only [*]) | (refine wpList_cmp _ rfl .leq (by simp) _ _ _ _ _ _ _ rfl rfl rfl ?_; try simp only [*]) | (refine wpList_neg _ rfl _ _ _ _ rfl rfl ?_; intro r hr)))
          go_simp
          go_loopw [6, 7] (fun q k wr => ∃ (tt r m : Nat), tt ≤ 13 ∧ k = .int .i64 (25 - 2 * (tt : Int)) ∧ q = .float .f64 r ∧ can .f64 r = tenQ (fop .mul .f64 (tenS z) (tenS z)) tt ∧ wr = w.drewN m) (fun _ k _ => (intOf k + 2).toNat)
          case atStart => exact ⟨0, _, _, by omega, rfl, rfl, c0, rfl⟩
          case round =>
            obtain ⟨tt, q, m, hn, rfl, rfl, hp, rfl⟩ := hrel
            by_cases hlt : tt < 13
            · have hge : (1 : Int) ≤ 25 - 2 * (tt : Int) := by omega
              go_wp2_with ((first | (refine wpList_fl _ rfl .add (by simp) _ _ _ _ _ _ _ rfl rfl rfl ?_; intro r n hr) | (refine wpList_fl _ rfl .sub (by simp) _ _ _ _ _ _ _ rfl rfl rfl ?_; intro r n hr) | (refine wpList_fl _ rfl .mul (by simp) _ _ _ _ _ _ _ rfl rfl rfl ?_; intro r n hr) | (refine wpList_fl _ rfl .quo (by simp) _ _ _ _ _ _ _ rfl rfl rfl ?_; intro r n hr) | (refine wpList_cmp _ rfl .lss (by simp) _ _ _ _ _ _ _ rfl rfl rfl ?_; try simp only [*]) | (refine wpList_cmp _ rfl .geq (by simp) _ _ _ _ _ _ _ rfl rfl rfl ?_; try simp only [*]) | (refine wpList_cmp _ rfl .gtr (by simp) _ _ _ _ _ _ _ rfl rfl rfl ?_; try simp only [*]) | (refine wpList_cmp _ rfl .neq (by simp) _ _ _ _ _ _ _ rfl rfl rfl ?_; try simp only [*]) | (refine wpList_cmp _ rfl .eql (by simp) _ _ _ _ _ _ _ rfl rfl rfl ?_; try simp only [*]) | (refine wpList_cmp _ rfl .leq (by simp) _ _ _ _ _ _ _ rfl rfl rfl ?_; try simp only [*]) | (refine wpList_neg _ rfl _ _ _ _ rfl rfl ?_; intro r hr)))
              go_roundw
              case rel => exact ⟨tt + 1, _, _, by omega, by go_num, rfl, by simp only [tenQ, tenS, wOne, *], rfl⟩
              case measure => simp [intOf]; omega
            · obtain rfl : tt = 13 := by omega
              go_wp2_with ((first | (refine wpList_fl _ rfl .add (by simp) _ _ _ _ _ _ _ rfl rfl rfl ?_; intro r n hr) | (refine wpList_fl _ rfl .sub (by simp) _ _ _ _ _ _ _ rfl rfl rfl ?_; intro r n hr) | (refine wpList_fl _ rfl .mul (by simp) _ _ _ _ _ _ _ rfl rfl rfl ?_; intro r n hr) | (refine wpList_fl _ rfl .quo (by simp) _ _ _ _ _ _ _ rfl rfl rfl ?_; intro r n hr) | (refine wpList_cmp _ rfl .lss (by simp) _ _ _ _ _ _ _ rfl rfl rfl ?_; try simp only [*]) | (refine wpList_cmp _ rfl .geq (by simp) _ _ _ _ _ _ _ rfl rfl rfl ?_; try simp only [*]) | (refine wpList_cmp _ rfl .gtr (by simp) _ _ _ _ _ _ _ rfl rfl rfl ?_; try simp only [*]) | (refine wpList_cmp _ rfl .neq (by simp) _ _ _ _ _ _ _ rfl rfl rfl ?_; try simp only [*]) | (refine wpList_cmp _ rfl .eql (by simp) _ _ _ _ _ _ _ rfl rfl rfl ?_; try simp only [*]) | (refine wpList_cmp _ rfl .leq (by simp) _ _ _ _ _ _ _ rfl rfl rfl ?_; try simp only [*]) | (refine wpList_neg _ rfl _ _ _ _ rfl rfl ?_; intro r hr)))
              go_ret
              exact ⟨z, E, _, _, HN.out, rfl, by simp only [tenL, tenS, wOne, wTwo, wLn2, *], rfl⟩
end Go.Proofs.Ythbinacchpjkmaa.Wk
