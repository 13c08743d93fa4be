/- The law of circles. -/
import Derived.Test.YthbinacchpjkmaaCe
import Derived.Test.YthbinacchpjkmaaSq
set_option linter.unusedSimpArgs false
set_option linter.unusedVariables false
namespace Go.Proofs.Ythbinacchpjkmaa.Wk
open Go.RowKit Fl

theorem angle_at {k : Nat} (hk : k < 64) (w : World) : Calls Try.prog 35 #[.complex .f32 (PR k) (PI k)] w fun e w' => e = .returned (.float .f32 (AN k)) ∧ Below w.heap.size w w' := by
  obtain ⟨f1, f2, f3, _⟩ := k_words hk
  have h := all_lt an_ok hk
  unfold anOK at h
  simp only [Bool.and_eq_true, beq_iff_eq, Bool.not_eq_true', Bool.and_eq_false_iff, decide_eq_false_iff_not] at h
  have hv : angleT (PI k) (PR k) = AN k := by
    unfold angleT
    rw [finB_fin f1, finB_fin f2, if_pos (by rfl), if_neg (fun c => by rcases h.2 with g | g; exact g c.1; exact g c.2)]
    exact h.1
  have HA := Lib.hid (fun u => implAngle (PI k) (PR k) u)
  rw [hv] at HA
  have HF := Lib.hid f3
  clear h hv f1 f2 f3
  generalize PR k = x at *
  generalize PI k = y at *
  generalize AN k = v at *
  go_enter Try.func35, Try.ntmps35
  go_wp2_with fail
  refine (HA.out _).mono ?_; rintro e w' ⟨r, rfl, hr, hb⟩
  obtain rfl := raw_eqS hr HF.out
  have HB := Lib.hid hb
  clear hb hr
  go_wp2
  go_ret
  exact ⟨rfl, HB.out⟩
theorem angle_i (w : World) : Calls Try.prog 35 #[.complex .f32 0 1065353216] w fun e w' => e = .returned (.float .f32 1048576000) ∧ Below w.heap.size w w' := angle_at (k := 16) (by omega) w
theorem ten_one (w : World) : Calls Try.prog 29 #[.float .f32 1065353216] w fun e w' => e = .returned (.tuple #[.int .i64 0, .bool true]) ∧ ∃ n, w' = w.drewN n := by
  obtain ⟨i, hi, h1, h2⟩ : ∃ i, tenIV 1 0 = some i ∧ 0 ≤ i.1 ∧ i.2 < 16777216 := ⟨_, (by decide +kernel : tenIV 1 0 = some (8388608, 8388869)), by decide, by decide⟩
  refine (ten_at (c := 0) (K := 1) (fin32 (by decide)) (by decide +kernel) (by omega) (by omega) hi w).mono ?_
  rintro e w' ⟨m, rfl, u1, u2, _, _, n, rfl⟩
  have : m = 0 := by omega
  subst this
  exact ⟨rfl, n, rfl⟩
theorem wpList_toint {P : Program} {ops : Array Oper} {rest : List Oper} {o : Oper} {a : Act} {Q : Exit → Act → World → Prop} (w : World) (hgd : o.guard = none) (t t2 : TypeId) (X : Operand) (x v : Nat) (ho : o.op = .convert t t2 X) (hx : a.eval X = .float .f64 x)
    (hs : (P.underlying t).isSome = true) (hd : P.underlying t2 = some (.int .i64)) (hc : can .f64 x = v) (hf : fin D v) (hw : cutW v ≤ Fl.P 52)
    (h : wpList P ops Q rest (a.put o.dst (.int .i64 (Fl.toI v))) w) : wpList P ops Q (o :: rest) a w := by
  obtain rfl := raw_eq hc hf
  refine wpList_plain hgd fun K hK => wp_of_ok w (v := .int .i64 (Fl.toI x)) (w' := w) ?_ (hK _ _ h)
  have e := run_convert_float_int (P := P) w t t2 .f64 .i64 x (Fl.toI x) hs hd (trunc_int hf hw)
  generalize a.eval = ev at hx ⊢
  simp [execOp, ho, hx, go_sem, e]
theorem tu_facts (a : Int) (h0 : -128 ≤ a) (h1 : a ≤ 127) : fin D (tuA a) ∧ fin D (whA a) ∧ cutW (whA a) ≤ 20000 ∧ (whN a - 10000).natAbs ≤ 300 ∧ Int.tmod (whN a - 10000) 64 = 0 ∧ fin D (gapF (tuA a) (eN (whN a - 10000))) ∧ FloatKind.f64.format.order (gapF (tuA a) (eN (whN a - 10000))) w3 = some .lt := by
  have h := all_lt tu_ok (k := (a + 128).toNat) (by omega)
  have e : (((a + 128).toNat : Nat) - 128 : Int) = a := by omega
  unfold tuOK at h
  rw [e] at h
  simp only [Bool.and_eq_true, decide_eq_true_eq, beq_iff_eq] at h
  exact ⟨finB64 h.1.1.1.1.1.1, finB64 h.1.1.1.1.1.2, h.1.1.1.1.2, h.1.1.1.2, h.1.1.2, finB64 h.1.2, h.2⟩
theorem eN_fin (n : Int) (h0 : -300 ≤ n) (h1 : n ≤ 300) : fin D (floatOfInt .f64 n) := by
  have h : ∀ i : Fin 601, decide (floatOfInt .f64 ((i : Nat) - 300 : Int) % 9223372036854775808 < 9218868437227405312) = true := by decide +kernel
  have := h ⟨(n + 300).toNat, by omega⟩
  have e : (((n + 300).toNat : Nat) - 300 : Int) = n := by omega
  dsimp only at this
  rw [e] at this
  exact fin64 (by simpa using this)
theorem pw_facts {k : Nat} (hk : k < 64) : fin D (gapF (wideF (PW k)) wOne) ∧ FloatKind.f64.format.order (gapF (wideF (PW k)) wOne) w4 = some .lt := by
  have h := all_lt pw_ok hk
  unfold pwOK at h
  simp only [Bool.and_eq_true, beq_iff_eq] at h
  exact ⟨finB64 h.1.2, h.2⟩
theorem re_facts {k : Nat} (hk : k < 64) (h16 : k % 16 = 0) : fin D (gapF (wideF (PR k)) 0) ∧ (FloatKind.f64.format.order (gapF (wideF (PR k)) 0) 0 = some .eq ∨ (FloatKind.f64.format.order (gapF (wideF (PR k)) 0) wOne = some .eq ∧ FloatKind.f64.format.order (gapF (wideF (PR k)) 0) 0 = some .gt)) := by
  have h := all_lt re_ok (k := k / 16) (by omega)
  have e : 16 * (k / 16) = k := by omega
  unfold reOK at h
  rw [e] at h
  simp only [Bool.and_eq_true, Bool.or_eq_true, beq_iff_eq] at h
  exact ⟨finB64 h.1, h.2⟩
theorem whN_small (a : Int) (h0 : -128 ≤ a) (h1 : a ≤ 127) : -20000 ≤ whN a ∧ whN a ≤ 20000 := by
  have := (tu_facts a h0 h1).2.2.1
  unfold whN Fl.toI
  split <;> omega
theorem cW64 : can .f64 4634204016564240384 = 4634204016564240384 := by decide +kernel
theorem cBig : can .f64 4666723447345250304 = 4666723447345250304 := by decide +kernel
theorem c8S : can .f32 1090519040 = 1090519040 := by decide +kernel
/-- a's phasor is called: what the quotient is. -/
theorem eT_raw {r : Nat} (a : Int) (h0 : -256 ≤ a) (h1 : a ≤ 254) (hr : can .f64 r = fop .quo .f64 (can .f64 (floatOfInt .f64 a)) (can .f64 4634204016564240384)) : r = eT a := by
  refine raw_eq ?_ (pt_facts a h0 h1).1
  rw [hr, cW64]; rfl
set_option maxRecDepth 100000 in
set_option maxHeartbeats 16000000 in
theorem circ_law (v1 v2 : Value) (n1 n2 : Nat) (f1 f2 : Nat → Int) (w : World) (hR1 : RowB w v1 n1 f1) (hR2 : RowB w v2 n2 f2) :
    Calls Try.prog 12 #[v1, v2] w fun e w' => e = .returned (.bool true) ∧ Below w.heap.size w w' := by
  have H1 := Lib.hid hR1
  have H2 := Lib.hid hR2
  by_cases hlong : (decide (1048576 < n1) || decide (1048576 < n2)) = true
  · have HL := Lib.hid (fun u (a : RowB u v1 n1 f1) (b : RowB u v2 n2 f2) => longOf v1 v2 n1 n2 f1 f2 u a b true hlong.symm)
    clear hlong hR1 hR2
    go_enter Try.func12, Try.ntmps12
    go_wp2_with fail
    refine (HL.out _ H1.out H2.out).mono ?_; rintro e w' ⟨rfl, rfl⟩
    go_wp2_with fail
    go_ret
    exact ⟨rfl, Below.refl _ _⟩
  simp only [Bool.not_eq_true] at hlong
  have HL := Lib.hid (fun u (a : RowB u v1 n1 f1) (b : RowB u v2 n2 f2) => longOf v1 v2 n1 n2 f1 f2 u a b false hlong.symm)
  have HA1 := Lib.hid (fun u (a : RowB u v1 n1 f1) => atOf v1 n1 f1 0 256 (.inl rfl) (.inl rfl) u a)
  have HA2 := Lib.hid (fun u (a : RowB u v1 n1 f1) => atOf v1 n1 f1 1 256 (.inr rfl) (.inl rfl) u a)
  have HA3 := Lib.hid (fun u (a : RowB u v2 n2 f2) => atOf v2 n2 f2 0 200 (.inl rfl) (.inr rfl) u a)
  have HA4 := Lib.hid (fun u (a : RowB u v2 n2 f2) => atOf v2 n2 f2 1 200 (.inr rfl) (.inr rfl) u a)
  clear hlong hR1 hR2
  go_enter Try.func12, Try.ntmps12
  go_wp2_with fail
  refine (HL.out _ H1.out H2.out).mono ?_; rintro e w' ⟨rfl, rfl⟩
  go_wp2_with fail
  refine (HA1.out _ H1.out).mono ?_; rintro e w' ⟨A0, a1, a2, rfl, rfl⟩
  go_wp2_with fail
  refine (HA2.out _ H1.out).mono ?_; rintro e w' ⟨B0, b1, b2, rfl, rfl⟩
  obtain ⟨A, hA⟩ : ∃ A : Int, A = A0 - 128 := ⟨_, rfl⟩
  obtain ⟨B, hB⟩ : ∃ B : Int, B = B0 - 128 := ⟨_, rfl⟩
  obtain rfl : A0 = A + 128 := by omega
  obtain rfl : B0 = B + 128 := by omega
  clear hA hB
  have hA0 : -128 ≤ A := by omega
  have hA1 : A ≤ 127 := by omega
  have hB0 : -128 ≤ B := by omega
  have hB1 : B ≤ 127 := by omega
  have eA : A + 128 - 128 = A := by omega
  have eB : B + 128 - 128 = B := by omega
  clear a1 a2 b1 b2
  go_wp2_with ((first | (refine wpList_fl _ rfl .add (by simp) _ _ _ _ _ _ _ rfl rfl rfl ?_; intro r n hr) | (refine wpList_fl _ rfl .sub (by simp) _ _ _ _ _ _ _ rfl rfl rfl ?_; intro r n hr) | (refine wpList_fl _ rfl .mul (by simp) _ _ _ _ _ _ _ rfl rfl rfl ?_; intro r n hr) | (refine wpList_fl _ rfl .quo (by simp) _ _ _ _ _ _ _ rfl rfl rfl ?_; intro r n hr) | (refine wpList_cmp _ rfl .lss (by simp) _ _ _ _ _ _ _ rfl rfl rfl ?_; try simp only [*]) | (refine wpList_cmp _ rfl .geq (by simp) _ _ _ _ _ _ _ rfl rfl rfl ?_; try simp only [*]) | (refine wpList_cmp _ rfl .gtr (by simp) _ _ _ _ _ _ _ rfl rfl rfl ?_; try simp only [*]) | (refine wpList_cmp _ rfl .neq (by simp) _ _ _ _ _ _ _ rfl rfl rfl ?_; try simp only [*]) | (refine wpList_cmp _ rfl .eql (by simp) _ _ _ _ _ _ _ rfl rfl rfl ?_; try simp only [*]) | (refine wpList_cmp _ rfl .leq (by simp) _ _ _ _ _ _ _ rfl rfl rfl ?_; try simp only [*]) | (refine wpList_neg _ rfl _ _ _ _ rfl rfl ?_; intro r hr)))
  obtain rfl := eT_raw A (by omega) (by omega) hr
  refine (phasor_at A (by omega) (by omega) _).mono ?_; rintro e w' ⟨rfl, m1, rfl⟩
  go_wp2_with ((first | (refine wpList_fl _ rfl .add (by simp) _ _ _ _ _ _ _ rfl rfl rfl ?_; intro r n hr) | (refine wpList_fl _ rfl .sub (by simp) _ _ _ _ _ _ _ rfl rfl rfl ?_; intro r n hr) | (refine wpList_fl _ rfl .mul (by simp) _ _ _ _ _ _ _ rfl rfl rfl ?_; intro r n hr) | (refine wpList_fl _ rfl .quo (by simp) _ _ _ _ _ _ _ rfl rfl rfl ?_; intro r n hr) | (refine wpList_cmp _ rfl .lss (by simp) _ _ _ _ _ _ _ rfl rfl rfl ?_; try simp only [*]) | (refine wpList_cmp _ rfl .geq (by simp) _ _ _ _ _ _ _ rfl rfl rfl ?_; try simp only [*]) | (refine wpList_cmp _ rfl .gtr (by simp) _ _ _ _ _ _ _ rfl rfl rfl ?_; try simp only [*]) | (refine wpList_cmp _ rfl .neq (by simp) _ _ _ _ _ _ _ rfl rfl rfl ?_; try simp only [*]) | (refine wpList_cmp _ rfl .eql (by simp) _ _ _ _ _ _ _ rfl rfl rfl ?_; try simp only [*]) | (refine wpList_cmp _ rfl .leq (by simp) _ _ _ _ _ _ _ rfl rfl rfl ?_; try simp only [*]) | (refine wpList_neg _ rfl _ _ _ _ rfl rfl ?_; intro r hr)))
  obtain rfl := eT_raw B (by omega) (by omega) hr
  refine (phasor_at B (by omega) (by omega) _).mono ?_; rintro e w' ⟨rfl, m2, rfl⟩
  go_wp2_with ((first | (refine wpList_fl _ rfl .add (by simp) _ _ _ _ _ _ _ rfl rfl rfl ?_; intro r n hr) | (refine wpList_fl _ rfl .sub (by simp) _ _ _ _ _ _ _ rfl rfl rfl ?_; intro r n hr) | (refine wpList_fl _ rfl .mul (by simp) _ _ _ _ _ _ _ rfl rfl rfl ?_; intro r n hr) | (refine wpList_fl _ rfl .quo (by simp) _ _ _ _ _ _ _ rfl rfl rfl ?_; intro r n hr) | (refine wpList_cmp _ rfl .lss (by simp) _ _ _ _ _ _ _ rfl rfl rfl ?_; try simp only [*]) | (refine wpList_cmp _ rfl .geq (by simp) _ _ _ _ _ _ _ rfl rfl rfl ?_; try simp only [*]) | (refine wpList_cmp _ rfl .gtr (by simp) _ _ _ _ _ _ _ rfl rfl rfl ?_; try simp only [*]) | (refine wpList_cmp _ rfl .neq (by simp) _ _ _ _ _ _ _ rfl rfl rfl ?_; try simp only [*]) | (refine wpList_cmp _ rfl .eql (by simp) _ _ _ _ _ _ _ rfl rfl rfl ?_; try simp only [*]) | (refine wpList_cmp _ rfl .leq (by simp) _ _ _ _ _ _ _ rfl rfl rfl ?_; try simp only [*]) | (refine wpList_neg _ rfl _ _ _ _ rfl rfl ?_; intro r hr)))
  obtain rfl := eT_raw (A + B) (by omega) (by omega) hr
  refine (phasor_at (A + B) (by omega) (by omega) _).mono ?_; rintro e w' ⟨rfl, m3, rfl⟩
  rw [kOf_add]
  have hkA := kOf_lt A
  have hkB := kOf_lt B
  obtain ⟨tf1, tf2, tf3, tf4, tf5, tf6, tf7⟩ := tu_facts A hA0 hA1
  have TF1 := Lib.hid tf1
  have TF2 := Lib.hid tf2
  have TF3 := Lib.hid (show cutW (whA A) ≤ Fl.P 52 by have : Fl.P 52 = 4503599627370496 := by decide
                                                      omega)
  have TF6 := Lib.hid tf6
  have TF7 : FloatKind.f64.format.order (gapF (tuA A) (eN (whN A - 10000))) 4562254508917369340 = some .lt := tf7
  have hNs := whN_small A hA0 hA1
  have ET : Hid (tuA A = fop .sub .f64 (fop .mul .f64 (wideF (AN (kOf A))) w64) (can .f64 (floatOfInt .f64 A))) := rfl
  have EW : Hid (whA A = fop .add .f64 (tuA A) wBig) := rfl
  have h16k : Int.tmod A 16 = 0 → kOf A % 16 = 0 := fun h => by
    have := Int.tmod_def A 16
    unfold kOf; omega
  have hNN : Hid (whN A = Fl.toI (whA A)) := rfl
  generalize hk0 : kOf A = k at *
  generalize kOf B = l at *
  obtain ⟨w1, w2, w3', w4'⟩ := k_words hkA
  obtain ⟨_, hYA⟩ := wide_fin w3'
  obtain ⟨hfP, hYP⟩ := wide_fin w4'
  obtain ⟨hfR, hYR⟩ := wide_fin w1
  have cAN := fin_can (wide_fin w3').1
  have cTU := fin_can tf1
  have k0 := c0
  have k1 := cOne
  have k6 := cW64
  have k7 := cBig
  obtain ⟨pg1, pg2⟩ := pw_facts hkA
  have PG2 : FloatKind.f64.format.order (gapF (wideF (PW k)) 4607182418800017408) 4547007122018943789 = some .lt := pg2
  have PG1 := Lib.hid pg1
  have HFP := Lib.hid hfP
  have HFR := Lib.hid hfR
  obtain ⟨⟨_, nr1, nr2, nr3⟩, ⟨_, ni1, ni2, ni3⟩⟩ := pro_near hkA hkB
  obtain ⟨ws1, ws2, _, _⟩ := k_words (Nat.mod_lt (k + l) (show 0 < 64 by omega))
  have HNR := Lib.hid (fun u => nearOf (cop .f64 .f32 (mR k l)) (cop .f64 .f32 (mI k l)) (PR ((k + l) % 64)) (PI ((k + l) % 64)) nr1 ni1 ws1 ws2 nr2 nr3 ni2 ni3 u)
  clear pg1 pg2 hfP hfR nr1 nr2 nr3 ni1 ni2 ni3 ws1 ws2 w1 w2 w3' w4' tf1 tf2 tf3 tf6 tf7
  go_wp2_with fail
  refine (angle_at hkA _).mono ?_; rintro e w4 ⟨rfl, hb⟩
  have B4 : Hid (Below w.heap.size w w4) := (bdrewN w _).trans (hb.mono (bdrewN w _).size)
  clear hb
  go_wp2_with (first | (refine wpList_toint _ rfl _ _ _ _ (whA A) rfl rfl (by kernel_rfl) Try.underlying2 (by rw [EW.out, ET.out]; simp only [*]) TF2.out TF3.out ?_) | (first | (refine wpList_fl _ rfl .add (by simp) _ _ _ _ _ _ _ rfl rfl rfl ?_; intro r n hr) | (refine wpList_fl _ rfl .sub (by simp) _ _ _ _ _ _ _ rfl rfl rfl ?_; intro r n hr) | (refine wpList_fl _ rfl .mul (by simp) _ _ _ _ _ _ _ rfl rfl rfl ?_; intro r n hr) | (refine wpList_fl _ rfl .quo (by simp) _ _ _ _ _ _ _ rfl rfl rfl ?_; intro r n hr) | (refine wpList_cmp _ rfl .lss (by simp) _ _ _ _ _ _ _ rfl rfl rfl ?_; try simp only [*]) | (refine wpList_cmp _ rfl .geq (by simp) _ _ _ _ _ _ _ rfl rfl rfl ?_; try simp only [*]) | (refine wpList_cmp _ rfl .gtr (by simp) _ _ _ _ _ _ _ rfl rfl rfl ?_; try simp only [*]) | (refine wpList_cmp _ rfl .neq (by simp) _ _ _ _ _ _ _ rfl rfl rfl ?_; try simp only [*]) | (refine wpList_cmp _ rfl .eql (by simp) _ _ _ _ _ _ _ rfl rfl rfl ?_; try simp only [*]) | (refine wpList_cmp _ rfl .leq (by simp) _ _ _ _ _ _ _ rfl rfl rfl ?_; try simp only [*]) | (refine wpList_neg _ rfl _ _ _ _ rfl rfl ?_; intro r hr)))
  rename_i ra na hra rb nb hrb K1 q1 K2 q2 K3 q3
  have e2 : rb = tuA A := raw_eq (by rw [ET.out, hrb]; simp only [*]) TF1.out
  subst e2
  clear hra hrb hr
  rw [← hNN.out]
  generalize hN : whN A = N at *
  refine (powerOf hkA _).mono ?_; rintro e w' ⟨rfl, m5, rfl⟩
  go_wp2_with fail
  refine (gapOf _ _ HFP.out (fin64 (by decide)) PG1.out _).mono ?_; rintro e w' ⟨rfl, m6, rfl⟩
  go_wp2_with fail
  refine (mulOf hkA hkB _).mono ?_; rintro e w' ⟨rfl, m7, rfl⟩
  go_wp2_with fail
  refine (HNR.out _).mono ?_; rintro e w' ⟨rfl, m8, rfl⟩
  have hNf := eN_fin (N - 10000) (by omega) (by omega)
  have hcN : eN (N - 10000) = floatOfInt .f64 (N - 10000) := fin_can hNf
  rw [hcN] at TF6 TF7
  go_wp2_with fail
  refine (gapOf _ _ TF1.out hNf TF6.out _).mono ?_; rintro e w' ⟨rfl, m9, rfl⟩
  by_cases h16 : Int.tmod A 16 = 0
  · obtain ⟨re1, re2⟩ := re_facts hkA (h16k h16)
    have RE1 := Lib.hid re1
    rcases re2 with re2 | ⟨re3, re2⟩
    · clear re1
      go_wp2_with fail
      refine (gapOf _ _ HFR.out fin0 RE1.out _).mono ?_; rintro e w' ⟨rfl, m10, rfl⟩
      go_wp2_with fail
      refine (HA3.out _ (H2.out.below (Go.below_drewN B4.out _))).mono ?_; rintro e w' ⟨X0, x1, x2, rfl, rfl⟩
      go_wp2_with ((first | (refine wpList_fl _ rfl .add (by simp) _ _ _ _ _ _ _ rfl rfl rfl ?_; intro r n hr) | (refine wpList_fl _ rfl .sub (by simp) _ _ _ _ _ _ _ rfl rfl rfl ?_; intro r n hr) | (refine wpList_fl _ rfl .mul (by simp) _ _ _ _ _ _ _ rfl rfl rfl ?_; intro r n hr) | (refine wpList_fl _ rfl .quo (by simp) _ _ _ _ _ _ _ rfl rfl rfl ?_; intro r n hr) | (refine wpList_cmp _ rfl .lss (by simp) _ _ _ _ _ _ _ rfl rfl rfl ?_; try simp only [*]) | (refine wpList_cmp _ rfl .geq (by simp) _ _ _ _ _ _ _ rfl rfl rfl ?_; try simp only [*]) | (refine wpList_cmp _ rfl .gtr (by simp) _ _ _ _ _ _ _ rfl rfl rfl ?_; try simp only [*]) | (refine wpList_cmp _ rfl .neq (by simp) _ _ _ _ _ _ _ rfl rfl rfl ?_; try simp only [*]) | (refine wpList_cmp _ rfl .eql (by simp) _ _ _ _ _ _ _ rfl rfl rfl ?_; try simp only [*]) | (refine wpList_cmp _ rfl .leq (by simp) _ _ _ _ _ _ _ rfl rfl rfl ?_; try simp only [*]) | (refine wpList_neg _ rfl _ _ _ _ rfl rfl ?_; intro r hr)))
      obtain rfl : r = xw (1 + X0) := raw_eqS (by rw [hr, c8S]; rfl) (xw_facts _ (by omega) (by omega)).1
      refine (HA4.out _ (H2.out.below (Go.below_drewN B4.out _))).mono ?_; rintro e w' ⟨Y0, y1, y2, rfl, rfl⟩
      go_wp2_with ((first | (refine wpList_fl _ rfl .add (by simp) _ _ _ _ _ _ _ rfl rfl rfl ?_; intro r n hr) | (refine wpList_fl _ rfl .sub (by simp) _ _ _ _ _ _ _ rfl rfl rfl ?_; intro r n hr) | (refine wpList_fl _ rfl .mul (by simp) _ _ _ _ _ _ _ rfl rfl rfl ?_; intro r n hr) | (refine wpList_fl _ rfl .quo (by simp) _ _ _ _ _ _ _ rfl rfl rfl ?_; intro r n hr) | (refine wpList_cmp _ rfl .lss (by simp) _ _ _ _ _ _ _ rfl rfl rfl ?_; try simp only [*]) | (refine wpList_cmp _ rfl .geq (by simp) _ _ _ _ _ _ _ rfl rfl rfl ?_; try simp only [*]) | (refine wpList_cmp _ rfl .gtr (by simp) _ _ _ _ _ _ _ rfl rfl rfl ?_; try simp only [*]) | (refine wpList_cmp _ rfl .neq (by simp) _ _ _ _ _ _ _ rfl rfl rfl ?_; try simp only [*]) | (refine wpList_cmp _ rfl .eql (by simp) _ _ _ _ _ _ _ rfl rfl rfl ?_; try simp only [*]) | (refine wpList_cmp _ rfl .leq (by simp) _ _ _ _ _ _ _ rfl rfl rfl ?_; try simp only [*]) | (refine wpList_neg _ rfl _ _ _ _ rfl rfl ?_; intro r hr)))
      obtain rfl : r = xw (1 + Y0) := raw_eqS (by rw [hr, c8S]; rfl) (xw_facts _ (by omega) (by omega)).1
      obtain ⟨fx, vx⟩ := xw_facts (1 + X0) (by omega) (by omega)
      obtain ⟨fy, vy⟩ := xw_facts (1 + Y0) (by omega) (by omega)
      obtain ⟨fz, vz⟩ := xy_facts (1 + X0) (1 + Y0) (by omega) (by omega) (by omega) (by omega)
      obtain ⟨i, j, l, t1, t2, t3, q1, q2⟩ := ten_pairs (1 + X0).toNat (1 + Y0).toNat ⟨by omega, by omega⟩ ⟨by omega, by omega⟩
      have HX := Lib.hid (fun u => ten_at (c := 3) fx vx (by omega) (by omega) t1 u)
      have HY := Lib.hid (fun u => ten_at (c := 3) fy vy (by omega) (by omega) t2 u)
      have HZ := Lib.hid (fun u => ten_at (c := 6) fz vz (by omega) (Nat.mul_pos (by omega) (by omega)) t3 u)
      have cx := fin_canS fx
      have cy := fin_canS fy
      have FZ9 := Lib.hid fz
      clear fx vx fy vy fz vz t1 t2 t3 x1 x2 y1 y2
      refine (HX.out _).mono ?_; rintro e w' ⟨tx, rfl, u1, u2, u3, u4, n0, rfl⟩
      go_wp2_with fail
      refine (HY.out _).mono ?_; rintro e w' ⟨ty, rfl, u5, u6, u7, u8, n0, rfl⟩
      go_wp2_with ((first | (refine wpList_fl _ rfl .add (by simp) _ _ _ _ _ _ _ rfl rfl rfl ?_; intro r n hr) | (refine wpList_fl _ rfl .sub (by simp) _ _ _ _ _ _ _ rfl rfl rfl ?_; intro r n hr) | (refine wpList_fl _ rfl .mul (by simp) _ _ _ _ _ _ _ rfl rfl rfl ?_; intro r n hr) | (refine wpList_fl _ rfl .quo (by simp) _ _ _ _ _ _ _ rfl rfl rfl ?_; intro r n hr) | (refine wpList_cmp _ rfl .lss (by simp) _ _ _ _ _ _ _ rfl rfl rfl ?_; try simp only [*]) | (refine wpList_cmp _ rfl .geq (by simp) _ _ _ _ _ _ _ rfl rfl rfl ?_; try simp only [*]) | (refine wpList_cmp _ rfl .gtr (by simp) _ _ _ _ _ _ _ rfl rfl rfl ?_; try simp only [*]) | (refine wpList_cmp _ rfl .neq (by simp) _ _ _ _ _ _ _ rfl rfl rfl ?_; try simp only [*]) | (refine wpList_cmp _ rfl .eql (by simp) _ _ _ _ _ _ _ rfl rfl rfl ?_; try simp only [*]) | (refine wpList_cmp _ rfl .leq (by simp) _ _ _ _ _ _ _ rfl rfl rfl ?_; try simp only [*]) | (refine wpList_neg _ rfl _ _ _ _ rfl rfl ?_; intro r hr)))
      obtain rfl : r = fop .mul .f32 (xw (1 + X0)) (xw (1 + Y0)) := raw_eqS (by rw [hr, cx, cy]) FZ9.out
      refine (HZ.out _).mono ?_; rintro e w' ⟨tz, rfl, u9, u10, u11, u12, n0, rfl⟩
      go_wp2_with fail
      refine (ten_one _).mono ?_; rintro e w' ⟨rfl, n0, rfl⟩
      have r1 : tx + ty - tz ≤ 1 := by omega
      have r2 : tz - tx - ty ≤ 1 := by omega
      clear u1 u2 u5 u6 u9 u10 q1 q2
      go_wp2_with fail
      refine (angle_i _).mono ?_; rintro e w9 ⟨rfl, hb⟩
      have B9 : Hid (Below w.heap.size w w9) := (Go.below_drewN B4.out _).trans (hb.mono (Go.below_drewN B4.out _).size)
      clear hb
      go_wp2_with fail
      refine (sameNumber 1048576000 0 (by omega) (by omega) false (by decide +kernel) _).mono ?_; rintro e w' ⟨rfl, rfl⟩
      go_wp2
      go_ret
      exact ⟨rfl, B9.out⟩
    · have re3' : FloatKind.f64.format.order (gapF (wideF (PR k)) 0) 4607182418800017408 = some .eq := re3
      clear re1 re3
      go_wp2_with fail
      refine (gapOf _ _ HFR.out fin0 RE1.out _).mono ?_; rintro e w' ⟨rfl, m10, rfl⟩
      go_wp2_with fail
      refine (gapOf _ _ HFR.out fin0 RE1.out _).mono ?_; rintro e w' ⟨rfl, m11, rfl⟩
      go_wp2_with fail
      refine (HA3.out _ (H2.out.below (Go.below_drewN B4.out _))).mono ?_; rintro e w' ⟨X0, x1, x2, rfl, rfl⟩
      go_wp2_with ((first | (refine wpList_fl _ rfl .add (by simp) _ _ _ _ _ _ _ rfl rfl rfl ?_; intro r n hr) | (refine wpList_fl _ rfl .sub (by simp) _ _ _ _ _ _ _ rfl rfl rfl ?_; intro r n hr) | (refine wpList_fl _ rfl .mul (by simp) _ _ _ _ _ _ _ rfl rfl rfl ?_; intro r n hr) | (refine wpList_fl _ rfl .quo (by simp) _ _ _ _ _ _ _ rfl rfl rfl ?_; intro r n hr) | (refine wpList_cmp _ rfl .lss (by simp) _ _ _ _ _ _ _ rfl rfl rfl ?_; try simp only [*]) | (refine wpList_cmp _ rfl .geq (by simp) _ _ _ _ _ _ _ rfl rfl rfl ?_; try simp only [*]) | (refine wpList_cmp _ rfl .gtr (by simp) _ _ _ _ _ _ _ rfl rfl rfl ?_; try simp only [*]) | (refine wpList_cmp _ rfl .neq (by simp) _ _ _ _ _ _ _ rfl rfl rfl ?_; try simp only [*]) | (refine wpList_cmp _ rfl .eql (by simp) _ _ _ _ _ _ _ rfl rfl rfl ?_; try simp only [*]) | (refine wpList_cmp _ rfl .leq (by simp) _ _ _ _ _ _ _ rfl rfl rfl ?_; try simp only [*]) | (refine wpList_neg _ rfl _ _ _ _ rfl rfl ?_; intro r hr)))
      obtain rfl : r = xw (1 + X0) := raw_eqS (by rw [hr, c8S]; rfl) (xw_facts _ (by omega) (by omega)).1
      refine (HA4.out _ (H2.out.below (Go.below_drewN B4.out _))).mono ?_; rintro e w' ⟨Y0, y1, y2, rfl, rfl⟩
      go_wp2_with ((first | (refine wpList_fl _ rfl .add (by simp) _ _ _ _ _ _ _ rfl rfl rfl ?_; intro r n hr) | (refine wpList_fl _ rfl .sub (by simp) _ _ _ _ _ _ _ rfl rfl rfl ?_; intro r n hr) | (refine wpList_fl _ rfl .mul (by simp) _ _ _ _ _ _ _ rfl rfl rfl ?_; intro r n hr) | (refine wpList_fl _ rfl .quo (by simp) _ _ _ _ _ _ _ rfl rfl rfl ?_; intro r n hr) | (refine wpList_cmp _ rfl .lss (by simp) _ _ _ _ _ _ _ rfl rfl rfl ?_; try simp only [*]) | (refine wpList_cmp _ rfl .geq (by simp) _ _ _ _ _ _ _ rfl rfl rfl ?_; try simp only [*]) | (refine wpList_cmp _ rfl .gtr (by simp) _ _ _ _ _ _ _ rfl rfl rfl ?_; try simp only [*]) | (refine wpList_cmp _ rfl .neq (by simp) _ _ _ _ _ _ _ rfl rfl rfl ?_; try simp only [*]) | (refine wpList_cmp _ rfl .eql (by simp) _ _ _ _ _ _ _ rfl rfl rfl ?_; try simp only [*]) | (refine wpList_cmp _ rfl .leq (by simp) _ _ _ _ _ _ _ rfl rfl rfl ?_; try simp only [*]) | (refine wpList_neg _ rfl _ _ _ _ rfl rfl ?_; intro r hr)))
      obtain rfl : r = xw (1 + Y0) := raw_eqS (by rw [hr, c8S]; rfl) (xw_facts _ (by omega) (by omega)).1
      obtain ⟨fx, vx⟩ := xw_facts (1 + X0) (by omega) (by omega)
      obtain ⟨fy, vy⟩ := xw_facts (1 + Y0) (by omega) (by omega)
      obtain ⟨fz, vz⟩ := xy_facts (1 + X0) (1 + Y0) (by omega) (by omega) (by omega) (by omega)
      obtain ⟨i, j, l, t1, t2, t3, q1, q2⟩ := ten_pairs (1 + X0).toNat (1 + Y0).toNat ⟨by omega, by omega⟩ ⟨by omega, by omega⟩
      have HX := Lib.hid (fun u => ten_at (c := 3) fx vx (by omega) (by omega) t1 u)
      have HY := Lib.hid (fun u => ten_at (c := 3) fy vy (by omega) (by omega) t2 u)
      have HZ := Lib.hid (fun u => ten_at (c := 6) fz vz (by omega) (Nat.mul_pos (by omega) (by omega)) t3 u)
      have cx := fin_canS fx
      have cy := fin_canS fy
      have FZ9 := Lib.hid fz
      clear fx vx fy vy fz vz t1 t2 t3 x1 x2 y1 y2
      refine (HX.out _).mono ?_; rintro e w' ⟨tx, rfl, u1, u2, u3, u4, n0, rfl⟩
      go_wp2_with fail
      refine (HY.out _).mono ?_; rintro e w' ⟨ty, rfl, u5, u6, u7, u8, n0, rfl⟩
      go_wp2_with ((first | (refine wpList_fl _ rfl .add (by simp) _ _ _ _ _ _ _ rfl rfl rfl ?_; intro r n hr) | (refine wpList_fl _ rfl .sub (by simp) _ _ _ _ _ _ _ rfl rfl rfl ?_; intro r n hr) | (refine wpList_fl _ rfl .mul (by simp) _ _ _ _ _ _ _ rfl rfl rfl ?_; intro r n hr) | (refine wpList_fl _ rfl .quo (by simp) _ _ _ _ _ _ _ rfl rfl rfl ?_; intro r n hr) | (refine wpList_cmp _ rfl .lss (by simp) _ _ _ _ _ _ _ rfl rfl rfl ?_; try simp only [*]) | (refine wpList_cmp _ rfl .geq (by simp) _ _ _ _ _ _ _ rfl rfl rfl ?_; try simp only [*]) | (refine wpList_cmp _ rfl .gtr (by simp) _ _ _ _ _ _ _ rfl rfl rfl ?_; try simp only [*]) | (refine wpList_cmp _ rfl .neq (by simp) _ _ _ _ _ _ _ rfl rfl rfl ?_; try simp only [*]) | (refine wpList_cmp _ rfl .eql (by simp) _ _ _ _ _ _ _ rfl rfl rfl ?_; try simp only [*]) | (refine wpList_cmp _ rfl .leq (by simp) _ _ _ _ _ _ _ rfl rfl rfl ?_; try simp only [*]) | (refine wpList_neg _ rfl _ _ _ _ rfl rfl ?_; intro r hr)))
      obtain rfl : r = fop .mul .f32 (xw (1 + X0)) (xw (1 + Y0)) := raw_eqS (by rw [hr, cx, cy]) FZ9.out
      refine (HZ.out _).mono ?_; rintro e w' ⟨tz, rfl, u9, u10, u11, u12, n0, rfl⟩
      go_wp2_with fail
      refine (ten_one _).mono ?_; rintro e w' ⟨rfl, n0, rfl⟩
      have r1 : tx + ty - tz ≤ 1 := by omega
      have r2 : tz - tx - ty ≤ 1 := by omega
      clear u1 u2 u5 u6 u9 u10 q1 q2
      go_wp2_with fail
      refine (angle_i _).mono ?_; rintro e w9 ⟨rfl, hb⟩
      have B9 : Hid (Below w.heap.size w w9) := (Go.below_drewN B4.out _).trans (hb.mono (Go.below_drewN B4.out _).size)
      clear hb
      go_wp2_with fail
      refine (sameNumber 1048576000 0 (by omega) (by omega) false (by decide +kernel) _).mono ?_; rintro e w' ⟨rfl, rfl⟩
      go_wp2
      go_ret
      exact ⟨rfl, B9.out⟩
  · skip
    go_wp2_with fail
    refine (HA3.out _ (H2.out.below (Go.below_drewN B4.out _))).mono ?_; rintro e w' ⟨X0, x1, x2, rfl, rfl⟩
    go_wp2_with ((first | (refine wpList_fl _ rfl .add (by simp) _ _ _ _ _ _ _ rfl rfl rfl ?_; intro r n hr) | (refine wpList_fl _ rfl .sub (by simp) _ _ _ _ _ _ _ rfl rfl rfl ?_; intro r n hr) | (refine wpList_fl _ rfl .mul (by simp) _ _ _ _ _ _ _ rfl rfl rfl ?_; intro r n hr) | (refine wpList_fl _ rfl .quo (by simp) _ _ _ _ _ _ _ rfl rfl rfl ?_; intro r n hr) | (refine wpList_cmp _ rfl .lss (by simp) _ _ _ _ _ _ _ rfl rfl rfl ?_; try simp only [*]) | (refine wpList_cmp _ rfl .geq (by simp) _ _ _ _ _ _ _ rfl rfl rfl ?_; try simp only [*]) | (refine wpList_cmp _ rfl .gtr (by simp) _ _ _ _ _ _ _ rfl rfl rfl ?_; try simp only [*]) | (refine wpList_cmp _ rfl .neq (by simp) _ _ _ _ _ _ _ rfl rfl rfl ?_; try simp only [*]) | (refine wpList_cmp _ rfl .eql (by simp) _ _ _ _ _ _ _ rfl rfl rfl ?_; try simp only [*]) | (refine wpList_cmp _ rfl .leq (by simp) _ _ _ _ _ _ _ rfl rfl rfl ?_; try simp only [*]) | (refine wpList_neg _ rfl _ _ _ _ rfl rfl ?_; intro r hr)))
    obtain rfl : r = xw (1 + X0) := raw_eqS (by rw [hr, c8S]; rfl) (xw_facts _ (by omega) (by omega)).1
    refine (HA4.out _ (H2.out.below (Go.below_drewN B4.out _))).mono ?_; rintro e w' ⟨Y0, y1, y2, rfl, rfl⟩
    go_wp2_with ((first | (refine wpList_fl _ rfl .add (by simp) _ _ _ _ _ _ _ rfl rfl rfl ?_; intro r n hr) | (refine wpList_fl _ rfl .sub (by simp) _ _ _ _ _ _ _ rfl rfl rfl ?_; intro r n hr) | (refine wpList_fl _ rfl .mul (by simp) _ _ _ _ _ _ _ rfl rfl rfl ?_; intro r n hr) | (refine wpList_fl _ rfl .quo (by simp) _ _ _ _ _ _ _ rfl rfl rfl ?_; intro r n hr) | (refine wpList_cmp _ rfl .lss (by simp) _ _ _ _ _ _ _ rfl rfl rfl ?_; try simp only [*]) | (refine wpList_cmp _ rfl .geq (by simp) _ _ _ _ _ _ _ rfl rfl rfl ?_; try simp only [*]) | (refine wpList_cmp _ rfl .gtr (by simp) _ _ _ _ _ _ _ rfl rfl rfl ?_; try simp only [*]) | (refine wpList_cmp _ rfl .neq (by simp) _ _ _ _ _ _ _ rfl rfl rfl ?_; try simp only [*]) | (refine wpList_cmp _ rfl .eql (by simp) _ _ _ _ _ _ _ rfl rfl rfl ?_; try simp only [*]) | (refine wpList_cmp _ rfl .leq (by simp) _ _ _ _ _ _ _ rfl rfl rfl ?_; try simp only [*]) | (refine wpList_neg _ rfl _ _ _ _ rfl rfl ?_; intro r hr)))
    obtain rfl : r = xw (1 + Y0) := raw_eqS (by rw [hr, c8S]; rfl) (xw_facts _ (by omega) (by omega)).1
    obtain ⟨fx, vx⟩ := xw_facts (1 + X0) (by omega) (by omega)
    obtain ⟨fy, vy⟩ := xw_facts (1 + Y0) (by omega) (by omega)
    obtain ⟨fz, vz⟩ := xy_facts (1 + X0) (1 + Y0) (by omega) (by omega) (by omega) (by omega)
    obtain ⟨i, j, l, t1, t2, t3, q1, q2⟩ := ten_pairs (1 + X0).toNat (1 + Y0).toNat ⟨by omega, by omega⟩ ⟨by omega, by omega⟩
    have HX := Lib.hid (fun u => ten_at (c := 3) fx vx (by omega) (by omega) t1 u)
    have HY := Lib.hid (fun u => ten_at (c := 3) fy vy (by omega) (by omega) t2 u)
    have HZ := Lib.hid (fun u => ten_at (c := 6) fz vz (by omega) (Nat.mul_pos (by omega) (by omega)) t3 u)
    have cx := fin_canS fx
    have cy := fin_canS fy
    have FZ9 := Lib.hid fz
    clear fx vx fy vy fz vz t1 t2 t3 x1 x2 y1 y2
    refine (HX.out _).mono ?_; rintro e w' ⟨tx, rfl, u1, u2, u3, u4, n0, rfl⟩
    go_wp2_with fail
    refine (HY.out _).mono ?_; rintro e w' ⟨ty, rfl, u5, u6, u7, u8, n0, rfl⟩
    go_wp2_with ((first | (refine wpList_fl _ rfl .add (by simp) _ _ _ _ _ _ _ rfl rfl rfl ?_; intro r n hr) | (refine wpList_fl _ rfl .sub (by simp) _ _ _ _ _ _ _ rfl rfl rfl ?_; intro r n hr) | (refine wpList_fl _ rfl .mul (by simp) _ _ _ _ _ _ _ rfl rfl rfl ?_; intro r n hr) | (refine wpList_fl _ rfl .quo (by simp) _ _ _ _ _ _ _ rfl rfl rfl ?_; intro r n hr) | (refine wpList_cmp _ rfl .lss (by simp) _ _ _ _ _ _ _ rfl rfl rfl ?_; try simp only [*]) | (refine wpList_cmp _ rfl .geq (by simp) _ _ _ _ _ _ _ rfl rfl rfl ?_; try simp only [*]) | (refine wpList_cmp _ rfl .gtr (by simp) _ _ _ _ _ _ _ rfl rfl rfl ?_; try simp only [*]) | (refine wpList_cmp _ rfl .neq (by simp) _ _ _ _ _ _ _ rfl rfl rfl ?_; try simp only [*]) | (refine wpList_cmp _ rfl .eql (by simp) _ _ _ _ _ _ _ rfl rfl rfl ?_; try simp only [*]) | (refine wpList_cmp _ rfl .leq (by simp) _ _ _ _ _ _ _ rfl rfl rfl ?_; try simp only [*]) | (refine wpList_neg _ rfl _ _ _ _ rfl rfl ?_; intro r hr)))
    obtain rfl : r = fop .mul .f32 (xw (1 + X0)) (xw (1 + Y0)) := raw_eqS (by rw [hr, cx, cy]) FZ9.out
    refine (HZ.out _).mono ?_; rintro e w' ⟨tz, rfl, u9, u10, u11, u12, n0, rfl⟩
    go_wp2_with fail
    refine (ten_one _).mono ?_; rintro e w' ⟨rfl, n0, rfl⟩
    have r1 : tx + ty - tz ≤ 1 := by omega
    have r2 : tz - tx - ty ≤ 1 := by omega
    clear u1 u2 u5 u6 u9 u10 q1 q2
    go_wp2_with fail
    refine (angle_i _).mono ?_; rintro e w9 ⟨rfl, hb⟩
    have B9 : Hid (Below w.heap.size w w9) := (Go.below_drewN B4.out _).trans (hb.mono (Go.below_drewN B4.out _).size)
    clear hb
    go_wp2_with fail
    refine (sameNumber 1048576000 0 (by omega) (by omega) false (by decide +kernel) _).mono ?_; rintro e w' ⟨rfl, rfl⟩
    go_wp2
    go_ret
    exact ⟨rfl, B9.out⟩
theorem fnCircles_walk (a0 : Option Addr) (len0 cap0 : Nat) (z0 : List Int) {W : World} (w0 : IsRow .u8 W a0 len0 cap0 z0) (a1 : Option Addr) (len1 cap1 : Nat) (z1 : List Int) (w1 : IsRow .u8 W a1 len1 cap1 z1) : Calls Try.prog 12 #[.slice a0 len0 cap0, .slice a1 len1 cap1] W fun e w' => e = .returned (.bool true) ∧ Below W.heap.size W w' :=
  circ_law _ _ _ _ _ _ W w0.row w1.row
end Go.Proofs.Ythbinacchpjkmaa.Wk
