/- The walks of what the law of circles calls, but the angle. -/
import Derived.Test.YthbinacchpjkmaaCp
import Derived.Test.YthbinacchpjkmaaCc
import Derived.Test.YthbinacchpjkmaaVd
set_option linter.unusedSimpArgs false
set_option linter.unusedVariables false
namespace Go.Proofs.Ythbinacchpjkmaa.Wk
open Go.RowKit Fl

theorem raw_eqS {r v : Nat} (h : can .f32 r = v) (hf : fin S v) : r = v := by
  have hn : isN .f32 r = false := by rw [← isN_can, h]; exact fin_not_nan (k := .f32) hf
  rw [← can_of_not hn, h]
theorem fin_canS {x : Nat} (h : fin S x) : can .f32 x = x := can_of_not (fin_not_nan (k := .f32) h)
theorem finB32 {x : Nat} (h : fin32B x = true) : fin S x := fin32 (by unfold fin32B at h; simpa using h)
theorem finB64 {x : Nat} (h : finDB x = true) : fin D x := fin64 (by unfold finDB at h; simpa using h)
/-- A slice of these bytes. -/
def IsRow (k : IntKind) (w : World) (ao : Option Addr) (n cap : Nat) (zs : List Int) : Prop :=
  (ao = none ∧ n = 0 ∧ cap = 0 ∧ zs = []) ∨ ∃ x, ao = some x ∧ n ≤ cap ∧ cap ≤ maxLen ∧ zs.length = cap ∧ (∀ i, i < zs.length → w.cell? (x.add i) = some (.int k (zs.getD i 0))) ∧ (∀ m ∈ zs, (Lit.int k m).wf = true)
def RowB (w : World) (v : Value) (n : Nat) (f : Nat → Int) : Prop :=
  ∃ (ao : Option Addr) (cap : Nat), v = .slice ao n cap ∧ n ≤ maxLen ∧ ∀ i, i < n → ∃ x, ao = some x ∧ x.block < w.heap.size ∧ w.cell? (x.add i) = some (.int .u8 (f i)) ∧ 0 ≤ f i ∧ f i ≤ 255
theorem add_block (x : Addr) (i : Nat) : (x.add i).block = x.block := by unfold Addr.add; split <;> rfl
theorem cell_lt {w : World} {a : Addr} {v : Value} (h : w.cell? a = some v) : a.block < w.heap.size := by
  rcases Nat.lt_or_ge a.block w.heap.size with g | g
  · exact g
  · exfalso
    unfold World.cell? at h
    rw [Array.getElem?_eq_none g] at h
    cases h
theorem IsRow.row {w : World} {ao : Option Addr} {n cap : Nat} {zs : List Int} (h : IsRow .u8 w ao n cap zs) : RowB w (.slice ao n cap) n (fun i => zs.getD i 0) := by
  rcases h with ⟨rfl, rfl, rfl, rfl⟩ | ⟨x, rfl, h1, h2, h3, h4, h5⟩
  · exact ⟨none, 0, rfl, Nat.zero_le _, fun i hi => absurd hi (by omega)⟩
  · refine ⟨some x, cap, rfl, by omega, fun i hi => ?_⟩
    have hc := h4 i (by omega)
    have hl := cell_lt hc
    rw [add_block] at hl
    have hw := h5 (zs.getD i 0) (by
      rw [List.getD_eq_getElem?_getD, List.getElem?_eq_getElem (by omega)]
      exact List.getElem_mem _)
    have b1 : IntKind.u8.min = 0 := by decide
    have b2 : IntKind.u8.max = 255 := by decide
    simp only [Lit.wf, b1, b2, Bool.and_eq_true, decide_eq_true_eq] at hw
    exact ⟨x, rfl, hl, hc, hw.1, hw.2⟩
theorem RowB.below {w w' : World} {v : Value} {n : Nat} {f : Nat → Int} (h : RowB w v n f) (hb : Below w.heap.size w w') : RowB w' v n f := by
  obtain ⟨ao, cap, rfl, hm, hc⟩ := h
  refine ⟨ao, cap, rfl, hm, fun i hi => ?_⟩
  obtain ⟨x, e, h1, h2, h3⟩ := hc i hi
  exact ⟨x, e, Nat.lt_of_lt_of_le h1 hb.size, by rw [hb.cell (by rw [add_block]; exact h1)]; exact h2, h3⟩
theorem longOf (v1 v2 : Value) (n1 n2 : Nat) (f1 f2 : Nat → Int) (w : World) (h1 : RowB w v1 n1 f1) (h2 : RowB w v2 n2 f2) (b : Bool) (hb : b = (decide (1048576 < n1) || decide (1048576 < n2))) : Calls Try.prog 33 #[v1, v2] w fun e w' => e = .returned (.bool b) ∧ w = w' := by
  obtain ⟨a1, c1, rfl, m1, _⟩ := h1
  obtain ⟨a2, c2, rfl, m2, _⟩ := h2
  unfold maxLen at m1 m2
  subst hb
  by_cases g1 : 1048576 < n1 <;> by_cases g2 : 1048576 < n2
  all_goals
    go_enter Try.func33, Try.ntmps33
    go_wp2
    go_ret
    exact ⟨retB (by simp [g1, g2] <;> omega), rfl⟩
theorem atOf (v : Value) (len : Nat) (f : Nat → Int) (i : Int) (n : Int) (hi : i = 0 ∨ i = 1) (hn : n = 256 ∨ n = 200) (w : World) (h : RowB w v len f) : Calls Try.prog 34 #[v, .int .i64 i, .int .i64 n] w fun e w' => ∃ A : Int, 0 ≤ A ∧ A < n ∧ e = .returned (.int .i64 A) ∧ w = w' := by
  obtain ⟨ao, cap, rfl, hm, hc⟩ := h
  unfold maxLen at hm
  by_cases hlt : i < (len : Int)
  · obtain ⟨k, rfl⟩ : ∃ k : Nat, i = (k : Int) := ⟨i.toNat, by omega⟩
    obtain ⟨x, rfl, hb, hcx, h0, h1⟩ := hc k (by omega)
    clear hc hb
    rcases hn with rfl | rfl
    all_goals
      go_enter Try.func34, Try.ntmps34
      go_wp2
      go_ret
      refine ⟨_, ?_, ?_, rfl, rfl⟩
      · first | exact Int.tmod_nonneg _ h0 | omega
      · first | exact Int.tmod_lt_of_pos _ (by omega) | omega
  · clear hc
    rcases hi with rfl | rfl <;> rcases hn with rfl | rfl
    all_goals
      go_enter Try.func34, Try.ntmps34
      go_wp2
      go_ret
      exact ⟨_, by decide, by decide, rfl, rfl⟩
theorem gapOf (x y : Nat) (hx : fin D x) (hy : fin D y) (hg : fin D (gapF x y)) (w : World) : Calls Try.prog 36 #[.float .f64 x, .float .f64 y] w fun e w' => e = .returned (.float .f64 (gapF x y)) ∧ ∃ m, w' = w.drewN m := by
  have hcx := fin_can hx
  have hcy := fin_can hy
  by_cases hl : cmpF .lss .f64 x y = true
  · have hv := Lib.hid (show gapF x y = fop .sub .f64 y x by unfold gapF; rw [if_pos hl])
    have HG := Lib.hid hg
    clear hx hy hg
    go_enter Try.func36, Try.ntmps36
    go_wp2_with ((first | (refine wpList_fl _ rfl .add (by simp) _ _ _ _ _ _ _ rfl rfl rfl ?_; intro r n hr) | (refine wpList_fl _ rfl .sub (by simp) _ _ _ _ _ _ _ rfl rfl rfl ?_; intro r n hr) | (refine wpList_fl _ rfl .mul (by simp) _ _ _ _ _ _ _ rfl rfl rfl ?_; intro r n hr) | (refine wpList_fl _ rfl .quo (by simp) _ _ _ _ _ _ _ rfl rfl rfl ?_; intro r n hr) | (refine wpList_cmp _ rfl .lss (by simp) _ _ _ _ _ _ _ rfl rfl rfl ?_; try simp only [*]) | (refine wpList_cmp _ rfl .geq (by simp) _ _ _ _ _ _ _ rfl rfl rfl ?_; try simp only [*]) | (refine wpList_cmp _ rfl .gtr (by simp) _ _ _ _ _ _ _ rfl rfl rfl ?_; try simp only [*]) | (refine wpList_cmp _ rfl .neq (by simp) _ _ _ _ _ _ _ rfl rfl rfl ?_; try simp only [*]) | (refine wpList_cmp _ rfl .eql (by simp) _ _ _ _ _ _ _ rfl rfl rfl ?_; try simp only [*]) | (refine wpList_cmp _ rfl .leq (by simp) _ _ _ _ _ _ _ rfl rfl rfl ?_; try simp only [*]) | (refine wpList_neg _ rfl _ _ _ _ rfl rfl ?_; intro r hr)))
    go_ret
    have e : r = gapF x y := by
      refine raw_eq ?_ HG.out
      rw [hv.out]
      simp only [*]
    exact ⟨by rw [← e]; rfl, _, rfl⟩
  · simp only [Bool.not_eq_true] at hl
    have hv := Lib.hid (show gapF x y = fop .sub .f64 x y by unfold gapF; rw [if_neg (by rw [hl]; decide)])
    have HG := Lib.hid hg
    clear hx hy hg
    go_enter Try.func36, Try.ntmps36
    go_wp2_with ((first | (refine wpList_fl _ rfl .add (by simp) _ _ _ _ _ _ _ rfl rfl rfl ?_; intro r n hr) | (refine wpList_fl _ rfl .sub (by simp) _ _ _ _ _ _ _ rfl rfl rfl ?_; intro r n hr) | (refine wpList_fl _ rfl .mul (by simp) _ _ _ _ _ _ _ rfl rfl rfl ?_; intro r n hr) | (refine wpList_fl _ rfl .quo (by simp) _ _ _ _ _ _ _ rfl rfl rfl ?_; intro r n hr) | (refine wpList_cmp _ rfl .lss (by simp) _ _ _ _ _ _ _ rfl rfl rfl ?_; try simp only [*]) | (refine wpList_cmp _ rfl .geq (by simp) _ _ _ _ _ _ _ rfl rfl rfl ?_; try simp only [*]) | (refine wpList_cmp _ rfl .gtr (by simp) _ _ _ _ _ _ _ rfl rfl rfl ?_; try simp only [*]) | (refine wpList_cmp _ rfl .neq (by simp) _ _ _ _ _ _ _ rfl rfl rfl ?_; try simp only [*]) | (refine wpList_cmp _ rfl .eql (by simp) _ _ _ _ _ _ _ rfl rfl rfl ?_; try simp only [*]) | (refine wpList_cmp _ rfl .leq (by simp) _ _ _ _ _ _ _ rfl rfl rfl ?_; try simp only [*]) | (refine wpList_neg _ rfl _ _ _ _ rfl rfl ?_; intro r hr)))
    go_ret
    have e : r = gapF x y := by
      refine raw_eq ?_ HG.out
      rw [hv.out]
      simp only [*]
    exact ⟨by rw [← e]; rfl, _, rfl⟩
theorem nearOf (x y x' y' : Nat) (hx : fin S x) (hy : fin S y) (hx' : fin S x') (hy' : fin S y') (g1 : fin D (gapF (wideF x) (wideF x'))) (o1 : FloatKind.f64.format.order (gapF (wideF x) (wideF x')) w4 = some .lt) (g2 : fin D (gapF (wideF y) (wideF y'))) (o2 : FloatKind.f64.format.order (gapF (wideF y) (wideF y')) w4 = some .lt) (w : World) :
    Calls Try.prog 38 #[.complex .f32 x y, .complex .f32 x' y', .float .f64 4547007122018943789] w fun e w' => e = .returned (.bool true) ∧ ∃ m, w' = w.drewN m := by
  obtain ⟨a1, y1⟩ := wide_fin hx
  obtain ⟨a2, y2⟩ := wide_fin hy
  obtain ⟨a3, y3⟩ := wide_fin hx'
  obtain ⟨a4, y4⟩ := wide_fin hy'
  have H1 := Lib.hid (fun u => gapOf (wideF x) (wideF x') a1 a3 g1 u)
  have H2 := Lib.hid (fun u => gapOf (wideF y) (wideF y') a2 a4 g2 u)
  have o1' : FloatKind.f64.format.order (gapF (wideF x) (wideF x')) 4547007122018943789 = some .lt := o1
  have o2' : FloatKind.f64.format.order (gapF (wideF y) (wideF y')) 4547007122018943789 = some .lt := o2
  clear hx hy hx' hy' a1 a2 a3 a4 g1 g2 o1 o2
  go_enter Try.func38, Try.ntmps38
  go_wp2_with fail
  refine (H1.out _).mono ?_; rintro e w' ⟨rfl, m1, rfl⟩
  go_wp2_with fail
  refine (H2.out _).mono ?_; rintro e w' ⟨rfl, m2, rfl⟩
  go_wp2
  go_ret
  exact ⟨rfl, _, rfl⟩
theorem wideOf (x y : Nat) (hx : fin S x) (hy : fin S y) (w : World) : Calls Try.prog 65 #[.complex .f32 x y] w fun e w' => e = .returned (.tuple #[.float .f64 (wideF x), .float .f64 (wideF y)]) ∧ ∃ m, w' = w.drewN m := by
  obtain ⟨a1, y1⟩ := wide_fin hx
  obtain ⟨a2, y2⟩ := wide_fin hy
  clear hx hy a1 a2
  go_enter Try.func65, Try.ntmps65
  go_wp2
  go_ret2
  exact ⟨rfl, _, rfl⟩
theorem powW (x y : Nat) (hx : fin S x) (hy : fin S y) (w : World) : Calls Try.prog 64 #[.complex .f32 x y] w fun e w' => ∃ r m, e = .returned (.float .f64 r) ∧ can .f64 r = fop .add .f64 (fop .mul .f64 (wideF x) (wideF x)) (fop .mul .f64 (wideF y) (wideF y)) ∧ w' = w.drewN m := by
  have HW := Lib.hid (fun u => wideOf x y hx hy u)
  have c1 := fin_can (wide_fin hx).1
  have c2 := fin_can (wide_fin hy).1
  clear hx hy
  go_enter Try.func64, Try.ntmps64
  go_wp2_with fail
  refine (HW.out _).mono ?_; rintro e w' ⟨rfl, m1, rfl⟩
  go_wp2_with ((first | (refine wpList_fl _ rfl .add (by simp) _ _ _ _ _ _ _ rfl rfl rfl ?_; intro r n hr) | (refine wpList_fl _ rfl .sub (by simp) _ _ _ _ _ _ _ rfl rfl rfl ?_; intro r n hr) | (refine wpList_fl _ rfl .mul (by simp) _ _ _ _ _ _ _ rfl rfl rfl ?_; intro r n hr) | (refine wpList_fl _ rfl .quo (by simp) _ _ _ _ _ _ _ rfl rfl rfl ?_; intro r n hr) | (refine wpList_cmp _ rfl .lss (by simp) _ _ _ _ _ _ _ rfl rfl rfl ?_; try simp only [*]) | (refine wpList_cmp _ rfl .geq (by simp) _ _ _ _ _ _ _ rfl rfl rfl ?_; try simp only [*]) | (refine wpList_cmp _ rfl .gtr (by simp) _ _ _ _ _ _ _ rfl rfl rfl ?_; try simp only [*]) | (refine wpList_cmp _ rfl .neq (by simp) _ _ _ _ _ _ _ rfl rfl rfl ?_; try simp only [*]) | (refine wpList_cmp _ rfl .eql (by simp) _ _ _ _ _ _ _ rfl rfl rfl ?_; try simp only [*]) | (refine wpList_cmp _ rfl .leq (by simp) _ _ _ _ _ _ _ rfl rfl rfl ?_; try simp only [*]) | (refine wpList_neg _ rfl _ _ _ _ rfl rfl ?_; intro r hr)))
  go_ret
  exact ⟨_, _, rfl, by simp only [*], rfl⟩
set_option maxRecDepth 100000 in
theorem pwo_ok : (List.range 64).all (fun k => !ovf .f64 .f32 (pwW k)) = true := by decide +kernel
theorem k_words {k : Nat} (hk : k < 64) : fin S (PR k) ∧ fin S (PI k) ∧ fin S (AN k) ∧ fin S (PW k) := by
  have h := all_lt words_ok hk
  unfold words at h
  simp only [Bool.and_eq_true] at h
  exact ⟨finB32 h.1.1.1, finB32 h.1.1.2, finB32 h.1.2, finB32 h.2⟩
theorem powerOf {k : Nat} (hk : k < 64) (w : World) : Calls Try.prog 37 #[.complex .f32 (PR k) (PI k)] w fun e w' => e = .returned (.float .f32 (PW k)) ∧ ∃ m, w' = w.drewN m := by
  obtain ⟨f1, f2, f3, f4⟩ := k_words hk
  have HP := Lib.hid (fun u => powW (PR k) (PI k) f1 f2 u)
  have ho : ovf .f64 .f32 (pwW k) = false := by
    have := all_lt pwo_ok hk
    simpa using this
  have hv : cop .f64 .f32 (pwW k) = PW k := by
    have := all_lt pw_ok hk
    unfold pwOK at this
    simp only [Bool.and_eq_true, beq_iff_eq] at this
    exact this.1.1
  have HV := Lib.hid hv
  have HO := Lib.hid ho
  have HF := Lib.hid f4
  clear f1 f2 f3 f4 ho hv
  go_enter Try.func37, Try.ntmps37
  go_wp2_with fail
  refine (HP.out _).mono ?_; rintro e w' ⟨r, m1, rfl, hr, rfl⟩
  have hnar : ∀ u, cV .f64 r .f32 u = PW k := fun u => raw_eqS (by rw [narrow_to hr HO.out]; exact HV.out) HF.out
  clear hr
  go_wp2
  go_ret
  exact ⟨rfl, _, rfl⟩
set_option maxHeartbeats 4000000 in
theorem mulOf {k l : Nat} (hk : k < 64) (hl : l < 64) (w : World) : Calls Try.prog 39 #[.complex .f32 (PR k) (PI k), .complex .f32 (PR l) (PI l)] w fun e w' => e = .returned (.complex .f32 (cop .f64 .f32 (mR k l)) (cop .f64 .f32 (mI k l))) ∧ ∃ m, w' = w.drewN m := by
  obtain ⟨f1, f2, _, _⟩ := k_words hk
  obtain ⟨g1, g2, _, _⟩ := k_words hl
  obtain ⟨⟨o1, q1, _, _⟩, ⟨o2, q2, _, _⟩⟩ := pro_near hk hl
  have H1 := Lib.hid (fun u => wideOf (PR k) (PI k) f1 f2 u)
  have H2 := Lib.hid (fun u => wideOf (PR l) (PI l) g1 g2 u)
  have c1 := fin_can (wide_fin f1).1
  have c2 := fin_can (wide_fin f2).1
  have c3 := fin_can (wide_fin g1).1
  have c4 := fin_can (wide_fin g2).1
  have Q1 := Lib.hid q1
  have Q2 := Lib.hid q2
  have o1' : ovf .f64 .f32 (fop .sub .f64 (fop .mul .f64 (wideF (PR k)) (wideF (PR l))) (fop .mul .f64 (wideF (PI k)) (wideF (PI l)))) = false := o1
  have o2' : ovf .f64 .f32 (fop .add .f64 (fop .mul .f64 (wideF (PR k)) (wideF (PI l))) (fop .mul .f64 (wideF (PI k)) (wideF (PR l)))) = false := o2
  have E1 : Hid (mR k l = fop .sub .f64 (fop .mul .f64 (wideF (PR k)) (wideF (PR l))) (fop .mul .f64 (wideF (PI k)) (wideF (PI l)))) := rfl
  have E2 : Hid (mI k l = fop .add .f64 (fop .mul .f64 (wideF (PR k)) (wideF (PI l))) (fop .mul .f64 (wideF (PI k)) (wideF (PR l)))) := rfl
  clear f1 f2 g1 g2 o1 o2 q1 q2
  generalize wideF (PR k) = A at *
  generalize wideF (PI k) = B at *
  generalize wideF (PR l) = C at *
  generalize wideF (PI l) = E at *
  generalize PR k = pk at *
  generalize PI k = qk at *
  generalize PR l = pl at *
  generalize PI l = ql at *
  go_enter Try.func39, Try.ntmps39
  go_wp2_with fail
  refine (H1.out _).mono ?_; rintro e w' ⟨rfl, m1, rfl⟩
  go_wp2_with fail
  refine (H2.out _).mono ?_; rintro e w' ⟨rfl, m2, rfl⟩
  go_wp2_with (first | (refine wpList_narrow _ rfl _ _ _ _ rfl rfl (by kernel_rfl) Try.underlying26 (by simp only [*]) ?_; intro r n hr) | (first | (refine wpList_fl _ rfl .add (by simp) _ _ _ _ _ _ _ rfl rfl rfl ?_; intro r n hr) | (refine wpList_fl _ rfl .sub (by simp) _ _ _ _ _ _ _ rfl rfl rfl ?_; intro r n hr) | (refine wpList_fl _ rfl .mul (by simp) _ _ _ _ _ _ _ rfl rfl rfl ?_; intro r n hr) | (refine wpList_fl _ rfl .quo (by simp) _ _ _ _ _ _ _ rfl rfl rfl ?_; intro r n hr) | (refine wpList_cmp _ rfl .lss (by simp) _ _ _ _ _ _ _ rfl rfl rfl ?_; try simp only [*]) | (refine wpList_cmp _ rfl .geq (by simp) _ _ _ _ _ _ _ rfl rfl rfl ?_; try simp only [*]) | (refine wpList_cmp _ rfl .gtr (by simp) _ _ _ _ _ _ _ rfl rfl rfl ?_; try simp only [*]) | (refine wpList_cmp _ rfl .neq (by simp) _ _ _ _ _ _ _ rfl rfl rfl ?_; try simp only [*]) | (refine wpList_cmp _ rfl .eql (by simp) _ _ _ _ _ _ _ rfl rfl rfl ?_; try simp only [*]) | (refine wpList_cmp _ rfl .leq (by simp) _ _ _ _ _ _ _ rfl rfl rfl ?_; try simp only [*]) | (refine wpList_neg _ rfl _ _ _ _ rfl rfl ?_; intro r hr)))
  go_ret
  rename_i r1 n1 hr1 _ _ _ _ _ _ _ _ _
  have e1 : r1 = cop .f64 .f32 (mR k l) := raw_eqS (by rw [hr1, E1.out]; simp only [*]) Q1.out
  have e2 : r = cop .f64 .f32 (mI k l) := raw_eqS (by rw [hr, E2.out]; simp only [*]) Q2.out
  exact ⟨by rw [← e1, ← e2]; rfl, _, rfl⟩
/-! ### phasors of 64ths -/
theorem pt_facts (a : Int) (h0 : -256 ≤ a) (h1 : a ≤ 254) : fin D (eT a) ∧ aV D (eT a) < P 1126 ∧ partF (eT a) = eT (kOf a) := by
  have h := all_lt pt_ok (k := (a + 256).toNat) (by omega)
  have e : (((a + 256).toNat : Nat) - 256 : Int) = a := by omega
  unfold ptOK at h
  rw [e] at h
  simp only [Bool.and_eq_true, decide_eq_true_eq, beq_iff_eq] at h
  exact ⟨fin64 h.1.1, h.1.2, h.2⟩
theorem ph_facts {k : Nat} (hk : k < 64) : phVal (eT k) (PR k) (PI k) := by
  have h := all_lt ph_ok hk
  unfold phOK at h
  simp only [Bool.and_eq_true, beq_iff_eq, Bool.not_eq_true'] at h
  obtain ⟨⟨⟨h1, h2⟩, h3⟩, h4⟩ := h
  exact ⟨k / 16, fun i hi => all_lt h1 hi, h2, h3.symm, h4.symm⟩
theorem phasor_at (a : Int) (h0 : -256 ≤ a) (h1 : a ≤ 254) (w : World) : Calls Try.prog 31 #[.float .f64 (eT a)] w fun e w' => e = .returned (.complex .f32 (PR (kOf a)) (PI (kOf a))) ∧ ∃ m, w' = w.drewN m := by
  obtain ⟨g1, g2, g3⟩ := pt_facts a h0 h1
  have hk := kOf_lt a
  obtain ⟨f1, f2, _, _⟩ := k_words hk
  refine (implPhasor_in (eT a) (fop_lt _ _ _) g1 g2 w).mono ?_
  rintro e w' ⟨x, y, n, rfl, hp, rfl⟩
  rw [g3] at hp
  obtain ⟨e1, e2⟩ := phVal.unique hp (ph_facts hk)
  exact ⟨by rw [raw_eqS e1 f1, raw_eqS e2 f2], n, rfl⟩
theorem kOf_add (a b : Int) : kOf (a + b) = (kOf a + kOf b) % 64 := by unfold kOf; omega
/-! ### tenths -/
theorem ten_at {p K c : Nat} (hf : fin S p) (hv : sV S p = ((K * P (149 - c) : Nat) : Int)) (hc : c ≤ 6) (hK : 0 < K) {i : Int × Int} (h : tenIV K c = some i) (w : World) :
    Calls Try.prog 29 #[.float .f32 p] w fun e w' => ∃ m : Int, e = .returned (.tuple #[.int .i64 m, .bool true]) ∧ i.1 < (m + 1) * 16777216 ∧ m * 16777216 ≤ i.2 ∧ -8388608 ≤ m ∧ m ≤ 8388608 ∧ ∃ n, w' = w.drewN n := by
  have hpos : 0 < sV S p := by
    rw [hv]
    exact_mod_cast Nat.mul_pos hK (P_pos _)
  refine (implTenths p w).mono ?_
  intro e w' hr
  rcases hr with ⟨_, hr⟩ | ⟨hn, _⟩
  · obtain ⟨z, E, m, hN, rfl, rfl⟩ := hr
    have hx := pos_of hf hpos
    have hvv : sV D (wideF p) = ((K * P (1074 - c) : Nat) : Int) := by
      obtain ⟨q, q1, q2, q3⟩ := widen hf
      have : wideF p = q := by
        unfold wideF
        rw [can_of_not (fin_not_nan (k := .f32) hf)]
        unfold cop; rw [q1]; exact can_of_not (fin_not_nan (k := .f64) q2)
      rw [this, q3, hv, ← Int.natCast_mul, Nat.mul_assoc, ← P_add, show 149 - c + 925 = 1074 - c by omega]
    obtain ⟨_, hfi, hfe⟩ := hN.vals hx
    have hFZ := fz_tenR hfi hfe
    obtain ⟨b1, b2⟩ := iv_floor hFZ (iv_ten hx hN hvv hc hK h)
    refine ⟨tenI z E, rfl, b1, b2, ?_, ?_, m, rfl⟩
    · obtain ⟨n, hn, n1, n2⟩ := floor_val hFZ
      show -8388608 ≤ Fl.toI (floorF (tenR z E))
      rw [hn]
      have hl := hFZ.2.1
      have h96 : P 1096 = P 22 * P 1074 := by rw [← P_add]
      have h22 : P 22 = 4194304 := by decide
      rw [h22] at h96
      have hp74 := P_pos 1074
      rcases Int.lt_or_le n (-8388608) with c | c
      · exfalso
        have := Int.mul_le_mul_of_nonneg_right (show n + 1 ≤ -8388608 by omega) (show (0 : Int) ≤ (P 1074 : Int) from Int.natCast_nonneg _)
        generalize P 1096 = A at *
        generalize P 1074 = B at *
        omega
      · exact c
    · obtain ⟨n, hn, n1, n2⟩ := floor_val hFZ
      show Fl.toI (floorF (tenR z E)) ≤ 8388608
      rw [hn]
      have hl := hFZ.2.2
      have h96 : P 1096 = P 22 * P 1074 := by rw [← P_add]
      have h22 : P 22 = 4194304 := by decide
      rw [h22] at h96
      have hp74 := P_pos 1074
      rcases Int.lt_or_le 8388608 n with c | c
      · exfalso
        have := Int.mul_le_mul_of_nonneg_right (show 8388608 ≤ n by omega) (show (0 : Int) ≤ (P 1074 : Int) from Int.natCast_nonneg _)
        generalize P 1096 = A at *
        generalize P 1074 = B at *
        omega
      · exact c
  · exact absurd ⟨hf, hpos⟩ hn
/-- Eighths, and their products. -/
def xw (X : Int) : Nat := fop .quo .f32 (can .f32 (floatOfInt .f32 X)) 1090519040
def xwOK (n : Nat) : Bool := decide (xw ((n : Int) + 1) % 2147483648 < 2139095040) && decide (sV S (xw ((n : Int) + 1)) = (((n + 1) * P 146 : Nat) : Int))
set_option maxRecDepth 100000 in
theorem xw_ok : (List.range 200).all xwOK = true := by decide +kernel
theorem xw_facts (X : Int) (h0 : 1 ≤ X) (h1 : X ≤ 200) : fin S (xw X) ∧ sV S (xw X) = ((X.toNat * P 146 : Nat) : Int) := by
  have h := all_lt xw_ok (k := (X - 1).toNat) (by omega)
  have e : (((X - 1).toNat : Nat) + 1 : Int) = X := by omega
  have e2 : (X - 1).toNat + 1 = X.toNat := by omega
  unfold xwOK at h
  rw [e, e2] at h
  simp only [Bool.and_eq_true, decide_eq_true_eq] at h
  exact ⟨fin32 h.1, h.2⟩
theorem xy_facts (X Y : Int) (h0 : 1 ≤ X) (h1 : X ≤ 200) (g0 : 1 ≤ Y) (g1 : Y ≤ 200) : fin S (fop .mul .f32 (xw X) (xw Y)) ∧ sV S (fop .mul .f32 (xw X) (xw Y)) = ((X.toNat * Y.toNat * P 143 : Nat) : Int) := by
  obtain ⟨f1, v1⟩ := xw_facts X h0 h1
  obtain ⟨f2, v2⟩ := xw_facts Y g0 g1
  have hf : (2 : Nat) ^ (S.fractionBits + 1) = 16777216 := by decide +kernel
  have hXY : X.toNat * Y.toNat ≤ 200 * 200 := Nat.mul_le_mul (by omega) (by omega)
  have hone : one S = P 149 := by unfold one; rw [lpS]; rfl
  have hr : RepI S ((X.toNat * Y.toNat * P 143 : Nat) : Int) := by
    refine ⟨⟨X.toNat * Y.toNat, 143, by rw [Int.natAbs_natCast]; rfl, by rw [hf]; omega⟩, ?_⟩
    rw [Int.natAbs_natCast]
    refine Nat.lt_of_le_of_lt (Nat.mul_le_mul_right _ hXY) ?_
    decide +kernel
  have he : ((X.toNat * Y.toNat * P 143 : Nat) : Int) * (one S : Int) = sV S (xw X) * sV S (xw Y) := by
    rw [v1, v2, hone, ← Int.natCast_mul, ← Int.natCast_mul]
    have h9 : P 143 * P 149 = P 146 * P 146 := by rw [← P_add, ← P_add]
    rw [Nat.mul_assoc, h9]
    generalize P 146 = B
    congr 1
    rw [Nat.mul_assoc, Nat.mul_assoc]
    congr 1
    rw [← Nat.mul_assoc, ← Nat.mul_assoc, Nat.mul_comm Y.toNat B]
  obtain ⟨r, e, hfr, r1, r2⟩ := mul_bounds S ebS (by rw [lpS]; decide) f1 f2 _ _ hr hr (Int.le_of_eq he) (Int.le_of_eq he.symm)
  have er : fop .mul .f32 (xw X) (xw Y) = r := by
    unfold fop
    have : floatBits .mul .f32 (xw X) (xw Y) = some r := e
    rw [this]; exact can_of_not (fin_not_nan (k := .f32) hfr)
  rw [er]
  exact ⟨hfr, by omega⟩
/-! ### the same -/
theorem l01Same (a b : Nat) (ha : a < 4294967296) (hb : b < 4294967296) (w : World) : Calls Try.prog 66 #[.float .f32 a, .float .f32 b] w fun e w' => e = .returned (.bool (bitsN a == bitsN b)) ∧ w = w' := by
  have H1 := Lib.hid (fun u => l01Bits a ha u)
  have H2 := Lib.hid (fun u => l01Bits b hb u)
  clear ha hb
  go_enter Try.func66, Try.ntmps66
  go_wp2_with fail
  refine (H1.out _).mono ?_; rintro e w' ⟨rfl, rfl⟩
  go_wp2_with fail
  refine (H2.out _).mono ?_; rintro e w' ⟨rfl, rfl⟩
  go_wp2
  go_ret
  exact ⟨retB (by rw [Bool.eq_iff_iff]; simp; omega), rfl⟩
theorem sameNumber (a b : Nat) (ha : a < 4294967296) (hb : b < 4294967296) (v : Bool) (hv : v = (bitsN a == bitsN b)) (w : World) : Calls Try.prog 40 #[.float .f32 a, .float .f32 b] w fun e w' => e = .returned (.bool v) ∧ w = w' := by
  subst hv
  have H1 := Lib.hid (fun u => l01Same a b ha hb u)
  clear ha hb
  go_enter Try.func40, Try.ntmps40
  go_wp2_with fail
  refine (H1.out _).mono ?_; rintro e w' ⟨rfl, rfl⟩
  go_wp2
  go_ret
  exact ⟨rfl, rfl⟩
end Go.Proofs.Ythbinacchpjkmaa.Wk
