/- Complex rows: the same, marks; the law of reading complex numbers. -/
import Derived.Test.YtonngkkhefppdaaDoorTe
import Derived.Test.YtonngkkhefppdaaDoorTf
import Derived.Laws.ComplexArith
set_option linter.unusedSimpArgs false
set_option linter.unusedVariables false
namespace Go.Proofs.YtonngkkhefppdaaDoor.Wk
open Go.RowKit Fl Pc Ph

theorem run_store_complex {P : Program} {w : World} {a : Addr} {m : _} (k : FloatKind) (x y : Nat) : (store a (.complex k x y) m).run P w = stored P w a (.complex k x y) m := run_store P w a _ m rfl
attribute [go_sem] run_store_complex
theorem run_ftf {P : Program} (w : World) (s k : FloatKind) (x : Nat) : (Conv.floatToFloat s x k).run P w = .ok (.float k (cV s x k w)) (w.drewN (cN s x k)) := by
  cases h : floatToFloatBits s x k with
  | some r =>
    rw [run_floatToFloat w h]
    simp [cV, cN, h, World.drewN_zero]
  | none =>
    have h0 := h
    unfold floatToFloatBits at h
    split at h
    · cases h
    · rename_i ne
      split at h
      · rename_i sg tt he
        have hn : isN s x = true := by unfold isN; rw [he]; rfl
        have hf : (Question.nanConv k x).forced = false := rfl
        simp [Conv.floatToFloat, ne, he, cV, cN, h0, hn, run_choose_drew, hf, World.drew_is_drewN]
      · cases h
      · rename_i sg m e he
        split at h
        · rename_i ho
          have hn : isN s x = false := by unfold isN; rw [he]; rfl
          have hf : (Question.floatToFloat x).forced = false := rfl
          simp [Conv.floatToFloat, ne, he, ho, cV, cN, h0, hn, run_choose_drew, hf, World.drew_is_drewN]
        · cases h
theorem run_ccv {P : Program} (w : World) (src dst : TypeId) (a b : Nat) (hs : (P.underlying src).isSome = true) (hd : P.underlying dst = some (.complex .f64)) :
    ∃ r q n, (convert src dst (.complex .f32 a b)).run P w = .ok (.complex .f64 r q) (w.drewN n) ∧ can .f64 r = cop .f32 .f64 (can .f32 a) ∧ can .f64 q = cop .f32 .f64 (can .f32 b) := by
  obtain ⟨u, hs'⟩ := Option.isSome_iff_exists.1 hs
  refine ⟨cV .f32 a .f64 w, cV .f32 b .f64 (w.drewN (cN .f32 a .f64)), cN .f32 a .f64 + cN .f32 b .f64, ?_, cVw_can a w, cVw_can b _⟩
  cases u <;> simp [convert, run_underlying hs', run_underlying hd, Conv.complexToComplex, run_ftf, World.drewN_drewN]
theorem step_cwide {P : Program} {ops : Array Oper} {Q : Act → Prop} {w : World} {a : Act} {o : Oper} {rest : List Oper} (hgd : o.guard = none) (t t2 : TypeId) (X : Operand) (x y : Nat) (ho : o.op = .convert t t2 X) (hx : a.eval X = .complex .f32 x y)
    (hs : (P.underlying t).isSome = true) (hd : P.underlying t2 = some (.complex .f64))
    (h : ∀ r q, can .f64 r = cop .f32 .f64 (can .f32 x) → can .f64 q = cop .f32 .f64 (can .f32 y) → Soft.wpSoft P ops (fun w' => ∃ n, w' = w.drewN n) Q rest (a.put o.dst (.complex .f64 r q))) : Soft.wpSoft P ops (fun w' => ∃ n, w' = w.drewN n) Q (o :: rest) a := by
  unfold Soft.wpSoft
  rw [if_pos (by simp [Region.wanted, hgd])]
  refine .inl ⟨by rw [ho]; rfl, ?_⟩
  rintro w' ⟨n, rfl⟩
  obtain ⟨r, q, m, hc, h1, h2⟩ := run_ccv (P := P) (w.drewN n) t t2 x y hs hd
  have hr : (execOp a.eval o).run P (w.drewN n) = .ok (.value (.complex .f64 r q)) ((w.drewN n).drewN m) := by
    generalize a.eval = ev at hx ⊢
    simp [execOp, ho, hx, go_sem, hc]
  rw [hr]
  exact ⟨⟨n + m, World.drewN_drewN w n _⟩, h _ _ h1 h2⟩
theorem sameC (a b c d : Nat) (h1 : can .f64 a = can .f64 c) (h2 : can .f64 b = can .f64 d) (w : World) : Calls Tryd.prog 20 #[.complex .f64 a b, .complex .f64 c d] w fun e w' => e = .returned (.bool true) ∧ ∃ n, w' = w.drewN n := by
  have H1 := Lib.hid (fun u => sameF a c h1 u)
  have H2 := Lib.hid (fun u => sameF b d h2 u)
  clear h1 h2
  go_enter Tryd.func20, Tryd.ntmps20
  go_wp2_with fail
  refine (H1.out _).mono ?_; rintro e w' ⟨rfl, m1, rfl⟩
  go_wp2_with fail
  refine (H2.out _).mono ?_; rintro e w' ⟨rfl, m2, rfl⟩
  go_wp2
  go_ret
  exact ⟨rfl, _, rfl⟩
/-- A slice of these complex numbers. -/
def RowC (w : World) (v : Value) (n : Nat) (f : Nat → Nat × Nat) : Prop :=
  ∃ (ao : Option Addr) (cap : Nat), v = .slice ao n cap ∧ n ≤ maxLen ∧ ∀ i, i < n → ∃ x, ao = some x ∧ x.block < w.heap.size ∧ w.cell? (x.add i) = some (.complex .f32 (f i).1 (f i).2)
set_option maxHeartbeats 1600000 in
theorem eqC (a b : Value) (n : Nat) (f : Nat → Nat × Nat) (w : World) (ha : RowC w a n f) (hb : RowC w b n f) : Calls Tryd.prog 12 #[a, b] w fun e w' => e = .returned (.bool true) ∧ ∃ n, w' = w.drewN n := by
  obtain ⟨ao, cap, rfl, hm, ca⟩ := ha
  obtain ⟨bo, cap2, rfl, hm', cb⟩ := hb
  have hm2 : n ≤ 9223372036854775807 := by unfold maxLen at hm; omega
  have HA := Lib.hid ca
  have HB := Lib.hid cb
  clear ca cb hm hm'
  go_enter Tryd.func12, Tryd.ntmps12
  go_wp2_with fail
  go_loopw [5] (fun q wr => ∃ (k m : Nat), k ≤ n ∧ q = .int .i64 k ∧ wr = w.drewN m) (fun q _ => n - (intOf q).toNat)
  case atStart => exact ⟨0, 0, by omega, rfl, rfl⟩
  case round =>
    obtain ⟨k, m, hk, rfl, rfl⟩ := hrel
    by_cases hlt : k < n
    · obtain ⟨x, rfl, hxb, hcx⟩ := HA.out k hlt
      obtain ⟨y, rfl, hyb, hcy⟩ := HB.out k hlt
      clear hxb HA hyb HB
      go_wp2_with fail
      refine Soft.wp_region_soft (by kernel_rfl) (by decide +kernel) (by decide +kernel) ?_
      iterate 4 (refine Soft.step_quiet (fun K hK => ?_); go_simp; (refine hK _ ?_; clear hK K))
      (refine step_cwide rfl _ _ _ _ _ rfl rfl (by kernel_rfl) Tryd.underlying42 ?_; intro r q hr hq)
      iterate 4 (refine Soft.step_quiet (fun K hK => ?_); go_simp; (refine hK _ ?_; clear hK K))
      (refine step_cwide rfl _ _ _ _ _ rfl rfl (by kernel_rfl) Tryd.underlying42 ?_; intro r' q' hr' hq')
      have HE := Lib.hid (hr.trans hr'.symm)
      have HE2 := Lib.hid (hq.trans hq'.symm)
      clear hr hr' hq hq'
      (refine Soft.step_quiet (fun K hK => ?_)
       go_simp
       apply Exists.intro
       refine ⟨fun jj => ?_, hK _ ?_⟩
       · refine (sameC _ _ _ _ HE.out HE2.out _).mono ?_
         rintro e w' ⟨rfl, j, rfl⟩
         exact ⟨rfl, jj + j, by rw [World.drewN_drewN, Nat.add_assoc]⟩
       clear hK K)
      (refine Soft.step_quiet (fun K hK => ?_); go_simp; (refine hK _ ?_; clear hK K))
      rintro w' ⟨nn, rfl⟩
      go_wp2_with fail
      go_roundw
      case rel => exact ⟨k + 1, _, by omega, by go_num, rfl⟩
      case measure => simp [intOf]; omega
    · obtain rfl : n = k := by omega
      go_wp2
      go_ret
      exact ⟨rfl, _, rfl⟩
def mkC (j : Nat) : Nat := (floatToFloatBits .f64 (floatOfInt .f64 (1 + (j : Int))) .f32).getD 0
def mkCV (j : Nat) : Value := .complex .f32 (mkC j) 1065353216
theorem mkC_bits (j : Nat) (h : j < 256) : floatToFloatBits .f64 (floatOfInt .f64 (1 + (j : Int))) .f32 = some (mkC j) := by
  have key : ∀ n : Fin 256, (floatToFloatBits .f64 (floatOfInt .f64 (1 + (n.1 : Int))) .f32).isSome = true := by decide +kernel
  have := key ⟨j, h⟩
  unfold mkC
  dsimp only at this
  cases hh : floatToFloatBits .f64 (floatOfInt .f64 (1 + (j : Int))) .f32 with
  | none => rw [hh] at this; cases this
  | some r => rfl
theorem mkC_ord (j : Nat) (h : j < 256) : FloatKind.f32.format.order (mkC j) (mkC j) = some .eq := by
  have key : ∀ n : Fin 256, isN .f32 (mkC n.1) = false := by decide +kernel
  rw [order_self, key ⟨j, h⟩]; rfl
theorem mkC_conv (j : Nat) (h : j < 256) (u : World) : (convert 42 40 (.complex .f64 (floatOfInt .f64 (1 + (j : Int))) 4607182418800017408)).run Tryd.prog u = .ok (.complex .f32 (mkC j) 1065353216) u := by
  refine run_convert_complex u _ _ _ _ _ _ _ _ (by kernel_rfl) Tryd.underlying40 ?_
  unfold cConvBits
  rw [mkC_bits j h]
  rfl
set_option maxHeartbeats 1600000 in
theorem markC (v : Value) (n : Nat) (f : Nat → Value) (B : Nat) (w : World) (ho : w.ownsRow B 40 1 v n (valsL f n)) (hn : n ≤ 256) : Calls Tryd.prog 13 #[v, .int .i64 1] w fun e w' => e = .returned (.int .i64 (1 + n)) ∧ w'.ownsRow B 40 1 v n (valsL mkCV n) ∧ Below B w w' := by
  rcases Nat.eq_zero_or_pos n with h0 | hpos
  · subst h0
    obtain ⟨ao, cap, rfl⟩ := own_any ho
    have HO := Lib.hid ho
    clear ho
    go_enter Tryd.func13, Tryd.ntmps13
    go_wp2_with fail
    go_loopw [1, 5] (fun p q wr => p = .int .i64 1 ∧ q = .int .i64 0 ∧ wr = w) (fun _ _ _ => 0)
    case atStart => exact ⟨rfl, rfl, rfl⟩
    case round =>
      obtain ⟨rfl, rfl, rfl⟩ := hrel
      go_wp2
      go_ret
      exact ⟨rfl, HO.out, Below.refl _ _⟩
  · obtain ⟨g, cap, rfl⟩ := own_slice ho hpos
    have HG := Lib.hid (ho.lt g rfl)
    have HO := Lib.hid ho
    clear ho
    go_enter Tryd.func13, Tryd.ntmps13
    go_wp2_with fail
    go_loopw [1, 5] (fun p q wr => ∃ (k : Nat) (ys : List Value), k ≤ n ∧ p = .int .i64 (1 + k) ∧ q = .int .i64 k ∧ Hid (wr.ownsRow B 40 1 (.slice (some ⟨g, 0, none⟩) n cap) n ys) ∧ Hid (∀ j, j < k → ys[j]? = some (mkCV j)) ∧ Hid (Below B w wr)) (fun _ q _ => n - (intOf q).toNat)
    case atStart => exact ⟨0, _, by omega, rfl, rfl, HO.out, fun j hj => absurd hj (by omega), Below.refl _ _⟩
    case round =>
      obtain ⟨k, ys, hk, rfl, rfl, ho, hy, hbel⟩ := hrel
      by_cases hlt : k < n
      · have hylen : ys.length = n := by have := ho.out.1; omega
        have hc1 : ∃ u, wr.cell? ⟨g, k, none⟩ = some u := ⟨ys[k]'(by omega), by rw [ho.out.cellAt k (by omega)]; exact List.getElem?_eq_getElem _⟩
        obtain ⟨u, hc1⟩ := hc1
        have hfz : wr.frozen? ⟨g, k, none⟩ = false := ho.out.frozenAt k
        have HR := Lib.hid (ho.out.stored k (mkCV k)).1
        have HY : Hid (∀ j, j < k + 1 → (ys.set k (mkCV k))[j]? = some (mkCV j)) := fun j hj => by
          by_cases e : j = k
          · subst e; rw [List.getElem?_set_self (by omega)]
          · rw [List.getElem?_set_ne (by omega)]; exact hy.out j (by omega)
        have HB2 : Hid (Below B w (wr.setCell ⟨g, k, none⟩ (mkCV k))) := hbel.out.setCell HG.out.1 _
        have hcv := fun u => mkC_conv k (by omega) u
        unfold mkCV at HR HY HB2
        clear hylen ho hy hbel
        go_wp2
        go_roundw
        case rel => exact ⟨k + 1, _, by omega, by go_num, by go_num, HR, HY, HB2⟩
        case measure => simp [intOf]; omega
      · obtain rfl : n = k := by omega
        go_wp2
        go_ret
        have e : ys = valsL mkCV n := valsL_eq (g' := mkCV) (by have := ho.out.1; omega) hy.out
        exact ⟨rfl, by rw [← e]; exact ho.out, hbel.out⟩
set_option maxHeartbeats 1600000 in
theorem heldC (v : Value) (n : Nat) (w : World) (ha : RowC w v n (fun j => (mkC j, 1065353216))) (hn : n ≤ 256) : Calls Tryd.prog 14 #[v, .int .i64 1] w fun e w' => e = .returned (.int .i64 (1 + n)) ∧ ∃ m, w' = w.drewN m := by
  obtain ⟨ao, cap, rfl, hm, ca⟩ := ha
  have HA := Lib.hid ca
  clear ca hm
  go_enter Tryd.func14, Tryd.ntmps14
  go_wp2_with fail
  go_loopw [1, 5] (fun p q wr => ∃ (k m : Nat), k ≤ n ∧ p = .int .i64 (1 + k) ∧ q = .int .i64 k ∧ wr = w.drewN m) (fun _ q _ => n - (intOf q).toNat)
  case atStart => exact ⟨0, 0, by omega, rfl, rfl, rfl⟩
  case round =>
    obtain ⟨k, m, hk, rfl, rfl, rfl⟩ := hrel
    by_cases hlt : k < n
    · obtain ⟨x, rfl, hxb, hcx⟩ := HA.out k hlt
      have ho := mkC_ord k (by omega)
      have ho1 : FloatKind.f32.format.order 1065353216 1065353216 = some .eq := by decide +kernel
      have hcv := fun u => mkC_conv k (by omega) u
      clear hxb HA
      go_wp2_with fail
      first | (go_quiet (fail); go_wp2) | go_wp2
      go_roundw
      case rel => exact ⟨k + 1, _, by omega, by go_num, by go_num, rfl⟩
      case measure => simp [intOf]; omega
    · obtain rfl : n = k := by omega
      go_wp2
      go_ret
      exact ⟨rfl, _, rfl⟩
theorem rowC_own {w : World} {B n : Nat} {t : TypeId} {v : Value} {g : Nat → Value} {f : Nat → Nat × Nat} (h : w.ownsRow B t 1 v n (valsL g n)) (hg : ∀ j, g j = .complex .f32 (f j).1 (f j).2) : RowC w v n f := by
  rcases h.2 with ⟨rfl, rfl⟩ | ⟨gb, cap, cur, rfl, hg2, hh, h1, h2, _⟩
  · exact ⟨none, 0, rfl, Nat.zero_le _, fun i hi => absurd hi (by omega)⟩
  · refine ⟨_, cap, rfl, by omega, fun i hi => ⟨_, rfl, (h.lt gb rfl).2, ?_⟩⟩
    rw [add_zero, h.cellAt i (by omega), valsL_get g hi, hg]
/-- The row lies below a bound and stays. -/
def RowKC (B : Nat) (w : World) (v : Value) (n : Nat) (f : Nat → Nat × Nat) : Prop := RowC w v n f ∧ B ≤ w.heap.size ∧ ∀ i, i < n → ∃ m c x, v = .slice (some x) m c ∧ x.block < B
theorem RowKC.of {w : World} {v : Value} {n : Nat} {f : Nat → Nat × Nat} (h : RowC w v n f) : RowKC w.heap.size w v n f := by
  refine ⟨h, Nat.le_refl _, fun i hi => ?_⟩
  obtain ⟨ao, cap, rfl, hm, hc⟩ := h
  obtain ⟨x, rfl, h1, h2⟩ := hc i hi
  exact ⟨_, _, x, rfl, h1⟩
theorem RowKC.next {B : Nat} {w w' : World} {v : Value} {n : Nat} {f : Nat → Nat × Nat} (h : RowKC B w v n f) (hb : Below B w w') : RowKC B w' v n f := by
  obtain ⟨⟨ao, cap, rfl, hm, hc⟩, h2, hw⟩ := h
  refine ⟨⟨ao, cap, rfl, hm, fun i hi => ?_⟩, Nat.le_trans h2 hb.size, hw⟩
  obtain ⟨x, e, h1, h2⟩ := hc i hi
  obtain ⟨_, _, x', e', h3⟩ := hw i hi
  have ex : x = x' := by subst e; cases e'; rfl
  exact ⟨x, e, Nat.lt_of_lt_of_le h1 hb.size, by rw [hb.cell (by rw [add_block, ex]; exact h3)]; exact h2⟩
def wordC (L : List ByteArray) (j : Nat) : Nat × Nat := (gC L j).getD (0, 0)
set_option maxRecDepth 20000 in
set_option maxHeartbeats 1600000 in
theorem readComplex_law (s : ByteArray) (hs : s.size ≤ maxLen) (w : World) (hl : MaxIs w) :
    Calls Tryd.prog 4 #[.string s] w fun e w' => e = .returned (.bool true) ∧ Below w.heap.size w w' := by
  have hs2 := hs
  unfold maxLen at hs2
  by_cases hlen : 1048576 < s.size
  · clear hl hs
    go_enter Tryd.func4, Tryd.ntmps4
    go_wp2
    go_ret
    exact ⟨rfl, Below.refl _ _⟩
  · have HS := Lib.hid (specReadComplex s (by omega) w)
    have HI := Lib.hid (fun u h => implReadComplex s (by omega) u h)
    have HL := Lib.hid hl
    have HW : Hid (∀ j, valC (partsB s) j = .complex .f32 (wordC (partsB s) j).1 (wordC (partsB s) j).2) := fun j => rfl
    unfold RV at HS HI
    generalize wordC (partsB s) = f at HW
    generalize valC (partsB s) = g at *
    generalize hNN : (partsB s).length = N at *
    generalize fullB (okC (partsB s)) N = b at *
    clear hl hs hs2 hNN
    go_enter Tryd.func4, Tryd.ntmps4
    go_wp2_with fail
    refine HS.out.mono ?_; rintro e w1 ⟨v0, n, rfl, hn, hnb, ho, hb⟩
    have NB := Lib.hid hnb
    have R0 := Lib.hid (RowKC.of (rowC_own ho HW.out))
    have B1 := Lib.hid hb
    clear ho hb hnb HS
    go_wp2_with fail
    refine (HI.out _ (HL.out.below B1.out)).mono ?_; rintro e w2 ⟨g0, n2, rfl, hn2, hnb, ho, hb⟩
    obtain rfl : n2 = n := by rw [hnb, NB.out]
    have R2 := Lib.hid (R0.out.next hb)
    have O2 := Lib.hid ho
    have B2 : Hid (Below w.heap.size w w2) := B1.out.trans (hb.mono B1.out.size)
    have Z := B1.out.size
    clear ho hb hnb hn2 R0
    generalize hB1 : w1.heap.size = B at *
    clear hB1
    go_wp2_with fail
    refine (eqC _ _ _ _ _ (rowC_own O2.out HW.out) R2.out.1).mono ?_; rintro e w3 ⟨rfl, m3, hu⟩
    have R3 : Hid (RowKC B w3 v0 n2 f) := by rw [hu]; exact R2.out.next ((bdrew w2 _).mono R2.out.2.1)
    have O3 : Hid (w3.ownsRow B 40 1 g0 n2 (valsL g n2)) := by rw [hu]; exact own_keep O2.out (bdrew w2 _)
    have B3 : Hid (Below w.heap.size w w3) := by rw [hu]; exact Go.below_drewN B2.out _
    clear hu R2 O2 B2
    go_wp2_with fail
    refine (markC _ _ _ _ _ O3.out hn).mono ?_; rintro e w4 ⟨rfl, ho, hb⟩
    have R4 := Lib.hid (R3.out.next hb)
    have O4 := Lib.hid ho
    have B4 : Hid (Below w.heap.size w w4) := B3.out.trans (hb.mono Z)
    clear ho hb R3 O3 B3
    go_wp2_with fail
    refine (heldC _ _ _ (rowC_own O4.out (fun _ => rfl)) hn).mono ?_; rintro e w5 ⟨rfl, m5, hu⟩
    have R5 : Hid (RowKC B w5 v0 n2 f) := by rw [hu]; exact R4.out.next ((bdrew w4 _).mono R4.out.2.1)
    have O5 : Hid (w5.ownsRow B 40 1 g0 n2 (valsL mkCV n2)) := by rw [hu]; exact own_keep O4.out (bdrew w4 _)
    have B5 : Hid (Below w.heap.size w w5) := by rw [hu]; exact Go.below_drewN B4.out _
    clear hu R4 O4 B4
    go_wp2_with fail
    refine (HI.out _ (HL.out.below B5.out)).mono ?_; rintro e w6 ⟨h0, n3, rfl, hn3, hnb, ho, hb⟩
    obtain rfl : n3 = n2 := by rw [hnb, NB.out]
    have R6 := Lib.hid (R5.out.next (hb.mono R5.out.2.1))
    have O6 := Lib.hid (own_keep O5.out hb)
    have H6 := Lib.hid (rowC_own ho HW.out)
    have B6 : Hid (Below w.heap.size w w6) := B5.out.trans (hb.mono B5.out.size)
    clear ho hb hnb hn3 R5 O5 B5
    go_wp2_with fail
    refine (eqC _ _ _ _ _ H6.out R6.out.1).mono ?_; rintro e w7 ⟨rfl, m7, hu⟩
    have O7 : Hid (w7.ownsRow B 40 1 g0 n3 (valsL mkCV n3)) := by rw [hu]; exact own_keep O6.out (bdrew w6 _)
    have B7 : Hid (Below w.heap.size w w7) := by rw [hu]; exact Go.below_drewN B6.out _
    clear hu R6 O6 B6 H6
    go_wp2_with fail
    refine (heldC _ _ _ (rowC_own O7.out (fun _ => rfl)) hn).mono ?_; rintro e w8 ⟨rfl, m8, hu⟩
    have B8 : Hid (Below w.heap.size w w8) := by rw [hu]; exact Go.below_drewN B7.out _
    clear hu O7 B7
    go_wp2
    go_ret
    exact ⟨rfl, B8.out⟩
theorem fnExactReadComplex_walk (s : ByteArray) (ws : s.size ≤ maxLen) (W : World) (hsh : W.ShapedOpen Tryd.prog) (hL : laidMet Tryd.prog Rows.fnExactReadComplexRow.laid W) : Calls Tryd.prog 4 #[.string s] W fun e w' => e = .returned (.bool true) ∧ Below W.heap.size W w' :=
  readComplex_law s ws W (maxIs_of hsh)
end Go.Proofs.YtonngkkhefppdaaDoor.Wk
