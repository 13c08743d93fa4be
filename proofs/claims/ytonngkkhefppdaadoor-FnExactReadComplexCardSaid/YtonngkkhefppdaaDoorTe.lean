/- Marks of numbers; the law of reading numbers. -/
import Derived.Test.YtonngkkhefppdaaDoorTd
import Derived.Test.YtonngkkhefppdaaDoorRows
import Derived.Shelf.Vars
set_option linter.unusedSimpArgs false
set_option linter.unusedVariables false
namespace Go.Proofs.YtonngkkhefppdaaDoor.Wk
open Go.RowKit Fl Pc Ph

def mkF (j : Nat) : Nat := floatOfInt .f32 (1 + (j : Int))
def mkV (j : Nat) : Value := .float .f32 (mkF j)
theorem mkF_ord (j : Nat) (h : j < 256) : FloatKind.f32.format.order (mkF j) (mkF j) = some .eq := by
  have key : ∀ n : Fin 256, isN .f32 (mkF n.1) = false := by decide +kernel
  rw [order_self, key ⟨j, h⟩]; rfl
theorem valsL_eq {g g' : Nat → Value} {n : Nat} {ys : List Value} (hl : ys.length = n) (hy : ∀ j, j < n → ys[j]? = some (g j)) : ys = valsL g n := by
  apply List.ext_getElem?
  intro j
  by_cases hj : j < n
  · rw [hy j hj, valsL_get _ hj]
  · rw [List.getElem?_eq_none (by omega), List.getElem?_eq_none (by simp [valsL]; omega)]
theorem own_any {w : World} {B n : Nat} {t : TypeId} {v : Value} {xs : List Value} (h : w.ownsRow B t 1 v n xs) : ∃ ao cap, v = .slice ao n cap := by
  rcases h.2 with ⟨rfl, rfl⟩ | ⟨g, cap, cur, rfl, _⟩
  · exact ⟨_, _, rfl⟩
  · exact ⟨_, _, rfl⟩
set_option maxHeartbeats 1600000 in
theorem markF (v : Value) (n : Nat) (f : Nat → Value) (B : Nat) (w : World) (ho : w.ownsRow B 35 1 v n (valsL f n)) (hn : n ≤ 256) : Calls Tryd.prog 8 #[v, .int .i64 1] w fun e w' => e = .returned (.int .i64 (1 + n)) ∧ w'.ownsRow B 35 1 v n (valsL mkV n) ∧ Below B w w' := by
  rcases Nat.eq_zero_or_pos n with h0 | hpos
  · subst h0
    obtain ⟨ao, cap, rfl⟩ := own_any ho
    have HO := Lib.hid ho
    clear ho
    go_enter Tryd.func8, Tryd.ntmps8
    go_wp2_with fail
    go_loopw [1, 5] (fun p q wr => p = .int .i64 1 ∧ q = .int .i64 0 ∧ wr = w) (fun _ _ _ => 0)
    case atStart => exact ⟨rfl, rfl, rfl⟩
    case round =>
      obtain ⟨rfl, rfl, rfl⟩ := hrel
      go_wp2
      go_ret
      exact ⟨rfl, HO.out, Below.refl _ _⟩
  · obtain ⟨g, cap, rfl⟩ := own_slice ho hpos
    have HG := Lib.hid (ho.lt g rfl)
    have HO := Lib.hid ho
    clear ho
    go_enter Tryd.func8, Tryd.ntmps8
    go_wp2_with fail
    go_loopw [1, 5] (fun p q wr => ∃ (k : Nat) (ys : List Value), k ≤ n ∧ p = .int .i64 (1 + k) ∧ q = .int .i64 k ∧ Hid (wr.ownsRow B 35 1 (.slice (some ⟨g, 0, none⟩) n cap) n ys) ∧ Hid (∀ j, j < k → ys[j]? = some (mkV j)) ∧ Hid (Below B w wr)) (fun _ q _ => n - (intOf q).toNat)
    case atStart => exact ⟨0, _, by omega, rfl, rfl, HO.out, fun j hj => absurd hj (by omega), Below.refl _ _⟩
    case round =>
      obtain ⟨k, ys, hk, rfl, rfl, ho, hy, hbel⟩ := hrel
      by_cases hlt : k < n
      · have hylen : ys.length = n := by have := ho.out.1; omega
        have hc1 : ∃ u, wr.cell? ⟨g, k, none⟩ = some u := ⟨ys[k]'(by omega), by rw [ho.out.cellAt k (by omega)]; exact List.getElem?_eq_getElem _⟩
        obtain ⟨u, hc1⟩ := hc1
        have hfz : wr.frozen? ⟨g, k, none⟩ = false := ho.out.frozenAt k
        have HR := Lib.hid (ho.out.stored k (mkV k)).1
        have HY : Hid (∀ j, j < k + 1 → (ys.set k (mkV k))[j]? = some (mkV j)) := fun j hj => by
          by_cases e : j = k
          · subst e; rw [List.getElem?_set_self (by omega)]
          · rw [List.getElem?_set_ne (by omega)]; exact hy.out j (by omega)
        have HB2 : Hid (Below B w (wr.setCell ⟨g, k, none⟩ (mkV k))) := hbel.out.setCell HG.out.1 _
        clear hylen ho hy hbel
        go_wp2
        go_roundw
        case rel => exact ⟨k + 1, _, by omega, by go_num, by go_num, HR, HY, HB2⟩
        case measure => simp [intOf]; omega
      · obtain rfl : n = k := by omega
        go_wp2
        go_ret
        have e : ys = valsL mkV n := valsL_eq (g' := mkV) (by have := ho.out.1; omega) hy.out
        exact ⟨rfl, by rw [← e]; exact ho.out, hbel.out⟩
set_option maxHeartbeats 1600000 in
theorem heldF (v : Value) (n : Nat) (w : World) (ha : RowF w v n mkF) (hn : n ≤ 256) : Calls Tryd.prog 9 #[v, .int .i64 1] w fun e w' => e = .returned (.int .i64 (1 + n)) ∧ ∃ m, w' = w.drewN m := by
  obtain ⟨ao, cap, rfl, hm, ca⟩ := ha
  have HA := Lib.hid ca
  clear ca hm
  go_enter Tryd.func9, Tryd.ntmps9
  go_wp2_with fail
  go_loopw [1, 5] (fun p q wr => ∃ (k m : Nat), k ≤ n ∧ p = .int .i64 (1 + k) ∧ q = .int .i64 k ∧ wr = w.drewN m) (fun _ q _ => n - (intOf q).toNat)
  case atStart => exact ⟨0, 0, by omega, rfl, rfl, rfl⟩
  case round =>
    obtain ⟨k, m, hk, rfl, rfl, rfl⟩ := hrel
    by_cases hlt : k < n
    · obtain ⟨x, rfl, hxb, hcx⟩ := HA.out k hlt
      have ho := mkF_ord k (by omega)
      unfold mkF at hcx ho
      clear hxb HA
      go_wp2_with fail
      first | (go_quiet (fail); go_wp2) | go_wp2
      go_roundw
      case rel => exact ⟨k + 1, _, by omega, by go_num, by go_num, rfl⟩
      case measure => simp [intOf]; omega
    · obtain rfl : n = k := by omega
      go_wp2
      go_ret
      exact ⟨rfl, _, rfl⟩
theorem rowF_own {w : World} {B n : Nat} {t : TypeId} {v : Value} {g : Nat → Value} {f : Nat → Nat} (h : w.ownsRow B t 1 v n (valsL g n)) (hg : ∀ j, g j = .float .f32 (f j)) : RowF w v n f := by
  rcases h.2 with ⟨rfl, rfl⟩ | ⟨gb, cap, cur, rfl, hg2, hh, h1, h2, _⟩
  · exact ⟨none, 0, rfl, Nat.zero_le _, fun i hi => absurd hi (by omega)⟩
  · refine ⟨_, cap, rfl, by omega, fun i hi => ⟨_, rfl, (h.lt gb rfl).2, ?_⟩⟩
    rw [add_zero, h.cellAt i (by omega), valsL_get g hi, hg]
/-- The row lies below a bound and stays. -/
def RowK (B : Nat) (w : World) (v : Value) (n : Nat) (f : Nat → Nat) : Prop := RowF w v n f ∧ B ≤ w.heap.size ∧ ∀ i, i < n → ∃ m c x, v = .slice (some x) m c ∧ x.block < B
theorem RowK.of {w : World} {v : Value} {n : Nat} {f : Nat → Nat} (h : RowF w v n f) : RowK w.heap.size w v n f := by
  refine ⟨h, Nat.le_refl _, fun i hi => ?_⟩
  obtain ⟨ao, cap, rfl, hm, hc⟩ := h
  obtain ⟨x, rfl, h1, h2⟩ := hc i hi
  exact ⟨_, _, x, rfl, h1⟩
theorem RowK.next {B : Nat} {w w' : World} {v : Value} {n : Nat} {f : Nat → Nat} (h : RowK B w v n f) (hb : Below B w w') : RowK B w' v n f := by
  obtain ⟨⟨ao, cap, rfl, hm, hc⟩, h2, hw⟩ := h
  refine ⟨⟨ao, cap, rfl, hm, fun i hi => ?_⟩, Nat.le_trans h2 hb.size, hw⟩
  obtain ⟨x, e, h1, h2⟩ := hc i hi
  obtain ⟨_, _, x', e', h3⟩ := hw i hi
  have ex : x = x' := by subst e; cases e'; rfl
  exact ⟨x, e, Nat.lt_of_lt_of_le h1 hb.size, by rw [hb.cell (by rw [add_block, ex]; exact h3)]; exact h2⟩
def wordW (L : List ByteArray) (j : Nat) : Nat := (gW L j).getD 0
set_option maxRecDepth 20000 in
set_option maxHeartbeats 1600000 in
theorem readNumbers_law (s : ByteArray) (hs : s.size ≤ maxLen) (w : World) (hl : MaxIs w) :
    Calls Tryd.prog 3 #[.string s] w fun e w' => e = .returned (.bool true) ∧ Below w.heap.size w w' := by
  have hs2 := hs
  unfold maxLen at hs2
  by_cases hlen : 1048576 < s.size
  · clear hl hs
    go_enter Tryd.func3, Tryd.ntmps3
    go_wp2
    go_ret
    exact ⟨rfl, Below.refl _ _⟩
  · have HS := Lib.hid (specReadNumbers s (by omega) w)
    have HI := Lib.hid (fun u h => implReadNumbers s (by omega) u h)
    have HL := Lib.hid hl
    have HW : Hid (∀ j, valW (partsB s) j = .float .f32 (wordW (partsB s) j)) := fun j => rfl
    unfold RV at HS HI
    generalize wordW (partsB s) = f at HW
    generalize valW (partsB s) = g at *
    generalize hNN : (partsB s).length = N at *
    generalize fullB (okW (partsB s)) N = b at *
    clear hl hs hs2 hNN
    go_enter Tryd.func3, Tryd.ntmps3
    go_wp2_with fail
    refine HS.out.mono ?_; rintro e w1 ⟨v0, n, rfl, hn, hnb, ho, hb⟩
    have NB := Lib.hid hnb
    have R0 := Lib.hid (RowK.of (rowF_own ho HW.out))
    have B1 := Lib.hid hb
    clear ho hb hnb HS
    go_wp2_with fail
    refine (HI.out _ (HL.out.below B1.out)).mono ?_; rintro e w2 ⟨g0, n2, rfl, hn2, hnb, ho, hb⟩
    obtain rfl : n2 = n := by rw [hnb, NB.out]
    have R2 := Lib.hid (R0.out.next hb)
    have O2 := Lib.hid ho
    have B2 : Hid (Below w.heap.size w w2) := B1.out.trans (hb.mono B1.out.size)
    have Z := B1.out.size
    clear ho hb hnb hn2 R0
    generalize hB1 : w1.heap.size = B at *
    clear hB1
    go_wp2_with fail
    refine (eqF _ _ _ _ _ (rowF_own O2.out HW.out) R2.out.1).mono ?_; rintro e w3 ⟨rfl, m3, hu⟩
    have R3 : Hid (RowK B w3 v0 n2 f) := by rw [hu]; exact R2.out.next ((bdrew w2 _).mono R2.out.2.1)
    have O3 : Hid (w3.ownsRow B 35 1 g0 n2 (valsL g n2)) := by rw [hu]; exact own_keep O2.out (bdrew w2 _)
    have B3 : Hid (Below w.heap.size w w3) := by rw [hu]; exact Go.below_drewN B2.out _
    clear hu R2 O2 B2
    go_wp2_with fail
    refine (markF _ _ _ _ _ O3.out hn).mono ?_; rintro e w4 ⟨rfl, ho, hb⟩
    have R4 := Lib.hid (R3.out.next hb)
    have O4 := Lib.hid ho
    have B4 : Hid (Below w.heap.size w w4) := B3.out.trans (hb.mono Z)
    clear ho hb R3 O3 B3
    go_wp2_with fail
    refine (heldF _ _ _ (rowF_own O4.out (fun _ => rfl)) hn).mono ?_; rintro e w5 ⟨rfl, m5, hu⟩
    have R5 : Hid (RowK B w5 v0 n2 f) := by rw [hu]; exact R4.out.next ((bdrew w4 _).mono R4.out.2.1)
    have O5 : Hid (w5.ownsRow B 35 1 g0 n2 (valsL mkV n2)) := by rw [hu]; exact own_keep O4.out (bdrew w4 _)
    have B5 : Hid (Below w.heap.size w w5) := by rw [hu]; exact Go.below_drewN B4.out _
    clear hu R4 O4 B4
    go_wp2_with fail
    refine (HI.out _ (HL.out.below B5.out)).mono ?_; rintro e w6 ⟨h0, n3, rfl, hn3, hnb, ho, hb⟩
    obtain rfl : n3 = n2 := by rw [hnb, NB.out]
    have R6 := Lib.hid (R5.out.next (hb.mono R5.out.2.1))
    have O6 := Lib.hid (own_keep O5.out hb)
    have H6 := Lib.hid (rowF_own ho HW.out)
    have B6 : Hid (Below w.heap.size w w6) := B5.out.trans (hb.mono B5.out.size)
    clear ho hb hnb hn3 R5 O5 B5
    go_wp2_with fail
    refine (eqF _ _ _ _ _ H6.out R6.out.1).mono ?_; rintro e w7 ⟨rfl, m7, hu⟩
    have O7 : Hid (w7.ownsRow B 35 1 g0 n3 (valsL mkV n3)) := by rw [hu]; exact own_keep O6.out (bdrew w6 _)
    have B7 : Hid (Below w.heap.size w w7) := by rw [hu]; exact Go.below_drewN B6.out _
    clear hu R6 O6 B6 H6
    go_wp2_with fail
    refine (heldF _ _ _ (rowF_own O7.out (fun _ => rfl)) hn).mono ?_; rintro e w8 ⟨rfl, m8, hu⟩
    have B8 : Hid (Below w.heap.size w w8) := by rw [hu]; exact Go.below_drewN B7.out _
    clear hu O7 B7
    go_wp2
    go_ret
    exact ⟨rfl, B8.out⟩
theorem maxIs_of {W : World} (h : W.ShapedOpen Tryd.prog) : MaxIs W := by
  exact cell_of_shapedOpen_int (g := 1) (t := 3) (zero := #[.int .i64 0]) h (of_decide_eq_true (by kernel_rfl)) (by kernel_rfl) rfl (by kernel_rfl) (by kernel_rfl) Tryd.underlying3
theorem fnExactReadNumbers_walk (s : ByteArray) (ws : s.size ≤ maxLen) (W : World) (hsh : W.ShapedOpen Tryd.prog) (hL : laidMet Tryd.prog Rows.fnExactReadNumbersRow.laid W) : Calls Tryd.prog 3 #[.string s] W fun e w' => e = .returned (.bool true) ∧ Below W.heap.size W w' :=
  readNumbers_law s ws W (maxIs_of hsh)
end Go.Proofs.YtonngkkhefppdaaDoor.Wk
