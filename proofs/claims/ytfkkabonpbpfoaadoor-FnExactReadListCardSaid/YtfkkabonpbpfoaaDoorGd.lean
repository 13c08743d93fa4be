/- The law of reading lists. -/
import Derived.Test.YtfkkabonpbpfoaaDoorGc
set_option linter.unusedSimpArgs false
set_option linter.unusedVariables false
namespace Go.Proofs.YtfkkabonpbpfoaaDoor.Wk
open Go.RowKit Pc

theorem own_keep {w w' : World} {B n : Nat} {t : TypeId} {v : Value} {xs : List Value} (h : w.ownsRow B t 1 v n xs) (hb : Below w.heap.size w w') : w'.ownsRow B t 1 v n xs := by
  rcases h.2 with ⟨rfl, rfl⟩ | ⟨g, cap, cur, rfl, _⟩
  · exact ⟨h.1, .inl ⟨rfl, rfl⟩⟩
  · exact own_below h hb
theorem bdrew (w : World) (n : Nat) : Below w.heap.size w (w.drewN n) := Go.below_drewN (Below.refl _ _) n
theorem RowI.keep {w w' : World} {B : Nat} {v : Value} {n : Nat} {f : Nat → Int} (h : RowI w v n f) (hw : ∀ i, i < n → ∃ ao c x, v = .slice (some x) ao c ∧ x.block < B) (hb : Below B w w') : RowI w' v n f := by
  obtain ⟨ao, cap, rfl, hm, hc⟩ := h
  refine ⟨ao, cap, rfl, hm, fun i hi => ?_⟩
  obtain ⟨x, e, h1, h2⟩ := hc i hi
  obtain ⟨_, _, x', e', h3⟩ := hw i hi
  have ex : x = x' := by subst e; cases e'; rfl
  exact ⟨x, e, Nat.lt_of_lt_of_le h1 hb.size, by rw [hb.cell (by rw [add_block, ex]; exact h3)]; exact h2⟩
/-- The row lies below a bound and stays. -/
def RowK (B : Nat) (w : World) (v : Value) (n : Nat) (f : Nat → Int) : Prop := RowI w v n f ∧ B ≤ w.heap.size ∧ ∀ i, i < n → ∃ m c x, v = .slice (some x) m c ∧ x.block < B
theorem RowK.of {w : World} {v : Value} {n : Nat} {f : Nat → Int} (h : RowI w v n f) : RowK w.heap.size w v n f := by
  refine ⟨h, Nat.le_refl _, fun i hi => ?_⟩
  obtain ⟨ao, cap, rfl, hm, hc⟩ := h
  obtain ⟨x, rfl, h1, h2⟩ := hc i hi
  exact ⟨_, _, x, rfl, h1⟩
theorem RowK.next {B : Nat} {w w' : World} {v : Value} {n : Nat} {f : Nat → Int} (h : RowK B w v n f) (hb : Below B w w') : RowK B w' v n f := ⟨h.1.keep h.2.2 hb, Nat.le_trans h.2.1 hb.size, h.2.2⟩
set_option maxRecDepth 20000 in
set_option maxHeartbeats 1600000 in
theorem readList_law (s : ByteArray) (hs : s.size ≤ maxLen) (w : World) (hl : Laid3 w) :
    Calls Tryd.prog 6 #[.string s] w fun e w' => e = .returned (.bool true) ∧ Below w.heap.size w w' := by
  have hs2 := hs
  unfold maxLen at hs2
  by_cases hlen : 1048576 < s.size
  · clear hl hs
    go_enter Tryd.func6, Tryd.ntmps6
    go_wp2
    go_ret
    exact ⟨rfl, Below.refl _ _⟩
  · have HS := Lib.hid (specReadList s (by omega) w)
    have HI := Lib.hid (fun u h => implReadList s (by omega) u h)
    have HL := Lib.hid hl
    unfold RG at HS HI
    clear hl hs hs2
    go_enter Tryd.func6, Tryd.ntmps6
    go_wp2_with fail
    refine HS.out.mono ?_; rintro e w1 ⟨v0, n, rfl, hn, hnb, ho, hb⟩
    have N := Lib.hid hnb
    have R0 := Lib.hid (RowK.of (rowI_own ho))
    have B1 := Lib.hid hb
    clear ho hb hnb HS
    go_wp2_with fail
    refine (HI.out _ (HL.out.below B1.out)).mono ?_; rintro e w2 ⟨g0, n2, rfl, hn2, hnb, ho, hb⟩
    obtain rfl : n2 = n := by rw [hnb, N.out]
    have R2 := Lib.hid (R0.out.next hb)
    have O2 := Lib.hid ho
    have B2 : Hid (Below w.heap.size w w2) := B1.out.trans (hb.mono B1.out.size)
    have Z := B1.out.size
    clear ho hb hnb hn2 R0
    generalize readB (partsB s) = b at *
    generalize (fun j => (gV (partsB s) j).1) = f at *
    generalize hB1 : w1.heap.size = B at *
    clear hB1
    go_wp2_with fail
    refine (eqI _ _ _ _ _ (rowI_own O2.out) R2.out.1).mono ?_; rintro e w3 ⟨rfl, m3, hu⟩
    have R3 : Hid (RowK B w3 v0 n2 f) := by rw [hu]; exact R2.out.next ((bdrew w2 _).mono R2.out.2.1)
    have O3 : Hid (w3.ownsRow B 2 1 g0 n2 (intsL f n2)) := by rw [hu]; exact own_keep O2.out (bdrew w2 _)
    have B3 : Hid (Below w.heap.size w w3) := by rw [hu]; exact Go.below_drewN B2.out _
    clear hu R2 O2 B2
    go_wp2_with fail
    refine (markI _ _ _ _ _ O3.out (by omega)).mono ?_; rintro e w4 ⟨rfl, ho, hb⟩
    have R4 := Lib.hid (R3.out.next hb)
    have O4 := Lib.hid ho
    have B4 : Hid (Below w.heap.size w w4) := B3.out.trans (hb.mono Z)
    clear ho hb R3 O3 B3
    go_wp2_with fail
    refine (heldI _ _ _ (rowI_own O4.out) (by omega)).mono ?_; rintro e w5 ⟨rfl, m5, hu⟩
    have R5 : Hid (RowK B w5 v0 n2 f) := by rw [hu]; exact R4.out.next ((bdrew w4 _).mono R4.out.2.1)
    have O5 : Hid (w5.ownsRow B 2 1 g0 n2 (intsL markF n2)) := by rw [hu]; exact own_keep O4.out (bdrew w4 _)
    have B5 : Hid (Below w.heap.size w w5) := by rw [hu]; exact Go.below_drewN B4.out _
    clear hu R4 O4 B4
    go_wp2_with fail
    refine (HI.out _ (HL.out.below B5.out)).mono ?_; rintro e w6 ⟨h0, n3, rfl, hn3, hnb, ho, hb⟩
    obtain rfl : n3 = n2 := by rw [hnb, N.out]
    have R6 := Lib.hid (R5.out.next (hb.mono R5.out.2.1))
    have O6 := Lib.hid (own_keep O5.out hb)
    have H6 := Lib.hid (rowI_own ho)
    have B6 : Hid (Below w.heap.size w w6) := B5.out.trans (hb.mono B5.out.size)
    clear ho hb hnb hn3 R5 O5 B5
    go_wp2_with fail
    refine (eqI _ _ _ _ _ H6.out R6.out.1).mono ?_; rintro e w7 ⟨rfl, m7, hu⟩
    have O7 : Hid (w7.ownsRow B 2 1 g0 n3 (intsL markF n3)) := by rw [hu]; exact own_keep O6.out (bdrew w6 _)
    have B7 : Hid (Below w.heap.size w w7) := by rw [hu]; exact Go.below_drewN B6.out _
    clear hu R6 O6 B6 H6
    go_wp2_with fail
    refine (heldI _ _ _ (rowI_own O7.out) (by omega)).mono ?_; rintro e w8 ⟨rfl, m8, hu⟩
    have B8 : Hid (Below w.heap.size w w8) := by rw [hu]; exact Go.below_drewN B7.out _
    clear hu O7 B7
    go_wp2
    go_ret
    exact ⟨rfl, B8.out⟩
theorem maxIs_of {W : World} (h : W.ShapedOpen Tryd.prog) : MaxIs W := by
  exact cell_of_shapedOpen_int (g := 5) (t := 3) (zero := #[.int .i64 0]) h (of_decide_eq_true (by kernel_rfl)) (by kernel_rfl) rfl (by kernel_rfl) (by kernel_rfl) Tryd.underlying3
theorem fnExactReadList_walk (s : ByteArray) (ws : s.size ≤ maxLen) (W : World) (hsh : W.ShapedOpen Tryd.prog) (hL : laidMet Tryd.prog Rows.fnExactReadListRow.laid W) : Calls Tryd.prog 6 #[.string s] W fun e w' => e = .returned (.bool true) ∧ Below W.heap.size W w' :=
  readList_law s ws W ⟨errV_of (name := "strconv.ErrSyntax") Rows.laid_strconv_ErrSyntax ⟨_, _, rfl⟩ (by kernel_rfl) (by kernel_rfl) (by kernel_rfl) Tryd.underlying38 hL, errV_of (name := "strconv.ErrRange") Rows.laid_strconv_ErrRange ⟨_, _, rfl⟩ (by kernel_rfl) (by kernel_rfl) (by kernel_rfl) Tryd.underlying38 hL, tab_of (by kernel_rfl) hL, maxIs_of hsh⟩
end Go.Proofs.YtfkkabonpbpfoaaDoor.Wk
