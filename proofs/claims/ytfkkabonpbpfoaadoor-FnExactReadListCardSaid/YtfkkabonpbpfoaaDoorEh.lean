/- The law of texts of lists, joined. -/
import Derived.Test.YtfkkabonpbpfoaaDoorEg
set_option linter.unusedSimpArgs false
set_option linter.unusedVariables false
namespace Go.Proofs.YtfkkabonpbpfoaaDoor.Wk
open Go.RowKit

section
variable {H : Type} {enc : TypeId × Value → H} {P : Program} {w : World} {base : Nat} {spare : Nat → Bool} {held : Bool}
theorem wf64 {n : Int} (wn : (Lit.int .i64 n).wf = true) : -9223372036854775808 ≤ n ∧ n ≤ 9223372036854775807 := by
  have h1 : IntKind.i64.min = -9223372036854775808 := by decide
  have h2 : IntKind.i64.max = 9223372036854775807 := by decide
  simp only [Lit.wf, h1, h2, Bool.and_eq_true, decide_eq_true_eq] at wn
  exact wn
/-- A slice of numbers that are int64s. -/
def RowJ (w : World) (v : Value) (n : Nat) (f : Nat → Int) : Prop := RowI w v n f ∧ ∀ j, j < n → -9223372036854775808 ≤ f j ∧ f j ≤ 9223372036854775807
theorem rowI_open {t e : TypeId} {fuel : Nat} {x : DataW H × List MemPlace} {ao : Option Addr} {len cap : Nat} (ht : P.underlying t = some (.slice e)) (he : P.underlying e = some (.int .i64)) (hc : P.cellsOf e = 1)
    (h : DataW.trod enc P w base spare held fuel t (Value.slice ao len cap).cells.toList = some x) : ∃ f, RowJ w (.slice ao len cap) len f := by
  rcases Go.ChangeShapes.open_ints ht he hc h with ⟨hcs, _⟩ | ⟨a, l, c, zs, hcs, hb, hl, hm, hz, hx, hV, hw⟩
  · simp [Value.cells] at hcs
    obtain ⟨rfl, rfl, rfl⟩ := hcs
    exact ⟨fun _ => 0, ⟨none, 0, rfl, Nat.zero_le _, fun i hi => absurd hi (by omega)⟩, fun i hi => absurd hi (by omega)⟩
  · simp [Value.cells] at hcs
    obtain ⟨rfl, rfl, rfl⟩ := hcs
    have hle : len ≤ zs.length := by rw [hz]; split <;> omega
    refine ⟨fun i => zs.getD i 0, ⟨some a, cap, rfl, by omega, fun i hi => ?_⟩, fun i hi => ?_⟩
    · have h1 := hV i (by omega)
      refine ⟨a, rfl, ?_, h1⟩
      have := cell_lt h1; rwa [add_block] at this
    · refine wf64 (hw _ ?_)
      show zs.getD i 0 ∈ zs
      rw [List.getD_eq_getElem?_getD, List.getElem?_eq_getElem (by omega)]
      exact List.getElem_mem _
end

set_option maxHeartbeats 1600000 in
theorem list_law (v : Value) (n : Nat) (f : Nat → Int) (w : World) (hR : RowI w v n f) (hbd : ∀ j, j < n → -9223372036854775808 ≤ f j ∧ f j ≤ 9223372036854775807) (ht : Tab w) :
    Calls Tryd.prog 5 #[v] w fun e w' => e = .returned (.bool true) ∧ Below w.heap.size w w' := by
  by_cases hn : n ≤ 1048576
  · have HT := Lib.hid (fun u (h : RowI u v n f) => toI v n f u h hn)
    have HR := Lib.hid hR
    have HTb := Lib.hid ht
    have HI := Lib.hid (fun v u (h : RowI u v n f) => implListText v n f u h (fun j hj u2 h2 => implDecimal (f j) (hbd j hj).1 (hbd j hj).2 u2 h2))
    have HS := Lib.hid (fun v u (h : RowI u v n f) => specListText v n f u h)
    obtain ⟨ao, cap, rfl, hm, hc⟩ := hR
    clear hm hc ht hbd
    unfold RL at HI HS
    generalize hx : (if listB f n then (⟨(textL f n).toArray⟩ : ByteArray) else ⟨#[]⟩) = x at HI HS
    generalize listB f n = b at HI HS hx
    clear hx
    go_enter Tryd.func5, Tryd.ntmps5
    go_wp2_with fail
    refine (HT.out _ HR.out).mono ?_; rintro e u1 ⟨v1, rfl, hv1, hb1⟩
    have V1 := Lib.hid hv1
    have B1 := Lib.hid hb1
    clear hv1 hb1
    go_wp2_with fail
    refine (HS.out _ _ V1.out).mono ?_; rintro e u2 ⟨rfl, hb2⟩
    have B2 : Hid (Below w.heap.size w u2) := B1.out.trans (hb2.mono B1.out.size)
    clear hb2 B1 V1
    go_wp2_with fail
    refine (HT.out _ (HR.out.below B2.out)).mono ?_; rintro e u3 ⟨v2, rfl, hv2, hb2⟩
    have V2 := Lib.hid hv2
    have B3 : Hid (Below w.heap.size w u3) := B2.out.trans (hb2.mono B2.out.size)
    clear hv2 hb2 B2
    go_wp2_with fail
    refine (HI.out _ _ V2.out (HTb.out.below B3.out)).mono ?_; rintro e u4 ⟨rfl, hb4⟩
    have V3 : Hid (RowI u4 v2 n f) := V2.out.below hb4
    have B4 : Hid (Below w.heap.size w u4) := B3.out.trans (hb4.mono B3.out.size)
    clear hb4 B3 V2
    go_wp2_with fail
    refine (HT.out _ (HR.out.below B4.out)).mono ?_; rintro e u6 ⟨v3, rfl, hv3, hb3⟩
    have V5 := Lib.hid hv3
    have V6 := Lib.hid (V3.out.below hb3)
    have B6 : Hid (Below w.heap.size w u6) := B4.out.trans (hb3.mono B4.out.size)
    clear hv3 hb3 B4 V3
    go_wp2_with fail
    refine (eqI _ _ _ _ _ V6.out V5.out).mono ?_; rintro e u7 ⟨rfl, m7, hu⟩
    have B7 : Hid (Below w.heap.size w u7) := by rw [hu]; exact Go.below_drewN B6.out _
    clear hu B6 V5 V6
    go_wp2
    go_ret
    exact ⟨rfl, B7.out⟩
  · obtain ⟨ao, cap, rfl, hm, hc⟩ := hR
    have hm2 : n ≤ 9223372036854775807 := by unfold maxLen at hm; omega
    clear hm hc hbd ht
    go_enter Tryd.func5, Tryd.ntmps5
    go_wp2
    go_ret
    exact ⟨rfl, Below.refl _ _⟩
theorem fnExactListText_walk (v : Value) (n : Nat) (f : Nat → Int) {W : World} (hR : RowJ W v n f) (hL : laidMet Tryd.prog Rows.fnExactListTextRow.laid W) : Calls Tryd.prog 5 #[v] W fun e w' => e = .returned (.bool true) ∧ Below W.heap.size W w' := list_law v n f W hR.1 hR.2 (tab_of (by kernel_rfl) hL)
end Go.Proofs.YtfkkabonpbpfoaaDoor.Wk
