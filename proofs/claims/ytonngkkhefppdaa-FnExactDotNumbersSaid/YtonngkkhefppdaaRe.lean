/- The law of products. -/
import Derived.Test.YtonngkkhefppdaaRd
set_option linter.unusedSimpArgs false
set_option linter.unusedVariables false
namespace Go.Proofs.Ytonngkkhefppdaa.Wk
open Go.RowKit Fl

set_option maxHeartbeats 3200000 in
theorem dot_law (a : Value) (n : Nat) (f : Nat → Nat) (b : Value) (n2 : Nat) (g : Nat → Nat) (w : World) (hA : RowF w a n f) (hB : RowF w b n2 g) :
    Calls Try.prog 5 #[a, b] w fun e w' => e = .returned (.bool true) ∧ Below w.heap.size w w' := by
  have RA := Lib.hid hA
  have RB := Lib.hid hB
  obtain ⟨ao, cap, rfl, hm, hc⟩ := hA
  obtain ⟨bo, cap2, rfl, hm', hc'⟩ := hB
  have hm2 : n ≤ 9223372036854775807 := by unfold maxLen at hm; omega
  have hm3 : n2 ≤ 9223372036854775807 := by unfold maxLen at hm'; omega
  clear hm hc hm' hc'
  by_cases hn : n ≤ 1048576
  by_cases hn2 : n2 ≤ 1048576
  · have HTa := Lib.hid (fun u (h : RowF u (.slice ao n cap) n f) => toF _ n f u h hn)
    have HTb := Lib.hid (fun u (h : RowF u (.slice bo n2 cap2) n2 g) => toF _ n2 g u h hn2)
    go_enter Try.func5, Try.ntmps5
    have HB : Hid (Below w.heap.size w w) := Below.refl _ _
    go_wp2_with fail
    refine (HTa.out _ RA.out).mono ?_; rintro e u1 ⟨v1, rfl, hv, hb⟩
    have BB := Lib.hid hb
    replace RA : Hid (RowF u1 (.slice ao n cap) n f) := RA.out.below BB.out
    replace RB : Hid (RowF u1 (.slice bo n2 cap2) n2 g) := RB.out.below BB.out
    have R1 := Lib.hid hv
    replace HB : Hid (Below w.heap.size w u1) := HB.out.trans (BB.out.mono HB.out.size)
    clear hv hb BB
    go_wp2_with fail
    refine (HTb.out _ RB.out).mono ?_; rintro e u2 ⟨v2, rfl, hv, hb⟩
    have BB := Lib.hid hb
    replace RA : Hid (RowF u2 (.slice ao n cap) n f) := RA.out.below BB.out
    replace RB : Hid (RowF u2 (.slice bo n2 cap2) n2 g) := RB.out.below BB.out
    replace R1 : Hid (RowF u2 v1 n f) := R1.out.below BB.out
    have R2 := Lib.hid hv
    replace HB : Hid (Below w.heap.size w u2) := HB.out.trans (BB.out.mono HB.out.size)
    clear hv hb BB
    go_wp2_with fail
    refine (specDotNumbers _ _ _ _ _ _ _ R1.out R2.out).mono ?_; rintro e u3 ⟨r1, m1, rfl, hr, hu⟩
    have S1 := Lib.hid hr
    have BB : Hid (Below u2.heap.size u2 u3) := by rw [hu]; exact bdrewN _ _
    replace RA : Hid (RowF u3 (.slice ao n cap) n f) := RA.out.below BB.out
    replace RB : Hid (RowF u3 (.slice bo n2 cap2) n2 g) := RB.out.below BB.out
    replace R1 : Hid (RowF u3 v1 n f) := R1.out.below BB.out
    replace R2 : Hid (RowF u3 v2 n2 g) := R2.out.below BB.out
    replace HB : Hid (Below w.heap.size w u3) := HB.out.trans (BB.out.mono HB.out.size)
    clear hu BB hr 
    clear R1
    clear R2
    go_wp2_with fail
    refine (HTa.out _ RA.out).mono ?_; rintro e u4 ⟨v4, rfl, hv, hb⟩
    have BB := Lib.hid hb
    replace RA : Hid (RowF u4 (.slice ao n cap) n f) := RA.out.below BB.out
    replace RB : Hid (RowF u4 (.slice bo n2 cap2) n2 g) := RB.out.below BB.out
    have X1 := Lib.hid hv
    replace HB : Hid (Below w.heap.size w u4) := HB.out.trans (BB.out.mono HB.out.size)
    clear hv hb BB
    go_wp2_with fail
    refine (HTb.out _ RB.out).mono ?_; rintro e u5 ⟨v5, rfl, hv, hb⟩
    have BB := Lib.hid hb
    replace RA : Hid (RowF u5 (.slice ao n cap) n f) := RA.out.below BB.out
    replace RB : Hid (RowF u5 (.slice bo n2 cap2) n2 g) := RB.out.below BB.out
    replace X1 : Hid (RowF u5 v4 n f) := X1.out.below BB.out
    have X2 := Lib.hid hv
    replace HB : Hid (Below w.heap.size w u5) := HB.out.trans (BB.out.mono HB.out.size)
    clear hv hb BB
    go_wp2_with fail
    refine (implDotNumbers _ _ _ _ _ _ _ X1.out X2.out).mono ?_; rintro e u6 ⟨r2, m2, rfl, hr, hu⟩
    have S2 := Lib.hid hr
    have BB : Hid (Below u5.heap.size u5 u6) := by rw [hu]; exact bdrewN _ _
    replace RA : Hid (RowF u6 (.slice ao n cap) n f) := RA.out.below BB.out
    replace RB : Hid (RowF u6 (.slice bo n2 cap2) n2 g) := RB.out.below BB.out
    replace X1 : Hid (RowF u6 v4 n f) := X1.out.below BB.out
    replace X2 : Hid (RowF u6 v5 n2 g) := X2.out.below BB.out
    replace HB : Hid (Below w.heap.size w u6) := HB.out.trans (BB.out.mono HB.out.size)
    clear hu BB hr
    go_wp2_with fail
    refine (sameF _ _ (by rw [cvw, cvw, S1.out, S2.out]) _).mono ?_; rintro e u7 ⟨rfl, m3, hu⟩
    rw [World.drewN_drewN] at hu
    have BB : Hid (Below u6.heap.size u6 u7) := by rw [hu]; exact bdrewN _ _
    replace RA : Hid (RowF u7 (.slice ao n cap) n f) := RA.out.below BB.out
    replace RB : Hid (RowF u7 (.slice bo n2 cap2) n2 g) := RB.out.below BB.out
    replace X1 : Hid (RowF u7 v4 n f) := X1.out.below BB.out
    replace X2 : Hid (RowF u7 v5 n2 g) := X2.out.below BB.out
    replace HB : Hid (Below w.heap.size w u7) := HB.out.trans (BB.out.mono HB.out.size)
    clear hu BB 
    go_wp2_with fail
    refine (HTa.out _ RA.out).mono ?_; rintro e u8 ⟨v8, rfl, hv, hb⟩
    have BB := Lib.hid hb
    replace RA : Hid (RowF u8 (.slice ao n cap) n f) := RA.out.below BB.out
    replace RB : Hid (RowF u8 (.slice bo n2 cap2) n2 g) := RB.out.below BB.out
    replace X1 : Hid (RowF u8 v4 n f) := X1.out.below BB.out
    replace X2 : Hid (RowF u8 v5 n2 g) := X2.out.below BB.out
    have Y1 := Lib.hid hv
    replace HB : Hid (Below w.heap.size w u8) := HB.out.trans (BB.out.mono HB.out.size)
    clear hv hb BB
    go_wp2_with fail
    refine (eqF _ _ _ _ _ X1.out Y1.out).mono ?_; rintro e u9 ⟨rfl, m4, hu⟩
    have BB : Hid (Below u8.heap.size u8 u9) := by rw [hu]; exact bdrewN _ _
    replace RA : Hid (RowF u9 (.slice ao n cap) n f) := RA.out.below BB.out
    replace RB : Hid (RowF u9 (.slice bo n2 cap2) n2 g) := RB.out.below BB.out
    replace X1 : Hid (RowF u9 v4 n f) := X1.out.below BB.out
    replace X2 : Hid (RowF u9 v5 n2 g) := X2.out.below BB.out
    replace Y1 : Hid (RowF u9 v8 n f) := Y1.out.below BB.out
    replace HB : Hid (Below w.heap.size w u9) := HB.out.trans (BB.out.mono HB.out.size)
    clear hu BB 
    go_wp2_with fail
    refine (HTb.out _ RB.out).mono ?_; rintro e u10 ⟨v10, rfl, hv, hb⟩
    have BB := Lib.hid hb
    replace RA : Hid (RowF u10 (.slice ao n cap) n f) := RA.out.below BB.out
    replace RB : Hid (RowF u10 (.slice bo n2 cap2) n2 g) := RB.out.below BB.out
    replace X1 : Hid (RowF u10 v4 n f) := X1.out.below BB.out
    replace X2 : Hid (RowF u10 v5 n2 g) := X2.out.below BB.out
    replace Y1 : Hid (RowF u10 v8 n f) := Y1.out.below BB.out
    have Y2 := Lib.hid hv
    replace HB : Hid (Below w.heap.size w u10) := HB.out.trans (BB.out.mono HB.out.size)
    clear hv hb BB
    go_wp2_with fail
    refine (eqF _ _ _ _ _ X2.out Y2.out).mono ?_; rintro e u11 ⟨rfl, m5, hu⟩
    have BB : Hid (Below u10.heap.size u10 u11) := by rw [hu]; exact bdrewN _ _
    replace RA : Hid (RowF u11 (.slice ao n cap) n f) := RA.out.below BB.out
    replace RB : Hid (RowF u11 (.slice bo n2 cap2) n2 g) := RB.out.below BB.out
    replace X1 : Hid (RowF u11 v4 n f) := X1.out.below BB.out
    replace X2 : Hid (RowF u11 v5 n2 g) := X2.out.below BB.out
    replace Y1 : Hid (RowF u11 v8 n f) := Y1.out.below BB.out
    replace Y2 : Hid (RowF u11 v10 n2 g) := Y2.out.below BB.out
    replace HB : Hid (Below w.heap.size w u11) := HB.out.trans (BB.out.mono HB.out.size)
    clear hu BB 
    go_wp2
    go_ret
    exact ⟨rfl, HB.out⟩
  · go_enter Try.func5, Try.ntmps5
    go_wp2
    go_ret
    exact ⟨rfl, Below.refl _ _⟩
  · go_enter Try.func5, Try.ntmps5
    go_wp2
    go_ret
    exact ⟨rfl, Below.refl _ _⟩
theorem fnExactDotNumbers_walk (a : Value) (n : Nat) (f : Nat → Nat) {W : World} (hA : RowF W a n f) (b : Value) (n2 : Nat) (g : Nat → Nat) (hB : RowF W b n2 g) : Calls Try.prog 5 #[a, b] W fun e w' => e = .returned (.bool true) ∧ Below W.heap.size W w' := dot_law a n f b n2 g W hA hB
end Go.Proofs.Ytonngkkhefppdaa.Wk
