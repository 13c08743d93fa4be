/- The law of sums; a row of numbers out of an argument. -/
import Derived.Test.YtonngkkhefppdaaRb
import Derived.Deep.Slices
import Derived.ChangeArms
import Derived.OpenShut
set_option linter.unusedSimpArgs false
set_option linter.unusedVariables false
namespace Go.Proofs.Ytonngkkhefppdaa.Wk
open Go.RowKit Fl

theorem cell_lt {w : World} {a : Addr} {v : Value} (h : w.cell? a = some v) : a.block < w.heap.size := by
  rcases Nat.lt_or_ge a.block w.heap.size with g | g
  · exact g
  · exfalso
    unfold World.cell? at h
    rw [Array.getElem?_eq_none g] at h
    cases h
section
variable {H : Type} {enc : TypeId × Value → H} {P : Program} {w : World} {base : Nat} {spare : Nat → Bool} {held : Bool}
theorem trod_float {t : TypeId} {fuel : Nat} {cs : List Value} {x : DataW H × List MemPlace} {k : FloatKind} (ht : P.underlying t = some (.float k)) (h : DataW.trod enc P w base spare held fuel t cs = some x) : ∃ b, cs = [.float k b] := by
  cases fuel with
  | zero => simp [DataW.trod] at h
  | succ n =>
    unfold DataW.trod at h
    rw [ht] at h
    split at h <;> simp_all
def wordOf : Value → Nat | .float _ b => b | _ => 0
theorem rowF_open {t e : TypeId} {fuel : Nat} {x : DataW H × List MemPlace} {ao : Option Addr} {len cap : Nat} (ht : P.underlying t = some (.slice e)) (he : P.underlying e = some (.float .f32)) (hc : P.cellsOf e = 1)
    (h : DataW.trod enc P w base spare held fuel t (Value.slice ao len cap).cells.toList = some x) : ∃ f, RowF w (.slice ao len cap) len f := by
  rcases Go.Deep.open_slice1 ht hc h with ⟨hcs, _⟩ | ⟨a, l, c, m, n, V, D, Pl, hcs, hb, hl, hm, hmm, hx, hV⟩
  · simp [Value.cells] at hcs
    obtain ⟨rfl, rfl, rfl⟩ := hcs
    exact ⟨fun _ => 0, none, 0, rfl, Nat.zero_le _, fun i hi => absurd hi (by omega)⟩
  · simp [Value.cells] at hcs
    obtain ⟨rfl, rfl, rfl⟩ := hcs
    have hle : len ≤ m := by rw [hmm]; split <;> omega
    refine ⟨fun i => wordOf (V i), some a, cap, rfl, by omega, fun i hi => ?_⟩
    obtain ⟨h1, h2⟩ := hV i (by omega)
    obtain ⟨b, hb⟩ := trod_float he h2
    have hb' : V i = .float .f32 b := by simpa using hb
    refine ⟨a, rfl, ?_, ?_⟩
    · have := cell_lt h1; rwa [add_block] at this
    · show w.cell? (a.add i) = some (.float .f32 (wordOf (V i))); rw [h1, hb']; rfl
end
theorem cvw (x : Nat) (w : World) : can .f64 (cV .f32 x .f64 w) = cop .f32 .f64 (can .f32 x) := cVw_can x w
set_option maxHeartbeats 1600000 in
theorem sum_law (v : Value) (n : Nat) (f : Nat → Nat) (w : World) (hR : RowF w v n f) :
    Calls Try.prog 4 #[v] w fun e w' => e = .returned (.bool true) ∧ Below w.heap.size w w' := by
  by_cases hn : n ≤ 1048576
  · have HT := Lib.hid (fun u (h : RowF u v n f) => toF v n f u h hn)
    have HR := Lib.hid hR
    obtain ⟨ao, cap, rfl, hm, hc⟩ := hR
    clear hm hc
    go_enter Try.func4, Try.ntmps4
    go_wp2_with fail
    refine (HT.out _ HR.out).mono ?_; rintro e u1 ⟨v1, rfl, hv1, hb1⟩
    have V1 := Lib.hid hv1
    have B1 := Lib.hid hb1
    clear hv1 hb1
    go_wp2_with fail
    refine (specSumNumbers _ _ _ _ V1.out).mono ?_; rintro e u2 ⟨r1, m1, rfl, hr1, hu⟩
    have R1 := Lib.hid hr1
    have B2 : Hid (Below w.heap.size w u2) := by rw [hu]; exact Go.below_drewN B1.out _
    clear hr1 hu B1 V1
    go_wp2_with fail
    refine (HT.out _ (HR.out.below B2.out)).mono ?_; rintro e u3 ⟨v2, rfl, hv2, hb2⟩
    have V2 := Lib.hid hv2
    have B3 : Hid (Below w.heap.size w u3) := B2.out.trans (hb2.mono B2.out.size)
    clear hv2 hb2 B2
    go_wp2_with fail
    refine (implSumNumbers _ _ _ _ V2.out).mono ?_; rintro e u4 ⟨r2, m2, rfl, hr2, hu⟩
    have R2 := Lib.hid hr2
    have V3 : Hid (RowF u4 v2 n f) := by rw [hu]; exact V2.out.below (bdrewN _ _)
    have B4 : Hid (Below w.heap.size w u4) := by rw [hu]; exact Go.below_drewN B3.out _
    clear hr2 hu B3 V2
    go_wp2_with fail
    refine (sameF _ _ (by rw [cvw, cvw, R1.out, R2.out]) _).mono ?_; rintro e u5 ⟨rfl, m5, hu⟩
    have V4 : Hid (RowF u5 v2 n f) := by rw [hu, World.drewN_drewN]; exact V3.out.below (bdrewN _ _)
    have B5 : Hid (Below w.heap.size w u5) := by rw [hu, World.drewN_drewN]; exact Go.below_drewN B4.out _
    clear hu B4 V3 R1 R2
    go_wp2_with fail
    refine (HT.out _ (HR.out.below B5.out)).mono ?_; rintro e u6 ⟨v3, rfl, hv3, hb3⟩
    have V5 := Lib.hid hv3
    have V6 := Lib.hid (V4.out.below hb3)
    have B6 : Hid (Below w.heap.size w u6) := B5.out.trans (hb3.mono B5.out.size)
    clear hv3 hb3 B5 V4
    go_wp2_with fail
    refine (eqF _ _ _ _ _ V6.out V5.out).mono ?_; rintro e u7 ⟨rfl, m7, hu⟩
    have B7 : Hid (Below w.heap.size w u7) := by rw [hu]; exact Go.below_drewN B6.out _
    clear hu B6 V5 V6
    go_wp2
    go_ret
    exact ⟨rfl, B7.out⟩
  · obtain ⟨ao, cap, rfl, hm, hc⟩ := hR
    have hm2 : n ≤ 9223372036854775807 := by unfold maxLen at hm; omega
    clear hm hc
    go_enter Try.func4, Try.ntmps4
    go_wp2
    go_ret
    exact ⟨rfl, Below.refl _ _⟩
theorem fnExactSumNumbers_walk (v : Value) (n : Nat) (f : Nat → Nat) {W : World} (hR : RowF W v n f) : Calls Try.prog 4 #[v] W fun e w' => e = .returned (.bool true) ∧ Below W.heap.size W w' := sum_law v n f W hR
end Go.Proofs.Ytonngkkhefppdaa.Wk
