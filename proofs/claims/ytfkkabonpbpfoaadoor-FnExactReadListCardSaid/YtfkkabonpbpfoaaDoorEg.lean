/- The law of texts of lists. -/
import Derived.Test.YtfkkabonpbpfoaaDoorEd
import Derived.Test.YtfkkabonpbpfoaaDoorRows
import Derived.Deep.Slices
import Derived.ChangeArms
import Derived.OpenShut
set_option linter.unusedSimpArgs false
set_option linter.unusedVariables false
namespace Go.Proofs.YtfkkabonpbpfoaaDoor.Wk
open Go.RowKit

theorem specListText (v : Value) (n : Nat) (f : Nat → Int) (w : World) (h : RowI w v n f) : Calls Tryd.prog 11 #[v] w (RL f n w) := by
  have HL := Lib.hid (fun u (h : RowI u v n f) => specList v n f u h)
  have H := Lib.hid h
  by_cases hb : listB f n = true
  · have hA : AllR f n ∧ n ≤ 64 := by unfold listB at hb; simpa using hb
    have HT := Lib.hid (fun u (h : RowI u v n f) => specText v n f u h hA.1 hA.2)
    have HV := Lib.hid hb
    rw [hb] at HL
    clear hA hb h
    go_enter Tryd.func11, Tryd.ntmps11
    go_wp2_with fail
    refine (HL.out _ H.out).mono ?_; rintro e w' ⟨rfl, rfl⟩
    go_wp2_with fail
    refine (HT.out _ H.out).mono ?_; rintro e w' ⟨rfl, hB⟩
    have HB := Lib.hid hB
    clear hB
    go_wp2_with fail
    go_ret2
    exact ⟨by rw [HV.out]; rfl, HB.out⟩
  · simp only [Bool.not_eq_true] at hb
    have HV := Lib.hid hb
    rw [hb] at HL
    clear hb h
    go_enter Tryd.func11, Tryd.ntmps11
    go_wp2_with fail
    refine (HL.out _ H.out).mono ?_; rintro e w' ⟨rfl, rfl⟩
    go_wp2_with fail
    go_ret2
    exact ⟨by rw [HV.out]; rfl, Below.refl _ _⟩
end Go.Proofs.YtfkkabonpbpfoaaDoor.Wk
