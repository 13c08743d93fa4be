/- Texts of lists of whole numbers, the reference's. -/
import Derived.Test.YtfkkabonpbpfoaaDoorEa
import Derived.Lib.Join
set_option linter.unusedSimpArgs false
set_option linter.unusedVariables false
namespace Go.Proofs.YtfkkabonpbpfoaaDoor.Wk
open Go.RowKit

def inR (n : Int) : Bool := inB n (-1000000000000000) 1000000000000000
/-- All so far are within the bounds. -/
def AllR (f : Nat → Int) (k : Nat) : Prop := ∀ j, j < k → inR (f j) = true
theorem AllR.zero (f : Nat → Int) : AllR f 0 := fun j h => absurd h (by omega)
theorem AllR.succ {f : Nat → Int} {k : Nat} (h : AllR f k) (hk : inR (f k) = true) : AllR f (k + 1) := fun j hj => by
  by_cases e : j = k
  · subst e; exact hk
  · exact h j (by omega)
open Classical in
/-- It is a list of few numbers that are not too great. -/
noncomputable def listB (f : Nat → Int) (n : Nat) : Bool := decide (AllR f n ∧ n ≤ 64)
theorem listB_bad {f : Nat → Int} {n k : Nat} (hk : k < n) (h : inR (f k) = false) : listB f n = false := by
  unfold listB
  rw [decide_eq_false_iff_not]
  intro c
  have := c.1 k hk
  rw [h] at this; cases this
theorem listB_all {f : Nat → Int} {n : Nat} (h : AllR f n) : listB f n = decide (n ≤ 64) := by
  unfold listB
  exact decide_eq_decide.2 ⟨fun c => c.2, fun c => ⟨h, c⟩⟩
set_option maxHeartbeats 1600000 in
theorem specList (v : Value) (n : Nat) (f : Nat → Int) (w : World) (h : RowI w v n f) : Calls Tryd.prog 24 #[v] w fun e w' => e = .returned (.bool (listB f n)) ∧ w = w' := by
  obtain ⟨ao, cap, rfl, hm, hc⟩ := h
  have hm2 : n ≤ 9223372036854775807 := by unfold maxLen at hm; omega
  have HC := Lib.hid hc
  clear hc hm
  go_enter Tryd.func24, Tryd.ntmps24
  go_wp2_with fail
  go_loop [3] (fun q => ∃ k : Nat, k ≤ n ∧ q = .int .i64 k ∧ Hid (AllR f k)) (fun q => n - (intOf q).toNat)
  case atStart => exact ⟨0, by omega, rfl, AllR.zero f⟩
  case round =>
    obtain ⟨k, hk, rfl, hA⟩ := hrel
    by_cases hlt : k < n
    · obtain ⟨x, rfl, hxb, hcx⟩ := HC.out k hlt
      clear hxb HC
      cases hr : inR (f k)
      · have HB := Lib.hid (listB_bad hlt hr)
        have hr' : inB (f k) (-1000000000000000) 1000000000000000 = false := hr
        clear hr
        go_wp2_with (go_at_call 30; refine (specIn _ _ _ _).mono ?_; rintro e w' ⟨rfl, rfl⟩)
        go_ret
        exact ⟨retB HB.out.symm, rfl⟩
      · have HA2 : Hid (AllR f (k + 1)) := hA.out.succ hr
        have hr' : inB (f k) (-1000000000000000) 1000000000000000 = true := hr
        clear hr
        go_wp2_with (go_at_call 30; refine (specIn _ _ _ _).mono ?_; rintro e w' ⟨rfl, rfl⟩)
        go_round
        case rel => exact ⟨k + 1, by omega, by go_num, HA2⟩
        case measure => simp [intOf]; omega
    · obtain rfl : n = k := by omega
      have HB := Lib.hid (listB_all hA.out)
      go_wp2
      go_ret
      exact ⟨retB (by rw [HB.out]; simp; try omega), rfl⟩
end Go.Proofs.YtfkkabonpbpfoaaDoor.Wk
