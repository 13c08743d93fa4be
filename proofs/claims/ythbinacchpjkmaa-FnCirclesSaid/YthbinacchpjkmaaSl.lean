/- The walks of 'finite', of two numbers, through the library's search with a function. -/
import Derived.Test.YthbinacchpjkmaaSh
set_option linter.unusedSimpArgs false
set_option linter.unusedVariables false
namespace Go.Proofs.Ythbinacchpjkmaa.Wk
open Go.RowKit Fl

theorem implFinite1 (x : Nat) (w : World) : Calls Try.prog 76 #[.float .f32 x] w fun e w' => e = .returned (.bool (!finB x)) ∧ ∃ n, w' = w.drewN n := by
  go_enter Try.func76, Try.ntmps76
  go_wp2_with (go_at_call 52; refine (implIsFinite _ _).mono ?_; rintro e w' ⟨rfl, n, rfl⟩)
  go_ret
  exact ⟨rfl, _, rfl⟩
def idxI (y x : Nat) : Int := if finB y then (if finB x then -1 else 1) else 0
set_option maxHeartbeats 800000 in
theorem indexFunc (b : Nat) (y x : Nat) (w : World) (h0 : w.cell? ⟨b, 0, none⟩ = some (.float .f32 y)) (h1 : w.cell? ⟨b, 1, none⟩ = some (.float .f32 x)) :
    Calls Try.prog 81 #[.slice (some ⟨b, 0, none⟩) 2 2, .func (.func 76) #[] #[]] w fun e w' => e = .returned (.int .i64 (idxI y x)) ∧ ∃ n, w' = w.drewN n := by
  go_enter Try.func81, Try.ntmps81
  go_wp2_with fail
  go_loopw [8] (fun i wr => ∃ (k m : Nat), k ≤ 2 ∧ i = .int .i64 k ∧ (0 < k → finB y = true) ∧ (1 < k → finB x = true) ∧ wr = w.drewN m) (fun i _ => 3 - (intOf i).toNat)
  case atStart => exact ⟨0, 0, by omega, rfl, fun h => absurd h (by omega), fun h => absurd h (by omega), rfl⟩
  case round =>
    obtain ⟨k, m, hk, rfl, g0, g1, rfl⟩ := hrel
    have G0 := Lib.hid g0
    have G1 := Lib.hid g1
    clear g0 g1
    have hk3 : k = 0 ∨ k = 1 ∨ k = 2 := by omega
    rcases hk3 with rfl | rfl | rfl
    · cases hy : finB y
      · have Hv := Lib.hid (show idxI y x = 0 by unfold idxI; rw [hy]; rfl)
        go_wp2_with (go_at_call 76; refine (implFinite1 _ _).mono ?_; rintro e w' ⟨rfl, n, rfl⟩)
        go_ret
        exact ⟨retI Hv.out.symm, _, rfl⟩
      · go_wp2_with (go_at_call 76; refine (implFinite1 _ _).mono ?_; rintro e w' ⟨rfl, n, rfl⟩)
        go_roundw
        case rel => exact ⟨1, _, by omega, rfl, fun _ => by first | exact hy | trivial, fun h => absurd h (by omega), rfl⟩
        case measure => simp [intOf]
    · have hy := G0.out (by omega)
      cases hx : finB x
      · have Hv := Lib.hid (show idxI y x = 1 by unfold idxI; rw [hy, hx]; rfl)
        go_wp2_with (go_at_call 76; refine (implFinite1 _ _).mono ?_; rintro e w' ⟨rfl, n, rfl⟩)
        go_ret
        exact ⟨retI Hv.out.symm, _, rfl⟩
      · go_wp2_with (go_at_call 76; refine (implFinite1 _ _).mono ?_; rintro e w' ⟨rfl, n, rfl⟩)
        go_roundw
        case rel => exact ⟨2, _, by omega, rfl, fun _ => by first | exact hy | trivial, fun _ => by first | exact hx | trivial, rfl⟩
        case measure => simp [intOf]
    · have hy := G0.out (by omega)
      have hx := G1.out (by omega)
      have Hv := Lib.hid (show idxI y x = -1 by unfold idxI; rw [hy, hx]; rfl)
      go_wp2_with fail
      go_ret
      exact ⟨retI Hv.out.symm, _, rfl⟩
theorem containsFunc (b : Nat) (y x : Nat) (w : World) (h0 : w.cell? ⟨b, 0, none⟩ = some (.float .f32 y)) (h1 : w.cell? ⟨b, 1, none⟩ = some (.float .f32 x)) :
    Calls Try.prog 75 #[.slice (some ⟨b, 0, none⟩) 2 2, .func (.func 76) #[] #[]] w fun e w' => e = .returned (.bool (!(finB y && finB x))) ∧ ∃ n, w' = w.drewN n := by
  have HC := Lib.hid (indexFunc b y x w h0 h1)
  have Hv := Lib.hid (show decide (0 ≤ idxI y x) = !(finB y && finB x) by
    unfold idxI; cases finB y <;> cases finB x <;> decide)
  clear h0 h1
  go_enter Try.func75, Try.ntmps75
  go_wp2_with fail
  refine HC.out.mono ?_; rintro e w' ⟨rfl, n, rfl⟩
  generalize idxI y x = v at *
  go_wp2_with fail
  go_ret
  refine ⟨retB ?_, _, rfl⟩
  rw [← Hv.out]
theorem implFinite2 (b : Nat) (y x : Nat) (w : World) (h0 : w.cell? ⟨b, 0, none⟩ = some (.float .f32 y)) (h1 : w.cell? ⟨b, 1, none⟩ = some (.float .f32 x)) :
    Calls Try.prog 57 #[.slice (some ⟨b, 0, none⟩) 2 2] w fun e w' => e = .returned (.bool (finB y && finB x)) ∧ ∃ n, w' = w.drewN n := by
  have HC := Lib.hid (containsFunc b y x w h0 h1)
  clear h0 h1
  go_enter Try.func57, Try.ntmps57
  go_wp2_with fail
  refine HC.out.mono ?_; rintro e w' ⟨rfl, n, rfl⟩
  go_wp2_with fail
  go_ret
  exact ⟨retB (by cases finB y <;> cases finB x <;> rfl), _, rfl⟩
end Go.Proofs.Ythbinacchpjkmaa.Wk
