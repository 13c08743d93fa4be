/- The law of tenths of decibels. -/
import Derived.Test.YthbinacchpjkmaaVc
set_option linter.unusedSimpArgs false
set_option linter.unusedVariables false
namespace Go.Proofs.Ythbinacchpjkmaa.Wk
open Go.RowKit Fl

theorem specFinite (x : Nat) (w : World) : Calls Try.prog 59 #[.float .f32 x] w fun e w' => e = .returned (.bool (finB x)) ∧ ∃ n, w' = w.drewN n := by
  go_enter Try.func59, Try.ntmps59
  go_wp2
  go_ret
  exact ⟨retB (finB_eq x w), _, rfl⟩
theorem specTenthsCore (p : Nat) (hf : fin S p) (hx : Pos (wideF p)) (w : World) : Calls Try.prog 60 #[.float .f32 p] w fun e w' => ∃ z E m, Nrm (wideF p) z E ∧ e = .returned (.int .i64 (tenI z E)) ∧ w' = w.drewN m := by
  obtain ⟨hE, hY⟩ := wide_fin hf
  have HL := Lib.hid (fun u => specLogWide (wideF p) hx u)
  have HX := Lib.hid hx
  have k2 := cHalf
  have k7 := cDb
  clear hf hE hx
  generalize wideF p = x0 at *
  go_enter Try.func60, Try.ntmps60
  go_wp2_with fail
  refine (HL.out _).mono ?_; rintro e w' ⟨z, E, r, m, hN, rfl, hr0, rfl⟩
  have HN := Lib.hid hN
  obtain ⟨_, hfi, hfe⟩ := hN.vals HX.out
  have hFZ := fz_tenR hfi hfe
  have HFZ := Lib.hid hFZ
  have hcv := fun u => ten_conv hFZ u
  clear hN hfi hfe hFZ HL
  go_wp2_with (first | (go_at_call 61; refine (mathFloor2 _ (tenR z E) (by simp only [tenR, wDb, wHalf, *]) HFZ.out _).mono ?_; rintro e w' ⟨rfl, rfl⟩) | (first | (refine wpList_fl _ rfl .add (by simp) _ _ _ _ _ _ _ rfl rfl rfl ?_; intro r n hr) | (refine wpList_fl _ rfl .sub (by simp) _ _ _ _ _ _ _ rfl rfl rfl ?_; intro r n hr) | (refine wpList_fl _ rfl .mul (by simp) _ _ _ _ _ _ _ rfl rfl rfl ?_; intro r n hr) | (refine wpList_fl _ rfl .quo (by simp) _ _ _ _ _ _ _ rfl rfl rfl ?_; intro r n hr) | (refine wpList_cmp _ rfl .lss (by simp) _ _ _ _ _ _ _ rfl rfl rfl ?_; try simp only [*]) | (refine wpList_cmp _ rfl .geq (by simp) _ _ _ _ _ _ _ rfl rfl rfl ?_; try simp only [*]) | (refine wpList_cmp _ rfl .gtr (by simp) _ _ _ _ _ _ _ rfl rfl rfl ?_; try simp only [*]) | (refine wpList_cmp _ rfl .neq (by simp) _ _ _ _ _ _ _ rfl rfl rfl ?_; try simp only [*]) | (refine wpList_cmp _ rfl .eql (by simp) _ _ _ _ _ _ _ rfl rfl rfl ?_; try simp only [*]) | (refine wpList_cmp _ rfl .leq (by simp) _ _ _ _ _ _ _ rfl rfl rfl ?_; try simp only [*]) | (refine wpList_neg _ rfl _ _ _ _ rfl rfl ?_; intro r hr)))
  go_ret
  exact ⟨z, E, _, HN.out, rfl, rfl⟩
/-- What both give: for what no power is, nothing. -/
def RTt (p : Nat) (w : World) (e : Ending) (w' : World) : Prop :=
  ((fin S p ∧ 0 < sV S p) ∧ RTn (wideF p) w e w') ∨ (¬ (fin S p ∧ 0 < sV S p) ∧ (e = .returned (.tuple #[.int .i64 0, .bool false]) ∧ ∃ m, w' = w.drewN m))
theorem ten_ways (p : Nat) : (¬ fin S p) ∨ (fin S p ∧ FloatKind.f32.format.order p 0 = some .gt ∧ 0 < sV S p) ∨ (fin S p ∧ (FloatKind.f32.format.order p 0 = some .lt ∨ FloatKind.f32.format.order p 0 = some .eq) ∧ ¬ 0 < sV S p) := by
  by_cases h : fin S p
  · right
    have ho : FloatKind.f32.format.order p 0 = some (compare (sV S p) (sV S 0)) := order_fin S h fin0S
    rw [sV0S] at ho
    simp only [compare, compareOfLessAndEq] at ho
    by_cases h1 : sV S p < 0
    · rw [if_pos h1] at ho; exact .inr ⟨h, .inl ho, by omega⟩
    · rw [if_neg h1] at ho
      by_cases h2 : sV S p = 0
      · rw [if_pos h2] at ho; exact .inr ⟨h, .inr ho, by omega⟩
      · rw [if_neg h2] at ho; exact .inl ⟨h, ho, by omega⟩
  · exact .inl h
theorem implTenthsBad (p : Nat) (h : finB p = false ∨ (finB p = true ∧ (FloatKind.f32.format.order p 0 = some .lt ∨ FloatKind.f32.format.order p 0 = some .eq))) (w : World) : Calls Try.prog 29 #[.float .f32 p] w fun e w' => e = .returned (.tuple #[.int .i64 0, .bool false]) ∧ ∃ m, w' = w.drewN m := by
  rcases h with hB | ⟨hB, ho | ho⟩
  · have HR : Hid True := trivial
    go_enter Try.func29, Try.ntmps29
    go_wp2_with (first | (go_at_call 52; refine (implIsFinite _ _).mono ?_; rintro e w' ⟨rfl, n, rfl⟩))
    go_ret2
    exact ⟨rfl, _, rfl⟩
  all_goals
    go_enter Try.func29, Try.ntmps29
    go_wp2_with (first | (go_at_call 52; refine (implIsFinite _ _).mono ?_; rintro e w' ⟨rfl, n, rfl⟩))
    go_ret2
    exact ⟨rfl, _, rfl⟩
theorem specTenthsBad (p : Nat) (h : finB p = false ∨ (finB p = true ∧ (FloatKind.f32.format.order p 0 = some .lt ∨ FloatKind.f32.format.order p 0 = some .eq))) (w : World) : Calls Try.prog 28 #[.float .f32 p] w fun e w' => e = .returned (.tuple #[.int .i64 0, .bool false]) ∧ ∃ m, w' = w.drewN m := by
  rcases h with hB | ⟨hB, ho | ho⟩
  · have HR : Hid True := trivial
    go_enter Try.func28, Try.ntmps28
    go_wp2_with (first | (go_at_call 59; refine (specFinite _ _).mono ?_; rintro e w' ⟨rfl, n, rfl⟩))
    go_ret2
    exact ⟨rfl, _, rfl⟩
  all_goals
    go_enter Try.func28, Try.ntmps28
    go_wp2_with (first | (go_at_call 59; refine (specFinite _ _).mono ?_; rintro e w' ⟨rfl, n, rfl⟩))
    go_ret2
    exact ⟨rfl, _, rfl⟩
theorem specTenthsGood (p : Nat) (hf : fin S p) (ho : FloatKind.f32.format.order p 0 = some .gt) (hx : Pos (wideF p)) (w : World) : Calls Try.prog 28 #[.float .f32 p] w (RTn (wideF p) w) := by
  have hB := finB_fin hf
  have HC := Lib.hid (fun u => specTenthsCore p hf hx u)
  clear hf hx
  generalize wideF p = x0 at *
  go_enter Try.func28, Try.ntmps28
  go_wp2_with (first | (go_at_call 59; refine (specFinite _ _).mono ?_; rintro e w' ⟨rfl, n, rfl⟩) | (go_at_call 60; refine (HC.out _).mono ?_; rintro e w' ⟨z, E, m, hN, rfl, rfl⟩; have HN := Lib.hid hN; clear hN))
  go_ret2
  exact ⟨z, E, _, HN.out, rfl, rfl⟩
theorem implTenths (p : Nat) (w : World) : Calls Try.prog 29 #[.float .f32 p] w (RTt p w) := by
  rcases ten_ways p with h | ⟨h, ho, h0⟩ | ⟨h, ho, h0⟩
  · refine (implTenthsBad p (.inl (finB_not h)) w).mono ?_
    intro e w' hr
    exact .inr ⟨fun c => h c.1, hr⟩
  · refine (implTenthsCore p h ho (pos_of h h0) w).mono ?_
    intro e w' hr
    exact .inl ⟨⟨h, h0⟩, hr⟩
  · refine (implTenthsBad p (.inr ⟨finB_fin h, ho⟩) w).mono ?_
    intro e w' hr
    exact .inr ⟨fun c => h0 c.2, hr⟩
theorem specTenths (p : Nat) (w : World) : Calls Try.prog 28 #[.float .f32 p] w (RTt p w) := by
  rcases ten_ways p with h | ⟨h, ho, h0⟩ | ⟨h, ho, h0⟩
  · refine (specTenthsBad p (.inl (finB_not h)) w).mono ?_
    intro e w' hr
    exact .inr ⟨fun c => h c.1, hr⟩
  · refine (specTenthsGood p h ho (pos_of h h0) w).mono ?_
    intro e w' hr
    exact .inl ⟨⟨h, h0⟩, hr⟩
  · refine (specTenthsBad p (.inr ⟨finB_fin h, ho⟩) w).mono ?_
    intro e w' hr
    exact .inr ⟨fun c => h0 c.2, hr⟩
/-- As a pair, whatever the way. -/
theorem RTt.pair {p : Nat} : ∃ (n : Int) (b : Bool), ∀ {w w' : World} {e : Ending}, RTt p w e w' → e = .returned (.tuple #[.int .i64 n, .bool b]) ∧ ∃ m, w' = w.drewN m := by
  by_cases h : fin S p ∧ 0 < sV S p
  · by_cases hx : ∃ z E, Nrm (wideF p) z E
    · obtain ⟨z, E, hN⟩ := hx
      refine ⟨tenI z E, true, fun {w w' e} hr => ?_⟩
      replace hr : RTn (wideF p) w e w' := by
        rcases hr with ⟨_, hr⟩ | ⟨hn, _⟩
        · exact hr
        · exact absurd h hn
      obtain ⟨z', E', m, hN', rfl, rfl⟩ := hr
      obtain ⟨rfl, rfl⟩ := hN.unique hN'
      exact ⟨rfl, m, rfl⟩
    · refine ⟨0, true, fun {w w' e} hr => ?_⟩
      replace hr : RTn (wideF p) w e w' := by
        rcases hr with ⟨_, hr⟩ | ⟨hn, _⟩
        · exact hr
        · exact absurd h hn
      obtain ⟨z', E', m, hN', _, _⟩ := hr
      exact absurd ⟨z', E', hN'⟩ hx
  · refine ⟨0, false, fun {w w' e} hr => ?_⟩
    rcases hr with ⟨hn, _⟩ | ⟨_, hr⟩
    · exact absurd hn h
    · exact hr
theorem fnExactTenthsOf_walk (a : Nat) (wa : (Lit.float .f32 a).wf = true) (w : World) :
    Calls Try.prog 10 #[.float .f32 a] w fun e w' => e = .returned (.bool true) ∧ Below w.heap.size w w' := by
  clear wa
  obtain ⟨n, b, hp⟩ := RTt.pair (p := a)
  have HS := Lib.hid (fun u => (specTenths a u).mono fun e w' h => hp h)
  have HI := Lib.hid (fun u => (implTenths a u).mono fun e w' h => hp h)
  clear hp
  go_enter Try.func10, Try.ntmps10
  go_wp2_with fail
  refine (HS.out _).mono ?_; rintro e w1 ⟨rfl, m1, rfl⟩
  go_wp2_with fail
  refine (HI.out _).mono ?_; rintro e w2 ⟨rfl, m2, rfl⟩
  go_wp2
  go_ret
  exact ⟨rfl, bdrewN _ _⟩
end Go.Proofs.Ythbinacchpjkmaa.Wk
