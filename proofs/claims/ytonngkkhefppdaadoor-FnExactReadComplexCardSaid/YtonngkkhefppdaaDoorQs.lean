/- A region that draws its order, some of whose operations draw their values too (a not-a-number's word): one walk in the order of the text serves every order. After Derived/Deep/Quiet.lean, with one kind of operation more: one that yields SOME value in each world of the class. -/
import Derived.Deep.Quiet
import Derived.Deep.QuietTactic
import Derived.BigQuiet
import Derived.Test.YtonngkkhefppdaaDoorFg
set_option linter.unusedSimpArgs false
set_option linter.unusedVariables false
namespace Go.Proofs.YtonngkkhefppdaaDoor.Soft
open Go.Proofs.YtonngkkhefppdaaDoor.Fl

section
variable {P : Program} {ops : Array Oper} {md : Region.Mode} {C : World → Prop}

/-- It yields a value of which N holds, in a world of the class. -/
def valUpon (C : World → Prop) (N : Value → Prop) : Result Next → Prop
  | .ok (.value u) w' => C w' ∧ N u
  | _ => False

/-- The kinds of operations that may draw their value. -/
def drawKind : Op → Bool
  | .convert _ _ _ => true
  | .binOp _ _ _ _ _ => true
  | _ => false
def callKind : Op → Bool
  | .call _ => true
  | .go _ => true
  | .defer _ => true
  | .move _ => false
  | .assign _ => false
  | .pick _ _ _ => false
  | .load _ _ => false
  | .convert _ _ _ => false
  | .binOp _ _ _ _ _ => false
  | .unOp _ _ _ => false
  | .indexAddr _ _ _ => false
  | .index _ _ _ => false
  | _ => true

theorem value_ne {r : Result Value} {w' : World} {f : FuncId} {args : Array Value} (h : (r.andThen fun a w' => Result.ok (Next.value a) w') = .ok (.enter f args) w') : False := by
  cases r <;> simp at h
theorem value_ne_skip {r : Result Value} {w' : World} (h : (r.andThen fun a w' => Result.ok (Next.value a) w') = .ok .skip w') : False := by
  cases r <;> simp at h
theorem value_neg {α : Type} {r : Result α} {g : α → Value} {w' : World} {f : FuncId} {args : Array Value} (h : (r.andThen fun a w' => Result.ok (Next.value (g a)) w') = .ok (.enter f args) w') : False := by
  cases r <;> simp at h
theorem not_enter {o : Oper} (h : callKind o.op = false) (ev : Operand → Value) (w : World) : ∀ f args w', (execOp ev o).run P w ≠ .ok (.enter f args) w' := by
  intro f args w' he
  cases ho : o.op <;> rw [ho] at h <;> simp only [callKind] at h <;> first | (cases h; done) | skip
  all_goals
    unfold execOp at he
    rw [ho] at he
    simp only [Sem.run_bind, Sem.run_pure] at he
    first
      | exact value_ne he
      | exact value_neg he
      | (cases he; done)
      | (split at he <;> first | exact value_ne he | (cases he; done) | (simp at he; done))

def soft (P : Program) (o : Oper) (a : Act) (C : World → Prop) (next : Act → Prop) : Prop :=
  (drawKind o.op = true ∧ ∀ w, C w → valUpon C (fun u => next (a.put o.dst u)) ((execOp a.eval o).run P w)) ∨ o.quiet P a C next

def wpSoft (P : Program) (ops : Array Oper) (C : World → Prop) (Q : Act → Prop) : List Oper → Act → Prop
  | [], a => Q a
  | o :: rest, a => if Region.wanted o (yielded ops a.tmps) then soft P o a C (wpSoft P ops C Q rest) else wpSoft P ops C Q rest (a.put o.dst undef)

def sOp (P : Program) (ops : Array Oper) (C : World → Prop) (i : Nat) (K : Act → Prop) (a : Act) : Prop :=
  match ops[i]? with
  | none => K a
  | some o => if Region.wanted o (yielded ops a.tmps) then soft P o a C K else K (a.put o.dst undef)

theorem valUpon_mono {N N' : Value → Prop} {r : Result Next} (h : ∀ u, N u → N' u) (hh : valUpon C N r) : valUpon C N' r := by
  unfold valUpon at *
  split at hh
  · exact ⟨hh.1, h _ hh.2⟩
  · exact hh

theorem soft_mono {o : Oper} {a : Act} {K K' : Act → Prop} (h : ∀ a, K a → K' a) (hh : soft P o a C K) : soft P o a C K' := by
  rcases hh with ⟨hk, hh⟩ | hh
  · exact .inl ⟨hk, fun w hw => valUpon_mono (fun u => h _) (hh w hw)⟩
  · exact .inr (Oper.quiet_mono h hh)

theorem sOp_mono {i : Nat} {a : Act} {K K' : Act → Prop} (h : ∀ a, K a → K' a) (hh : sOp P ops C i K a) : sOp P ops C i K' a := by
  unfold sOp at *
  split
  · exact h _ (by simpa [*] using hh)
  · rename_i o ho
    simp only [ho] at hh
    split
    · rename_i hw; simp only [hw, if_true] at hh; exact soft_mono h hh
    · rename_i hw; simp only [hw] at hh; exact h _ hh

def wpAnyS (P : Program) (md : Region.Mode) (ops : Array Oper) (C : World → Prop) (Q : Act → Prop) : Nat → Array Bool → Act → Prop
  | 0, listed, a => Region.ready md ops listed = [] ∧ Q a
  | fuel + 1, listed, a =>
    (Region.ready md ops listed = [] → Q a) ∧
    ∀ i ∈ Region.ready md ops listed, sOp P ops C i (wpAnyS P md ops C Q fuel (listed.setIfInBounds i true)) a

theorem wp_of_soft {o : Oper} {a : Act} {K : Act → Prop} {K' : Act → World → Prop} {Q' : Exit → Act → World → Prop} {w : World} (hw : C w) (h : ∀ a w', C w' → K a → K' a w') (hh : soft P o a C K) : o.wp P a w K' Q' := by
  rcases hh with ⟨_, hh⟩ | hh
  · have h3 := hh w hw
    unfold Oper.wp
    generalize (execOp a.eval o).run P w = r at *
    unfold valUpon at h3
    split at h3
    · simp only [Oper.upon]; exact h _ _ h3.1 h3.2
    · exact h3.elim
  · exact Oper.wp_of_quiet hw h hh

theorem wpOp_of_sOp {i : Nat} {a : Act} {K : Act → Prop} {K' : Act → World → Prop} {Q' : Exit → Act → World → Prop} {w : World} (hC : C w) (h : ∀ a w', C w' → K a → K' a w') (hh : sOp P ops C i K a) : wpOp P ops Q' i K' a w := by
  unfold sOp at hh
  unfold wpOp
  split
  · rename_i ho; simp only [ho] at hh; exact h _ _ hC hh
  · rename_i o ho
    simp only [ho] at hh
    split
    · rename_i hw; simp only [hw, if_true] at hh; exact .inl (wp_of_soft hC h hh)
    · rename_i hw; simp only [hw] at hh; exact h _ _ hC hh

theorem wpAny_of_soft {Q : Act → Prop} {Q' : Exit → Act → World → Prop} (hQ : ∀ a w, C w → Q a → Q' .normal a w) : ∀ (fuel : Nat) (listed : Array Bool) (a : Act) (w : World), C w →
    wpAnyS P md ops C Q fuel listed a → wpAny P md ops Q' fuel listed a w
  | 0, _, _, _, hw, h => ⟨h.1, hQ _ _ hw h.2⟩
  | fuel + 1, _, _, _, hw, h => ⟨fun h0 => hQ _ _ hw (h.1 h0), fun i hi => wpOp_of_sOp hw (fun a' w' hw' => wpAny_of_soft hQ fuel _ a' w' hw') (h.2 i hi)⟩

theorem YieldsIn_sOp {i : Nat} {o : Oper} {v : Value} {a : Act} (hi : ops[i]? = some o) (hy : YieldsIn P ops C o v a) {K : Act → Prop} (h : K (a.put o.dst v)) : sOp P ops C i K a := by
  unfold sOp
  simp only [hi]
  rcases hy with ⟨hw, hv⟩ | ⟨hw, rfl⟩
  · simp only [hw, if_true]; exact .inr ⟨v, hv, h⟩
  · simp only [hw, Bool.false_eq_true, if_false]; exact h

theorem keepY {oi oj : Oper} (hap : oi.apart ops oj = true) (hsi : ∀ cs b, oi.op ≠ .select cs b) {v : Value} (a : Act) (hy : YieldsIn P ops C oi v a) (u : Value) : YieldsIn P ops C oi v (a.put oj.dst u) := by
  obtain ⟨h1, h2, h3⟩ := Oper.apart_spec hap
  exact hy.of_same (execOp_put oi hsi a oj.dst u h3) (wanted_put oi a oj.dst u h3)

theorem sOp_put {j : Nat} {oi oj : Oper} {v : Value} (hj : ops[j]? = some oj) (hap : oi.apart ops oj = true)
    (hsi : ∀ cs b, oi.op ≠ .select cs b) (hsj : ∀ cs b, oj.op ≠ .select cs b) {K : Act → Prop} {a : Act}
    (hy : YieldsIn P ops C oi v a) (h : sOp P ops C j K (a.put oi.dst v)) :
    sOp P ops C j (fun a' => YieldsIn P ops C oi v a' ∧ K (a'.put oi.dst v)) a := by
  obtain ⟨h1, h2, h3⟩ := Oper.apart_spec hap
  unfold sOp at *
  simp only [hj] at *
  rw [wanted_put oj a oi.dst v h1] at h
  split
  · rename_i hw
    simp only [hw, if_true] at h
    rcases h with ⟨hk, h⟩ | h
    · refine .inl ⟨hk, fun w hw' => ?_⟩
      have := h w hw'
      rw [execOp_put oj hsj a oi.dst v h1] at this
      exact valUpon_mono (fun u hu => ⟨keepY hap hsi a hy u, by rw [← Act.put_comm a v u h2]; exact hu⟩) this
    · obtain ⟨u, hu, hn⟩ := h
      refine .inr ⟨u, fun w hw' => ?_, keepY hap hsi a hy u, by rw [← Act.put_comm a v u h2]; exact hn⟩
      have := hu w hw'
      unfold Oper.quietAt at *
      rwa [execOp_put oj hsj a oi.dst v h1] at this
  · rename_i hw
    simp only [hw] at h
    exact ⟨keepY hap hsi a hy _, by rw [← Act.put_comm a v undef h2]; exact h⟩

/-- What yields one value in every world may be taken first. -/
theorem first_A {Q : Act → Prop} {i : Nat} {oi : Oper} {v : Value} (hi : ops[i]? = some oi) (hsel : ∀ (j : Nat) (o : Oper) cs b, ops[j]? = some o → o.op ≠ .select cs b) :
    ∀ (fuel : Nat) (listed : Array Bool) (a : Act),
      (∀ j oj, ops[j]? = some oj → j ≠ i → listed.getD j true = false → (∀ e ∈ oj.after, Region.binds md e = true → e.on ≠ i) → oi.apart ops oj = true) →
      i ∈ Region.ready md ops listed → YieldsIn P ops C oi v a →
      wpAnyS P md ops C Q fuel (listed.setIfInBounds i true) (a.put oi.dst v) → wpAnyS P md ops C Q (fuel + 1) listed a := by
  intro fuel
  induction fuel with
  | zero =>
    intro listed a _ hr hy H
    refine ⟨fun h => (by rw [h] at hr; cases hr), fun j hj => ?_⟩
    by_cases hji : j = i
    · subst hji; exact YieldsIn_sOp hi hy H
    · have := ready_mono hj hji
      rw [H.1] at this
      cases this
  | succ fuel ih =>
    intro listed a hfree hr hy H
    refine ⟨fun h => (by rw [h] at hr; cases hr), fun j hj => ?_⟩
    by_cases hji : j = i
    · subst hji; exact YieldsIn_sOp hi hy H
    · have h1 := H.2 j (ready_mono hj hji)
      obtain ⟨hjun, oj, hoj, hall⟩ := mem_ready.1 hj
      have hnot : ∀ e ∈ oj.after, Region.binds md e = true → e.on ≠ i := fun e he hb heq => by
        have h1 := hall e he hb
        have h0 := (mem_ready.1 hr).1
        rw [heq] at h1
        rcases Nat.lt_or_ge i listed.size with h' | h'
        · simp [h'] at h0 h1; rw [h0] at h1; cases h1
        · simp [Array.getElem?_eq_none h'] at h1
      have h2 := sOp_put hoj (hfree j oj hoj hji hjun hnot) (fun cs b => hsel i oi cs b hi) (fun cs b => hsel j oj cs b hoj) hy h1
      have hfree' : ∀ k ok, ops[k]? = some ok → k ≠ i → (listed.setIfInBounds j true).getD k true = false →
          (∀ e ∈ ok.after, Region.binds md e = true → e.on ≠ i) → oi.apart ops ok = true := fun k ok hk hki hun hno => by
        refine hfree k ok hk hki ?_ hno
        by_cases hjk : j = k
        · subst hjk; exact hjun
        · rw [getD_set_ne true hjk] at hun; exact hun
      refine sOp_mono (fun a' h3 => ih (listed.setIfInBounds j true) a' hfree' (ready_mono hr (Ne.symm hji)) h3.1 ?_) h2
      rw [Array.setIfInBounds_comm _ _ hji]
      exact h3.2

/-- A plain operation behind whichever value: in each world the one value that its run yields. -/
theorem plain_val {o : Oper} {a : Act} {K : Act → Prop} (hp : ∀ w f args w', (execOp a.eval o).run P w ≠ .ok (.enter f args) w') (h : soft P o a C K) :
    ∀ w, C w → ∃ u w', C w' ∧ K (a.put o.dst u) ∧ ((execOp a.eval o).run P w = .ok (.value u) w' ∨ ((execOp a.eval o).run P w = .ok .skip w' ∧ u = undef ∧ w' = w)) := by
  intro w hw
  rcases h with ⟨_, h⟩ | ⟨v, h1, h2⟩
  · have h3 := h w hw
    generalize (execOp a.eval o).run P w = r at *
    unfold valUpon at h3
    split at h3
    · exact ⟨_, _, h3.1, h3.2, .inl rfl⟩
    · exact h3.elim
  · have h3 := h1 w hw
    have h4 := hp w
    unfold Oper.quietAt at h3
    generalize (execOp a.eval o).run P w = r at *
    unfold Oper.quietUpon at h3
    split at h3
    · obtain ⟨e1, e2⟩ := h3; subst e1; subst e2; exact ⟨_, _, hw, h2, .inl rfl⟩
    · obtain ⟨e1, e2⟩ := h3; subst e1; subst e2; exact ⟨_, _, hw, h2, .inr ⟨rfl, rfl, rfl⟩⟩
    · exact absurd rfl (h4 _ _ _)
    · exact h3.elim

/-- What yields some value in each world may be taken first, if no call may come up beside it. -/
theorem first_B {Q : Act → Prop} {i : Nat} {oi : Oper} (hi : ops[i]? = some oi) (hne : ∃ w, C w) (hdk : drawKind oi.op = true) (hsel : ∀ (j : Nat) (o : Oper) cs b, ops[j]? = some o → o.op ≠ .select cs b) :
    ∀ (fuel : Nat) (listed : Array Bool) (a : Act),
      (∀ j oj, ops[j]? = some oj → j ≠ i → listed.getD j true = false → (∀ e ∈ oj.after, Region.binds md e = true → e.on ≠ i) → oi.apart ops oj = true ∧ callKind oj.op = false) →
      i ∈ Region.ready md ops listed → Region.wanted oi (yielded ops a.tmps) = true →
      (∀ w, C w → valUpon C (fun u => wpAnyS P md ops C Q fuel (listed.setIfInBounds i true) (a.put oi.dst u)) ((execOp a.eval oi).run P w)) → wpAnyS P md ops C Q (fuel + 1) listed a := by
  intro fuel
  induction fuel with
  | zero =>
    intro listed a _ hr hwt H
    refine ⟨fun h => (by rw [h] at hr; cases hr), fun j hj => ?_⟩
    by_cases hji : j = i
    · subst hji; unfold sOp; simp only [hi, hwt, if_true]; exact .inl ⟨hdk, H⟩
    · have := ready_mono hj hji
      obtain ⟨w, hw⟩ := hne
      have h3 := H w hw
      unfold valUpon at h3
      split at h3
      · rw [h3.2.1] at this; cases this
      · exact h3.elim
  | succ fuel ih =>
    intro listed a hfree hr hwt H
    refine ⟨fun h => (by rw [h] at hr; cases hr), fun j hj => ?_⟩
    by_cases hji : j = i
    · subst hji; unfold sOp; simp only [hi, hwt, if_true]; exact .inl ⟨hdk, H⟩
    · obtain ⟨hjun, oj, hoj, hall⟩ := mem_ready.1 hj
      have hnot : ∀ e ∈ oj.after, Region.binds md e = true → e.on ≠ i := fun e he hb heq => by
        have h1 := hall e he hb
        have h0 := (mem_ready.1 hr).1
        rw [heq] at h1
        rcases Nat.lt_or_ge i listed.size with h' | h'
        · simp [h'] at h0 h1; rw [h0] at h1; cases h1
        · simp [Array.getElem?_eq_none h'] at h1
      obtain ⟨hap, hck⟩ := hfree j oj hoj hji hjun hnot
      obtain ⟨h1, h2, h3⟩ := Oper.apart_spec hap
      have hsi := fun cs b => hsel i oi cs b hi
      have hsj := fun cs b => hsel j oj cs b hoj
      have hfree' : ∀ k ok, ops[k]? = some ok → k ≠ i → (listed.setIfInBounds j true).getD k true = false →
          (∀ e ∈ ok.after, Region.binds md e = true → e.on ≠ i) → oi.apart ops ok = true ∧ callKind ok.op = false := fun k ok hk hki hun hno => by
        refine hfree k ok hk hki ?_ hno
        by_cases hjk : j = k
        · subst hjk; exact hjun
        · rw [getD_set_ne true hjk] at hun; exact hun
      -- in each world: the value of oi, and what is asked of oj behind it
      have hv : ∀ w, C w → ∃ v w', C w' ∧ (execOp a.eval oi).run P w = .ok (.value v) w' ∧ sOp P ops C j (wpAnyS P md ops C Q fuel ((listed.setIfInBounds i true).setIfInBounds j true)) (a.put oi.dst v) := by
        intro w hw
        have h4 := H w hw
        generalize (execOp a.eval oi).run P w = r at *
        unfold valUpon at h4
        split at h4
        · exact ⟨_, _, h4.1, rfl, h4.2.2 j (ready_mono hj hji)⟩
        · exact h4.elim
      have hiwant : ∀ u, Region.wanted oi (yielded ops (a.put oj.dst u).tmps) = true := fun u => by rw [wanted_put oi a oj.dst u h3]; exact hwt
      have hirun : ∀ u, execOp (a.put oj.dst u).eval oi = execOp a.eval oi := fun u => execOp_put oi hsi a oj.dst u h3
      unfold sOp
      simp only [hoj]
      by_cases hjw : Region.wanted oj (yielded ops a.tmps) = true
      · simp only [hjw, if_true]
        -- the run of oj, in a world w2: one value u; behind it the state serves, whichever value oi yields
        have hu : ∀ w2, C w2 → ∃ u w2', C w2' ∧ ((execOp a.eval oj).run P w2 = .ok (.value u) w2' ∨ ((execOp a.eval oj).run P w2 = .ok .skip w2' ∧ u = undef ∧ w2' = w2)) ∧
            wpAnyS P md ops C Q (fuel + 1) (listed.setIfInBounds j true) (a.put oj.dst u) := by
          intro w2 hw2
          have step : ∀ v, sOp P ops C j (wpAnyS P md ops C Q fuel ((listed.setIfInBounds i true).setIfInBounds j true)) (a.put oi.dst v) →
              ∃ u w2', C w2' ∧ wpAnyS P md ops C Q fuel ((listed.setIfInBounds i true).setIfInBounds j true) ((a.put oi.dst v).put oj.dst u) ∧ ((execOp a.eval oj).run P w2 = .ok (.value u) w2' ∨ ((execOp a.eval oj).run P w2 = .ok .skip w2' ∧ u = undef ∧ w2' = w2)) := by
            intro v hs
            unfold sOp at hs
            simp only [hoj] at hs
            rw [wanted_put oj a oi.dst v h1] at hs
            simp only [hjw, if_true] at hs
            have := plain_val (fun w f args w' => not_enter hck _ w f args w') hs w2 hw2
            rw [execOp_put oj hsj a oi.dst v h1] at this
            exact this
          obtain ⟨w, hw⟩ := hne
          obtain ⟨v, w', _, _, hs⟩ := hv w hw
          obtain ⟨u, w2', hc2, _, hrun⟩ := step v hs
          refine ⟨u, w2', hc2, hrun, ih (listed.setIfInBounds j true) (a.put oj.dst u) hfree' (ready_mono hr (Ne.symm hji)) (hiwant u) ?_⟩
          intro w3 hw3
          obtain ⟨v3, w3', hc3, hr3, hs3⟩ := hv w3 hw3
          obtain ⟨u3, w4, hc4, hk4, hrun4⟩ := step v3 hs3
          have huu : u3 = u := by
            rcases hrun with e | ⟨e, e2, _⟩ <;> rcases hrun4 with g | ⟨g, g2, _⟩ <;> rw [e] at g <;> cases g
            · rfl
            · rw [e2, g2]
          rw [hirun u, hr3]
          refine ⟨hc3, ?_⟩
          show wpAnyS P md ops C Q fuel ((listed.setIfInBounds j true).setIfInBounds i true) ((a.put oj.dst u).put oi.dst v3)
          rw [← huu, ← Act.put_comm a v3 u3 h2, Array.setIfInBounds_comm _ _ hji]
          exact hk4
        by_cases hdj : drawKind oj.op = true
        · left
          refine ⟨hdj, fun w2 hw2 => ?_⟩
          obtain ⟨u, w2', hc2, hrun, hres⟩ := hu w2 hw2
          rcases hrun with e | ⟨e, e2, _⟩
          · rw [e]; exact ⟨hc2, hres⟩
          · exfalso
            -- an operation of these kinds never skips
            cases ho : oj.op <;> rw [ho] at hdj <;> simp only [drawKind] at hdj <;> first | (cases hdj; done) | skip
            all_goals
              unfold execOp at e
              rw [ho] at e
              simp only [Sem.run_bind, Sem.run_pure] at e
              exact value_ne_skip e
        · -- it is quiet behind each value of oi: then its one value is that of every world
          right
          obtain ⟨w, hw⟩ := hne
          obtain ⟨v, w', _, _, hs⟩ := hv w hw
          unfold sOp at hs
          simp only [hoj] at hs
          rw [wanted_put oj a oi.dst v h1] at hs
          simp only [hjw, if_true] at hs
          rcases hs with ⟨hk, _⟩ | ⟨u, hq, hn⟩
          · exact absurd hk hdj
          · have hq' : ∀ w, C w → oj.quietAt P a C w u := fun w2 hw2 => by
              have := hq w2 hw2
              unfold Oper.quietAt at *
              rwa [execOp_put oj hsj a oi.dst v h1] at this
            refine ⟨u, hq', ?_⟩
            obtain ⟨u2, w2', hc2, hrun, hres⟩ := hu w hw
            have hq2 := hq' w hw
            unfold Oper.quietAt at hq2
            rcases hrun with e | ⟨e, e2, _⟩
            · rw [e] at hq2; simp only [Oper.quietUpon] at hq2; rw [← hq2.2]; exact hres
            · rw [e] at hq2; simp only [Oper.quietUpon] at hq2; rw [hq2.2, ← e2]; exact hres
      · simp only [hjw]
        have hjw' : Region.wanted oj (yielded ops a.tmps) = false := by simpa using hjw
        refine ih (listed.setIfInBounds j true) (a.put oj.dst undef) hfree' (ready_mono hr (Ne.symm hji)) (hiwant undef) ?_
        intro w3 hw3
        obtain ⟨v3, w3', hc3, hr3, hs3⟩ := hv w3 hw3
        unfold sOp at hs3
        simp only [hoj] at hs3
        rw [wanted_put oj a oi.dst v3 h1] at hs3
        simp only [hjw', Bool.false_eq_true, if_false] at hs3
        rw [hirun undef, hr3]
        refine ⟨hc3, ?_⟩
        show wpAnyS P md ops C Q fuel ((listed.setIfInBounds j true).setIfInBounds i true) ((a.put oj.dst undef).put oi.dst v3)
        rw [← Act.put_comm a v3 undef h2, Array.setIfInBounds_comm _ _ hji]
        exact hs3

/-! ### The order of the text -/
/-- Behind a drawing operation no call is left that does not wait for it. -/
def plainFrom (md : Region.Mode) (ops : Array Oper) (k : Nat) (o : Oper) : Bool :=
  !drawKind o.op || (List.range ops.size).all fun j => decide (j ≤ k) || (match ops[j]? with | some oj => !callKind oj.op || oj.after.any (fun e => Region.binds md e && e.on == k) | none => true)
def softB (md : Region.Mode) (ops : Array Oper) : Bool := (List.range ops.size).all fun k => match ops[k]? with | some o => plainFrom md ops k o | none => true

theorem plain_spec {k : Nat} {o : Oper} (hB : softB md ops = true) (hk : ops[k]? = some o) (hd : drawKind o.op = true) {j : Nat} {oj : Oper} (hj : ops[j]? = some oj) (hjk : k < j)
    (hno : ∀ e ∈ oj.after, Region.binds md e = true → e.on ≠ k) : callKind oj.op = false := by
  have hks : k < ops.size := by
    rcases Nat.lt_or_ge k ops.size with h | h
    · exact h
    · rw [Array.getElem?_eq_none h] at hk; cases hk
  have hjs : j < ops.size := by
    rcases Nat.lt_or_ge j ops.size with h | h
    · exact h
    · rw [Array.getElem?_eq_none h] at hj; cases hj
  unfold softB at hB
  rw [List.all_eq_true] at hB
  have h1 := hB k (List.mem_range.2 hks)
  simp only [hk] at h1
  unfold plainFrom at h1
  rw [hd] at h1
  simp only [Bool.not_true, Bool.false_or] at h1
  rw [List.all_eq_true] at h1
  have h2 := h1 j (List.mem_range.2 hjs)
  simp only [hj] at h2
  rw [Bool.or_eq_true, Bool.or_eq_true] at h2
  rcases h2 with h2 | h2 | h2
  · have := of_decide_eq_true h2; omega
  · simpa using h2
  · exfalso
    rw [Array.any_eq_true'] at h2
    obtain ⟨e, he, h3⟩ := h2
    rw [Bool.and_eq_true] at h3
    exact hno e he h3.1 (by simpa using h3.2)

theorem wpAnyS_lex {Q : Act → Prop} (hs : Region.noSelect ops = true) (hne : ∃ w, C w) (hP : softB md ops = true) : ∀ (l : List Oper) (k : Nat) (listed : Array Bool) (a : Act), (∀ j, l[j]? = ops[k + j]?) → (∀ j, j < k → listed.getD j true = true) →
    Region.lexFrom md ops l.length k listed = true → wpSoft P ops C Q l a → wpAnyS P md ops C Q l.length listed a
  | [], _, _, _, _, _, hB, h => ⟨by simpa [Region.lexFrom] using hB, h⟩
  | o :: l, k, listed, a, hl, hlt, hB, h => by
    have h0 : ops[k]? = some o := by simpa using (hl 0).symm
    simp only [List.length_cons, Region.lexFrom, Bool.and_eq_true] at hB
    obtain ⟨⟨hr, hf⟩, hB'⟩ := hB
    have hl' : ∀ j, l[j]? = ops[k + 1 + j]? := fun j => by have := hl (j + 1); simpa [Nat.add_assoc, Nat.add_comm 1 j] using this
    have hlt' : ∀ j, j < k + 1 → (listed.setIfInBounds k true).getD j true = true := fun j hj => by
      by_cases e : j = k
      · subst e
        rcases Nat.lt_or_ge j listed.size with g | g
        · simp [g]
        · simp [g]
      · rw [getD_set_ne true (Ne.symm e)]; exact hlt j (by omega)
    unfold wpSoft at h
    by_cases hw : Region.wanted o (yielded ops a.tmps) = true
    · rw [if_pos hw] at h
      rcases h with ⟨hd, h⟩ | ⟨v, hq, hn⟩
      · refine first_B h0 hne hd (Region.noSelect_spec hs) l.length listed a ?_ (by simpa using hr) hw ?_
        · intro j oj hj hjk hun hno
          refine ⟨Region.free_spec h0 hf j oj hj hjk hun hno, plain_spec hP h0 hd hj ?_ hno⟩
          rcases Nat.lt_trichotomy j k with g | g | g
          · rw [hlt j g] at hun; cases hun
          · exact absurd g hjk
          · exact g
        · intro w hwc
          exact valUpon_mono (fun u hu => wpAnyS_lex hs hne hP l (k + 1) _ _ hl' hlt' hB' hu) (h w hwc)
      · exact first_A h0 (Region.noSelect_spec hs) l.length listed a (Region.free_spec h0 hf) (by simpa using hr) (.inl ⟨hw, hq⟩) (wpAnyS_lex hs hne hP l (k + 1) _ _ hl' hlt' hB' hn)
    · rw [if_neg hw] at h
      exact first_A h0 (Region.noSelect_spec hs) l.length listed a (Region.free_spec h0 hf) (by simpa using hr) (.inr ⟨by simpa using hw, rfl⟩) (wpAnyS_lex hs hne hP l (k + 1) _ _ hl' hlt' hB' h)

/-- One walk of the order of the text serves every order, at the class 'w after some draws'. -/
theorem wp_region_soft {id : Nat} {Q : Exit → Act → World → Prop} {a : Act} {w : World} {l : List Oper} (hm : P.follows .mixedOrders = true) (hB : Region.lexB .any l.toArray = true) (hP : softB .any l.toArray = true)
    (h : wpSoft P l.toArray (fun w' => ∃ n, w' = w.drewN n) (fun a' => ∀ w', (∃ n, w' = w.drewN n) → Q .normal a' w') l a) : (Code.region id l.toArray true).wp P Q a w := by
  simp only [Region.lexB, Bool.and_eq_true] at hB
  refine wp_region_any hm (wpAny_of_soft (C := fun w' => ∃ n, w' = w.drewN n) (Q := fun a' => ∀ w', (∃ n, w' = w.drewN n) → Q .normal a' w') (fun _ w' hw' h => h w' hw') _ _ _ _ ⟨1, rfl⟩ ?_)
  have := wpAnyS_lex (P := P) (C := fun w' => ∃ n, w' = w.drewN n) (md := .any) hB.1 ⟨w, 0, rfl⟩ hP l 0 (Array.replicate l.toArray.size false) a (by simp) (fun j hj => absurd hj (by omega)) (by simpa using hB.2) h
  simpa using this

/-! ### Steps of the walk -/
/-- A quiet step: as in the guide's quiet walk. -/
theorem step_quiet {Q : Act → Prop} {a : Act} {o : Oper} {rest : List Oper}
    (h : ∀ K : Act → Prop, (∀ a, wpSoft P ops C Q rest a → K a) → if Region.wanted o (yielded ops a.tmps) then o.quiet P a C K else K (a.put o.dst undef)) : wpSoft P ops C Q (o :: rest) a := by
  have := h _ (fun _ h => h)
  unfold wpSoft
  split
  · rename_i hw; rw [if_pos hw] at this; exact .inr this
  · rename_i hw; rw [if_neg hw] at this; exact this
theorem step_wide {Q : Act → Prop} {w : World} {a : Act} {o : Oper} {rest : List Oper} (hgd : o.guard = none) (t t2 : TypeId) (X : Operand) (x : Nat) (ho : o.op = .convert t t2 X) (hx : a.eval X = .float .f32 x)
    (hs : (P.underlying t).isSome = true) (hd : P.underlying t2 = some (.float .f64))
    (h : ∀ r, can .f64 r = cop .f32 .f64 (can .f32 x) → wpSoft P ops (fun w' => ∃ n, w' = w.drewN n) Q rest (a.put o.dst (.float .f64 r))) : wpSoft P ops (fun w' => ∃ n, w' = w.drewN n) Q (o :: rest) a := by
  unfold wpSoft
  rw [if_pos (by simp [Region.wanted, hgd])]
  refine .inl ⟨by rw [ho]; rfl, ?_⟩
  rintro w' ⟨n, rfl⟩
  have hr : (execOp a.eval o).run P (w.drewN n) = .ok (.value (.float .f64 (cV .f32 x .f64 (w.drewN n)))) ((w.drewN n).drewN (cN .f32 x .f64)) := by
    generalize a.eval = ev at hx ⊢
    simp [execOp, ho, hx, go_sem, run_cv (w.drewN n) t t2 .f32 .f64 x hs hd]
  rw [hr]
  exact ⟨⟨n + cN .f32 x .f64, World.drewN_drewN w n _⟩, h _ (cVw_can x _)⟩
theorem step_fl {Q : Act → Prop} {w : World} {a : Act} {o : Oper} {rest : List Oper} (hgd : o.guard = none) (op : BinOp) (hop : op = .add ∨ op = .sub ∨ op = .mul ∨ op = .quo) (t t2 : TypeId) (X Y : Operand) (k : FloatKind) (x y : Nat) (ho : o.op = .binOp op t X Y t2)
    (hx : a.eval X = .float k x) (hy : a.eval Y = .float k y)
    (h : ∀ r, can k r = fop op k (can k x) (can k y) → wpSoft P ops (fun w' => ∃ n, w' = w.drewN n) Q rest (a.put o.dst (.float k r))) : wpSoft P ops (fun w' => ∃ n, w' = w.drewN n) Q (o :: rest) a := by
  unfold wpSoft
  rw [if_pos (by simp [Region.wanted, hgd])]
  refine .inl ⟨by rw [ho]; rfl, ?_⟩
  rintro w' ⟨n, rfl⟩
  have hr : (execOp a.eval o).run P (w.drewN n) = .ok (.value (.float k (fV op k x y (w.drewN n)))) ((w.drewN n).drewN (fN op k x y)) := by
    have e := run_fl (P := P) (w.drewN n) t k x y op hop
    generalize a.eval = ev at hx hy ⊢
    rcases hop with rfl | rfl | rfl | rfl <;> simp [execOp, ho, hx, hy, go_sem, e]
  rw [hr]
  exact ⟨⟨n + fN op k x y, World.drewN_drewN w n _⟩, h _ (fV_can op k x y _)⟩
end
end Go.Proofs.YtonngkkhefppdaaDoor.Soft
