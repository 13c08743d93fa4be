/- Arms for a walk over floats: each operation hands on a new word of which only this is known: what it is up to which not-a-number. -/
import Derived.Test.YthbinacchpjkmaaFf
import Derived.BigQuiet
set_option linter.unusedSimpArgs false
set_option linter.unusedVariables false
namespace Go.Proofs.Ythbinacchpjkmaa.Fl
open Ieee

/-- The six comparisons, on words of which not-a-number is one. -/
def cmpF (op : BinOp) (k : FloatKind) (x y : Nat) : Bool :=
  match op with
  | .eql => k.format.order x y == some .eq
  | .neq => k.format.order x y != some .eq
  | .lss => k.format.order x y == some .lt
  | .leq => k.format.order x y == some .lt || k.format.order x y == some .eq
  | .gtr => k.format.order x y == some .gt
  | .geq => k.format.order x y == some .gt || k.format.order x y == some .eq
  | _ => false
theorem cmpF_can (op : BinOp) (k : FloatKind) (x y : Nat) : cmpF op k (can k x) (can k y) = cmpF op k x y := by
  unfold cmpF; rw [order_can]

section
variable {P : Program} {ops : Array Oper} {rest : List Oper} {o : Oper} {a : Act} {Q : Exit → Act → World → Prop} (w : World)

theorem wp_of_ok {K : Act → World → Prop} {v : Value} {w' : World} (hr : (execOp a.eval o).run P w = .ok (.value v) w') (hK : K (a.put o.dst v) w') : o.wp P a w K Q := by
  unfold Oper.wp; rw [hr]; exact hK

theorem wpList_fl (hgd : o.guard = none) (op : BinOp) (hop : op = .add ∨ op = .sub ∨ op = .mul ∨ op = .quo) (t t2 : TypeId) (X Y : Operand) (k : FloatKind) (x y : Nat) (ho : o.op = .binOp op t X Y t2)
    (hx : a.eval X = .float k x) (hy : a.eval Y = .float k y)
    (h : ∀ r n, can k r = fop op k (can k x) (can k y) → wpList P ops Q rest (a.put o.dst (.float k r)) (w.drewN n)) : wpList P ops Q (o :: rest) a w :=
  wpList_plain hgd fun K hK => by
    refine wp_of_ok w (v := .float k (fV op k x y w)) (w' := w.drewN (fN op k x y)) ?_ (hK _ _ (h _ _ (fV_can op k x y w)))
    have e := run_fl (P := P) w t k x y op hop
    generalize a.eval = ev at hx hy ⊢
    rcases hop with rfl | rfl | rfl | rfl <;> simp [execOp, ho, hx, hy, go_sem, e]

theorem wpList_cmp (hgd : o.guard = none) (op : BinOp) (hop : op = .eql ∨ op = .neq ∨ op = .lss ∨ op = .leq ∨ op = .gtr ∨ op = .geq) (t t2 : TypeId) (X Y : Operand) (k : FloatKind) (x y : Nat) (ho : o.op = .binOp op t X Y t2)
    (hx : a.eval X = .float k x) (hy : a.eval Y = .float k y)
    (h : wpList P ops Q rest (a.put o.dst (.bool (cmpF op k (can k x) (can k y)))) w) : wpList P ops Q (o :: rest) a w :=
  wpList_plain hgd fun K hK => by
    refine wp_of_ok w (v := .bool (cmpF op k (can k x) (can k y))) (w' := w) ?_ (hK _ _ h)
    rw [cmpF_can]
    generalize a.eval = ev at hx hy ⊢
    rcases hop with rfl | rfl | rfl | rfl | rfl | rfl <;> simp [execOp, ho, hx, hy, go_sem, cmpF]

theorem wpList_neg (hgd : o.guard = none) (t : TypeId) (X : Operand) (k : FloatKind) (x : Nat) (ho : o.op = .unOp .neg t X) (hx : a.eval X = .float k x)
    (h : ∀ r, can k r = fneg k (can k x) → wpList P ops Q rest (a.put o.dst (.float k r)) w) : wpList P ops Q (o :: rest) a w :=
  wpList_plain hgd fun K hK => by
    refine wp_of_ok w (v := .float k (Op.negFloat k x)) (w' := w) ?_ (hK _ _ (h _ (fneg_can k x)))
    generalize a.eval = ev at hx ⊢
    simp [execOp, ho, hx, go_sem, run_fl_neg]

theorem ovf_can (s k : FloatKind) (x : Nat) : ovf s k (can s x) = ovf s k x := by
  by_cases h : isN s x = true
  · rw [can_nan h]
    obtain ⟨a, b, e⟩ := decode_nan h
    obtain ⟨a', b', e'⟩ := decode_nan (isN_qn s)
    unfold ovf FloatKind.decode; rw [e, e']
  · rw [can_of_not (by simpa using h)]

theorem wpList_wide (hgd : o.guard = none) (t t2 : TypeId) (X : Operand) (x : Nat) (ho : o.op = .convert t t2 X) (hx : a.eval X = .float .f32 x)
    (hs : (P.underlying t).isSome = true) (hd : P.underlying t2 = some (.float .f64))
    (h : ∀ r n, can .f64 r = cop .f32 .f64 (can .f32 x) → wpList P ops Q rest (a.put o.dst (.float .f64 r)) (w.drewN n)) : wpList P ops Q (o :: rest) a w :=
  wpList_plain hgd fun K hK => by
    refine wp_of_ok w (v := .float .f64 (cV .f32 x .f64 w)) (w' := w.drewN (cN .f32 x .f64)) ?_ (hK _ _ (h _ _ (cVw_can x w)))
    generalize a.eval = ev at hx ⊢
    simp [execOp, ho, hx, go_sem, run_cv w t t2 .f32 .f64 x hs hd]

theorem wpList_narrow (hgd : o.guard = none) (t t2 : TypeId) (X : Operand) (x : Nat) (ho : o.op = .convert t t2 X) (hx : a.eval X = .float .f64 x)
    (hs : (P.underlying t).isSome = true) (hd : P.underlying t2 = some (.float .f32)) (hov : ovf .f64 .f32 (can .f64 x) = false)
    (h : ∀ r n, can .f32 r = cop .f64 .f32 (can .f64 x) → wpList P ops Q rest (a.put o.dst (.float .f32 r)) (w.drewN n)) : wpList P ops Q (o :: rest) a w :=
  wpList_plain hgd fun K hK => by
    refine wp_of_ok w (v := .float .f32 (cV .f64 x .f32 w)) (w' := w.drewN (cN .f64 x .f32)) ?_ (hK _ _ (h _ _ (cV_can .f64 .f32 x w (by rw [← ovf_can]; exact hov) (by decide))))
    generalize a.eval = ev at hx ⊢
    simp [execOp, ho, hx, go_sem, run_cv w t t2 .f64 .f32 x hs hd]
end
end Go.Proofs.Ythbinacchpjkmaa.Fl
