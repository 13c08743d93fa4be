/- Floats in a walk: what an operation gives, also where it is not a number (then the tape picks the word), as one plain term; and the same up to which not-a-number it is ('can'). -/
import Derived.Test.YthbinacchpjkmaaFb
import Derived.WalkKit
import Derived.WalkLawsBesides
import Derived.Deep.Draws
import Derived.Laws.FloatArith
import Derived.Laws.Externs
set_option linter.unusedSimpArgs false
set_option linter.unusedVariables false
namespace Go.Proofs.Ythbinacchpjkmaa.Fl
open Ieee

def isN (k : FloatKind) (x : Nat) : Bool := (k.decode x).isNaN
def qn : FloatKind → Nat
  | .f32 => 2143289344
  | .f64 => 9221120237041090560
/-- The word, with every not-a-number made one. -/
def can (k : FloatKind) (x : Nat) : Nat := if isN k x then qn k else x

theorem isN_qn (k : FloatKind) : isN k (qn k) = true := by cases k <;> decide +kernel
theorem qn_lt (k : FloatKind) : qn k < 2 ^ k.format.width := by cases k <;> decide +kernel
theorem isN_can (k : FloatKind) (x : Nat) : isN k (can k x) = isN k x := by
  unfold can; split
  · rename_i h; rw [h]; exact isN_qn k
  · rfl
theorem can_can (k : FloatKind) (x : Nat) : can k (can k x) = can k x := by
  unfold can
  by_cases h : isN k x = true
  · simp only [h, if_true, isN_qn]
  · simp only [h, Bool.false_eq_true, if_false]
theorem isN_of_can {k : FloatKind} {x y : Nat} (h : can k x = can k y) : isN k x = isN k y := by
  rw [← isN_can k x, h, isN_can]
theorem can_of_not {k : FloatKind} {x : Nat} (h : isN k x = false) : can k x = x := by unfold can; rw [h]; simp
theorem can_nan {k : FloatKind} {x : Nat} (h : isN k x = true) : can k x = qn k := by unfold can; rw [h]; simp

theorem decode_nan {k : FloatKind} {x : Nat} (h : isN k x = true) : ∃ s t, k.format.read x = .nan s t := by
  unfold isN FloatKind.decode at h
  cases hd : k.format.read x with
  | nan s t => exact ⟨s, t, rfl⟩
  | number => rw [hd] at h; simp [Datum.isNaN] at h
  | infinity => rw [hd] at h; simp [Datum.isNaN] at h

theorem floatBits_nanL {op : BinOp} {k : FloatKind} {x y : Nat} (h : isN k x = true) : floatBits op k x y = none := by
  obtain ⟨s, t, e⟩ := decode_nan h
  unfold floatBits
  cases op <;> simp [Format.add, Format.sub, Format.mul, Format.div, e, Datum.sum, Datum.product, Datum.quotient]
theorem floatBits_nanR {op : BinOp} {k : FloatKind} {x y : Nat} (h : isN k y = true) : floatBits op k x y = none := by
  obtain ⟨s, t, e⟩ := decode_nan h
  unfold floatBits
  cases op <;> simp [Format.add, Format.sub, Format.mul, Format.div, e] <;> cases k.format.read x <;> simp [Datum.sum, Datum.product, Datum.quotient, Datum.opposite]
theorem order_nanL {k : FloatKind} {x y : Nat} (h : isN k x = true) : k.format.order x y = none := by
  obtain ⟨s, t, e⟩ := decode_nan h
  simp [Format.order, e, Datum.order]
theorem order_nanR {k : FloatKind} {x y : Nat} (h : isN k y = true) : k.format.order x y = none := by
  obtain ⟨s, t, e⟩ := decode_nan h
  simp only [Format.order, e]
  cases k.format.read x <;> simp [Datum.order]

theorem floatBits_can (op : BinOp) (k : FloatKind) (x y : Nat) : floatBits op k (can k x) (can k y) = floatBits op k x y := by
  by_cases h : isN k x = true
  · rw [floatBits_nanL h, floatBits_nanL (by rw [isN_can]; exact h)]
  · rw [can_of_not (by simpa using h)]
    by_cases h2 : isN k y = true
    · rw [floatBits_nanR h2, floatBits_nanR (by rw [isN_can]; exact h2)]
    · rw [can_of_not (by simpa using h2)]

theorem order_can (k : FloatKind) (x y : Nat) : k.format.order (can k x) (can k y) = k.format.order x y := by
  by_cases h : isN k x = true
  · rw [order_nanL h, order_nanL (by rw [isN_can]; exact h)]
  · rw [can_of_not (by simpa using h)]
    by_cases h2 : isN k y = true
    · rw [order_nanR h2, order_nanR (by rw [isN_can]; exact h2)]
    · rw [can_of_not (by simpa using h2)]

theorem lt_of_wf {k : FloatKind} {x : Nat} (h : (Lit.float k x).wf = true) : x < 2 ^ k.format.width := by
  cases k
  · have : x < 4294967296 := by simpa [Lit.wf] using h
    have e4 : 2 ^ FloatKind.f32.format.width = 4294967296 := by decide +kernel
    omega
  · have : x < 18446744073709551616 := by simpa [Lit.wf] using h
    have e4 : 2 ^ FloatKind.f64.format.width = 18446744073709551616 := by decide +kernel
    omega

theorem signed_cmp (s : Bool) (a b : Nat) : compare (signed s a b) (signed s a b) = .eq := by
  generalize signed s a b = x
  simp only [compare, compareOfLessAndEq]
  rw [if_neg (Int.lt_irrefl x)]; simp

theorem order_self (k : FloatKind) (x : Nat) : k.format.order x x = if isN k x then none else some .eq := by
  unfold isN FloatKind.decode Format.order
  cases k.format.read x with
  | number s m p => simp only [Datum.isNaN, Datum.order]; rw [signed_cmp]; simp
  | infinity s => cases s <;> simp [Datum.isNaN, Datum.order] <;> decide
  | nan s t => simp [Datum.isNaN, Datum.order]

/-! ### What the tape picks -/
theorem nanWord (k : FloatKind) (q : Question) (hq : (∃ x y, q = .nanBits k x y) ∨ (∃ x, q = .nanConv k x)) (t : Nat) : isN k (q.cut t) = true ∧ q.cut t < 2 ^ k.format.width := by
  have key : ∀ (a b : Nat), a < 2 → (k = .f32 → b < 8388607) → (k = .f64 → b < 4503599627370495) →
      isN k (match k with | .f32 => a * 2 ^ 31 + 0x7f800000 + 1 + b | .f64 => a * 2 ^ 63 + 0x7ff0000000000000 + 1 + b) = true ∧
      (match k with | .f32 => a * 2 ^ 31 + 0x7f800000 + 1 + b | .f64 => a * 2 ^ 63 + 0x7ff0000000000000 + 1 + b) < 2 ^ k.format.width := by
    intro a b ha h32 h64
    cases k
    · have hb := h32 rfl
      have e1 : FloatKind.f32.format.signWeight = 2147483648 := by decide +kernel
      have e2 : FloatKind.f32.format.binade = 8388608 := by decide +kernel
      have e3 : FloatKind.f32.format.infRung = 2139095040 := by decide +kernel
      have e4 : 2 ^ FloatKind.f32.format.width = 4294967296 := by decide +kernel
      rw [e4]
      simp only
      refine ⟨?_, by omega⟩
      unfold isN FloatKind.decode Format.read
      rw [e1, e2, e3]
      have m : (a * 2 ^ 31 + 0x7f800000 + 1 + b) % 2147483648 = 2139095041 + b := by omega
      rw [m, if_neg (by omega), if_neg (by omega), if_neg (by omega)]
      rfl
    · have hb := h64 rfl
      have e1 : FloatKind.f64.format.signWeight = 9223372036854775808 := by decide +kernel
      have e2 : FloatKind.f64.format.binade = 4503599627370496 := by decide +kernel
      have e3 : FloatKind.f64.format.infRung = 9218868437227405312 := by decide +kernel
      have e4 : 2 ^ FloatKind.f64.format.width = 18446744073709551616 := by decide +kernel
      rw [e4]
      simp only
      refine ⟨?_, by omega⟩
      unfold isN FloatKind.decode Format.read
      rw [e1, e2, e3]
      have m : (a * 2 ^ 63 + 0x7ff0000000000000 + 1 + b) % 9223372036854775808 = 9218868437227405313 + b := by omega
      rw [m, if_neg (by omega), if_neg (by omega), if_neg (by omega)]
      rfl
  rcases hq with ⟨x, y, rfl⟩ | ⟨x, rfl⟩
  · cases k
    · exact key (t % 2) ((t / 2) % (2 ^ 23 - 1)) (Nat.mod_lt _ (by omega)) (fun _ => Nat.mod_lt _ (by omega)) (fun h => by cases h)
    · exact key (t % 2) ((t / 2) % (2 ^ 52 - 1)) (Nat.mod_lt _ (by omega)) (fun h => by cases h) (fun _ => Nat.mod_lt _ (by omega))
  · cases k
    · exact key (t % 2) ((t / 2) % (2 ^ 23 - 1)) (Nat.mod_lt _ (by omega)) (fun _ => Nat.mod_lt _ (by omega)) (fun h => by cases h)
    · exact key (t % 2) ((t / 2) % (2 ^ 52 - 1)) (Nat.mod_lt _ (by omega)) (fun h => by cases h) (fun _ => Nat.mod_lt _ (by omega))

/-! ### Arithmetic -/
def fN (op : BinOp) (k : FloatKind) (x y : Nat) : Nat := if (floatBits op k x y).isSome then 0 else 1
def fV (op : BinOp) (k : FloatKind) (x y : Nat) (w : World) : Nat := match floatBits op k x y with | some r => r | none => (Question.nanBits k x y).cut (w.tape w.drawn (.nanBits k x y))
/-- The operation on words of which not-a-number is one. -/
def fop (op : BinOp) (k : FloatKind) (x y : Nat) : Nat := can k ((floatBits op k x y).getD (qn k))

theorem fV_can (op : BinOp) (k : FloatKind) (x y : Nat) (w : World) : can k (fV op k x y w) = fop op k (can k x) (can k y) := by
  unfold fV fop
  rw [floatBits_can]
  cases floatBits op k x y with
  | some r => rfl
  | none => simp only [Option.getD_none]; rw [can_nan (nanWord k _ (.inl ⟨x, y, rfl⟩) _).1, can_nan (isN_qn k)]

theorem fV_lt (op : BinOp) (k : FloatKind) (x y : Nat) (w : World) : fV op k x y w < 2 ^ k.format.width := by
  unfold fV
  cases h : floatBits op k x y with
  | some r =>
    exact lt_of_wf (floatBits_wf h)
  | none => exact (nanWord k _ (.inl ⟨x, y, rfl⟩) _).2

section
variable {P : Program} (w : World) (t : TypeId) (k : FloatKind) (x y : Nat)
theorem run_fl (op : BinOp) (hop : op = .add ∨ op = .sub ∨ op = .mul ∨ op = .quo) : (binOp op t (.float k x) (.float k y)).run P w = .ok (.float k (fV op k x y w)) (w.drewN (fN op k x y)) := by
  cases h : floatBits op k x y with
  | some r =>
    rw [run_float_arith w op t k x y r h]
    simp [fV, fN, h, World.drewN_zero]
  | none =>
    have hf : (Question.nanBits k x y).forced = false := rfl
    unfold floatBits at h
    rcases hop with rfl | rfl | rfl | rfl <;> simp only at h <;> simp [binOp, Op.floatArith, h, fV, fN, floatBits, run_choose_drew, hf, World.drew_is_drewN]
@[go_sem] theorem run_fl_add : (binOp .add t (.float k x) (.float k y)).run P w = .ok (.float k (fV .add k x y w)) (w.drewN (fN .add k x y)) := run_fl w t k x y _ (by simp)
@[go_sem] theorem run_fl_sub : (binOp .sub t (.float k x) (.float k y)).run P w = .ok (.float k (fV .sub k x y w)) (w.drewN (fN .sub k x y)) := run_fl w t k x y _ (by simp)
@[go_sem] theorem run_fl_mul : (binOp .mul t (.float k x) (.float k y)).run P w = .ok (.float k (fV .mul k x y w)) (w.drewN (fN .mul k x y)) := run_fl w t k x y _ (by simp)
@[go_sem] theorem run_fl_quo : (binOp .quo t (.float k x) (.float k y)).run P w = .ok (.float k (fV .quo k x y w)) (w.drewN (fN .quo k x y)) := run_fl w t k x y _ (by simp)
@[go_sem] theorem run_fl_neg : (Op.unary .neg (.float k x)).run P w = .ok (.float k (Op.negFloat k x)) w := rfl
end

/-! ### Conversions -/
/-- Too great for the narrower kind: then the tape picks any word. -/
def ovf (s k : FloatKind) (x : Nat) : Bool := match s.decode x with | .number sg m e => (k.decode (k.encode (.number sg m e))).isInfinity && s != k | _ => false
def cN (s : FloatKind) (x : Nat) (k : FloatKind) : Nat := if (floatToFloatBits s x k).isSome then 0 else 1
def cV (s : FloatKind) (x : Nat) (k : FloatKind) (w : World) : Nat := match floatToFloatBits s x k with | some r => r | none => if isN s x then (Question.nanConv k x).cut (w.tape w.drawn (.nanConv k x)) else (Question.floatToFloat x).cut (w.tape w.drawn (.floatToFloat x))
def cop (s k : FloatKind) (x : Nat) : Nat := can k ((floatToFloatBits s x k).getD (qn k))

theorem run_cv {P : Program} (w : World) (src dst : TypeId) (s k : FloatKind) (x : Nat) (hs : (P.underlying src).isSome = true) (hd : P.underlying dst = some (.float k)) :
    (convert src dst (.float s x)).run P w = .ok (.float k (cV s x k w)) (w.drewN (cN s x k)) := by
  cases h : floatToFloatBits s x k with
  | some r =>
    rw [run_convert_float_float w src dst s k x r hs hd h]
    simp [cV, cN, h, World.drewN_zero]
  | none =>
    obtain ⟨u, hs'⟩ := Option.isSome_iff_exists.1 hs
    have h0 := h
    unfold floatToFloatBits at h
    split at h
    · cases h
    · rename_i ne
      split at h
      · rename_i sg tt he
        have hn : isN s x = true := by unfold isN; rw [he]; rfl
        have hf : (Question.nanConv k x).forced = false := rfl
        cases u <;> simp [convert, run_underlying hs', run_underlying hd, Conv.floatToFloat, ne, he, cV, cN, h0, hn, run_choose_drew, hf, World.drew_is_drewN]
      · cases h
      · rename_i sg m e he
        split at h
        · rename_i ho
          have hn : isN s x = false := by unfold isN; rw [he]; rfl
          have hf : (Question.floatToFloat x).forced = false := rfl
          cases u <;> simp [convert, run_underlying hs', run_underlying hd, Conv.floatToFloat, ne, he, ho, cV, cN, h0, hn, run_choose_drew, hf, World.drew_is_drewN]
        · cases h

attribute [go_sem] run_cv

theorem cop_can (s k : FloatKind) (x : Nat) (hne : s ≠ k) : cop s k (can s x) = cop s k x := by
  by_cases h : isN s x = true
  · have e : ∀ y, isN s y = true → floatToFloatBits s y k = none := by
      intro y hy
      obtain ⟨a, b, e⟩ := decode_nan hy
      unfold floatToFloatBits FloatKind.decode
      rw [if_neg hne, e]
    unfold cop
    rw [e x h, e _ (by rw [isN_can]; exact h)]
  · rw [can_of_not (by simpa using h)]

theorem cV_can (s k : FloatKind) (x : Nat) (w : World) (ho : ovf s k x = false) (hne : s ≠ k) : can k (cV s x k w) = cop s k (can s x) := by
  rw [cop_can s k x hne]
  unfold cV cop
  cases h : floatToFloatBits s x k with
  | some r => rfl
  | none =>
    have hn : isN s x = true := by
      unfold floatToFloatBits at h
      rw [if_neg hne] at h
      unfold ovf at ho
      unfold isN
      split at h
      · rename_i he; rw [he]; rfl
      · cases h
      · rename_i sg m e he
        rw [he] at ho
        split at h
        · rename_i hi; simp only [hi, Bool.true_and, bne_eq_false_iff_eq] at ho; exact absurd ho hne
        · cases h
    simp only [hn, if_true, Option.getD_none]
    rw [can_nan (nanWord k _ (.inr ⟨x, rfl⟩) _).1, can_nan (isN_qn k)]

theorem cV_lt (s k : FloatKind) (x : Nat) (w : World) (hx : x < 2 ^ s.format.width) (hk : (Lit.float s x).wf = true) (h32 : isN s x = false → k = .f32 ∨ ovf s k x = false) : cV s x k w < 2 ^ k.format.width := by
  unfold cV
  cases h : floatToFloatBits s x k with
  | some r =>
    exact lt_of_wf (floatToFloatBits_wf hk h)
  | none =>
    simp only
    split
    · exact (nanWord k _ (.inr ⟨x, rfl⟩) _).2
    · rename_i hn
      rcases h32 (by simpa using hn) with rfl | ho
      · show _ % 2 ^ 32 < 2 ^ 32
        exact Nat.mod_lt _ (by omega)
      · exfalso
        unfold floatToFloatBits at h
        unfold ovf at ho
        unfold isN at hn
        split at h
        · cases h
        · rename_i ne
          split at h
          · rename_i he; rw [he] at hn; exact hn rfl
          · cases h
          · rename_i sg m e he
            rw [he] at ho
            split at h
            · rename_i hi; simp only [hi, Bool.true_and, bne_eq_false_iff_eq] at ho; exact absurd ho ne
            · cases h
end Go.Proofs.Ythbinacchpjkmaa.Fl
