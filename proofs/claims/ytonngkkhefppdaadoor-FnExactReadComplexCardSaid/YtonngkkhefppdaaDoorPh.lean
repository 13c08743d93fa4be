/- Plain facts: eight hexadecimal digits read. No program in sight. -/
import Derived.Lib.Bytealg
set_option linter.unusedSimpArgs false
set_option linter.unusedVariables false
namespace Go.Proofs.YtonngkkhefppdaaDoor.Ph
open Go

/-- What a digit stands for. -/
def hexV (c : UInt8) : Option Nat := if 48 ≤ c.toNat ∧ c.toNat ≤ 57 then some (c.toNat - 48) else if 97 ≤ c.toNat ∧ c.toNat ≤ 102 then some (c.toNat - 87) else none
theorem hexV_lt {c : UInt8} {d : Nat} (h : hexV c = some d) : d < 16 := by
  unfold hexV at h
  split at h
  · cases h; omega
  · split at h
    · cases h; omega
    · cases h
def hexS : List UInt8 := [48, 49, 50, 51, 52, 53, 54, 55, 56, 57, 97, 98, 99, 100, 101, 102]
def hexR (o : Option Nat) : Int := match o with | some d => (d : Int) | none => -1
theorem hexV_index : ∀ c : UInt8, Lib.indexByte hexS c = hexR (hexV c) := by
  have h : ∀ n : Fin 256, Lib.indexByte hexS (UInt8.ofNat n.1) = hexR (hexV (UInt8.ofNat n.1)) := by decide +kernel
  intro c
  have := h ⟨c.toNat, UInt8.toNat_lt c⟩
  simpa using this
def hexF (o : Option Nat) (c : UInt8) : Option Nat := match o with
  | none => none
  | some n => match hexV c with
    | none => none
    | some d => some (16 * n + d)
def hexO (l : List UInt8) : Option Nat := l.foldl hexF (some 0)
theorem fold_none (l : List UInt8) : l.foldl hexF none = none := by
  induction l with
  | nil => rfl
  | cons c r ih => exact ih
theorem hexO_take {l : List UInt8} {k : Nat} {c : UInt8} (h : l[k]? = some c) : hexO (l.take (k + 1)) = hexF (hexO (l.take k)) c := by
  obtain ⟨hk, e⟩ := List.getElem?_eq_some_iff.1 h
  unfold hexO
  rw [List.take_succ_eq_append_getElem hk, List.foldl_append, e]; rfl
theorem hexO_bad {l : List UInt8} {k : Nat} (h : hexO (l.take k) = none) : hexO l = none := by
  unfold hexO at h ⊢
  conv => lhs; rw [← List.take_append_drop k l, List.foldl_append, h]
  exact fold_none _
theorem hexO_lt (l : List UInt8) : ∀ n, hexO l = some n → n < 16 ^ l.length := by
  suffices h : ∀ (l : List UInt8) (a m : Nat), a < 16 ^ m → ∀ n, l.foldl hexF (some a) = some n → n < 16 ^ (m + l.length) by
    intro n hn
    have := h l 0 0 (by omega) n hn
    rwa [Nat.zero_add] at this
  intro l
  induction l with
  | nil => intro a m ha n hn; cases hn; exact ha
  | cons c r ih =>
    intro a m ha n hn
    rw [List.foldl_cons] at hn
    cases hv : hexV c with
    | none =>
      have : hexF (some a) c = none := by unfold hexF; simp only [hv]
      rw [this, fold_none] at hn; cases hn
    | some d =>
      have e : hexF (some a) c = some (16 * a + d) := by unfold hexF; simp only [hv]
      rw [e] at hn
      have hd := hexV_lt hv
      have e1 : 16 ^ (m + 1) = 16 ^ m * 16 := Nat.pow_succ _ _
      have := ih (16 * a + d) (m + 1) (by omega) n hn
      rwa [show m + 1 + r.length = m + (c :: r).length by simp; omega] at this
theorem hexO_nil : hexO ([].take 0) = some 0 := rfl
/-- How far the reading has come. -/
def HexI (l : List UInt8) (k n : Nat) : Prop := hexO (l.take k) = some n
theorem HexI.zero (l : List UInt8) : HexI l 0 0 := rfl
theorem HexI.next {l : List UInt8} {k n d : Nat} {c : UInt8} (h : HexI l k n) (hc : l[k]? = some c) (hd : hexV c = some d) : HexI l (k + 1) (16 * n + d) := by
  unfold HexI at h ⊢
  rw [hexO_take hc, h]; unfold hexF; simp only [hd]
theorem HexI.bad {l : List UInt8} {k n : Nat} {c : UInt8} (h : HexI l k n) (hc : l[k]? = some c) (hd : hexV c = none) : hexO l = none := by
  unfold HexI at h
  refine hexO_bad (k := k + 1) ?_
  rw [hexO_take hc, h]; unfold hexF; simp only [hd]
theorem HexI.lt {l : List UInt8} {k n : Nat} (h : HexI l k n) (hk : k ≤ 8) : n < 4294967296 := by
  have h1 := hexO_lt _ _ h
  have h2 : (l.take k).length ≤ 8 := by rw [List.length_take]; omega
  have h3 : 16 ^ (l.take k).length ≤ 16 ^ 8 := Nat.pow_le_pow_right (by omega) h2
  have h4 : 16 ^ 8 = 4294967296 := by decide
  omega
theorem HexI.done {l : List UInt8} {n : Nat} (h : HexI l l.length n) : hexO l = some n := by
  unfold HexI at h
  rwa [List.take_length] at h
end Go.Proofs.YtonngkkhefppdaaDoor.Ph
