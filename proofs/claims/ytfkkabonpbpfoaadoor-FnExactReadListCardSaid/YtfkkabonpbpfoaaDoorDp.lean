/- Plain facts: decimal texts read back. No program in sight. -/
import Derived.Lib.ItoaNum
import Derived.Lib.ParseIntB
set_option linter.unusedSimpArgs false
set_option linter.unusedVariables false
namespace Go.Proofs.YtfkkabonpbpfoaaDoor.Pd
open Go

def digF (n : Int) (c : UInt8) : Int := if 48 ≤ c.toNat ∧ c.toNat ≤ 57 then 10 * n + ((c.toNat : Int) - 48) else n
theorem byte_of {m : Nat} (hm : m < 10) : (UInt8.ofNat (48 + m)).toNat = 48 + m := by rw [UInt8.toNat_ofNat']; omega
theorem digF_digit {n : Int} {m : Nat} (hm : m < 10) : digF n (UInt8.ofNat (48 + m)) = 10 * n + m := by
  unfold digF; rw [byte_of hm, if_pos (by omega)]; omega
theorem dec_digits : ∀ (u : Nat) (c : UInt8), c ∈ Lib.decDigits u → 48 ≤ c.toNat ∧ c.toNat ≤ 57 := by
  intro u
  induction u using Nat.strongRecOn with
  | _ u ih =>
    intro c hc
    by_cases g : u < 10
    · rw [Lib.decDigits, dif_pos g] at hc
      rw [List.mem_singleton.1 hc, byte_of g]; omega
    · rw [Lib.decDigits, dif_neg g] at hc
      rcases List.mem_append.1 hc with h | h
      · exact ih (u / 10) (by omega) c h
      · rw [List.mem_singleton.1 h, byte_of (Nat.mod_lt _ (by omega))]; omega
theorem dec_ne (u : Nat) : Lib.decDigits u ≠ [] := by
  rw [Lib.decDigits]; split <;> simp
theorem dec_fold (u : Nat) : (Lib.decDigits u).foldl digF 0 = (u : Int) := by
  induction u using Nat.strongRecOn with
  | _ u ih =>
    by_cases g : u < 10
    · rw [Lib.decDigits, dif_pos g]
      simp only [List.foldl_cons, List.foldl_nil]
      rw [digF_digit g]; omega
    · rw [Lib.decDigits, dif_neg g, List.foldl_append, ih (u / 10) (by omega)]
      simp only [List.foldl_cons, List.foldl_nil]
      rw [digF_digit (Nat.mod_lt _ (by omega))]; omega
theorem itoa_fold (v : Int) : (Lib.itoa v).foldl digF 0 = (v.natAbs : Int) := by
  unfold Lib.itoa
  split
  · rw [List.foldl_cons, show digF 0 45 = 0 by decide, dec_fold]
  · rw [dec_fold]; omega
theorem parse_snoc (M : Nat) : ∀ (l : List UInt8) (acc a : Nat) (c : UInt8), Lib.parseUintM M acc l = .ok a → Lib.parseUintM M acc (l ++ [c]) = Lib.parseUintM M a [c] := by
  intro l
  induction l with
  | nil => intro acc a c h; simp only [Lib.parseUintM] at h; cases h; rfl
  | cons d r ih =>
    intro acc a c h
    simp only [List.cons_append]
    rw [Lib.parseUintM] at h ⊢
    split at h
    · rename_i hd
      rw [if_pos hd]
      split at h
      · cases h
      · rename_i h1
        rw [if_neg h1]
        split at h
        · cases h
        · rename_i h2
          rw [if_neg h2]
          exact ih _ _ _ h
    · cases h
theorem dec_parse (u : Nat) (hu : u ≤ 1000000000000000) : Lib.parseUintM 18446744073709551615 0 (Lib.decDigits u) = .ok u := by
  induction u using Nat.strongRecOn with
  | _ u ih =>
    by_cases g : u < 10
    · rw [Lib.decDigits, dif_pos g]
      simp only [Lib.parseUintM, byte_of g]
      rw [if_pos (by omega), if_neg (by omega), if_neg (by omega)]
      simp
    · rw [Lib.decDigits, dif_neg g, parse_snoc _ _ _ _ _ (ih (u / 10) (by omega) (by omega))]
      have hb := byte_of (Nat.mod_lt u (show 0 < 10 by omega))
      simp only [Lib.parseUintM, hb]
      rw [if_pos (by omega), if_neg (by omega), if_neg (by omega)]
      congr 1
      omega
theorem dec_parseB (u : Nat) (hu : u ≤ 1000000000000000) : Lib.parseUintB 64 (Lib.decDigits u) = .ok u := by
  unfold Lib.parseUintB
  rw [if_neg (dec_ne u)]
  exact dec_parse u hu
theorem itoa_parse (v : Int) (h0 : -1000000000000000 ≤ v) (h1 : v ≤ 1000000000000000) : Lib.parseIntB 64 (Lib.itoa v) = .ok v := by
  unfold Lib.itoa
  by_cases g : v < 0
  · rw [if_pos g]
    unfold Lib.parseIntB
    have e : (45 : UInt8).toNat = 45 := rfl
    simp only [e]
    rw [if_pos (Or.inr trivial), dec_parseB _ (by omega)]
    simp only [not_true, false_and, if_false, true_and]
    rw [if_neg (by omega)]
    simp only [if_true]
    congr 1
    omega
  · rw [if_neg g]
    have hp := dec_parseB v.toNat (by omega)
    cases hd : Lib.decDigits v.toNat with
    | nil => exact absurd hd (dec_ne _)
    | cons c r =>
      have hc := dec_digits v.toNat c (by rw [hd]; simp)
      unfold Lib.parseIntB
      simp only
      rw [if_neg (by omega), ← hd, hp]
      have hn : ¬ c.toNat = 45 := by omega
      simp only [hn, not_false_iff, true_and, false_and, if_false]
      rw [if_neg (by omega)]
      congr 1
      omega
theorem itoa_head (v : Int) : ((Lib.itoa v).head? = some 45) ↔ v < 0 := by
  unfold Lib.itoa
  by_cases g : v < 0
  · rw [if_pos g]; simp [g]
  · rw [if_neg g]
    cases hd : Lib.decDigits v.toNat with
    | nil => exact absurd hd (dec_ne _)
    | cons c r =>
      have hc := dec_digits v.toNat c (by rw [hd]; simp)
      simp only [List.head?_cons, Option.some.injEq, g, iff_false]
      rintro rfl
      simp at hc
theorem nDig (k u : Nat) (h : u < 10 ^ (k + 1)) : Lib.nDigits u ≤ k + 1 := by
  induction k generalizing u with
  | zero => rw [Lib.nDigits_small (by simpa using h)]; omega
  | succ k ih =>
    by_cases g : u < 10
    · rw [Lib.nDigits_small g]; omega
    · rw [Lib.nDigits_big g]
      have := ih (u / 10) (by rw [Nat.pow_succ] at h; omega)
      omega
theorem itoa_len (v : Int) (h0 : -1000000000000000 ≤ v) (h1 : v ≤ 1000000000000000) : 1 ≤ (Lib.itoa v).length ∧ (Lib.itoa v).length ≤ 17 := by
  have h2 : ∀ u : Nat, u ≤ 1000000000000000 → (Lib.decDigits u).length ≤ 16 := fun u hu => by
    rw [Lib.decDigits_length]; exact nDig 15 u (by omega)
  have h3 : ∀ u : Nat, 1 ≤ (Lib.decDigits u).length := fun u => by
    rw [Lib.decDigits_length]; exact Lib.nDigits_pos u
  unfold Lib.itoa
  split
  · have := h2 v.natAbs (by omega); simp; omega
  · have := h2 v.toNat (by omega); have := h3 v.toNat; omega

/-- It is the decimal text of a number that is not too great. -/
def okV (l : List UInt8) (n : Int) : Bool := decide (-1000000000000000 ≤ n) && decide (n ≤ 1000000000000000) && decide (Lib.itoa n = l)
theorem okV_iff {l : List UInt8} {n : Int} : okV l n = true ↔ (-1000000000000000 ≤ n ∧ n ≤ 1000000000000000) ∧ Lib.itoa n = l := by unfold okV; simp
/-- As the program reads. -/
def implV (l : List UInt8) : Int × Bool :=
  match Lib.parseIntB 64 l with
  | .ok v => if okV l v then (v, true) else (0, false)
  | _ => (0, false)
def specN (l : List UInt8) : Int := if l.head? = some 45 then -(l.foldl digF 0) else l.foldl digF 0
/-- As the reference reads. -/
def specV (l : List UInt8) : Int × Bool := if (1 ≤ l.length ∧ l.length ≤ 17) ∧ okV l (specN l) = true then (specN l, true) else (0, false)
theorem specN_itoa (v : Int) : specN (Lib.itoa v) = v := by
  unfold specN
  rw [itoa_fold]
  by_cases g : v < 0
  · rw [if_pos ((itoa_head v).2 g)]; omega
  · rw [if_neg (fun h => g ((itoa_head v).1 h))]; omega
theorem specV_eq (l : List UInt8) : specV l = implV l := by
  unfold specV implV
  by_cases h : ∃ v : Int, (-1000000000000000 ≤ v ∧ v ≤ 1000000000000000) ∧ Lib.itoa v = l
  · obtain ⟨v, ⟨h0, h1⟩, rfl⟩ := h
    rw [specN_itoa, itoa_parse v h0 h1]
    have ho : okV (Lib.itoa v) v = true := okV_iff.2 ⟨⟨h0, h1⟩, rfl⟩
    rw [if_pos ⟨itoa_len v h0 h1, ho⟩]
    simp only [ho, if_true]
  · have hn : ∀ n, okV l n = false := fun n => by
      cases e : okV l n
      · rfl
      · exact absurd ⟨n, okV_iff.1 e⟩ h
    rw [if_neg (by rw [hn]; simp)]
    split
    · simp [hn]
    · rfl
end Go.Proofs.YtfkkabonpbpfoaaDoor.Pd
