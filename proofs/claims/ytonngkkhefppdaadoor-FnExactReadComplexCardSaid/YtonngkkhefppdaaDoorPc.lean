/- Plain facts: a text cut at its commas. No program in sight. -/
import Derived.Lib.SplitLaws
import Derived.Lib.IndexMore
set_option linter.unusedSimpArgs false
set_option linter.unusedVariables false
namespace Go.Proofs.YtonngkkhefppdaaDoor.Pc
open Go

/-- The parts between commas. -/
def cutL : List UInt8 → List (List UInt8)
  | [] => [[]]
  | b :: r => if b = 44 then [] :: cutL r else match cutL r with
    | [] => [[b]]
    | p :: q => (b :: p) :: q
theorem cutL_ne : ∀ l, cutL l ≠ []
  | [] => by simp [cutL]
  | b :: r => by
    unfold cutL
    split
    · simp
    · split <;> simp
theorem cutL_none : ∀ p : List UInt8, (∀ b ∈ p, b ≠ 44) → cutL p = [p]
  | [], _ => rfl
  | b :: r, h => by
    unfold cutL
    rw [if_neg (h b (by simp)), cutL_none r (fun x hx => h x (by simp [hx]))]
theorem cutL_app : ∀ (p r : List UInt8), (∀ b ∈ p, b ≠ 44) → cutL (p ++ 44 :: r) = p :: cutL r
  | [], r, _ => by simp [cutL]
  | b :: p, r, h => by
    rw [List.cons_append, cutL, if_neg (h b (by simp)), cutL_app p r (fun x hx => h x (by simp [hx]))]
theorem cutL_len : ∀ l : List UInt8, (cutL l).length ≤ l.length + 1
  | [] => by simp [cutL]
  | b :: r => by
    have := cutL_len r
    unfold cutL
    split
    · simp; omega
    · split
      · simp
      · rename_i p q e; rw [e] at this; simp at this ⊢; omega
theorem cutL_mem : ∀ (l p : List UInt8), p ∈ cutL l → p.length ≤ l.length
  | [], p, h => by simp [cutL] at h; simp [h]
  | b :: r, p, h => by
    unfold cutL at h
    split at h
    · rcases List.mem_cons.1 h with h | h
      · subst h; simp
      · have := cutL_mem r p h; simp; omega
    · split at h
      · rename_i e; exact absurd e (cutL_ne r)
      · rename_i x q e
        rcases List.mem_cons.1 h with h | h
        · subst h
          have := cutL_mem r x (by rw [e]; simp)
          simp; omega
        · have := cutL_mem r p (by rw [e]; simp [h])
          simp; omega
theorem occ_one (s : List UInt8) (i : Nat) : Lib.occAt s [44] i = true ↔ s[i]? = some 44 := by
  constructor
  · intro h; exact Lib.occAt_head rfl h
  · intro h
    unfold Lib.occAt
    obtain ⟨hi, e⟩ := List.getElem?_eq_some_iff.1 h
    rw [List.drop_eq_getElem_cons hi, e]
    simp [List.isPrefixOf]
theorem splitK_cut : ∀ (k : Nat) (s : List UInt8), Lib.count s [44] = k → Lib.splitK [44] 0 k s = cutL s := by
  intro k
  induction k with
  | zero =>
    intro s h
    rcases Lib.index_spec s [44] with ⟨_, h2⟩ | ⟨i, h1, h2, h3, h4⟩
    · show [s] = _
      rw [cutL_none]
      intro b hb e
      subst e
      obtain ⟨j, hj, e⟩ := List.getElem_of_mem hb
      have := h2 j (by omega)
      have h9 := (occ_one s j).2 (by rw [List.getElem?_eq_getElem hj, e])
      rw [h9] at this; cases this
    · have := Lib.count_hit (by simp) h1
      omega
  | succ k ih =>
    intro s h
    rcases Lib.index_spec s [44] with ⟨h1, _⟩ | ⟨i, h1, h2, h3, h4⟩
    · have := Lib.count_miss h1; omega
    · have hc := Lib.count_hit (by simp) h1
      have e44 := (occ_one s i).1 h3
      obtain ⟨hi, e⟩ := List.getElem?_eq_some_iff.1 e44
      unfold Lib.splitK
      rw [h1]
      have hn : ¬ ((i : Int) == -1) = true := by simp; try omega
      rw [if_neg hn]
      have hd : s.drop i = 44 :: s.drop (i + 1) := by rw [List.drop_eq_getElem_cons hi, e]
      have hs : s = s.take i ++ 44 :: s.drop (i + 1) := by rw [← hd, List.take_append_drop]
      have hp : ∀ b ∈ s.take i, b ≠ 44 := by
        intro b hb eb
        subst eb
        obtain ⟨j, hj, e⟩ := List.getElem_of_mem hb
        have hj2 : j < i := by simp at hj; omega
        have h5 : Lib.occAt s [44] j = false := h4 j hj2
        have h9 := (occ_one s j).2 (by rw [List.getElem?_eq_getElem (by omega), ← e]; try simp)
        rw [h9] at h5; cases h5
      have e1 : ((i : Int).toNat + 0) = i := rfl
      have e2 : ((i : Int).toNat + [(44 : UInt8)].length) = i + 1 := rfl
      rw [e1, e2, ih (s.drop (i + 1)) (by simp at hc; try omega)]
      conv => rhs; rw [hs, cutL_app _ _ hp]
/-- The parts between commas, as bytes. -/
def cutB (s : ByteArray) : List ByteArray := (cutL s.data.toList).map fun l => ⟨l.toArray⟩
theorem cutB_split (s : ByteArray) : Lib.splitB ⟨#[44]⟩ 0 (Lib.countB s ⟨#[44]⟩) s = cutB s := by
  have h := Lib.splitB_data ⟨#[44]⟩ 0 (Lib.countB s ⟨#[44]⟩) s
  have h2 : Lib.splitK [44] 0 (Lib.countB s ⟨#[44]⟩) s.data.toList = cutL s.data.toList := splitK_cut _ _ rfl
  unfold cutB
  rw [← h2]
  have h3 : (Lib.splitB ⟨#[44]⟩ 0 (Lib.countB s ⟨#[44]⟩) s).map (·.data.toList) = Lib.splitK [44] 0 (Lib.countB s ⟨#[44]⟩) s.data.toList := h
  rw [← h3, List.map_map]
  conv => lhs; rw [← List.map_id (Lib.splitB ⟨#[44]⟩ 0 (Lib.countB s ⟨#[44]⟩) s)]
  refine List.map_congr_left fun b _ => ?_
  simp
theorem cutB_count (s : ByteArray) : (cutB s).length = Lib.countB s ⟨#[44]⟩ + 1 := by
  rw [← cutB_split, Lib.splitB_all _ (by decide) 0 _ s rfl]
theorem cutB_len (s : ByteArray) : (cutB s).length ≤ s.size + 1 := by
  unfold cutB; rw [List.length_map]; have := cutL_len s.data.toList; simpa using this
theorem cutB_pos (s : ByteArray) : 0 < (cutB s).length := by
  rw [cutB_count]; omega
theorem cutB_mem (s p : ByteArray) (h : p ∈ cutB s) : p.size ≤ s.size := by
  unfold cutB at h
  obtain ⟨l, hl, rfl⟩ := List.mem_map.1 h
  have := cutL_mem _ _ hl
  show l.toArray.size ≤ s.data.size
  rw [List.size_toArray, ← Array.length_toList]
  exact this
/-- How far the cutting has come. -/
def CutI (s : ByteArray) (done : List ByteArray) (fr k : Nat) : Prop :=
  fr ≤ k ∧ ((k ≤ s.size ∧ cutB s = done ++ (cutL (s.data.toList.drop fr)).map (fun l => ⟨l.toArray⟩) ∧ ∀ j, fr ≤ j → j < k → s.data.toList[j]? ≠ some 44) ∨ (k = s.size + 1 ∧ cutB s = done))
theorem CutI.zero (s : ByteArray) : CutI s [] 0 0 := ⟨Nat.le_refl _, .inl ⟨by omega, by unfold cutB; simp, fun j _ h => by omega⟩⟩
theorem ext_list (s : ByteArray) (a b : Nat) : s.extract a b = ⟨((s.data.toList.drop a).take (b - a)).toArray⟩ := by
  apply ByteArray.ext
  apply Array.ext'
  simp [List.drop_take, List.extract]
theorem CutI.mid {s : ByteArray} {done : List ByteArray} {fr k : Nat} (h : CutI s done fr k) (hk : k < s.size) (hc : s.data.toList[k]? ≠ some 44) : CutI s done fr (k + 1) := by
  obtain ⟨h0, ⟨h1, h2, h3⟩ | ⟨h1, h2⟩⟩ := h
  · refine ⟨by omega, .inl ⟨by omega, h2, fun j hj1 hj2 => ?_⟩⟩
    by_cases e : j = k
    · subst e; exact hc
    · exact h3 j hj1 (by omega)
  · omega
theorem CutI.no44 {s : ByteArray} {fr k : Nat} (hk : k ≤ s.size) (h3 : ∀ j, fr ≤ j → j < k → s.data.toList[j]? ≠ some 44) : ∀ b ∈ (s.data.toList.drop fr).take (k - fr), b ≠ 44 := by
  intro b hb e
  subst e
  obtain ⟨j, hj, e⟩ := List.getElem_of_mem hb
  have hl : s.data.toList.length = s.size := by simp
  have hj2 : j < k - fr ∧ fr + j < s.size := by
    rw [List.length_take, List.length_drop] at hj; omega
  refine h3 (fr + j) (by omega) (by omega) ?_
  rw [← e]
  simp
theorem CutI.cut {s : ByteArray} {done : List ByteArray} {fr k : Nat} (h : CutI s done fr k) (hk : k < s.size) (hc : s.data.toList[k]? = some 44) : CutI s (done ++ [s.extract fr k]) (k + 1) (k + 1) := by
  obtain ⟨h0, ⟨h1, h2, h3⟩ | ⟨h1, h2⟩⟩ := h
  · refine ⟨Nat.le_refl _, .inl ⟨by omega, ?_, fun j hj1 hj2 => by omega⟩⟩
    have hl : s.data.toList.length = s.size := by simp
    obtain ⟨hi, e⟩ := List.getElem?_eq_some_iff.1 hc
    have hd : s.data.toList.drop fr = (s.data.toList.drop fr).take (k - fr) ++ 44 :: s.data.toList.drop (k + 1) := by
      have h8 : s.data.toList.drop k = 44 :: s.data.toList.drop (k + 1) := by rw [List.drop_eq_getElem_cons hi, e]
      rw [← h8]
      conv => lhs; rw [← List.take_append_drop (k - fr) (s.data.toList.drop fr)]
      rw [List.drop_drop, show fr + (k - fr) = k by omega]
    rw [h2, hd, cutL_app _ _ (CutI.no44 h1 h3), List.map_cons, List.append_assoc, ext_list]
    simp
  · omega
theorem CutI.fin {s : ByteArray} {done : List ByteArray} {fr : Nat} (h : CutI s done fr s.size) : CutI s (done ++ [s.extract fr s.size]) (s.size + 1) (s.size + 1) := by
  obtain ⟨h0, ⟨h1, h2, h3⟩ | ⟨h1, h2⟩⟩ := h
  · refine ⟨Nat.le_refl _, .inr ⟨rfl, ?_⟩⟩
    have hl : s.data.toList.length = s.size := by simp
    have ht : (s.data.toList.drop fr).take (s.size - fr) = s.data.toList.drop fr := List.take_of_length_le (by simp)
    have h9 := CutI.no44 h1 h3
    rw [ht] at h9
    rw [h2, cutL_none _ h9, ext_list, ht]
    simp
  · omega
theorem CutI.done {s : ByteArray} {done : List ByteArray} {fr k : Nat} (h : CutI s done fr k) (hk : ¬ k ≤ s.size) : cutB s = done := by
  obtain ⟨h0, ⟨h1, h2, h3⟩ | ⟨h1, h2⟩⟩ := h
  · omega
  · exact h2
theorem CutI.len {s : ByteArray} {done : List ByteArray} {fr k : Nat} (h : CutI s done fr k) : done.length ≤ s.size + 1 := by
  have h9 := cutB_len s
  obtain ⟨h0, ⟨h1, h2, h3⟩ | ⟨h1, h2⟩⟩ := h
  · rw [h2] at h9; simp at h9; omega
  · rw [h2] at h9; exact h9
end Go.Proofs.YtonngkkhefppdaaDoor.Pc
