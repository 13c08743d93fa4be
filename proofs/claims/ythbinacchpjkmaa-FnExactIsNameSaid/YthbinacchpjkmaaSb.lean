/- The walks of names and check numbers: two loops over a text. -/
import Derived.Test.YthbinacchpjkmaaSa
set_option linter.unusedSimpArgs false
set_option linter.unusedVariables false
namespace Go.Proofs.Ythbinacchpjkmaa.Wk
open Go.RowKit Fl

/-! ### IsName -/
def low (c : UInt8) : Bool := decide (97 ≤ (c.toNat : Int)) && decide ((c.toNat : Int) ≤ 122)
def nameB (s : ByteArray) : Bool := s.data.toList.all low && (decide (1 ≤ s.size) && decide (s.size ≤ 8))
theorem name_bad (s : ByteArray) (k : Nat) (h : k < s.size) (hb : low s[k] = false) : nameB s = false := by
  unfold nameB
  have : s.data.toList.all low = false := by
    rw [List.all_eq_false]
    exact ⟨s[k], by rw [ByteArray.getElem_eq_getElem_data]; exact Array.mem_toList_iff.2 (Array.getElem_mem _), by rw [hb]; simp⟩
  rw [this]; rfl
theorem name_all (s : ByteArray) (h : ∀ j (hj : j < s.size), low s[j] = true) : nameB s = (decide (1 ≤ s.size) && decide (s.size ≤ 8)) := by
  unfold nameB
  have : s.data.toList.all low = true := by
    rw [List.all_eq_true]
    intro c hc
    obtain ⟨j, hj, rfl⟩ := Array.mem_iff_getElem.1 (Array.mem_toList_iff.1 hc)
    exact h j hj
  rw [this]; rfl
def AllLow (s : ByteArray) (k : Nat) : Prop := ∀ j (hj : j < s.size), j < k → low s[j] = true
theorem AllLow.zero (s : ByteArray) : AllLow s 0 := fun j _ h => absurd h (by omega)
theorem AllLow.succ {s : ByteArray} {k : Nat} (h : AllLow s k) (hk : k < s.size) (hl : low s[k] = true) : AllLow s (k + 1) := fun j hj hjk => by
  by_cases e : j = k
  · subst e; exact hl
  · exact h j hj (by omega)
theorem AllLow.done {s : ByteArray} {k : Nat} (h : AllLow s k) (hk : ¬ k < s.size) : nameB s = (decide (1 ≤ s.size) && decide (s.size ≤ 8)) :=
  name_all s fun j hj => h j hj (by omega)
theorem low_lo {c : UInt8} (h : (c.toNat : Int) < 97) : low c = false := by unfold low; simp; omega
theorem low_hi {c : UInt8} (h : 122 < (c.toNat : Int)) : low c = false := by unfold low; simp; omega
theorem low_ok {c : UInt8} (h1 : ¬ (c.toNat : Int) < 97) (h2 : ¬ 122 < (c.toNat : Int)) : low c = true := by unfold low; simp; omega

set_option maxHeartbeats 800000 in
theorem specIsName (s : ByteArray) (w : World) (hs : s.size ≤ maxLen) : Calls Try.prog 13 #[.string s] w fun e w' => e = .returned (.bool (nameB s)) ∧ w = w' := by
  unfold maxLen at hs
  go_enter Try.func13, Try.ntmps13
  go_wp2
  go_loop [3] (fun i => ∃ k : Nat, k ≤ s.size ∧ i = .int .i64 k ∧ AllLow s k) (fun i => s.size - (intOf i).toNat)
  case atStart => exact ⟨0, Nat.zero_le _, rfl, AllLow.zero s⟩
  case round =>
    obtain ⟨k, hk, rfl, hall⟩ := hrel
    by_cases hlt : k < s.size
    · by_cases h1 : (s[k].toNat : Int) < 97
      · go_wp2
        go_ret
        exact ⟨retB (name_bad s k hlt (low_lo h1)).symm, rfl⟩
      · by_cases h2 : 122 < (s[k].toNat : Int)
        · go_wp2
          go_ret
          exact ⟨retB (name_bad s k hlt (low_hi h2)).symm, rfl⟩
        · go_wp2
          go_round
          case rel => exact ⟨k + 1, by omega, by go_num, hall.succ hlt (low_ok h1 h2)⟩
          case measure => simp [intOf]; omega
    · have hd := Lib.hid (hall.done hlt)
      clear hall
      by_cases g1 : (1 : Int) ≤ (s.size : Int) <;> by_cases g2 : (s.size : Int) ≤ 8
      all_goals
        go_wp2
        go_ret
        exact ⟨retB (by rw [hd.out]; simp; omega), rfl⟩

set_option maxHeartbeats 800000 in
theorem implIsName (s : ByteArray) (w : World) (hs : s.size ≤ maxLen) : Calls Try.prog 14 #[.string s] w fun e w' => e = .returned (.bool (nameB s)) ∧ w = w' := by
  unfold maxLen at hs
  go_enter Try.func14, Try.ntmps14
  go_wp2
  go_loop [6] (fun i => ∃ k : Nat, k ≤ s.size ∧ i = .int .i64 k ∧ AllLow s k) (fun i => s.size - (intOf i).toNat)
  case atStart => exact ⟨0, Nat.zero_le _, rfl, AllLow.zero s⟩
  case round =>
    obtain ⟨k, hk, rfl, hall⟩ := hrel
    by_cases hlt : k < s.size
    · by_cases h1 : (s[k].toNat : Int) < 97
      · go_wp2
        go_ret
        exact ⟨retB (name_bad s k hlt (low_lo h1)).symm, rfl⟩
      · by_cases h2 : 122 < (s[k].toNat : Int)
        · go_wp2
          go_ret
          exact ⟨retB (name_bad s k hlt (low_hi h2)).symm, rfl⟩
        · go_wp2
          go_round
          case rel => exact ⟨k + 1, by omega, by go_num, hall.succ hlt (low_ok h1 h2)⟩
          case measure => simp [intOf]; omega
    · have hd := Lib.hid (hall.done hlt)
      clear hall
      by_cases g1 : (1 : Int) ≤ (s.size : Int) <;> by_cases g2 : (s.size : Int) ≤ 8
      all_goals
        go_wp2
        go_ret
        exact ⟨retB (by rw [hd.out]; simp; omega), rfl⟩

theorem fnExactIsName_walk (a : ByteArray) (wa : a.size ≤ maxLen) (w : World) :
    Calls Try.prog 3 #[.string a] w fun e w' => e = .returned (.bool true) ∧ Below w.heap.size w w' := by
  have hs := wa
  unfold maxLen at hs
  have Hw := Lib.hid wa
  clear wa
  by_cases hl : 1048576 < a.size
  · go_enter Try.func3, Try.ntmps3
    go_wp2
    go_ret
    exact ⟨rfl, Below.refl _ _⟩
  · go_enter Try.func3, Try.ntmps3
    go_wp2_with (first | (go_at_call 13; refine (specIsName _ _ Hw.out).mono ?_; rintro e w' ⟨rfl, rfl⟩) | (go_at_call 14; refine (implIsName _ _ Hw.out).mono ?_; rintro e w' ⟨rfl, rfl⟩))
    go_ret
    exact ⟨rfl, Below.refl _ _⟩

end Go.Proofs.Ythbinacchpjkmaa.Wk
