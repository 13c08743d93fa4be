/- The walks of check numbers. -/
import Derived.Test.YthbinacchpjkmaaSa
import Derived.IntWalk
set_option linter.unusedSimpArgs false
set_option linter.unusedVariables false
namespace Go.Proofs.Ythbinacchpjkmaa.Wk
open Go.RowKit Fl

/-! ### CheckOf -/
def checkStep (n : Int) (c : UInt8) : Int := (691 * n + c.toNat + 43) % 65003
def checkF (n : Int) (l : List UInt8) : Int := l.foldl checkStep n
theorem check_snoc (n : Int) (l : List UInt8) (c : UInt8) : checkF n (l ++ [c]) = checkStep (checkF n l) c := by unfold checkF; rw [List.foldl_append]; rfl
theorem check_in (n : Int) (l : List UInt8) (h0 : 0 ≤ n) (h1 : n ≤ 65002) : 0 ≤ checkF n l ∧ checkF n l ≤ 65002 := by
  unfold checkF
  induction l generalizing n with
  | nil => exact ⟨h0, h1⟩
  | cons c l ih => exact ih (checkStep n c) (by unfold checkStep; omega) (by unfold checkStep; omega)
theorem take_snoc (s : ByteArray) (k : Nat) (h : k < s.size) : s.data.toList.take (k + 1) = s.data.toList.take k ++ [s[k]] := by
  rw [List.take_succ_eq_append_getElem (by simpa using h)]; rfl
theorem byte_lt (c : UInt8) : (c.toNat : Int) ≤ 255 := by have := UInt8.toNat_lt c; omega

set_option maxHeartbeats 800000 in
theorem l01Check (n : Int) (s : ByteArray) (w : World) (h0 : 0 ≤ n) (h1 : n ≤ 65002) (hs : s.size ≤ maxLen) : Calls Try.prog 42 #[.int .i64 n, .string s] w fun e w' => e = .returned (.int .i64 (checkF n s.data.toList)) ∧ w = w' := by
  unfold maxLen at hs
  go_enter Try.func42, Try.ntmps42
  go_wp2
  go_loop [0, 5] (fun m i => ∃ k : Nat, k ≤ s.size ∧ i = .int .i64 k ∧ m = .int .i64 (checkF n (s.data.toList.take k))) (fun _ i => s.size - (intOf i).toNat)
  case atStart => exact ⟨0, Nat.zero_le _, rfl, rfl⟩
  case round =>
    obtain ⟨k, hk, rfl, rfl⟩ := hrel
    have hb := check_in n (s.data.toList.take k) h0 h1
    by_cases hlt : k < s.size
    · have hB := byte_lt s[k]
      have HS : Hid (checkF n (s.data.toList.take (k + 1)) = checkStep (checkF n (s.data.toList.take k)) s[k]) := by
        rw [take_snoc s k hlt]; exact check_snoc _ _ _
      generalize checkF n (s.data.toList.take k) = m at *
      obtain ⟨hb0, hb1⟩ := hb
      go_wp2
      go_round
      case rel => exact ⟨k + 1, by omega, by go_num, congrArg (Value.int .i64) HS.out.symm⟩
      case measure => simp [intOf]; omega
    · go_wp2
      go_ret
      exact ⟨retI (by rw [List.take_of_length_le (by simp; omega)]), rfl⟩
def checkV (n : Int) (s : ByteArray) : Int := if inB n 0 65002 then checkF n s.data.toList else 0
theorem specCheckOf (n : Int) (s : ByteArray) (w : World) (hs : s.size ≤ maxLen) : Calls Try.prog 15 #[.int .i64 n, .string s] w fun e w' => e = .returned (.tuple #[.int .i64 (checkV n s), .bool (inB n 0 65002)]) ∧ w = w' := by
  have Hs := Lib.hid hs
  clear hs
  by_cases h : inB n 0 65002 = true
  · have h0 : 0 ≤ n ∧ n ≤ 65002 := by unfold inB at h; simpa using h
    go_enter Try.func15, Try.ntmps15
    go_wp2_with (first | (go_at_call 41; refine (specIn _ _ _ _).mono ?_; rintro e w' ⟨rfl, rfl⟩) | (go_at_call 42; refine (l01Check _ _ _ h0.1 h0.2 Hs.out).mono ?_; rintro e w' ⟨rfl, rfl⟩))
    go_ret2
    refine ⟨?_, rfl⟩
    unfold checkV; rw [if_pos h, h]; rfl
  · simp only [Bool.not_eq_true] at h
    go_enter Try.func15, Try.ntmps15
    go_wp2_with (first | (go_at_call 41; refine (specIn _ _ _ _).mono ?_; rintro e w' ⟨rfl, rfl⟩))
    go_ret2
    refine ⟨?_, rfl⟩
    unfold checkV; rw [h]; rfl

set_option maxHeartbeats 800000 in
theorem implCheckOf (n : Int) (s : ByteArray) (w : World) (hs : s.size ≤ maxLen) : Calls Try.prog 16 #[.int .i64 n, .string s] w fun e w' => e = .returned (.tuple #[.int .i64 (checkV n s), .bool (inB n 0 65002)]) ∧ w = w' := by
  unfold maxLen at hs
  by_cases h : inB n 0 65002 = true
  · have h0 : 0 ≤ n ∧ n ≤ 65002 := by unfold inB at h; simpa using h
    obtain ⟨h0, h1⟩ := h0
    go_enter Try.func16, Try.ntmps16
    go_wp2_with (first | (go_at_call 43; refine (implIn _ _ _ _).mono ?_; rintro e w' ⟨rfl, rfl⟩))
    go_loop [0, 12] (fun m i => ∃ k : Nat, k ≤ s.size ∧ i = .int .i64 k ∧ m = .int .i64 (checkF n (s.data.toList.take k))) (fun _ i => s.size - (intOf i).toNat)
    case atStart => exact ⟨0, Nat.zero_le _, rfl, rfl⟩
    case round =>
      obtain ⟨k, hk, rfl, rfl⟩ := hrel
      have hb := check_in n (s.data.toList.take k) h0 h1
      by_cases hlt : k < s.size
      · have hB := byte_lt s[k]
        have HS : Hid (checkF n (s.data.toList.take (k + 1)) = checkStep (checkF n (s.data.toList.take k)) s[k]) := by
          rw [take_snoc s k hlt]; exact check_snoc _ _ _
        generalize checkF n (s.data.toList.take k) = m at *
        obtain ⟨hb0, hb1⟩ := hb
        go_wp2
        go_round
        case rel => exact ⟨k + 1, by omega, by go_num, congrArg (Value.int .i64) HS.out.symm⟩
        case measure => simp [intOf]; omega
      · have HT : Hid (checkF n (s.data.toList.take k) = checkV n s) := by
          unfold checkV; rw [if_pos h, List.take_of_length_le (by simp; omega)]
          exact rfl
        go_wp2
        go_ret2
        refine ⟨?_, rfl⟩
        rw [← HT.out]; rfl
  · simp only [Bool.not_eq_true] at h
    go_enter Try.func16, Try.ntmps16
    go_wp2_with (first | (go_at_call 43; refine (implIn _ _ _ _).mono ?_; rintro e w' ⟨rfl, rfl⟩))
    go_ret2
    refine ⟨?_, rfl⟩
    unfold checkV; rw [h]; rfl

theorem fnExactCheckOf_walk (a : Int) (_wa : (Lit.int .i64 a).wf = true) (b : ByteArray) (wb : b.size ≤ maxLen) (w : World) :
    Calls Try.prog 4 #[.int .i64 a, .string b] w fun e w' => e = .returned (.bool true) ∧ Below w.heap.size w w' := by
  have hs := wb
  unfold maxLen at hs
  have Hw := Lib.hid wb
  clear wb _wa
  by_cases hl : 1048576 < b.size
  · go_enter Try.func4, Try.ntmps4
    go_wp2
    go_ret
    exact ⟨rfl, Below.refl _ _⟩
  · go_enter Try.func4, Try.ntmps4
    go_wp2_with (first | (go_at_call 15; refine (specCheckOf _ _ _ Hw.out).mono ?_; rintro e w' ⟨rfl, rfl⟩) | (go_at_call 16; refine (implCheckOf _ _ _ Hw.out).mono ?_; rintro e w' ⟨rfl, rfl⟩))
    go_ret
    exact ⟨rfl, Below.refl _ _⟩
end Go.Proofs.Ythbinacchpjkmaa.Wk
