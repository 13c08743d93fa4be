/- The reading of decimals, walked. -/
import Derived.Test.YtfkkabonpbpfoaaDoorDb
import Derived.Test.YtfkkabonpbpfoaaDoorDp
import Derived.Laws.StructEq
import Derived.MapKept
set_option linter.unusedSimpArgs false
set_option linter.unusedVariables false
namespace Go.Proofs.YtfkkabonpbpfoaaDoor.Wk
open Go.RowKit

theorem bytes_beq_eq {a b : ByteArray} (h : (a == b) = true) : a = b := by
  first | exact (bytes_beq a b).1 h | exact (Go.MapKept.bytes_beq a b).1 h
theorem list_ne {t s : ByteArray} (h : ¬ t = s) : (t.toList == s.toList) = false := by
  rw [← beq_toListBytes]
  cases e : (t == s)
  · rfl
  · exact absurd (bytes_beq_eq e) h
theorem retB {a b : Bool} (h : a = b) : Ending.returned (.bool a) = Ending.returned (.bool b) := by rw [h]
def inB (n lo hi : Int) : Bool := decide (lo ≤ n) && decide (n ≤ hi)
theorem specIn (n lo hi : Int) (w : World) : Calls Tryd.prog 30 #[.int .i64 n, .int .i64 lo, .int .i64 hi] w fun e w' => e = .returned (.bool (inB n lo hi)) ∧ w = w' := by
  by_cases h1 : lo ≤ n <;> by_cases h2 : n ≤ hi
  all_goals
    go_enter Tryd.func30, Tryd.ntmps30
    go_wp2
    go_ret
    exact ⟨retB (by unfold inB; simp [h1, h2]), rfl⟩
theorem implIn (n lo hi : Int) (w : World) : Calls Tryd.prog 23 #[.int .i64 n, .int .i64 lo, .int .i64 hi] w fun e w' => e = .returned (.bool (inB n lo hi)) ∧ w = w' := by
  by_cases h1 : lo ≤ n <;> by_cases h2 : n ≤ hi
  all_goals
    go_enter Tryd.func23, Tryd.ntmps23
    go_wp2
    go_ret
    exact ⟨retB (by unfold inB; simp [h1, h2]), rfl⟩
theorem take_snoc (s : ByteArray) (k : Nat) (h : k < s.size) : s.data.toList.take (k + 1) = s.data.toList.take k ++ [s[k]] := by
  rw [List.take_succ_eq_append_getElem (by simpa using h)]; rfl
theorem fold_in (l : List UInt8) : ∀ k : Nat, l.length ≤ k → 0 ≤ l.foldl Pd.digF 0 ∧ l.foldl Pd.digF 0 < (10 : Int) ^ k := by
  suffices h : ∀ (l : List UInt8) (n : Int) (j : Nat), 0 ≤ n → n < (10 : Int) ^ j → 0 ≤ l.foldl Pd.digF n ∧ l.foldl Pd.digF n < (10 : Int) ^ (j + l.length) by
    intro k hk
    have := h l 0 (k - l.length) (by omega) (Int.pow_pos (by omega))
    rwa [show k - l.length + l.length = k by omega] at this
  intro l
  induction l with
  | nil => intro n j h0 h1; exact ⟨h0, h1⟩
  | cons c r ih =>
    intro n j h0 h1
    have e : (10 : Int) ^ (j + 1) = 10 ^ j * 10 := Int.pow_succ _ _
    have := ih (Pd.digF n c) (j + 1) (by unfold Pd.digF; split <;> omega) (by unfold Pd.digF; split <;> omega)
    rwa [show j + 1 + r.length = j + (c :: r).length by simp; omega] at this
theorem byte_lt (c : UInt8) : (c.toNat : Int) ≤ 255 := by have := UInt8.toNat_lt c; omega
theorem dig_yes {n : Int} {c : UInt8} (h1 : (48 : Int) ≤ c.toNat) (h2 : (c.toNat : Int) ≤ 57) : Pd.digF n c = 10 * n + ((c.toNat : Int) - 48) := by unfold Pd.digF; rw [if_pos (by omega)]
theorem dig_no {n : Int} {c : UInt8} (h : ¬ ((48 : Int) ≤ c.toNat ∧ (c.toNat : Int) ≤ 57)) : Pd.digF n c = n := by unfold Pd.digF; rw [if_neg (by omega)]
set_option maxRecDepth 20000 in
set_option maxHeartbeats 1600000 in
theorem specValue (s : ByteArray) (w : World) (hs : s.size ≤ maxLen) : Calls Tryd.prog 21 #[.string s] w fun e w' => e = .returned (.tuple #[.int .i64 (Pd.specV s.data.toList).1, .bool (Pd.specV s.data.toList).2]) ∧ Below w.heap.size w w' := by
  unfold maxLen at hs
  by_cases hlo : (s.size : Int) < 1
  · have HV := Lib.hid (show Pd.specV s.data.toList = (0, false) by unfold Pd.specV; rw [if_neg (by simp; omega)])
    go_enter Tryd.func21, Tryd.ntmps21
    go_wp2
    go_ret2
    exact ⟨by rw [HV.out]; rfl, Below.refl _ _⟩
  by_cases hhi : 17 < (s.size : Int)
  · have HV := Lib.hid (show Pd.specV s.data.toList = (0, false) by unfold Pd.specV; rw [if_neg (by simp; omega)])
    go_enter Tryd.func21, Tryd.ntmps21
    go_wp2
    go_ret2
    exact ⟨by rw [HV.out]; rfl, Below.refl _ _⟩
  go_enter Tryd.func21, Tryd.ntmps21
  go_wp2
  go_loop [4, 5] (fun m i => ∃ k : Nat, k ≤ s.size ∧ i = .int .i64 k ∧ m = .int .i64 ((s.data.toList.take k).foldl Pd.digF 0)) (fun _ i => s.size - (intOf i).toNat)
  case atStart => exact ⟨0, Nat.zero_le _, rfl, rfl⟩
  case round =>
    obtain ⟨k, hk, rfl, rfl⟩ := hrel
    by_cases hlt : k < s.size
    · have hb := fold_in (s.data.toList.take k) 16 (by simp; omega)
      have hB := byte_lt s[k]
      have HS : Hid ((s.data.toList.take (k + 1)).foldl Pd.digF 0 = Pd.digF ((s.data.toList.take k).foldl Pd.digF 0) s[k]) := by
        rw [take_snoc s k hlt, List.foldl_append]; rfl
      generalize (s.data.toList.take k).foldl Pd.digF 0 = m at *
      obtain ⟨hb0, hb1⟩ := hb
      have hb2 : m < 10000000000000000 := by simpa using hb1
      clear hb1
      by_cases h1 : (48 : Int) ≤ s[k].toNat
      · by_cases h2 : (s[k].toNat : Int) ≤ 57
        · have HY := Lib.hid (dig_yes (n := m) h1 h2)
          go_wp2
          go_round
          case rel => exact ⟨k + 1, by omega, by go_num, congrArg (Value.int .i64) (by rw [HS.out, HY.out])⟩
          case measure => simp [intOf]; omega
        · have HY := Lib.hid (dig_no (n := m) (c := s[k]) (fun h => h2 h.2))
          go_wp2
          go_round
          case rel => exact ⟨k + 1, by omega, by go_num, congrArg (Value.int .i64) (by rw [HS.out, HY.out])⟩
          case measure => simp [intOf]; omega
      · have HY := Lib.hid (dig_no (n := m) (c := s[k]) (fun h => h1 h.1))
        go_wp2
        go_round
        case rel => exact ⟨k + 1, by omega, by go_num, congrArg (Value.int .i64) (by rw [HS.out, HY.out])⟩
        case measure => simp [intOf]; omega
    · obtain rfl : k = s.size := by omega
      have h0 : 0 < s.size := by omega
      have hb := fold_in (s.data.toList.take s.size) 17 (by simp; omega)
      have ht : s.data.toList.take s.size = s.data.toList := List.take_of_length_le (by simp)
      rw [ht] at hb ⊢
      have hhd : s.data.toList.head? = some s[0] := by
        rw [List.head?_eq_getElem?, List.getElem?_eq_getElem (by simpa using h0)]; rfl
      obtain ⟨hb0, hb1⟩ := hb
      have hb2 : s.data.toList.foldl Pd.digF 0 < 100000000000000000 := by simpa using hb1
      clear hb1
      by_cases h45 : (s[0].toNat : Int) = 45
      · have HN0 : Pd.specN s.data.toList = -(s.data.toList.foldl Pd.digF 0) := by
          unfold Pd.specN
          rw [hhd, if_pos (by congr 1; exact UInt8.toNat_inj.1 (by simpa using (by omega : s[0].toNat = 45)))]
        generalize hF : s.data.toList.foldl Pd.digF 0 = F at *
        obtain ⟨N, hN⟩ : ∃ N, N = -F := ⟨_, rfl⟩
        have HN := Lib.hid (HN0.trans hN.symm)
        obtain rfl : F = -N := by omega
        clear HN0 hN hF hhd
        have HD := Lib.hid (fun w => specDec N (by omega) (by omega) w)
        have HT := Lib.hid (show (⟨(Lib.itoa N).toArray⟩ : ByteArray) = s ↔ Lib.itoa N = s.data.toList from ⟨fun e => by rw [← e], fun e => by rw [e]⟩)
        generalize (⟨(Lib.itoa N).toArray⟩ : ByteArray) = t at *
        by_cases hin : inB N (-1000000000000000) 1000000000000000 = true
        · by_cases hts : t = s
          · subst hts
            have HV := Lib.hid (show Pd.specV t.data.toList = (N, true) by
              unfold Pd.specV
              rw [if_pos ⟨by simp; omega, by rw [HN.out]; exact Pd.okV_iff.2 ⟨by simpa [inB] using hin, HT.out.1 rfl⟩⟩, HN.out])
            go_wp2_with (first | (go_at_call 30; refine (specIn _ _ _ _).mono ?_; rintro e w' ⟨rfl, rfl⟩) | (go_at_call 19; refine (HD.out _).mono ?_; rintro e w' ⟨rfl, hb⟩; have HB := Lib.hid hb; clear hb))
            go_ret2
            exact ⟨by rw [HV.out]; rfl, HB.out⟩
          · have hbl : (t.toList == s.toList) = false := list_ne hts
            have HV := Lib.hid (show Pd.specV s.data.toList = (0, false) by
              unfold Pd.specV
              rw [if_neg (fun h => hts (HT.out.2 (by rw [← HN.out]; exact (Pd.okV_iff.1 h.2).2)))])
            go_wp2_with (first | (go_at_call 30; refine (specIn _ _ _ _).mono ?_; rintro e w' ⟨rfl, rfl⟩) | (go_at_call 19; refine (HD.out _).mono ?_; rintro e w' ⟨rfl, hb⟩; have HB := Lib.hid hb; clear hb))
            go_ret2
            exact ⟨by rw [HV.out]; rfl, HB.out⟩
        · simp only [Bool.not_eq_true] at hin
          have HV := Lib.hid (show Pd.specV s.data.toList = (0, false) by
            unfold Pd.specV
            rw [if_neg (fun h => by
              have := (Pd.okV_iff.1 h.2).1
              rw [HN.out] at this
              have h9 : inB N (-1000000000000000) 1000000000000000 = true := by simpa [inB] using this
              rw [h9] at hin; cases hin)])
          go_wp2_with (first | (go_at_call 30; refine (specIn _ _ _ _).mono ?_; rintro e w' ⟨rfl, rfl⟩))
          go_ret2
          exact ⟨by rw [HV.out]; rfl, Below.refl _ _⟩
      · have HN0 : Pd.specN s.data.toList = (s.data.toList.foldl Pd.digF 0) := by
          unfold Pd.specN
          rw [hhd, if_neg (fun e => h45 (by have := Option.some.inj e; rw [this]; rfl))]
        generalize hF : s.data.toList.foldl Pd.digF 0 = N at *
        have HN := Lib.hid HN0
        clear HN0 hF hhd
        have HD := Lib.hid (fun w => specDec N (by omega) (by omega) w)
        have HT := Lib.hid (show (⟨(Lib.itoa N).toArray⟩ : ByteArray) = s ↔ Lib.itoa N = s.data.toList from ⟨fun e => by rw [← e], fun e => by rw [e]⟩)
        generalize (⟨(Lib.itoa N).toArray⟩ : ByteArray) = t at *
        by_cases hin : inB N (-1000000000000000) 1000000000000000 = true
        · by_cases hts : t = s
          · subst hts
            have HV := Lib.hid (show Pd.specV t.data.toList = (N, true) by
              unfold Pd.specV
              rw [if_pos ⟨by simp; omega, by rw [HN.out]; exact Pd.okV_iff.2 ⟨by simpa [inB] using hin, HT.out.1 rfl⟩⟩, HN.out])
            go_wp2_with (first | (go_at_call 30; refine (specIn _ _ _ _).mono ?_; rintro e w' ⟨rfl, rfl⟩) | (go_at_call 19; refine (HD.out _).mono ?_; rintro e w' ⟨rfl, hb⟩; have HB := Lib.hid hb; clear hb))
            go_ret2
            exact ⟨by rw [HV.out]; rfl, HB.out⟩
          · have hbl : (t.toList == s.toList) = false := list_ne hts
            have HV := Lib.hid (show Pd.specV s.data.toList = (0, false) by
              unfold Pd.specV
              rw [if_neg (fun h => hts (HT.out.2 (by rw [← HN.out]; exact (Pd.okV_iff.1 h.2).2)))])
            go_wp2_with (first | (go_at_call 30; refine (specIn _ _ _ _).mono ?_; rintro e w' ⟨rfl, rfl⟩) | (go_at_call 19; refine (HD.out _).mono ?_; rintro e w' ⟨rfl, hb⟩; have HB := Lib.hid hb; clear hb))
            go_ret2
            exact ⟨by rw [HV.out]; rfl, HB.out⟩
        · simp only [Bool.not_eq_true] at hin
          have HV := Lib.hid (show Pd.specV s.data.toList = (0, false) by
            unfold Pd.specV
            rw [if_neg (fun h => by
              have := (Pd.okV_iff.1 h.2).1
              rw [HN.out] at this
              have h9 : inB N (-1000000000000000) 1000000000000000 = true := by simpa [inB] using this
              rw [h9] at hin; cases hin)])
          go_wp2_with (first | (go_at_call 30; refine (specIn _ _ _ _).mono ?_; rintro e w' ⟨rfl, rfl⟩))
          go_ret2
          exact ⟨by rw [HV.out]; rfl, Below.refl _ _⟩
end Go.Proofs.YtfkkabonpbpfoaaDoor.Wk
