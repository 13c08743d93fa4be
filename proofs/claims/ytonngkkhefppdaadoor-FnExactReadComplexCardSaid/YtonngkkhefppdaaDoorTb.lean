/- Eight digits read, walked: the program's and the reference's. -/
import Derived.Test.YtonngkkhefppdaaDoorTa
import Derived.Test.YtonngkkhefppdaaDoorPh
set_option linter.unusedSimpArgs false
set_option linter.unusedVariables false
namespace Go.Proofs.YtonngkkhefppdaaDoor.Wk
open Go.RowKit Fl Pc Ph

/-- The word with these digits. -/
def readW (l : List UInt8) : Option Nat := if l.length = 8 then (match hexO l with | some n => if bitsN n = n then some n else none | none => none) else none
theorem readW_len {l : List UInt8} (h : ¬ l.length = 8) : readW l = none := if_neg h
theorem readW_none {l : List UInt8} (h : hexO l = none) : readW l = none := by unfold readW; rw [h]; simp
theorem readW_some {l : List UInt8} {n : Nat} (hl : l.length = 8) (h : hexO l = some n) (hb : bitsN n = n) : readW l = some n := by unfold readW; rw [if_pos hl, h]; simp [hb]
theorem readW_bits {l : List UInt8} {n : Nat} (h : hexO l = some n) (hb : ¬ bitsN n = n) : readW l = none := by unfold readW; rw [h]; simp [hb]
def RW (l : List UInt8) (w : World) (e : Ending) (w' : World) : Prop := ∃ x b, e = .returned (.tuple #[.float .f32 x, .bool b]) ∧ readW l = (if b then some x else none) ∧ w = w'
theorem size_list (s : ByteArray) : s.data.toList.length = s.size := by simp
theorem at_list {s : ByteArray} {k : Nat} (h : k < s.size) : s.data.toList[k]? = some s[k] := by
  rw [List.getElem?_eq_getElem (by simpa using h)]; rfl
theorem implIndex (c : UInt8) (w : World) : Calls Tryd.prog 25 #[.string ⟨#[48, 49, 50, 51, 52, 53, 54, 55, 56, 57, 97, 98, 99, 100, 101, 102]⟩, .int .u8 (c.toNat : Int)] w fun e w' => e = .returned (.int .i64 (hexR (hexV c))) ∧ w = w' := by
  refine (Tryd.strings_IndexByte ⟨#[48, 49, 50, 51, 52, 53, 54, 55, 56, 57, 97, 98, 99, 100, 101, 102]⟩ (c.toNat : Int) w).mono ?_
  rintro e w' ⟨rfl, rfl⟩
  refine ⟨?_, rfl⟩
  rw [← hexV_index c]
  have : ((c.toNat : Int).toNat.toUInt8) = c := by simp
  rw [this]; rfl
theorem dig_bounds {c : UInt8} {d : Nat} (h : hexV c = some d) : d < 16 := hexV_lt h
set_option maxRecDepth 20000 in
set_option maxHeartbeats 1600000 in
theorem implReadNumber (s : ByteArray) (hs : s.size ≤ 1048576) (w : World) : Calls Tryd.prog 17 #[.string s] w (RW s.data.toList w) := by
  have HI := Lib.hid (fun (c : UInt8) (u : World) => implIndex c u)
  have HF := Lib.hid (fun (n : Nat) (hn : n < 4294967296) (u : World) => (show Calls Tryd.prog 26 #[.int .i64 (n : Int)] u fun e w' => e = .returned (.tuple #[.float .f32 n, .bool true]) ∧ u = w' from by
    have h := implFromBits (n : Int) u
    have h2 : inB (n : Int) 0 4294967295 = true := by unfold inB; simp; omega
    have h3 : fromF (n : Int) = n := by unfold fromF; rw [if_pos h2]; simp
    rw [h2, h3] at h
    exact h))
  go_enter Tryd.func17, Tryd.ntmps17
  go_wp2_with fail
  go_loop [4, 11] (fun m i => ∃ k n : Nat, k ≤ s.size ∧ k ≤ 8 ∧ i = .int .i64 k ∧ m = .int .i64 n ∧ Hid (HexI s.data.toList k n)) (fun _ i => s.size - (intOf i).toNat)
  case atStart => exact ⟨0, 0, Nat.zero_le _, by omega, rfl, rfl, HexI.zero _⟩
  case round =>
    obtain ⟨k, n, hk, hk8, rfl, rfl, hH⟩ := hrel
    have hn := hH.out.lt hk8
    by_cases hlt : k < s.size
    · have hat := at_list hlt
      cases hd : hexV s[k] with
      | none =>
        have HV := Lib.hid (readW_none (hH.out.bad hat hd))
        have HIk := Lib.hid (fun u => HI.out s[k] u)
        rw [hd] at HIk
        unfold hexR at HIk
        dsimp only at HIk
        clear hat hd hH HI HF
        go_wp2_with (go_at_call 25; refine (HIk.out _).mono ?_; rintro e w' ⟨rfl, rfl⟩)
        go_ret2
        exact ⟨_, _, rfl, by rw [HV.out]; rfl, rfl⟩
      | some d =>
        have hd16 := hexV_lt hd
        have HIk := Lib.hid (fun u => HI.out s[k] u)
        rw [hd] at HIk
        unfold hexR at HIk
        dsimp only at HIk
        by_cases h8 : k = 8
        · have hb8 : (((k : Nat) : Int) == 8) = true := by simp; omega
          have HV := Lib.hid (readW_len (l := s.data.toList) (by rw [size_list]; omega))
          clear hat hd hH HI HF h8
          go_wp2_with (go_at_call 25; refine (HIk.out _).mono ?_; rintro e w' ⟨rfl, rfl⟩)
          go_ret2
          exact ⟨_, _, rfl, by rw [HV.out]; rfl, rfl⟩
        · have hb8 : (((k : Nat) : Int) == 8) = false := by simp; omega
          have HH := Lib.hid (hH.out.next hat hd)
          clear hat hd hH HI HF
          go_wp2_with (go_at_call 25; refine (HIk.out _).mono ?_; rintro e w' ⟨rfl, rfl⟩)
          go_round
          case rel => exact ⟨k + 1, 16 * n + d, by omega, by omega, by go_num, by go_num, HH⟩
          case measure => simp [intOf]; omega
    · obtain rfl : k = s.size := by omega
      have HFn := Lib.hid (HF.out n hn)
      have HB := Lib.hid (fun u => implBitsOf n hn u)
      have hdone : hexO s.data.toList = some n := by
        have h := hH.out
        rw [← size_list] at h
        exact h.done
      by_cases h8 : s.size = 8
      · have hb8 : (((s.size : Nat) : Int) == 8) = true := by simp; omega
        by_cases hbn : bitsN n = n
        · have HV := Lib.hid (readW_some (by rw [size_list]; exact h8) hdone hbn)
          rw [hbn] at HB
          clear hdone hH HI HF hbn
          go_wp2_with (first | (go_at_call 26; refine (HFn.out _).mono ?_; rintro e w' ⟨rfl, rfl⟩) | (go_at_call 27; refine (HB.out _).mono ?_; rintro e w' ⟨rfl, rfl⟩))
          go_ret2
          exact ⟨_, _, rfl, by rw [HV.out]; simp, rfl⟩
        · have HV := Lib.hid (readW_bits hdone hbn)
          have hbb : (((bitsN n : Nat) : Int) == ((n : Nat) : Int)) = false := by simp; omega
          clear hdone hH HI HF hbn
          go_wp2_with (first | (go_at_call 26; refine (HFn.out _).mono ?_; rintro e w' ⟨rfl, rfl⟩) | (go_at_call 27; refine (HB.out _).mono ?_; rintro e w' ⟨rfl, rfl⟩))
          go_ret2
          exact ⟨_, _, rfl, by rw [HV.out]; simp, rfl⟩
      · have hb8 : (((s.size : Nat) : Int) == 8) = false := by simp; omega
        have HV := Lib.hid (readW_len (l := s.data.toList) (by rw [size_list]; exact h8))
        clear hdone hH HI HF
        go_wp2_with (first | (go_at_call 26; refine (HFn.out _).mono ?_; rintro e w' ⟨rfl, rfl⟩) | (go_at_call 27; refine (HB.out _).mono ?_; rintro e w' ⟨rfl, rfl⟩))
        go_ret2
        exact ⟨_, _, rfl, by rw [HV.out]; simp, rfl⟩
end Go.Proofs.YtonngkkhefppdaaDoor.Wk
