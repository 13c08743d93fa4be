/- The reference's reading of numbers, walked. -/
import Derived.Test.YtonngkkhefppdaaDoorTc
set_option linter.unusedSimpArgs false
set_option linter.unusedVariables false
namespace Go.Proofs.YtonngkkhefppdaaDoor.Wk
open Go.RowKit Fl Pc Ph

set_option maxRecDepth 20000 in
set_option maxHeartbeats 4000000 in
theorem specNRead (s : ByteArray) (hs : s.size ≤ 1048576) (w : World) : Calls Tryd.prog 15 #[.string s] w (RV (okW (partsB s)) (valW (partsB s)) (partsB s).length 35 w) := by
  obtain ⟨i, hi, hz, hs', hb⟩ := info_parts infoF
  have HI := Lib.hid hi
  have HZ := Lib.hid hz
  have HS := Lib.hid hs'
  have HBy := Lib.hid hb
  have HO0 : Hid ((w.alloc (.cells #[] 35)).ownsRow w.heap.size 35 1 (.slice (some ⟨w.heap.size, 0, none⟩) 0 0) 0 []) := World.ownsRow_lit w #[] 0 (Nat.le_refl _) (Nat.zero_le _) rfl
  have HB0 : Hid (Below w.heap.size w (w.alloc (.cells #[] 35))) := (Below.refl _ _).alloc (Nat.le_refl _) _
  clear hi hz hs' hb
  by_cases hn : s = ⟨#[110, 111, 110, 101]⟩
  · subst hn
    rw [partsB_none]
    have HV := Lib.hid (fullB_all (ok := okW []) (n := 0) (AllK.zero _) (by simp))
    go_enter Tryd.func15, Tryd.ntmps15
    go_wp2
    go_ret2
    exact ⟨.slice (some ⟨w.heap.size, 0, none⟩) 0 0, 0, by rw [HV.out]; rfl, by omega, by rw [HV.out]; rfl, HO0.out, HB0.out⟩
  obtain ⟨hnn, hpp⟩ := not_none hn
  have HP := Lib.hid (specCut s hs (w.alloc (.cells #[] 35)))
  have hlen := partsB_len s
  rw [← hpp] at HP
  generalize hLL : partsB s = L at *
  clear hLL hpp hn
  by_cases hmany : ¬ L.length ≤ 256
  · have HV := Lib.hid (fullB_many (ok := okW L) hmany)
    go_enter Tryd.func15, Tryd.ntmps15
    go_wp2_with (first | (go_at_call 21; refine HP.out.mono ?_; rintro e w1 ⟨v, rfl, hrt, hb⟩; have HB1 : Hid (Below w.heap.size w w1) := HB0.out.trans (hb.mono HB0.out.size); clear hb; obtain ⟨ao, cap, rfl⟩ : ∃ ao cap, v = .slice ao L.length cap := (by obtain ⟨ao, cap, e, hc⟩ := hrt; exact ⟨ao, cap, e⟩); clear hrt))
    go_ret2
    exact ⟨.slice none 0 0, 0, by rw [HV.out]; rfl, by omega, by rw [HV.out]; rfl, own_nil _ _ _ _, HB1.out⟩
  have hfew : L.length ≤ 256 := by omega
  clear hmany
  go_enter Tryd.func15, Tryd.ntmps15
  go_wp2_with (first | (go_at_call 21; refine HP.out.mono ?_; rintro e w1 ⟨v, rfl, hrt, hb⟩; have HB1 : Hid (Below w.heap.size w w1) := HB0.out.trans (hb.mono HB0.out.size); have HO1 := Lib.hid (own_below HO0.out hb); clear hb; obtain ⟨ao, cap, rfl, hc⟩ : ∃ ao cap, v = .slice ao L.length cap ∧ RowT w1 v L := (by obtain ⟨ao, cap, e, hc⟩ := hrt; exact ⟨ao, cap, e, ⟨ao, cap, e, hc⟩⟩); have HC := Lib.hid hc; clear hc hrt))
  go_loopw [4, 6] (fun p q wr => ∃ (k g c : Nat), k ≤ L.length ∧ q = .int .i64 k ∧ p = .slice (some ⟨g, 0, none⟩) k c ∧ Hid (wr.ownsRow w.heap.size 35 1 (.slice (some ⟨g, 0, none⟩) k c) k (valsL (valW L) k)) ∧ Hid (RowT wr (.slice ao L.length cap) L) ∧ Hid (Below w.heap.size w wr) ∧ Hid (AllK (okW L) k) ∧ k ≤ 256) (fun _ q _ => L.length - (intOf q).toNat)
  case atStart => exact ⟨0, w.heap.size, 0, by omega, rfl, rfl, HO1.out, HC.out, HB1.out, AllK.zero _, by omega⟩
  case round =>
    obtain ⟨k, g, c, hk, rfl, rfl, ho, hB1, hB, hA, hk64⟩ := hrel
    by_cases hlt : k < L.length
    · obtain ⟨x, hx⟩ : ∃ x, L[k]? = some x := ⟨_, List.getElem?_eq_getElem hlt⟩
      obtain ⟨a, rfl, hcx⟩ := row_at hB1.out hx
      have HG := Lib.hid (gW_at hx)
      have HBad := Lib.hid (fun (h : readW x.data.toList = none) => fullB_bad (ok := okW L) hlt (by unfold okW; rw [HG.out, h]; rfl))
      clear hx HC HP HO0 HB0 HO1
      by_cases h8 : x.size = 8
      · have hb8 : (((x.size : Nat) : Int) == 8) = true := by simp; omega
        have H8 := Lib.hid h8
        clear h8
        go_wp2_with fail
        go_loop [7, 8] (fun m q => ∃ j n : Nat, j ≤ 8 ∧ q = .int .i64 j ∧ m = .int .i64 n ∧ Hid (HexI x.data.toList j n)) (fun _ q => 8 - (intOf q).toNat)
        case atStart => exact ⟨0, 0, Nat.zero_le _, rfl, rfl, HexI.zero _⟩
        case round =>
          obtain ⟨j, n, hj, rfl, rfl, hH⟩ := hrel
          have hn := hH.out.lt hj
          have hx8 := H8.out
          by_cases hj8 : j < 8
          · have hjx : j < x.size := by omega
            have hat := at_list hjx
            have hBy := byte_lt x[j]
            rcases hex_cases x[j] with ⟨h1, h2, hd⟩ | ⟨h1, h2, hd⟩ | ⟨h1, hd⟩ | ⟨h1, h2, hd⟩ | ⟨h1, hd⟩
            · have HH := Lib.hid (hH.out.next hat hd)
              clear hat hd hH
              go_wp2
              go_round
              case rel => exact ⟨_, _, _, _, ⟨j + 1, by omega, rfl, _, rfl, HH⟩, rfl, rfl, by go_num, by go_num⟩
              case measure => simp [intOf]; omega
            · have HH := Lib.hid (hH.out.next hat hd)
              clear hat hd hH
              go_wp2
              go_round
              case rel => exact ⟨_, _, _, _, ⟨j + 1, by omega, rfl, _, rfl, HH⟩, rfl, rfl, by go_num, by go_num⟩
              case measure => simp [intOf]; omega
            all_goals
              have HV := Lib.hid (HBad.out (readW_none (hH.out.bad hat hd)))
              clear hat hd hH
              go_wp2
              go_ret2
              exact ⟨.slice none 0 0, 0, by rw [HV.out]; rfl, by omega, by rw [HV.out]; rfl, own_nil _ _ _ _, hB.out⟩
          · obtain rfl : j = 8 := by omega
            have HF := Lib.hid (fun u => l01From (n : Int) (by omega) (by omega) u)
            have HBt := Lib.hid (fun u => l01Bits n hn u)
            have hdone : hexO x.data.toList = some n := by
              have h := hH.out
              rw [show 8 = x.data.toList.length by rw [size_list]; exact hx8.symm] at h
              exact h.done
            by_cases hbn : bitsN n = n
            · have hr := readW_some (by rw [size_list]; exact hx8) hdone hbn
              have HA2 : Hid (AllK (okW L) (k + 1)) := hA.out.succ (by unfold okW; rw [HG.out, hr]; rfl)
              have HZk := Lib.hid (show valsL (valW L) (k + 1) = valsL (valW L) k ++ [.float .f32 n] by rw [valsL_succ]; unfold valW; rw [HG.out, hr]; rfl)
              rw [hbn] at HBt
              clear hdone hH hbn hr hj hj8
              go_wp2_with (first | (go_at_call 22; refine (HF.out _).mono ?_; rintro e w' ⟨rfl, rfl⟩) | (go_at_call 23; refine (HBt.out _).mono ?_; rintro e w' ⟨rfl, rfl⟩) | (at_builtin; refine wpList_append_own _ rfl _ _ 22 rfl w.heap.size 35 i (.float .f32 0) 1 4 Tryd.underlying22 HI.out HZ.out HS.out HBy.out rfl (by omega) _ k _ rfl (ho.out.alloc _) ⟨_, 0, none⟩ 1 _ [.float .f32 n] rfl rfl (one_cell _ _) (by intro u hu; rw [List.mem_singleton.1 hu]; rfl) (by unfold maxLen; omega) (by omega) (by have := hB.out.size; simp; omega) ?_; intro v2 w3 hown2 hgrow2 _; obtain ⟨g2, c2, rfl⟩ := own_slice hown2 (by omega)))
              have HF2 : Hid (Below w.heap.size w w3) := (hB.out.alloc hB.out.size _).grown hgrow2 (by have := hB.out.size; simp; omega) (fun j h => by cases h; exact (ho.out.lt g rfl).1)
              have HX3 : Hid (RowT w3 (.slice (some a) L.length cap) L) := (hB1.out.below ((Below.refl _ _).alloc (Nat.le_refl _) _)).grown (ho.out.alloc _) (by decide) hgrow2
              clear hgrow2
              go_roundw
              case rel => exact ⟨k + 1, g2, c2, by omega, by go_num, rfl, by rw [HZk.out]; exact hown2, HX3, HF2, HA2, by omega⟩
              case measure => simp [intOf]; omega
            · have HV := Lib.hid (HBad.out (readW_bits hdone hbn))
              have hbb : (((bitsN n : Nat) : Int) == ((n : Nat) : Int)) = false := by simp; omega
              have hbb2 : ¬ ((bitsN n : Nat) : Int) = ((n : Nat) : Int) := by omega
              clear hdone hH hbn hj hj8
              go_wp2_with (first | (go_at_call 22; refine (HF.out _).mono ?_; rintro e w' ⟨rfl, rfl⟩) | (go_at_call 23; refine (HBt.out _).mono ?_; rintro e w' ⟨rfl, rfl⟩))
              go_ret2
              exact ⟨.slice none 0 0, 0, by rw [HV.out]; rfl, by omega, by rw [HV.out]; rfl, own_nil _ _ _ _, hB.out⟩
      · have hb8 : (((x.size : Nat) : Int) == 8) = false := by simp; omega
        have HV := Lib.hid (HBad.out (readW_len (by rw [size_list]; exact h8)))
        go_wp2
        go_ret2
        exact ⟨.slice none 0 0, 0, by rw [HV.out]; rfl, by omega, by rw [HV.out]; rfl, own_nil _ _ _ _, hB.out⟩
    · obtain rfl : k = L.length := by omega
      have HV := Lib.hid (fullB_all hA.out hk64)
      clear HC HP
      go_wp2
      go_ret2
      exact ⟨.slice (some ⟨g, 0, none⟩) L.length c, L.length, by rw [HV.out]; rfl, hk64, by rw [HV.out]; rfl, ho.out, hB.out⟩
theorem specReadNumbers (s : ByteArray) (hs : s.size ≤ 1048576) (w : World) : Calls Tryd.prog 5 #[.string s] w (RV (okW (partsB s)) (valW (partsB s)) (partsB s).length 35 w) := by
  have HP := Lib.hid (specNRead s hs w)
  go_enter Tryd.func5, Tryd.ntmps5
  go_wp2_with fail
  refine HP.out.mono ?_; rintro e w' ⟨v, n, rfl, h1, h2, h3, h4⟩
  have H3 := Lib.hid h3
  have H4 := Lib.hid h4
  clear h3 h4
  go_wp2_with fail
  go_ret2
  exact ⟨v, n, rfl, h1, h2, H3.out, H4.out⟩
end Go.Proofs.YtonngkkhefppdaaDoor.Wk
