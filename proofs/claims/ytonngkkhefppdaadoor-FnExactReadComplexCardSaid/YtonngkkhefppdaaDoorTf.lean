/- Reading complex numbers: both loops walked. -/
import Derived.Test.YtonngkkhefppdaaDoorTc
set_option linter.unusedSimpArgs false
set_option linter.unusedVariables false
namespace Go.Proofs.YtonngkkhefppdaaDoor.Wk
open Go.RowKit Fl Pc Ph

/-- The complex number with these sixteen digits. -/
def readC (l : List UInt8) : Option (Nat × Nat) := if l.length = 16 then (match readW (l.take 8), readW (l.drop 8) with | some a, some b => some (a, b) | _, _ => none) else none
theorem readC_len {l : List UInt8} (h : ¬ l.length = 16) : readC l = none := if_neg h
theorem readC_l {l : List UInt8} (h : readW (l.take 8) = none) : readC l = none := by unfold readC; rw [h]; simp
theorem readC_r {l : List UInt8} (h : readW (l.drop 8) = none) : readC l = none := by unfold readC; rw [h]; split <;> cases readW (l.take 8) <;> rfl
theorem readC_some {l : List UInt8} {a b : Nat} (hl : l.length = 16) (h1 : readW (l.take 8) = some a) (h2 : readW (l.drop 8) = some b) : readC l = some (a, b) := by unfold readC; rw [if_pos hl, h1, h2]
def gC (L : List ByteArray) (j : Nat) : Option (Nat × Nat) := readC ((L.getD j ⟨#[]⟩).data.toList)
theorem gC_at {L : List ByteArray} {j : Nat} {x : ByteArray} (h : L[j]? = some x) : gC L j = readC x.data.toList := by
  unfold gC; rw [List.getD_eq_getElem?_getD, h]; rfl
def okC (L : List ByteArray) (j : Nat) : Bool := (gC L j).isSome
def valC (L : List ByteArray) (j : Nat) : Value := .complex .f32 ((gC L j).getD (0, 0)).1 ((gC L j).getD (0, 0)).2
theorem infoC : (Tryd.prog.info? 40).map (fun i => (i.zero, i.size, i.bytes)) = some (some (.complex .f32 0 0), 1, 8) := by kernel_rfl
theorem left_list {x : ByteArray} : (x.extract 0 8).data.toList = x.data.toList.take 8 := by simp [List.extract]
theorem right_list {x : ByteArray} (h : x.size = 16) : (x.extract 8 x.size).data.toList = x.data.toList.drop 8 := by
  rw [ext_list]
  exact List.take_of_length_le (by rw [List.length_drop, size_list]; omega)
theorem left_size {x : ByteArray} (h : x.size = 16) : (x.extract 0 8).size = 8 := by simp [h]
theorem right_size {x : ByteArray} (h : x.size = 16) : (x.extract 8 x.size).size = 8 := by simp [h]
set_option maxRecDepth 20000 in
set_option maxHeartbeats 4000000 in
theorem implReadComplex (s : ByteArray) (hs : s.size ≤ 1048576) (w : World) (hm : MaxIs w) : Calls Tryd.prog 11 #[.string s] w (RV (okC (partsB s)) (valC (partsB s)) (partsB s).length 40 w) := by
  obtain ⟨i, hi, hz, hs', hb⟩ := info_parts infoC
  have HI := Lib.hid hi
  have HZ := Lib.hid hz
  have HS := Lib.hid hs'
  have HBy := Lib.hid hb
  have hw0 : Below w.heap.size w (w.alloc (.cells #[] 40)) := (Below.refl _ _).alloc (Nat.le_refl _) _
  have HP := Lib.hid (implParted s hs _ (hm.below hw0))
  have HB0 := Lib.hid hw0
  have hlen := partsB_len s
  clear hi hz hs' hb hw0 hm
  generalize hLL : partsB s = L at *
  clear hLL
  go_enter Tryd.func11, Tryd.ntmps11
  go_wp2_with (first | (go_at_call 16; refine HP.out.mono ?_; rintro e w1 ⟨v, rfl, hrt, hb⟩; have HB1 : Hid (Below w.heap.size w w1) := HB0.out.trans (hb.mono HB0.out.size); have HO1 := Lib.hid (own_below (World.ownsRow_lit w #[] 0 (Nat.le_refl _) (Nat.zero_le _) rfl : (w.alloc (.cells #[] 40)).ownsRow w.heap.size 40 1 (.slice (some ⟨w.heap.size, 0, none⟩) 0 0) 0 []) hb); clear hb; obtain ⟨ao, cap, rfl, hc⟩ : ∃ ao cap, v = .slice ao L.length cap ∧ RowT w1 v L := (by obtain ⟨ao, cap, e, hc⟩ := hrt; exact ⟨ao, cap, e, ⟨ao, cap, e, hc⟩⟩); have HC := Lib.hid hc; clear hc hrt))
  go_loopw [4, 15] (fun p q wr => ∃ (k g c : Nat), k ≤ L.length ∧ q = .int .i64 k ∧ p = .slice (some ⟨g, 0, none⟩) k c ∧ Hid (wr.ownsRow w.heap.size 40 1 (.slice (some ⟨g, 0, none⟩) k c) k (valsL (valC L) k)) ∧ Hid (RowT wr (.slice ao L.length cap) L) ∧ Hid (Below w.heap.size w wr) ∧ Hid (AllK (okC L) k) ∧ k ≤ 256) (fun _ q _ => L.length - (intOf q).toNat)
  case atStart => exact ⟨0, w.heap.size, 0, by omega, rfl, rfl, HO1.out, HC.out, HB1.out, AllK.zero _, by omega⟩
  case round =>
    obtain ⟨k, g, c, hk, rfl, rfl, ho, hB1, hB, hA, hk64⟩ := hrel
    by_cases hlt : k < L.length
    · obtain ⟨x, hx⟩ : ∃ x, L[k]? = some x := ⟨_, List.getElem?_eq_getElem hlt⟩
      obtain ⟨a, rfl, hcx⟩ := row_at hB1.out hx
      have HG := Lib.hid (gC_at hx)
      have HBad := Lib.hid (fun (h : readC x.data.toList = none) => fullB_bad (ok := okC L) hlt (by unfold okC; rw [HG.out, h]; rfl))
      clear hx HC HP HB0 HO1
      by_cases h16 : x.size = 16
      · have hb16 : (((x.size : Nat) : Int) != 16) = false := by simp; omega
        have hx16 : (x.size : Int) = 16 := by omega
        have H16 := Lib.hid h16
        by_cases h64 : k = 256
        · have hb64 : (((k : Nat) : Int) == 256) = true := by simp; omega
          have HV := Lib.hid (fullB_many (ok := okC L) (n := L.length) (by omega))
          clear h64 h16
          go_wp2
          go_ret2
          exact ⟨.slice none 0 0, 0, by rw [HV.out]; rfl, by omega, by rw [HV.out]; rfl, own_nil _ _ _ _, hB.out⟩
        · have hb64 : (((k : Nat) : Int) == 256) = false := by simp; omega
          have HD1 := Lib.hid (fun u => implReadNumber (x.extract 0 8) (by rw [left_size h16]; omega) u)
          have HD2 := Lib.hid (fun u => implReadNumber (x.extract 8 x.size) (by rw [right_size h16]; omega) u)
          have H64 := Lib.hid (show k ≤ 255 by omega)
          clear h16 h64
          cases hg1 : readW (x.data.toList.take 8) with
          | none =>
            have HV := Lib.hid (HBad.out (readC_l hg1))
            have HN1 := Lib.hid (show readW (x.extract 0 8).data.toList = none by rw [left_list]; exact hg1)
            clear hg1
            go_wp2_with fail
            refine (HD1.out _).mono ?_; intro e w2 h9; obtain ⟨y1, rfl, rfl⟩ := h9.no HN1.out; try clear h9
            go_wp2_with fail
            refine (HD2.out _).mono ?_; intro e w2 h9; obtain ⟨y2, b2, rfl, h99, rfl⟩ := h9; clear h99; try clear h9
            go_wp2
            go_ret2
            exact ⟨.slice none 0 0, 0, by rw [HV.out]; rfl, by omega, by rw [HV.out]; rfl, own_nil _ _ _ _, hB.out⟩
          | some y1 =>
            have HN1 := Lib.hid (show readW (x.extract 0 8).data.toList = some y1 by rw [left_list]; exact hg1)
            cases hg2 : readW (x.data.toList.drop 8) with
            | none =>
              have HV := Lib.hid (HBad.out (readC_r hg2))
              have HN2 := Lib.hid (show readW (x.extract 8 x.size).data.toList = none by rw [right_list H16.out]; exact hg2)
              clear hg1 hg2
              go_wp2_with fail
              refine (HD1.out _).mono ?_; intro e w2 h9; obtain ⟨rfl, rfl⟩ := h9.yes HN1.out; try clear h9
              go_wp2_with fail
              refine (HD2.out _).mono ?_; intro e w2 h9; obtain ⟨y2, rfl, rfl⟩ := h9.no HN2.out; try clear h9
              go_wp2
              go_ret2
              exact ⟨.slice none 0 0, 0, by rw [HV.out]; rfl, by omega, by rw [HV.out]; rfl, own_nil _ _ _ _, hB.out⟩
            | some y2 =>
              have hr := readC_some (by rw [size_list]; exact H16.out) hg1 hg2
              have HA2 : Hid (AllK (okC L) (k + 1)) := hA.out.succ (by unfold okC; rw [HG.out, hr]; rfl)
              have HZk := Lib.hid (show valsL (valC L) (k + 1) = valsL (valC L) k ++ [.complex .f32 y1 y2] by rw [valsL_succ]; unfold valC; rw [HG.out, hr]; rfl)
              have HN2 := Lib.hid (show readW (x.extract 8 x.size).data.toList = some y2 by rw [right_list H16.out]; exact hg2)
              clear hg1 hg2 hr
              go_wp2_with fail
              refine (HD1.out _).mono ?_; intro e w2 h9; obtain ⟨rfl, rfl⟩ := h9.yes HN1.out; try clear h9
              go_wp2_with fail
              refine (HD2.out _).mono ?_; intro e w2 h9; obtain ⟨rfl, rfl⟩ := h9.yes HN2.out; try clear h9
              go_wp2_with ((at_builtin; refine wpList_append_own _ rfl _ _ 28 rfl w.heap.size 40 i (.complex .f32 0 0) 1 8 Tryd.underlying28 HI.out HZ.out HS.out HBy.out rfl (by omega) _ k _ rfl (ho.out.alloc _) ⟨_, 0, none⟩ 1 _ [.complex .f32 y1 y2] rfl rfl (one_cell _ _) (by intro u hu; rw [List.mem_singleton.1 hu]; rfl) (by unfold maxLen; omega) (by omega) (by have := hB.out.size; simp; omega) ?_; intro v2 w3 hown2 hgrow2 _; obtain ⟨g2, c2, rfl⟩ := own_slice hown2 (by omega)))
              have HF2 : Hid (Below w.heap.size w w3) := (hB.out.alloc hB.out.size _).grown hgrow2 (by have := hB.out.size; simp; omega) (fun j h => by cases h; exact (ho.out.lt g rfl).1)
              have HX3 : Hid (RowT w3 (.slice (some a) L.length cap) L) := (hB1.out.below ((Below.refl _ _).alloc (Nat.le_refl _) _)).grown (ho.out.alloc _) (by decide) hgrow2
              clear hgrow2
              go_roundw
              case rel => exact ⟨k + 1, g2, c2, by omega, by go_num, rfl, by rw [HZk.out]; exact hown2, HX3, HF2, HA2, by have := H64.out; omega⟩
              case measure => simp [intOf]; omega
      · have hb16 : (((x.size : Nat) : Int) != 16) = true := by simp; omega
        have hx16 : ¬ (x.size : Int) = 16 := by omega
        have HV := Lib.hid (HBad.out (readC_len (by rw [size_list]; exact h16)))
        go_wp2
        go_ret2
        exact ⟨.slice none 0 0, 0, by rw [HV.out]; rfl, by omega, by rw [HV.out]; rfl, own_nil _ _ _ _, hB.out⟩
    · obtain rfl : k = L.length := by omega
      have HV := Lib.hid (fullB_all hA.out hk64)
      clear HC HP
      go_wp2
      go_ret2
      exact ⟨.slice (some ⟨g, 0, none⟩) L.length c, L.length, by rw [HV.out]; rfl, hk64, by rw [HV.out]; rfl, ho.out, hB.out⟩
set_option maxRecDepth 20000 in
set_option maxHeartbeats 4000000 in
theorem specCRead (s : ByteArray) (hs : s.size ≤ 1048576) (w : World) : Calls Tryd.prog 19 #[.string s] w (RV (okC (partsB s)) (valC (partsB s)) (partsB s).length 40 w) := by
  obtain ⟨i, hi, hz, hs', hb⟩ := info_parts infoC
  have HI := Lib.hid hi
  have HZ := Lib.hid hz
  have HS := Lib.hid hs'
  have HBy := Lib.hid hb
  have HO0 : Hid ((w.alloc (.cells #[] 40)).ownsRow w.heap.size 40 1 (.slice (some ⟨w.heap.size, 0, none⟩) 0 0) 0 []) := World.ownsRow_lit w #[] 0 (Nat.le_refl _) (Nat.zero_le _) rfl
  have HB0 : Hid (Below w.heap.size w (w.alloc (.cells #[] 40))) := (Below.refl _ _).alloc (Nat.le_refl _) _
  clear hi hz hs' hb
  by_cases hn : s = ⟨#[110, 111, 110, 101]⟩
  · subst hn
    rw [partsB_none]
    have HV := Lib.hid (fullB_all (ok := okC []) (n := 0) (AllK.zero _) (by simp))
    go_enter Tryd.func19, Tryd.ntmps19
    go_wp2
    go_ret2
    exact ⟨.slice (some ⟨w.heap.size, 0, none⟩) 0 0, 0, by rw [HV.out]; rfl, by omega, by rw [HV.out]; rfl, HO0.out, HB0.out⟩
  obtain ⟨hnn, hpp⟩ := not_none hn
  have HP := Lib.hid (specCut s hs (w.alloc (.cells #[] 40)))
  have hlen := partsB_len s
  rw [← hpp] at HP
  generalize hLL : partsB s = L at *
  clear hLL hpp hn
  by_cases hmany : ¬ L.length ≤ 256
  · have HV := Lib.hid (fullB_many (ok := okC L) hmany)
    go_enter Tryd.func19, Tryd.ntmps19
    go_wp2_with (first | (go_at_call 21; refine HP.out.mono ?_; rintro e w1 ⟨v, rfl, hrt, hb⟩; have HB1 : Hid (Below w.heap.size w w1) := HB0.out.trans (hb.mono HB0.out.size); clear hb; obtain ⟨ao, cap, rfl⟩ : ∃ ao cap, v = .slice ao L.length cap := (by obtain ⟨ao, cap, e, hc⟩ := hrt; exact ⟨ao, cap, e⟩); clear hrt))
    go_ret2
    exact ⟨.slice none 0 0, 0, by rw [HV.out]; rfl, by omega, by rw [HV.out]; rfl, own_nil _ _ _ _, HB1.out⟩
  have hfew : L.length ≤ 256 := by omega
  clear hmany
  go_enter Tryd.func19, Tryd.ntmps19
  go_wp2_with (first | (go_at_call 21; refine HP.out.mono ?_; rintro e w1 ⟨v, rfl, hrt, hb⟩; have HB1 : Hid (Below w.heap.size w w1) := HB0.out.trans (hb.mono HB0.out.size); have HO1 := Lib.hid (own_below HO0.out hb); clear hb; obtain ⟨ao, cap, rfl, hc⟩ : ∃ ao cap, v = .slice ao L.length cap ∧ RowT w1 v L := (by obtain ⟨ao, cap, e, hc⟩ := hrt; exact ⟨ao, cap, e, ⟨ao, cap, e, hc⟩⟩); have HC := Lib.hid hc; clear hc hrt))
  go_loopw [4, 6] (fun p q wr => ∃ (k g c : Nat), k ≤ L.length ∧ q = .int .i64 k ∧ p = .slice (some ⟨g, 0, none⟩) k c ∧ Hid (wr.ownsRow w.heap.size 40 1 (.slice (some ⟨g, 0, none⟩) k c) k (valsL (valC L) k)) ∧ Hid (RowT wr (.slice ao L.length cap) L) ∧ Hid (Below w.heap.size w wr) ∧ Hid (AllK (okC L) k) ∧ k ≤ 256) (fun _ q _ => L.length - (intOf q).toNat)
  case atStart => exact ⟨0, w.heap.size, 0, by omega, rfl, rfl, HO1.out, HC.out, HB1.out, AllK.zero _, by omega⟩
  case round =>
    obtain ⟨k, g, c, hk, rfl, rfl, ho, hB1, hB, hA, hk64⟩ := hrel
    by_cases hlt : k < L.length
    · obtain ⟨x, hx⟩ : ∃ x, L[k]? = some x := ⟨_, List.getElem?_eq_getElem hlt⟩
      obtain ⟨a, rfl, hcx⟩ := row_at hB1.out hx
      have HG := Lib.hid (gC_at hx)
      have HBad := Lib.hid (fun (h : readC x.data.toList = none) => fullB_bad (ok := okC L) hlt (by unfold okC; rw [HG.out, h]; rfl))
      clear hx HC HP HB0 HO1 HO0
      by_cases h16 : x.size = 16
      · have hb16 : (((x.size : Nat) : Int) != 16) = false := by simp; omega
        have hx16 : (x.size : Int) = 16 := by omega
        have H16 := Lib.hid h16
        have H64 := Lib.hid (show k ≤ 255 by omega)
        have HD1 := Lib.hid (fun u => specDigits (x.extract 0 8) (left_size h16) u)
        have HD2 := Lib.hid (fun u => specDigits (x.extract 8 x.size) (right_size h16) u)
        clear h16
        cases hg1 : readW (x.data.toList.take 8) with
        | none =>
          have HV := Lib.hid (HBad.out (readC_l hg1))
          have HN1 := Lib.hid (show readW (x.extract 0 8).data.toList = none by rw [left_list]; exact hg1)
          clear hg1
          go_wp2_with fail
          refine (HD1.out _).mono ?_; intro e w2 h9; obtain ⟨y1, rfl, rfl⟩ := h9.no HN1.out; try clear h9
          go_wp2_with fail
          refine (HD2.out _).mono ?_; intro e w2 h9; obtain ⟨y2, b2, rfl, h99, rfl⟩ := h9; clear h99; try clear h9
          go_wp2
          go_ret2
          exact ⟨.slice none 0 0, 0, by rw [HV.out]; rfl, by omega, by rw [HV.out]; rfl, own_nil _ _ _ _, hB.out⟩
        | some y1 =>
          have HN1 := Lib.hid (show readW (x.extract 0 8).data.toList = some y1 by rw [left_list]; exact hg1)
          cases hg2 : readW (x.data.toList.drop 8) with
          | none =>
            have HV := Lib.hid (HBad.out (readC_r hg2))
            have HN2 := Lib.hid (show readW (x.extract 8 x.size).data.toList = none by rw [right_list H16.out]; exact hg2)
            clear hg1 hg2
            go_wp2_with fail
            refine (HD1.out _).mono ?_; intro e w2 h9; obtain ⟨rfl, rfl⟩ := h9.yes HN1.out; try clear h9
            go_wp2_with fail
            refine (HD2.out _).mono ?_; intro e w2 h9; obtain ⟨y2, rfl, rfl⟩ := h9.no HN2.out; try clear h9
            go_wp2
            go_ret2
            exact ⟨.slice none 0 0, 0, by rw [HV.out]; rfl, by omega, by rw [HV.out]; rfl, own_nil _ _ _ _, hB.out⟩
          | some y2 =>
            have hr := readC_some (by rw [size_list]; exact H16.out) hg1 hg2
            have HA2 : Hid (AllK (okC L) (k + 1)) := hA.out.succ (by unfold okC; rw [HG.out, hr]; rfl)
            have HZk := Lib.hid (show valsL (valC L) (k + 1) = valsL (valC L) k ++ [.complex .f32 y1 y2] by rw [valsL_succ]; unfold valC; rw [HG.out, hr]; rfl)
            have HN2 := Lib.hid (show readW (x.extract 8 x.size).data.toList = some y2 by rw [right_list H16.out]; exact hg2)
            clear hg1 hg2 hr
            go_wp2_with fail
            refine (HD1.out _).mono ?_; intro e w2 h9; obtain ⟨rfl, rfl⟩ := h9.yes HN1.out; try clear h9
            go_wp2_with fail
            refine (HD2.out _).mono ?_; intro e w2 h9; obtain ⟨rfl, rfl⟩ := h9.yes HN2.out; try clear h9
            go_wp2_with ((at_builtin; refine wpList_append_own _ rfl _ _ 28 rfl w.heap.size 40 i (.complex .f32 0 0) 1 8 Tryd.underlying28 HI.out HZ.out HS.out HBy.out rfl (by omega) _ k _ rfl (ho.out.alloc _) ⟨_, 0, none⟩ 1 _ [.complex .f32 y1 y2] rfl rfl (one_cell _ _) (by intro u hu; rw [List.mem_singleton.1 hu]; rfl) (by unfold maxLen; omega) (by omega) (by have := hB.out.size; simp; omega) ?_; intro v2 w3 hown2 hgrow2 _; obtain ⟨g2, c2, rfl⟩ := own_slice hown2 (by omega)))
            have HF2 : Hid (Below w.heap.size w w3) := (hB.out.alloc hB.out.size _).grown hgrow2 (by have := hB.out.size; simp; omega) (fun j h => by cases h; exact (ho.out.lt g rfl).1)
            have HX3 : Hid (RowT w3 (.slice (some a) L.length cap) L) := (hB1.out.below ((Below.refl _ _).alloc (Nat.le_refl _) _)).grown (ho.out.alloc _) (by decide) hgrow2
            clear hgrow2
            go_roundw
            case rel => exact ⟨k + 1, g2, c2, by omega, by go_num, rfl, by rw [HZk.out]; exact hown2, HX3, HF2, HA2, by have := H64.out; omega⟩
            case measure => simp [intOf]; omega
      · have hb16 : (((x.size : Nat) : Int) != 16) = true := by simp; omega
        have hx16 : ¬ (x.size : Int) = 16 := by omega
        have HV := Lib.hid (HBad.out (readC_len (by rw [size_list]; exact h16)))
        go_wp2
        go_ret2
        exact ⟨.slice none 0 0, 0, by rw [HV.out]; rfl, by omega, by rw [HV.out]; rfl, own_nil _ _ _ _, hB.out⟩
    · obtain rfl : k = L.length := by omega
      have HV := Lib.hid (fullB_all hA.out hk64)
      clear HC HP
      go_wp2
      go_ret2
      exact ⟨.slice (some ⟨g, 0, none⟩) L.length c, L.length, by rw [HV.out]; rfl, hk64, by rw [HV.out]; rfl, ho.out, hB.out⟩
theorem specReadComplex (s : ByteArray) (hs : s.size ≤ 1048576) (w : World) : Calls Tryd.prog 10 #[.string s] w (RV (okC (partsB s)) (valC (partsB s)) (partsB s).length 40 w) := by
  have HP := Lib.hid (specCRead s hs w)
  go_enter Tryd.func10, Tryd.ntmps10
  go_wp2_with fail
  refine HP.out.mono ?_; rintro e w' ⟨v, n, rfl, h1, h2, h3, h4⟩
  have H3 := Lib.hid h3
  have H4 := Lib.hid h4
  clear h3 h4
  go_wp2_with fail
  go_ret2
  exact ⟨v, n, rfl, h1, h2, H3.out, H4.out⟩
end Go.Proofs.YtonngkkhefppdaaDoor.Wk
