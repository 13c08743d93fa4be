/- Texts of numbers: the walks and the law. -/
import Derived.Test.YtonngkkhefppdaaNb
set_option linter.unusedSimpArgs false
set_option linter.unusedVariables false
namespace Go.Proofs.Ytonngkkhefppdaa.Wk
open Go.RowKit Fl

set_option maxRecDepth 20000 in
set_option maxHeartbeats 1600000 in
theorem implNumbersText (v : Value) (n : Nat) (f : Nat → Nat) (w : World) (h : RowF w v n f) (hf : ∀ j, j < n → f j < 4294967296) : Calls Try.prog 8 #[v] w (RN f n w) := by
  have HFe := implFew v n f w h
  obtain ⟨ao, cap, rfl, hm, hc⟩ := h
  have hm2 : n ≤ 9223372036854775807 := by unfold maxLen at hm; omega
  by_cases hn : n ≤ 256
  · rw [decide_eq_true hn] at HFe
    replace HFe := Lib.hid HFe
    obtain ⟨i, hi, hz, hs, hb⟩ := info_parts infoS
    have HI := Lib.hid hi
    have HZ := Lib.hid hz
    have HS := Lib.hid hs
    have HBy := Lib.hid hb
    have HC := Lib.hid hc
    have HX := Lib.hid (fun j (hj : j < n) u => implHex (f j) (hf j hj) u)
    have HT : Hid (txt f n = ⟨(textN (fun j => hexL (f j)) n).toArray⟩) := if_pos hn
    have HD : Hid (decide (n ≤ 256) = true) := decide_eq_true hn
    clear hc hm hi hz hs hb
    go_enter Try.func8, Try.ntmps8
    go_wp2_with (go_at_call 17; refine HFe.out.mono ?_; rintro e w1 ⟨rfl, rfl⟩)
    go_loopw [4, 13] (fun p q wr => ∃ (k g c : Nat), k ≤ n ∧ q = .int .i64 k ∧ p = .slice (some ⟨g, 0, none⟩) k c ∧ Hid (wr.ownsRow w.heap.size 9 1 (.slice (some ⟨g, 0, none⟩) k c) k (strsN (fun j => hexL (f j)) k)) ∧ Hid (Below w.heap.size w wr)) (fun _ q _ => n - (intOf q).toNat)
    case atStart => exact ⟨0, w.heap.size, 0, by omega, rfl, rfl, World.ownsRow_lit w #[] 0 (Nat.le_refl _) (Nat.zero_le _) rfl, (Below.refl _ _).alloc (Nat.le_refl _) _⟩
    case round =>
      obtain ⟨k, g, c, hk, rfl, rfl, ho, hB⟩ := hrel
      by_cases hlt : k < n
      · obtain ⟨x, rfl, hxb, hcx0⟩ := HC.out k hlt
        have hcx : wr.cell? (x.add k) = some (.float .f32 (f k)) := by rw [hB.out.cell (by rw [add_block]; exact hxb)]; exact hcx0
        have HXk := Lib.hid (HX.out k hlt)
        have HSS : Hid (strsN (fun j => hexL (f j)) (k + 1) = strsN (fun j => hexL (f j)) k ++ [.string (hexL (f k))]) := strsN_succ (fun j => hexL (f j)) k
        clear hcx0 hxb HC HX
        generalize hexL (f k) = s at HXk HSS
        go_wp2_with (first | (go_at_call 18; refine (HXk.out _).mono ?_; rintro e w1 ⟨rfl, hb⟩; have HB2 : Hid (Below w.heap.size w w1) := hB.out.trans (hb.mono hB.out.size); have HO2 := Lib.hid (own_below ho.out hb); clear hb) | (at_builtin; refine wpList_append_own _ rfl _ _ 35 rfl w.heap.size 9 i (.string ⟨#[]⟩) 1 16 Try.underlying35 HI.out HZ.out HS.out HBy.out rfl (by omega) _ k _ rfl (HO2.out.alloc _) ⟨_, 0, none⟩ 1 _ [.string s] rfl rfl (one_cell _ _) (by intro u hu; rw [List.mem_singleton.1 hu]; rfl) (by unfold maxLen; omega) (by omega) (by have := HB2.out.size; simp; omega) ?_; intro v2 w2 hown2 hgrow2 _; obtain ⟨g2, c2, rfl⟩ := own_slice hown2 (by omega)))
        have HF2 : Hid (Below w.heap.size w w2) := (HB2.out.alloc HB2.out.size _).grown hgrow2 (by have := HB2.out.size; simp; omega) (fun j h => by cases h; exact (ho.out.lt g rfl).1)
        clear hgrow2
        go_roundw
        case rel => exact ⟨k + 1, g2, c2, by omega, by go_num, rfl, by rw [HSS.out]; exact hown2, HF2⟩
        case measure => simp [intOf]; omega
      · obtain rfl : n = k := by omega
        have hnc : n ≤ c := own_cap ho.out
        have HJ := Lib.hid (implJoined g c n (fun j => hexL (f j)) (fun j => hexL_size _) _ wr ho.out hn hnc)
        clear HC HX
        go_wp2_with (go_at_call 19; refine HJ.out.mono ?_; rintro e w' ⟨rfl, hb⟩; have HB2 : Hid (Below w.heap.size w w') := hB.out.trans (hb.mono hB.out.size); clear hb)
        go_ret2
        exact ⟨by rw [HT.out, HD.out]; rfl, HB2.out⟩
  · have HT : Hid (txt f n = ⟨#[]⟩) := if_neg hn
    have HD : Hid (decide (n ≤ 256) = false) := decide_eq_false hn
    rw [decide_eq_false hn] at HFe
    replace HFe := Lib.hid HFe
    clear hc hm
    go_enter Try.func8, Try.ntmps8
    go_wp2_with (go_at_call 17; refine HFe.out.mono ?_; rintro e w1 ⟨rfl, rfl⟩)
    go_ret2
    exact ⟨by rw [HT.out, HD.out]; rfl, Below.refl _ _⟩
set_option maxRecDepth 20000 in
set_option maxHeartbeats 1600000 in
theorem specNText (v : Value) (n : Nat) (f : Nat → Nat) (w : World) (h : RowF w v n f) (hf : ∀ j, j < n → f j < 4294967296) (hn : n ≤ 256) : Calls Try.prog 16 #[v] w fun e w' => e = .returned (.string ⟨(textN (fun j => hexL (f j)) n).toArray⟩) ∧ Below w.heap.size w w' := by
  obtain ⟨ao, cap, rfl, hm, hc⟩ := h
  have HX := Lib.hid (fun j (hj : j < n) u => specHex (f j) (hf j hj) u)
  clear hm
  by_cases h0 : n = 0
  · subst h0
    clear hc
    go_enter Try.func16, Try.ntmps16
    go_wp2
    go_ret
    exact ⟨rfl, Below.refl _ _⟩
  · have HC := Lib.hid hc
    obtain ⟨x, rfl, hxb, hcx⟩ := hc 0 (by omega)
    have hz : 0 < n := by omega
    replace hcx : w.cell? x = some (.float .f32 (f 0)) := by simpa [Addr.add] using hcx
    clear hc hxb
    have HT := Lib.hid (show textN (fun j => hexL (f j)) n = textB (fun j => hexL (f j)) n by unfold textN; rw [if_neg h0])
    have HX0 := Lib.hid (HX.out 0 hz)
    have HTx0 : Hid (hexL (f 0) = ⟨(textB (fun j => hexL (f j)) 1).toArray⟩) := rfl
    rw [HTx0.out] at HX0
    have hb0 : (((n : Nat) : Int) == 0) = false := by simp; omega
    go_enter Try.func16, Try.ntmps16
    go_wp2_with (go_at_call 24; refine (HX0.out _).mono ?_; rintro e w1 ⟨rfl, hb⟩; have HB := Lib.hid hb; clear hb)
    go_loopw [3, 4] (fun t q wr => ∃ k : Nat, 1 ≤ k ∧ k ≤ n ∧ q = .int .i64 k ∧ t = .string ⟨(textB (fun j => hexL (f j)) k).toArray⟩ ∧ Hid (Below w.heap.size w wr)) (fun _ q _ => n - (intOf q).toNat)
    case atStart => exact ⟨1, by omega, by omega, rfl, rfl, HB.out⟩
    case round =>
      obtain ⟨k, hk1, hk, rfl, rfl, hB⟩ := hrel
      by_cases hlt : k < n
      · obtain ⟨y, hy, hyb, hcy0⟩ := HC.out k hlt
        obtain rfl : x = y := Option.some.inj hy
        have hcy : wr.cell? (x.add k) = some (.float .f32 (f k)) := by rw [hB.out.cell (by rw [add_block]; exact hyb)]; exact hcy0
        have HS : Hid (textB (fun j => hexL (f j)) (k + 1) = textB (fun j => hexL (f j)) k ++ 44 :: (hexL (f k)).data.toList) := textB_succ (fun j => hexL (f j)) (k := k) (by omega)
        have hl2 := textB_len (fun j => hexL (f j)) (fun j => hexL_size _) k
        have hl1 : (hexL (f k)).size = 8 := hexL_size _
        have HXk := Lib.hid (HX.out k hlt)
        clear hcy0 hyb hy HB
        generalize hexL (f k) = s at HXk HS hl1
        go_wp2_with (go_at_call 24; refine (HXk.out _).mono ?_; rintro e w1 ⟨rfl, hb⟩; have HB2 : Hid (Below w.heap.size w w1) := hB.out.trans (hb.mono hB.out.size); clear hb)
        go_roundw
        case rel => exact ⟨k + 1, by omega, by omega, by go_num, by rw [HS.out, ← bytes_app], HB2⟩
        case measure => simp [intOf]; omega
      · obtain rfl : n = k := by omega
        go_wp2
        go_ret
        exact ⟨retS (by rw [HT.out]), hB.out⟩
theorem specNumbersText (v : Value) (n : Nat) (f : Nat → Nat) (w : World) (h : RowF w v n f) (hf : ∀ j, j < n → f j < 4294967296) : Calls Try.prog 6 #[v] w (RN f n w) := by
  have HFe := specFew v n f w h
  by_cases hn : n ≤ 256
  · rw [decide_eq_true hn] at HFe
    replace HFe := Lib.hid HFe
    have HS := Lib.hid (specNText v n f w h hf hn)
    have HT : Hid (txt f n = ⟨(textN (fun j => hexL (f j)) n).toArray⟩) := if_pos hn
    have HD : Hid (decide (n ≤ 256) = true) := decide_eq_true hn
    obtain ⟨ao, cap, rfl, hm, hc⟩ := h
    clear hm hc
    go_enter Try.func6, Try.ntmps6
    go_wp2_with (first | (go_at_call 15; refine HFe.out.mono ?_; rintro e w1 ⟨rfl, rfl⟩) | (go_at_call 16; refine HS.out.mono ?_; rintro e w' ⟨rfl, hb⟩; have HB := Lib.hid hb; clear hb))
    go_ret2
    exact ⟨by rw [HT.out, HD.out]; rfl, HB.out⟩
  · have HT : Hid (txt f n = ⟨#[]⟩) := if_neg hn
    have HD : Hid (decide (n ≤ 256) = false) := decide_eq_false hn
    obtain ⟨ao, cap, rfl, hm, hc⟩ := h
    rw [decide_eq_false hn] at HFe
    replace HFe := Lib.hid HFe
    clear hm hc
    go_enter Try.func6, Try.ntmps6
    go_wp2_with (go_at_call 15; refine HFe.out.mono ?_; rintro e w1 ⟨rfl, rfl⟩)
    go_ret2
    exact ⟨by rw [HT.out, HD.out]; rfl, Below.refl _ _⟩
section
variable {H : Type} {enc : TypeId × Value → H} {P : Program} {w : World} {base : Nat} {spare : Nat → Bool} {held : Bool}
theorem trod_floatW {t : TypeId} {fuel : Nat} {cs : List Value} {x : DataW H × List MemPlace} (ht : P.underlying t = some (.float .f32)) (h : DataW.trod enc P w base spare held fuel t cs = some x) : ∃ b, cs = [.float .f32 b] ∧ b < 4294967296 := by
  obtain ⟨b, rfl⟩ := trod_float ht h
  cases fuel with
  | zero => simp [DataW.trod] at h
  | succ n =>
    unfold DataW.trod at h
    rw [ht] at h
    dsimp only at h
    split at h
    · rename_i hh
      exact ⟨b, rfl, lt32 hh.2⟩
    · cases h
theorem rowW_open {t e : TypeId} {fuel : Nat} {x : DataW H × List MemPlace} {ao : Option Addr} {len cap : Nat} (ht : P.underlying t = some (.slice e)) (he : P.underlying e = some (.float .f32)) (hc : P.cellsOf e = 1)
    (h : DataW.trod enc P w base spare held fuel t (Value.slice ao len cap).cells.toList = some x) : ∃ f, RowW w (.slice ao len cap) len f := by
  rcases Go.Deep.open_slice1 ht hc h with ⟨hcs, _⟩ | ⟨a, l, c, m, n, V, D, Pl, hcs, hb, hl, hm, hmm, hx, hV⟩
  · simp [Value.cells] at hcs
    obtain ⟨rfl, rfl, rfl⟩ := hcs
    exact ⟨fun _ => 0, ⟨none, 0, rfl, Nat.zero_le _, fun i hi => absurd hi (by omega)⟩, fun i hi => absurd hi (by omega)⟩
  · simp [Value.cells] at hcs
    obtain ⟨rfl, rfl, rfl⟩ := hcs
    have hle : len ≤ m := by rw [hmm]; split <;> omega
    have key : ∀ i, i < len → ∃ b, V i = .float .f32 b ∧ b < 4294967296 := fun i hi => by
      obtain ⟨h1, h2⟩ := hV i (by omega)
      obtain ⟨b, hb, hw⟩ := trod_floatW he h2
      exact ⟨b, by simpa using hb, hw⟩
    refine ⟨fun i => wordOf (V i), ⟨some a, cap, rfl, by omega, fun i hi => ?_⟩, fun i hi => ?_⟩
    · obtain ⟨h1, h2⟩ := hV i (by omega)
      obtain ⟨b, hb', _⟩ := key i hi
      refine ⟨a, rfl, ?_, ?_⟩
      · have := cell_lt h1; rwa [add_block] at this
      · show w.cell? (a.add i) = some (.float .f32 (wordOf (V i))); rw [h1, hb']; rfl
    · obtain ⟨b, hb', hw⟩ := key i hi
      show wordOf (V i) < _
      rw [hb']; exact hw
end
set_option maxHeartbeats 1600000 in
theorem numbersText_law (v : Value) (n : Nat) (f : Nat → Nat) (w : World) (hW : RowW w v n f) :
    Calls Try.prog 3 #[v] w fun e w' => e = .returned (.bool true) ∧ Below w.heap.size w w' := by
  obtain ⟨hR, hf⟩ := hW
  by_cases hn : n ≤ 1048576
  · have HT := Lib.hid (fun u (h : RowF u v n f) => toF v n f u h hn)
    have HS := Lib.hid (fun v u (h : RowF u v n f) => specNumbersText v n f u h hf)
    have HI := Lib.hid (fun v u (h : RowF u v n f) => implNumbersText v n f u h hf)
    have HR := Lib.hid hR
    obtain ⟨ao, cap, rfl, hm, hc⟩ := hR
    clear hm hc hf
    unfold RN at HS HI
    generalize txt f n = x at HS HI
    generalize decide (n ≤ 256) = b at HS HI
    go_enter Try.func3, Try.ntmps3
    go_wp2_with fail
    refine (HT.out _ HR.out).mono ?_; rintro e u1 ⟨v1, rfl, hv1, hb1⟩
    have V1 := Lib.hid hv1
    have B1 := Lib.hid hb1
    clear hv1 hb1
    go_wp2_with fail
    refine (HS.out _ _ V1.out).mono ?_; rintro e u2 ⟨rfl, hb2⟩
    have B2 : Hid (Below w.heap.size w u2) := B1.out.trans (hb2.mono B1.out.size)
    clear hb2 B1 V1
    go_wp2_with fail
    refine (HT.out _ (HR.out.below B2.out)).mono ?_; rintro e u3 ⟨v2, rfl, hv2, hb2⟩
    have V2 := Lib.hid hv2
    have B3 : Hid (Below w.heap.size w u3) := B2.out.trans (hb2.mono B2.out.size)
    clear hv2 hb2 B2
    go_wp2_with fail
    refine (HI.out _ _ V2.out).mono ?_; rintro e u4 ⟨rfl, hb4⟩
    have V3 : Hid (RowF u4 v2 n f) := V2.out.below hb4
    have B4 : Hid (Below w.heap.size w u4) := B3.out.trans (hb4.mono B3.out.size)
    clear hb4 B3 V2
    go_wp2_with fail
    refine (HT.out _ (HR.out.below B4.out)).mono ?_; rintro e u6 ⟨v3, rfl, hv3, hb3⟩
    have V5 := Lib.hid hv3
    have V6 := Lib.hid (V3.out.below hb3)
    have B6 : Hid (Below w.heap.size w u6) := B4.out.trans (hb3.mono B4.out.size)
    clear hv3 hb3 B4 V3
    go_wp2_with fail
    refine (eqF _ _ _ _ _ V6.out V5.out).mono ?_; rintro e u7 ⟨rfl, m7, hu⟩
    have B7 : Hid (Below w.heap.size w u7) := by rw [hu]; exact Go.below_drewN B6.out _
    clear hu B6 V5 V6
    go_wp2
    go_ret
    exact ⟨rfl, B7.out⟩
  · obtain ⟨ao, cap, rfl, hm, hc⟩ := hR
    have hm2 : n ≤ 9223372036854775807 := by unfold maxLen at hm; omega
    clear hm hc
    go_enter Try.func3, Try.ntmps3
    go_wp2
    go_ret
    exact ⟨rfl, Below.refl _ _⟩
theorem fnExactNumbersText_walk (v : Value) (n : Nat) (f : Nat → Nat) {W : World} (hR : RowW W v n f) : Calls Try.prog 3 #[v] W fun e w' => e = .returned (.bool true) ∧ Below W.heap.size W w' := numbersText_law v n f W hR
end Go.Proofs.Ytonngkkhefppdaa.Wk
