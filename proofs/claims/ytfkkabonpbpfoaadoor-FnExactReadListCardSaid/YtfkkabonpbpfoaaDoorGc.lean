/- Reading lists: the reference walked; marks; the law. -/
import Derived.Test.YtfkkabonpbpfoaaDoorGb
import Derived.Test.YtfkkabonpbpfoaaDoorRows
import Derived.Shelf.Vars
set_option linter.unusedSimpArgs false
set_option linter.unusedVariables false
namespace Go.Proofs.YtfkkabonpbpfoaaDoor.Wk
open Go.RowKit Pc

theorem partsB_none : partsB ⟨#[110, 111, 110, 101]⟩ = [] := by unfold partsB; rw [if_pos (by decide)]
theorem not_none {s : ByteArray} (hn : ¬ s = ⟨#[110, 111, 110, 101]⟩) : (s.toList == [110, 111, 110, 101]) = false ∧ partsB s = cutB s := by
  have hbl : (s == ⟨#[110, 111, 110, 101]⟩) = false := by
    cases e : (s == (⟨#[110, 111, 110, 101]⟩ : ByteArray))
    · rfl
    · exact absurd (bytes_beq_eq e) hn
  refine ⟨?_, by unfold partsB; rw [hbl]; rfl⟩
  have h9 := list_ne hn
  rwa [show (⟨#[110, 111, 110, 101]⟩ : ByteArray).toList = [110, 111, 110, 101] by decide +kernel] at h9
set_option maxRecDepth 20000 in
set_option maxHeartbeats 1600000 in
theorem specNumbers (s : ByteArray) (hs : s.size ≤ 1048576) (w : World) : Calls Tryd.prog 27 #[.string s] w (RG (partsB s) w) := by
  obtain ⟨i, hi, hz, hs', hb⟩ := info_parts infoJ
  have HI := Lib.hid hi
  have HZ := Lib.hid hz
  have HS := Lib.hid hs'
  have HBy := Lib.hid hb
  have HO0 : Hid ((w.alloc (.cells #[] 2)).ownsRow w.heap.size 2 1 (.slice (some ⟨w.heap.size, 0, none⟩) 0 0) 0 []) := World.ownsRow_lit w #[] 0 (Nat.le_refl _) (Nat.zero_le _) rfl
  have HB0 : Hid (Below w.heap.size w (w.alloc (.cells #[] 2))) := (Below.refl _ _).alloc (Nat.le_refl _) _
  clear hi hz hs' hb
  by_cases hn : s = ⟨#[110, 111, 110, 101]⟩
  · subst hn
    have HV := Lib.hid (readB_all (L := []) (AllP.zero _) (by simp))
    rw [partsB_none]
    go_enter Tryd.func27, Tryd.ntmps27
    go_wp2
    go_ret2
    exact ⟨.slice (some ⟨w.heap.size, 0, none⟩) 0 0, 0, by rw [HV.out]; rfl, by omega, by rw [HV.out]; rfl, HO0.out, HB0.out⟩
  obtain ⟨hnn, hpp⟩ := not_none hn
  have HP := Lib.hid (specCut s hs (w.alloc (.cells #[] 2)))
  have HD := Lib.hid (fun (k : Nat) (x : ByteArray) (hx : (partsB s)[k]? = some x) (z : Int) (b : Bool) (hg : gV (partsB s) k = (z, b)) (u : World) =>
    (show Calls Tryd.prog 21 #[.string x] u fun e w' => e = .returned (.tuple #[.int .i64 z, .bool b]) ∧ Below u.heap.size u w' from by
      have h := specValue x u (by have := partsB_mem hx; unfold maxLen; omega)
      rw [Pd.specV_eq, ← gV_at hx, hg] at h
      exact h))
  have hlen := partsB_len s
  rw [← hpp] at HP
  generalize hLL : partsB s = L at *
  clear hLL hpp hn
  by_cases hmany : ¬ L.length ≤ 64
  · have HV := Lib.hid (readB_many hmany)
    clear HD
    go_enter Tryd.func27, Tryd.ntmps27
    go_wp2_with (first | (go_at_call 34; refine HP.out.mono ?_; rintro e w1 ⟨v, rfl, hrt, hb⟩; have HB1 : Hid (Below w.heap.size w w1) := HB0.out.trans (hb.mono HB0.out.size); clear hb; obtain ⟨ao, cap, rfl⟩ : ∃ ao cap, v = .slice ao L.length cap := (by obtain ⟨ao, cap, e, hc⟩ := hrt; exact ⟨ao, cap, e⟩); clear hrt))
    go_ret2
    exact ⟨.slice none 0 0, 0, by rw [HV.out]; rfl, by omega, by rw [HV.out]; rfl, own_nil _ _ _ _, HB1.out⟩
  have hfew : L.length ≤ 64 := by omega
  clear hmany
  go_enter Tryd.func27, Tryd.ntmps27
  go_wp2_with (first | (go_at_call 34; refine HP.out.mono ?_; rintro e w1 ⟨v, rfl, hrt, hb⟩; have HB1 : Hid (Below w.heap.size w w1) := HB0.out.trans (hb.mono HB0.out.size); have HO1 := Lib.hid (own_below HO0.out hb); clear hb; obtain ⟨ao, cap, rfl, hc⟩ : ∃ ao cap, v = .slice ao L.length cap ∧ RowT w1 v L := (by obtain ⟨ao, cap, e, hc⟩ := hrt; exact ⟨ao, cap, e, ⟨ao, cap, e, hc⟩⟩); have HC := Lib.hid hc; clear hc hrt))
  go_loopw [4, 6] (fun p q wr => ∃ (k g c : Nat), k ≤ L.length ∧ q = .int .i64 k ∧ p = .slice (some ⟨g, 0, none⟩) k c ∧ Hid (wr.ownsRow w.heap.size 2 1 (.slice (some ⟨g, 0, none⟩) k c) k (intsL (fun j => (gV L j).1) k)) ∧ Hid (RowT wr (.slice ao L.length cap) L) ∧ Hid (Below w.heap.size w wr) ∧ Hid (AllP L k) ∧ k ≤ 64) (fun _ q _ => L.length - (intOf q).toNat)
  case atStart => exact ⟨0, w.heap.size, 0, by omega, rfl, rfl, HO1.out, HC.out, HB1.out, AllP.zero L, by omega⟩
  case round =>
    obtain ⟨k, g, c, hk, rfl, rfl, ho, hB1, hB, hA, hk64⟩ := hrel
    by_cases hlt : k < L.length
    · obtain ⟨x, hx⟩ : ∃ x, L[k]? = some x := ⟨_, List.getElem?_eq_getElem hlt⟩
      obtain ⟨a, rfl, hcx⟩ : ∃ a, ao = some a ∧ wr.cell? (a.add k) = some (.string x) := by
        obtain ⟨ao', cap', e, hc⟩ := hB1.out
        cases e
        obtain ⟨a, cs, fz, e2, h1, h2⟩ := hc k x hx
        exact ⟨a, e2, h2⟩
      obtain ⟨⟨z, b⟩, hg⟩ : ∃ p, gV L k = p := ⟨_, rfl⟩
      have HDk := Lib.hid (HD.out k x hx z b hg wr)
      cases b
      · have HV := Lib.hid (readB_bad hlt hg)
        clear hx hg HC HD HP
        go_wp2_with (go_at_call 21; refine HDk.out.mono ?_; rintro e w2 ⟨rfl, hb⟩; have HB2 : Hid (Below w.heap.size w w2) := hB.out.trans (hb.mono hB.out.size); clear hb)
        go_ret2
        exact ⟨.slice none 0 0, 0, by rw [HV.out]; rfl, by omega, by rw [HV.out]; rfl, own_nil _ _ _ _, HB2.out⟩
      · have HA2 : Hid (AllP L (k + 1)) := hA.out.succ hg
        have HZk := Lib.hid (show intsL (fun j => (gV L j).1) (k + 1) = intsL (fun j => (gV L j).1) k ++ [.int .i64 z] by rw [intsL_succ]; simp only [hg])
        clear hx hg HC HD HP
        go_wp2_with (first | (go_at_call 21; refine HDk.out.mono ?_; rintro e w2 ⟨rfl, hb⟩; have HB2 : Hid (Below w.heap.size w w2) := hB.out.trans (hb.mono hB.out.size); have HO2 := Lib.hid (own_below ho.out hb); have HX2 := Lib.hid (hB1.out.below hb); clear hb) | (at_builtin; refine wpList_append_own _ rfl _ _ 27 rfl w.heap.size 2 i (.int .i64 0) 1 8 Tryd.underlying27 HI.out HZ.out HS.out HBy.out rfl (by omega) _ k _ rfl (HO2.out.alloc _) ⟨_, 0, none⟩ 1 _ [.int .i64 z] rfl rfl (one_cell _ _) (by intro u hu; rw [List.mem_singleton.1 hu]; rfl) (by unfold maxLen; omega) (by omega) (by have := HB2.out.size; simp; omega) ?_; intro v2 w3 hown2 hgrow2 _; obtain ⟨g2, c2, rfl⟩ := own_slice hown2 (by omega)))
        have HF2 : Hid (Below w.heap.size w w3) := (HB2.out.alloc HB2.out.size _).grown hgrow2 (by have := HB2.out.size; simp; omega) (fun j h => by cases h; exact (ho.out.lt g rfl).1)
        have HX3 : Hid (RowT w3 (.slice (some a) L.length cap) L) := (HX2.out.below ((Below.refl _ _).alloc (Nat.le_refl _) _)).grown (HO2.out.alloc _) (by decide) hgrow2
        clear hgrow2
        go_roundw
        case rel => exact ⟨k + 1, g2, c2, by omega, by go_num, rfl, by rw [HZk.out]; exact hown2, HX3, HF2, HA2, by omega⟩
        case measure => simp [intOf]; omega
    · obtain rfl : k = L.length := by omega
      have HV := Lib.hid (readB_all hA.out hk64)
      clear HC HD HP
      go_wp2
      go_ret2
      exact ⟨.slice (some ⟨g, 0, none⟩) L.length c, L.length, by rw [HV.out]; rfl, hk64, by rw [HV.out]; rfl, ho.out, hB.out⟩
theorem specReadList (s : ByteArray) (hs : s.size ≤ 1048576) (w : World) : Calls Tryd.prog 15 #[.string s] w (RG (partsB s) w) := by
  have HP := Lib.hid (specNumbers s hs w)
  go_enter Tryd.func15, Tryd.ntmps15
  go_wp2_with fail
  refine HP.out.mono ?_; rintro e w' ⟨v, n, rfl, h1, h2, h3, h4⟩
  have H3 := Lib.hid h3
  have H4 := Lib.hid h4
  clear h3 h4
  go_wp2_with fail
  go_ret2
  exact ⟨v, n, rfl, h1, h2, H3.out, H4.out⟩
def markF (j : Nat) : Int := 1 + j
set_option maxHeartbeats 1600000 in
theorem markI (v : Value) (n : Nat) (f : Nat → Int) (B : Nat) (w : World) (ho : w.ownsRow B 2 1 v n (intsL f n)) (hn : n ≤ 1048576) : Calls Tryd.prog 17 #[v, .int .i64 1] w fun e w' => e = .returned (.int .i64 (1 + n)) ∧ w'.ownsRow B 2 1 v n (intsL markF n) ∧ Below B w w' := by
  rcases Nat.eq_zero_or_pos n with h0 | hpos
  · subst h0
    obtain ⟨ao, cap, rfl⟩ : ∃ ao cap, v = .slice ao 0 cap := by
      rcases ho.2 with ⟨rfl, _⟩ | ⟨g, cap, cur, rfl, _⟩
      · exact ⟨_, _, rfl⟩
      · exact ⟨_, _, rfl⟩
    have HO := Lib.hid ho
    clear ho
    go_enter Tryd.func17, Tryd.ntmps17
    go_wp2_with fail
    go_loopw [1, 5] (fun p q wr => p = .int .i64 1 ∧ q = .int .i64 0 ∧ wr = w) (fun _ _ _ => 0)
    case atStart => exact ⟨rfl, rfl, rfl⟩
    case round =>
      obtain ⟨rfl, rfl, rfl⟩ := hrel
      go_wp2
      go_ret
      exact ⟨rfl, HO.out, Below.refl _ _⟩
  · obtain ⟨g, cap, rfl⟩ := own_slice ho hpos
    have HG := Lib.hid (ho.lt g rfl)
    have HO := Lib.hid ho
    clear ho
    go_enter Tryd.func17, Tryd.ntmps17
    go_wp2_with fail
    go_loopw [1, 5] (fun p q wr => ∃ (k : Nat) (ys : List Value), k ≤ n ∧ p = .int .i64 (1 + k) ∧ q = .int .i64 k ∧ Hid (wr.ownsRow B 2 1 (.slice (some ⟨g, 0, none⟩) n cap) n ys) ∧ Hid (∀ j, j < k → ys[j]? = some (.int .i64 (markF j))) ∧ Hid (Below B w wr)) (fun _ q _ => n - (intOf q).toNat)
    case atStart => exact ⟨0, _, by omega, rfl, rfl, HO.out, fun j hj => absurd hj (by omega), Below.refl _ _⟩
    case round =>
      obtain ⟨k, ys, hk, rfl, rfl, ho, hy, hbel⟩ := hrel
      by_cases hlt : k < n
      · have hylen : ys.length = n := by have := ho.out.1; omega
        have hc1 : ∃ u, wr.cell? ⟨g, k, none⟩ = some u := ⟨ys[k]'(by omega), by rw [ho.out.cellAt k (by omega)]; exact List.getElem?_eq_getElem _⟩
        obtain ⟨u, hc1⟩ := hc1
        have hfz : wr.frozen? ⟨g, k, none⟩ = false := ho.out.frozenAt k
        have HR := Lib.hid (ho.out.stored k (.int .i64 (1 + k))).1
        have HY : Hid (∀ j, j < k + 1 → (ys.set k (.int .i64 (1 + k)))[j]? = some (.int .i64 (markF j))) := fun j hj => by
          by_cases e : j = k
          · subst e; rw [List.getElem?_set_self (by omega)]; rfl
          · rw [List.getElem?_set_ne (by omega)]; exact hy.out j (by omega)
        have HB2 : Hid (Below B w (wr.setCell ⟨g, k, none⟩ (.int .i64 (1 + k)))) := hbel.out.setCell HG.out.1 _
        clear hylen ho hy hbel
        go_wp2
        go_roundw
        case rel => exact ⟨k + 1, _, by omega, by go_num, by go_num, HR, HY, HB2⟩
        case measure => simp [intOf]; omega
      · obtain rfl : n = k := by omega
        go_wp2
        go_ret
        have e : ys = intsL markF n := by
          have hl : ys.length = n := by have := ho.out.1; omega
          apply List.ext_getElem?
          intro j
          by_cases hj : j < n
          · rw [hy.out j hj, intsL_get _ hj]
          · rw [List.getElem?_eq_none (by omega), List.getElem?_eq_none (by simp [intsL]; omega)]
        exact ⟨rfl, by rw [← e]; exact ho.out, hbel.out⟩
set_option maxHeartbeats 1600000 in
theorem heldI (v : Value) (n : Nat) (w : World) (ha : RowI w v n markF) (hn : n ≤ 1048576) : Calls Tryd.prog 18 #[v, .int .i64 1] w fun e w' => e = .returned (.int .i64 (1 + n)) ∧ ∃ m, w' = w.drewN m := by
  obtain ⟨ao, cap, rfl, hm, ca⟩ := ha
  have HA := Lib.hid ca
  clear ca hm
  go_enter Tryd.func18, Tryd.ntmps18
  go_wp2_with fail
  go_loopw [1, 5] (fun p q wr => ∃ (k m : Nat), k ≤ n ∧ p = .int .i64 (1 + k) ∧ q = .int .i64 k ∧ wr = w.drewN m) (fun _ q _ => n - (intOf q).toNat)
  case atStart => exact ⟨0, 0, by omega, rfl, rfl, rfl⟩
  case round =>
    obtain ⟨k, m, hk, rfl, rfl, rfl⟩ := hrel
    by_cases hlt : k < n
    · obtain ⟨x, rfl, hxb, hcx⟩ := HA.out k hlt
      unfold markF at hcx
      clear hxb HA
      go_wp2_with fail
      first | (go_quiet (fail); go_wp2) | go_wp2
      go_roundw
      case rel => exact ⟨k + 1, _, by omega, by go_num, by go_num, rfl⟩
      case measure => simp [intOf]; omega
    · obtain rfl : n = k := by omega
      go_wp2
      go_ret
      exact ⟨rfl, _, rfl⟩
end Go.Proofs.YtfkkabonpbpfoaaDoor.Wk
