/- The reference's eight digits, walked; rows of values; the program's loop over parts. -/
import Derived.Test.YtonngkkhefppdaaDoorTb
set_option linter.unusedSimpArgs false
set_option linter.unusedVariables false
namespace Go.Proofs.YtonngkkhefppdaaDoor.Wk
open Go.RowKit Fl Pc Ph

theorem hex_cases (c : UInt8) : (48 ≤ (c.toNat : Int) ∧ (c.toNat : Int) ≤ 57 ∧ hexV c = some (c.toNat - 48)) ∨ (97 ≤ (c.toNat : Int) ∧ (c.toNat : Int) ≤ 102 ∧ hexV c = some (c.toNat - 87)) ∨
    ((c.toNat : Int) < 48 ∧ hexV c = none) ∨ (57 < (c.toNat : Int) ∧ (c.toNat : Int) < 97 ∧ hexV c = none) ∨ (102 < (c.toNat : Int) ∧ hexV c = none) := by
  unfold hexV
  by_cases h1 : 48 ≤ c.toNat ∧ c.toNat ≤ 57
  · rw [if_pos h1]; left; exact ⟨by omega, by omega, rfl⟩
  · rw [if_neg h1]
    by_cases h2 : 97 ≤ c.toNat ∧ c.toNat ≤ 102
    · rw [if_pos h2]; right; left; exact ⟨by omega, by omega, rfl⟩
    · rw [if_neg h2]
      right; right
      rcases (show c.toNat < 48 ∨ (57 < c.toNat ∧ c.toNat < 97) ∨ 102 < c.toNat by omega) with h | h | h
      · left; exact ⟨by omega, rfl⟩
      · right; left; exact ⟨by omega, by omega, rfl⟩
      · right; right; exact ⟨by omega, rfl⟩
theorem byte_lt (c : UInt8) : (c.toNat : Int) ≤ 255 := by have := UInt8.toNat_lt c; omega
set_option maxRecDepth 20000 in
set_option maxHeartbeats 1600000 in
theorem specDigits (s : ByteArray) (hs : s.size = 8) (w : World) : Calls Tryd.prog 28 #[.string s] w (RW s.data.toList w) := by
  have HS8 := Lib.hid hs
  go_enter Tryd.func28, Tryd.ntmps28
  go_wp2_with fail
  go_loop [4, 5] (fun m i => ∃ k n : Nat, k ≤ s.size ∧ i = .int .i64 k ∧ m = .int .i64 n ∧ Hid (HexI s.data.toList k n)) (fun _ i => s.size - (intOf i).toNat)
  case atStart => exact ⟨0, 0, Nat.zero_le _, rfl, rfl, HexI.zero _⟩
  case round =>
    obtain ⟨k, n, hk, rfl, rfl, hH⟩ := hrel
    have hn := hH.out.lt (by omega)
    by_cases hlt : k < s.size
    · have hat := at_list hlt
      have hB := byte_lt s[k]
      rcases hex_cases s[k] with ⟨h1, h2, hd⟩ | ⟨h1, h2, hd⟩ | ⟨h1, hd⟩ | ⟨h1, h2, hd⟩ | ⟨h1, hd⟩
      · have HH := Lib.hid (hH.out.next hat hd)
        clear hat hd hH
        go_wp2
        go_round
        case rel => exact ⟨k + 1, _, by omega, by go_num, by go_num, HH⟩
        case measure => simp [intOf]; omega
      · have HH := Lib.hid (hH.out.next hat hd)
        clear hat hd hH
        go_wp2
        go_round
        case rel => exact ⟨k + 1, _, by omega, by go_num, by go_num, HH⟩
        case measure => simp [intOf]; omega
      all_goals
        have HV := Lib.hid (readW_none (hH.out.bad hat hd))
        clear hat hd hH
        go_wp2
        go_ret2
        exact ⟨_, _, rfl, by rw [HV.out]; rfl, rfl⟩
    · obtain rfl : k = s.size := by omega
      have HF := Lib.hid (fun u => l01From (n : Int) (by omega) (by omega) u)
      have HB := Lib.hid (fun u => l01Bits n hn u)
      have hdone : hexO s.data.toList = some n := by
        have h := hH.out
        rw [← size_list] at h
        exact h.done
      by_cases hbn : bitsN n = n
      · have HV := Lib.hid (readW_some (by rw [size_list]; exact HS8.out) hdone hbn)
        rw [hbn] at HB
        clear hdone hH hbn
        go_wp2_with (first | (go_at_call 22; refine (HF.out _).mono ?_; rintro e w' ⟨rfl, rfl⟩) | (go_at_call 23; refine (HB.out _).mono ?_; rintro e w' ⟨rfl, rfl⟩))
        go_ret2
        exact ⟨_, _, rfl, by rw [HV.out]; simp, rfl⟩
      · have HV := Lib.hid (readW_bits hdone hbn)
        have hbb : (((bitsN n : Nat) : Int) == ((n : Nat) : Int)) = false := by simp; omega
        have hbb2 : ¬ ((bitsN n : Nat) : Int) = ((n : Nat) : Int) := by omega
        clear hdone hH hbn
        go_wp2_with (first | (go_at_call 22; refine (HF.out _).mono ?_; rintro e w' ⟨rfl, rfl⟩) | (go_at_call 23; refine (HB.out _).mono ?_; rintro e w' ⟨rfl, rfl⟩))
        go_ret2
        exact ⟨_, _, rfl, by rw [HV.out]; simp, rfl⟩
/-! ### rows of values, as far as all is well -/
def AllK (ok : Nat → Bool) (k : Nat) : Prop := ∀ j, j < k → ok j = true
theorem AllK.zero (ok : Nat → Bool) : AllK ok 0 := fun j h => absurd h (by omega)
theorem AllK.succ {ok : Nat → Bool} {k : Nat} (h : AllK ok k) (hk : ok k = true) : AllK ok (k + 1) := fun j hj => by
  by_cases e : j = k
  · subst e; exact hk
  · exact h j (by omega)
noncomputable def fullB (ok : Nat → Bool) (n : Nat) : Bool := @decide (AllK ok n ∧ n ≤ 256) (Classical.propDecidable _)
theorem fullB_bad {ok : Nat → Bool} {k n : Nat} (hk : k < n) (h : ok k = false) : fullB ok n = false := by
  unfold fullB
  rw [decide_eq_false_iff_not]
  intro c
  have := c.1 k hk
  rw [h] at this; cases this
theorem fullB_many {ok : Nat → Bool} {n : Nat} (h : ¬ n ≤ 256) : fullB ok n = false := by
  unfold fullB
  rw [decide_eq_false_iff_not]
  exact fun c => h c.2
theorem fullB_all {ok : Nat → Bool} {n : Nat} (h : AllK ok n) (hn : n ≤ 256) : fullB ok n = true := by
  unfold fullB
  exact @decide_eq_true _ (_) ⟨h, hn⟩
def valsL (g : Nat → Value) (n : Nat) : List Value := (List.range n).map g
theorem valsL_succ (g : Nat → Value) (n : Nat) : valsL g (n + 1) = valsL g n ++ [g n] := by unfold valsL; rw [List.range_succ, List.map_append]; rfl
theorem valsL_get (g : Nat → Value) {n j : Nat} (h : j < n) : (valsL g n)[j]? = some (g j) := by unfold valsL; simp [h]
/-- What the reading gives. -/
def RV (ok : Nat → Bool) (g : Nat → Value) (N : Nat) (t : TypeId) (w : World) (e : Ending) (w' : World) : Prop := ∃ (v : Value) (n : Nat), e = .returned (.tuple #[v, .bool (fullB ok N)]) ∧ n ≤ 256 ∧ n = (if fullB ok N then N else 0) ∧ w'.ownsRow w.heap.size t 1 v n (valsL g n) ∧ Below w.heap.size w w'
theorem own_nil (w : World) (B : Nat) (t : TypeId) (g : Nat → Value) : w.ownsRow B t 1 (.slice none 0 0) 0 (valsL g 0) := ⟨rfl, .inl ⟨rfl, rfl⟩⟩
theorem row_at {w : World} {ao : Option Addr} {cap : Nat} {L : List ByteArray} (h : RowT w (.slice ao L.length cap) L) {k : Nat} {x : ByteArray} (hx : L[k]? = some x) : ∃ a, ao = some a ∧ w.cell? (a.add k) = some (.string x) := by
  obtain ⟨ao', cap', e, hc⟩ := h
  cases e
  obtain ⟨a, cs, fz, e2, h1, h2⟩ := hc k x hx
  exact ⟨a, e2, h2⟩
/-! ### numbers -/
def gW (L : List ByteArray) (j : Nat) : Option Nat := readW ((L.getD j ⟨#[]⟩).data.toList)
theorem gW_at {L : List ByteArray} {j : Nat} {x : ByteArray} (h : L[j]? = some x) : gW L j = readW x.data.toList := by
  unfold gW; rw [List.getD_eq_getElem?_getD, h]; rfl
theorem RW.no {l : List UInt8} {w w' : World} {e : Ending} (h : RW l w e w') (hn : readW l = none) : ∃ y, e = .returned (.tuple #[.float .f32 y, .bool false]) ∧ w = w' := by
  obtain ⟨x, b, rfl, h1, rfl⟩ := h
  rw [hn] at h1
  cases b
  · exact ⟨x, rfl, rfl⟩
  · cases h1
theorem RW.yes {l : List UInt8} {w w' : World} {e : Ending} {y : Nat} (h : RW l w e w') (hn : readW l = some y) : e = .returned (.tuple #[.float .f32 y, .bool true]) ∧ w = w' := by
  obtain ⟨x, b, rfl, h1, rfl⟩ := h
  rw [hn] at h1
  cases b
  · cases h1
  · cases h1; exact ⟨rfl, rfl⟩
def okW (L : List ByteArray) (j : Nat) : Bool := (gW L j).isSome
def valW (L : List ByteArray) (j : Nat) : Value := .float .f32 ((gW L j).getD 0)
set_option maxRecDepth 20000 in
set_option maxHeartbeats 1600000 in
theorem implReadNumbers (s : ByteArray) (hs : s.size ≤ 1048576) (w : World) (hm : MaxIs w) : Calls Tryd.prog 6 #[.string s] w (RV (okW (partsB s)) (valW (partsB s)) (partsB s).length 35 w) := by
  obtain ⟨i, hi, hz, hs', hb⟩ := info_parts infoF
  have HI := Lib.hid hi
  have HZ := Lib.hid hz
  have HS := Lib.hid hs'
  have HBy := Lib.hid hb
  have hw0 : Below w.heap.size w (w.alloc (.cells #[] 35)) := (Below.refl _ _).alloc (Nat.le_refl _) _
  have HP := Lib.hid (implParted s hs _ (hm.below hw0))
  have HB0 := Lib.hid hw0
  have HD := Lib.hid (fun (k : Nat) (x : ByteArray) (hx : (partsB s)[k]? = some x) (u : World) => implReadNumber x (by have := partsB_mem hx; omega) u)
  have hlen := partsB_len s
  clear hi hz hs' hb hw0 hm
  generalize hLL : partsB s = L at *
  clear hLL
  go_enter Tryd.func6, Tryd.ntmps6
  go_wp2_with (first | (go_at_call 16; refine HP.out.mono ?_; rintro e w1 ⟨v, rfl, hrt, hb⟩; have HB1 : Hid (Below w.heap.size w w1) := HB0.out.trans (hb.mono HB0.out.size); have HO1 := Lib.hid (own_below (World.ownsRow_lit w #[] 0 (Nat.le_refl _) (Nat.zero_le _) rfl : (w.alloc (.cells #[] 35)).ownsRow w.heap.size 35 1 (.slice (some ⟨w.heap.size, 0, none⟩) 0 0) 0 []) hb); clear hb; obtain ⟨ao, cap, rfl, hc⟩ : ∃ ao cap, v = .slice ao L.length cap ∧ RowT w1 v L := (by obtain ⟨ao, cap, e, hc⟩ := hrt; exact ⟨ao, cap, e, ⟨ao, cap, e, hc⟩⟩); have HC := Lib.hid hc; clear hc hrt))
  go_loopw [4, 13] (fun p q wr => ∃ (k g c : Nat), k ≤ L.length ∧ q = .int .i64 k ∧ p = .slice (some ⟨g, 0, none⟩) k c ∧ Hid (wr.ownsRow w.heap.size 35 1 (.slice (some ⟨g, 0, none⟩) k c) k (valsL (valW L) k)) ∧ Hid (RowT wr (.slice ao L.length cap) L) ∧ Hid (Below w.heap.size w wr) ∧ Hid (AllK (okW L) k) ∧ k ≤ 256) (fun _ q _ => L.length - (intOf q).toNat)
  case atStart => exact ⟨0, w.heap.size, 0, by omega, rfl, rfl, HO1.out, HC.out, HB1.out, AllK.zero _, by omega⟩
  case round =>
    obtain ⟨k, g, c, hk, rfl, rfl, ho, hB1, hB, hA, hk64⟩ := hrel
    by_cases hlt : k < L.length
    · obtain ⟨x, hx⟩ : ∃ x, L[k]? = some x := ⟨_, List.getElem?_eq_getElem hlt⟩
      obtain ⟨a, rfl, hcx⟩ := row_at hB1.out hx
      have HDk := Lib.hid (HD.out k x hx wr)
      have HL := Lib.hid hlt
      cases hg : gW L k with
      | none =>
        have HV := Lib.hid (fullB_bad (ok := okW L) hlt (by unfold okW; rw [hg]; rfl))
        rw [gW_at hx] at hg
        have HN := Lib.hid hg
        clear hg hx HC HD HP
        go_wp2_with (go_at_call 17; refine HDk.out.mono ?_; intro e w2 h9; obtain ⟨y, rfl, rfl⟩ := h9.no HN.out)
        go_ret2
        exact ⟨.slice none 0 0, 0, by rw [HV.out]; rfl, by omega, by rw [HV.out]; rfl, own_nil _ _ _ _, hB.out⟩
      | some y =>
        have HA2 : Hid (AllK (okW L) (k + 1)) := hA.out.succ (by unfold okW; rw [hg]; rfl)
        have HZk := Lib.hid (show valsL (valW L) (k + 1) = valsL (valW L) k ++ [.float .f32 y] by rw [valsL_succ]; unfold valW; rw [hg]; rfl)
        rw [gW_at hx] at hg
        have HN := Lib.hid hg
        by_cases h64 : k = 256
        · have hb64 : (((k : Nat) : Int) == 256) = true := by simp; omega
          have HV := Lib.hid (fullB_many (ok := okW L) (n := L.length) (by omega))
          clear h64 hg hx HC HD HP
          go_wp2_with (go_at_call 17; refine HDk.out.mono ?_; intro e w2 h9; obtain ⟨rfl, rfl⟩ := h9.yes HN.out)
          go_ret2
          exact ⟨.slice none 0 0, 0, by rw [HV.out]; rfl, by omega, by rw [HV.out]; rfl, own_nil _ _ _ _, hB.out⟩
        · have hb64 : (((k : Nat) : Int) == 256) = false := by simp; omega
          clear hg hx HC HD HP
          go_wp2_with (first | (go_at_call 17; refine HDk.out.mono ?_; intro e w2 h9; obtain ⟨rfl, rfl⟩ := h9.yes HN.out) | (at_builtin; refine wpList_append_own _ rfl _ _ 22 rfl w.heap.size 35 i (.float .f32 0) 1 4 Tryd.underlying22 HI.out HZ.out HS.out HBy.out rfl (by omega) _ k _ rfl (ho.out.alloc _) ⟨_, 0, none⟩ 1 _ [.float .f32 y] rfl rfl (one_cell _ _) (by intro u hu; rw [List.mem_singleton.1 hu]; rfl) (by unfold maxLen; omega) (by omega) (by have := hB.out.size; simp; omega) ?_; intro v2 w3 hown2 hgrow2 _; obtain ⟨g2, c2, rfl⟩ := own_slice hown2 (by omega)))
          have HF2 : Hid (Below w.heap.size w w3) := (hB.out.alloc hB.out.size _).grown hgrow2 (by have := hB.out.size; simp; omega) (fun j h => by cases h; exact (ho.out.lt g rfl).1)
          have HX3 : Hid (RowT w3 (.slice (some a) L.length cap) L) := (hB1.out.below ((Below.refl _ _).alloc (Nat.le_refl _) _)).grown (ho.out.alloc _) (by decide) hgrow2
          clear hgrow2
          go_roundw
          case rel => exact ⟨k + 1, g2, c2, by omega, by go_num, rfl, by rw [HZk.out]; exact hown2, HX3, HF2, HA2, by omega⟩
          case measure => simp [intOf]; omega
    · obtain rfl : k = L.length := by omega
      have HV := Lib.hid (fullB_all hA.out hk64)
      clear HC HD HP
      go_wp2
      go_ret2
      exact ⟨.slice (some ⟨g, 0, none⟩) L.length c, L.length, by rw [HV.out]; rfl, hk64, by rw [HV.out]; rfl, ho.out, hB.out⟩
end Go.Proofs.YtonngkkhefppdaaDoor.Wk
