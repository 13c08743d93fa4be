/- Reading lists, walked: the program's loop and the reference's. -/
import Derived.Test.YtfkkabonpbpfoaaDoorGa
set_option linter.unusedSimpArgs false
set_option linter.unusedVariables false
namespace Go.Proofs.YtfkkabonpbpfoaaDoor.Wk
open Go.RowKit Pc

/-- What stands at place j, read. -/
def gV (L : List ByteArray) (j : Nat) : Int × Bool := Pd.implV ((L.getD j ⟨#[]⟩).data.toList)
theorem gV_at {L : List ByteArray} {j : Nat} {x : ByteArray} (h : L[j]? = some x) : gV L j = Pd.implV x.data.toList := by
  unfold gV; rw [List.getD_eq_getElem?_getD, h]; rfl
def AllP (L : List ByteArray) (k : Nat) : Prop := ∀ j, j < k → (gV L j).2 = true
theorem AllP.zero (L : List ByteArray) : AllP L 0 := fun j h => absurd h (by omega)
theorem AllP.succ {L : List ByteArray} {k : Nat} {z : Int} (h : AllP L k) (hk : gV L k = (z, true)) : AllP L (k + 1) := fun j hj => by
  by_cases e : j = k
  · subst e; rw [hk]
  · exact h j (by omega)
noncomputable def readB (L : List ByteArray) : Bool := @decide (AllP L L.length ∧ L.length ≤ 64) (Classical.propDecidable _)
theorem readB_bad {L : List ByteArray} {k : Nat} {z : Int} (hk : k < L.length) (h : gV L k = (z, false)) : readB L = false := by
  unfold readB
  rw [decide_eq_false_iff_not]
  intro c
  have := c.1 k hk
  rw [h] at this; cases this
theorem readB_many {L : List ByteArray} (h : ¬ L.length ≤ 64) : readB L = false := by
  unfold readB
  rw [decide_eq_false_iff_not]
  exact fun c => h c.2
theorem readB_all {L : List ByteArray} (h : AllP L L.length) (hn : L.length ≤ 64) : readB L = true := by
  unfold readB
  exact @decide_eq_true _ (_) ⟨h, hn⟩
def intsL (f : Nat → Int) (n : Nat) : List Value := (List.range n).map fun j => .int .i64 (f j)
theorem intsL_succ (f : Nat → Int) (n : Nat) : intsL f (n + 1) = intsL f n ++ [.int .i64 (f n)] := by unfold intsL; rw [List.range_succ, List.map_append]; rfl
theorem intsL_get (f : Nat → Int) {n j : Nat} (h : j < n) : (intsL f n)[j]? = some (.int .i64 (f j)) := by unfold intsL; simp [h]
theorem infoJ : (Tryd.prog.info? 2).map (fun i => (i.zero, i.size, i.bytes)) = some (some (.int .i64 0), 1, 8) := by kernel_rfl
theorem rowI_own {w : World} {B n : Nat} {t : TypeId} {v : Value} {f : Nat → Int} (h : w.ownsRow B t 1 v n (intsL f n)) : RowI w v n f := by
  rcases h.2 with ⟨rfl, rfl⟩ | ⟨g, cap, cur, rfl, hg, hh, h1, h2, _⟩
  · exact ⟨none, 0, rfl, Nat.zero_le _, fun i hi => absurd hi (by omega)⟩
  · refine ⟨_, cap, rfl, by omega, fun i hi => ⟨_, rfl, (h.lt g rfl).2, ?_⟩⟩
    rw [add_zero, h.cellAt i (by omega), intsL_get f hi]
/-- What the reading gives. -/
def RG (L : List ByteArray) (w : World) (e : Ending) (w' : World) : Prop := ∃ (v : Value) (n : Nat), e = .returned (.tuple #[v, .bool (readB L)]) ∧ n ≤ 64 ∧ n = (if readB L then L.length else 0) ∧ w'.ownsRow w.heap.size 2 1 v n (intsL (fun j => (gV L j).1) n) ∧ Below w.heap.size w w'
theorem own_nil (w : World) (B : Nat) (t : TypeId) (f : Nat → Int) : w.ownsRow B t 1 (.slice none 0 0) 0 (intsL f 0) := ⟨rfl, .inl ⟨rfl, rfl⟩⟩
def Laid3 (w : World) : Prop := ErrV w 1 ∧ ErrV w 2 ∧ Tab w ∧ MaxIs w
theorem Laid3.below {w w' : World} (h : Laid3 w) (hb : Below w.heap.size w w') : Laid3 w' := ⟨h.1.below hb, h.2.1.below hb, h.2.2.1.below hb, h.2.2.2.below hb⟩
theorem partsB_mem {s x : ByteArray} {k : Nat} (h : (partsB s)[k]? = some x) : x.size ≤ s.size := by
  have hm := List.mem_of_getElem? h
  unfold partsB at hm
  split at hm
  · cases hm
  · exact cutB_mem s x hm
theorem partsB_len (s : ByteArray) : (partsB s).length ≤ s.size + 1 := by
  unfold partsB
  split
  · simp
  · exact cutB_len s
set_option maxRecDepth 20000 in
set_option maxHeartbeats 1600000 in
theorem implReadList (s : ByteArray) (hs : s.size ≤ 1048576) (w : World) (hl : Laid3 w) : Calls Tryd.prog 16 #[.string s] w (RG (partsB s) w) := by
  obtain ⟨i, hi, hz, hs', hb⟩ := info_parts infoJ
  have HI := Lib.hid hi
  have HZ := Lib.hid hz
  have HS := Lib.hid hs'
  have HBy := Lib.hid hb
  have hw0 : Below w.heap.size w (w.alloc (.cells #[] 2)) := (Below.refl _ _).alloc (Nat.le_refl _) _
  have HP := Lib.hid (implParted s hs _ (hl.2.2.2.below hw0))
  have HB0 := Lib.hid hw0
  have HD := Lib.hid (fun (k : Nat) (x : ByteArray) (hx : (partsB s)[k]? = some x) (z : Int) (b : Bool) (hg : gV (partsB s) k = (z, b)) (u : World) (hu : Below w.heap.size w u) =>
    (show Calls Tryd.prog 10 #[.string x] u fun e w' => e = .returned (.tuple #[.int .i64 z, .bool b]) ∧ Below u.heap.size u w' from by
      have h := implRead x (by have := partsB_mem hx; omega) u (hl.1.below hu) (hl.2.1.below hu) (hl.2.2.1.below hu)
      rw [← gV_at hx, hg] at h
      exact h))
  have hlen := partsB_len s
  clear hi hz hs' hb hw0 hl
  generalize hLL : partsB s = L at *
  clear hLL
  go_enter Tryd.func16, Tryd.ntmps16
  go_wp2_with (first | (go_at_call 28; refine HP.out.mono ?_; rintro e w1 ⟨v, rfl, hrt, hb⟩; have HB1 : Hid (Below w.heap.size w w1) := HB0.out.trans (hb.mono HB0.out.size); have HO1 := Lib.hid (own_below (World.ownsRow_lit w #[] 0 (Nat.le_refl _) (Nat.zero_le _) rfl : (w.alloc (.cells #[] 2)).ownsRow w.heap.size 2 1 (.slice (some ⟨w.heap.size, 0, none⟩) 0 0) 0 []) hb); clear hb; obtain ⟨ao, cap, rfl, hc⟩ : ∃ ao cap, v = .slice ao L.length cap ∧ RowT w1 v L := (by obtain ⟨ao, cap, e, hc⟩ := hrt; exact ⟨ao, cap, e, ⟨ao, cap, e, hc⟩⟩); have HC := Lib.hid hc; clear hc hrt))
  go_loopw [4, 13] (fun p q wr => ∃ (k g c : Nat), k ≤ L.length ∧ q = .int .i64 k ∧ p = .slice (some ⟨g, 0, none⟩) k c ∧ Hid (wr.ownsRow w.heap.size 2 1 (.slice (some ⟨g, 0, none⟩) k c) k (intsL (fun j => (gV L j).1) k)) ∧ Hid (RowT wr (.slice ao L.length cap) L) ∧ Hid (Below w.heap.size w wr) ∧ Hid (AllP L k) ∧ k ≤ 64) (fun _ q _ => L.length - (intOf q).toNat)
  case atStart => exact ⟨0, w.heap.size, 0, by omega, rfl, rfl, HO1.out, HC.out, HB1.out, AllP.zero L, by omega⟩
  case round =>
    obtain ⟨k, g, c, hk, rfl, rfl, ho, hB1, hB, hA, hk64⟩ := hrel
    by_cases hlt : k < L.length
    · obtain ⟨x, hx⟩ : ∃ x, L[k]? = some x := ⟨_, List.getElem?_eq_getElem hlt⟩
      obtain ⟨a, rfl, hcx⟩ : ∃ a, ao = some a ∧ wr.cell? (a.add k) = some (.string x) := by
        obtain ⟨ao', cap', e, hc⟩ := hB1.out
        cases e
        obtain ⟨a, cs, fz, e2, h1, h2⟩ := hc k x hx
        exact ⟨a, e2, h2⟩
      obtain ⟨⟨z, b⟩, hg⟩ : ∃ p, gV L k = p := ⟨_, rfl⟩
      have HDk := Lib.hid (HD.out k x hx z b hg wr hB.out)
      cases b
      · have HV := Lib.hid (readB_bad hlt hg)
        clear hx hg HC HD HP
        go_wp2_with (go_at_call 10; refine HDk.out.mono ?_; rintro e w2 ⟨rfl, hb⟩; have HB2 : Hid (Below w.heap.size w w2) := hB.out.trans (hb.mono hB.out.size); clear hb)
        go_ret2
        exact ⟨.slice none 0 0, 0, by rw [HV.out]; rfl, by omega, by rw [HV.out]; rfl, own_nil _ _ _ _, HB2.out⟩
      · have HA2 : Hid (AllP L (k + 1)) := hA.out.succ hg
        have HZk := Lib.hid (show intsL (fun j => (gV L j).1) (k + 1) = intsL (fun j => (gV L j).1) k ++ [.int .i64 z] by rw [intsL_succ]; simp only [hg])
        clear hx hg HC HD HP
        by_cases h64 : k = 64
        · have hb64 : (((k : Nat) : Int) == 64) = true := by simp; omega
          have HV := Lib.hid (readB_many (L := L) (by omega))
          clear h64
          go_wp2_with (go_at_call 10; refine HDk.out.mono ?_; rintro e w2 ⟨rfl, hb⟩; have HB2 : Hid (Below w.heap.size w w2) := hB.out.trans (hb.mono hB.out.size); clear hb)
          go_ret2
          exact ⟨.slice none 0 0, 0, by rw [HV.out]; rfl, by omega, by rw [HV.out]; rfl, own_nil _ _ _ _, HB2.out⟩
        · have hb64 : (((k : Nat) : Int) == 64) = false := by simp; omega
          go_wp2_with (first | (go_at_call 10; refine HDk.out.mono ?_; rintro e w2 ⟨rfl, hb⟩; have HB2 : Hid (Below w.heap.size w w2) := hB.out.trans (hb.mono hB.out.size); have HO2 := Lib.hid (own_below ho.out hb); have HX2 := Lib.hid (hB1.out.below hb); clear hb) | (at_builtin; refine wpList_append_own _ rfl _ _ 27 rfl w.heap.size 2 i (.int .i64 0) 1 8 Tryd.underlying27 HI.out HZ.out HS.out HBy.out rfl (by omega) _ k _ rfl (HO2.out.alloc _) ⟨_, 0, none⟩ 1 _ [.int .i64 z] rfl rfl (one_cell _ _) (by intro u hu; rw [List.mem_singleton.1 hu]; rfl) (by unfold maxLen; omega) (by omega) (by have := HB2.out.size; simp; omega) ?_; intro v2 w3 hown2 hgrow2 _; obtain ⟨g2, c2, rfl⟩ := own_slice hown2 (by omega)))
          have HF2 : Hid (Below w.heap.size w w3) := (HB2.out.alloc HB2.out.size _).grown hgrow2 (by have := HB2.out.size; simp; omega) (fun j h => by cases h; exact (ho.out.lt g rfl).1)
          have HX3 : Hid (RowT w3 (.slice (some a) L.length cap) L) := (HX2.out.below ((Below.refl _ _).alloc (Nat.le_refl _) _)).grown (HO2.out.alloc _) (by decide) hgrow2
          clear hgrow2
          go_roundw
          case rel => exact ⟨k + 1, g2, c2, by omega, by go_num, rfl, by rw [HZk.out]; exact hown2, HX3, HF2, HA2, by omega⟩
          case measure => simp [intOf]; omega
    · obtain rfl : k = L.length := by omega
      have HV := Lib.hid (readB_all hA.out hk64)
      clear HC HD HP
      go_wp2
      go_ret2
      exact ⟨.slice (some ⟨g, 0, none⟩) L.length c, L.length, by rw [HV.out]; rfl, hk64, by rw [HV.out]; rfl, ho.out, hB.out⟩
end Go.Proofs.YtfkkabonpbpfoaaDoor.Wk
