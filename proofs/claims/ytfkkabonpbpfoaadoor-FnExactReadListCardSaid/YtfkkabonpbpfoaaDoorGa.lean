/- A text cut at commas, walked: the reference's loop and the program's library call. -/
import Derived.Test.YtfkkabonpbpfoaaDoorPc
import Derived.Test.YtfkkabonpbpfoaaDoorEh
import Derived.Test.YtfkkabonpbpfoaaDoorShs
set_option linter.unusedSimpArgs false
set_option linter.unusedVariables false
namespace Go.Proofs.YtfkkabonpbpfoaaDoor.Wk
open Go.RowKit Pc

/-- A slice of these texts. -/
def RowT (w : World) (v : Value) (L : List ByteArray) : Prop :=
  ∃ (ao : Option Addr) (cap : Nat), v = .slice ao L.length cap ∧ ∀ i x, L[i]? = some x → ∃ a cs fz, ao = some a ∧ w.heap[a.block]? = some (.cells cs 9 fz) ∧ w.cell? (a.add i) = some (.string x)
theorem RowT.keep {w w' : World} {v : Value} {L : List ByteArray} (h : RowT w v L) (hk : ∀ (k : Nat) (cs : Array Value) (fz : Nat × Nat), w.heap[k]? = some (Obj.cells cs 9 fz) → w'.heap[k]? = w.heap[k]?) : RowT w' v L := by
  obtain ⟨ao, cap, rfl, hc⟩ := h
  refine ⟨ao, cap, rfl, fun i x hi => ?_⟩
  obtain ⟨a, cs, fz, e, h1, h2⟩ := hc i x hi
  have hb := hk _ _ _ h1
  exact ⟨a, cs, fz, e, by rw [hb]; exact h1, by rw [World.cell?_of_block (w := w) (by rw [add_block]; exact hb)]; exact h2⟩
theorem heap_lt {w : World} {k : Nat} {o : Obj} (h : w.heap[k]? = some o) : k < w.heap.size := (Array.getElem?_eq_some_iff.1 h).1
theorem RowT.below {w w' : World} {v : Value} {L : List ByteArray} (h : RowT w v L) (hb : Below w.heap.size w w') : RowT w' v L :=
  h.keep fun k cs fz hk => hb.block k (heap_lt hk)
/-- An append to a row of another kind leaves it. -/
theorem RowT.grown {w w' : World} {v : Value} {L : List ByteArray} (h : RowT w v L) {B g n c : Nat} {t : TypeId} {xs : List Value} (ho : w.ownsRow B t 1 (.slice (some ⟨g, 0, none⟩) n c) n xs) (ht : t ≠ 9) (hg : w.grownBy w' (some g)) : RowT w' v L :=
  h.keep fun k cs fz hk => hg.block k (heap_lt hk) (fun e => by
    obtain rfl : k = g := Option.some.inj e
    rcases ho.2 with ⟨e, _⟩ | ⟨g', cap', cur, e1, _, e3, _⟩
    · cases e
    · have e5 : k = g' := by cases e1; rfl
      rw [← e5, hk] at e3
      cases e3
      exact ht rfl)
theorem add_zero (g j : Nat) : Addr.add ⟨g, 0, none⟩ j = ⟨g, j, none⟩ := by rw [Addr.add_lit, Nat.zero_add]
theorem rowT_own {w : World} {B g n c : Nat} {L : List ByteArray} (h : w.ownsRow B 9 1 (.slice (some ⟨g, 0, none⟩) n c) n (L.map Value.string)) : RowT w (.slice (some ⟨g, 0, none⟩) n c) L := by
  have hl : L.length = n := by have := h.1; simpa using this
  have hh : ∃ cs fz, w.heap[g]? = some (.cells cs 9 fz) := by
    rcases h.2 with ⟨e, _⟩ | ⟨g', cap', cur, e1, _, e3, _⟩
    · cases e
    · obtain rfl : g = g' := by cases e1; rfl
      exact ⟨_, _, e3⟩
  obtain ⟨cs, fz, hh⟩ := hh
  refine ⟨_, c, by rw [hl], fun i x hi => ⟨_, cs, fz, rfl, hh, ?_⟩⟩
  have hin : i < L.length := (List.getElem?_eq_some_iff.1 hi).1
  rw [add_zero, h.cellAt i (by omega), List.getElem?_map, hi]; rfl
theorem heap_alloc_last (w : World) (o : Obj) : (w.alloc o).heap[w.heap.size]? = some o := by
  unfold World.alloc
  simp
theorem str_snoc (L : List ByteArray) (x : ByteArray) : L.map Value.string ++ [Value.string x] = (L ++ [x]).map Value.string := by simp
set_option maxRecDepth 20000 in
set_option maxHeartbeats 1600000 in
theorem specCut (s : ByteArray) (hs : s.size ≤ 1048576) (w : World) : Calls Tryd.prog 34 #[.string s, .int .u8 44] w fun e w' => ∃ v, e = .returned v ∧ RowT w' v (cutB s) ∧ Below w.heap.size w w' := by
  obtain ⟨i, hi, hz, hs', hb⟩ := info_parts infoS
  have HI := Lib.hid hi
  have HZ := Lib.hid hz
  have HS := Lib.hid hs'
  have HBy := Lib.hid hb
  clear hi hz hs' hb
  go_enter Tryd.func34, Tryd.ntmps34
  go_wp2_with fail
  go_loopw [5, 6, 7] (fun p f q wr => ∃ (k fr g c : Nat) (done : List ByteArray), k ≤ s.size + 1 ∧ fr ≤ k ∧ done.length ≤ s.size + 1 ∧ q = .int .i64 k ∧ f = .int .i64 fr ∧ p = .slice (some ⟨g, 0, none⟩) done.length c ∧ Hid (wr.ownsRow w.heap.size 9 1 (.slice (some ⟨g, 0, none⟩) done.length c) done.length (done.map Value.string)) ∧ Hid (Below w.heap.size w wr) ∧ Hid (CutI s done fr k)) (fun _ _ q _ => s.size + 1 - (intOf q).toNat)
  case atStart => exact ⟨0, 0, w.heap.size, 0, [], by omega, by omega, by simp, rfl, rfl, rfl, World.ownsRow_lit w #[] 0 (Nat.le_refl _) (Nat.zero_le _) rfl, (Below.refl _ _).alloc (Nat.le_refl _) _, CutI.zero s⟩
  case round =>
    obtain ⟨k, fr, g, c, done, hk, hfr, hdl, rfl, rfl, rfl, ho, hB, hC⟩ := hrel
    by_cases hle : k ≤ s.size
    · by_cases hlt : k < s.size
      · have hne : (((k : Nat) : Int) == ((s.size : Nat) : Int)) = false := by simp; omega
        by_cases hc : (s[k].toNat : Int) = 44
        · have hcb : (((s[k].toNat : Nat) : Int) == 44) = true := by simp; omega
          have h44 : s.data.toList[k]? = some 44 := by
            rw [List.getElem?_eq_getElem (by simpa using hlt)]
            congr 1; exact UInt8.toNat_inj.1 (show s[k].toNat = 44 by omega)
          have HC2 := Lib.hid (hC.out.cut hlt h44)
          have HL2 := Lib.hid (HC2.out.len)
          clear h44 hC
          go_wp2_with ((at_builtin; refine wpList_append_own _ rfl _ _ 43 rfl w.heap.size 9 i (.string ⟨#[]⟩) 1 16 Tryd.underlying43 HI.out HZ.out HS.out HBy.out rfl (by omega) _ done.length _ rfl (ho.out.alloc _) ⟨_, 0, none⟩ 1 _ [.string (s.extract fr k)] rfl rfl (one_cell _ _) (by intro u hu; rw [List.mem_singleton.1 hu]; rfl) (by unfold maxLen; omega) (by omega) (by have := hB.out.size; simp; omega) ?_; intro v2 w2 hown2 hgrow2 _; obtain ⟨g2, c2, rfl⟩ := own_slice hown2 (by omega)))
          have HF2 : Hid (Below w.heap.size w w2) := (hB.out.alloc hB.out.size _).grown hgrow2 (by have := hB.out.size; simp; omega) (fun j h => by cases h; exact (ho.out.lt g rfl).1)
          clear hgrow2
          go_roundw
          case rel => exact ⟨k + 1, k + 1, g2, c2, done ++ [s.extract fr k], by omega, by omega, HL2.out, by go_num, by go_num, by simp, by rw [← str_snoc, List.length_append]; exact hown2, HF2, HC2⟩
          case measure => simp [intOf]; omega
        · have hcb : (((s[k].toNat : Nat) : Int) == 44) = false := by simp; omega
          have h44 : s.data.toList[k]? ≠ some 44 := by
            rw [List.getElem?_eq_getElem (by simpa using hlt)]
            intro e
            have e2 : s[k] = 44 := Option.some.inj e
            rw [e2] at hc; exact hc rfl
          have HC2 := Lib.hid (hC.out.mid hlt h44)
          clear h44 hC
          go_wp2
          go_roundw
          case rel => exact ⟨k + 1, fr, g, c, done, by omega, by omega, hdl, by go_num, rfl, rfl, ho, hB, HC2⟩
          case measure => simp [intOf]; omega
      · obtain rfl : k = s.size := by omega
        have HC2 := Lib.hid hC.out.fin
        have HL2 := Lib.hid (HC2.out.len)
        clear hC
        go_wp2_with ((at_builtin; refine wpList_append_own _ rfl _ _ 43 rfl w.heap.size 9 i (.string ⟨#[]⟩) 1 16 Tryd.underlying43 HI.out HZ.out HS.out HBy.out rfl (by omega) _ done.length _ rfl (ho.out.alloc _) ⟨_, 0, none⟩ 1 _ [.string (s.extract fr s.size)] rfl rfl (one_cell _ _) (by intro u hu; rw [List.mem_singleton.1 hu]; rfl) (by unfold maxLen; omega) (by omega) (by have := hB.out.size; simp; omega) ?_; intro v2 w2 hown2 hgrow2 _; obtain ⟨g2, c2, rfl⟩ := own_slice hown2 (by omega)))
        have HF2 : Hid (Below w.heap.size w w2) := (hB.out.alloc hB.out.size _).grown hgrow2 (by have := hB.out.size; simp; omega) (fun j h => by cases h; exact (ho.out.lt g rfl).1)
        clear hgrow2
        go_roundw
        case rel => exact ⟨s.size + 1, s.size + 1, g2, c2, done ++ [s.extract fr s.size], by omega, by omega, HL2.out, by go_num, by go_num, by simp, by rw [← str_snoc, List.length_append]; exact hown2, HF2, HC2⟩
        case measure => simp [intOf]; try omega
    · have HD := Lib.hid (hC.out.done hle)
      have HR := Lib.hid (rowT_own ho.out)
      go_wp2
      go_ret
      exact ⟨_, rfl, by rw [HD.out]; exact HR.out, hB.out⟩
/-- The parts that a text has. -/
def isNone (s : ByteArray) : Bool := s.toList == [110, 111, 110, 101]
def partsB (s : ByteArray) : List ByteArray := if s == ⟨#[110, 111, 110, 101]⟩ then [] else cutB s
def MaxIs (w : World) : Prop := ∃ m, w.cell? ⟨5, 0, none⟩ = some (.int .i64 m)
theorem MaxIs.below {w w' : World} (h : MaxIs w) (hb : Below w.heap.size w w') : MaxIs w' := by
  obtain ⟨m, h1⟩ := h
  exact ⟨m, by rw [hb.cell (cell_lt h1)]; exact h1⟩
theorem implParted (s : ByteArray) (hs : s.size ≤ 1048576) (w : World) (hm : MaxIs w) : Calls Tryd.prog 28 #[.string s] w fun e w' => ∃ v, e = .returned v ∧ RowT w' v (partsB s) ∧ Below w.heap.size w w' := by
  obtain ⟨m, hm⟩ := hm
  have hj := Tryd.strings_Split s ⟨#[44]⟩ m w (by omega) hm (by decide)
  rw [cutB_split, ← cutB_count] at hj
  by_cases hn : s = ⟨#[110, 111, 110, 101]⟩
  · subst hn
    clear hj hm
    go_enter Tryd.func28, Tryd.ntmps28
    go_wp2
    go_ret
    exact ⟨_, rfl, ⟨none, 0, rfl, fun i x h => by cases h⟩, Below.refl _ _⟩
  · have hbl : (s == ⟨#[110, 111, 110, 101]⟩) = false := by
      cases e : (s == (⟨#[110, 111, 110, 101]⟩ : ByteArray))
      · rfl
      · exact absurd (bytes_beq_eq e) hn
    have hbl2 : (s.toList == [110, 111, 110, 101]) = false := by
      have h9 := list_ne hn
      rwa [show (⟨#[110, 111, 110, 101]⟩ : ByteArray).toList = [110, 111, 110, 101] by decide +kernel] at h9
    have HP := Lib.hid (show partsB s = cutB s by unfold partsB; rw [hbl]; rfl)
    have HJ := Lib.hid hj
    clear hj hm
    go_enter Tryd.func28, Tryd.ntmps28
    go_wp2_with (go_at_call 35; refine HJ.out.mono ?_; rintro e w' ⟨rfl, hw⟩; have HW := Lib.hid hw; clear hw)
    go_ret
    refine ⟨_, rfl, ?_, by rw [HW.out]; exact (Below.refl _ _).alloc (Nat.le_refl _) _⟩
    rw [HP.out, HW.out]
    refine ⟨_, _, rfl, fun i x hi => ⟨_, ((cutB s).map Value.string).toArray, (0, 0), rfl, ?_, ?_⟩⟩
    · exact heap_alloc_last w _
    · rw [add_zero]
      simp [hi]
end Go.Proofs.YtfkkabonpbpfoaaDoor.Wk
