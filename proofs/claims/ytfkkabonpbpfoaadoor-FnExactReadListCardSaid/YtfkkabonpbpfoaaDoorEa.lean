/- Rows of whole numbers: the law's copies and comparisons. -/
import Derived.Test.YtfkkabonpbpfoaaDoorDd
import Derived.OwnWalk
set_option linter.unusedSimpArgs false
set_option linter.unusedVariables false
namespace Go.Proofs.YtfkkabonpbpfoaaDoor.Wk
open Go.RowKit

/-- A slice of these numbers. -/
def RowI (w : World) (v : Value) (n : Nat) (f : Nat → Int) : Prop :=
  ∃ (ao : Option Addr) (cap : Nat), v = .slice ao n cap ∧ n ≤ maxLen ∧ ∀ i, i < n → ∃ x, ao = some x ∧ x.block < w.heap.size ∧ w.cell? (x.add i) = some (.int .i64 (f i))
theorem add_block (x : Addr) (i : Nat) : (x.add i).block = x.block := by unfold Addr.add; split <;> rfl
theorem RowI.below {w w' : World} {v : Value} {n : Nat} {f : Nat → Int} (h : RowI w v n f) (hb : Below w.heap.size w w') : RowI w' v n f := by
  obtain ⟨ao, cap, rfl, hm, hc⟩ := h
  refine ⟨ao, cap, rfl, hm, fun i hi => ?_⟩
  obtain ⟨x, e, h1, h2⟩ := hc i hi
  exact ⟨x, e, Nat.lt_of_lt_of_le h1 hb.size, by rw [hb.cell (by rw [add_block]; exact h1)]; exact h2⟩

theorem infoI : (Tryd.prog.info? 2).map (fun i => (i.zero, i.size, i.bytes)) = some (some (.int .i64 0), 1, 8) := by kernel_rfl
set_option maxHeartbeats 1600000 in
theorem toI (v : Value) (n : Nat) (f : Nat → Int) (w : World) (h : RowI w v n f) (hn : n ≤ 1048576) : Calls Tryd.prog 12 #[v] w fun e w' => ∃ v', e = .returned v' ∧ RowI w' v' n f ∧ Below w.heap.size w w' := by
  obtain ⟨ao, cap, rfl, hm, hcell⟩ := h
  obtain ⟨i, hi, hz, hs, hb⟩ := info_parts infoI
  have HC := Lib.hid hcell
  have HM := Lib.hid hm
  have HI := Lib.hid hi
  have HZ := Lib.hid hz
  have HS := Lib.hid hs
  have HBy := Lib.hid (show i.bytes * n ≤ 281474976710656 by rw [hb]; omega)
  clear hcell hm hi hz hs hb
  go_enter Tryd.func12, Tryd.ntmps12
  go_wp2_with (first | (at_make; refine wpList_make_full _ rfl _ _ 27 rfl w.heap.size 2 i (.int .i64 0) 1 Tryd.underlying27 HI.out HZ.out HS.out _ _ _ _ n rfl rfl rfl rfl HBy.out HM.out (Nat.le_refl _) ?_; intro w1 hown hgrow))
  have HO := Lib.hid hown
  have HG : Hid (Below w.heap.size w w1) := (Below.refl _ _).grown hgrow (Nat.le_refl _) (fun k h => by cases h)
  clear hown hgrow
  generalize hg : w.heap.size = g at HG HO ⊢
  go_loopw [4] (fun q wr => ∃ (k : Nat) (ys : List Value), k ≤ n ∧ q = .int .i64 k ∧ Hid (wr.ownsRow g 2 1 (.slice (some ⟨g, 0, none⟩) n n) n ys) ∧ Hid (∀ j, j < k → ys[j]? = some (.int .i64 (f j))) ∧ Hid (Below g w wr)) (fun q _ => n - (intOf q).toNat)
  case atStart => exact ⟨0, _, by omega, rfl, HO.out, fun j hj => absurd hj (by omega), HG.out⟩
  case round =>
    obtain ⟨k, ys, hk, rfl, ho, hy, hbel⟩ := hrel
    by_cases hlt : k < n
    · obtain ⟨x, rfl, hxb, hcx⟩ := HC.out k hlt
      have hc0 : wr.cell? (x.add k) = some (.int .i64 (f k)) := by rw [hbel.out.cell (by rw [add_block]; omega)]; exact hcx
      have hylen : ys.length = n := by have := ho.out.1; omega
      have hc1 : ∃ u, wr.cell? ⟨g, k, none⟩ = some u := ⟨ys[k]'(by omega), by rw [ho.out.cellAt k (by omega)]; exact List.getElem?_eq_getElem _⟩
      obtain ⟨u, hc1⟩ := hc1
      have hfz : wr.frozen? ⟨g, k, none⟩ = false := ho.out.frozenAt k
      have HR := Lib.hid (ho.out.stored k (.int .i64 (f k))).1
      have HY : Hid (∀ j, j < k + 1 → (ys.set k (.int .i64 (f k)))[j]? = some (.int .i64 (f j))) := fun j hj => by
        by_cases e : j = k
        · subst e; rw [List.getElem?_set_self (by omega)]
        · rw [List.getElem?_set_ne (by omega)]; exact hy.out j (by omega)
      have HB2 : Hid (Below g w (wr.setCell ⟨g, k, none⟩ (.int .i64 (f k)))) := hbel.out.setCell (Nat.le_refl _) _
      clear hcx hxb hylen ho hy hbel HC
      go_wp2
      go_roundw
      case rel => exact ⟨k + 1, _, by omega, by go_num, HR, HY, HB2⟩
      case measure => simp [intOf]; omega
    · obtain rfl : n = k := by omega
      go_wp2
      go_ret
      refine ⟨_, rfl, ⟨_, _, rfl, HM.out, fun j hj => ⟨_, rfl, ?_, ?_⟩⟩, by rw [hg]; exact hbel.out⟩
      · exact (ho.out.lt g rfl).2
      · rw [show Addr.add ⟨g, 0, none⟩ j = ⟨g, j, none⟩ by rw [Addr.add_lit, Nat.zero_add], ho.out.cellAt j (by omega)]
        exact hy.out j hj
set_option maxHeartbeats 1600000 in
theorem eqI (a b : Value) (n : Nat) (f : Nat → Int) (w : World) (ha : RowI w a n f) (hb : RowI w b n f) : Calls Tryd.prog 14 #[a, b] w fun e w' => e = .returned (.bool true) ∧ ∃ n, w' = w.drewN n := by
  obtain ⟨ao, cap, rfl, hm, ca⟩ := ha
  obtain ⟨bo, cap2, rfl, hm', cb⟩ := hb
  have hm2 : n ≤ 9223372036854775807 := by unfold maxLen at hm; omega
  have HA := Lib.hid ca
  have HB := Lib.hid cb
  clear ca cb hm hm'
  go_enter Tryd.func14, Tryd.ntmps14
  go_wp2_with fail
  go_loopw [5] (fun q wr => ∃ (k m : Nat), k ≤ n ∧ q = .int .i64 k ∧ wr = w.drewN m) (fun q _ => n - (intOf q).toNat)
  case atStart => exact ⟨0, 0, by omega, rfl, rfl⟩
  case round =>
    obtain ⟨k, m, hk, rfl, rfl⟩ := hrel
    by_cases hlt : k < n
    · obtain ⟨x, rfl, hxb, hcx⟩ := HA.out k hlt
      obtain ⟨y, rfl, hyb, hcy⟩ := HB.out k hlt
      clear hxb HA hyb HB
      go_wp2_with fail
      go_quiet (fail)
      go_wp2
      go_roundw
      case rel => exact ⟨k + 1, _, by omega, by go_num, rfl⟩
      case measure => simp [intOf]; omega
    · obtain rfl : n = k := by omega
      go_wp2
      go_ret
      exact ⟨rfl, _, rfl⟩
end Go.Proofs.YtfkkabonpbpfoaaDoor.Wk
