/- Rows of numbers: the law's copies and comparisons, the sums. -/
import Derived.Test.YtonngkkhefppdaaQs
import Derived.Test.YtonngkkhefppdaaChecked
import Derived.Deep.QuietTactic
import Derived.BigQuiet
import Derived.Below
import Derived.Outline
import Derived.OwnWalk
import Derived.Lib.Hide
set_option linter.unusedSimpArgs false
set_option linter.unusedVariables false
namespace Go.Proofs.Ytonngkkhefppdaa.Wk
open Go.RowKit Fl

theorem run_store_float {P : Program} {w : World} {a : Addr} {m : _} (k : FloatKind) (x : Nat) : (store a (.float k x) m).run P w = stored P w a (.float k x) m := run_store P w a _ m rfl
attribute [go_sem] run_store_float
theorem bdrewN (w : World) (n : Nat) : Below w.heap.size w (w.drewN n) := Go.below_drewN (Below.refl _ _) n
theorem retB {a b : Bool} (h : a = b) : Ending.returned (.bool a) = Ending.returned (.bool b) := by rw [h]
theorem ord_fV (op : BinOp) (k : FloatKind) (x y z : Nat) (w : World) : k.format.order (fV op k x y w) z = k.format.order (fop op k (can k x) (can k y)) (can k z) := by
  rw [← order_can, fV_can]
theorem sameF (a b : Nat) (h : can .f64 a = can .f64 b) (w : World) : Calls Try.prog 12 #[.float .f64 a, .float .f64 b] w fun e w' => e = .returned (.bool true) ∧ ∃ n, w' = w.drewN n := by
  have hn := isN_of_can h
  by_cases ha : isN .f64 a = true
  · have h1 : FloatKind.f64.format.order a a = none := by rw [order_self, ha]; rfl
    have h2 : FloatKind.f64.format.order b b = none := by rw [order_self, ← hn, ha]; rfl
    clear h hn ha
    go_enter Try.func12, Try.ntmps12
    go_wp2
    go_ret
    exact ⟨rfl, 0, rfl⟩
  · have hab : a = b := by
      rw [can_of_not (by simpa using ha), can_of_not (by rw [← hn]; simpa using ha)] at h; exact h
    subst hab
    have h1 : FloatKind.f64.format.order a a = some .eq := by rw [order_self]; simp [ha]
    clear h hn ha
    by_cases hz : (FloatKind.f64.format.order a 0 == some .eq) = true
    · go_enter Try.func12, Try.ntmps12
      go_wp2
      go_ret
      refine ⟨retB ?_, _, rfl⟩
      rw [ord_fV, ord_fV]
      simp
    · simp only [Bool.not_eq_true] at hz
      go_enter Try.func12, Try.ntmps12
      go_wp2
      go_ret
      exact ⟨rfl, 0, rfl⟩

/-- A slice of these numbers. -/
def RowF (w : World) (v : Value) (n : Nat) (f : Nat → Nat) : Prop :=
  ∃ (ao : Option Addr) (cap : Nat), v = .slice ao n cap ∧ n ≤ maxLen ∧ ∀ i, i < n → ∃ x, ao = some x ∧ x.block < w.heap.size ∧ w.cell? (x.add i) = some (.float .f32 (f i))
theorem add_block (x : Addr) (i : Nat) : (x.add i).block = x.block := by unfold Addr.add; split <;> rfl
theorem RowF.below {w w' : World} {v : Value} {n : Nat} {f : Nat → Nat} (h : RowF w v n f) (hb : Below w.heap.size w w') : RowF w' v n f := by
  obtain ⟨ao, cap, rfl, hm, hc⟩ := h
  refine ⟨ao, cap, rfl, hm, fun i hi => ?_⟩
  obtain ⟨x, e, h1, h2⟩ := hc i hi
  exact ⟨x, e, Nat.lt_of_lt_of_le h1 hb.size, by rw [hb.cell (by rw [add_block]; exact h1)]; exact h2⟩

theorem infoF : (Try.prog.info? 28).map (fun i => (i.zero, i.size, i.bytes)) = some (some (.float .f32 0), 1, 4) := by kernel_rfl
set_option maxHeartbeats 1600000 in
theorem toF (v : Value) (n : Nat) (f : Nat → Nat) (w : World) (h : RowF w v n f) (hn : n ≤ 1048576) : Calls Try.prog 7 #[v] w fun e w' => ∃ v', e = .returned v' ∧ RowF w' v' n f ∧ Below w.heap.size w w' := by
  obtain ⟨ao, cap, rfl, hm, hcell⟩ := h
  obtain ⟨i, hi, hz, hs, hb⟩ := info_parts infoF
  have HC := Lib.hid hcell
  have HM := Lib.hid hm
  have HI := Lib.hid hi
  have HZ := Lib.hid hz
  have HS := Lib.hid hs
  have HBy := Lib.hid (show i.bytes * n ≤ 281474976710656 by rw [hb]; omega)
  clear hcell hm hi hz hs hb
  go_enter Try.func7, Try.ntmps7
  go_wp2_with (first | (at_make; refine wpList_make_full _ rfl _ _ 22 rfl w.heap.size 28 i (.float .f32 0) 1 Try.underlying22 HI.out HZ.out HS.out _ _ _ _ n rfl rfl rfl rfl HBy.out HM.out (Nat.le_refl _) ?_; intro w1 hown hgrow))
  have HO := Lib.hid hown
  have HG : Hid (Below w.heap.size w w1) := (Below.refl _ _).grown hgrow (Nat.le_refl _) (fun k h => by cases h)
  clear hown hgrow
  generalize hg : w.heap.size = g at HG HO ⊢
  go_loopw [4] (fun q wr => ∃ (k : Nat) (ys : List Value), k ≤ n ∧ q = .int .i64 k ∧ Hid (wr.ownsRow g 28 1 (.slice (some ⟨g, 0, none⟩) n n) n ys) ∧ Hid (∀ j, j < k → ys[j]? = some (.float .f32 (f j))) ∧ Hid (Below g w wr)) (fun q _ => n - (intOf q).toNat)
  case atStart => exact ⟨0, _, by omega, rfl, HO.out, fun j hj => absurd hj (by omega), HG.out⟩
  case round =>
    obtain ⟨k, ys, hk, rfl, ho, hy, hbel⟩ := hrel
    by_cases hlt : k < n
    · obtain ⟨x, rfl, hxb, hcx⟩ := HC.out k hlt
      have hc0 : wr.cell? (x.add k) = some (.float .f32 (f k)) := by rw [hbel.out.cell (by rw [add_block]; omega)]; exact hcx
      have hylen : ys.length = n := by have := ho.out.1; omega
      have hc1 : ∃ u, wr.cell? ⟨g, k, none⟩ = some u := ⟨ys[k]'(by omega), by rw [ho.out.cellAt k (by omega)]; exact List.getElem?_eq_getElem _⟩
      obtain ⟨u, hc1⟩ := hc1
      have hfz : wr.frozen? ⟨g, k, none⟩ = false := ho.out.frozenAt k
      have HR := Lib.hid (ho.out.stored k (.float .f32 (f k))).1
      have HY : Hid (∀ j, j < k + 1 → (ys.set k (.float .f32 (f k)))[j]? = some (.float .f32 (f j))) := fun j hj => by
        by_cases e : j = k
        · subst e; rw [List.getElem?_set_self (by omega)]
        · rw [List.getElem?_set_ne (by omega)]; exact hy.out j (by omega)
      have HB2 : Hid (Below g w (wr.setCell ⟨g, k, none⟩ (.float .f32 (f k)))) := hbel.out.setCell (Nat.le_refl _) _
      clear hcx hxb hylen ho hy hbel HC
      go_wp2
      go_roundw
      case rel => exact ⟨k + 1, _, by omega, by go_num, HR, HY, HB2⟩
      case measure => simp [intOf]; omega
    · obtain rfl : n = k := by omega
      go_wp2
      go_ret
      refine ⟨_, rfl, ⟨_, _, rfl, HM.out, fun j hj => ⟨_, rfl, ?_, ?_⟩⟩, by rw [hg]; exact hbel.out⟩
      · exact (ho.out.lt g rfl).2
      · rw [show Addr.add ⟨g, 0, none⟩ j = ⟨g, j, none⟩ by rw [Addr.add_lit, Nat.zero_add], ho.out.cellAt j (by omega)]
        exact hy.out j hj
end Go.Proofs.Ytonngkkhefppdaa.Wk
