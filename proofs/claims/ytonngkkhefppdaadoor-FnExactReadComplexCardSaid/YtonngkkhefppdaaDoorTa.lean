/- The base of the reading of numbers: bits, rows of numbers and of texts, what the law asks of them. -/
import Derived.Test.YtonngkkhefppdaaDoorQs
import Derived.Test.YtonngkkhefppdaaDoorPc
import Derived.Test.YtonngkkhefppdaaDoorShs
import Derived.Test.YtonngkkhefppdaaDoorChecked
import Derived.Laws.BitsAllLaws
import Derived.Laws.BytesArg
import Derived.Laws.StructEq
import Derived.MapKept
import Derived.Deep.QuietTactic
import Derived.BigQuiet
import Derived.Below
import Derived.Outline
import Derived.OwnWalk
import Derived.IntWalk
import Derived.Lib.Hide
set_option linter.unusedSimpArgs false
set_option linter.unusedVariables false
namespace Go.Proofs.YtonngkkhefppdaaDoor.Wk
open Go.RowKit Fl Pc

theorem run_store_float {P : Program} {w : World} {a : Addr} {m : _} (k : FloatKind) (x : Nat) : (store a (.float k x) m).run P w = stored P w a (.float k x) m := run_store P w a _ m rfl
attribute [go_sem] run_store_float
theorem bdrewN (w : World) (n : Nat) : Below w.heap.size w (w.drewN n) := Go.below_drewN (Below.refl _ _) n
theorem retB {a b : Bool} (h : a = b) : Ending.returned (.bool a) = Ending.returned (.bool b) := by rw [h]
theorem retI {k : IntKind} {a b : Int} (h : a = b) : Ending.returned (.int k a) = Ending.returned (.int k b) := by rw [h]
theorem retF {k : FloatKind} {a b : Nat} (h : a = b) : Ending.returned (.float k a) = Ending.returned (.float k b) := by rw [h]
theorem f32bits (x : Nat) (w : World) : (callFunc 30 #[.float .f32 x]).run Tryd.prog w = .ok (.value (.int .u32 x)) w := by
  rw [run_callFunc_extern Tryd.func30 (by kernel_rfl) (by kernel_rfl) (by kernel_rfl) (e := Extern.MathFloatBits.float32bits) (by kernel_rfl)]
  rfl
theorem f32frombits (n : Int) (w : World) : (callFunc 29 #[.int .u32 n]).run Tryd.prog w = .ok (.value (.float .f32 n.toNat)) w := by
  rw [run_callFunc_extern Tryd.func29 (by kernel_rfl) (by kernel_rfl) (by kernel_rfl) (e := Extern.MathFloatBits.float32frombits) (by kernel_rfl)]
  rfl
theorem ord_fV (op : BinOp) (k : FloatKind) (x y z : Nat) (w : World) : k.format.order (fV op k x y w) z = k.format.order (fop op k (can k x) (can k y)) (can k z) := by
  rw [← order_can, fV_can]
theorem lt32 {a : Nat} (wa : (Lit.float .f32 a).wf = true) : a < 4294967296 := by simpa [Lit.wf] using wa

/-! ### The law's own 'the same' -/
theorem sameF (a b : Nat) (h : can .f64 a = can .f64 b) (w : World) : Calls Tryd.prog 18 #[.float .f64 a, .float .f64 b] w fun e w' => e = .returned (.bool true) ∧ ∃ n, w' = w.drewN n := by
  have hn := isN_of_can h
  by_cases ha : isN .f64 a = true
  · have h1 : FloatKind.f64.format.order a a = none := by rw [order_self, ha]; rfl
    have h2 : FloatKind.f64.format.order b b = none := by rw [order_self, ← hn, ha]; rfl
    clear h hn ha
    go_enter Tryd.func18, Tryd.ntmps18
    go_wp2
    go_ret
    exact ⟨rfl, 0, rfl⟩
  · have hab : a = b := by
      rw [can_of_not (by simpa using ha), can_of_not (by rw [← hn]; simpa using ha)] at h; exact h
    subst hab
    have h1 : FloatKind.f64.format.order a a = some .eq := by rw [order_self]; simp [ha]
    clear h hn ha
    by_cases hz : (FloatKind.f64.format.order a 0 == some .eq) = true
    · go_enter Tryd.func18, Tryd.ntmps18
      go_wp2
      go_ret
      refine ⟨retB ?_, _, rfl⟩
      rw [ord_fV, ord_fV]
      simp
    · simp only [Bool.not_eq_true] at hz
      go_enter Tryd.func18, Tryd.ntmps18
      go_wp2
      go_ret
      exact ⟨rfl, 0, rfl⟩

/-! ### bits -/
def bitsN (x : Nat) : Nat := if isN .f32 x then 2143289344 else x
theorem bitsN_eq (x : Nat) : bitsN x = can .f32 x := rfl
theorem l01Bits (x : Nat) (hx : x < 4294967296) (w : World) : Calls Tryd.prog 23 #[.float .f32 x] w fun e w' => e = .returned (.int .i64 (bitsN x)) ∧ w = w' := by
  have hb := f32bits x w
  by_cases h : isN .f32 x = true
  · have ho : FloatKind.f32.format.order x x = none := by rw [order_self, h]; rfl
    go_enter Tryd.func23, Tryd.ntmps23
    go_wp2
    go_ret
    exact ⟨retI (by unfold bitsN; rw [if_pos h]; rfl), rfl⟩
  · have ho : FloatKind.f32.format.order x x = some .eq := by rw [order_self]; simp [h]
    go_enter Tryd.func23, Tryd.ntmps23
    go_wp2
    go_ret
    exact ⟨retI (by unfold bitsN; rw [if_neg h]), rfl⟩
theorem wrapu32 (n : Int) (h0 : 0 ≤ n) (h1 : n ≤ 4294967295) : IntKind.u32.wrap n = n := by rw [IntKind.wrap_u32]; omega
theorem l01From (n : Int) (h0 : 0 ≤ n) (h1 : n ≤ 4294967295) (w : World) : Calls Tryd.prog 22 #[.int .i64 n] w fun e w' => e = .returned (.float .f32 n.toNat) ∧ w = w' := by
  have h2 := fun n => f32frombits n w
  have h3 := wrapu32 n h0 h1
  go_enter Tryd.func22, Tryd.ntmps22
  go_wp2
  go_ret
  exact ⟨rfl, rfl⟩

theorem implIsNaN (x : Nat) (w : World) : Calls Tryd.prog 34 #[.float .f32 x] w fun e w' => e = .returned (.bool (isN .f32 x)) ∧ w = w' := by
  by_cases h : isN .f32 x = true
  · have ho : FloatKind.f32.format.order x x = none := by rw [order_self, h]; rfl
    go_enter Tryd.func34, Tryd.ntmps34
    go_wp2
    go_ret
    exact ⟨retB (by rw [h]; rfl), rfl⟩
  · have ho : FloatKind.f32.format.order x x = some .eq := by rw [order_self]; simp [h]
    go_enter Tryd.func34, Tryd.ntmps34
    go_wp2
    go_ret
    exact ⟨retB (by simp only [Bool.not_eq_true] at h; rw [h]), rfl⟩
theorem implBitsOf (x : Nat) (hx : x < 4294967296) (w : World) : Calls Tryd.prog 27 #[.float .f32 x] w fun e w' => e = .returned (.int .i64 (bitsN x)) ∧ w = w' := by
  have hb := f32bits x w
  by_cases h : isN .f32 x = true
  · go_enter Tryd.func27, Tryd.ntmps27
    go_wp2_with (go_at_call 34; refine (implIsNaN _ _).mono ?_; rintro e w' ⟨rfl, rfl⟩)
    go_ret
    exact ⟨retI (by unfold bitsN; rw [if_pos h]; rfl), rfl⟩
  · go_enter Tryd.func27, Tryd.ntmps27
    go_wp2_with (go_at_call 34; refine (implIsNaN _ _).mono ?_; rintro e w' ⟨rfl, rfl⟩)
    go_ret
    exact ⟨retI (by unfold bitsN; rw [if_neg h]), rfl⟩
def inB (n lo hi : Int) : Bool := decide (lo ≤ n) && decide (n ≤ hi)
theorem implIn (n lo hi : Int) (w : World) : Calls Tryd.prog 33 #[.int .i64 n, .int .i64 lo, .int .i64 hi] w fun e w' => e = .returned (.bool (inB n lo hi)) ∧ w = w' := by
  by_cases h1 : lo ≤ n <;> by_cases h2 : n ≤ hi
  all_goals
    go_enter Tryd.func33, Tryd.ntmps33
    go_wp2
    go_ret
    exact ⟨retB (by unfold inB; simp [h1, h2]), rfl⟩

def fromF (n : Int) : Nat := if inB n 0 4294967295 then n.toNat else 0
theorem implFromBits (n : Int) (w : World) : Calls Tryd.prog 26 #[.int .i64 n] w fun e w' => e = .returned (.tuple #[.float .f32 (fromF n), .bool (inB n 0 4294967295)]) ∧ w = w' := by
  have h2 := fun n => f32frombits n w
  by_cases h : inB n 0 4294967295 = true
  · have h0 : 0 ≤ n ∧ n ≤ 4294967295 := by unfold inB at h; simpa using h
    have h3 := wrapu32 n h0.1 h0.2
    go_enter Tryd.func26, Tryd.ntmps26
    go_wp2_with (first | (go_at_call 33; refine (implIn _ _ _ _).mono ?_; rintro e w' ⟨rfl, rfl⟩))
    go_ret2
    refine ⟨?_, rfl⟩
    unfold fromF; rw [if_pos h, h]; rfl
  · simp only [Bool.not_eq_true] at h
    go_enter Tryd.func26, Tryd.ntmps26
    go_wp2_with (first | (go_at_call 33; refine (implIn _ _ _ _).mono ?_; rintro e w' ⟨rfl, rfl⟩))
    go_ret2
    refine ⟨?_, rfl⟩
    unfold fromF; rw [h]; rfl
/-- A slice of these numbers. -/
def RowF (w : World) (v : Value) (n : Nat) (f : Nat → Nat) : Prop :=
  ∃ (ao : Option Addr) (cap : Nat), v = .slice ao n cap ∧ n ≤ maxLen ∧ ∀ i, i < n → ∃ x, ao = some x ∧ x.block < w.heap.size ∧ w.cell? (x.add i) = some (.float .f32 (f i))
theorem add_block (x : Addr) (i : Nat) : (x.add i).block = x.block := by unfold Addr.add; split <;> rfl
theorem RowF.below {w w' : World} {v : Value} {n : Nat} {f : Nat → Nat} (h : RowF w v n f) (hb : Below w.heap.size w w') : RowF w' v n f := by
  obtain ⟨ao, cap, rfl, hm, hc⟩ := h
  refine ⟨ao, cap, rfl, hm, fun i hi => ?_⟩
  obtain ⟨x, e, h1, h2⟩ := hc i hi
  exact ⟨x, e, Nat.lt_of_lt_of_le h1 hb.size, by rw [hb.cell (by rw [add_block]; exact h1)]; exact h2⟩

theorem infoF : (Tryd.prog.info? 35).map (fun i => (i.zero, i.size, i.bytes)) = some (some (.float .f32 0), 1, 4) := by kernel_rfl
theorem eqF (a b : Value) (n : Nat) (f : Nat → Nat) (w : World) (ha : RowF w a n f) (hb : RowF w b n f) : Calls Tryd.prog 7 #[a, b] w fun e w' => e = .returned (.bool true) ∧ ∃ n, w' = w.drewN n := by
  obtain ⟨ao, cap, rfl, hm, ca⟩ := ha
  obtain ⟨bo, cap2, rfl, hm', cb⟩ := hb
  have hm2 : n ≤ 9223372036854775807 := by unfold maxLen at hm; omega
  have HA := Lib.hid ca
  have HB := Lib.hid cb
  clear ca cb hm hm'
  go_enter Tryd.func7, Tryd.ntmps7
  go_wp2_with fail
  go_loopw [5] (fun q wr => ∃ (k m : Nat), k ≤ n ∧ q = .int .i64 k ∧ wr = w.drewN m) (fun q _ => n - (intOf q).toNat)
  case atStart => exact ⟨0, 0, by omega, rfl, rfl⟩
  case round =>
    obtain ⟨k, m, hk, rfl, rfl⟩ := hrel
    by_cases hlt : k < n
    · obtain ⟨x, rfl, hxb, hcx⟩ := HA.out k hlt
      obtain ⟨y, rfl, hyb, hcy⟩ := HB.out k hlt
      clear hxb HA hyb HB
      go_wp2_with fail
      refine Soft.wp_region_soft (by kernel_rfl) (by decide +kernel) (by decide +kernel) ?_
      iterate 4 (refine Soft.step_quiet (fun K hK => ?_); go_simp; (refine hK _ ?_; clear hK K))
      (refine Soft.step_wide rfl _ _ _ _ rfl rfl (by kernel_rfl) Tryd.underlying39 ?_; intro r hr)
      iterate 4 (refine Soft.step_quiet (fun K hK => ?_); go_simp; (refine hK _ ?_; clear hK K))
      (refine Soft.step_wide rfl _ _ _ _ rfl rfl (by kernel_rfl) Tryd.underlying39 ?_; intro r' hr')
      have HE := Lib.hid (hr.trans hr'.symm)
      clear hr hr'
      (refine Soft.step_quiet (fun K hK => ?_)
       go_simp
       apply Exists.intro
       refine ⟨fun jj => ?_, hK _ ?_⟩
       · refine (sameF _ _ HE.out _).mono ?_
         rintro e w' ⟨rfl, j, rfl⟩
         exact ⟨rfl, jj + j, by rw [World.drewN_drewN, Nat.add_assoc]⟩
       clear hK K)
      (refine Soft.step_quiet (fun K hK => ?_); go_simp; (refine hK _ ?_; clear hK K))
      rintro w' ⟨nn, rfl⟩
      go_wp2_with fail
      go_roundw
      case rel => exact ⟨k + 1, _, by omega, by go_num, rfl⟩
      case measure => simp [intOf]; omega
    · obtain rfl : n = k := by omega
      go_wp2
      go_ret
      exact ⟨rfl, _, rfl⟩
theorem own_slice {w : World} {base n : Nat} {e : TypeId} {v : Value} {xs : List Value} (h : w.ownsRow base e 1 v n xs) (hn : 0 < n) : ∃ g cap, v = .slice (some ⟨g, 0, none⟩) n cap := by
  rcases h.2 with ⟨_, h2⟩ | ⟨g, cap, cur, rfl, _⟩
  · omega
  · exact ⟨g, cap, rfl⟩
theorem infoS : (Tryd.prog.info? 9).map (fun i => (i.zero, i.size, i.bytes)) = some (some (.string ⟨#[]⟩), 1, 16) := by kernel_rfl
theorem own_below {w w' : World} {B g n c : Nat} {e : TypeId} {xs : List Value} (h : w.ownsRow B e 1 (.slice (some ⟨g, 0, none⟩) n c) n xs) (hb : Below w.heap.size w w') : w'.ownsRow B e 1 (.slice (some ⟨g, 0, none⟩) n c) n xs := by
  have hl := h.lt g rfl
  obtain ⟨h1, h2⟩ := h
  refine ⟨h1, ?_⟩
  rcases h2 with h2 | ⟨g', cap', cur, e1, e2, e3, r⟩
  · exact .inl h2
  · have : g = g' := by cases e1; rfl
    subst this
    exact .inr ⟨g, cap', cur, e1, e2, (hb.block g hl.2).trans e3, r⟩
theorem one_cell (w : World) (u : Value) {t : TypeId} : ∀ j x, [u][j]? = some x → (w.alloc (.cells #[u] t)).cell? ((⟨w.heap.size, 0, none⟩ : Addr).add j) = some x := by
  intro j x hx
  cases j with
  | zero => cases hx; simp [Addr.add]
  | succ j => simp at hx
theorem bytes_beq_eq {a b : ByteArray} (h : (a == b) = true) : a = b := by
  first | exact (bytes_beq a b).1 h | exact (Go.MapKept.bytes_beq a b).1 h
theorem list_ne {t s : ByteArray} (h : ¬ t = s) : (t.toList == s.toList) = false := by
  rw [← beq_toListBytes]
  cases e : (t == s)
  · rfl
  · exact absurd (bytes_beq_eq e) h
theorem cell_lt {w : World} {a : Addr} {v : Value} (h : w.cell? a = some v) : a.block < w.heap.size := by
  rcases Nat.lt_or_ge a.block w.heap.size with g | g
  · exact g
  · exfalso
    unfold World.cell? at h
    rw [Array.getElem?_eq_none g] at h
    cases h
/-- A slice of these texts. -/
def RowT (w : World) (v : Value) (L : List ByteArray) : Prop :=
  ∃ (ao : Option Addr) (cap : Nat), v = .slice ao L.length cap ∧ ∀ i x, L[i]? = some x → ∃ a cs fz, ao = some a ∧ w.heap[a.block]? = some (.cells cs 9 fz) ∧ w.cell? (a.add i) = some (.string x)
theorem RowT.keep {w w' : World} {v : Value} {L : List ByteArray} (h : RowT w v L) (hk : ∀ (k : Nat) (cs : Array Value) (fz : Nat × Nat), w.heap[k]? = some (Obj.cells cs 9 fz) → w'.heap[k]? = w.heap[k]?) : RowT w' v L := by
  obtain ⟨ao, cap, rfl, hc⟩ := h
  refine ⟨ao, cap, rfl, fun i x hi => ?_⟩
  obtain ⟨a, cs, fz, e, h1, h2⟩ := hc i x hi
  have hb := hk _ _ _ h1
  exact ⟨a, cs, fz, e, by rw [hb]; exact h1, by rw [World.cell?_of_block (w := w) (by rw [add_block]; exact hb)]; exact h2⟩
theorem heap_lt {w : World} {k : Nat} {o : Obj} (h : w.heap[k]? = some o) : k < w.heap.size := (Array.getElem?_eq_some_iff.1 h).1
theorem RowT.below {w w' : World} {v : Value} {L : List ByteArray} (h : RowT w v L) (hb : Below w.heap.size w w') : RowT w' v L :=
  h.keep fun k cs fz hk => hb.block k (heap_lt hk)
/-- An append to a row of another kind leaves it. -/
theorem RowT.grown {w w' : World} {v : Value} {L : List ByteArray} (h : RowT w v L) {B g n c : Nat} {t : TypeId} {xs : List Value} (ho : w.ownsRow B t 1 (.slice (some ⟨g, 0, none⟩) n c) n xs) (ht : t ≠ 9) (hg : w.grownBy w' (some g)) : RowT w' v L :=
  h.keep fun k cs fz hk => hg.block k (heap_lt hk) (fun e => by
    obtain rfl : k = g := Option.some.inj e
    rcases ho.2 with ⟨e, _⟩ | ⟨g', cap', cur, e1, _, e3, _⟩
    · cases e
    · have e5 : k = g' := by cases e1; rfl
      rw [← e5, hk] at e3
      cases e3
      exact ht rfl)
theorem add_zero (g j : Nat) : Addr.add ⟨g, 0, none⟩ j = ⟨g, j, none⟩ := by rw [Addr.add_lit, Nat.zero_add]
theorem rowT_own {w : World} {B g n c : Nat} {L : List ByteArray} (h : w.ownsRow B 9 1 (.slice (some ⟨g, 0, none⟩) n c) n (L.map Value.string)) : RowT w (.slice (some ⟨g, 0, none⟩) n c) L := by
  have hl : L.length = n := by have := h.1; simpa using this
  have hh : ∃ cs fz, w.heap[g]? = some (.cells cs 9 fz) := by
    rcases h.2 with ⟨e, _⟩ | ⟨g', cap', cur, e1, _, e3, _⟩
    · cases e
    · obtain rfl : g = g' := by cases e1; rfl
      exact ⟨_, _, e3⟩
  obtain ⟨cs, fz, hh⟩ := hh
  refine ⟨_, c, by rw [hl], fun i x hi => ⟨_, cs, fz, rfl, hh, ?_⟩⟩
  have hin : i < L.length := (List.getElem?_eq_some_iff.1 hi).1
  rw [add_zero, h.cellAt i (by omega), List.getElem?_map, hi]; rfl
theorem heap_alloc_last (w : World) (o : Obj) : (w.alloc o).heap[w.heap.size]? = some o := by
  unfold World.alloc
  simp
theorem str_snoc (L : List ByteArray) (x : ByteArray) : L.map Value.string ++ [Value.string x] = (L ++ [x]).map Value.string := by simp
set_option maxRecDepth 20000 in
set_option maxHeartbeats 1600000 in
theorem specCut (s : ByteArray) (hs : s.size ≤ 1048576) (w : World) : Calls Tryd.prog 21 #[.string s, .int .u8 44] w fun e w' => ∃ v, e = .returned v ∧ RowT w' v (cutB s) ∧ Below w.heap.size w w' := by
  obtain ⟨i, hi, hz, hs', hb⟩ := info_parts infoS
  have HI := Lib.hid hi
  have HZ := Lib.hid hz
  have HS := Lib.hid hs'
  have HBy := Lib.hid hb
  clear hi hz hs' hb
  go_enter Tryd.func21, Tryd.ntmps21
  go_wp2_with fail
  go_loopw [5, 6, 7] (fun p f q wr => ∃ (k fr g c : Nat) (done : List ByteArray), k ≤ s.size + 1 ∧ fr ≤ k ∧ done.length ≤ s.size + 1 ∧ q = .int .i64 k ∧ f = .int .i64 fr ∧ p = .slice (some ⟨g, 0, none⟩) done.length c ∧ Hid (wr.ownsRow w.heap.size 9 1 (.slice (some ⟨g, 0, none⟩) done.length c) done.length (done.map Value.string)) ∧ Hid (Below w.heap.size w wr) ∧ Hid (CutI s done fr k)) (fun _ _ q _ => s.size + 1 - (intOf q).toNat)
  case atStart => exact ⟨0, 0, w.heap.size, 0, [], by omega, by omega, by simp, rfl, rfl, rfl, World.ownsRow_lit w #[] 0 (Nat.le_refl _) (Nat.zero_le _) rfl, (Below.refl _ _).alloc (Nat.le_refl _) _, CutI.zero s⟩
  case round =>
    obtain ⟨k, fr, g, c, done, hk, hfr, hdl, rfl, rfl, rfl, ho, hB, hC⟩ := hrel
    by_cases hle : k ≤ s.size
    · by_cases hlt : k < s.size
      · have hne : (((k : Nat) : Int) == ((s.size : Nat) : Int)) = false := by simp; omega
        by_cases hc : (s[k].toNat : Int) = 44
        · have hcb : (((s[k].toNat : Nat) : Int) == 44) = true := by simp; omega
          have h44 : s.data.toList[k]? = some 44 := by
            rw [List.getElem?_eq_getElem (by simpa using hlt)]
            congr 1; exact UInt8.toNat_inj.1 (show s[k].toNat = 44 by omega)
          have HC2 := Lib.hid (hC.out.cut hlt h44)
          have HL2 := Lib.hid (HC2.out.len)
          clear h44 hC
          go_wp2_with ((at_builtin; refine wpList_append_own _ rfl _ _ 33 rfl w.heap.size 9 i (.string ⟨#[]⟩) 1 16 Tryd.underlying33 HI.out HZ.out HS.out HBy.out rfl (by omega) _ done.length _ rfl (ho.out.alloc _) ⟨_, 0, none⟩ 1 _ [.string (s.extract fr k)] rfl rfl (one_cell _ _) (by intro u hu; rw [List.mem_singleton.1 hu]; rfl) (by unfold maxLen; omega) (by omega) (by have := hB.out.size; simp; omega) ?_; intro v2 w2 hown2 hgrow2 _; obtain ⟨g2, c2, rfl⟩ := own_slice hown2 (by omega)))
          have HF2 : Hid (Below w.heap.size w w2) := (hB.out.alloc hB.out.size _).grown hgrow2 (by have := hB.out.size; simp; omega) (fun j h => by cases h; exact (ho.out.lt g rfl).1)
          clear hgrow2
          go_roundw
          case rel => exact ⟨k + 1, k + 1, g2, c2, done ++ [s.extract fr k], by omega, by omega, HL2.out, by go_num, by go_num, by simp, by rw [← str_snoc, List.length_append]; exact hown2, HF2, HC2⟩
          case measure => simp [intOf]; omega
        · have hcb : (((s[k].toNat : Nat) : Int) == 44) = false := by simp; omega
          have h44 : s.data.toList[k]? ≠ some 44 := by
            rw [List.getElem?_eq_getElem (by simpa using hlt)]
            intro e
            have e2 : s[k] = 44 := Option.some.inj e
            rw [e2] at hc; exact hc rfl
          have HC2 := Lib.hid (hC.out.mid hlt h44)
          clear h44 hC
          go_wp2
          go_roundw
          case rel => exact ⟨k + 1, fr, g, c, done, by omega, by omega, hdl, by go_num, rfl, rfl, ho, hB, HC2⟩
          case measure => simp [intOf]; omega
      · obtain rfl : k = s.size := by omega
        have HC2 := Lib.hid hC.out.fin
        have HL2 := Lib.hid (HC2.out.len)
        clear hC
        go_wp2_with ((at_builtin; refine wpList_append_own _ rfl _ _ 33 rfl w.heap.size 9 i (.string ⟨#[]⟩) 1 16 Tryd.underlying33 HI.out HZ.out HS.out HBy.out rfl (by omega) _ done.length _ rfl (ho.out.alloc _) ⟨_, 0, none⟩ 1 _ [.string (s.extract fr s.size)] rfl rfl (one_cell _ _) (by intro u hu; rw [List.mem_singleton.1 hu]; rfl) (by unfold maxLen; omega) (by omega) (by have := hB.out.size; simp; omega) ?_; intro v2 w2 hown2 hgrow2 _; obtain ⟨g2, c2, rfl⟩ := own_slice hown2 (by omega)))
        have HF2 : Hid (Below w.heap.size w w2) := (hB.out.alloc hB.out.size _).grown hgrow2 (by have := hB.out.size; simp; omega) (fun j h => by cases h; exact (ho.out.lt g rfl).1)
        clear hgrow2
        go_roundw
        case rel => exact ⟨s.size + 1, s.size + 1, g2, c2, done ++ [s.extract fr s.size], by omega, by omega, HL2.out, by go_num, by go_num, by simp, by rw [← str_snoc, List.length_append]; exact hown2, HF2, HC2⟩
        case measure => simp [intOf]; try omega
    · have HD := Lib.hid (hC.out.done hle)
      have HR := Lib.hid (rowT_own ho.out)
      go_wp2
      go_ret
      exact ⟨_, rfl, by rw [HD.out]; exact HR.out, hB.out⟩
/-- The parts that a text has. -/
def isNone (s : ByteArray) : Bool := s.toList == [110, 111, 110, 101]
def partsB (s : ByteArray) : List ByteArray := if s == ⟨#[110, 111, 110, 101]⟩ then [] else cutB s
def MaxIs (w : World) : Prop := ∃ m, w.cell? ⟨1, 0, none⟩ = some (.int .i64 m)
theorem MaxIs.below {w w' : World} (h : MaxIs w) (hb : Below w.heap.size w w') : MaxIs w' := by
  obtain ⟨m, h1⟩ := h
  exact ⟨m, by rw [hb.cell (cell_lt h1)]; exact h1⟩
theorem implParted (s : ByteArray) (hs : s.size ≤ 1048576) (w : World) (hm : MaxIs w) : Calls Tryd.prog 16 #[.string s] w fun e w' => ∃ v, e = .returned v ∧ RowT w' v (partsB s) ∧ Below w.heap.size w w' := by
  obtain ⟨m, hm⟩ := hm
  have hj := Tryd.strings_Split s ⟨#[44]⟩ m w (by omega) hm (by decide)
  rw [cutB_split, ← cutB_count] at hj
  by_cases hn : s = ⟨#[110, 111, 110, 101]⟩
  · subst hn
    clear hj hm
    go_enter Tryd.func16, Tryd.ntmps16
    go_wp2
    go_ret
    exact ⟨_, rfl, ⟨none, 0, rfl, fun i x h => by cases h⟩, Below.refl _ _⟩
  · have hbl : (s == ⟨#[110, 111, 110, 101]⟩) = false := by
      cases e : (s == (⟨#[110, 111, 110, 101]⟩ : ByteArray))
      · rfl
      · exact absurd (bytes_beq_eq e) hn
    have hbl2 : (s.toList == [110, 111, 110, 101]) = false := by
      have h9 := list_ne hn
      rwa [show (⟨#[110, 111, 110, 101]⟩ : ByteArray).toList = [110, 111, 110, 101] by decide +kernel] at h9
    have HP := Lib.hid (show partsB s = cutB s by unfold partsB; rw [hbl]; rfl)
    have HJ := Lib.hid hj
    clear hj hm
    go_enter Tryd.func16, Tryd.ntmps16
    go_wp2_with (go_at_call 24; refine HJ.out.mono ?_; rintro e w' ⟨rfl, hw⟩; have HW := Lib.hid hw; clear hw)
    go_ret
    refine ⟨_, rfl, ?_, by rw [HW.out]; exact (Below.refl _ _).alloc (Nat.le_refl _) _⟩
    rw [HP.out, HW.out]
    refine ⟨_, _, rfl, fun i x hi => ⟨_, ((cutB s).map Value.string).toArray, (0, 0), rfl, ?_, ?_⟩⟩
    · exact heap_alloc_last w _
    · rw [add_zero]
      simp [hi]
theorem partsB_mem {s x : ByteArray} {k : Nat} (h : (partsB s)[k]? = some x) : x.size ≤ s.size := by
  have hm := List.mem_of_getElem? h
  unfold partsB at hm
  split at hm
  · cases hm
  · exact cutB_mem s x hm
theorem partsB_len (s : ByteArray) : (partsB s).length ≤ s.size + 1 := by
  unfold partsB
  split
  · simp
  · exact cutB_len s
theorem partsB_none : partsB ⟨#[110, 111, 110, 101]⟩ = [] := by unfold partsB; rw [if_pos (by decide)]
theorem not_none {s : ByteArray} (hn : ¬ s = ⟨#[110, 111, 110, 101]⟩) : (s.toList == [110, 111, 110, 101]) = false ∧ partsB s = cutB s := by
  have hbl : (s == ⟨#[110, 111, 110, 101]⟩) = false := by
    cases e : (s == (⟨#[110, 111, 110, 101]⟩ : ByteArray))
    · rfl
    · exact absurd (bytes_beq_eq e) hn
  refine ⟨?_, by unfold partsB; rw [hbl]; rfl⟩
  have h9 := list_ne hn
  rwa [show (⟨#[110, 111, 110, 101]⟩ : ByteArray).toList = [110, 111, 110, 101] by decide +kernel] at h9
theorem own_keep {w w' : World} {B n : Nat} {t : TypeId} {v : Value} {xs : List Value} (h : w.ownsRow B t 1 v n xs) (hb : Below w.heap.size w w') : w'.ownsRow B t 1 v n xs := by
  rcases h.2 with ⟨rfl, rfl⟩ | ⟨g, cap, cur, rfl, _⟩
  · exact ⟨h.1, .inl ⟨rfl, rfl⟩⟩
  · exact own_below h hb
theorem bdrew (w : World) (n : Nat) : Below w.heap.size w (w.drewN n) := Go.below_drewN (Below.refl _ _) n
end Go.Proofs.YtonngkkhefppdaaDoor.Wk
