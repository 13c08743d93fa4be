/- Numbers' bits and their eight digits, walked. -/
import Derived.Test.YtonngkkhefppdaaQs
import Derived.Laws.BitsAllLaws
import Derived.Laws.BytesArg
import Derived.Test.YtonngkkhefppdaaChecked
import Derived.Deep.QuietTactic
import Derived.BigQuiet
import Derived.Below
import Derived.Outline
import Derived.OwnWalk
import Derived.IntWalk
import Derived.Lib.Hide
set_option linter.unusedSimpArgs false
set_option linter.unusedVariables false
namespace Go.Proofs.Ytonngkkhefppdaa.Wk
open Go.RowKit Fl

theorem retBb {a b : Bool} (h : a = b) : Ending.returned (.bool a) = Ending.returned (.bool b) := by rw [h]
theorem retI {k : IntKind} {a b : Int} (h : a = b) : Ending.returned (.int k a) = Ending.returned (.int k b) := by rw [h]
theorem f32bits (x : Nat) (w : World) : (callFunc 29 #[.float .f32 x]).run Try.prog w = .ok (.value (.int .u32 x)) w := by
  rw [run_callFunc_extern Try.func29 (by kernel_rfl) (by kernel_rfl) (by kernel_rfl) (e := Extern.MathFloatBits.float32bits) (by kernel_rfl)]
  rfl
/-! ### bits -/
def bitsN (x : Nat) : Nat := if isN .f32 x then 2143289344 else x
theorem l01Bits (x : Nat) (hx : x < 4294967296) (w : World) : Calls Try.prog 27 #[.float .f32 x] w fun e w' => e = .returned (.int .i64 (bitsN x)) ∧ w = w' := by
  have hb := f32bits x w
  by_cases h : isN .f32 x = true
  · have ho : FloatKind.f32.format.order x x = none := by rw [order_self, h]; rfl
    go_enter Try.func27, Try.ntmps27
    go_wp2
    go_ret
    exact ⟨retI (by unfold bitsN; rw [if_pos h]; rfl), rfl⟩
  · have ho : FloatKind.f32.format.order x x = some .eq := by rw [order_self]; simp [h]
    go_enter Try.func27, Try.ntmps27
    go_wp2
    go_ret
    exact ⟨retI (by unfold bitsN; rw [if_neg h]), rfl⟩
theorem implIsNaN (x : Nat) (w : World) : Calls Try.prog 28 #[.float .f32 x] w fun e w' => e = .returned (.bool (isN .f32 x)) ∧ w = w' := by
  by_cases h : isN .f32 x = true
  · have ho : FloatKind.f32.format.order x x = none := by rw [order_self, h]; rfl
    go_enter Try.func28, Try.ntmps28
    go_wp2
    go_ret
    exact ⟨retBb (by rw [h]; rfl), rfl⟩
  · have ho : FloatKind.f32.format.order x x = some .eq := by rw [order_self]; simp [h]
    go_enter Try.func28, Try.ntmps28
    go_wp2
    go_ret
    exact ⟨retBb (by simp only [Bool.not_eq_true] at h; rw [h]), rfl⟩
theorem implBitsOf (x : Nat) (hx : x < 4294967296) (w : World) : Calls Try.prog 25 #[.float .f32 x] w fun e w' => e = .returned (.int .i64 (bitsN x)) ∧ w = w' := by
  have hb := f32bits x w
  by_cases h : isN .f32 x = true
  · go_enter Try.func25, Try.ntmps25
    go_wp2_with (go_at_call 28; refine (implIsNaN _ _).mono ?_; rintro e w' ⟨rfl, rfl⟩)
    go_ret
    exact ⟨retI (by unfold bitsN; rw [if_pos h]; rfl), rfl⟩
  · go_enter Try.func25, Try.ntmps25
    go_wp2_with (go_at_call 28; refine (implIsNaN _ _).mono ?_; rintro e w' ⟨rfl, rfl⟩)
    go_ret
    exact ⟨retI (by unfold bitsN; rw [if_neg h]), rfl⟩
theorem lt32 {a : Nat} (wa : (Lit.float .f32 a).wf = true) : a < 4294967296 := by simpa [Lit.wf] using wa

theorem retS {a b : ByteArray} (h : a = b) : Ending.returned (.string a) = Ending.returned (.string b) := by rw [h]
/-! ### rows of bytes that a walk makes -/
def nums (xs : List Int) : List Value := xs.map (Value.int .u8)
theorem own_slice {w : World} {base n : Nat} {e : TypeId} {v : Value} {xs : List Value} (h : w.ownsRow base e 1 v n xs) (hn : 0 < n) : ∃ g cap, v = .slice (some ⟨g, 0, none⟩) n cap := by
  rcases h.2 with ⟨_, h2⟩ | ⟨g, cap, cur, rfl, _⟩
  · omega
  · exact ⟨g, cap, rfl⟩
theorem infoB : (Try.prog.info? 5).map (fun i => (i.zero, i.size, i.bytes)) = some (some (.int .u8 0), 1, 1) := by kernel_rfl
theorem own_string {w : World} {base n g cap : Nat} {e' : TypeId} {xs : List Int} (h : w.ownsRow base e' 1 (.slice (some ⟨g, 0, none⟩) n cap) n (nums xs)) : (convert 40 9 (.slice (some ⟨g, 0, none⟩) n cap)).run Try.prog w = .ok (.string (strOfNums xs)) w := by
  have hl : xs.length = n := by have := h.1; simp [nums] at this; exact this
  refine run_convert_bytes_arg w _ _ Try.underlying40 Try.underlying5 g 0 n cap xs hl (fun i hi => ?_) _ Try.underlying9
  rw [h.cellAt (0 + i) (by omega), Nat.zero_add]
  simp [nums, List.getElem?_eq_getElem (show i < xs.length by omega), List.getD_eq_getElem?_getD]
theorem one_cell (w : World) (u : Value) {t : TypeId} : ∀ j x, [u][j]? = some x → (w.alloc (.cells #[u] t)).cell? ((⟨w.heap.size, 0, none⟩ : Addr).add j) = some x := by
  intro j x hx
  cases j with
  | zero => cases hx; simp [Addr.add]
  | succ j => simp at hx
/-- The eight digits. -/
def hexI (d : Nat) : Int := ((([48, 49, 50, 51, 52, 53, 54, 55, 56, 57, 97, 98, 99, 100, 101, 102] : List UInt8).getD d 0).toNat : Int)
theorem hex_lt {d : Nat} (h : d < 16) : d < (⟨#[48, 49, 50, 51, 52, 53, 54, 55, 56, 57, 97, 98, 99, 100, 101, 102]⟩ : ByteArray).size := h
theorem hexI_at (d : Nat) (h : d < 16) : hexI d = (((⟨#[48, 49, 50, 51, 52, 53, 54, 55, 56, 57, 97, 98, 99, 100, 101, 102]⟩ : ByteArray)[d]'(hex_lt h)).toNat : Int) := by
  rcases (show d = 0 ∨ d = 1 ∨ d = 2 ∨ d = 3 ∨ d = 4 ∨ d = 5 ∨ d = 6 ∨ d = 7 ∨ d = 8 ∨ d = 9 ∨ d = 10 ∨ d = 11 ∨ d = 12 ∨ d = 13 ∨ d = 14 ∨ d = 15 by omega) with rfl | rfl | rfl | rfl | rfl | rfl | rfl | rfl | rfl | rfl | rfl | rfl | rfl | rfl | rfl | rfl <;> rfl
def hexD (b k : Nat) : List Int := (List.range k).map fun j => hexI (b / 16 ^ (7 - j) % 16)
theorem hexD_succ (b k : Nat) : hexD b (k + 1) = hexD b k ++ [hexI (b / 16 ^ (7 - k) % 16)] := by unfold hexD; rw [List.range_succ, List.map_append]; rfl
theorem hexD_len (b k : Nat) : (hexD b k).length = k := by simp [hexD]
def hexL (x : Nat) : ByteArray := strOfNums (hexD (bitsN x) 8)
theorem and15 (b m : Nat) (M : Int) (hM : M = (m : Int)) (hb : b < 4294967296) : ∃ d : Nat, bits .and .i64 ((b : Int) / M) 15 = (d : Int) ∧ d < 16 ∧ Hid (b / m % 16 = d) := by
  refine ⟨b / m % 16, ?_, by omega, rfl⟩
  subst hM
  have hd : b / m ≤ b := Nat.div_le_self _ _
  rw [show ((b : Int) / (m : Int)) = ((b / m : Nat) : Int) by simp, show (15 : Int) = ((15 : Nat) : Int) from rfl, i64_and _ _ (by omega) (by omega)]
  congr 1
  exact Nat.and_two_pow_sub_one_eq_mod (b / m) 4
set_option maxRecDepth 20000 in
set_option maxHeartbeats 4000000 in
theorem implHex (x : Nat) (hx : x < 4294967296) (w : World) : Calls Try.prog 18 #[.float .f32 x] w fun e w' => e = .returned (.string (hexL x)) ∧ Below w.heap.size w w' := by
  obtain ⟨i, hi, hz, hs, hb⟩ := info_parts infoB
  have HI := Lib.hid hi
  have HZ1 := Lib.hid hz
  have HS := Lib.hid hs
  have HBy := Lib.hid hb
  clear hi hz hs hb
  have HC := Lib.hid (fun u => implBitsOf x hx u)
  have HX : Hid (hexL x = strOfNums (hexD (bitsN x) 8)) := rfl
  have hbl : bitsN x < 4294967296 := by unfold bitsN; split <;> omega
  generalize bitsN x = b at *
  generalize hexL x = r at *
  go_enter Try.func18, Try.ntmps18
  go_wp2_with fail
  go_loopw [3, 4] (fun p q wr => ∃ (k g c : Nat), k ≤ 8 ∧ q = .int .i64 (28 - 4 * k) ∧ p = .slice (some ⟨g, 0, none⟩) k c ∧ Hid (wr.ownsRow w.heap.size 5 1 (.slice (some ⟨g, 0, none⟩) k c) k (nums (hexD b k))) ∧ Hid (Below w.heap.size w wr)) (fun _ q _ => (intOf q + 4).toNat)
  case atStart => exact ⟨0, w.heap.size, 0, by omega, rfl, rfl, World.ownsRow_lit w #[] 0 (Nat.le_refl _) (Nat.zero_le _) rfl, (Below.refl _ _).alloc (Nat.le_refl _) _⟩
  case round =>
    obtain ⟨k, g, c, hk, rfl, rfl, ho, hB⟩ := hrel
    by_cases hlt : k < 8
    · rcases (show k = 0 ∨ k = 1 ∨ k = 2 ∨ k = 3 ∨ k = 4 ∨ k = 5 ∨ k = 6 ∨ k = 7 by omega) with rfl | rfl | rfl | rfl | rfl | rfl | rfl | rfl
      · obtain ⟨d, hd, hd16, HE⟩ := and15 b 268435456 268435456 rfl hbl
        have HZ := Lib.hid (show nums (hexD b 1) = nums (hexD b 0) ++ [Value.int .u8 ((⟨#[48, 49, 50, 51, 52, 53, 54, 55, 56, 57, 97, 98, 99, 100, 101, 102]⟩ : ByteArray)[d]'(hex_lt hd16)).toNat] by
          rw [hexD_succ, show b / 16 ^ (7 - 0) % 16 = d from HE.out, hexI_at d hd16]; simp [nums])
        clear HE
        go_wp2_with (first | (go_at_call 25; refine (HC.out _).mono ?_; rintro e w1 ⟨rfl, rfl⟩) | (at_builtin; refine wpList_append_own _ rfl _ _ 40 rfl w.heap.size 5 i (.int .u8 0) 1 1 Try.underlying40 HI.out HZ1.out HS.out HBy.out rfl (by omega) _ 0 _ rfl (ho.out.alloc _) ⟨_, 0, none⟩ 1 _ [_] rfl rfl (one_cell _ _) (by intro u hu; rw [List.mem_singleton.1 hu]; rfl) (by unfold maxLen; omega) (by omega) (by have := hB.out.size; simp; omega) ?_; intro v2 w2 hown2 hgrow2 _; obtain ⟨g2, c2, rfl⟩ := own_slice hown2 (by omega)))
        have HF2 : Hid (Below w.heap.size w w2) := (hB.out.alloc hB.out.size _).grown hgrow2 (by have := hB.out.size; simp; omega) (fun j h => by cases h; exact (ho.out.lt g rfl).1)
        clear hgrow2
        go_roundw
        case rel => exact ⟨1, g2, c2, by omega, by go_num, rfl, by rw [HZ.out]; exact hown2, HF2⟩
        case measure => simp [intOf]
      · obtain ⟨d, hd, hd16, HE⟩ := and15 b 16777216 16777216 rfl hbl
        have HZ := Lib.hid (show nums (hexD b 2) = nums (hexD b 1) ++ [Value.int .u8 ((⟨#[48, 49, 50, 51, 52, 53, 54, 55, 56, 57, 97, 98, 99, 100, 101, 102]⟩ : ByteArray)[d]'(hex_lt hd16)).toNat] by
          rw [hexD_succ, show b / 16 ^ (7 - 1) % 16 = d from HE.out, hexI_at d hd16]; simp [nums])
        clear HE
        go_wp2_with (first | (go_at_call 25; refine (HC.out _).mono ?_; rintro e w1 ⟨rfl, rfl⟩) | (at_builtin; refine wpList_append_own _ rfl _ _ 40 rfl w.heap.size 5 i (.int .u8 0) 1 1 Try.underlying40 HI.out HZ1.out HS.out HBy.out rfl (by omega) _ 1 _ rfl (ho.out.alloc _) ⟨_, 0, none⟩ 1 _ [_] rfl rfl (one_cell _ _) (by intro u hu; rw [List.mem_singleton.1 hu]; rfl) (by unfold maxLen; omega) (by omega) (by have := hB.out.size; simp; omega) ?_; intro v2 w2 hown2 hgrow2 _; obtain ⟨g2, c2, rfl⟩ := own_slice hown2 (by omega)))
        have HF2 : Hid (Below w.heap.size w w2) := (hB.out.alloc hB.out.size _).grown hgrow2 (by have := hB.out.size; simp; omega) (fun j h => by cases h; exact (ho.out.lt g rfl).1)
        clear hgrow2
        go_roundw
        case rel => exact ⟨2, g2, c2, by omega, by go_num, rfl, by rw [HZ.out]; exact hown2, HF2⟩
        case measure => simp [intOf]
      · obtain ⟨d, hd, hd16, HE⟩ := and15 b 1048576 1048576 rfl hbl
        have HZ := Lib.hid (show nums (hexD b 3) = nums (hexD b 2) ++ [Value.int .u8 ((⟨#[48, 49, 50, 51, 52, 53, 54, 55, 56, 57, 97, 98, 99, 100, 101, 102]⟩ : ByteArray)[d]'(hex_lt hd16)).toNat] by
          rw [hexD_succ, show b / 16 ^ (7 - 2) % 16 = d from HE.out, hexI_at d hd16]; simp [nums])
        clear HE
        go_wp2_with (first | (go_at_call 25; refine (HC.out _).mono ?_; rintro e w1 ⟨rfl, rfl⟩) | (at_builtin; refine wpList_append_own _ rfl _ _ 40 rfl w.heap.size 5 i (.int .u8 0) 1 1 Try.underlying40 HI.out HZ1.out HS.out HBy.out rfl (by omega) _ 2 _ rfl (ho.out.alloc _) ⟨_, 0, none⟩ 1 _ [_] rfl rfl (one_cell _ _) (by intro u hu; rw [List.mem_singleton.1 hu]; rfl) (by unfold maxLen; omega) (by omega) (by have := hB.out.size; simp; omega) ?_; intro v2 w2 hown2 hgrow2 _; obtain ⟨g2, c2, rfl⟩ := own_slice hown2 (by omega)))
        have HF2 : Hid (Below w.heap.size w w2) := (hB.out.alloc hB.out.size _).grown hgrow2 (by have := hB.out.size; simp; omega) (fun j h => by cases h; exact (ho.out.lt g rfl).1)
        clear hgrow2
        go_roundw
        case rel => exact ⟨3, g2, c2, by omega, by go_num, rfl, by rw [HZ.out]; exact hown2, HF2⟩
        case measure => simp [intOf]
      · obtain ⟨d, hd, hd16, HE⟩ := and15 b 65536 65536 rfl hbl
        have HZ := Lib.hid (show nums (hexD b 4) = nums (hexD b 3) ++ [Value.int .u8 ((⟨#[48, 49, 50, 51, 52, 53, 54, 55, 56, 57, 97, 98, 99, 100, 101, 102]⟩ : ByteArray)[d]'(hex_lt hd16)).toNat] by
          rw [hexD_succ, show b / 16 ^ (7 - 3) % 16 = d from HE.out, hexI_at d hd16]; simp [nums])
        clear HE
        go_wp2_with (first | (go_at_call 25; refine (HC.out _).mono ?_; rintro e w1 ⟨rfl, rfl⟩) | (at_builtin; refine wpList_append_own _ rfl _ _ 40 rfl w.heap.size 5 i (.int .u8 0) 1 1 Try.underlying40 HI.out HZ1.out HS.out HBy.out rfl (by omega) _ 3 _ rfl (ho.out.alloc _) ⟨_, 0, none⟩ 1 _ [_] rfl rfl (one_cell _ _) (by intro u hu; rw [List.mem_singleton.1 hu]; rfl) (by unfold maxLen; omega) (by omega) (by have := hB.out.size; simp; omega) ?_; intro v2 w2 hown2 hgrow2 _; obtain ⟨g2, c2, rfl⟩ := own_slice hown2 (by omega)))
        have HF2 : Hid (Below w.heap.size w w2) := (hB.out.alloc hB.out.size _).grown hgrow2 (by have := hB.out.size; simp; omega) (fun j h => by cases h; exact (ho.out.lt g rfl).1)
        clear hgrow2
        go_roundw
        case rel => exact ⟨4, g2, c2, by omega, by go_num, rfl, by rw [HZ.out]; exact hown2, HF2⟩
        case measure => simp [intOf]
      · obtain ⟨d, hd, hd16, HE⟩ := and15 b 4096 4096 rfl hbl
        have HZ := Lib.hid (show nums (hexD b 5) = nums (hexD b 4) ++ [Value.int .u8 ((⟨#[48, 49, 50, 51, 52, 53, 54, 55, 56, 57, 97, 98, 99, 100, 101, 102]⟩ : ByteArray)[d]'(hex_lt hd16)).toNat] by
          rw [hexD_succ, show b / 16 ^ (7 - 4) % 16 = d from HE.out, hexI_at d hd16]; simp [nums])
        clear HE
        go_wp2_with (first | (go_at_call 25; refine (HC.out _).mono ?_; rintro e w1 ⟨rfl, rfl⟩) | (at_builtin; refine wpList_append_own _ rfl _ _ 40 rfl w.heap.size 5 i (.int .u8 0) 1 1 Try.underlying40 HI.out HZ1.out HS.out HBy.out rfl (by omega) _ 4 _ rfl (ho.out.alloc _) ⟨_, 0, none⟩ 1 _ [_] rfl rfl (one_cell _ _) (by intro u hu; rw [List.mem_singleton.1 hu]; rfl) (by unfold maxLen; omega) (by omega) (by have := hB.out.size; simp; omega) ?_; intro v2 w2 hown2 hgrow2 _; obtain ⟨g2, c2, rfl⟩ := own_slice hown2 (by omega)))
        have HF2 : Hid (Below w.heap.size w w2) := (hB.out.alloc hB.out.size _).grown hgrow2 (by have := hB.out.size; simp; omega) (fun j h => by cases h; exact (ho.out.lt g rfl).1)
        clear hgrow2
        go_roundw
        case rel => exact ⟨5, g2, c2, by omega, by go_num, rfl, by rw [HZ.out]; exact hown2, HF2⟩
        case measure => simp [intOf]
      · obtain ⟨d, hd, hd16, HE⟩ := and15 b 256 256 rfl hbl
        have HZ := Lib.hid (show nums (hexD b 6) = nums (hexD b 5) ++ [Value.int .u8 ((⟨#[48, 49, 50, 51, 52, 53, 54, 55, 56, 57, 97, 98, 99, 100, 101, 102]⟩ : ByteArray)[d]'(hex_lt hd16)).toNat] by
          rw [hexD_succ, show b / 16 ^ (7 - 5) % 16 = d from HE.out, hexI_at d hd16]; simp [nums])
        clear HE
        go_wp2_with (first | (go_at_call 25; refine (HC.out _).mono ?_; rintro e w1 ⟨rfl, rfl⟩) | (at_builtin; refine wpList_append_own _ rfl _ _ 40 rfl w.heap.size 5 i (.int .u8 0) 1 1 Try.underlying40 HI.out HZ1.out HS.out HBy.out rfl (by omega) _ 5 _ rfl (ho.out.alloc _) ⟨_, 0, none⟩ 1 _ [_] rfl rfl (one_cell _ _) (by intro u hu; rw [List.mem_singleton.1 hu]; rfl) (by unfold maxLen; omega) (by omega) (by have := hB.out.size; simp; omega) ?_; intro v2 w2 hown2 hgrow2 _; obtain ⟨g2, c2, rfl⟩ := own_slice hown2 (by omega)))
        have HF2 : Hid (Below w.heap.size w w2) := (hB.out.alloc hB.out.size _).grown hgrow2 (by have := hB.out.size; simp; omega) (fun j h => by cases h; exact (ho.out.lt g rfl).1)
        clear hgrow2
        go_roundw
        case rel => exact ⟨6, g2, c2, by omega, by go_num, rfl, by rw [HZ.out]; exact hown2, HF2⟩
        case measure => simp [intOf]
      · obtain ⟨d, hd, hd16, HE⟩ := and15 b 16 16 rfl hbl
        have HZ := Lib.hid (show nums (hexD b 7) = nums (hexD b 6) ++ [Value.int .u8 ((⟨#[48, 49, 50, 51, 52, 53, 54, 55, 56, 57, 97, 98, 99, 100, 101, 102]⟩ : ByteArray)[d]'(hex_lt hd16)).toNat] by
          rw [hexD_succ, show b / 16 ^ (7 - 6) % 16 = d from HE.out, hexI_at d hd16]; simp [nums])
        clear HE
        go_wp2_with (first | (go_at_call 25; refine (HC.out _).mono ?_; rintro e w1 ⟨rfl, rfl⟩) | (at_builtin; refine wpList_append_own _ rfl _ _ 40 rfl w.heap.size 5 i (.int .u8 0) 1 1 Try.underlying40 HI.out HZ1.out HS.out HBy.out rfl (by omega) _ 6 _ rfl (ho.out.alloc _) ⟨_, 0, none⟩ 1 _ [_] rfl rfl (one_cell _ _) (by intro u hu; rw [List.mem_singleton.1 hu]; rfl) (by unfold maxLen; omega) (by omega) (by have := hB.out.size; simp; omega) ?_; intro v2 w2 hown2 hgrow2 _; obtain ⟨g2, c2, rfl⟩ := own_slice hown2 (by omega)))
        have HF2 : Hid (Below w.heap.size w w2) := (hB.out.alloc hB.out.size _).grown hgrow2 (by have := hB.out.size; simp; omega) (fun j h => by cases h; exact (ho.out.lt g rfl).1)
        clear hgrow2
        go_roundw
        case rel => exact ⟨7, g2, c2, by omega, by go_num, rfl, by rw [HZ.out]; exact hown2, HF2⟩
        case measure => simp [intOf]
      · obtain ⟨d, hd, hd16, HE⟩ := and15 b 1 1 rfl hbl
        have HZ := Lib.hid (show nums (hexD b 8) = nums (hexD b 7) ++ [Value.int .u8 ((⟨#[48, 49, 50, 51, 52, 53, 54, 55, 56, 57, 97, 98, 99, 100, 101, 102]⟩ : ByteArray)[d]'(hex_lt hd16)).toNat] by
          rw [hexD_succ, show b / 16 ^ (7 - 7) % 16 = d from HE.out, hexI_at d hd16]; simp [nums])
        rw [Int.ediv_one] at hd
        clear HE
        go_wp2_with (first | (go_at_call 25; refine (HC.out _).mono ?_; rintro e w1 ⟨rfl, rfl⟩) | (at_builtin; refine wpList_append_own _ rfl _ _ 40 rfl w.heap.size 5 i (.int .u8 0) 1 1 Try.underlying40 HI.out HZ1.out HS.out HBy.out rfl (by omega) _ 7 _ rfl (ho.out.alloc _) ⟨_, 0, none⟩ 1 _ [_] rfl rfl (one_cell _ _) (by intro u hu; rw [List.mem_singleton.1 hu]; rfl) (by unfold maxLen; omega) (by omega) (by have := hB.out.size; simp; omega) ?_; intro v2 w2 hown2 hgrow2 _; obtain ⟨g2, c2, rfl⟩ := own_slice hown2 (by omega)))
        have HF2 : Hid (Below w.heap.size w w2) := (hB.out.alloc hB.out.size _).grown hgrow2 (by have := hB.out.size; simp; omega) (fun j h => by cases h; exact (ho.out.lt g rfl).1)
        clear hgrow2
        go_roundw
        case rel => exact ⟨8, g2, c2, by omega, by go_num, rfl, by rw [HZ.out]; exact hown2, HF2⟩
        case measure => simp [intOf]
    · obtain rfl : k = 8 := by omega
      have HOW := Lib.hid (own_string (w := wr) ho.out)
      have hos := HOW.out
      clear hlt
      go_wp2
      go_ret
      exact ⟨retS (by rw [HX.out]), hB.out⟩
set_option maxRecDepth 20000 in
set_option maxHeartbeats 4000000 in
theorem specHex (x : Nat) (hx : x < 4294967296) (w : World) : Calls Try.prog 24 #[.float .f32 x] w fun e w' => e = .returned (.string (hexL x)) ∧ Below w.heap.size w w' := by
  obtain ⟨i, hi, hz, hs, hb⟩ := info_parts infoB
  have HI := Lib.hid hi
  have HZ1 := Lib.hid hz
  have HS := Lib.hid hs
  have HBy := Lib.hid hb
  clear hi hz hs hb
  have HC := Lib.hid (fun u => l01Bits x hx u)
  have HX : Hid (hexL x = strOfNums (hexD (bitsN x) 8)) := rfl
  have hbl : bitsN x < 4294967296 := by unfold bitsN; split <;> omega
  generalize bitsN x = b at *
  generalize hexL x = r at *
  go_enter Try.func24, Try.ntmps24
  go_wp2_with (first | (go_at_call 27; refine (HC.out _).mono ?_; rintro e w1 ⟨rfl, rfl⟩))
  go_loopw [4, 5] (fun p q wr => ∃ (k g c : Nat), k ≤ 8 ∧ q = .int .i64 (28 - 4 * k) ∧ p = .slice (some ⟨g, 0, none⟩) k c ∧ Hid (wr.ownsRow w.heap.size 5 1 (.slice (some ⟨g, 0, none⟩) k c) k (nums (hexD b k))) ∧ Hid (Below w.heap.size w wr)) (fun _ q _ => (intOf q + 4).toNat)
  case atStart => exact ⟨0, w.heap.size, 0, by omega, rfl, rfl, World.ownsRow_lit w #[] 0 (Nat.le_refl _) (Nat.zero_le _) rfl, (Below.refl _ _).alloc (Nat.le_refl _) _⟩
  case round =>
    obtain ⟨k, g, c, hk, rfl, rfl, ho, hB⟩ := hrel
    by_cases hlt : k < 8
    · rcases (show k = 0 ∨ k = 1 ∨ k = 2 ∨ k = 3 ∨ k = 4 ∨ k = 5 ∨ k = 6 ∨ k = 7 by omega) with rfl | rfl | rfl | rfl | rfl | rfl | rfl | rfl
      · obtain ⟨d, hd, hd16, HE⟩ := and15 b 268435456 268435456 rfl hbl
        have HZ := Lib.hid (show nums (hexD b 1) = nums (hexD b 0) ++ [Value.int .u8 ((⟨#[48, 49, 50, 51, 52, 53, 54, 55, 56, 57, 97, 98, 99, 100, 101, 102]⟩ : ByteArray)[d]'(hex_lt hd16)).toNat] by
          rw [hexD_succ, show b / 16 ^ (7 - 0) % 16 = d from HE.out, hexI_at d hd16]; simp [nums])
        clear HE
        go_wp2_with (first | (at_builtin; refine wpList_append_own _ rfl _ _ 40 rfl w.heap.size 5 i (.int .u8 0) 1 1 Try.underlying40 HI.out HZ1.out HS.out HBy.out rfl (by omega) _ 0 _ rfl (ho.out.alloc _) ⟨_, 0, none⟩ 1 _ [_] rfl rfl (one_cell _ _) (by intro u hu; rw [List.mem_singleton.1 hu]; rfl) (by unfold maxLen; omega) (by omega) (by have := hB.out.size; simp; omega) ?_; intro v2 w2 hown2 hgrow2 _; obtain ⟨g2, c2, rfl⟩ := own_slice hown2 (by omega)))
        have HF2 : Hid (Below w.heap.size w w2) := (hB.out.alloc hB.out.size _).grown hgrow2 (by have := hB.out.size; simp; omega) (fun j h => by cases h; exact (ho.out.lt g rfl).1)
        clear hgrow2
        go_roundw
        case rel => exact ⟨1, g2, c2, by omega, by go_num, rfl, by rw [HZ.out]; exact hown2, HF2⟩
        case measure => simp [intOf]
      · obtain ⟨d, hd, hd16, HE⟩ := and15 b 16777216 16777216 rfl hbl
        have HZ := Lib.hid (show nums (hexD b 2) = nums (hexD b 1) ++ [Value.int .u8 ((⟨#[48, 49, 50, 51, 52, 53, 54, 55, 56, 57, 97, 98, 99, 100, 101, 102]⟩ : ByteArray)[d]'(hex_lt hd16)).toNat] by
          rw [hexD_succ, show b / 16 ^ (7 - 1) % 16 = d from HE.out, hexI_at d hd16]; simp [nums])
        clear HE
        go_wp2_with (first | (at_builtin; refine wpList_append_own _ rfl _ _ 40 rfl w.heap.size 5 i (.int .u8 0) 1 1 Try.underlying40 HI.out HZ1.out HS.out HBy.out rfl (by omega) _ 1 _ rfl (ho.out.alloc _) ⟨_, 0, none⟩ 1 _ [_] rfl rfl (one_cell _ _) (by intro u hu; rw [List.mem_singleton.1 hu]; rfl) (by unfold maxLen; omega) (by omega) (by have := hB.out.size; simp; omega) ?_; intro v2 w2 hown2 hgrow2 _; obtain ⟨g2, c2, rfl⟩ := own_slice hown2 (by omega)))
        have HF2 : Hid (Below w.heap.size w w2) := (hB.out.alloc hB.out.size _).grown hgrow2 (by have := hB.out.size; simp; omega) (fun j h => by cases h; exact (ho.out.lt g rfl).1)
        clear hgrow2
        go_roundw
        case rel => exact ⟨2, g2, c2, by omega, by go_num, rfl, by rw [HZ.out]; exact hown2, HF2⟩
        case measure => simp [intOf]
      · obtain ⟨d, hd, hd16, HE⟩ := and15 b 1048576 1048576 rfl hbl
        have HZ := Lib.hid (show nums (hexD b 3) = nums (hexD b 2) ++ [Value.int .u8 ((⟨#[48, 49, 50, 51, 52, 53, 54, 55, 56, 57, 97, 98, 99, 100, 101, 102]⟩ : ByteArray)[d]'(hex_lt hd16)).toNat] by
          rw [hexD_succ, show b / 16 ^ (7 - 2) % 16 = d from HE.out, hexI_at d hd16]; simp [nums])
        clear HE
        go_wp2_with (first | (at_builtin; refine wpList_append_own _ rfl _ _ 40 rfl w.heap.size 5 i (.int .u8 0) 1 1 Try.underlying40 HI.out HZ1.out HS.out HBy.out rfl (by omega) _ 2 _ rfl (ho.out.alloc _) ⟨_, 0, none⟩ 1 _ [_] rfl rfl (one_cell _ _) (by intro u hu; rw [List.mem_singleton.1 hu]; rfl) (by unfold maxLen; omega) (by omega) (by have := hB.out.size; simp; omega) ?_; intro v2 w2 hown2 hgrow2 _; obtain ⟨g2, c2, rfl⟩ := own_slice hown2 (by omega)))
        have HF2 : Hid (Below w.heap.size w w2) := (hB.out.alloc hB.out.size _).grown hgrow2 (by have := hB.out.size; simp; omega) (fun j h => by cases h; exact (ho.out.lt g rfl).1)
        clear hgrow2
        go_roundw
        case rel => exact ⟨3, g2, c2, by omega, by go_num, rfl, by rw [HZ.out]; exact hown2, HF2⟩
        case measure => simp [intOf]
      · obtain ⟨d, hd, hd16, HE⟩ := and15 b 65536 65536 rfl hbl
        have HZ := Lib.hid (show nums (hexD b 4) = nums (hexD b 3) ++ [Value.int .u8 ((⟨#[48, 49, 50, 51, 52, 53, 54, 55, 56, 57, 97, 98, 99, 100, 101, 102]⟩ : ByteArray)[d]'(hex_lt hd16)).toNat] by
          rw [hexD_succ, show b / 16 ^ (7 - 3) % 16 = d from HE.out, hexI_at d hd16]; simp [nums])
        clear HE
        go_wp2_with (first | (at_builtin; refine wpList_append_own _ rfl _ _ 40 rfl w.heap.size 5 i (.int .u8 0) 1 1 Try.underlying40 HI.out HZ1.out HS.out HBy.out rfl (by omega) _ 3 _ rfl (ho.out.alloc _) ⟨_, 0, none⟩ 1 _ [_] rfl rfl (one_cell _ _) (by intro u hu; rw [List.mem_singleton.1 hu]; rfl) (by unfold maxLen; omega) (by omega) (by have := hB.out.size; simp; omega) ?_; intro v2 w2 hown2 hgrow2 _; obtain ⟨g2, c2, rfl⟩ := own_slice hown2 (by omega)))
        have HF2 : Hid (Below w.heap.size w w2) := (hB.out.alloc hB.out.size _).grown hgrow2 (by have := hB.out.size; simp; omega) (fun j h => by cases h; exact (ho.out.lt g rfl).1)
        clear hgrow2
        go_roundw
        case rel => exact ⟨4, g2, c2, by omega, by go_num, rfl, by rw [HZ.out]; exact hown2, HF2⟩
        case measure => simp [intOf]
      · obtain ⟨d, hd, hd16, HE⟩ := and15 b 4096 4096 rfl hbl
        have HZ := Lib.hid (show nums (hexD b 5) = nums (hexD b 4) ++ [Value.int .u8 ((⟨#[48, 49, 50, 51, 52, 53, 54, 55, 56, 57, 97, 98, 99, 100, 101, 102]⟩ : ByteArray)[d]'(hex_lt hd16)).toNat] by
          rw [hexD_succ, show b / 16 ^ (7 - 4) % 16 = d from HE.out, hexI_at d hd16]; simp [nums])
        clear HE
        go_wp2_with (first | (at_builtin; refine wpList_append_own _ rfl _ _ 40 rfl w.heap.size 5 i (.int .u8 0) 1 1 Try.underlying40 HI.out HZ1.out HS.out HBy.out rfl (by omega) _ 4 _ rfl (ho.out.alloc _) ⟨_, 0, none⟩ 1 _ [_] rfl rfl (one_cell _ _) (by intro u hu; rw [List.mem_singleton.1 hu]; rfl) (by unfold maxLen; omega) (by omega) (by have := hB.out.size; simp; omega) ?_; intro v2 w2 hown2 hgrow2 _; obtain ⟨g2, c2, rfl⟩ := own_slice hown2 (by omega)))
        have HF2 : Hid (Below w.heap.size w w2) := (hB.out.alloc hB.out.size _).grown hgrow2 (by have := hB.out.size; simp; omega) (fun j h => by cases h; exact (ho.out.lt g rfl).1)
        clear hgrow2
        go_roundw
        case rel => exact ⟨5, g2, c2, by omega, by go_num, rfl, by rw [HZ.out]; exact hown2, HF2⟩
        case measure => simp [intOf]
      · obtain ⟨d, hd, hd16, HE⟩ := and15 b 256 256 rfl hbl
        have HZ := Lib.hid (show nums (hexD b 6) = nums (hexD b 5) ++ [Value.int .u8 ((⟨#[48, 49, 50, 51, 52, 53, 54, 55, 56, 57, 97, 98, 99, 100, 101, 102]⟩ : ByteArray)[d]'(hex_lt hd16)).toNat] by
          rw [hexD_succ, show b / 16 ^ (7 - 5) % 16 = d from HE.out, hexI_at d hd16]; simp [nums])
        clear HE
        go_wp2_with (first | (at_builtin; refine wpList_append_own _ rfl _ _ 40 rfl w.heap.size 5 i (.int .u8 0) 1 1 Try.underlying40 HI.out HZ1.out HS.out HBy.out rfl (by omega) _ 5 _ rfl (ho.out.alloc _) ⟨_, 0, none⟩ 1 _ [_] rfl rfl (one_cell _ _) (by intro u hu; rw [List.mem_singleton.1 hu]; rfl) (by unfold maxLen; omega) (by omega) (by have := hB.out.size; simp; omega) ?_; intro v2 w2 hown2 hgrow2 _; obtain ⟨g2, c2, rfl⟩ := own_slice hown2 (by omega)))
        have HF2 : Hid (Below w.heap.size w w2) := (hB.out.alloc hB.out.size _).grown hgrow2 (by have := hB.out.size; simp; omega) (fun j h => by cases h; exact (ho.out.lt g rfl).1)
        clear hgrow2
        go_roundw
        case rel => exact ⟨6, g2, c2, by omega, by go_num, rfl, by rw [HZ.out]; exact hown2, HF2⟩
        case measure => simp [intOf]
      · obtain ⟨d, hd, hd16, HE⟩ := and15 b 16 16 rfl hbl
        have HZ := Lib.hid (show nums (hexD b 7) = nums (hexD b 6) ++ [Value.int .u8 ((⟨#[48, 49, 50, 51, 52, 53, 54, 55, 56, 57, 97, 98, 99, 100, 101, 102]⟩ : ByteArray)[d]'(hex_lt hd16)).toNat] by
          rw [hexD_succ, show b / 16 ^ (7 - 6) % 16 = d from HE.out, hexI_at d hd16]; simp [nums])
        clear HE
        go_wp2_with (first | (at_builtin; refine wpList_append_own _ rfl _ _ 40 rfl w.heap.size 5 i (.int .u8 0) 1 1 Try.underlying40 HI.out HZ1.out HS.out HBy.out rfl (by omega) _ 6 _ rfl (ho.out.alloc _) ⟨_, 0, none⟩ 1 _ [_] rfl rfl (one_cell _ _) (by intro u hu; rw [List.mem_singleton.1 hu]; rfl) (by unfold maxLen; omega) (by omega) (by have := hB.out.size; simp; omega) ?_; intro v2 w2 hown2 hgrow2 _; obtain ⟨g2, c2, rfl⟩ := own_slice hown2 (by omega)))
        have HF2 : Hid (Below w.heap.size w w2) := (hB.out.alloc hB.out.size _).grown hgrow2 (by have := hB.out.size; simp; omega) (fun j h => by cases h; exact (ho.out.lt g rfl).1)
        clear hgrow2
        go_roundw
        case rel => exact ⟨7, g2, c2, by omega, by go_num, rfl, by rw [HZ.out]; exact hown2, HF2⟩
        case measure => simp [intOf]
      · obtain ⟨d, hd, hd16, HE⟩ := and15 b 1 1 rfl hbl
        have HZ := Lib.hid (show nums (hexD b 8) = nums (hexD b 7) ++ [Value.int .u8 ((⟨#[48, 49, 50, 51, 52, 53, 54, 55, 56, 57, 97, 98, 99, 100, 101, 102]⟩ : ByteArray)[d]'(hex_lt hd16)).toNat] by
          rw [hexD_succ, show b / 16 ^ (7 - 7) % 16 = d from HE.out, hexI_at d hd16]; simp [nums])
        rw [Int.ediv_one] at hd
        clear HE
        go_wp2_with (first | (at_builtin; refine wpList_append_own _ rfl _ _ 40 rfl w.heap.size 5 i (.int .u8 0) 1 1 Try.underlying40 HI.out HZ1.out HS.out HBy.out rfl (by omega) _ 7 _ rfl (ho.out.alloc _) ⟨_, 0, none⟩ 1 _ [_] rfl rfl (one_cell _ _) (by intro u hu; rw [List.mem_singleton.1 hu]; rfl) (by unfold maxLen; omega) (by omega) (by have := hB.out.size; simp; omega) ?_; intro v2 w2 hown2 hgrow2 _; obtain ⟨g2, c2, rfl⟩ := own_slice hown2 (by omega)))
        have HF2 : Hid (Below w.heap.size w w2) := (hB.out.alloc hB.out.size _).grown hgrow2 (by have := hB.out.size; simp; omega) (fun j h => by cases h; exact (ho.out.lt g rfl).1)
        clear hgrow2
        go_roundw
        case rel => exact ⟨8, g2, c2, by omega, by go_num, rfl, by rw [HZ.out]; exact hown2, HF2⟩
        case measure => simp [intOf]
    · obtain rfl : k = 8 := by omega
      have HOW := Lib.hid (own_string (w := wr) ho.out)
      have hos := HOW.out
      clear hlt
      go_wp2
      go_ret
      exact ⟨retS (by rw [HX.out]), hB.out⟩
end Go.Proofs.Ytonngkkhefppdaa.Wk
