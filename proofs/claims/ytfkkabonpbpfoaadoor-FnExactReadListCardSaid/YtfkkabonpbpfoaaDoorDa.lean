/- The decimal text of the reference: its loop, and what it says. -/
import Derived.Test.YtfkkabonpbpfoaaDoorChecked
import Derived.Laws.BytesArg
import Derived.Lib.ItoaNum
import Derived.Deep.QuietTactic
import Derived.BigQuiet
import Derived.Below
import Derived.Outline
import Derived.OwnWalk
import Derived.IntWalk
import Derived.Laws.Unary
import Derived.Lib.Hide
set_option linter.unusedSimpArgs false
set_option linter.unusedVariables false
namespace Go.Proofs.YtfkkabonpbpfoaaDoor.Wk
open Go.RowKit

theorem retS {a b : ByteArray} (h : a = b) : Ending.returned (.string a) = Ending.returned (.string b) := by rw [h]
/-! ### Numbers alone -/
theorem nDigits_le : ∀ (k u : Nat), u < 10 ^ (k + 1) → Lib.nDigits u ≤ k + 1
  | 0, u, h => by rw [Lib.nDigits_small (by simpa using h)]; omega
  | k + 1, u, h => by
    by_cases g : u < 10
    · rw [Lib.nDigits_small g]; omega
    · rw [Lib.nDigits_big g]
      have := nDigits_le k (u / 10) (by rw [Nat.pow_succ] at h; omega)
      omega
theorem dec_len {u : Nat} (h : u ≤ 9223372036854775808) : (Lib.decDigits u).length ≤ 20 := by
  rw [Lib.decDigits_length]; exact nDigits_le 19 u (by omega)
def digit (R : Int) : Int := 48 + (if Int.tmod R 10 < 0 then -Int.tmod R 10 else Int.tmod R 10)
theorem digit_eq (R : Int) : digit R = ((48 + R.natAbs % 10 : Nat) : Int) := by
  unfold digit
  have h1 : Int.tmod R 10 = if R < 0 then -((R.natAbs % 10 : Nat) : Int) else ((R.natAbs % 10 : Nat) : Int) := by
    rcases Int.lt_or_le R 0 with g | g
    · rw [if_pos g]
      obtain ⟨m, rfl⟩ : ∃ m : Nat, R = -(m : Int) := ⟨R.natAbs, by omega⟩
      rw [Int.neg_tmod, Int.natAbs_neg, Int.natAbs_natCast]
      rw [Int.tmod_eq_emod_of_nonneg (by omega)]; omega
    · rw [if_neg (by omega)]
      rw [Int.tmod_eq_emod_of_nonneg g]; omega
  rw [h1]
  rcases Int.lt_or_le R 0 with g | g
  · rw [if_pos g]; split <;> omega
  · rw [if_neg (by omega)]; split <;> omega
theorem tdiv_abs (R : Int) : (Int.tdiv R 10).natAbs = R.natAbs / 10 := Int.natAbs_tdiv R 10
/-- What stands so far, and what is left. -/
def DecI (n : Int) (ds : List Int) (R : Int) : Prop :=
  (ds = [] ∧ R = n) ∨ (ds ≠ [] ∧ (Lib.decDigits n.natAbs).map (fun b => ((b.toNat : Nat) : Int)) = (if R = 0 then [] else (Lib.decDigits R.natAbs).map (fun b => ((b.toNat : Nat) : Int))) ++ ds)
theorem DecI.step {n : Int} {ds : List Int} {R : Int} (h : DecI n ds R) (hc : ds = [] ∨ R ≠ 0) : DecI n (digit R :: ds) (Int.tdiv R 10) := by
  refine .inr ⟨by simp, ?_⟩
  have hb : ∀ m : Nat, m < 10 → ((UInt8.ofNat (48 + m)).toNat : Int) = ((48 + m : Nat) : Int) := fun m hm => by
    have : (UInt8.ofNat (48 + m)).toNat = 48 + m := by rw [UInt8.toNat_ofNat']; omega
    rw [this]
  have key : (Lib.decDigits R.natAbs).map (fun b => ((b.toNat : Nat) : Int)) = (if Int.tdiv R 10 = 0 then [] else (Lib.decDigits (Int.tdiv R 10).natAbs).map (fun b => ((b.toNat : Nat) : Int))) ++ [digit R] := by
    rw [tdiv_abs, digit_eq]
    have hz : Int.tdiv R 10 = 0 ↔ R.natAbs < 10 := by
      have := tdiv_abs R; omega
    by_cases g : R.natAbs < 10
    · rw [if_pos (hz.2 g), Lib.decDigits, dif_pos g]
      simp only [List.map_cons, List.map_nil, hb _ g, Nat.mod_eq_of_lt g, List.nil_append]
    · rw [if_neg (fun c => g (hz.1 c))]
      conv => lhs; rw [Lib.decDigits, dif_neg g]
      simp only [List.map_append, List.map_cons, List.map_nil, hb (R.natAbs % 10) (Nat.mod_lt _ (by omega))]
  rcases h with ⟨rfl, rfl⟩ | ⟨hne, he⟩
  · exact key
  · rcases hc with rfl | hR
    · exact absurd rfl hne
    · rw [he, if_neg hR, key]; simp
theorem DecI.done {n : Int} {ds : List Int} (h : DecI n ds 0) (hne : ds ≠ []) : ds = (Lib.decDigits n.natAbs).map (fun b => ((b.toNat : Nat) : Int)) := by
  rcases h with ⟨e, _⟩ | ⟨_, he⟩
  · exact absurd e hne
  · rw [he]; simp
theorem DecI.len {n : Int} {ds : List Int} {R : Int} (h : DecI n ds R) (hn : n.natAbs ≤ 9223372036854775808) : ds.length ≤ 20 := by
  rcases h with ⟨rfl, _⟩ | ⟨_, he⟩
  · simp
  · have h1 := dec_len hn
    have h2 := congrArg List.length he
    simp only [List.length_map, List.length_append] at h2
    omega
theorem str_digits (l : List UInt8) : strOfNums (l.map (fun b => ((b.toNat : Nat) : Int))) = ⟨l.toArray⟩ := by
  unfold strOfNums
  rw [List.map_map]
  congr 2
  conv => rhs; rw [← List.map_id l]
  refine List.map_congr_left fun b _ => ?_
  simp
theorem itoa_neg {n : Int} {ds : List Int} (h : ds = (Lib.decDigits n.natAbs).map (fun b => ((b.toNat : Nat) : Int))) (hn : n < 0) : strOfNums (45 :: ds) = ⟨(Lib.itoa n).toArray⟩ := by
  rw [h]
  have : (45 : Int) :: (Lib.decDigits n.natAbs).map (fun b => ((b.toNat : Nat) : Int)) = (45 :: Lib.decDigits n.natAbs).map (fun b : UInt8 => ((b.toNat : Nat) : Int)) := by simp
  rw [this, str_digits]
  unfold Lib.itoa; rw [if_pos hn]
theorem itoa_pos {n : Int} {ds : List Int} (h : ds = (Lib.decDigits n.natAbs).map (fun b => ((b.toNat : Nat) : Int))) (hn : ¬ n < 0) : strOfNums ds = ⟨(Lib.itoa n).toArray⟩ := by
  rw [h, str_digits]
  unfold Lib.itoa; rw [if_neg hn]
  rw [show n.toNat = n.natAbs by omega]

/-! ### The walk -/
def nums (xs : List Int) : List Value := xs.map (Value.int .u8)
theorem own_slice {w : World} {base n : Nat} {e : TypeId} {v : Value} {xs : List Value} (h : w.ownsRow base e 1 v n xs) (hn : 0 < n) : ∃ g cap, v = .slice (some ⟨g, 0, none⟩) n cap := by
  rcases h.2 with ⟨_, h2⟩ | ⟨g, cap, cur, rfl, _⟩
  · omega
  · exact ⟨g, cap, rfl⟩
theorem own_cast {w : World} {B g n c : Nat} {t : TypeId} {xs : List Value} {ds : List Int} (h : w.ownsRow B t 1 (.slice (some ⟨g, 0, none⟩) n c) n xs) (hn : n = ds.length) (hx : xs = nums ds) : w.ownsRow B t 1 (.slice (some ⟨g, 0, none⟩) ds.length c) ds.length (nums ds) := by
  subst hn; subst hx; exact h
def emptyOf : Value → Nat
  | .slice _ 0 _ => 1
  | _ => 0
theorem emptyOf_pos {a : Option Addr} {n c : Nat} (h : 0 < n) : emptyOf (.slice a n c) = 0 := by
  cases n with
  | zero => omega
  | succ n => rfl
theorem infoB : (Tryd.prog.info? 5).map (fun i => (i.zero, i.size, i.bytes)) = some (some (.int .u8 0), 1, 1) := by kernel_rfl
theorem own_string {w : World} {base n g cap : Nat} {e' : TypeId} {xs : List Int} (h : w.ownsRow base e' 1 (.slice (some ⟨g, 0, none⟩) n cap) n (nums xs)) : (convert 46 9 (.slice (some ⟨g, 0, none⟩) n cap)).run Tryd.prog w = .ok (.string (strOfNums xs)) w := by
  have hl : xs.length = n := by have := h.1; simp [nums] at this; exact this
  refine run_convert_bytes_arg w _ _ Tryd.underlying46 Tryd.underlying5 g 0 n cap xs hl (fun i hi => ?_) _ Tryd.underlying9
  rw [h.cellAt (0 + i) (by omega), Nat.zero_add]
  simp [nums, List.getElem?_eq_getElem (show i < xs.length by omega), List.getD_eq_getElem?_getD]
set_option maxRecDepth 20000 in
set_option maxHeartbeats 1600000 in
theorem specDec (n : Int) (h0 : -9223372036854775808 ≤ n) (h1 : n ≤ 9223372036854775807) (w : World) : Calls Tryd.prog 19 #[.int .i64 n] w fun e w' => e = .returned (.string ⟨(Lib.itoa n).toArray⟩) ∧ Below w.heap.size w w' := by
  obtain ⟨i, hi, hz, hs, hb⟩ := info_parts infoB
  have HI := Lib.hid hi
  have HZ := Lib.hid hz
  have HS := Lib.hid hs
  have HBy := Lib.hid hb
  clear hi hz hs hb
  go_enter Tryd.func19, Tryd.ntmps19
  go_wp2_with fail
  go_loopw [3, 4] (fun o q wr => ∃ (ds : List Int) (g cap : Nat) (R : Int), o = .slice (some ⟨g, 0, none⟩) ds.length cap ∧ q = .int .i64 R ∧ Hid (wr.ownsRow w.heap.size 5 1 (.slice (some ⟨g, 0, none⟩) ds.length cap) ds.length (nums ds)) ∧ Hid (Below w.heap.size w wr) ∧ Hid (DecI n ds R) ∧ -9223372036854775808 ≤ R ∧ R ≤ 9223372036854775807) (fun o q _ => emptyOf o + (intOf q).natAbs)
  case atStart => exact ⟨[], w.heap.size, 0, n, rfl, rfl, World.ownsRow_lit w #[] 0 (Nat.le_refl _) (Nat.zero_le _) rfl, (Below.refl _ _).alloc (Nat.le_refl _) _, .inl ⟨rfl, rfl⟩, h0, h1⟩
  case round =>
    obtain ⟨ds, g, cap, R, rfl, rfl, ho, hbel, hI, hR0, hR1⟩ := hrel
    have HLN := Lib.hid (hI.out.len (by omega))
    have hlen := HLN.out
    have HN := Lib.hid (fun o => (ho.out.alloc (e := 5) o).cells (g := g) rfl)
    have HL := Lib.hid (show (nums ds).length = ds.length * 1 by simp [nums])
    have H1 := Lib.hid (ints_oneCell .u8 ds)
    have HM := Lib.hid (show 1 + ds.length ≤ maxLen by unfold maxLen; omega)
    have HY := Lib.hid (show (1 + ds.length) * 1 ≤ 140737488355328 by omega)
    have HZ2 := Lib.hid (hbel.out.size)
    by_cases hc : ds.length = 0 ∨ R ≠ 0
    · have hstep := Lib.hid (hI.out.step (by rcases hc with h | h; exact .inl (List.eq_nil_of_length_eq_zero h); exact .inr h))
      have hdig := Lib.hid (digit_eq R)
      have hdv : ∀ e : Int, e = digit R → [Value.int .u8 e] ++ nums ds = nums (digit R :: ds) := fun e he => by rw [he]; rfl
      replace hdv := Lib.hid hdv
      have hms : Hid (ds.length = 0 ∨ R ≠ 0) := hc
      have htd := Lib.hid (tdiv_abs R)
      have HC := Lib.hid hc
      clear hlen hc
      by_cases hl : ds.length = 0
      · obtain rfl : ds = [] := List.eq_nil_of_length_eq_zero hl
        by_cases hd : Int.tmod R 10 < 0
        · have HG : Hid (digit R = 48 + -Int.tmod R 10) := by unfold digit; rw [if_pos hd]; rfl
          go_wp2_with ((at_builtin; refine wpList_append_own _ rfl _ _ 46 rfl w.heap.size 5 i (.int .u8 0) 1 1 Tryd.underlying46 HI.out HZ.out HS.out HBy.out rfl (by omega) _ 1 _ rfl (World.ownsRow_lit _ #[_] 1 HZ2.out (by decide) rfl) ⟨g, 0, none⟩ _ cap _ rfl HL.out (HN.out _) H1.out HM.out HY.out (by have := HZ2.out; simp; omega) ?_; intro v2 w2 hown2 hgrow2 _; obtain ⟨g2, c2, rfl⟩ := own_slice hown2 (by omega)))
          have HF2 : Hid (Below w.heap.size w w2) := by
            have hx := (hbel.out.alloc HZ2.out _).grown hgrow2 (by have := HZ2.out; simp; omega) (fun k h => by cases h; exact HZ2.out)
            exact hx
          clear hgrow2
          go_roundw
          case rel =>
            have q1 := HG.out
            have q2 := hdig.out
            have q3 := htd.out
            exact ⟨digit R :: _, g2, c2, _, by first | rfl | (simp; omega), rfl, own_cast hown2 (by simp; try omega) (hdv.out _ (by unfold wrap64; omega)), HF2, hstep, by omega, by omega⟩
          case measure =>
            have q3 := htd.out
            show 0 + (Int.tdiv R 10).natAbs < 1 + R.natAbs
            omega
        · have HG : Hid (digit R = 48 + Int.tmod R 10) := by unfold digit; rw [if_neg hd]; rfl
          go_wp2_with ((at_builtin; refine wpList_append_own _ rfl _ _ 46 rfl w.heap.size 5 i (.int .u8 0) 1 1 Tryd.underlying46 HI.out HZ.out HS.out HBy.out rfl (by omega) _ 1 _ rfl (World.ownsRow_lit _ #[_] 1 HZ2.out (by decide) rfl) ⟨g, 0, none⟩ _ cap _ rfl HL.out (HN.out _) H1.out HM.out HY.out (by have := HZ2.out; simp; omega) ?_; intro v2 w2 hown2 hgrow2 _; obtain ⟨g2, c2, rfl⟩ := own_slice hown2 (by omega)))
          have HF2 : Hid (Below w.heap.size w w2) := by
            have hx := (hbel.out.alloc HZ2.out _).grown hgrow2 (by have := HZ2.out; simp; omega) (fun k h => by cases h; exact HZ2.out)
            exact hx
          clear hgrow2
          go_roundw
          case rel =>
            have q1 := HG.out
            have q2 := hdig.out
            have q3 := htd.out
            exact ⟨digit R :: _, g2, c2, _, by first | rfl | (simp; omega), rfl, own_cast hown2 (by simp; try omega) (hdv.out _ (by unfold wrap64; omega)), HF2, hstep, by omega, by omega⟩
          case measure =>
            have q3 := htd.out
            show 0 + (Int.tdiv R 10).natAbs < 1 + R.natAbs
            omega
      · have hl1 : ¬ ds = [] := fun e => hl (by rw [e]; rfl)
        have hR : ¬ R = 0 := by rcases HC.out with h | h; exact absurd h hl; exact h
        have HLL := Lib.hid hl
        have hb0 : (((ds.length : Nat) : Int) == 0) = false := by simp; exact hl1
        have hb1 : (R != 0) = true := by simpa using hR
        clear hl
        by_cases hd : Int.tmod R 10 < 0
        · have HG : Hid (digit R = 48 + -Int.tmod R 10) := by unfold digit; rw [if_pos hd]; rfl
          go_wp2_with ((at_builtin; refine wpList_append_own _ rfl _ _ 46 rfl w.heap.size 5 i (.int .u8 0) 1 1 Tryd.underlying46 HI.out HZ.out HS.out HBy.out rfl (by omega) _ 1 _ rfl (World.ownsRow_lit _ #[_] 1 HZ2.out (by decide) rfl) ⟨g, 0, none⟩ _ cap _ rfl HL.out (HN.out _) H1.out HM.out HY.out (by have := HZ2.out; simp; omega) ?_; intro v2 w2 hown2 hgrow2 _; obtain ⟨g2, c2, rfl⟩ := own_slice hown2 (by omega)))
          have HF2 : Hid (Below w.heap.size w w2) := by
            have hx := (hbel.out.alloc HZ2.out _).grown hgrow2 (by have := HZ2.out; simp; omega) (fun k h => by cases h; exact HZ2.out)
            exact hx
          clear hgrow2
          go_roundw
          case rel =>
            have q1 := HG.out
            have q2 := hdig.out
            have q3 := htd.out
            exact ⟨digit R :: _, g2, c2, _, by first | rfl | (simp; omega), rfl, own_cast hown2 (by simp; try omega) (hdv.out _ (by unfold wrap64; omega)), HF2, hstep, by omega, by omega⟩
          case measure =>
            have q3 := htd.out
            show emptyOf (.slice (some ⟨g2, 0, none⟩) _ c2) + (Int.tdiv R 10).natAbs < emptyOf (.slice (some ⟨g, 0, none⟩) ds.length cap) + R.natAbs
            rw [emptyOf_pos (by omega), emptyOf_pos (by have := HLL.out; omega)]
            omega
        · have HG : Hid (digit R = 48 + Int.tmod R 10) := by unfold digit; rw [if_neg hd]; rfl
          go_wp2_with ((at_builtin; refine wpList_append_own _ rfl _ _ 46 rfl w.heap.size 5 i (.int .u8 0) 1 1 Tryd.underlying46 HI.out HZ.out HS.out HBy.out rfl (by omega) _ 1 _ rfl (World.ownsRow_lit _ #[_] 1 HZ2.out (by decide) rfl) ⟨g, 0, none⟩ _ cap _ rfl HL.out (HN.out _) H1.out HM.out HY.out (by have := HZ2.out; simp; omega) ?_; intro v2 w2 hown2 hgrow2 _; obtain ⟨g2, c2, rfl⟩ := own_slice hown2 (by omega)))
          have HF2 : Hid (Below w.heap.size w w2) := by
            have hx := (hbel.out.alloc HZ2.out _).grown hgrow2 (by have := HZ2.out; simp; omega) (fun k h => by cases h; exact HZ2.out)
            exact hx
          clear hgrow2
          go_roundw
          case rel =>
            have q1 := HG.out
            have q2 := hdig.out
            have q3 := htd.out
            exact ⟨digit R :: _, g2, c2, _, by first | rfl | (simp; omega), rfl, own_cast hown2 (by simp; try omega) (hdv.out _ (by unfold wrap64; omega)), HF2, hstep, by omega, by omega⟩
          case measure =>
            have q3 := htd.out
            show emptyOf (.slice (some ⟨g2, 0, none⟩) _ c2) + (Int.tdiv R 10).natAbs < emptyOf (.slice (some ⟨g, 0, none⟩) ds.length cap) + R.natAbs
            rw [emptyOf_pos (by omega), emptyOf_pos (by have := HLL.out; omega)]
            omega
    · have hne : ¬ ds = [] := fun e => hc (.inl (by rw [e]; rfl))
      have hR : R = 0 := by rcases Int.lt_trichotomy R 0 with h | h | h; exact absurd (.inr (by omega)) hc; exact h; exact absurd (.inr (by omega)) hc
      have hb0 : (((ds.length : Nat) : Int) == 0) = false := by simp; exact hne
      subst hR
      have HD := Lib.hid (hI.out.done hne)
      have HLN := Lib.hid hlen
      clear hc hlen
      by_cases hn : n < 0
      · go_wp2_with ((at_builtin; refine wpList_append_own _ rfl _ _ 46 rfl w.heap.size 5 i (.int .u8 0) 1 1 Tryd.underlying46 HI.out HZ.out HS.out HBy.out rfl (by omega) _ 1 _ rfl (World.ownsRow_lit _ #[_] 1 HZ2.out (by decide) rfl) ⟨g, 0, none⟩ _ cap _ rfl HL.out (HN.out _) H1.out HM.out HY.out (by have := HZ2.out; simp; omega) ?_; intro v2 w2 hown2 hgrow2 _; obtain ⟨g2, c2, rfl⟩ := own_slice hown2 (by omega); have hcv := own_string (xs := 45 :: ds) (n := _) hown2))
        go_ret
        refine ⟨retS (itoa_neg HD.out hn), ?_⟩
        exact (hbel.out.alloc HZ2.out _).grown hgrow2 (by have := HZ2.out; simp; omega) (fun k h => by cases h; exact HZ2.out)
      · have hcv := own_string ho.out
        go_wp2
        go_ret
        exact ⟨retS (itoa_pos HD.out (by omega)), hbel.out⟩
end Go.Proofs.YtfkkabonpbpfoaaDoor.Wk
