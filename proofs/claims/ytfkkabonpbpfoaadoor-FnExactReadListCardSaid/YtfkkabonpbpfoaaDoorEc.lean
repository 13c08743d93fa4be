/- The reference's text of a list. -/
import Derived.Test.YtfkkabonpbpfoaaDoorEb
set_option linter.unusedSimpArgs false
set_option linter.unusedVariables false
namespace Go.Proofs.YtfkkabonpbpfoaaDoor.Wk
open Go.RowKit

/-- The texts of the first elements, commas between. -/
def textK (f : Nat → Int) : Nat → List UInt8
  | 0 => []
  | 1 => Lib.itoa (f 0)
  | k + 2 => textK f (k + 1) ++ 44 :: Lib.itoa (f (k + 1))
def textL (f : Nat → Int) (n : Nat) : List UInt8 := if n = 0 then [110, 111, 110, 101] else textK f n
theorem textK_succ (f : Nat → Int) {k : Nat} (h : 0 < k) : textK f (k + 1) = textK f k ++ 44 :: Lib.itoa (f k) := by
  obtain ⟨k, rfl⟩ : ∃ m, k = m + 1 := ⟨k - 1, by omega⟩
  rfl
theorem bytes_app (a b : List UInt8) : (⟨a.toArray⟩ : ByteArray) ++ ((⟨#[44]⟩ : ByteArray) ++ ⟨b.toArray⟩) = ⟨(a ++ 44 :: b).toArray⟩ := by
  apply ByteArray.ext
  simp [ByteArray.data_append]
theorem textK_len (f : Nat → Int) : ∀ k, (∀ j, j < k → inR (f j) = true) → (textK f k).length ≤ 18 * k := by
  intro k
  induction k with
  | zero => intro _; simp [textK]
  | succ k ih =>
    intro h
    have hk := h k (by omega)
    have hb : -1000000000000000 ≤ f k ∧ f k ≤ 1000000000000000 := by simpa [inR, inB] using hk
    have hl := Pd.itoa_len (f k) hb.1 hb.2
    by_cases e : k = 0
    · subst e; show (Lib.itoa (f 0)).length ≤ _; omega
    · rw [textK_succ f (by omega)]
      have := ih (fun j hj => h j (by omega))
      simp; omega
set_option maxRecDepth 20000 in
set_option maxHeartbeats 1600000 in
theorem specText (v : Value) (n : Nat) (f : Nat → Int) (w : World) (h : RowI w v n f) (hA : AllR f n) (hn : n ≤ 64) : Calls Tryd.prog 25 #[v] w fun e w' => e = .returned (.string ⟨(textL f n).toArray⟩) ∧ Below w.heap.size w w' := by
  have hR := h
  obtain ⟨ao, cap, rfl, hm, hc⟩ := h
  have hm2 : n ≤ 9223372036854775807 := by unfold maxLen at hm; omega
  have HR := Lib.hid hR
  have HAl := Lib.hid hA
  clear hR hm hA
  have hbd : ∀ j, j < n → -9223372036854775808 ≤ f j ∧ f j ≤ 9223372036854775807 := fun j hj => by
    have : -1000000000000000 ≤ f j ∧ f j ≤ 1000000000000000 := by simpa [inR, inB] using HAl.out j hj
    omega
  have HD := Lib.hid (fun j (hj : j < n) u => specDec (f j) (hbd j hj).1 (hbd j hj).2 u)
  clear hbd
  by_cases h0 : n = 0
  · subst h0
    clear hc
    go_enter Tryd.func25, Tryd.ntmps25
    go_wp2
    go_ret
    exact ⟨rfl, Below.refl _ _⟩
  · have HC := Lib.hid hc
    obtain ⟨x, rfl, hxb, hcx⟩ := hc 0 (by omega)
    have hz : 0 < n := by omega
    replace hcx : w.cell? x = some (.int .i64 (f 0)) := by simpa [Addr.add] using hcx
    clear hc hxb
    have HT := Lib.hid (show textL f n = textK f n by unfold textL; rw [if_neg h0])
    go_enter Tryd.func25, Tryd.ntmps25
    go_wp2_with (go_at_call 19; refine (HD.out 0 hz _).mono ?_; rintro e w1 ⟨rfl, hb⟩; have HB := Lib.hid hb; clear hb)
    go_loopw [3, 4] (fun t q wr => ∃ k : Nat, 1 ≤ k ∧ k ≤ n ∧ q = .int .i64 k ∧ t = .string ⟨(textK f k).toArray⟩ ∧ Hid (Below w.heap.size w wr)) (fun _ q _ => n - (intOf q).toNat)
    case atStart => exact ⟨1, by omega, by omega, rfl, rfl, HB.out⟩
    case round =>
      obtain ⟨k, hk1, hk, rfl, rfl, hB⟩ := hrel
      by_cases hlt : k < n
      · obtain ⟨y, hy, hyb, hcy0⟩ := HC.out k hlt
        obtain rfl : x = y := Option.some.inj hy
        have hcy : wr.cell? (x.add k) = some (.int .i64 (f k)) := by rw [hB.out.cell (by rw [add_block]; exact hyb)]; exact hcy0
        have HS := Lib.hid (textK_succ f (k := k) (by omega))
        have hl2 := textK_len f k (fun j hj => HAl.out j (by omega))
        have hl1 : (Lib.itoa (f k)).length ≤ 17 := by
          have hb : -1000000000000000 ≤ f k ∧ f k ≤ 1000000000000000 := by simpa [inR, inB] using HAl.out k hlt
          exact (Pd.itoa_len (f k) hb.1 hb.2).2
        clear hcy0 hyb hy HB
        go_wp2_with (go_at_call 19; refine (HD.out k hlt _).mono ?_; rintro e w1 ⟨rfl, hb⟩; have HB2 : Hid (Below w.heap.size w w1) := hB.out.trans (hb.mono hB.out.size); clear hb)
        go_roundw
        case rel => exact ⟨k + 1, by omega, by omega, by go_num, by rw [HS.out, ← bytes_app], HB2⟩
        case measure => simp [intOf]; omega
      · obtain rfl : n = k := by omega
        go_wp2
        go_ret
        exact ⟨retS (by rw [HT.out]), hB.out⟩
end Go.Proofs.YtfkkabonpbpfoaaDoor.Wk
