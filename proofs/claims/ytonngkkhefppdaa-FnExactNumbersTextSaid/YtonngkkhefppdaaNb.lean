/- Texts of numbers, walked: the program's and the reference's; the law. -/
import Derived.Test.YtonngkkhefppdaaRc
import Derived.Test.YtonngkkhefppdaaNa
import Derived.Test.YtonngkkhefppdaaShj
import Derived.Lib.Join
set_option linter.unusedSimpArgs false
set_option linter.unusedVariables false
namespace Go.Proofs.Ytonngkkhefppdaa.Wk
open Go.RowKit Fl

/-- The texts, commas between. -/
def textB (s : Nat → ByteArray) : Nat → List UInt8
  | 0 => []
  | 1 => (s 0).data.toList
  | k + 2 => textB s (k + 1) ++ 44 :: (s (k + 1)).data.toList
def textN (s : Nat → ByteArray) (n : Nat) : List UInt8 := if n = 0 then [110, 111, 110, 101] else textB s n
theorem textB_succ (s : Nat → ByteArray) {k : Nat} (h : 0 < k) : textB s (k + 1) = textB s k ++ 44 :: (s k).data.toList := by
  obtain ⟨k, rfl⟩ : ∃ m, k = m + 1 := ⟨k - 1, by omega⟩
  rfl
theorem bytes_app (a : List UInt8) (b : ByteArray) : (⟨a.toArray⟩ : ByteArray) ++ ((⟨#[44]⟩ : ByteArray) ++ b) = ⟨(a ++ 44 :: b.data.toList).toArray⟩ := by
  apply ByteArray.ext
  simp [ByteArray.data_append]
theorem textB_len (s : Nat → ByteArray) (h : ∀ j, (s j).size = 8) : ∀ k, (textB s k).length ≤ 9 * k := by
  intro k
  have hl : ∀ j, (s j).data.toList.length = 8 := fun j => by rw [Array.length_toList]; exact h j
  induction k with
  | zero => simp [textB]
  | succ k ih =>
    by_cases e : k = 0
    · subst e; show (s 0).data.toList.length ≤ _; rw [hl]; omega
    · rw [textB_succ s (by omega)]
      simp only [List.length_append, List.length_cons, hl]; omega
theorem join_textB (s : Nat → ByteArray) : ∀ k, 0 < k → Lib.join ((List.range k).map fun j => (s j).data.toList) [44] = textB s k := by
  intro k
  induction k with
  | zero => intro h; omega
  | succ k ih =>
    intro _
    by_cases e : k = 0
    · subst e; exact Lib.join_one _ _
    · rw [textB_succ s (by omega), ← ih (by omega), List.range_succ, List.map_append]
      obtain ⟨m, rfl⟩ : ∃ m, k = m + 1 := ⟨k - 1, by omega⟩
      rw [List.range_succ_eq_map]
      simp only [List.map_cons, List.cons_append, Lib.join_cons]
      simp [Lib.joinTail]
theorem hexL_size (x : Nat) : (hexL x).size = 8 := by unfold hexL; rw [strOfNums_size, hexD_len]
def strsN (s : Nat → ByteArray) (k : Nat) : List Value := (List.range k).map fun j => .string (s j)
theorem strsN_succ (s : Nat → ByteArray) (k : Nat) : strsN s (k + 1) = strsN s k ++ [.string (s k)] := by unfold strsN; rw [List.range_succ, List.map_append]; rfl
theorem infoS : (Try.prog.info? 9).map (fun i => (i.zero, i.size, i.bytes)) = some (some (.string ⟨#[]⟩), 1, 16) := by kernel_rfl
theorem own_below {w w' : World} {B g n c : Nat} {e : TypeId} {xs : List Value} (h : w.ownsRow B e 1 (.slice (some ⟨g, 0, none⟩) n c) n xs) (hb : Below w.heap.size w w') : w'.ownsRow B e 1 (.slice (some ⟨g, 0, none⟩) n c) n xs := by
  have hl := h.lt g rfl
  obtain ⟨h1, h2⟩ := h
  refine ⟨h1, ?_⟩
  rcases h2 with h2 | ⟨g', cap', cur, e1, e2, e3, r⟩
  · exact .inl h2
  · have : g = g' := by cases e1; rfl
    subst this
    exact .inr ⟨g, cap', cur, e1, e2, (hb.block g hl.2).trans e3, r⟩
theorem own_cap {w : World} {B g n c : Nat} {e : TypeId} {xs : List Value} (h : w.ownsRow B e 1 (.slice (some ⟨g, 0, none⟩) n c) n xs) : n ≤ c := by
  rcases h.2 with ⟨h2, _⟩ | ⟨g', cap', cur, e1, e2, e3, r, _⟩
  · cases h2
  · cases e1; exact r
theorem implJoined (g c n : Nat) (s : Nat → ByteArray) (h8 : ∀ j, (s j).size = 8) (B : Nat) (w : World) (ho : w.ownsRow B 9 1 (.slice (some ⟨g, 0, none⟩) n c) n (strsN s n)) (hn : n ≤ 256) (hc : n ≤ c) :
    Calls Try.prog 19 #[.slice (some ⟨g, 0, none⟩) n c] w fun e w' => e = .returned (.string ⟨(textN s n).toArray⟩) ∧ Below w.heap.size w w' := by
  by_cases h0 : n = 0
  · subst h0
    clear ho
    go_enter Try.func19, Try.ntmps19
    go_wp2
    go_ret
    exact ⟨rfl, Below.refl _ _⟩
  · have hb0 : (((n : Nat) : Int) == 0) = false := by simp; omega
    have el : ((List.range n).map s).length = n := by simp
    have em : ((List.range n).map s).map (·.data.toList) = (List.range n).map fun j => (s j).data.toList := by rw [List.map_map]; rfl
    have ej : Lib.join (((List.range n).map s).map (·.data.toList)) [44] = textB s n := by rw [em, join_textB s n (by omega)]
    have hj := Try.strings_Join g 0 c ((List.range n).map s) ⟨#[44]⟩ w (fun j x hx => by
        have hjn : j < n := by have := (List.getElem?_eq_some_iff.1 hx).1; omega
        rw [Nat.zero_add, ho.cellAt j (by omega)]
        unfold strsN
        simp [hjn] at hx ⊢
        exact hx) (ho.lt g rfl).2 (by omega) (by omega) (by
        show (Lib.join (((List.range n).map s).map (·.data.toList)) [44]).length ≤ _
        rw [ej]; have := textB_len s h8 n; omega)
    have ej' : Lib.join (((List.range n).map s).map (·.data.toList)) (⟨#[44]⟩ : ByteArray).data.toList = textN s n := by
      unfold textN; rw [if_neg h0]; exact ej
    rw [el, ej'] at hj
    have HJ := Lib.hid hj
    clear hj ho
    go_enter Try.func19, Try.ntmps19
    go_wp2_with (go_at_call 26; refine HJ.out.mono ?_; rintro e w' ⟨rfl, hb⟩; have HB := Lib.hid hb; clear hb)
    go_ret
    exact ⟨rfl, HB.out⟩
def txt (f : Nat → Nat) (n : Nat) : ByteArray := if n ≤ 256 then ⟨(textN (fun j => hexL (f j)) n).toArray⟩ else ⟨#[]⟩
def RN (f : Nat → Nat) (n : Nat) (w : World) (e : Ending) (w' : World) : Prop := e = .returned (.tuple #[.string (txt f n), .bool (decide (n ≤ 256))]) ∧ Below w.heap.size w w'
/-- A slice of words. -/
def RowW (w : World) (v : Value) (n : Nat) (f : Nat → Nat) : Prop := RowF w v n f ∧ ∀ j, j < n → f j < 4294967296
end Go.Proofs.Ytonngkkhefppdaa.Wk
