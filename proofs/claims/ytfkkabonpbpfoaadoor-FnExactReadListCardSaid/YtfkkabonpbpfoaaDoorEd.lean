/- The program's text of a list. -/
import Derived.Test.YtfkkabonpbpfoaaDoorEf
set_option linter.unusedSimpArgs false
set_option linter.unusedVariables false
namespace Go.Proofs.YtfkkabonpbpfoaaDoor.Wk
open Go.RowKit

def strOf (f : Nat → Int) (k : Nat) : Value := .string ⟨(Lib.itoa (f k)).toArray⟩
def strsK (f : Nat → Int) (k : Nat) : List Value := (List.range k).map (strOf f)
theorem strsK_succ (f : Nat → Int) (k : Nat) : strsK f (k + 1) = strsK f k ++ [strOf f k] := by unfold strsK; rw [List.range_succ, List.map_append]; rfl
theorem infoS : (Tryd.prog.info? 9).map (fun i => (i.zero, i.size, i.bytes)) = some (some (.string ⟨#[]⟩), 1, 16) := by kernel_rfl
theorem own_below {w w' : World} {B g n c : Nat} {e : TypeId} {xs : List Value} (h : w.ownsRow B e 1 (.slice (some ⟨g, 0, none⟩) n c) n xs) (hb : Below w.heap.size w w') : w'.ownsRow B e 1 (.slice (some ⟨g, 0, none⟩) n c) n xs := by
  have hl := h.lt g rfl
  obtain ⟨h1, h2⟩ := h
  refine ⟨h1, ?_⟩
  rcases h2 with h2 | ⟨g', cap', cur, e1, e2, e3, r⟩
  · exact .inl h2
  · have : g = g' := by cases e1; rfl
    subst this
    exact .inr ⟨g, cap', cur, e1, e2, (hb.block g hl.2).trans e3, r⟩
theorem own_slice2 {w : World} {base n : Nat} {e : TypeId} {v : Value} {xs : List Value} (h : w.ownsRow base e 1 v n xs) (hn : 0 < n) : ∃ g cap, v = .slice (some ⟨g, 0, none⟩) n cap := own_slice h hn
theorem one_cell (w : World) (u : Value) {t : TypeId} : ∀ j x, [u][j]? = some x → (w.alloc (.cells #[u] t)).cell? ((⟨w.heap.size, 0, none⟩ : Addr).add j) = some x := by
  intro j x hx
  cases j with
  | zero => cases hx; simp [Addr.add]
  | succ j => simp at hx
def bytesK (f : Nat → Int) (n : Nat) : List ByteArray := (List.range n).map fun j => ⟨(Lib.itoa (f j)).toArray⟩
theorem implJoined (g c n : Nat) (f : Nat → Int) (B : Nat) (w : World) (ho : w.ownsRow B 9 1 (.slice (some ⟨g, 0, none⟩) n c) n (strsK f n)) (hA : AllR f n) (hn : n ≤ 64) (hc : n ≤ c) :
    Calls Tryd.prog 26 #[.slice (some ⟨g, 0, none⟩) n c] w fun e w' => e = .returned (.string ⟨(textL f n).toArray⟩) ∧ Below w.heap.size w w' := by
  by_cases h0 : n = 0
  · subst h0
    clear ho hA
    go_enter Tryd.func26, Tryd.ntmps26
    go_wp2
    go_ret
    exact ⟨rfl, Below.refl _ _⟩
  · have hb0 : (((n : Nat) : Int) == 0) = false := by simp; omega
    have el : (bytesK f n).length = n := by simp [bytesK]
    have em : (bytesK f n).map (·.data.toList) = (List.range n).map fun j => Lib.itoa (f j) := by unfold bytesK; rw [List.map_map]; rfl
    have ej : Lib.join ((bytesK f n).map (·.data.toList)) [44] = textK f n := by rw [em, join_textK f n (by omega)]
    have hj := Tryd.strings_Join g 0 c (bytesK f n) ⟨#[44]⟩ w (fun j x hx => by
        have hjn : j < n := by have := (List.getElem?_eq_some_iff.1 hx).1; omega
        rw [Nat.zero_add, ho.cellAt j (by omega)]
        unfold bytesK at hx
        unfold strsK
        simp [hjn] at hx ⊢
        exact congrArg _ hx) (ho.lt g rfl).2 (by omega) (by omega) (by
        show (Lib.join ((bytesK f n).map (·.data.toList)) [44]).length ≤ _
        rw [ej]; have := textK_len f n hA; omega)
    have ej' : Lib.join ((bytesK f n).map (·.data.toList)) (⟨#[44]⟩ : ByteArray).data.toList = textL f n := by
      unfold textL; rw [if_neg h0]; exact ej
    rw [el, ej'] at hj
    have HJ := Lib.hid hj
    clear hj ho hA
    go_enter Tryd.func26, Tryd.ntmps26
    go_wp2_with (go_at_call 33; refine HJ.out.mono ?_; rintro e w' ⟨rfl, hb⟩; have HB := Lib.hid hb; clear hb)
    go_ret
    exact ⟨rfl, HB.out⟩
theorem own_cap {w : World} {B g n c : Nat} {e : TypeId} {xs : List Value} (h : w.ownsRow B e 1 (.slice (some ⟨g, 0, none⟩) n c) n xs) : n ≤ c := by
  rcases h.2 with ⟨h2, _⟩ | ⟨g', cap', cur, e1, e2, e3, r, _⟩
  · cases h2
  · cases e1; exact r
def RL (f : Nat → Int) (n : Nat) (w : World) (e : Ending) (w' : World) : Prop := e = .returned (.tuple #[.string (if listB f n then ⟨(textL f n).toArray⟩ else ⟨#[]⟩), .bool (listB f n)]) ∧ Below w.heap.size w w'
theorem listB_many {f : Nat → Int} {n : Nat} (h : ¬ n ≤ 64) : listB f n = false := by
  unfold listB
  rw [decide_eq_false_iff_not]
  exact fun c => h c.2
set_option maxRecDepth 20000 in
set_option maxHeartbeats 1600000 in
theorem implListText (v : Value) (n : Nat) (f : Nat → Int) (w : World) (h : RowI w v n f) (hD : ∀ j, j < n → ∀ u, Tab u → Calls Tryd.prog 8 #[.int .i64 (f j)] u fun e w' => e = .returned (.string ⟨(Lib.itoa (f j)).toArray⟩) ∧ Below u.heap.size u w') (ht : Tab w) :
    Calls Tryd.prog 13 #[v] w (RL f n w) := by
  obtain ⟨ao, cap, rfl, hm, hc⟩ := h
  have hm2 : n ≤ 9223372036854775807 := by unfold maxLen at hm; omega
  obtain ⟨i, hi, hz, hs, hb⟩ := info_parts infoS
  have HI := Lib.hid hi
  have HZ := Lib.hid hz
  have HS := Lib.hid hs
  have HBy := Lib.hid hb
  have HC := Lib.hid hc
  have HD := Lib.hid hD
  have HT := Lib.hid ht
  clear hc hD ht hm hi hz hs hb
  go_enter Tryd.func13, Tryd.ntmps13
  go_wp2_with fail
  go_loopw [4, 10] (fun p q wr => ∃ (k g c : Nat), k ≤ n ∧ q = .int .i64 k ∧ p = .slice (some ⟨g, 0, none⟩) k c ∧ Hid (wr.ownsRow w.heap.size 9 1 (.slice (some ⟨g, 0, none⟩) k c) k (strsK f k)) ∧ Hid (Below w.heap.size w wr) ∧ Hid (AllR f k) ∧ k ≤ 64) (fun _ q _ => n - (intOf q).toNat)
  case atStart => exact ⟨0, w.heap.size, 0, by omega, rfl, rfl, World.ownsRow_lit w #[] 0 (Nat.le_refl _) (Nat.zero_le _) rfl, (Below.refl _ _).alloc (Nat.le_refl _) _, AllR.zero f, by omega⟩
  case round =>
    obtain ⟨k, g, c, hk, rfl, rfl, ho, hB, hA, hk64⟩ := hrel
    by_cases hlt : k < n
    · obtain ⟨x, rfl, hxb, hcx0⟩ := HC.out k hlt
      have hcx : wr.cell? (x.add k) = some (.int .i64 (f k)) := by rw [hB.out.cell (by rw [add_block]; exact hxb)]; exact hcx0
      clear hcx0 hxb HC
      cases hr : inR (f k)
      · have HV := Lib.hid (listB_bad hlt hr)
        have hr' : inB (f k) (-1000000000000000) 1000000000000000 = false := hr
        clear hr
        go_wp2_with (go_at_call 23; refine (implIn _ _ _ _).mono ?_; rintro e w' ⟨rfl, rfl⟩)
        go_ret2
        exact ⟨by rw [HV.out]; rfl, hB.out⟩
      · have HA2 : Hid (AllR f (k + 1)) := hA.out.succ hr
        have hr' : inB (f k) (-1000000000000000) 1000000000000000 = true := hr
        clear hr
        by_cases h64 : k = 64
        · have hb64 : (((k : Nat) : Int) == 64) = true := by simp; omega
          have HV := Lib.hid (listB_many (f := f) (n := n) (by omega))
          clear h64
          go_wp2_with (go_at_call 23; refine (implIn _ _ _ _).mono ?_; rintro e w' ⟨rfl, rfl⟩)
          go_ret2
          exact ⟨by rw [HV.out]; rfl, hB.out⟩
        · have hkk : ¬ ((k : Nat) : Int) = 64 := by omega
          have hb64 : (((k : Nat) : Int) == 64) = false := by simp; omega
          have HTk : Hid (Tab wr) := HT.out.below hB.out
          go_wp2_with (first | (go_at_call 23; refine (implIn _ _ _ _).mono ?_; rintro e w' ⟨rfl, rfl⟩) | (go_at_call 8; refine (HD.out k hlt _ HTk.out).mono ?_; rintro e w1 ⟨rfl, hb⟩; have HB2 : Hid (Below w.heap.size w w1) := hB.out.trans (hb.mono hB.out.size); have HO2 := Lib.hid (own_below ho.out hb); clear hb) | (at_builtin; refine wpList_append_own _ rfl _ _ 43 rfl w.heap.size 9 i (.string ⟨#[]⟩) 1 16 Tryd.underlying43 HI.out HZ.out HS.out HBy.out rfl (by omega) _ k _ rfl (HO2.out.alloc _) ⟨_, 0, none⟩ 1 _ [strOf f k] rfl rfl (one_cell _ _) (by intro u hu; rw [List.mem_singleton.1 hu]; rfl) (by unfold maxLen; omega) (by omega) (by have := HB2.out.size; simp; omega) ?_; intro v2 w2 hown2 hgrow2 _; obtain ⟨g2, c2, rfl⟩ := own_slice hown2 (by omega)))
          have HF2 : Hid (Below w.heap.size w w2) := (HB2.out.alloc HB2.out.size _).grown hgrow2 (by have := HB2.out.size; simp; omega) (fun j h => by cases h; exact (ho.out.lt g rfl).1)
          clear hgrow2
          go_roundw
          case rel => exact ⟨k + 1, g2, c2, by omega, by go_num, rfl, by rw [strsK_succ]; exact hown2, HF2, HA2, by omega⟩
          case measure => simp [intOf]; omega
    · obtain rfl : n = k := by omega
      have hnc : n ≤ c := own_cap ho.out
      have HV := Lib.hid ((listB_all hA.out).trans (decide_eq_true hk64))
      have HJ := Lib.hid (implJoined g c n f _ wr ho.out hA.out hk64 hnc)
      clear HC HD HT
      go_wp2_with (go_at_call 26; refine HJ.out.mono ?_; rintro e w' ⟨rfl, hb⟩; have HB2 : Hid (Below w.heap.size w w') := hB.out.trans (hb.mono hB.out.size); clear hb)
      go_ret2
      exact ⟨by rw [HV.out]; rfl, HB2.out⟩
end Go.Proofs.YtfkkabonpbpfoaaDoor.Wk
