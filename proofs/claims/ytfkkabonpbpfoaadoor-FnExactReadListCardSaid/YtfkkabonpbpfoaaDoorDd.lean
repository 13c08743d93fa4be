/- The program's reading of decimals, and the law. -/
import Derived.Test.YtfkkabonpbpfoaaDoorDc
import Derived.Test.YtfkkabonpbpfoaaDoorShp
import Derived.Lib.AtoiErrMem
set_option linter.unusedSimpArgs false
set_option linter.unusedVariables false
namespace Go.Proofs.YtfkkabonpbpfoaaDoor.Wk
open Go.RowKit

/-- A variable of the library's holds an error. -/
def ErrV (w : World) (g : Nat) : Prop := ∃ ev, w.cell? ⟨g, 0, none⟩ = some ev ∧ (ev = .nilIface ∨ ∃ te pe, ev = .iface te pe)
theorem cell_lt {w : World} {a : Addr} {v : Value} (h : w.cell? a = some v) : a.block < w.heap.size := by
  rcases Nat.lt_or_ge a.block w.heap.size with g | g
  · exact g
  · exfalso
    unfold World.cell? at h
    rw [Array.getElem?_eq_none g] at h
    cases h
theorem ErrV.below {w w' : World} {g : Nat} (h : ErrV w g) (hb : Below w.heap.size w w') : ErrV w' g := by
  obtain ⟨ev, h1, h2⟩ := h
  exact ⟨ev, by rw [hb.cell (cell_lt h1)]; exact h1, h2⟩
theorem errV_of {W : World} {laid : List (String × DataW Unit)} {name : String} (D : DataW Unit) {g : Nat} {t : TypeId} {ms : _} (hD : ∃ nm d, D = .iface nm d) (e : (laid.filter fun x => x.1 == name) = [(name, D)])
    (hg : Tryd.prog.globalNamed name = some g) (hty : (Tryd.prog.globals[g]?).map (·.type) = some t) (ht : Tryd.prog.underlying t = some (.interface ms)) (h : laidMet Tryd.prog laid W) : ErrV W g := by
  have h2 := laidMet.filter (fun x => x.1 == name) h
  rw [e] at h2
  obtain ⟨ps, ⟨g', t', cs, fuel, p, q, hg', ht', hvar, hd, _, _⟩, _⟩ := h2
  obtain rfl := Option.some.inj (hg.symm.trans hg')
  obtain rfl := Option.some.inj (hty.symm.trans ht')
  have hc := World.var?_cell hg hvar 0
  obtain ⟨nm, d, rfl⟩ := hD
  cases fuel with
  | zero => simp [DataW.trod] at hd
  | succ n =>
    unfold DataW.trod at hd
    rw [ht] at hd
    generalize hcs : cs.toList = l at hd
    have key : l = [.nilIface] ∨ ∃ te pe, l = [.iface te pe] := by
      cases l with
      | nil => simp at hd
      | cons v r =>
        cases r with
        | nil =>
          cases v
          case nilIface => exact .inl rfl
          case iface te pe => exact .inr ⟨te, pe, rfl⟩
          all_goals (simp at hd)
        | cons v2 r2 => simp at hd
    rcases key with rfl | ⟨te, pe, rfl⟩
    · exact ⟨.nilIface, by rw [hc, ← Array.getElem?_toList, hcs]; rfl, .inl rfl⟩
    · exact ⟨.iface te pe, by rw [hc, ← Array.getElem?_toList, hcs]; rfl, .inr ⟨te, pe, rfl⟩⟩
theorem parse_bad (s : ByteArray) (hlim : s.size ≤ 281474976710656) (h : ∀ v, Lib.parseIntB 64 s.data.toList ≠ .ok v) (w : World) (h1 : ErrV w 1) (h2 : ErrV w 2) :
    Calls Tryd.prog 22 #[.string s, .int .i64 10, .int .i64 64] w fun e w' => ∃ n te a, e = .returned (.tuple #[.int .i64 n, .iface te a]) ∧ Below w.heap.size w w' := by
  obtain ⟨ev, c1, e1⟩ := h1
  obtain ⟨ev2, c2, e2⟩ := h2
  cases hq : Lib.parseIntB 64 s.data.toList with
  | ok v => exact absurd hq (h v)
  | range =>
    refine (Any.strconv_ParseInt_10_at64_range Tryd.laysC174 s hlim hq ev2 w c2 e2).mono ?_
    rintro e w' ⟨N, rfl, _, _, hb⟩
    exact ⟨_, _, _, rfl, hb⟩
  | _ =>
    refine (Any.strconv_ParseInt_10_at64_syntax Tryd.laysC174 s hlim hq ev w c1 e1).mono ?_
    rintro e w' ⟨N, rfl, _, _, hb⟩
    exact ⟨_, _, _, rfl, hb⟩
theorem parse_ok (s : ByteArray) (hlim : s.size ≤ 281474976710656) (v : Int) (h : Lib.parseIntB 64 s.data.toList = .ok v) (w : World) :
    Calls Tryd.prog 22 #[.string s, .int .i64 10, .int .i64 64] w fun e w' => e = .returned (.tuple #[.int .i64 v, .nilIface]) ∧ Below w.heap.size w w' := by
  refine (Tryd.strconv_ParseInt_10_at64_ok s (by omega) v h w).mono ?_
  rintro e w' ⟨rfl, rfl | ⟨t, rfl⟩⟩
  · exact ⟨rfl, Below.refl _ _⟩
  · exact ⟨rfl, Lib.bytesWorld_below _ _ _⟩
theorem parse_lt {l : List UInt8} {v : Int} (h : Lib.parseIntB 64 l = .ok v) : -9223372036854775808 ≤ v ∧ v ≤ 9223372036854775807 := by
  unfold Lib.parseIntB at h
  split at h
  · cases h
  · simp only at h
    split at h
    · cases h
    · cases h
    · split at h
      · cases h
      · split at h
        · cases h
        · cases h
          split <;> omega
set_option maxRecDepth 20000 in
set_option maxHeartbeats 1600000 in
theorem implRead (s : ByteArray) (hlim : s.size ≤ 281474976710656) (w : World) (h1 : ErrV w 1) (h2 : ErrV w 2) (ht : Tab w) :
    Calls Tryd.prog 10 #[.string s] w fun e w' => e = .returned (.tuple #[.int .i64 (Pd.implV s.data.toList).1, .bool (Pd.implV s.data.toList).2]) ∧ Below w.heap.size w w' := by
  by_cases hok : ∃ v, Lib.parseIntB 64 s.data.toList = .ok v
  · obtain ⟨N, hN⟩ := hok
    have hlt := parse_lt hN
    have HP := Lib.hid (parse_ok s hlim N hN w)
    have HT := Lib.hid ht
    have HD := Lib.hid (fun u (h : Tab u) => implDecimal N (by omega) (by omega) u h)
    have HE := Lib.hid (show (⟨(Lib.itoa N).toArray⟩ : ByteArray) = s ↔ Lib.itoa N = s.data.toList from ⟨fun e => by rw [← e], fun e => by rw [e]⟩)
    generalize (⟨(Lib.itoa N).toArray⟩ : ByteArray) = t at *
    have HV0 := Lib.hid (show Pd.implV s.data.toList = if Pd.okV s.data.toList N then (N, true) else (0, false) by unfold Pd.implV; rw [hN])
    clear ht hN hlim h1 h2 hlt
    by_cases hin : inB N (-1000000000000000) 1000000000000000 = true
    · by_cases hts : t = s
      · subst hts
        have HV := Lib.hid (HV0.out.trans (if_pos (Pd.okV_iff.2 ⟨by simpa [inB] using hin, HE.out.1 rfl⟩)))
        go_enter Tryd.func10, Tryd.ntmps10
        go_wp2_with (first | (go_at_call 22; refine HP.out.mono ?_; rintro e w' ⟨rfl, hb⟩; have HB := Lib.hid hb; clear hb) | (go_at_call 23; refine (implIn _ _ _ _).mono ?_; rintro e w' ⟨rfl, rfl⟩) | (go_at_call 8; refine (HD.out _ (HT.out.below HB.out)).mono ?_; rintro e w' ⟨rfl, hb⟩; have HB2 := Lib.hid (HB.out.trans (hb.mono HB.out.size)); clear hb))
        go_ret2
        exact ⟨by rw [HV.out]; rfl, HB2.out⟩
      · have hbl : (t.toList == s.toList) = false := list_ne hts
        have HV := Lib.hid (HV0.out.trans (if_neg (fun h => hts (HE.out.2 (Pd.okV_iff.1 h).2))))
        go_enter Tryd.func10, Tryd.ntmps10
        go_wp2_with (first | (go_at_call 22; refine HP.out.mono ?_; rintro e w' ⟨rfl, hb⟩; have HB := Lib.hid hb; clear hb) | (go_at_call 23; refine (implIn _ _ _ _).mono ?_; rintro e w' ⟨rfl, rfl⟩) | (go_at_call 8; refine (HD.out _ (HT.out.below HB.out)).mono ?_; rintro e w' ⟨rfl, hb⟩; have HB2 := Lib.hid (HB.out.trans (hb.mono HB.out.size)); clear hb))
        go_ret2
        exact ⟨by rw [HV.out]; rfl, HB2.out⟩
    · simp only [Bool.not_eq_true] at hin
      have HV := Lib.hid (HV0.out.trans (if_neg (fun h => by
        have h9 : inB N (-1000000000000000) 1000000000000000 = true := by simpa [inB] using (Pd.okV_iff.1 h).1
        rw [h9] at hin; cases hin)))
      go_enter Tryd.func10, Tryd.ntmps10
      go_wp2_with (first | (go_at_call 22; refine HP.out.mono ?_; rintro e w' ⟨rfl, hb⟩; have HB := Lib.hid hb; clear hb) | (go_at_call 23; refine (implIn _ _ _ _).mono ?_; rintro e w' ⟨rfl, rfl⟩))
      go_ret2
      exact ⟨by rw [HV.out]; rfl, HB.out⟩
  · have hb : ∀ v, Lib.parseIntB 64 s.data.toList ≠ .ok v := fun v e => hok ⟨v, e⟩
    have HP := Lib.hid (parse_bad s hlim hb w h1 h2)
    have HV := Lib.hid (show Pd.implV s.data.toList = (0, false) by
      unfold Pd.implV
      split
      · rename_i v e; exact absurd e (hb v)
      · rfl)
    clear hb hok ht h1 h2 hlim
    go_enter Tryd.func10, Tryd.ntmps10
    go_wp2_with (go_at_call 22; refine HP.out.mono ?_; rintro e w' ⟨n, te, a, rfl, hb⟩; have HB := Lib.hid hb; clear hb)
    go_ret2
    exact ⟨by rw [HV.out]; rfl, HB.out⟩
theorem specRead (s : ByteArray) (hs : s.size ≤ maxLen) (w : World) : Calls Tryd.prog 9 #[.string s] w fun e w' => e = .returned (.tuple #[.int .i64 (Pd.implV s.data.toList).1, .bool (Pd.implV s.data.toList).2]) ∧ Below w.heap.size w w' := by
  have HS := Lib.hid (fun w => specValue s w hs)
  rw [Pd.specV_eq] at HS
  generalize Pd.implV s.data.toList = r at *
  clear hs
  go_enter Tryd.func9, Tryd.ntmps9
  go_wp2_with fail
  refine (HS.out _).mono ?_; rintro e w' ⟨rfl, hb⟩
  have HB := Lib.hid hb
  clear hb
  go_wp2_with fail
  go_ret2
  exact ⟨rfl, HB.out⟩
theorem read_law (s : ByteArray) (hs : s.size ≤ maxLen) (w : World) (h1 : ErrV w 1) (h2 : ErrV w 2) (ht : Tab w) :
    Calls Tryd.prog 4 #[.string s] w fun e w' => e = .returned (.bool true) ∧ Below w.heap.size w w' := by
  have hs2 := hs
  unfold maxLen at hs2
  by_cases hl : 1048576 < s.size
  · clear h1 h2 ht hs
    go_enter Tryd.func4, Tryd.ntmps4
    go_wp2
    go_ret
    exact ⟨rfl, Below.refl _ _⟩
  · have HS := Lib.hid (specRead s hs w)
    have HI := Lib.hid (fun u h1 h2 h3 => implRead s (by omega) u h1 h2 h3)
    have H1 := Lib.hid h1
    have H2 := Lib.hid h2
    have HT := Lib.hid ht
    generalize Pd.implV s.data.toList = r at *
    clear h1 h2 ht hs
    go_enter Tryd.func4, Tryd.ntmps4
    go_wp2_with fail
    refine HS.out.mono ?_; rintro e w1 ⟨rfl, hb⟩
    have B1 := Lib.hid hb
    clear hb
    go_wp2_with fail
    refine (HI.out _ (H1.out.below B1.out) (H2.out.below B1.out) (HT.out.below B1.out)).mono ?_; rintro e w2 ⟨rfl, hb⟩
    have B2 : Hid (Below w.heap.size w w2) := B1.out.trans (hb.mono B1.out.size)
    clear hb B1
    go_wp2
    go_ret
    exact ⟨rfl, B2.out⟩
theorem fnExactReadDecimal_walk (s : ByteArray) (ws : s.size ≤ maxLen) (W : World) (hL : laidMet Tryd.prog Rows.fnExactReadDecimalRow.laid W) : Calls Tryd.prog 4 #[.string s] W fun e w' => e = .returned (.bool true) ∧ Below W.heap.size W w' :=
  read_law s ws W (errV_of (name := "strconv.ErrSyntax") Rows.laid_strconv_ErrSyntax ⟨_, _, rfl⟩ (by kernel_rfl) (by kernel_rfl) (by kernel_rfl) Tryd.underlying38 hL) (errV_of (name := "strconv.ErrRange") Rows.laid_strconv_ErrRange ⟨_, _, rfl⟩ (by kernel_rfl) (by kernel_rfl) (by kernel_rfl) Tryd.underlying38 hL) (tab_of (by kernel_rfl) hL)
end Go.Proofs.YtfkkabonpbpfoaaDoor.Wk
