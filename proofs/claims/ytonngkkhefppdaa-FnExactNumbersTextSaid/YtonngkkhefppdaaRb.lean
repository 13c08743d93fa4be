/- Sums and products of rows of numbers, and their laws. -/
import Derived.Test.YtonngkkhefppdaaRa
set_option linter.unusedSimpArgs false
set_option linter.unusedVariables false
namespace Go.Proofs.Ytonngkkhefppdaa.Wk
open Go.RowKit Fl

def sumK (f : Nat → Nat) : Nat → Nat
  | 0 => 0
  | k + 1 => fop .add .f32 (sumK f k) (can .f32 (f k))
def RS (v : Nat) (w : World) (e : Ending) (w' : World) : Prop := ∃ r n, e = .returned (.float .f32 r) ∧ can .f32 r = v ∧ w' = w.drewN n
theorem c0S : can .f32 0 = 0 := by decide +kernel
theorem cell_drewN (w : World) (n : Nat) (a : Addr) : (w.drewN n).cell? a = w.cell? a := (Go.below_drewN (Below.refl (a.block + 1) w) n).cell (by omega)

theorem specSum (v : Value) (n : Nat) (f : Nat → Nat) (w : World) (h : RowF w v n f) : Calls Try.prog 20 #[v] w (RS (sumK f n) w) := by
  obtain ⟨ao, cap, rfl, hm, hcell⟩ := h
  have hm2 : n ≤ 9223372036854775807 := by unfold maxLen at hm; omega
  have HC := Lib.hid hcell
  have k0 := c0S
  clear hcell hm
  go_enter Try.func20, Try.ntmps20
  go_wp2_with fail
  go_loopw [3, 4] (fun s q wr => ∃ (k r m : Nat), k ≤ n ∧ q = .int .i64 k ∧ s = .float .f32 r ∧ can .f32 r = sumK f k ∧ wr = w.drewN m) (fun _ q _ => n - (intOf q).toNat)
  case atStart => exact ⟨0, 0, 0, by omega, rfl, rfl, k0, rfl⟩
  case round =>
    obtain ⟨k, r, m, hk, rfl, rfl, hr, rfl⟩ := hrel
    by_cases hlt : k < n
    · obtain ⟨x, rfl, hxb, hcx⟩ := HC.out k hlt
      have hc0 : (w.drewN m).cell? (x.add k) = some (.float .f32 (f k)) := (cell_drewN _ _ _).trans hcx
      clear hcx hxb HC
      go_wp2_with (first | (refine wpList_fl _ rfl .add (by simp) _ _ _ _ _ _ _ rfl rfl rfl ?_; intro r n hr) | (refine wpList_fl _ rfl .sub (by simp) _ _ _ _ _ _ _ rfl rfl rfl ?_; intro r n hr) | (refine wpList_fl _ rfl .mul (by simp) _ _ _ _ _ _ _ rfl rfl rfl ?_; intro r n hr) | (refine wpList_fl _ rfl .quo (by simp) _ _ _ _ _ _ _ rfl rfl rfl ?_; intro r n hr) | (refine wpList_cmp _ rfl .lss (by simp) _ _ _ _ _ _ _ rfl rfl rfl ?_; try simp only [*]) | (refine wpList_cmp _ rfl .geq (by simp) _ _ _ _ _ _ _ rfl rfl rfl ?_; try simp only [*]) | (refine wpList_cmp _ rfl .gtr (by simp) _ _ _ _ _ _ _ rfl rfl rfl ?_; try simp only [*]) | (refine wpList_cmp _ rfl .neq (by simp) _ _ _ _ _ _ _ rfl rfl rfl ?_; try simp only [*]) | (refine wpList_cmp _ rfl .eql (by simp) _ _ _ _ _ _ _ rfl rfl rfl ?_; try simp only [*]) | (refine wpList_cmp _ rfl .leq (by simp) _ _ _ _ _ _ _ rfl rfl rfl ?_; try simp only [*]) | (refine wpList_neg _ rfl _ _ _ _ rfl rfl ?_; intro r hr))
      go_roundw
      case rel => exact ⟨k + 1, _, _, by omega, by go_num, rfl, by simp only [sumK, *], rfl⟩
      case measure => simp [intOf]; omega
    · obtain rfl : n = k := by omega
      go_wp2
      go_ret
      exact ⟨_, _, rfl, hr, rfl⟩
theorem implSum (v : Value) (n : Nat) (f : Nat → Nat) (w : World) (h : RowF w v n f) : Calls Try.prog 21 #[v] w (RS (sumK f n) w) := by
  obtain ⟨ao, cap, rfl, hm, hcell⟩ := h
  have hm2 : n ≤ 9223372036854775807 := by unfold maxLen at hm; omega
  have HC := Lib.hid hcell
  have k0 := c0S
  clear hcell hm
  go_enter Try.func21, Try.ntmps21
  go_wp2_with fail
  go_loopw [3, 8] (fun s q wr => ∃ (k r m : Nat), k ≤ n ∧ q = .int .i64 k ∧ s = .float .f32 r ∧ can .f32 r = sumK f k ∧ wr = w.drewN m) (fun _ q _ => n - (intOf q).toNat)
  case atStart => exact ⟨0, 0, 0, by omega, rfl, rfl, k0, rfl⟩
  case round =>
    obtain ⟨k, r, m, hk, rfl, rfl, hr, rfl⟩ := hrel
    by_cases hlt : k < n
    · obtain ⟨x, rfl, hxb, hcx⟩ := HC.out k hlt
      have hc0 : (w.drewN m).cell? (x.add k) = some (.float .f32 (f k)) := (cell_drewN _ _ _).trans hcx
      clear hcx hxb HC
      go_wp2_with (first | (refine wpList_fl _ rfl .add (by simp) _ _ _ _ _ _ _ rfl rfl rfl ?_; intro r n hr) | (refine wpList_fl _ rfl .sub (by simp) _ _ _ _ _ _ _ rfl rfl rfl ?_; intro r n hr) | (refine wpList_fl _ rfl .mul (by simp) _ _ _ _ _ _ _ rfl rfl rfl ?_; intro r n hr) | (refine wpList_fl _ rfl .quo (by simp) _ _ _ _ _ _ _ rfl rfl rfl ?_; intro r n hr) | (refine wpList_cmp _ rfl .lss (by simp) _ _ _ _ _ _ _ rfl rfl rfl ?_; try simp only [*]) | (refine wpList_cmp _ rfl .geq (by simp) _ _ _ _ _ _ _ rfl rfl rfl ?_; try simp only [*]) | (refine wpList_cmp _ rfl .gtr (by simp) _ _ _ _ _ _ _ rfl rfl rfl ?_; try simp only [*]) | (refine wpList_cmp _ rfl .neq (by simp) _ _ _ _ _ _ _ rfl rfl rfl ?_; try simp only [*]) | (refine wpList_cmp _ rfl .eql (by simp) _ _ _ _ _ _ _ rfl rfl rfl ?_; try simp only [*]) | (refine wpList_cmp _ rfl .leq (by simp) _ _ _ _ _ _ _ rfl rfl rfl ?_; try simp only [*]) | (refine wpList_neg _ rfl _ _ _ _ rfl rfl ?_; intro r hr))
      go_roundw
      case rel => exact ⟨k + 1, _, _, by omega, by go_num, rfl, by simp only [sumK, *], rfl⟩
      case measure => simp [intOf]; omega
    · obtain rfl : n = k := by omega
      go_wp2
      go_ret
      exact ⟨_, _, rfl, hr, rfl⟩
theorem specFew (v : Value) (n : Nat) (f : Nat → Nat) (w : World) (h : RowF w v n f) : Calls Try.prog 15 #[v] w fun e w' => e = .returned (.bool (decide (n ≤ 256))) ∧ w = w' := by
  obtain ⟨ao, cap, rfl, hm, hcell⟩ := h
  clear hcell hm
  go_enter Try.func15, Try.ntmps15
  go_wp2
  go_ret
  exact ⟨retB (by simp; try omega), rfl⟩
theorem implFew (v : Value) (n : Nat) (f : Nat → Nat) (w : World) (h : RowF w v n f) : Calls Try.prog 17 #[v] w fun e w' => e = .returned (.bool (decide (n ≤ 256))) ∧ w = w' := by
  obtain ⟨ao, cap, rfl, hm, hcell⟩ := h
  clear hcell hm
  go_enter Try.func17, Try.ntmps17
  go_wp2
  go_ret
  exact ⟨retB (by simp; try omega), rfl⟩
def RT (n v : Nat) (w : World) (e : Ending) (w' : World) : Prop := ∃ r m, e = .returned (.tuple #[.float .f32 r, .bool (decide (n ≤ 256))]) ∧ can .f32 r = (if n ≤ 256 then v else 0) ∧ w' = w.drewN m
theorem specSumNumbers (v : Value) (n : Nat) (f : Nat → Nat) (w : World) (h : RowF w v n f) : Calls Try.prog 10 #[v] w (RT n (sumK f n) w) := by
  have HF := Lib.hid (fun w (h : RowF w v n f) => specFew v n f w h)
  have HS := Lib.hid (fun w (h : RowF w v n f) => specSum v n f w h)
  have H := Lib.hid h
  clear h
  by_cases hn : n ≤ 256
  · have ht : decide (n ≤ 256) = true := by simpa using hn
    have Ht := Lib.hid ht
    rw [ht] at HF
    have Hv := Lib.hid (show (if n ≤ 256 then sumK f n else 0) = sumK f n by rw [if_pos hn])
    clear hn ht
    go_enter Try.func10, Try.ntmps10
    go_wp2_with fail
    refine (HF.out _ H.out).mono ?_; rintro e w' ⟨rfl, rfl⟩
    go_wp2_with fail
    refine (HS.out _ H.out).mono ?_; rintro e w' ⟨r, m, rfl, hr, rfl⟩
    go_wp2_with fail
    go_ret2
    refine ⟨_, _, ?_, hr.trans Hv.out.symm, rfl⟩
    rw [Ht.out]; rfl
  · have ht : decide (n ≤ 256) = false := by simpa using hn
    have Ht := Lib.hid ht
    rw [ht] at HF
    have Hv := Lib.hid (show (if n ≤ 256 then sumK f n else 0) = 0 by rw [if_neg hn])
    clear hn ht
    go_enter Try.func10, Try.ntmps10
    go_wp2_with fail
    refine (HF.out _ H.out).mono ?_; rintro e w' ⟨rfl, rfl⟩
    go_wp2_with fail
    go_ret2
    refine ⟨_, 0, ?_, c0S.trans Hv.out.symm, rfl⟩
    rw [Ht.out]; rfl
theorem implSumNumbers (v : Value) (n : Nat) (f : Nat → Nat) (w : World) (h : RowF w v n f) : Calls Try.prog 11 #[v] w (RT n (sumK f n) w) := by
  have HF := Lib.hid (fun w (h : RowF w v n f) => implFew v n f w h)
  have HS := Lib.hid (fun w (h : RowF w v n f) => implSum v n f w h)
  have H := Lib.hid h
  clear h
  by_cases hn : n ≤ 256
  · have ht : decide (n ≤ 256) = true := by simpa using hn
    have Ht := Lib.hid ht
    rw [ht] at HF
    have Hv := Lib.hid (show (if n ≤ 256 then sumK f n else 0) = sumK f n by rw [if_pos hn])
    clear hn ht
    go_enter Try.func11, Try.ntmps11
    go_wp2_with fail
    refine (HF.out _ H.out).mono ?_; rintro e w' ⟨rfl, rfl⟩
    go_wp2_with fail
    refine (HS.out _ H.out).mono ?_; rintro e w' ⟨r, m, rfl, hr, rfl⟩
    go_wp2_with fail
    go_ret2
    refine ⟨_, _, ?_, hr.trans Hv.out.symm, rfl⟩
    rw [Ht.out]; rfl
  · have ht : decide (n ≤ 256) = false := by simpa using hn
    have Ht := Lib.hid ht
    rw [ht] at HF
    have Hv := Lib.hid (show (if n ≤ 256 then sumK f n else 0) = 0 by rw [if_neg hn])
    clear hn ht
    go_enter Try.func11, Try.ntmps11
    go_wp2_with fail
    refine (HF.out _ H.out).mono ?_; rintro e w' ⟨rfl, rfl⟩
    go_wp2_with fail
    go_ret2
    refine ⟨_, 0, ?_, c0S.trans Hv.out.symm, rfl⟩
    rw [Ht.out]; rfl
theorem eqF (a b : Value) (n : Nat) (f : Nat → Nat) (w : World) (ha : RowF w a n f) (hb : RowF w b n f) : Calls Try.prog 9 #[a, b] w fun e w' => e = .returned (.bool true) ∧ ∃ n, w' = w.drewN n := by
  obtain ⟨ao, cap, rfl, hm, ca⟩ := ha
  obtain ⟨bo, cap2, rfl, hm', cb⟩ := hb
  have hm2 : n ≤ 9223372036854775807 := by unfold maxLen at hm; omega
  have HA := Lib.hid ca
  have HB := Lib.hid cb
  clear ca cb hm hm'
  go_enter Try.func9, Try.ntmps9
  go_wp2_with fail
  go_loopw [5] (fun q wr => ∃ (k m : Nat), k ≤ n ∧ q = .int .i64 k ∧ wr = w.drewN m) (fun q _ => n - (intOf q).toNat)
  case atStart => exact ⟨0, 0, by omega, rfl, rfl⟩
  case round =>
    obtain ⟨k, m, hk, rfl, rfl⟩ := hrel
    by_cases hlt : k < n
    · obtain ⟨x, rfl, hxb, hcx⟩ := HA.out k hlt
      obtain ⟨y, rfl, hyb, hcy⟩ := HB.out k hlt
      clear hxb HA hyb HB
      go_wp2_with fail
      refine Soft.wp_region_soft (by kernel_rfl) (by decide +kernel) (by decide +kernel) ?_
      iterate 4 (refine Soft.step_quiet (fun K hK => ?_); go_simp; (refine hK _ ?_; clear hK K))
      (refine Soft.step_wide rfl _ _ _ _ rfl rfl (by kernel_rfl) Try.underlying32 ?_; intro r hr)
      iterate 4 (refine Soft.step_quiet (fun K hK => ?_); go_simp; (refine hK _ ?_; clear hK K))
      (refine Soft.step_wide rfl _ _ _ _ rfl rfl (by kernel_rfl) Try.underlying32 ?_; intro r' hr')
      have HE := Lib.hid (hr.trans hr'.symm)
      clear hr hr'
      (refine Soft.step_quiet (fun K hK => ?_)
       go_simp
       apply Exists.intro
       refine ⟨fun jj => ?_, hK _ ?_⟩
       · refine (sameF _ _ HE.out _).mono ?_
         rintro e w' ⟨rfl, j, rfl⟩
         exact ⟨rfl, jj + j, by rw [World.drewN_drewN, Nat.add_assoc]⟩
       clear hK K)
      (refine Soft.step_quiet (fun K hK => ?_); go_simp; (refine hK _ ?_; clear hK K))
      rintro w' ⟨nn, rfl⟩
      go_wp2_with fail
      go_roundw
      case rel => exact ⟨k + 1, _, by omega, by go_num, rfl⟩
      case measure => simp [intOf]; omega
    · obtain rfl : n = k := by omega
      go_wp2
      go_ret
      exact ⟨rfl, _, rfl⟩
end Go.Proofs.Ytonngkkhefppdaa.Wk
