
/-
  The walks over regions: masks.
-/
import Derived.Test.YtdbneilhgckhjaaDoorRegB
namespace Go.Proofs.YtdbneilhgckhjaaDoor
open Go.RowKit

set_option maxRecDepth 100000 in
set_option maxHeartbeats 1600000 in
theorem impl_mask_c {v : Value} {r : Reg} (w : World) (h : RegRd w 0 w.heap.size v r) (hv : r.Valid) :
    Calls Tryd.prog 57 #[v] w fun e w' => e = .returned (.int .i64 (r.mask : Int)) ∧ Below w.heap.size w w' := by
  obtain ⟨s, rfl, hs⟩ := h
  obtain ⟨A, c, rfl, hm, hr⟩ := hs
  unfold maxLen at hm
  have hbel : Below w.heap.size w (w.alloc (.cells #[.int .i64 r.w, .slice A r.rows.length c] 29)) := (Below.refl _ _).alloc (Nat.le_refl _) _
  have hv4 := hv.2.2.2.1
  obtain ⟨wn, hwn⟩ : ∃ wn : Nat, r.w = (wn : Int) := ⟨r.w.toNat, by have := hv.1; omega⟩
  have hwn2 : r.w.toNat = wn := by omega
  have HV := Lib.hid hv
  have HW := Lib.hid hwn2
  rw [hwn] at hbel ⊢
  clear hv hwn hwn2
  go_enter Tryd.func57, Tryd.ntmps57
  go_wp2
  go_loop [3, 4, 5, 9] (fun m q p i => ∃ k : Nat, k ≤ r.rows.length ∧ i = .int .i64 k ∧ m = .int .i64 (r.maskTo k : Int)) (fun _ _ _ i => r.rows.length - (intOf i).toNat)
  case atStart => exact ⟨0, Nat.zero_le _, rfl, rfl⟩
  case round =>
    obtain ⟨k, hk, rfl, rfl⟩ := hrel
    by_cases hlt : k < r.rows.length
    · obtain ⟨b, off, a, rfl, _, hb, hla, q1⟩ := hr.at1 hlt
      obtain ⟨ea, hrow⟩ := Reg.row_of HV.out hla
      have e1 := Reg.maskTo_or HV.out k
      have b1 := Reg.maskTo_le HV.out (k := k) (by omega)
      have b2 := Reg.shl_le HV.out (k := k) (by omega)
      have b3 := Reg.kw_le HV.out (k := k) (by omega)
      rw [HW.out] at e1 b2 b3
      subst ea
      generalize r.row k = m at *
      have HE := Lib.hid e1
      clear hr hla e1 hrow
      have g0 : (0 : Int) ≤ (k : Int) * (wn : Int) := by exact_mod_cast Nat.zero_le _
      have g1 : (k : Int) * (wn : Int) ≤ 30 := by exact_mod_cast b3
      go_wp2
      go_round
      case rel => exact ⟨k + 1, by omega, by go_num, by rw [or_step (by omega) (by omega), HE.out]⟩
      case measure => simp [intOf]; omega
    · go_wp2
      go_ret
      have : k = r.rows.length := by omega
      subst this
      exact ⟨rfl, hbel⟩

set_option maxRecDepth 100000 in
set_option maxHeartbeats 1600000 in
theorem spec_mask_no {v : Value} {r : Reg} (w : World) (h : RegRd w 0 w.heap.size v r) (hv : ¬ r.Valid) :
    Calls Tryd.prog 51 #[v] w fun e w' => e = .returned (.int .i64 0) ∧ Below w.heap.size w w' := by
  obtain ⟨s, rfl, hs⟩ := h
  have hs0 := hs
  obtain ⟨A, c, rfl, hm, hr⟩ := hs
  unfold maxLen at hm
  have hbel : Below w.heap.size w (w.alloc (.cells #[.int .i64 r.w, .slice A r.rows.length c] 29)) := (Below.refl _ _).alloc (Nat.le_refl _) _
  have hf : r.valid = false := Reg.valid_not.2 hv
  clear hv
  by_cases hl : (0 : Int) < (r.rows.length : Int)
  · go_enter Tryd.func51, Tryd.ntmps51
    go_wp2
    refine wp_loop_rounds 1 ?_
    rw [rounds_succ]
    go_wp2_with fail
    refine (spec_IsRegion_c (r := r) _ ⟨_, rfl, ((hs0.keep (SameIn.of_below hbel (Nat.le_refl _))).more (Nat.le_refl _) (by simp))⟩).mono ?_
    rintro e w' ⟨rfl, hb⟩
    rw [hf]
    go_wp2
    go_ret
    exact ⟨rfl, hbel.trans (hb.mono hbel.size)⟩
  · go_enter Tryd.func51, Tryd.ntmps51
    go_wp2
    refine wp_loop_rounds 1 ?_
    rw [rounds_succ]
    go_wp2_with fail
    go_ret
    exact ⟨rfl, hbel⟩

set_option maxRecDepth 100000 in
set_option maxHeartbeats 1600000 in
theorem spec_mask_c {v : Value} {r : Reg} (w : World) (h : RegRd w 0 w.heap.size v r) (hv : r.Valid) :
    Calls Tryd.prog 51 #[v] w fun e w' => e = .returned (.int .i64 (r.mask : Int)) ∧ Below w.heap.size w w' := by
  obtain ⟨s, rfl, hs⟩ := h
  have hs0 := hs
  obtain ⟨A, c, rfl, hm, hr⟩ := hs
  unfold maxLen at hm
  have hbel : Below w.heap.size w (w.alloc (.cells #[.int .i64 r.w, .slice A r.rows.length c] 29)) := (Below.refl _ _).alloc (Nat.le_refl _) _
  have hv4 := hv.2.2.2.1
  have ht : r.valid = true := Reg.valid_iff.2 hv
  have HT := Lib.hid ht
  obtain ⟨wn, hwn⟩ : ∃ wn : Nat, r.w = (wn : Int) := ⟨r.w.toNat, by have := hv.1; omega⟩
  have hwn2 : r.w.toNat = wn := by omega
  have HV := Lib.hid hv
  have HW := Lib.hid hwn2
  have HN := Lib.hid hwn
  rw [hwn] at hbel ⊢
  clear hv hwn hwn2 ht
  go_enter Tryd.func51, Tryd.ntmps51
  go_wp2
  go_loopw [3, 4] (fun m i wr => ∃ k : Nat, k ≤ r.rows.length ∧ i = .int .i64 k ∧ m = .int .i64 (r.maskTo k : Int) ∧ Below w.heap.size w wr ∧ Blk wr w.heap.size 29 #[.int .i64 wn, .slice A r.rows.length c]) (fun _ i _ => r.rows.length - (intOf i).toNat)
  case atStart => exact ⟨0, Nat.zero_le _, rfl, rfl, hbel, Blk.new _ _ _⟩
  case round =>
    obtain ⟨k, hk, rfl, rfl, hbr, hblk⟩ := hrel
    have c0 := hblk.cell 0
    have c1 := hblk.cell 1
    simp at c0 c1
    have hsz := hbr.size
    by_cases hlt : k < r.rows.length
    · have HB := Lib.hid hblk
      clear hblk
      go_wp2_with fail
      refine (spec_IsRegion_c (r := r) _ ⟨_, by rw [HN.out], ((hs0.keep (SameIn.of_below hbr (Nat.le_refl _))).more (Nat.le_refl _) hsz)⟩).mono ?_
      rintro e w1 ⟨rfl, hb1⟩
      rw [HT.out]
      have hbr1 := hbr.trans (hb1.mono hsz)
      have hblk1 := HB.out.below hb1 HB.out.lt
      obtain ⟨b, off, a, rfl, _, hb, hla, q1⟩ := (hr.keep (SameIn.of_below hbr1 (Nat.le_refl _))).at1 hlt
      obtain ⟨ea, hrow⟩ := Reg.row_of HV.out hla
      have b1 := Reg.maskTo_le HV.out (k := k) (by omega)
      have b2 := Reg.shl_le HV.out (k := k) (by omega)
      have b3 := Reg.kw_le HV.out (k := k) (by omega)
      have b4 := Reg.maskTo_le HV.out (k := k + 1) (by omega)
      have e1 : r.maskTo (k + 1) = r.maskTo k + r.row k * 2 ^ (k * wn) := by rw [Reg.maskTo, HW.out]
      rw [e1] at b4
      rw [HW.out] at b2 b3
      subst ea
      generalize r.row k = m at *
      have HE := Lib.hid e1
      have HB1 := Lib.hid hblk1
      have c0 := hblk1.cell 0
      have c1 := hblk1.cell 1
      simp at c0 c1
      clear hr hla e1 hrow hblk1 hbel
      have g0 : (0 : Int) ≤ (k : Int) * (wn : Int) := by exact_mod_cast Nat.zero_le _
      have g1 : (k : Int) * (wn : Int) ≤ 30 := by exact_mod_cast b3
      have i0 : (0 : Int) ≤ (k : Int) := Int.natCast_nonneg _
      have i1 : (k : Int) < (r.rows.length : Int) := by omega
      go_wp2_with fail
      go_quiet (fail)
      go_wp2
      go_roundw
      case rel =>
        refine ⟨k + 1, by omega, by go_num, ?_, below_drewN hbr1 _, HB1.out⟩
        rw [shl_in (by omega), HE.out, IntWalk.wrap64_in _ ⟨by omega, by omega⟩]
        simp
      case measure => simp [intOf]; omega
    · go_wp2
      go_ret
      have : k = r.rows.length := by omega
      subst this
      exact ⟨rfl, hbr⟩

theorem isMask_step {a b : Nat} (ha : a < 9223372036854775808) (hb : b < 9223372036854775808) : (bits .andNot .i64 (a : Int) (b : Int) == 0) = (a &&& b == a) := by
  rw [i64_andNot_nat a b ha hb, Bool.eq_iff_iff]
  simp only [beq_iff_eq]
  rw [← andNot_zero a b (by omega) (by omega)]
  omega

set_option maxRecDepth 100000 in
set_option maxHeartbeats 1600000 in
theorem isMask_c {v : Value} {r : Reg} (n : Int) (w : World) (h : RegRd w 0 w.heap.size v r) (hv : r.Valid) (hn : n ≤ 9223372036854775807) :
    Calls Tryd.prog 52 #[v, .int .i64 n] w fun e w' => e = .returned (.bool (r.isMask n)) ∧ Below w.heap.size w w' := by
  obtain ⟨s, rfl, hs⟩ := h
  have hbel : Below w.heap.size w (w.alloc (.cells #[.int .i64 r.w, s] 29)) := (Below.refl _ _).alloc (Nat.le_refl _) _
  by_cases h0 : 0 ≤ n
  · obtain ⟨m, rfl⟩ := Int.eq_ofNat_of_zero_le h0
    have hml := Reg.mask_lt hv
    have hres : (bits .andNot .i64 (m : Int) (r.mask : Int) == 0) = r.isMask m := by rw [isMask_step (by omega) (by omega)]; simp [Reg.isMask]
    have HR := Lib.hid hres
    clear hres
    go_enter Tryd.func52, Tryd.ntmps52
    go_wp2_with fail
    refine (impl_mask_c _ ⟨_, rfl, ((hs.keep (SameIn.of_below hbel (Nat.le_refl _))).more (Nat.le_refl _) (by simp))⟩ hv).mono ?_
    rintro e w' ⟨rfl, hb⟩
    go_wp2
    go_ret
    exact ⟨by rw [← HR.out]; rfl, hbel.trans (hb.mono hbel.size)⟩
  · have hf : r.isMask n = false := by simp [Reg.isMask, h0]
    rw [hf]
    clear hf
    go_enter Tryd.func52, Tryd.ntmps52
    go_wp2_with fail
    go_ret
    exact ⟨rfl, hbel⟩

end Go.Proofs.YtdbneilhgckhjaaDoor
