
/-
  How many tilings a region has: both walks.
-/
import Derived.Test.YtccihgifdlpkgaaGreatDoorCntS
import Derived.Test.YtccihgifdlpkgaaGreatDoorFtS
namespace Go.Proofs.YtccihgifdlpkgaaGreatDoor
open Go.RowKit

/-- how many tilings, at most 2000; -1 if the problem is not right -/
def cntR (r : Reg) (ps : List (List Cell)) : Int := if (r.valid && arePcs ps) = true then (cntU (allN r ps) r.mask 2000 : Nat) else -1
theorem cntR_no {r : Reg} {ps : List (List Cell)} (h : (r.valid && arePcs ps) = false) : cntR r ps = -1 := by unfold cntR; rw [h]; rfl
theorem cntR_yes {r : Reg} {ps : List (List Cell)} (h : (r.valid && arePcs ps) = true) : cntR r ps = (cntU (allN r ps) r.mask 2000 : Nat) := by unfold cntR; rw [if_pos h]
set_option maxRecDepth 100000 in
set_option maxHeartbeats 1600000 in
theorem impl_count_c {v v2 : Value} {r : Reg} {ps : List (List Cell)} (w : World) (h : RegRd w 0 w.heap.size v r) (h2 : CellSSRd w 0 w.heap.size v2 ps) (hn : ps.length ≤ 1048576) (hl : ∀ s ∈ ps, s.length ≤ 1048576) (ht : Tab64 w) :
    Calls Tryz.prog 34 #[v, v2] w fun e w' => e = .returned (.int .i64 (cntR r ps)) ∧ Below w.heap.size w w' := by
  have HRD : Hid (∀ w1, Below w.heap.size w w1 → RegRd w1 0 w1.heap.size v r) := Lib.hid fun w1 b1 => (h.keep (SameIn.of_below b1 (Nat.le_refl _))).more (Nat.le_refl _) b1.size
  have HR2 : Hid (∀ w1, Below w.heap.size w w1 → CellSSRd w1 0 w1.heap.size v2 ps) := Lib.hid fun w1 b1 => (h2.keep (SameIn.of_below b1 (Nat.le_refl _))).more (Nat.le_refl _) b1.size
  have HTB : Hid (∀ w1, Below w.heap.size w w1 → Tab64 w1) := Lib.hid fun w1 b1 => tab64_on ht b1
  have HPR : Hid (∀ w1, Below w.heap.size w w1 → Calls Tryz.prog 47 #[v, v2] w1 fun e w' => e = .returned (.bool (r.valid && arePcs ps)) ∧ Below w1.heap.size w1 w') := Lib.hid fun w1 b1 =>
    impl_prob_c w1 (HRD.out w1 b1) (HR2.out w1 b1) hn hl
  obtain ⟨R, hR⟩ : ∃ b, b = cntR r ps := ⟨_, rfl⟩
  rw [← hR]
  have HR := Lib.hid hR
  obtain ⟨sr, rfl, hsr⟩ := h
  obtain ⟨A, c, rfl, _, _⟩ := hsr
  obtain ⟨vs, ⟨A2, c2, rfl, _, _⟩, _⟩ := h2
  have H0 := (Sep.start w).box 28 #[.int .i64 r.w, .slice A r.rows.length c]
  obtain ⟨bR, hbR⟩ : ∃ bR, bR = w.heap.size := ⟨_, rfl⟩
  rw [← hbR] at H0
  clear hR hn hl ht
  go_enter Tryz.func34, Tryz.ntmps34
  go_upto_region 1 with fail
  rw [← hbR]
  generalize (w.alloc (.cells #[.int .i64 r.w, .slice A r.rows.length c] 28)) = W at *
  clear hbR
  have c0 : W.cell? ⟨bR, 0, none⟩ = some (.int .i64 r.w) := H0.h0.cell 0
  have c1 : W.cell? ⟨bR, 1, none⟩ = some (.slice A r.rows.length c) := H0.h0.cell 1
  have HP := Lib.hid (HPR.out W H0.below)
  go_wp2_with fail
  refine (HP.out).mono ?_
  rintro e w1 ⟨rfl, b1⟩
  have H1 := (H0.step b1).drew
  have hB1 := (H0.step b1).below
  clear H0 b1 HP c0 c1 HPR
  cases hp : (r.valid && arePcs ps)
  · obtain rfl : R = -1 := by rw [HR.out, cntR_no hp]
    clear hp
    go_wp2
    go_ret
    exact ⟨rfl, hB1⟩
  have hR2 := cntR_yes hp
  rw [← HR.out] at hR2
  simp only [Bool.and_eq_true] at hp
  have HV := Lib.hid (Reg.valid_iff.1 hp.1)
  have HAP := Lib.hid hp.2
  clear hp
  have HALL : Hid (∀ w1, Below w.heap.size w w1 → Calls Tryz.prog 49 #[.agg #[.int .i64 r.w, .slice A r.rows.length c], .slice A2 ps.length c2] w1 fun e w' => ∃ v', e = .returned v' ∧ IntsIn w' w1.heap.size w'.heap.size v' (allP r ps) ∧ Below w1.heap.size w1 w') := Lib.hid fun w1 b1 =>
    impl_all_c w1 (HRD.out w1 b1) (HR2.out w1 b1) HV.out HAP.out
  have HMSK : Hid (∀ w1, Below w.heap.size w w1 → Calls Tryz.prog 50 #[.agg #[.int .i64 r.w, .slice A r.rows.length c]] w1 fun e w' => e = .returned (.int .i64 (r.mask : Int)) ∧ Below w1.heap.size w1 w') := Lib.hid fun w1 b1 =>
    impl_mask_c w1 (HRD.out w1 b1) HV.out
  have HORD : Hid (∀ w1 v, Below w.heap.size w w1 → IntsRd w1 0 w1.heap.size v (allP r ps) → Calls Tryz.prog 55 #[v, .int .i64 (r.mask : Int), .int .i64 2000] w1 fun e w' => e = .returned (.int .i64 R) ∧ Below w1.heap.size w1 w') := Lib.hid fun w1 v b1 hv => by
    rw [← nl_allN HV.out] at hv
    rw [hR2]
    have := countUpTo_c (free := r.mask) (N := 1999) w1 hv (allN_lt HV.out) (by have := allN_len HV.out (ps := ps); have := arePcs_on HAP.out; omega) (by have := Reg.mask_lt HV.out; omega) (by omega) (HTB.out w1 b1)
    exact this
  obtain ⟨M, hM⟩ : ∃ M, M = r.mask := ⟨_, rfl⟩
  obtain ⟨Q, hQ⟩ : ∃ Q, Q = allP r ps := ⟨_, rfl⟩
  rw [← hM] at HMSK HORD
  rw [← hQ] at HALL HORD
  have c0 : w1.drew.cell? ⟨bR, 0, none⟩ = some (.int .i64 r.w) := H1.h0.cell 0
  have c1 : w1.drew.cell? ⟨bR, 1, none⟩ = some (.slice A r.rows.length c) := H1.h0.cell 1
  clear hR2 hM hQ hB1 HR
  go_wp2_with fail
  go_cut [4] (fun lv wx => lv = .int .i64 R ∧ Below w.heap.size w wx)
  case first =>
    go_region_with (first
      | (go_at_call 49; (with_reducible refine (HALL.out _ H1.below).mono ?_); rintro e w4 ⟨av, rfl, o4, b4⟩; replace H1 := H1.step b4; have oa := (IntsIn.rd o4).more (Nat.zero_le _) (Nat.le_refl _); clear o4; obtain ⟨Aa, ca, rfl, _, _⟩ := id oa; clear c0 c1; have c0 : w4.cell? ⟨bR, 0, none⟩ = some (.int .i64 r.w) := H1.h0.cell 0; have c1 : w4.cell? ⟨bR, 1, none⟩ = some (.slice A r.rows.length c) := H1.h0.cell 1)
      | (go_at_call 50; (with_reducible refine (HMSK.out _ H1.below).mono ?_); rintro e w5 ⟨rfl, b5⟩; replace H1 := H1.step b5; first | replace oa := ints_keep oa b5 | skip; clear c0 c1; have c0 : w5.cell? ⟨bR, 0, none⟩ = some (.int .i64 r.w) := H1.h0.cell 0; have c1 : w5.cell? ⟨bR, 1, none⟩ = some (.slice A r.rows.length c) := H1.h0.cell 1)
      | (go_at_call 55; (with_reducible refine (HORD.out _ _ H1.below oa).mono ?_); rintro e w6 ⟨rfl, b6⟩))
    all_goals (go_wp2_with fail; go_meet; exact ⟨rfl, H1.below.trans (b6.mono H1.below.size)⟩)
  case rest =>
  obtain ⟨rfl, hb⟩ := hcut
  generalize hwc : wc = w7 at *
  clear hwc H1 c0 c1 HALL HMSK HORD
  go_wp2
  go_ret
  exact ⟨rfl, hb⟩
set_option maxRecDepth 100000 in
set_option maxHeartbeats 1600000 in
theorem spec_count_c {v v2 : Value} {r : Reg} {ps : List (List Cell)} (w : World) (h : RegRd w 0 w.heap.size v r) (h2 : CellSSRd w 0 w.heap.size v2 ps) (hn : ps.length ≤ 1048576) (hl : ∀ s ∈ ps, s.length ≤ 1048576) :
    Calls Tryz.prog 31 #[v, v2] w fun e w' => e = .returned (.int .i64 (cntR r ps)) ∧ Below w.heap.size w w' := by
  have HRD : Hid (∀ w1, Below w.heap.size w w1 → RegRd w1 0 w1.heap.size v r) := Lib.hid fun w1 b1 => (h.keep (SameIn.of_below b1 (Nat.le_refl _))).more (Nat.le_refl _) b1.size
  have HR2 : Hid (∀ w1, Below w.heap.size w w1 → CellSSRd w1 0 w1.heap.size v2 ps) := Lib.hid fun w1 b1 => (h2.keep (SameIn.of_below b1 (Nat.le_refl _))).more (Nat.le_refl _) b1.size
  have HAR : Hid (∀ w1, Below w.heap.size w w1 → Calls Tryz.prog 43 #[v2] w1 fun e w' => e = .returned (.bool (arePcs ps)) ∧ Below w1.heap.size w1 w') := Lib.hid fun w1 b1 =>
    spec_arePcs_c w1 (HR2.out w1 b1) hn hl
  obtain ⟨R, hR⟩ : ∃ b, b = cntR r ps := ⟨_, rfl⟩
  rw [← hR]
  have HR := Lib.hid hR
  obtain ⟨sr, rfl, hsr⟩ := h
  obtain ⟨A, c, rfl, _, _⟩ := hsr
  obtain ⟨vs, ⟨A2, c2, rfl, _, _⟩, _⟩ := h2
  have H0 := (Sep.start w).box 28 #[.int .i64 r.w, .slice A r.rows.length c]
  obtain ⟨bR, hbR⟩ : ∃ bR, bR = w.heap.size := ⟨_, rfl⟩
  rw [← hbR] at H0
  clear hR hn hl
  go_enter Tryz.func31, Tryz.ntmps31
  go_upto_region 1 with fail
  rw [← hbR]
  generalize (w.alloc (.cells #[.int .i64 r.w, .slice A r.rows.length c] 28)) = W at *
  clear hbR
  have c0 : W.cell? ⟨bR, 0, none⟩ = some (.int .i64 r.w) := H0.h0.cell 0
  have c1 : W.cell? ⟨bR, 1, none⟩ = some (.slice A r.rows.length c) := H0.h0.cell 1
  have HP := Lib.hid (spec_IsRegion_c W (HRD.out W H0.below))
  go_wp2_with fail
  refine (HP.out).mono ?_
  rintro e w1 ⟨rfl, b1⟩
  have H1 := H0.step b1
  clear H0 b1 HP c0 c1
  cases hv : r.valid
  · obtain rfl : R = -1 := by rw [HR.out, cntR_no (by rw [hv]; rfl)]
    have hB1 := H1.below
    clear hv
    go_wp2
    go_ret
    exact ⟨rfl, hB1⟩
  have HVV := Lib.hid hv
  have HP2 := Lib.hid (HAR.out w1 H1.below)
  clear hv HAR
  go_wp2_with fail
  refine (HP2.out).mono ?_
  rintro e w2 ⟨rfl, b2⟩
  replace H1 := H1.step b2
  clear HP2 b2
  cases hp : arePcs ps
  · obtain rfl : R = -1 := by rw [HR.out, cntR_no (by rw [hp, Bool.and_false])]
    have hB1 := H1.below
    clear hp
    go_wp2
    go_ret
    exact ⟨rfl, hB1⟩
  have hR2 := cntR_yes (r := r) (ps := ps) (by rw [hp, HVV.out]; rfl)
  rw [← HR.out] at hR2
  have HV := Lib.hid (Reg.valid_iff.1 HVV.out)
  have HAP := Lib.hid hp
  clear hp
  replace H1 := H1.drew
  have hB1 := H1.below
  have HALL : Hid (∀ w1, Below w.heap.size w w1 → Calls Tryz.prog 45 #[.agg #[.int .i64 r.w, .slice A r.rows.length c], .slice A2 ps.length c2] w1 fun e w' => ∃ v', e = .returned v' ∧ IntsIn w' w1.heap.size w'.heap.size v' (allP r ps) ∧ Below w1.heap.size w1 w') := Lib.hid fun w1 b1 =>
    spec_all_c w1 (HRD.out w1 b1) (HR2.out w1 b1) HV.out HAP.out
  have HMSK : Hid (∀ w1, Below w.heap.size w w1 → Calls Tryz.prog 46 #[.agg #[.int .i64 r.w, .slice A r.rows.length c]] w1 fun e w' => e = .returned (.int .i64 (r.mask : Int)) ∧ Below w1.heap.size w1 w') := Lib.hid fun w1 b1 =>
    spec_mask_c w1 (HRD.out w1 b1) HV.out
  have HORD : Hid (∀ w1 v, Below w.heap.size w w1 → IntsRd w1 0 w1.heap.size v (allP r ps) → Calls Tryz.prog 52 #[v, .int .i64 (r.mask : Int), .int .i64 2000] w1 fun e w' => e = .returned (.int .i64 R) ∧ Below w1.heap.size w1 w') := Lib.hid fun w1 v b1 hv => by
    rw [← nl_allN HV.out] at hv
    rw [hR2]
    exact count8_c (v := v) (allN_lt HV.out (ps := ps)) r.mask (by have := Reg.mask_lt HV.out; omega) 2000 w1 hv (by omega) (by omega)
  obtain ⟨M, hM⟩ : ∃ M, M = r.mask := ⟨_, rfl⟩
  obtain ⟨Q, hQ⟩ : ∃ Q, Q = allP r ps := ⟨_, rfl⟩
  rw [← hM] at HMSK HORD
  rw [← hQ] at HALL HORD
  have c0 : w2.drew.cell? ⟨bR, 0, none⟩ = some (.int .i64 r.w) := H1.h0.cell 0
  have c1 : w2.drew.cell? ⟨bR, 1, none⟩ = some (.slice A r.rows.length c) := H1.h0.cell 1
  clear hR2 hM hQ hB1 HR
  go_wp2_with fail
  go_cut [4] (fun lv wx => lv = .int .i64 R ∧ Below w.heap.size w wx)
  case first =>
    go_region_with (first
      | (go_at_call 45; (with_reducible refine (HALL.out _ H1.below).mono ?_); rintro e w4 ⟨av, rfl, o4, b4⟩; replace H1 := H1.step b4; have oa := (IntsIn.rd o4).more (Nat.zero_le _) (Nat.le_refl _); clear o4; obtain ⟨Aa, ca, rfl, _, _⟩ := id oa; clear c0 c1; have c0 : w4.cell? ⟨bR, 0, none⟩ = some (.int .i64 r.w) := H1.h0.cell 0; have c1 : w4.cell? ⟨bR, 1, none⟩ = some (.slice A r.rows.length c) := H1.h0.cell 1)
      | (go_at_call 46; (with_reducible refine (HMSK.out _ H1.below).mono ?_); rintro e w5 ⟨rfl, b5⟩; replace H1 := H1.step b5; first | replace oa := ints_keep oa b5 | skip; clear c0 c1; have c0 : w5.cell? ⟨bR, 0, none⟩ = some (.int .i64 r.w) := H1.h0.cell 0; have c1 : w5.cell? ⟨bR, 1, none⟩ = some (.slice A r.rows.length c) := H1.h0.cell 1)
      | (go_at_call 52; (with_reducible refine (HORD.out _ _ H1.below oa).mono ?_); rintro e w6 ⟨rfl, b6⟩))
    all_goals (go_wp2_with fail; go_meet; exact ⟨rfl, H1.below.trans (b6.mono H1.below.size)⟩)
  case rest =>
  obtain ⟨rfl, hb⟩ := hcut
  generalize hwc : wc = w7 at *
  clear hwc H1 c0 c1 HALL HMSK HORD
  go_wp2
  go_ret
  exact ⟨rfl, hb⟩
end Go.Proofs.YtccihgifdlpkgaaGreatDoor
