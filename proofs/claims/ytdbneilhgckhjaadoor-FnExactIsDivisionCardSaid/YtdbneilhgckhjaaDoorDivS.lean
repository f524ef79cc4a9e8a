
/-
  The reference's 'IsDivision', walked.
-/
import Derived.Test.YtdbneilhgckhjaaDoorDivP
import Derived.Test.YtdbneilhgckhjaaDoorLater
namespace Go.Proofs.YtdbneilhgckhjaaDoor
open Go.RowKit

theorem cellsOf_len {r : Reg} {n : Int} (_ : r.Valid) : (r.cellsOf n).length ≤ 1048576 := by
  unfold Reg.cellsOf cellsM
  split
  · exact Nat.le_trans (cellsTo_le 36) (by decide)
  · exact Nat.zero_le _
set_option maxRecDepth 100000 in
set_option maxHeartbeats 3200000 in
theorem spec_isDivision_c {v v2 : Value} {r : Reg} {t : List Int} (w : World) (h : RegRd w 0 w.heap.size v r) (h2 : IntsRd w 0 w.heap.size v2 t) (hi64 : ∀ a ∈ t, I64 a) (hn : t.length ≤ 1048576) :
    Calls Tryd.prog 13 #[v, v2] w fun e w' => e = .returned (.bool (isDiv r t)) ∧ Below w.heap.size w w' := by
  have HRD : Hid (∀ w1, Below w.heap.size w w1 → RegRd w1 0 w1.heap.size v r) := Lib.hid fun w1 b1 => (h.keep (SameIn.of_below b1 (Nat.le_refl _))).more (Nat.le_refl _) b1.size
  obtain ⟨R, hR⟩ : ∃ R, R = isDiv r t := ⟨_, rfl⟩
  rw [← hR]
  have HR := Lib.hid hR
  have HI64 := Lib.hid hi64
  obtain ⟨s, rfl, hs⟩ := h
  obtain ⟨A, c, rfl, hm, hr⟩ := id hs
  obtain ⟨A2, c2, rfl, hm2, hr2⟩ := id h2
  have HR2 := Lib.hid hr2
  have H0 := ((Sep.start w).box 29 #[.int .i64 r.w, .slice A r.rows.length c])
  obtain ⟨bR, hbR⟩ : ∃ bR, bR = w.heap.size := ⟨_, rfl⟩
  rw [← hbR] at H0
  clear hr hs hR hr2 h2 hi64
  go_enter Tryd.func13, Tryd.ntmps13
  go_upto_region 1 with fail
  rw [← hbR]
  generalize (w.alloc (.cells #[.int .i64 r.w, .slice A r.rows.length c] 29)) = W at *
  clear hbR
  have c0 : W.cell? ⟨bR, 0, none⟩ = some (.int .i64 r.w) := H0.h0.cell 0
  have c1 : W.cell? ⟨bR, 1, none⟩ = some (.slice A r.rows.length c) := H0.h0.cell 1
  have HI := Lib.hid (spec_IsRegion_c W (HRD.out W H0.below))
  go_wp2_with fail
  refine (HI.out).mono ?_
  rintro e w1 ⟨rfl, b1⟩
  have H1 := H0.step b1
  clear H0 HI b1 c0 c1
  cases hv : r.valid
  · obtain rfl : R = false := by rw [HR.out]; unfold isDiv; rw [hv]; rfl
    clear hv
    go_wp2
    go_ret
    exact ⟨rfl, H1.below⟩
  have HV := Lib.hid (Reg.valid_iff.1 hv)
  have HVV := Lib.hid hv
  clear hv
  by_cases hl0 : t.length = 0
  · obtain rfl : R = false := by rw [HR.out]; unfold isDiv; rw [List.isEmpty_iff_length_eq_zero.2 hl0]; simp
    have hz : ((t.length : Int) == 0) = true := by simp [hl0]
    go_wp2
    go_ret
    exact ⟨rfl, H1.below⟩
  have hz : ((t.length : Int) == 0) = false := by simpa using hl0
  have hpos : 0 < t.length := by omega
  have hposi : (0 : Int) < (t.length : Int) := by omega
  obtain ⟨n0, hn0⟩ : ∃ n0, t[0]? = some n0 := ⟨t[0], List.getElem?_eq_getElem hpos⟩
  obtain ⟨b2, o2, hA2, _, hb2, hc2⟩ := HR2.out.2 (by omega)
  subst hA2
  have HC2 : Hid (∀ (j : Nat) (n : Int), t[j]? = some n → w.cell? ⟨b2, o2 + j, none⟩ = some (.int .i64 n)) := Lib.hid fun j n hj => hc2 j _ (by simp [ic, hj])
  have x0 : w1.drew.cell? ⟨b2, o2, none⟩ = some (.int .i64 n0) := (H1.drew.below.cell (p := ⟨b2, o2, none⟩) hb2).trans (HC2.out 0 n0 hn0)
  have c0 : w1.drew.cell? ⟨bR, 0, none⟩ = some (.int .i64 r.w) := H1.h0.cell 0
  have c1 : w1.drew.cell? ⟨bR, 1, none⟩ = some (.slice A r.rows.length c) := H1.h0.cell 1
  have HG0 : Hid (t.getD 0 0 = n0) := Lib.hid (by simp [List.getD, hn0])
  have HF := Lib.hid (spec_cellsOf_c n0 w1.drew (HRD.out w1.drew H1.drew.below) HV.out (HI64.out n0 (List.mem_of_getElem? hn0)))
  have H2 := H1.drew
  clear hc2 hn0 H1
  go_wp2_with fail
  go_cut [6] (fun vf wx => Hid (CellsRd wx 0 wx.heap.size vf (r.cellsOf n0)) ∧ Sep w wx [Res.box bR 29 #[.int .i64 r.w, .slice A r.rows.length c]])
  case first =>
    go_region_with (go_at_call 47; (with_reducible refine (HF.out).mono ?_); rintro en w4 ⟨vf, rfl, o4, b4⟩)
    all_goals (go_wp2_with fail; go_meet; exact ⟨Lib.hid (o4.rd.more (Nat.zero_le _) (Nat.le_refl _)), H2.step b4⟩)
  case rest =>
  obtain ⟨HF4, H4⟩ := hcut
  clear H2
  generalize hwc : wc = w4 at *
  clear hwc
  have HB0 : Hid (Below w.heap.size w w4) := Lib.hid H4.below
  have HCR : Hid (w4.cell? ⟨bR, 0, none⟩ = some (.int .i64 r.w) ∧ w4.cell? ⟨bR, 1, none⟩ = some (.slice A r.rows.length c) ∧ bR < w4.heap.size) := Lib.hid ⟨H4.h0.cell 0, H4.h0.cell 1, Blk.lt H4.h0⟩
  clear H4 HF c0 c1 x0
  go_wp2
  go_loopw [5, 7] (fun uv iv wx => ∃ i : Nat, i ≤ t.length ∧ iv = .int .i64 i ∧ uv = .int .i64 ((usedTo t i : Nat) : Int) ∧ Hid (∀ j < i, okDiv r t j = true) ∧ Below w4.heap.size w4 wx) (fun _ iv _ => t.length - (intOf iv).toNat)
  case atStart => exact ⟨0, Nat.zero_le _, rfl, rfl, Lib.hid (fun j hj => absurd hj (Nat.not_lt_zero j)), Below.refl _ _⟩
  case round =>
    obtain ⟨i, hi, rfl, rfl, HOK, hbel⟩ := hrel
    have HUL : Hid (usedTo t i < 2 ^ 36) := Lib.hid (usedTo_lt HV.out i hi HOK.out)
    obtain ⟨U, hU⟩ : ∃ U, U = usedTo t i := ⟨_, rfl⟩
    rw [← hU] at HUL ⊢
    have HU := Lib.hid hU
    clear hU
    by_cases hlt : i < t.length
    · have hlti : (i : Int) < (t.length : Int) := by omega
      obtain ⟨n, hn1⟩ : ∃ n, t[i]? = some n := ⟨t[i], List.getElem?_eq_getElem hlt⟩
      have HN1 := Lib.hid hn1
      have hbw := HB0.out.trans (hbel.mono HB0.out.size)
      have x0 : wr.drew.cell? ⟨b2, o2 + i, none⟩ = some (.int .i64 n) := ((below_drew hbw).cell (p := ⟨b2, o2 + i, none⟩) hb2).trans (HC2.out i n hn1)
      have c0 : wr.drew.cell? ⟨bR, 0, none⟩ = some (.int .i64 r.w) := ((below_drew hbel).cell (p := ⟨bR, 0, none⟩) HCR.out.2.2).trans HCR.out.1
      have c1 : wr.drew.cell? ⟨bR, 1, none⟩ = some (.slice A r.rows.length c) := ((below_drew hbel).cell (p := ⟨bR, 1, none⟩) HCR.out.2.2).trans HCR.out.2.1
      have HF := Lib.hid (spec_cellsOf_c n wr.drew (HRD.out wr.drew (below_drew hbw)) HV.out (HI64.out n (List.mem_of_getElem? hn1)))
      clear hn1 hbw
      go_wp2_with fail
      go_cut [8] (fun vc wx => Hid (CellsRd wx 0 wx.heap.size vc (r.cellsOf n)) ∧ Below w4.heap.size w4 wx)
      case first =>
        go_region_with (go_at_call 47; (with_reducible refine (HF.out).mono ?_); rintro en w5 ⟨vf, rfl, o4, b4⟩)
        all_goals (go_wp2_with fail; go_meet; exact ⟨Lib.hid (o4.rd.more (Nat.zero_le _) (Nat.le_refl _)), (below_drew hbel).trans (b4.mono (below_drew hbel).size)⟩)
      case rest =>
      obtain ⟨HF5, hb5⟩ := hcut
      clear HF x0 c0 c1 hbel
      generalize hwc : wc = w5 at *
      clear hwc
      have HC : Hid (∀ u' : Later w5, Calls Tryd.prog 48 #[u8] u'.w fun e w' => e = .returned (.bool (connS (r.cellsOf n))) ∧ Below u'.w.heap.size u'.w w') := Lib.hid fun u' =>
        spec_conn_c u'.w (Later.cells HF5.out) (cellsOf_len HV.out)
      have HG : Hid (∀ u' : Later w5, Calls Tryd.prog 49 #[u8, u6] u'.w fun e w' => e = .returned (.bool (congr (r.cellsOf n) (r.cellsOf n0))) ∧ Below u'.w.heap.size u'.w w') := Lib.hid fun u' =>
        spec_congr_c u'.w (Later.cells HF5.out) (Later.cells ((HF4.out.keep (SameIn.of_below hb5 (Nat.le_refl _))).more (Nat.le_refl _) hb5.size)) (cellsOf_len HV.out) (cellsOf_len HV.out)
      have hb7 := HB0.out.trans (hb5.mono HB0.out.size)
      have y1 : w5.cell? ⟨b2, o2 + i, none⟩ = some (.int .i64 n) := (hb7.cell (p := ⟨b2, o2 + i, none⟩) hb2).trans (HC2.out i n HN1.out)
      have hb2' : b2 < w5.heap.size := by have := hb7.size; omega
      have l1 := Later.cell y1 hb2'
      obtain ⟨C, hC⟩ : ∃ C, C = r.cellsOf n := ⟨_, rfl⟩
      obtain ⟨F, hF⟩ : ∃ F, F = r.cellsOf n0 := ⟨_, rfl⟩
      have HOA : Hid (okDiv r t i = (r.isMask n && (U &&& n.toNat == 0) && connS C && congr C F && (decide (i = 0) || decide (lowB (t.getD (i - 1) 0).toNat < lowB n.toNat)))) := Lib.hid (by rw [okDiv_at HN1.out, HU.out, hC, hF, HG0.out])
      rw [← hC] at HC HG HF5
      rw [← hF] at HG HF4
      have HCC := Lib.hid hC
      have HFF := Lib.hid hF
      clear hC hF hb7
      cases hz : (bits .and .i64 (U : Int) n == 0)
      · have HNO : Hid (okDiv r t i = false) := Lib.hid (by
          rw [HOA.out]
          cases hm : r.isMask n
          · rfl
          · rw [div_and HUL.out hm HV.out] at hz; rw [hz]; rfl)
        have hz2 : (bits .and .i64 (U : Int) n != 0) = true := by simp [bne, hz]
        clear hz
        obtain rfl : R = false := by rw [HR.out]; exact isDiv_no hlt HNO.out
        go_wp2_with fail
        refine wp_region_later (by kernel_rfl) (by kernel_rfl) ?_
        repeat (go_big_quiet_step (first | (go_at_call 48; with_reducible exact Later.call (HC.out _)) | (go_at_call 49; with_reducible exact Later.call (HG.out _))))
        refine wpQuiet_nil ?_
        intro w6 hw6
        obtain ⟨u6, hu6⟩ := hw6
        subst hu6
        have hb6 := hb5.trans (u6.h.mono hb5.size)
        generalize u6.w = w6 at *
        clear HC HG hb5 y1 l1
        go_wp2
        go_ret
        exact ⟨rfl, HB0.out.trans (hb6.mono HB0.out.size)⟩
      have hz2 : (bits .and .i64 (U : Int) n != 0) = false := by simp [bne, hz]
      have HZ := Lib.hid hz
      clear hz
      cases hcn : connS C
      · rw [hcn] at HC
        have HNO : Hid (okDiv r t i = false) := Lib.hid (by rw [HOA.out, hcn, Bool.and_false]; rfl)
        obtain rfl : R = false := by rw [HR.out]; exact isDiv_no hlt HNO.out
        go_wp2_with fail
        refine wp_region_later (by kernel_rfl) (by kernel_rfl) ?_
        repeat (go_big_quiet_step (first | (go_at_call 48; with_reducible exact Later.call (HC.out _)) | (go_at_call 49; with_reducible exact Later.call (HG.out _))))
        refine wpQuiet_nil ?_
        intro w6 hw6
        obtain ⟨u6, hu6⟩ := hw6
        subst hu6
        have hb6 := hb5.trans (u6.h.mono hb5.size)
        generalize u6.w = w6 at *
        clear HC HG hb5 y1 l1
        go_wp2
        go_ret
        exact ⟨rfl, HB0.out.trans (hb6.mono HB0.out.size)⟩
      have HMK : Hid (r.isMask n = true) := Lib.hid (connS_mask (by rw [← HCC.out]; exact hcn))
      have HN0 : Hid (n.toNat ≠ 0) := Lib.hid (conn_pos (r := r) (by rw [← HCC.out]; exact hcn))
      have HDJ : Hid ((U &&& n.toNat == 0) = true) := Lib.hid (by rw [← div_and HUL.out HMK.out HV.out]; exact HZ.out)
      have HCN := Lib.hid hcn
      rw [hcn] at HC
      cases hcg : congr C F
      · rw [hcg] at HG
        have HNO : Hid (okDiv r t i = false) := Lib.hid (by rw [HOA.out, hcg, Bool.and_false]; rfl)
        obtain rfl : R = false := by rw [HR.out]; exact isDiv_no hlt HNO.out
        go_wp2_with fail
        refine wp_region_later (by kernel_rfl) (by kernel_rfl) ?_
        repeat (go_big_quiet_step (first | (go_at_call 48; with_reducible exact Later.call (HC.out _)) | (go_at_call 49; with_reducible exact Later.call (HG.out _))))
        refine wpQuiet_nil ?_
        intro w6 hw6
        obtain ⟨u6, hu6⟩ := hw6
        subst hu6
        have hb6 := hb5.trans (u6.h.mono hb5.size)
        generalize u6.w = w6 at *
        clear HC HG hb5 y1 l1
        go_wp2
        go_ret
        exact ⟨rfl, HB0.out.trans (hb6.mono HB0.out.size)⟩
      have HCG := Lib.hid hcg
      rw [hcg] at HG
      clear hcn hcg
      by_cases hi0 : i = 0
      · have hdi : decide ((0 : Int) < (i : Int)) = false := by simp; omega
        have hdi2 : decide ((i : Int) > 0) = false := by simp; omega
        have hdn : decide (0 < i) = false := by simp; omega
        have hdl : ¬ (0 : Int) < (i : Int) := by omega
        have HYES : Hid (okDiv r t i = true) := Lib.hid (by rw [HOA.out, HMK.out, HDJ.out, HCN.out, HCG.out, hi0]; rfl)
        clear hi0
        go_wp2_with fail
        refine wp_region_later (by kernel_rfl) (by kernel_rfl) ?_
        repeat (go_big_quiet_step (first | (go_at_call 48; with_reducible exact Later.call (HC.out _)) | (go_at_call 49; with_reducible exact Later.call (HG.out _))))
        refine wpQuiet_nil ?_
        intro w6 hw6
        obtain ⟨u6, hu6⟩ := hw6
        subst hu6
        have hb6 := hb5.trans (u6.h.mono hb5.size)
        generalize u6.w = w6 at *
        clear HC HG hb5 y1 l1
        have y1 : w6.drew.cell? ⟨b2, o2 + i, none⟩ = some (.int .i64 n) := ((below_drew (HB0.out.trans (hb6.mono HB0.out.size))).cell (p := ⟨b2, o2 + i, none⟩) hb2).trans (HC2.out i n HN1.out)
        have y2 : w6.cell? ⟨b2, o2 + i, none⟩ = some (.int .i64 n) := y1
        have hor : bits .or .i64 (U : Int) n = ((usedTo t (i + 1) : Nat) : Int) := by
          have h1 := (okDiv_mask HYES.out HN1.out).1
          have h2 := mask_lt36 h1 HV.out
          obtain ⟨m, rfl⟩ := Int.eq_ofNat_of_zero_le (isMask_lt h1 HV.out).2
          rw [usedTo_succ HN1.out, i64_or_nat _ _ (by have := HUL.out; omega) (by simp at h2; omega), HU.out]; rfl
        have HOK2 : Hid (∀ j < i + 1, okDiv r t j = true) := Lib.hid fun j hj => by
          rcases Nat.lt_or_ge j i with h | h
          · exact HOK.out j h
          · obtain rfl : j = i := by omega
            exact HYES.out
        go_wp2
        go_roundw
        case rel => exact ⟨i + 1, by omega, by go_num, rfl, HOK2, hb6⟩
        case measure => simp [intOf]; omega
      · have hdi : decide ((0 : Int) < (i : Int)) = true := by simp; omega
        have hdi2 : decide ((i : Int) > 0) = true := by simp; omega
        have hdn : decide (0 < i) = true := by simp; omega
        have hdl : (0 : Int) < (i : Int) := by omega
        obtain ⟨p, hp⟩ : ∃ p, p = i - 1 := ⟨_, rfl⟩
        have HPI : Hid (i = p + 1) := Lib.hid (by omega)
        have e1 : (i : Int) - 1 = (p : Int) := by omega
        have e2 : IntKind.i64.wrap ((i : Int) - 1) = (p : Int) := by rw [e1]; exact IntWalk.i64_in _ (by omega)
        have e3 : (p : Int) < (t.length : Int) := by omega
        have e4 : p < t.length := by omega
        obtain ⟨a, ha⟩ : ∃ a, t[p]? = some a := ⟨t[p], List.getElem?_eq_getElem e4⟩
        have hga : t.getD (i - 1) 0 = a := by rw [← hp]; simp [List.getD, ha]
        have hokp := okDiv_mask (HOK.out p (by omega)) ha
        have HPM := Lib.hid hokp.1
        have HP0 : Hid (a.toNat ≠ 0) := Lib.hid (conn_pos hokp.2)
        have HPA := Lib.hid ha
        rw [hga] at HOA
        have y3 : w5.cell? ⟨b2, o2 + p, none⟩ = some (.int .i64 a) := ((HB0.out.trans (hb5.mono HB0.out.size)).cell (p := ⟨b2, o2 + p, none⟩) hb2).trans (HC2.out p a ha)
        have l2 := Later.cell y3 hb2'
        have HLN : Hid (∀ u' : Later w5, Calls Tryd.prog 50 #[.int .i64 n] u'.w fun e w' => e = .returned (.int .i64 (lowB n.toNat)) ∧ u'.w = w') := Lib.hid fun u' => by
          have h1 := spec_low_c u'.w HN0.out (mask_lt36 HMK.out HV.out)
          rwa [Int.toNat_of_nonneg (isMask_lt HMK.out HV.out).2] at h1
        have HLA : Hid (∀ u' : Later w5, Calls Tryd.prog 50 #[.int .i64 a] u'.w fun e w' => e = .returned (.int .i64 (lowB a.toNat)) ∧ u'.w = w') := Lib.hid fun u' => by
          have h1 := spec_low_c u'.w HP0.out (mask_lt36 HPM.out HV.out)
          rwa [Int.toNat_of_nonneg (isMask_lt HPM.out HV.out).2] at h1
        obtain ⟨x, hx⟩ : ∃ x, x = lowB n.toNat := ⟨_, rfl⟩
        obtain ⟨y, hy⟩ : ∃ y, y = lowB a.toNat := ⟨_, rfl⟩
        rw [← hx] at HLN HOA
        rw [← hy] at HLA HOA
        have HX := Lib.hid hx
        have HY := Lib.hid hy
        clear hp ha hga hokp hi0 hx hy y3
        by_cases hxy : x < y
        · have HNO : Hid (okDiv r t i = false) := Lib.hid (by rw [HOA.out, decide_eq_false (show ¬ i = 0 by have := HPI.out; omega), decide_eq_false (show ¬ y < x by omega)]; simp)
          have hdx : decide ((x : Int) < (y : Int)) = true := decide_eq_true (by omega)
          have hdx2 : decide (x < y) = true := decide_eq_true hxy
          obtain rfl : R = false := by rw [HR.out]; exact isDiv_no hlt HNO.out
          go_wp2_with fail
          refine wp_region_later (by kernel_rfl) (by kernel_rfl) ?_
          repeat (go_big_quiet_step (first | (go_at_call 48; with_reducible exact Later.call (HC.out _)) | (go_at_call 49; with_reducible exact Later.call (HG.out _))| (go_at_call 50; with_reducible exact Later.same (HLN.out _)) | (go_at_call 50; with_reducible exact Later.same (HLA.out _))))
          refine wpQuiet_nil ?_
          intro w6 hw6
          obtain ⟨u6, hu6⟩ := hw6
          subst hu6
          have hb6 := hb5.trans (u6.h.mono hb5.size)
          generalize u6.w = w6 at *
          clear HC HG hb5 y1 l1
          go_wp2
          go_ret
          exact ⟨rfl, HB0.out.trans (hb6.mono HB0.out.size)⟩
        · have HYES : Hid (okDiv r t i = true) := Lib.hid (by
            have hne : y ≠ x := by
              rw [HX.out, HY.out]
              refine low_ne HV.out HPA.out HPM.out HP0.out HMK.out HN0.out ?_
              rw [← HPI.out, ← HU.out]
              exact beq_iff_eq.1 HDJ.out
            rw [HOA.out, HMK.out, HDJ.out, HCN.out, HCG.out, decide_eq_true (show y < x by omega)]
            simp)
          have hdx : decide ((x : Int) < (y : Int)) = false := decide_eq_false (by omega)
          have hdx2 : decide (x < y) = false := decide_eq_false hxy
          have hdx3 : ¬ (x : Int) < (y : Int) := by omega
          go_wp2_with fail
          refine wp_region_later (by kernel_rfl) (by kernel_rfl) ?_
          repeat (go_big_quiet_step (first | (go_at_call 48; with_reducible exact Later.call (HC.out _)) | (go_at_call 49; with_reducible exact Later.call (HG.out _))| (go_at_call 50; with_reducible exact Later.same (HLN.out _)) | (go_at_call 50; with_reducible exact Later.same (HLA.out _))))
          refine wpQuiet_nil ?_
          intro w6 hw6
          obtain ⟨u6, hu6⟩ := hw6
          subst hu6
          have hb6 := hb5.trans (u6.h.mono hb5.size)
          generalize u6.w = w6 at *
          clear HC HG hb5 y1 l1
          have y1 : w6.drew.cell? ⟨b2, o2 + i, none⟩ = some (.int .i64 n) := ((below_drew (HB0.out.trans (hb6.mono HB0.out.size))).cell (p := ⟨b2, o2 + i, none⟩) hb2).trans (HC2.out i n HN1.out)
          have y2 : w6.cell? ⟨b2, o2 + i, none⟩ = some (.int .i64 n) := y1
          have hor : bits .or .i64 (U : Int) n = ((usedTo t (i + 1) : Nat) : Int) := by
            have h1 := (okDiv_mask HYES.out HN1.out).1
            have h2 := mask_lt36 h1 HV.out
            obtain ⟨m, rfl⟩ := Int.eq_ofNat_of_zero_le (isMask_lt h1 HV.out).2
            rw [usedTo_succ HN1.out, i64_or_nat _ _ (by have := HUL.out; omega) (by simp at h2; omega), HU.out]; rfl
          have HOK2 : Hid (∀ j < i + 1, okDiv r t j = true) := Lib.hid fun j hj => by
            rcases Nat.lt_or_ge j i with h | h
            · exact HOK.out j h
            · obtain rfl : j = i := by omega
              exact HYES.out
          go_wp2
          go_roundw
          case rel => exact ⟨i + 1, by omega, by go_num, rfl, HOK2, hb6⟩
          case measure => simp [intOf]; omega
    · obtain rfl : i = t.length := by omega
      have hlti : ¬ (t.length : Int) < (t.length : Int) := by omega
      have hbw := HB0.out.trans (hbel.mono HB0.out.size)
      have HI := Lib.hid (spec_mask_c wr (HRD.out wr hbw) HV.out)
      have c0 : wr.cell? ⟨bR, 0, none⟩ = some (.int .i64 r.w) := (hbel.cell (p := ⟨bR, 0, none⟩) HCR.out.2.2).trans HCR.out.1
      have c1 : wr.cell? ⟨bR, 1, none⟩ = some (.slice A r.rows.length c) := (hbel.cell (p := ⟨bR, 1, none⟩) HCR.out.2.2).trans HCR.out.2.1
      have HE : Hid (R = (U == r.mask)) := Lib.hid (by rw [HR.out, isDiv_end HVV.out hpos HOK.out, HU.out])
      go_wp2_with fail
      refine (HI.out).mono ?_
      rintro e w6 ⟨rfl, b6⟩
      have hq : ((U : Int) == (r.mask : Int)) = R := by rw [HE.out, Bool.eq_iff_iff]; simp only [beq_iff_eq]; omega
      go_wp2
      go_ret
      exact ⟨rfl, hbw.trans (b6.mono hbw.size)⟩
end Go.Proofs.YtdbneilhgckhjaaDoor
