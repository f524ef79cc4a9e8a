
/-
  The law FnEdits, walked by contracts.
-/
import Derived.Test.YtfildenelgbmlaaGreatDoorFeE
import Derived.Test.YtfildenelgbmlaaGreatDoorFeD
import Derived.Test.YtfildenelgbmlaaGreatDoorFeC
import Derived.Deep.DeepCutAuto
namespace Go.Proofs.YtfildenelgbmlaaGreatDoor
open Go.RowKit

theorem reg_stepE {w w' : World} {v : Value} {r : Reg} (h : RegRd w 0 w.heap.size v r) (b : Below w.heap.size w w') : RegRd w' 0 w'.heap.size v r := (h.keep (SameIn.of_below b (Nat.le_refl _))).more (Nat.le_refl _) b.size
theorem eds_stepE {w w' : World} {v : Value} {l : List Ed} (h : EdsRd w 0 w.heap.size v l) (b : Below w.heap.size w w') : EdsRd w' 0 w'.heap.size v l := (h.keep (SameIn.of_below b (Nat.le_refl _))).more (Nat.le_refl _) b.size
theorem i_stepE {w w' : World} {v : Value} {l : List Int} (h : IntsRd w 0 w.heap.size v l) (b : Below w.heap.size w w') : IntsRd w' 0 w'.heap.size v l := (h.keep (SameIn.of_below b (Nat.le_refl _))).more (Nat.le_refl _) b.size
theorem c_stepE {w w' : World} {v : Value} {l : List Cell} (h : CellsRd w 0 w.heap.size v l) (b : Below w.heap.size w w') : CellsRd w' 0 w'.heap.size v l := (h.keep (SameIn.of_below b (Nat.le_refl _))).more (Nat.le_refl _) b.size
theorem ss_stepE {w w' : World} {v : Value} {l : List (List Cell)} (h : CellSSRd w 0 w.heap.size v l) (b : Below w.heap.size w w') : CellSSRd w' 0 w'.heap.size v l := (h.keep (SameIn.of_below b (Nat.le_refl _))).more (Nat.le_refl _) b.size
set_option maxRecDepth 100000 in
theorem eqReg_same {v v' : Value} {r : Reg} (w : World) (h : RegRd w 0 w.heap.size v r) (h' : RegRd w 0 w.heap.size v' r) :
    Calls Tryz.prog 26 #[v, v'] w fun e w' => e = .returned (.bool true) ∧ Below w.heap.size w w' := by
  refine (spec_eqReg_c w h h').mono ?_
  rintro e w' ⟨rfl, b⟩
  exact ⟨by rw [same_t rfl], b⟩
/-- a region in a box -/
def RegBoxAt (w0 w : World) (g : Nat) (r : Reg) (A : Option Addr) (c : Nat) : Prop := Sep w0 w [Res.box g 36 #[.int .i64 r.w, .slice A r.rows.length c]]
set_option maxRecDepth 100000 in
set_option maxHeartbeats 6400000 in
theorem law_fe (v : Value) (l : List UInt8) (w : World) (h : BytesRd w 0 w.heap.size v l) (htab : Tab64 w) :
    Calls Tryz.prog 5 #[v] w fun e w' => e = .returned (.bool true) ∧ Below w.heap.size w w' := by
  by_cases hl : l.length ≤ 1048576
  · have HBY : Hid (∀ w', Below w.heap.size w w' → BytesRd w' 0 w'.heap.size v l) := Lib.hid fun w' b => (h.keep (SameIn.of_below b (Nat.le_refl _))).more (Nat.le_refl _) b.size
    have HTB : Hid (∀ w', Below w.heap.size w w' → Tab64 w') := Lib.hid fun w' b => tab64_on htab b
    go_enter Tryz.func5, Tryz.ntmps5
    go_wp2_with fail
    refine (big_no w h hl).mono ?_
    rintro e w' ⟨rfl, rfl⟩
    go_wp2_with fail
    refine (drawApply_c w h hl).mono ?_
    rintro e W ⟨vr, ve, r, M, rfl, hd, hM, hr, he, b1⟩
    have HW1 := Lib.hid b1
    clear b1 h htab
    have HRG : Hid (∀ w', Below W.heap.size W w' → RegRd w' 0 w'.heap.size vr r) := Lib.hid fun w' b => reg_stepE (hr.more (Nat.zero_le _) (Nat.le_refl _)) b
    have HED : Hid (∀ w', Below W.heap.size W w' → EdsRd w' 0 w'.heap.size ve M) := Lib.hid fun w' b => eds_stepE (he.more (Nat.zero_le _) (Nat.le_refl _)) b
    obtain ⟨sr, rfl, A, c, rfl, _, _⟩ := hr
    obtain ⟨Ae, ce, rfl, _, _⟩ := he
    have hr20 := hd.2
    have hy20 := ap_len (M := M) hr20
    have HUN : Hid (∀ y, r.applyEds M = some y → y.applyEds (undo M) = some r) := Lib.hid fun y hy => (applyEds_undo hy).1
    obtain ⟨R, hR⟩ : ∃ R, R = r.applyEds M := ⟨_, rfl⟩
    rw [← hR] at hy20 HUN
    have H1 : Hid (∀ w', Below W.heap.size W w' → Calls Tryz.prog 37 #[.agg #[.int .i64 r.w, .slice A r.rows.length c], .slice Ae M.length ce] w' fun e w'' => ∃ v1, e = .returned (.tuple #[v1, .bool R.isSome]) ∧ RegIn w'' w'.heap.size w''.heap.size v1 (R.getD ⟨0, []⟩) ∧ Below w'.heap.size w' w'') := Lib.hid fun w' b => by
      rw [hR]; exact impl_applyEds_c w' (HRG.out w' b) (HED.out w' b) (by omega)
    have H2 : Hid (∀ w', Below W.heap.size W w' → Calls Tryz.prog 38 #[.agg #[.int .i64 r.w, .slice A r.rows.length c], .slice Ae M.length ce] w' fun e w'' => ∃ v1, e = .returned (.tuple #[v1, .bool R.isSome]) ∧ RegIn w'' w'.heap.size w''.heap.size v1 (R.getD ⟨0, []⟩) ∧ Below w'.heap.size w' w'') := Lib.hid fun w' b => by
      rw [hR]; exact spec_applyEds_c w' (HRG.out w' b) (HED.out w' b) (by omega)
    have H3 : Hid (∀ w', Below W.heap.size W w' → Calls Tryz.prog 39 #[.slice Ae M.length ce] w' fun e w'' => ∃ v', e = .returned v' ∧ EdsIn w'' w'.heap.size w''.heap.size v' (undo M) ∧ Below w'.heap.size w' w'') := Lib.hid fun w' b => impl_undo_c w' (HED.out w' b) (by omega)
    clear hR hd
    have HS := (Sep.start W).box 36 #[.int .i64 r.w, .slice A r.rows.length c]
    go_upto_region 4 with fail
    obtain ⟨g3, hg⟩ : ∃ k, k = W.heap.size := ⟨_, rfl⟩
    rw [← hg] at HS ⊢
    generalize W.alloc (.cells #[.int .i64 r.w, .slice A r.rows.length c] 36) = w1 at *
    clear hg
    have x0 := HS.h0.cell 0
    have x1 := HS.h0.cell 1
    simp at x0 x1
    go_wp2_with fail
    refine (H1.out _ HS.below).mono ?_
    rintro e w2 ⟨v1, rfl, o1, b1⟩
    have HY1 : Hid (∀ w', Below w2.heap.size w2 w' → RegRd w' 0 w'.heap.size v1 (R.getD ⟨0, []⟩)) := Lib.hid fun w' b => reg_stepE ((RegIn.rd o1).more (Nat.zero_le _) (Nat.le_refl _)) b
    obtain ⟨Y, hY⟩ : ∃ Y, Y = R.getD ⟨0, []⟩ := ⟨_, rfl⟩
    rw [← hY] at HY1 o1 hy20
    rw [← hY] at H2
    obtain ⟨s1, rfl, o1⟩ := o1
    obtain ⟨A1, c1, rfl, _, _⟩ := o1.rd
    replace HS := (HS.step b1).box 36 #[.int .i64 Y.w, .slice A1 Y.rows.length c1]
    have BY1 : Below w2.heap.size w2 (w2.alloc (.cells #[.int .i64 Y.w, .slice A1 Y.rows.length c1] 36)) := ((Sep.start w2).box 36 #[.int .i64 Y.w, .slice A1 Y.rows.length c1]).below
    have HY := Lib.hid hY
    clear x0 x1 o1 b1 H1 hY
    go_upto_region 5 with fail
    obtain ⟨g5, hg⟩ : ∃ k, k = w2.heap.size := ⟨_, rfl⟩
    rw [← hg] at HS ⊢
    generalize w2.alloc (.cells #[.int .i64 Y.w, .slice A1 Y.rows.length c1] 36) = w3 at *
    clear hg
    have x0 := HS.h1.cell 0
    have x1 := HS.h1.cell 1
    simp at x0 x1
    go_wp2_with fail
    refine (H2.out _ HS.below).mono ?_
    rintro e w4 ⟨v2, rfl, o2, b2⟩
    have HY2 : Hid (∀ w', Below w4.heap.size w4 w' → RegRd w' 0 w'.heap.size v2 Y) := Lib.hid fun w' b => reg_stepE ((RegIn.rd o2).more (Nat.zero_le _) (Nat.le_refl _)) b
    obtain ⟨s2, rfl, o2⟩ := o2
    obtain ⟨A2, c2, rfl, _, _⟩ := o2.rd
    replace BY1 := BY1.trans (b2.mono BY1.size)
    replace HS := (HS.step b2).box 36 #[.int .i64 Y.w, .slice A2 Y.rows.length c2]
    have BX : Below w4.heap.size w4 (w4.alloc (.cells #[.int .i64 Y.w, .slice A2 Y.rows.length c2] 36)) := ((Sep.start w4).box 36 #[.int .i64 Y.w, .slice A2 Y.rows.length c2]).below
    replace BY1 := BY1.trans (BX.mono BY1.size)
    have BY2 := BX
    clear x0 x1 o2 b2 H2 BX
    go_upto_region 6 with fail
    obtain ⟨g7, hg⟩ : ∃ k, k = w4.heap.size := ⟨_, rfl⟩
    rw [← hg] at HS ⊢
    generalize w4.alloc (.cells #[.int .i64 Y.w, .slice A2 Y.rows.length c2] 36) = w5 at *
    clear hg
    go_wp2_with fail
    refine (H3.out _ HS.below).mono ?_
    rintro e w6 ⟨vu, rfl, ou, bu⟩
    have HU : Hid (∀ w', Below w6.heap.size w6 w' → EdsRd w' 0 w'.heap.size vu (undo M)) := Lib.hid fun w' b => eds_stepE ((EdsIn.rd ou).more (Nat.zero_le _) (Nat.le_refl _)) b
    obtain ⟨Au, cu, rfl, _, _⟩ := EdsIn.rd ou
    rw [undo_len] at HU ⊢
    replace HS := HS.step bu
    replace BY1 := BY1.trans (bu.mono BY1.size)
    replace BY2 := BY2.trans (bu.mono BY2.size)
    clear ou bu H3
    have x0 := HS.h0.cell 0
    have x1 := HS.h0.cell 1
    have y0 := HS.h1.cell 0
    have y1 := HS.h1.cell 1
    simp at x0 x1 y0 y1
    have HQ := Lib.hid (eqReg_same w6 (HY1.out _ BY1) (HY2.out _ BY2))
    go_wp2_with fail
    refine (HQ.out).mono ?_
    rintro e w7 ⟨rfl, bq⟩
    replace HS := HS.step bq
    replace BY2 := BY2.trans (bq.mono BY2.size)
    have BU := bq
    clear x0 x1 y0 y1 HQ BY1 HY1 bq
    go_upto_if 73 with fail
    have HB7 := Lib.hid (HW1.out.trans (HS.below.mono HW1.out.size))
    go_cut [2] (fun s wx => s = .bool false ∧ Below w.heap.size w wx)
    case first =>
      as_aux_lemma =>
        cases R with
        | none =>
          go_wp2_with fail
          go_meet
          exact ⟨rfl, HB7.out⟩
        | some y =>
          have hyu := HUN.out y rfl
          have HYe : Y = y := HY.out
          subst HYe
          have x0 := HS.h0.cell 0
          have x1 := HS.h0.cell 1
          simp at x0 x1
          have HAP := Lib.hid (impl_applyEds_c w7 (HY2.out _ BY2) (HU.out _ BU) (by omega))
          rw [hyu] at HAP
          clear HUN HY
          go_wp2_with fail
          refine (HAP.out).mono ?_
          rintro e w8 ⟨v3, rfl, o3, b3⟩
          rw [Option.getD_some] at o3
          have HR3 := Lib.hid ((RegIn.rd o3).more (Nat.zero_le _) (Nat.le_refl _))
          obtain ⟨s3, rfl, o3⟩ := o3
          obtain ⟨A3, c3, rfl, _, _⟩ := o3.rd
          replace HS := (HS.step b3).box 36 #[.int .i64 r.w, .slice A3 r.rows.length c3]
          have BX : Below w8.heap.size w8 (w8.alloc (.cells #[.int .i64 r.w, .slice A3 r.rows.length c3] 36)) := ((Sep.start w8).box 36 #[.int .i64 r.w, .slice A3 r.rows.length c3]).below
          clear x0 x1 o3 b3 HAP
          go_upto_region 11 with fail
          obtain ⟨g10, hg⟩ : ∃ k, k = w8.heap.size := ⟨_, rfl⟩
          rw [← hg] at HS ⊢
          generalize w8.alloc (.cells #[.int .i64 r.w, .slice A3 r.rows.length c3] 36) = w9 at *
          clear hg
          have x0 := HS.h0.cell 0
          have x1 := HS.h0.cell 1
          have y0 := HS.h3.cell 0
          have y1 := HS.h3.cell 1
          simp at x0 x1 y0 y1
          have HQ := Lib.hid (eqReg_same w9 (reg_stepE HR3.out BX) (HRG.out _ HS.below))
          go_wp2_with fail
          refine (HQ.out).mono ?_
          rintro e w10 ⟨rfl, bq⟩
          have HB10 := Lib.hid (HW1.out.trans ((HS.step bq).below.mono HW1.out.size))
          clear x0 x1 y0 y1 HQ bq HS
          go_wp2_with fail
          go_meet
          exact ⟨rfl, HB10.out⟩
    case rest =>
    as_aux_lemma =>
      clear HS BY2 BU HY2 HU HY HUN HRG HED HW1 HB7
      obtain ⟨rfl, hb⟩ := hcut
      generalize hwc : wc = wA at *
      clear hwc
      have HB0 := Lib.hid hb
      clear hb
      go_wp2_with fail
      refine (drawBetw_c wA (HBY.out _ HB0.out) hl).mono ?_
      rintro e WB ⟨va, vb, a, b, rfl, ha20, hb20, ha, hb, bB⟩
      have HW1 := Lib.hid (HB0.out.trans (bB.mono HB0.out.size))
      have HA : Hid (∀ w', Below WB.heap.size WB w' → RegRd w' 0 w'.heap.size va a) := Lib.hid fun w' b => reg_stepE ha b
      have HB : Hid (∀ w', Below WB.heap.size WB w' → RegRd w' 0 w'.heap.size vb b) := Lib.hid fun w' b => reg_stepE hb b
      obtain ⟨sa, rfl, Aa, ca, rfl, _, _⟩ := ha
      obtain ⟨sb, rfl, Ab, cb, rfl, _, _⟩ := hb
      obtain ⟨G, hG⟩ : ∃ G, G = sameGrid a b := ⟨_, rfl⟩
      obtain ⟨L, hL⟩ : ∃ L, L = betw a b := ⟨_, rfl⟩
      have hLl : L.length ≤ 72 := by rw [hL]; exact betw_length
      have HG : Hid (G = true → a.applyEds L = some b) := Lib.hid fun hg => by rw [hL]; exact betw_leads (by rw [← hG]; exact hg)
      have H1 : Hid (∀ w', Below WB.heap.size WB w' → Calls Tryz.prog 41 #[.agg #[.int .i64 a.w, .slice Aa a.rows.length ca], .agg #[.int .i64 b.w, .slice Ab b.rows.length cb]] w' fun e w'' => ∃ v1, e = .returned (.tuple #[v1, .bool G]) ∧ EdsIn w'' w'.heap.size w''.heap.size v1 L ∧ Below w'.heap.size w' w'') := Lib.hid fun w' b => by
        rw [hG, hL]; exact impl_betw_c w' (HA.out w' b) (HB.out w' b)
      have H2 : Hid (∀ w', Below WB.heap.size WB w' → Calls Tryz.prog 42 #[.agg #[.int .i64 a.w, .slice Aa a.rows.length ca], .agg #[.int .i64 b.w, .slice Ab b.rows.length cb]] w' fun e w'' => ∃ v1, e = .returned (.tuple #[v1, .bool G]) ∧ EdsIn w'' w'.heap.size w''.heap.size v1 L ∧ Below w'.heap.size w' w'') := Lib.hid fun w' b => by
        rw [hG, hL]; exact spec_betw_c w' (HA.out w' b) (HB.out w' b)
      clear hG hL bB HB0
      have HS := ((Sep.start WB).box 36 #[.int .i64 a.w, .slice Aa a.rows.length ca]).box 36 #[.int .i64 b.w, .slice Ab b.rows.length cb]
      simp only [World.size_alloc] at HS
      go_upto_region 14 with fail
      obtain ⟨g12, hg⟩ : ∃ k, k = WB.heap.size := ⟨_, rfl⟩
      rw [← hg] at HS ⊢
      generalize (WB.alloc (.cells #[.int .i64 a.w, .slice Aa a.rows.length ca] 36)).alloc (.cells #[.int .i64 b.w, .slice Ab b.rows.length cb] 36) = w2 at *
      clear hg
      have HH : Below WB.heap.size WB w2 := HS.below
      have x0 := HS.h1.cell 0
      have x1 := HS.h1.cell 1
      have y0 := HS.h0.cell 0
      have y1 := HS.h0.cell 1
      simp at x0 x1 y0 y1
      go_wp2_with fail
      refine (H1.out _ HH).mono ?_
      rintro e w3 ⟨v1, rfl, o1, b1⟩
      have HE1 := Lib.hid ((EdsIn.rd o1).more (Nat.zero_le _) (Nat.le_refl _))
      obtain ⟨A1, c1, rfl, _, _⟩ := EdsIn.rd o1
      replace HS := HS.step b1
      replace HH := HH.trans (b1.mono HH.size)
      clear x0 x1 y0 y1 o1 b1 H1
      have x0 := HS.h1.cell 0
      have x1 := HS.h1.cell 1
      have y0 := HS.h0.cell 0
      have y1 := HS.h0.cell 1
      simp at x0 x1 y0 y1
      go_wp2_with fail
      refine (H2.out _ HH).mono ?_
      rintro e w4 ⟨v2, rfl, o2, b2⟩
      have HE2 := Lib.hid ((EdsIn.rd o2).more (Nat.zero_le _) (Nat.le_refl _))
      obtain ⟨A2, c2, rfl, _, _⟩ := EdsIn.rd o2
      replace HE1 := Lib.hid (eds_stepE HE1.out b2)
      replace HS := HS.step b2
      replace HH := HH.trans (b2.mono HH.size)
      clear x0 x1 y0 y1 o2 b2 H2
      have HF1 := Lib.hid (impl_fmtEds_c w4 HE1.out (by omega))
      have HFS : Hid (∀ w' : World, EdsRd w' 0 w'.heap.size (.slice A2 L.length c2) L → Calls Tryz.prog 44 #[.slice A2 L.length c2] w' fun e w'' => e = .returned (.string (fmtEds L)) ∧ Below w'.heap.size w' w'') := Lib.hid fun w' h => spec_fmtEds_c w' h (by omega)
      generalize fmtEds L = F at *
      go_wp2_with fail
      refine (HF1.out).mono ?_
      rintro e w5 ⟨rfl, b5⟩
      replace HE2 := Lib.hid (eds_stepE HE2.out b5)
      replace HS := HS.step b5
      replace HH := HH.trans (b5.mono HH.size)
      clear b5 HF1 HE1
      have HF2 := Lib.hid (HFS.out w5 HE2.out)
      go_wp2_with fail
      refine (HF2.out).mono ?_
      rintro e w6 ⟨rfl, b6⟩
      replace HE2 := Lib.hid (eds_stepE HE2.out b6)
      replace HS := HS.step b6
      replace HH := HH.trans (b6.mono HH.size)
      clear b6 HF2 HFS
      go_upto_if 122 with fail
      have HB7 := Lib.hid (HW1.out.trans (HH.mono HW1.out.size))
      go_cut [2] (fun s wx => s = .bool false ∧ Below w.heap.size w wx)
      case first =>
        as_aux_lemma =>
          cases G
          · go_wp2_with fail
            go_meet
            exact ⟨rfl, HB7.out⟩
          · have hap := HG.out rfl
            have x0 := HS.h1.cell 0
            have x1 := HS.h1.cell 1
            simp at x0 x1
            have HAP := Lib.hid (impl_applyEds_c w6 (HA.out _ HH) HE2.out (by omega))
            rw [hap] at HAP
            clear HG hap
            go_wp2_with fail
            refine (HAP.out).mono ?_
            rintro e w8 ⟨v3, rfl, o3, b3⟩
            rw [Option.getD_some] at o3
            have HR3 := Lib.hid ((RegIn.rd o3).more (Nat.zero_le _) (Nat.le_refl _))
            obtain ⟨s3, rfl, o3⟩ := o3
            obtain ⟨A3, c3, rfl, _, _⟩ := o3.rd
            replace HS := (HS.step b3).box 36 #[.int .i64 b.w, .slice A3 b.rows.length c3]
            have BX : Below w8.heap.size w8 (w8.alloc (.cells #[.int .i64 b.w, .slice A3 b.rows.length c3] 36)) := ((Sep.start w8).box 36 #[.int .i64 b.w, .slice A3 b.rows.length c3]).below
            clear x0 x1 o3 b3 HAP
            go_upto_region 20 with fail
            obtain ⟨g18, hg⟩ : ∃ k, k = w8.heap.size := ⟨_, rfl⟩
            rw [← hg] at HS ⊢
            generalize w8.alloc (.cells #[.int .i64 b.w, .slice A3 b.rows.length c3] 36) = w9 at *
            clear hg
            have x0 := HS.h0.cell 0
            have x1 := HS.h0.cell 1
            have y0 := HS.h1.cell 0
            have y1 := HS.h1.cell 1
            simp at x0 x1 y0 y1
            have HQ := Lib.hid (eqReg_same w9 (reg_stepE HR3.out BX) (HB.out _ HS.below))
            go_wp2_with fail
            refine (HQ.out).mono ?_
            rintro e w10 ⟨rfl, bq⟩
            have HB10 := Lib.hid (HW1.out.trans ((HS.step bq).below.mono HW1.out.size))
            clear x0 x1 y0 y1 HQ bq HS
            go_wp2_with fail
            go_meet
            exact ⟨rfl, HB10.out⟩
      case rest =>
      as_aux_lemma =>
        clear HS HE2 HH HG HA HB HW1 HB7 hLl ha20 hb20
        obtain ⟨rfl, hb⟩ := hcut
        generalize hwc : wc = wA at *
        clear hwc
        have HB0 := Lib.hid hb
        clear hb
        go_wp2_with fail
        refine (drawRep_c wA (HBY.out _ HB0.out) hl).mono ?_
        rintro e WB ⟨vx, vp, vk, x, ps, k, rfl, hx20, hp3, hp8, hkl, hx, hp, hk, bB⟩
        have HW1 := Lib.hid (HB0.out.trans (bB.mono HB0.out.size))
        have HX : Hid (∀ w', Below WB.heap.size WB w' → RegRd w' 0 w'.heap.size vx x) := Lib.hid fun w' b => reg_stepE hx b
        have HP : Hid (∀ w', Below WB.heap.size WB w' → CellSSRd w' 0 w'.heap.size vp ps) := Lib.hid fun w' b => ss_stepE hp b
        have HKI : Hid (∀ w', Below WB.heap.size WB w' → IntsRd w' 0 w'.heap.size vk k) := Lib.hid fun w' b => i_stepE hk b
        have HT : Hid (∀ w', Below WB.heap.size WB w' → Tab64 w') := Lib.hid fun w' b => HTB.out w' (HW1.out.trans (b.mono HW1.out.size))
        obtain ⟨sx, rfl, Ax, cx, rfl, _, _⟩ := hx
        obtain ⟨vs, ⟨Ap, cp, rfl, _, _⟩, _⟩ := hp
        obtain ⟨Ak, ck, rfl, hkm, _⟩ := hk
        obtain ⟨B, hB⟩ : ∃ B, B = repB x ps k := ⟨_, rfl⟩
        obtain ⟨L, hL⟩ : ∃ L, L = repL x ps k := ⟨_, rfl⟩
        have HRL : Hid (B = true → Hid (tlgB x ps L = true ∧ ∀ q ∈ k, q ∈ L)) := Lib.hid fun hb => Lib.hid (by rw [hL]; exact rep_law (by rw [← hB]; exact hb))
        have hP8 : ∀ s ∈ ps, s.length ≤ 1048576 := fun s hs => by have := hp8 s hs; omega
        have H1 : Hid (∀ w', Below WB.heap.size WB w' → Calls Tryz.prog 46 #[.agg #[.int .i64 x.w, .slice Ax x.rows.length cx], .slice Ap ps.length cp, .slice Ak k.length ck] w' fun e w'' => ∃ v', e = .returned (.tuple #[v', .bool B]) ∧ IntsIn w'' w'.heap.size w''.heap.size v' L ∧ Below w'.heap.size w' w'') := Lib.hid fun w' b => by
          rw [hB, hL]; exact impl_repair_c w' (HX.out w' b) (HP.out w' b) (HKI.out w' b) (by omega) hP8 hkl (HT.out w' b)
        have H2 : Hid (∀ w', Below WB.heap.size WB w' → Calls Tryz.prog 47 #[.agg #[.int .i64 x.w, .slice Ax x.rows.length cx], .slice Ap ps.length cp, .slice Ak k.length ck] w' fun e w'' => ∃ v', e = .returned (.tuple #[v', .bool B]) ∧ IntsIn w'' w'.heap.size w''.heap.size v' L ∧ Below w'.heap.size w' w'') := Lib.hid fun w' b => by
          rw [hB, hL]; exact spec_repair_c w' (HX.out w' b) (HP.out w' b) (HKI.out w' b) (by omega) hP8 hkl
        have H3 : Hid (B = true → Hid (∀ w' v', Below WB.heap.size WB w' → IntsRd w' 0 w'.heap.size v' L → Calls Tryz.prog 17 #[.agg #[.int .i64 x.w, .slice Ax x.rows.length cx], .slice Ap ps.length cp, v'] w' fun e w'' => e = .returned (.bool true) ∧ Below w'.heap.size w' w'')) := Lib.hid fun hb => Lib.hid fun w' v' b h3 => by
          rw [← (HRL.out hb).out.1]; exact impl_tlg_c w' (HX.out w' b) (HP.out w' b) h3 (by omega) hP8 (HT.out w' b)
        clear hB hL bB HB0 hp8 hP8 hp3
        have HS := (Sep.start WB).box 36 #[.int .i64 x.w, .slice Ax x.rows.length cx]
        go_upto_region 23 with fail
        obtain ⟨g20, hg⟩ : ∃ k, k = WB.heap.size := ⟨_, rfl⟩
        rw [← hg] at HS ⊢
        generalize WB.alloc (.cells #[.int .i64 x.w, .slice Ax x.rows.length cx] 36) = w1 at *
        clear hg
        have HH : Below WB.heap.size WB w1 := HS.below
        have x0 := HS.h0.cell 0
        have x1 := HS.h0.cell 1
        simp at x0 x1
        go_wp2_with fail
        refine (H1.out _ HH).mono ?_
        rintro e w2 ⟨v1, rfl, o1, b1⟩
        have HE1 := Lib.hid ((IntsIn.rd o1).more (Nat.zero_le _) (Nat.le_refl _))
        obtain ⟨A1, c1, rfl, _, _⟩ := IntsIn.rd o1
        replace HS := HS.step b1
        replace HH := HH.trans (b1.mono HH.size)
        clear x0 x1 o1 b1 H1
        have x0 := HS.h0.cell 0
        have x1 := HS.h0.cell 1
        simp at x0 x1
        go_wp2_with fail
        refine (H2.out _ HH).mono ?_
        rintro e w3 ⟨v2, rfl, o2, b2⟩
        have HE2 := Lib.hid ((IntsIn.rd o2).more (Nat.zero_le _) (Nat.le_refl _))
        obtain ⟨A2, c2, rfl, hLm, _⟩ := IntsIn.rd o2
        replace HE1 := Lib.hid (i_stepE HE1.out b2)
        replace HS := HS.step b2
        replace HH := HH.trans (b2.mono HH.size)
        clear x0 x1 o2 b2 H2
        go_wp2_with fail
        refine (laws_sameInts_same _ HE1.out HE2.out).mono ?_
        rintro e w4 ⟨rfl, b4⟩
        replace HE2 := Lib.hid (i_stepE HE2.out b4)
        replace HS := HS.step b4
        replace HH := HH.trans (b4.mono HH.size)
        clear b4 HE1
        go_upto_if 166 with fail
        have HB7 := Lib.hid (HW1.out.trans (HH.mono HW1.out.size))
        go_cut [2] (fun s wx => s = .bool false ∧ Below w.heap.size w wx)
        case first =>
          as_aux_lemma =>
            cases B
            · go_wp2_with fail
              go_meet
              exact ⟨rfl, HB7.out⟩
            · have x0 := HS.h0.cell 0
              have x1 := HS.h0.cell 1
              simp at x0 x1
              have HTL := Lib.hid ((H3.out rfl).out w4 _ HH HE2.out)
              have HIN := Lib.hid (HRL.out rfl).out.2
              clear H3 HRL
              go_wp2_with fail
              refine (HTL.out).mono ?_
              rintro e w5 ⟨rfl, b5⟩
              replace HE2 := Lib.hid (i_stepE HE2.out b5)
              replace HH := HH.trans (b5.mono HH.size)
              have HK5 := Lib.hid (HKI.out _ HH)
              have HB5 := Lib.hid (HW1.out.trans (HH.mono HW1.out.size))
              clear x0 x1 b5 HTL HS HH
              unfold maxLen at hkm hLm
              go_wp2
              go_loopw [2, 27] (fun rv iv wr => ∃ i : Nat, i ≤ k.length ∧ rv = .bool false ∧ iv = .int .i64 i ∧ Below w5.heap.size w5 wr) (fun _ iv _ => k.length - (intOf iv).toNat)
              case atStart => exact ⟨0, Nat.zero_le _, rfl, rfl, Below.refl _ _⟩
              case round =>
                obtain ⟨i, hi, rfl, rfl, hbel⟩ := hrel
                by_cases hlt : i < k.length
                · obtain ⟨Ak', ck', ek, _, hrk⟩ := HK5.out
                  injection ek with ek1 ek2 ek3
                  subst ek1
                  subst ek3
                  obtain ⟨bk, ok, q, rfl, _, hbk, hkq, qk⟩ := Rd.at1 (f := fun n : Int => .int .i64 n) hrk hlt
                  have hqL := HIN.out q (List.mem_of_getElem? hkq)
                  have HQL := Lib.hid hqL
                  have HQK := Lib.hid qk
                  have HBK := Lib.hid hbk
                  have HBL := Lib.hid hbel
                  obtain ⟨wo, hwo⟩ : ∃ wo : World, wo = wr := ⟨_, rfl⟩
                  subst hwo
                  clear hkq qk hbk hqL hrk
                  go_wp2
                  go_loopw [28, 29] (fun fv jv wx => ∃ (j : Nat) (F : Bool), j ≤ L.length ∧ jv = .int .i64 j ∧ fv = .bool F ∧ Hid (F = true ↔ q ∈ L.take j) ∧ Below wo.heap.size wo wx) (fun _ jv _ => L.length - (intOf jv).toNat)
                  case atStart => exact ⟨0, false, Nat.zero_le _, rfl, rfl, Lib.hid (by simp), Below.refl _ _⟩
                  case round =>
                    obtain ⟨j, F, hj, rfl, rfl, HF, hbj⟩ := hrel
                    by_cases hltj : j < L.length
                    · obtain ⟨Al, cl, el, _, hrl⟩ := HE2.out
                      injection el with el1 el2 el3
                      subst el1
                      subst el3
                      have HBJ := Lib.hid hbj
                      have bw : Below w5.heap.size w5 wr := HBL.out.trans (hbj.mono HBL.out.size)
                      obtain ⟨bl, ol, p, rfl, _, hbl, hlp, ql⟩ := Rd.at1 (f := fun n : Int => .int .i64 n) hrl hltj
                      have q1 := (bw.cell (p := ⟨bl, ol + j, none⟩) hbl).trans ql
                      have q2 := (bw.cell (p := ⟨bk, ok + i, none⟩) HBK.out).trans HQK.out
                      have HTK : Hid (L.take (j + 1) = L.take j ++ [p]) := Lib.hid (by rw [List.take_add_one, hlp]; rfl)
                      clear hlp ql hrl hbl bw hbj
                      have hq3 : (0 : Int) ≤ (j : Int) := by omega
                      have hq4 : (j : Int) < (L.length : Int) := by omega
                      have hq5 : (i : Int) < (k.length : Int) := by omega
                      cases F
                      · by_cases hpq : p = q
                        · have heq : (p == q) = true := by simpa using hpq
                          have HF2 : Hid ((true = true) ↔ q ∈ L.take (j + 1)) := Lib.hid (by rw [HTK.out]; simp [hpq])
                          clear hpq
                          go_wp2_with fail
                          go_quiet (fail)
                          have HBJ2 := Lib.hid (below_drewN HBJ.out nq)
                          generalize wr.drewN nq = w8 at *
                          clear q1 q2 heq
                          go_wp2
                          go_roundw
                          case rel => exact ⟨j + 1, true, by omega, by go_num, rfl, Lib.hid (by have h := HF2.out; simpa using h), HBJ2.out⟩
                          case measure => simp [intOf]; omega
                        · have heq : (p == q) = false := by simpa using hpq
                          have HF2 : Hid ((false = true) ↔ q ∈ L.take (j + 1)) := Lib.hid (by
                            rw [HTK.out, List.mem_append, ← HF.out, List.mem_singleton]
                            constructor
                            · intro h; cases h
                            · rintro (h | h)
                              · cases h
                              · exact absurd h.symm hpq)
                          clear hpq
                          go_wp2_with fail
                          go_quiet (fail)
                          have HBJ2 := Lib.hid (below_drewN HBJ.out nq)
                          generalize wr.drewN nq = w8 at *
                          clear q1 q2 heq
                          go_wp2
                          go_roundw
                          case rel => exact ⟨j + 1, false, by omega, by go_num, rfl, Lib.hid (by have h := HF2.out; simpa using h), HBJ2.out⟩
                          case measure => simp [intOf]; omega
                      · have HF2 : Hid ((true = true) ↔ q ∈ L.take (j + 1)) := Lib.hid (by
                          rw [HTK.out, List.mem_append, ← HF.out]
                          simp)
                        go_wp2_with fail
                        go_quiet (fail)
                        have HBJ2 := Lib.hid (below_drewN HBJ.out nq)
                        generalize wr.drewN nq = w8 at *
                        clear q1 q2
                        go_wp2
                        go_roundw
                        case rel => exact ⟨j + 1, true, by omega, by go_num, rfl, Lib.hid (by have h := HF2.out; simpa using h), HBJ2.out⟩
                        case measure => simp [intOf]; omega
                    · obtain rfl : j = L.length := by omega
                      have hFt : F = true := HF.out.2 (by rw [List.take_length]; exact HQL.out)
                      subst hFt
                      have HBR := Lib.hid (HBL.out.trans (hbj.mono HBL.out.size))
                      clear HF
                      go_wp2
                      go_roundw
                      case rel => exact ⟨i + 1, by omega, rfl, by go_num, HBR.out⟩
                      case measure => simp [intOf]; omega
                · obtain rfl : i = k.length := by omega
                  have HBR := Lib.hid (HB5.out.trans (hbel.mono HB5.out.size))
                  clear hbel
                  go_wp2_with fail
                  go_meet
                  exact ⟨rfl, HBR.out⟩
        case rest =>
        as_aux_lemma =>
          clear HS HE2 HH HRL H3 HX HP HKI HT HW1 HB7
          obtain ⟨rfl, hb⟩ := hcut
          generalize hwc : wc = wA at *
          clear hwc
          have HB0 := Lib.hid hb
          clear hb
          go_wp2_with fail
          refine (drawKept_c wA (HBY.out _ HB0.out) hl).mono ?_
          rintro e WB ⟨vr, vl, vx, r, x, T, rfl, hr20, hx20, hT64, hTl, hr, hT, hx, bB⟩
          have HW1 := Lib.hid (HB0.out.trans (bB.mono HB0.out.size))
          have HR : Hid (∀ w', Below WB.heap.size WB w' → RegRd w' 0 w'.heap.size vr r) := Lib.hid fun w' b => reg_stepE hr b
          have HX0 : Hid (∀ w', Below WB.heap.size WB w' → RegRd w' 0 w'.heap.size vx x) := Lib.hid fun w' b => reg_stepE hx b
          have HTT : Hid (∀ w', Below WB.heap.size WB w' → IntsRd w' 0 w'.heap.size vl T) := Lib.hid fun w' b => i_stepE hT b
          obtain ⟨sr, rfl, A, c, rfl, _, _⟩ := hr
          obtain ⟨sx, rfl, Ax, cx, rfl, _, _⟩ := hx
          obtain ⟨At, ct, rfl, _, _⟩ := hT
          obtain ⟨L, hL⟩ : ∃ L, L = keptMasks r T x := ⟨_, rfl⟩
          have K1 : Hid (∀ w', Below WB.heap.size WB w' → Calls Tryz.prog 51 #[.agg #[.int .i64 r.w, .slice A r.rows.length c], .slice At T.length ct, .agg #[.int .i64 x.w, .slice Ax x.rows.length cx]] w' fun e w'' => ∃ v', e = .returned v' ∧ IntsIn w'' w'.heap.size w''.heap.size v' L ∧ Below w'.heap.size w' w'') := Lib.hid fun w' b => by
            rw [hL]; exact impl_KeptMasks_c w' (HR.out w' b) (HTT.out w' b) (HX0.out w' b) hT64 hTl
          have K2 : Hid (∀ w', Below WB.heap.size WB w' → Calls Tryz.prog 52 #[.agg #[.int .i64 r.w, .slice A r.rows.length c], .slice At T.length ct, .agg #[.int .i64 x.w, .slice Ax x.rows.length cx]] w' fun e w'' => ∃ v', e = .returned v' ∧ IntsIn w'' w'.heap.size w''.heap.size v' L ∧ Below w'.heap.size w' w'') := Lib.hid fun w' b => by
            rw [hL]; exact spec_KeptMasks_c w' (HR.out w' b) (HTT.out w' b) (HX0.out w' b) hT64 hTl
          clear hL bB HB0 hT64 HR HX0 HTT
          have HS := ((Sep.start WB).box 36 #[.int .i64 r.w, .slice A r.rows.length c]).box 36 #[.int .i64 x.w, .slice Ax x.rows.length cx]
          simp only [World.size_alloc] at HS
          go_upto_region 41 with fail
          obtain ⟨g30, hg⟩ : ∃ k, k = WB.heap.size := ⟨_, rfl⟩
          rw [← hg] at HS ⊢
          generalize (WB.alloc (.cells #[.int .i64 r.w, .slice A r.rows.length c] 36)).alloc (.cells #[.int .i64 x.w, .slice Ax x.rows.length cx] 36) = wd at *
          clear hg
          go_wp2_with fail
          refine (drawSafe_c wd (HBY.out _ (HW1.out.trans (HS.below.mono HW1.out.size))) hl).mono ?_
          rintro e we ⟨vr2, vp, r2, ps, rfl, hr2, hp3, hp8, hr2d, hpd, be⟩
          have HR2 : Hid (∀ w', Below we.heap.size we w' → RegRd w' 0 w'.heap.size vr2 r2) := Lib.hid fun w' b => reg_stepE hr2d b
          have HP2 : Hid (∀ w', Below we.heap.size we w' → CellSSRd w' 0 w'.heap.size vp ps) := Lib.hid fun w' b => ss_stepE hpd b
          obtain ⟨s2, rfl, A2, c2, rfl, _, _⟩ := hr2d
          obtain ⟨vs, ⟨Ap, cp, rfl, _, _⟩, _⟩ := hpd
          have hP8 : ∀ s ∈ ps, s.length ≤ 1048576 := fun s hs => by have := hp8 s hs; omega
          have HWE := Lib.hid (HW1.out.trans ((HS.step be).below.mono HW1.out.size))
          obtain ⟨Q, hQ⟩ : ∃ Q, Q = r2.safes ps := ⟨_, rfl⟩
          have K3 : Hid (∀ w', Below we.heap.size we w' → Calls Tryz.prog 54 #[.agg #[.int .i64 r2.w, .slice A2 r2.rows.length c2], .slice Ap ps.length cp] w' fun e w'' => ∃ v', e = .returned v' ∧ CellsIn w'' w'.heap.size w''.heap.size v' Q ∧ Below w'.heap.size w' w'') := Lib.hid fun w' b => by
            rw [hQ]; exact impl_safes_c w' (HR2.out w' b) (HP2.out w' b) (by omega) (by omega) hP8 (HTB.out w' (HWE.out.trans (b.mono HWE.out.size)))
          have K4 : Hid (∀ w', Below we.heap.size we w' → Calls Tryz.prog 55 #[.agg #[.int .i64 r2.w, .slice A2 r2.rows.length c2], .slice Ap ps.length cp] w' fun e w'' => ∃ v', e = .returned v' ∧ CellsIn w'' w'.heap.size w''.heap.size v' Q ∧ Below w'.heap.size w' w'') := Lib.hid fun w' b => by
            rw [hQ]; exact spec_safes_c w' (HR2.out w' b) (HP2.out w' b) (by omega) (by omega) hP8
          replace HS := (HS.step be).box 36 #[.int .i64 r2.w, .slice A2 r2.rows.length c2]
          have BE : Below we.heap.size we (we.alloc (.cells #[.int .i64 r2.w, .slice A2 r2.rows.length c2] 36)) := ((Sep.start we).box 36 #[.int .i64 r2.w, .slice A2 r2.rows.length c2]).below
          clear hQ be hp8 hP8 hp3 HR2 HP2 HWE
          go_upto_region 42 with fail
          obtain ⟨g33, hg⟩ : ∃ k, k = we.heap.size := ⟨_, rfl⟩
          rw [← hg] at HS ⊢
          generalize we.alloc (.cells #[.int .i64 r2.w, .slice A2 r2.rows.length c2] 36) = wf at *
          clear hg
          go_wp2_with fail
          refine (drawFmt_c wf (HBY.out _ (HW1.out.trans (HS.below.mono HW1.out.size))) hl).mono ?_
          rintro e W4 ⟨ve, M, rfl, hM, he, bf⟩
          have HED : Hid (∀ w', Below W4.heap.size W4 w' → EdsRd w' 0 w'.heap.size ve M) := Lib.hid fun w' b => eds_stepE he b
          obtain ⟨Ae, ce, rfl, _, _⟩ := he
          obtain ⟨F, hF⟩ : ∃ F, F = fmtEds M := ⟨_, rfl⟩
          have K5 : Hid (∀ w', Below W4.heap.size W4 w' → Calls Tryz.prog 43 #[.slice Ae M.length ce] w' fun e w'' => e = .returned (.string F) ∧ Below w'.heap.size w' w'') := Lib.hid fun w' b => by
            rw [hF]; exact impl_fmtEds_c w' (HED.out w' b) (by omega)
          have K6 : Hid (∀ w', Below W4.heap.size W4 w' → Calls Tryz.prog 44 #[.slice Ae M.length ce] w' fun e w'' => e = .returned (.string F) ∧ Below w'.heap.size w' w'') := Lib.hid fun w' b => by
            rw [hF]; exact spec_fmtEds_c w' (HED.out w' b) (by omega)
          replace HS := HS.step bf
          replace BE := BE.trans (bf.mono BE.size)
          have HWF := Lib.hid (HW1.out.trans (HS.below.mono HW1.out.size))
          have BB : Hid (∀ w', Below W4.heap.size W4 w' → w'.cell? ⟨g30, 0, none⟩ = some (.int .i64 r.w) ∧ w'.cell? ⟨g30, 1, none⟩ = some (.slice A r.rows.length c) ∧ w'.cell? ⟨g30 + 1, 0, none⟩ = some (.int .i64 x.w) ∧ w'.cell? ⟨g30 + 1, 1, none⟩ = some (.slice Ax x.rows.length cx) ∧ w'.cell? ⟨g33, 0, none⟩ = some (.int .i64 r2.w) ∧ w'.cell? ⟨g33, 1, none⟩ = some (.slice A2 r2.rows.length c2)) := Lib.hid fun w' b => by
            have K := HS.step b
            have x0 := K.h2.cell 0
            have x1 := K.h2.cell 1
            have x2 := K.h1.cell 0
            have x3 := K.h1.cell 1
            have x4 := K.h0.cell 0
            have x5 := K.h0.cell 1
            simp at x0 x1 x2 x3 x4 x5
            exact ⟨x0, x1, x2, x3, x4, x5⟩
          have B1 : Hid (∀ w', Below W4.heap.size W4 w' → Below WB.heap.size WB w') := Lib.hid fun w' b => HS.below.trans (b.mono HS.below.size)
          have B2 : Hid (∀ w', Below W4.heap.size W4 w' → Below we.heap.size we w') := Lib.hid fun w' b => BE.trans (b.mono BE.size)
          clear hF bf HS BE HED HW1 HBY HTB hM
          go_upto_region 43 with fail
          have HX : Below W4.heap.size W4 W4.drew := below_drew (Below.refl _ _)
          have f0 := (BB.out _ HX).1
          have f1 := (BB.out _ HX).2.1
          have f2 := (BB.out _ HX).2.2.1
          have f3 := (BB.out _ HX).2.2.2.1
          have f4 := (BB.out _ HX).2.2.2.2.1
          have f5 := (BB.out _ HX).2.2.2.2.2
          go_region_held3 (fun w' => w'.cell? ⟨g30, 0, none⟩ = some (.int .i64 r.w) ∧ w'.cell? ⟨g30, 1, none⟩ = some (.slice A r.rows.length c) ∧ w'.cell? ⟨g30 + 1, 0, none⟩ = some (.int .i64 x.w) ∧ w'.cell? ⟨g30 + 1, 1, none⟩ = some (.slice Ax x.rows.length cx) ∧ w'.cell? ⟨g33, 0, none⟩ = some (.int .i64 r2.w) ∧ w'.cell? ⟨g33, 1, none⟩ = some (.slice A2 r2.rows.length c2))
            (first | ((try dsimp only); refine ⟨?_, ?_, ?_, ?_, ?_, ?_⟩ <;> assumption) | go_keep)
            (first
            | (go_at_call 51; (with_reducible refine (K1.out _ (B1.out _ HX)).mono ?_); rintro e wz ⟨v1, rfl, o1, bz⟩; have HV1 := Lib.hid ((IntsIn.rd o1).more (Nat.zero_le _) (Nat.le_refl _)); clear o1; replace HX := HX.trans (bz.mono HX.size); clear bz; have f0 := (BB.out _ HX).1; have f1 := (BB.out _ HX).2.1; have f2 := (BB.out _ HX).2.2.1; have f3 := (BB.out _ HX).2.2.2.1; have f4 := (BB.out _ HX).2.2.2.2.1; have f5 := (BB.out _ HX).2.2.2.2.2)
            | (go_at_call 52; (with_reducible refine (K2.out _ (B1.out _ HX)).mono ?_); rintro e wz ⟨v2, rfl, o2, bz⟩; have HV2 := Lib.hid ((IntsIn.rd o2).more (Nat.zero_le _) (Nat.le_refl _)); replace HV1 := Lib.hid (i_stepE HV1.out bz); clear o2; replace HX := HX.trans (bz.mono HX.size); clear bz; have f0 := (BB.out _ HX).1; have f1 := (BB.out _ HX).2.1; have f2 := (BB.out _ HX).2.2.1; have f3 := (BB.out _ HX).2.2.2.1; have f4 := (BB.out _ HX).2.2.2.2.1; have f5 := (BB.out _ HX).2.2.2.2.2)
            | (go_at_call 15; (with_reducible refine (laws_sameInts_same _ HV1.out HV2.out).mono ?_); rintro e wz ⟨rfl, bz⟩; clear HV1 HV2; replace HX := HX.trans (bz.mono HX.size); clear bz; have f0 := (BB.out _ HX).1; have f1 := (BB.out _ HX).2.1; have f2 := (BB.out _ HX).2.2.1; have f3 := (BB.out _ HX).2.2.2.1; have f4 := (BB.out _ HX).2.2.2.2.1; have f5 := (BB.out _ HX).2.2.2.2.2)
            | (go_at_call 54; (with_reducible refine (K3.out _ (B2.out _ HX)).mono ?_); rintro e wz ⟨v3, rfl, o3, bz⟩; have HV3 := Lib.hid ((CellsIn.rd o3).more (Nat.zero_le _) (Nat.le_refl _)); clear o3; replace HX := HX.trans (bz.mono HX.size); clear bz; have f0 := (BB.out _ HX).1; have f1 := (BB.out _ HX).2.1; have f2 := (BB.out _ HX).2.2.1; have f3 := (BB.out _ HX).2.2.2.1; have f4 := (BB.out _ HX).2.2.2.2.1; have f5 := (BB.out _ HX).2.2.2.2.2)
            | (go_at_call 55; (with_reducible refine (K4.out _ (B2.out _ HX)).mono ?_); rintro e wz ⟨v4, rfl, o4, bz⟩; have HV4 := Lib.hid ((CellsIn.rd o4).more (Nat.zero_le _) (Nat.le_refl _)); replace HV3 := Lib.hid (c_stepE HV3.out bz); clear o4; replace HX := HX.trans (bz.mono HX.size); clear bz; have f0 := (BB.out _ HX).1; have f1 := (BB.out _ HX).2.1; have f2 := (BB.out _ HX).2.2.1; have f3 := (BB.out _ HX).2.2.2.1; have f4 := (BB.out _ HX).2.2.2.2.1; have f5 := (BB.out _ HX).2.2.2.2.2)
            | (go_at_call 53; (with_reducible refine (spec_eqShapes_same _ HV3.out HV4.out).mono ?_); rintro e wz ⟨rfl, bz⟩; clear HV3 HV4; replace HX := HX.trans (bz.mono HX.size); clear bz; have f0 := (BB.out _ HX).1; have f1 := (BB.out _ HX).2.1; have f2 := (BB.out _ HX).2.2.1; have f3 := (BB.out _ HX).2.2.2.1; have f4 := (BB.out _ HX).2.2.2.2.1; have f5 := (BB.out _ HX).2.2.2.2.2)
            | (go_at_call 43; (with_reducible refine (K5.out _ HX).mono ?_); rintro e wz ⟨rfl, bz⟩; replace HX := HX.trans (bz.mono HX.size); clear bz; have f0 := (BB.out _ HX).1; have f1 := (BB.out _ HX).2.1; have f2 := (BB.out _ HX).2.2.1; have f3 := (BB.out _ HX).2.2.2.1; have f4 := (BB.out _ HX).2.2.2.2.1; have f5 := (BB.out _ HX).2.2.2.2.2)
            | (go_at_call 44; (with_reducible refine (K6.out _ HX).mono ?_); rintro e wz ⟨rfl, bz⟩; replace HX := HX.trans (bz.mono HX.size); clear bz; have f0 := (BB.out _ HX).1; have f1 := (BB.out _ HX).2.1; have f2 := (BB.out _ HX).2.2.1; have f3 := (BB.out _ HX).2.2.2.1; have f4 := (BB.out _ HX).2.2.2.2.1; have f5 := (BB.out _ HX).2.2.2.2.2)
            | fail)
          all_goals
            have HX2 := Lib.hid (HWF.out.trans (HX.mono HWF.out.size))
            clear f0 f1 f2 f3 f4 f5 HX
            go_wp2
            go_ret
            exact ⟨rfl, HX2.out⟩
  · go_enter Tryz.func5, Tryz.ntmps5
    go_wp2_with fail
    refine (big_yes w h (by omega)).mono ?_
    rintro e w' ⟨rfl, rfl⟩
    go_wp2
    go_ret
    exact ⟨rfl, Below.refl _ _⟩
end Go.Proofs.YtfildenelgbmlaaGreatDoor
