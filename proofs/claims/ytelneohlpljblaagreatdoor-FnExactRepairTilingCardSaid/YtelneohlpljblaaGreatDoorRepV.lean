
/-
  A tiling repaired: the reference's walk.
-/
import Derived.Test.YtelneohlpljblaaGreatDoorRepX
import Derived.Test.YtelneohlpljblaaGreatDoorRepS
import Derived.Test.YtelneohlpljblaaGreatDoorRepH
import Derived.Test.YtelneohlpljblaaGreatDoorFtS
namespace Go.Proofs.YtelneohlpljblaaGreatDoor
open Go.RowKit

set_option maxRecDepth 100000 in
set_option maxHeartbeats 4000000 in
theorem spec_repair_c {v v2 v3 : Value} {r : Reg} {ps : List (List Cell)} {k : List Int} (w : World) (h : RegRd w 0 w.heap.size v r) (h2 : CellSSRd w 0 w.heap.size v2 ps) (h3 : IntsRd w 0 w.heap.size v3 k) (hn : ps.length ≤ 1048576) (hl : ∀ s ∈ ps, s.length ≤ 1048576) (hkl : k.length ≤ 1048576) :
    Calls Tryz.prog 31 #[v, v2, v3] w fun e w' => ∃ v', e = .returned (.tuple #[v', .bool (repB r ps k)]) ∧ IntsIn w' w.heap.size w'.heap.size v' (repL r ps k) ∧ Below w.heap.size w w' := by
  obtain ⟨i0, hi, hz0, hz1, hz2⟩ := info_parts infoInt7
  have HRD : Hid (∀ w1, Below w.heap.size w w1 → RegRd w1 0 w1.heap.size v r) := Lib.hid fun w1 b1 => (h.keep (SameIn.of_below b1 (Nat.le_refl _))).more (Nat.le_refl _) b1.size
  have HR2 : Hid (∀ w1, Below w.heap.size w w1 → CellSSRd w1 0 w1.heap.size v2 ps) := Lib.hid fun w1 b1 => (h2.keep (SameIn.of_below b1 (Nat.le_refl _))).more (Nat.le_refl _) b1.size
  have HAR : Hid (∀ w1, Below w.heap.size w w1 → Calls Tryz.prog 55 #[v2] w1 fun e w' => e = .returned (.bool (arePcs ps)) ∧ Below w1.heap.size w1 w') := Lib.hid fun w1 b1 =>
    spec_arePcs_c w1 (HR2.out w1 b1) hn hl
  obtain ⟨RB, hRB⟩ : ∃ b, b = repB r ps k := ⟨_, rfl⟩
  obtain ⟨RL, hRL⟩ : ∃ b, b = repL r ps k := ⟨_, rfl⟩
  rw [← hRB, ← hRL]
  have HB := Lib.hid hRB
  have HL := Lib.hid hRL
  obtain ⟨sr, rfl, hsr⟩ := h
  obtain ⟨A, c, rfl, _, _⟩ := hsr
  obtain ⟨vs, ⟨A2, c2, rfl, _, _⟩, _⟩ := h2
  obtain ⟨A3, c3, rfl, hm3, hr3⟩ := h3
  obtain ⟨n3, hn3⟩ : ∃ n, n = k.length := ⟨_, rfl⟩
  rw [← hn3] at hm3 hr3 hkl ⊢
  have HN3 := Lib.hid hn3
  have HR3 := Lib.hid hr3
  have H0 := (Sep.start w).box 31 #[.int .i64 r.w, .slice A r.rows.length c]
  obtain ⟨bR, hbR⟩ : ∃ bR, bR = w.heap.size := ⟨_, rfl⟩
  rw [← hbR] at H0
  clear hRB hRL hn hl hr3 hn3
  go_enter Tryz.func31, Tryz.ntmps31
  go_upto_region 1 with fail
  rw [← hbR]
  generalize (w.alloc (.cells #[.int .i64 r.w, .slice A r.rows.length c] 31)) = W at *
  clear hbR
  have c0 : W.cell? ⟨bR, 0, none⟩ = some (.int .i64 r.w) := H0.h0.cell 0
  have c1 : W.cell? ⟨bR, 1, none⟩ = some (.slice A r.rows.length c) := H0.h0.cell 1
  have HP := Lib.hid (spec_IsRegion_c W (HRD.out W H0.below))
  go_wp2_with fail
  refine (HP.out).mono ?_
  rintro e w1 ⟨rfl, b1⟩
  have H1 := H0.step b1
  clear H0 b1 HP c0 c1
  cases hv : r.valid
  · have h1 := rep_bad (r := r) (ps := ps) (k := k) (by rw [hv]; rfl)
    obtain rfl : RB = false := by rw [HB.out]; exact h1.1
    obtain rfl : RL = [] := by rw [HL.out]; exact h1.2
    clear hv h1
    have HZ := H1.rowBox 3 #[] 1 0 rfl (by decide)
    go_wp2
    refine bodyPost_ret (results_tmp2 rfl _ _ _) rfl ?_
    exact ⟨_, rfl, HZ.oi, HZ.below⟩
  have HVV := Lib.hid hv
  have HP2 := Lib.hid (HAR.out w1 H1.below)
  clear hv HAR
  go_wp2_with fail
  refine (HP2.out).mono ?_
  rintro e w2 ⟨rfl, b2⟩
  replace H1 := H1.step b2
  clear HP2 b2
  cases hp : arePcs ps
  · have h1 := rep_bad (r := r) (ps := ps) (k := k) (by rw [hp, Bool.and_false])
    obtain rfl : RB = false := by rw [HB.out]; exact h1.1
    obtain rfl : RL = [] := by rw [HL.out]; exact h1.2
    clear hp h1
    have HZ := H1.rowBox 3 #[] 1 0 rfl (by decide)
    go_wp2
    refine bodyPost_ret (results_tmp2 rfl _ _ _) rfl ?_
    exact ⟨_, rfl, HZ.oi, HZ.below⟩
  have HOK : Hid ((r.valid && arePcs ps) = true) := Lib.hid (by rw [hp, HVV.out]; rfl)
  have HV := Lib.hid (Reg.valid_iff.1 HVV.out)
  have HAP := Lib.hid hp
  have HALL := Lib.hid (spec_all_c w2 (HRD.out w2 H1.below) (HR2.out w2 H1.below) HV.out HAP.out)
  have c0 : w2.cell? ⟨bR, 0, none⟩ = some (.int .i64 r.w) := H1.h0.cell 0
  have c1 : w2.cell? ⟨bR, 1, none⟩ = some (.slice A r.rows.length c) := H1.h0.cell 1
  clear hp
  go_wp2_with fail
  refine (HALL.out).mono ?_
  rintro e w3 ⟨av, rfl, o3, b3⟩
  have H2 := H1.oiNew b3 o3
  clear c0 c1 H1 HALL b3
  have c0 : w3.cell? ⟨bR, 0, none⟩ = some (.int .i64 r.w) := H2.h1.cell 0
  have c1 : w3.cell? ⟨bR, 1, none⟩ = some (.slice A r.rows.length c) := H2.h1.cell 1
  have HMSK := Lib.hid (spec_mask_c w3 (HRD.out w3 H2.below) HV.out)
  obtain ⟨Aq, cq, rfl, _, _⟩ := o3.rd
  clear o3
  go_wp2_with fail
  refine (HMSK.out).mono ?_
  rintro e w4 ⟨rfl, b4⟩
  have H3 := H2.step b4
  clear H2 b4 HMSK c0 c1
  obtain ⟨M, hM⟩ : ∃ M, M = r.mask := ⟨_, rfl⟩
  obtain ⟨Q, hQ⟩ : ∃ Q, Q = allN r ps := ⟨_, rfl⟩
  have hQ2 : allP r ps = nl Q := by rw [hQ, nl_allN HV.out]
  rw [hQ2] at H3 ⊢
  rw [← hM]
  have hM36 : M < 68719476736 := by rw [hM]; have := Reg.mask_lt HV.out; omega
  have HQA : Hid (∀ m ∈ Q, m &&& M = m ∧ 0 < m) := Lib.hid (by rw [hQ, hM]; exact allN_sub HV.out HAP.out)
  have HQL : Hid (∀ m ∈ Q, m < 2 ^ 36) := Lib.hid (by rw [hQ]; exact allN_lt HV.out)
  have HQN : Hid ((nl Q).length ≤ 1048576) := Lib.hid (by
    rw [← hQ2]
    have := allP_len HV.out (ps := ps)
    have := arePcs_on HAP.out
    omega)
  have HOUT : Hid (keptU Q 0 k = none → repB r ps k = false ∧ repL r ps k = []) := Lib.hid fun h => rep_out (by rw [← hQ]; exact h)
  have HNO : Hid (∀ u, keptU Q 0 k = some u → ordB Q (M - u) 0 = false → repB r ps k = false ∧ repL r ps k = []) := Lib.hid fun u h1 h2 => rep_no (u := u) (by rw [← hQ]; exact h1) (by rw [← hQ, ← hM]; exact h2)
  have HYES : Hid (∀ u, keptU Q 0 k = some u → ordB Q (M - u) 0 = true → repB r ps k = true ∧ repL r ps k = srtL (k ++ nl (ordR Q (M - u) 0))) := Lib.hid fun u h1 h2 => by
    have := rep_yes (u := u) HOK.out (by rw [← hQ]; exact h1) (by rw [← hQ, ← hM]; exact h2)
    rw [← hQ, ← hM] at this
    exact this
  obtain ⟨nq, hnq⟩ : ∃ nq, nq = (nl Q).length := ⟨_, rfl⟩
  rw [← hnq] at H3 HQN ⊢
  have HNQ := Lib.hid hnq
  clear hM hQ hQ2 hnq
  go_wp2
  go_loopw [9, 10] (fun fv iv wx => ∃ i u f : Nat, i ≤ n3 ∧ iv = .int .i64 i ∧ fv = .int .i64 f ∧ Hid (f = M - u) ∧ Hid (keptU Q 0 (k.take i) = some u) ∧ Sep w wx [Res.row (.slice Aq nq cq) 3 1 nq (ic (nl Q)), Res.box bR 31 #[.int .i64 r.w, .slice A r.rows.length c]]) (fun _ iv _ => n3 - (intOf iv).toNat)
  case atStart => exact ⟨0, 0, M, Nat.zero_le _, rfl, rfl, Lib.hid rfl, Lib.hid rfl, H3⟩
  case round =>
    clear H3
    obtain ⟨i, u, f, hi3, rfl, rfl, HF, HU, H⟩ := hrel
    have hf36 : f < 68719476736 := by have := HF.out; omega
    have HUM : Hid (u &&& M = u) := Lib.hid (keptU_some HQA.out (Nat.zero_and _) HU.out).1
    by_cases hlt : i < n3
    · have hlti : (i : Int) < (n3 : Int) := by omega
      obtain ⟨x, hx⟩ : ∃ x, k[i]? = some x := ⟨k[i]'(by rw [← HN3.out]; exact hlt), List.getElem?_eq_getElem _⟩
      obtain ⟨b, off, hA1, _, hb, hc⟩ := HR3.out.2 (by omega)
      subst hA1
      have x1 : w.cell? ⟨b, off + i, none⟩ = some (.int .i64 x) := hc i (.int .i64 x) (by simp [ic, hx])
      have y1 := (H.below.cell (p := ⟨b, off + i, none⟩) hb).trans x1
      have l1 := Later.cell y1 (Nat.lt_of_lt_of_le hb H.size)
      have HX := Lib.hid hx
      obtain ⟨hb0, hhb0⟩ : ∃ hb0, hb0 = hasI (nl Q) x := ⟨_, rfl⟩
      have hqr : IntsRd wr 0 wr.heap.size (.slice Aq nq cq) (nl Q) := by unfold IntsRd; rw [← HNQ.out]; exact H.oi.sr.more (Nat.zero_le _) (Nat.le_refl _)
      have HHAS : Hid (∀ u : Later wr, Calls Tryz.prog 58 #[.slice Aq nq cq, .int .i64 x] u.w fun e w' => e = .returned (.bool hb0) ∧ u.w = w') := Lib.hid fun u => by
        rw [hhb0]
        exact spec_hasI_c u.w (Later.ints hqr) (by rw [← HNQ.out]; exact HQN.out)
      have HX1 := Lib.hid x1
      have HBK := Lib.hid hb
      clear hqr hc hx x1 hb
      cases hb0
      · have h1 := HOUT.out (keptU_stop HU.out HX.out (by
          rintro ⟨h1, _⟩
          have := mem_nl_iff.2 h1
          unfold hasI at hhb0
          exact of_decide_eq_false hhb0.symm this))
        obtain rfl : RB = false := by rw [HB.out]; exact h1.1
        obtain rfl : RL = [] := by rw [HL.out]; exact h1.2
        clear h1 hhb0
        go_wp2_with fail
        refine wp_region_later (by kernel_rfl) (by kernel_rfl) ?_
        repeat (go_big_quiet_step ((go_at_call 58; with_reducible exact Later.same (HHAS.out _))))
        refine wpQuiet_nil ?_
        intro w5 hw5
        obtain ⟨u5, hu5⟩ := hw5
        subst hu5
        have H5 := H.later u5
        clear l1 H HHAS y1
        generalize u5.w = w5 at *
        have HZ := H5.rowBox 3 #[] 1 0 rfl (by decide)
        go_wp2
        refine bodyPost_ret (results_tmp2 rfl _ _ _) rfl ?_
        exact ⟨_, rfl, HZ.oi, HZ.below⟩
      · have hxm := mem_nl_iff.1 (show x ∈ nl Q by unfold hasI at hhb0; exact of_decide_eq_true hhb0.symm)
        obtain ⟨m, rfl⟩ := Int.eq_ofNat_of_zero_le hxm.1
        have hmQ : m ∈ Q := by simpa using hxm.2
        have hm36 := HQL.out m hmQ
        have hand := i64_and_nat m f (by omega) (by omega)
        have HMQ := Lib.hid hmQ
        clear hxm hmQ hhb0
        by_cases hsub : m &&& f = m
        · have hne : (bits .and .i64 (m : Int) (f : Int) != (m : Int)) = false := by rw [hand, hsub]; simp
          have hsub2 : m &&& (M - u) = m := by rw [← HF.out]; exact hsub
          have hg := free_go (by omega) HUM.out hsub2
          have HU2 : Hid (keptU Q 0 (k.take (i + 1)) = some (u ||| m)) := Lib.hid (by
            have := keptU_go HU.out HX.out ⟨⟨by omega, by simpa using HMQ.out⟩, by simpa using (sub_in (by omega) HUM.out hsub2).2⟩
            simpa using this)
          obtain ⟨f2, hf2⟩ : ∃ f2, f2 = f - m := ⟨_, rfl⟩
          have HF2 : Hid (f2 = M - (u ||| m)) := Lib.hid (by rw [hf2, hg.1, HF.out])
          have e1 : (f : Int) - (m : Int) = (f2 : Int) := by have := HF.out; omega
          have e2 : IntKind.i64.wrap ((f : Int) - (m : Int)) = (f2 : Int) := by rw [e1]; exact IntWalk.i64_in _ (by omega)
          clear hsub hsub2 hg hf2 hand
          go_wp2_with fail
          refine wp_region_later (by kernel_rfl) (by kernel_rfl) ?_
          repeat (go_big_quiet_step ((go_at_call 58; with_reducible exact Later.same (HHAS.out _))))
          refine wpQuiet_nil ?_
          intro w5 hw5
          obtain ⟨u5, hu5⟩ := hw5
          subst hu5
          have H5 := H.later u5
          clear l1 H HHAS y1
          generalize u5.w = w5 at *
          have y1 : w5.cell? ⟨b, off + i, none⟩ = some (.int .i64 m) := (H5.below.cell (p := ⟨b, off + i, none⟩) HBK.out).trans HX1.out
          go_wp2
          go_roundw
          case rel => exact ⟨i + 1, u ||| m, f2, by omega, by go_num, rfl, HF2, HU2, H5⟩
          case measure => simp [intOf]; omega
        · have hne : (bits .and .i64 (m : Int) (f : Int) != (m : Int)) = true := by
            rw [hand]
            simp only [bne_iff_ne, ne_eq]
            omega
          have h1 := HOUT.out (keptU_stop HU.out HX.out (by
            rintro ⟨⟨_, h1⟩, h2⟩
            have h3 : m ∈ Q := HMQ.out
            refine hsub ?_
            rw [HF.out]
            exact (sub_free (by omega) HUM.out (HQA.out m h3).1).2 (by simpa using h2)))
          obtain rfl : RB = false := by rw [HB.out]; exact h1.1
          obtain rfl : RL = [] := by rw [HL.out]; exact h1.2
          clear h1 hsub hand
          go_wp2_with fail
          refine wp_region_later (by kernel_rfl) (by kernel_rfl) ?_
          repeat (go_big_quiet_step ((go_at_call 58; with_reducible exact Later.same (HHAS.out _))))
          refine wpQuiet_nil ?_
          intro w5 hw5
          obtain ⟨u5, hu5⟩ := hw5
          subst hu5
          have H5 := H.later u5
          clear l1 H HHAS y1
          generalize u5.w = w5 at *
          have HZ := H5.rowBox 3 #[] 1 0 rfl (by decide)
          go_wp2
          refine bodyPost_ret (results_tmp2 rfl _ _ _) rfl ?_
          exact ⟨_, rfl, HZ.oi, HZ.below⟩
    · obtain rfl : i = n3 := by omega
      have HU2 : Hid (keptU Q 0 k = some u) := Lib.hid (by have := HU.out; rw [HN3.out, List.take_length] at this; exact this)
      obtain ⟨RT, hRT⟩ : ∃ RT, RT = nl (ordR Q f 0) := ⟨_, rfl⟩
      obtain ⟨OB, hOB⟩ : ∃ OB, OB = ordB Q f 0 := ⟨_, rfl⟩
      have hM1 : srcM Q f 1 = if OB = true then [RT] else [] := by rw [srcM_one, hRT, hOB]
      have HS := Lib.hid (srch_c (v := .slice Aq nq cq) HQL.out f hf36 1 wr (by unfold IntsRd; rw [← HNQ.out]; exact H.oi.sr.more (Nat.zero_le _) (Nat.le_refl _)) (Nat.le_refl _) (by omega))
      unfold SrchPost at HS
      rw [hM1] at HS
      have hparts := rep_parts (by omega) HQA.out HU2.out
      rw [← HF.out, ← hRT] at hparts
      have HDF := Lib.hid hparts.2.1
      have HPS := Lib.hid hparts.2.2
      have HNO2 : Hid (OB = false → repB r ps k = false ∧ repL r ps k = []) := Lib.hid fun h => HNO.out u HU2.out (by rw [← HF.out, ← hOB, h])
      have HYES2 : Hid (OB = true → repB r ps k = true ∧ repL r ps k = srtL (k ++ RT)) := Lib.hid fun h => by
        have := HYES.out u HU2.out (by rw [← HF.out, ← hOB, h])
        rw [← HF.out, ← hRT] at this
        exact this
      clear hRT hOB hM1 hparts
      go_wp2_with fail
      refine (HS.out).mono ?_
      rintro e w5 ⟨g6, n6, c6, vs6, rfl, hn6, H6⟩
      have hbel : Below w.heap.size w w5 := H.below.trans (H6.below.mono H.size)
      have HBEL := Lib.hid hbel
      clear HS H
      cases OB
      · have h1 := HNO2.out rfl
        obtain rfl : RB = false := by rw [HB.out]; exact h1.1
        obtain rfl : RL = [] := by rw [HL.out]; exact h1.2
        obtain rfl : n6 = 0 := hn6
        have HZ := (Sep.start w5).rowBox 3 #[] 1 0 rfl (by decide)
        clear h1 H6
        go_wp2
        refine bodyPost_ret (results_tmp2 rfl _ _ _) rfl ?_
        exact ⟨_, rfl, OI.base HZ.oi hbel.size (Nat.le_refl _), hbel.trans (HZ.below.mono hbel.size)⟩
      · have h1 := HYES2.out rfl
        obtain rfl : RB = true := by rw [HB.out]; exact h1.1
        have HRL : Hid (RL = srtL (k ++ RT)) := Lib.hid (by rw [HL.out]; exact h1.2)
        obtain rfl : n6 = 1 := hn6
        have hvl : vs6.length = 1 := RowsAt.len H6.h1
        obtain ⟨t, rfl⟩ : ∃ t, vs6 = [t] := by
          match vs6, hvl with
          | [t], _ => exact ⟨t, rfl⟩
        have x0 : w5.cell? ⟨g6, 0, none⟩ = some t := by have := own_cell H6.h0 (j := 0) (u := t) rfl; rwa [Nat.zero_add] at this
        have hg6 : g6 < w5.heap.size := by obtain ⟨_, cs, hB, _⟩ := own_blk H6.h0; exact Blk.lt hB
        have ho := H6.drop.rowsOi (i := 0) rfl rfl
        obtain ⟨At, ct, rfl, _, _, hrt⟩ := ho.rd
        obtain ⟨nt, hnt⟩ : ∃ nt, nt = RT.length := ⟨_, rfl⟩
        rw [← hnt] at hrt x0
        have HNT := Lib.hid hnt
        have hnt64 : i + nt ≤ 64 := by
          have := difL_len HDF.out HPS.out
          rw [List.length_append, ← HN3.out, ← hnt] at this
          exact this
        have HRT := Lib.hid hrt
        have HG6 := Lib.hid hg6
        have HX0 := Lib.hid x0
        have HA := ((Sep.start w5).rowBox 3 #[] 1 0 rfl (by decide)).drew
        have hk1 : Rd (w5.alloc (.cells #[] 3)).drew 0 w.heap.size 1 A3 i (ic k) := HR3.out.below (hbel.trans (HA.below.mono hbel.size)) (Nat.le_refl _)
        have HSRT : Hid (∀ (w7 : World) (v6 : Value), Sep w5 w7 [Res.row v6 3 1 (0 + i + nt) ([] ++ ic k ++ ic RT)] → Calls Tryz.prog 60 #[v6] w7 fun e w' => ∃ g n c, e = .returned (.slice (some ⟨g, 0, none⟩) n c) ∧ IntsIn w' w.heap.size w'.heap.size (.slice (some ⟨g, 0, none⟩) n c) RL ∧ Below w7.heap.size w7 w') := Lib.hid fun w7 v6 H => by
          have hrd : IntsRd w7 0 w7.heap.size v6 (k ++ RT) := by
            unfold IntsRd
            rw [List.length_append, ← HN3.out, ← hnt, ic_append]
            have := H.oi.sr.more (lo' := 0) (hi' := w7.heap.size) (Nat.zero_le _) (Nat.le_refl _)
            rw [Nat.zero_add, List.nil_append] at this
            exact this
          refine (spec_srt_c w7 hrd HDF.out HPS.out (by rw [List.length_append, ← HN3.out, ← hnt]; omega)).mono ?_
          rintro e w8 ⟨g, n, c, rfl, hn, H8⟩
          refine ⟨g, n, c, rfl, ?_, H8.below⟩
          unfold IntsIn
          rw [HRL.out, ← hn]
          exact OI.base H8.oi (Nat.le_trans hbel.size H.size) (Nat.le_refl _)
        clear h1 H6 ho hvl hrt hnt hg6
        go_wp2_with fail
        go_region_held3 (fun w' => w'.cell? ⟨g6, 0, none⟩ = some (.slice At nt ct))
          (first
            | go_keep
            | exact (H8.below.cell (p := ⟨g6, 0, none⟩) HG6.out).trans HX0.out
            | exact (H6.below.cell (p := ⟨g6, 0, none⟩) HG6.out).trans HX0.out
            | exact (H5.below.cell (p := ⟨g6, 0, none⟩) HG6.out).trans HX0.out)
          (first
            | (refine step_app rfl (.tmp 66) (.tmp 67) 23 (by rfl) 3 i0 _ 1 8 Tryz.underlying23 hi hz0 hz1 hz2 rfl (by decide) _ _ _ (by rfl) HA _ _ _ (ic k) (by rfl) hk1 ic_one (by unfold maxLen; omega) (by omega) ?_; intro v5 w6 H5)
            | (refine step_app rfl (.tmp 68) (.tmp 71) 23 (by rfl) 3 i0 _ 1 8 Tryz.underlying23 hi hz0 hz1 hz2 rfl (by decide) _ _ _ (by rfl) H5 _ _ _ (ic RT) (by rfl) (HRT.out.below H5.below (Nat.le_refl _)) ic_one (by unfold maxLen; omega) (by omega) ?_; intro v6 w7 H6)
            | (go_at_call 60; (refine (HSRT.out _ _ H6).mono ?_); rintro e w8 ⟨g8, n8, c8, rfl, o8, b8⟩; have H8 := H6.step b8))
        go_wp2
        refine bodyPost_ret (results_tmp2 rfl _ _ _) rfl ?_
        exact ⟨_, rfl, o8, HBEL.out.trans (H8.below.mono HBEL.out.size)⟩
end Go.Proofs.YtelneohlpljblaaGreatDoor
