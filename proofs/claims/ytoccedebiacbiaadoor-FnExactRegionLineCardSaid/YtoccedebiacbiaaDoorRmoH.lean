
/-
  RegionMotions: the program's walk.
-/
import Derived.Test.YtoccedebiacbiaaDoorRmoF
import Derived.Test.YtoccedebiacbiaaDoorCelN
namespace Go.Proofs.YtoccedebiacbiaaDoor
open Go.RowKit

set_option maxRecDepth 100000 in
theorem infoIntM : (Tryd.prog.info? 3).map (fun i => (i.zero, i.size, i.bytes)) = some (some (.int .i64 0), 1, 8) := by kernel_rfl
set_option maxRecDepth 100000 in
set_option maxHeartbeats 1600000 in
theorem impl_motions_c {v : Value} {r : Reg} (w : World) (h : RegRd w 0 w.heap.size v r) (hv : r.Valid) :
    Calls Tryd.prog 30 #[v] w fun e w' => ∃ v', e = .returned v' ∧ IntsIn w' w.heap.size w'.heap.size v' (motZ r 8) ∧ Below w.heap.size w w' := by
  obtain ⟨i0, hi, hz0, hz1, hz2⟩ := info_parts infoIntM
  obtain ⟨s, rfl, hs⟩ := h
  have hs0 := hs
  obtain ⟨A, c, rfl, _, _⟩ := hs
  have HIR := Lib.hid (fun (W : World) (hb : Below w.heap.size w W) (hsz : w.heap.size ≤ W.heap.size) => impl_IsRegion_c (r := r) W ⟨_, rfl, ((hs0.keep (SameIn.of_below hb (Nat.le_refl _))).more (Nat.le_refl _) hsz)⟩)
  have HMK := Lib.hid (fun (W : World) (hb : Below w.heap.size w W) (hsz : w.heap.size ≤ W.heap.size) => impl_mask_c (r := r) W ⟨_, rfl, ((hs0.keep (SameIn.of_below hb (Nat.le_refl _))).more (Nat.le_refl _) hsz)⟩ hv)
  have HCM := Lib.hid (fun (m : Nat) (hm : m < 8) (hok : m % 2 = 0 ∨ r.w.toNat = r.rows.length) (W : World) (hb : Below w.heap.size w W) (hsz : w.heap.size ≤ W.heap.size) => carryMask_c (r := r) W ⟨_, rfl, ((hs0.keep (SameIn.of_below hb (Nat.le_refl _))).more (Nat.le_refl _) hsz)⟩ hv (mask_lt36N hv) hm hok (mask_inG hv))
  rw [cells_maskN hv] at HCM
  have HV := Lib.hid hv
  have H0 := (Sep.start w).box 27 #[.int .i64 r.w, .slice A r.rows.length c]
  obtain ⟨g, hg⟩ : ∃ g, g = w.heap.size := ⟨_, rfl⟩
  rw [← hg] at H0
  have HW0 : Hid (r.w = (r.w.toNat : Int)) := Lib.hid (by have := hv.1; omega)
  clear hs0 hv
  go_enter Tryd.func30, Tryd.ntmps30
  go_upto_region 1 with fail
  rw [← hg]
  generalize (w.alloc (.cells #[.int .i64 r.w, .slice A r.rows.length c] 27)) = W at *
  clear hg
  have c0 : W.cell? ⟨g, 0, none⟩ = some (.int .i64 r.w) := H0.h0.cell 0
  have c1 : W.cell? ⟨g, 1, none⟩ = some (.slice A r.rows.length c) := H0.h0.cell 1
  go_wp2_with fail
  refine ((HIR.out) _ H0.below H0.below.size).mono ?_
  rintro e w1 ⟨rfl, b1⟩
  rw [show r.valid = true from decide_eq_true HV.out]
  have H1 := (H0.step b1).nil 3 1
  clear H0 b1 c0 c1
  go_wp2
  go_loopw [3, 8] (fun ov iv wx => ∃ (i q : Nat), i ≤ 8 ∧ iv = .int .i64 i ∧ Hid (q = (motZ r i).length) ∧ q ≤ i ∧ Sep w wx [Res.row ov 3 1 q (ic (motZ r i)), Res.box g 27 #[.int .i64 r.w, .slice A r.rows.length c]]) (fun _ iv _ => 8 - (intOf iv).toNat)
  case atStart => exact ⟨0, 0, by omega, rfl, Lib.hid rfl, Nat.le_refl _, H1⟩
  case round =>
    clear H1
    obtain ⟨i, q, hi8, rfl, HQ, hq, H⟩ := hrel
    by_cases hlt : i < 8
    · have hlti : (i : Int) < 8 := by omega
      have c0 : wr.cell? ⟨g, 0, none⟩ = some (.int .i64 r.w) := H.h1.cell 0
      have c1 : wr.cell? ⟨g, 1, none⟩ = some (.slice A r.rows.length c) := H.h1.cell 1
      go_upto_region 7 with fail
      have l0 := Later.cell c0 (by have := H.h1.lt; simpa using this)
      have l1 := Later.cell c1 (by have := H.h1.lt; simpa using this)
      have HM : Hid (∀ u : Later wr, Calls Tryd.prog 56 #[.agg #[.int .i64 r.w, .slice A r.rows.length c]] u.w fun e w' => e = .returned (.int .i64 (r.mask : Int)) ∧ Below u.w.heap.size u.w w') := Lib.hid fun u => HMK.out u.w (H.step u.h).below (H.step u.h).below.size
      clear c0 c1
      refine wp_region_later (by kernel_rfl) (by kernel_rfl) ?_
      have HE0 : Hid (((i : Int) % 2 == 0) = decide (i % 2 = 0)) := Lib.hid (by rw [Bool.eq_iff_iff]; simp; omega)
      have HE1 : Hid ((r.w == (r.rows.length : Int)) = decide (r.w.toNat = r.rows.length)) := Lib.hid (by rw [Bool.eq_iff_iff]; have := HW0.out; simp; omega)
      have HMB : Hid (motB r i = ((decide (i % 2 = 0) || decide (r.w.toNat = r.rows.length)) && decide (carN r.w.toNat r.rows.length i r.cells = r.mask))) := Lib.hid rfl
      by_cases hok : i % 2 = 0 ∨ r.w.toNat = r.rows.length
      · obtain ⟨K, hK⟩ : ∃ K, K = carN r.w.toNat r.rows.length i r.cells := ⟨_, rfl⟩
        have HC : Hid (∀ u : Later wr, Calls Tryd.prog 55 #[.agg #[.int .i64 r.w, .slice A r.rows.length c], .int .i64 (r.mask : Int), .int .i64 i] u.w fun e w' => e = .returned (.int .i64 (K : Int)) ∧ Below u.w.heap.size u.w w') := Lib.hid fun u => by
          rw [hK]
          exact HCM.out i hlt hok u.w (H.step u.h).below (H.step u.h).below.size
        have HMB2 : Hid (motB r i = decide (K = r.mask)) := Lib.hid (by rw [HMB.out, hK]; rcases hok with h | h <;> simp [h])
        have e2 : ((K : Int) == (r.mask : Int)) = decide (K = r.mask) := by rw [Bool.eq_iff_iff]; simp; omega
        clear hK
        generalize r.mask = mk at *
        have e0 := HE0.out
        have e1 := HE1.out
        by_cases h2 : i % 2 = 0
        · rw [decide_eq_true h2] at e0
          clear h2 hok e1
          iterate 21 (go_big_quiet_step (first | (go_at_call 56; exact Later.call (HM.out _)) | (go_at_call 55; exact Later.call (HC.out _))))
          refine wpQuiet_nil ?_
          intro w3 hw3
          obtain ⟨u3, hu3⟩ := hw3
          subst hu3
          have H3 := H.step u3.h
          clear l0 l1 HM H
          generalize u3.w = W3 at *
          by_cases hk : K = mk
          · have hb : motB r i = true := by rw [HMB2.out]; exact decide_eq_true hk
            rw [decide_eq_true hk]
            clear hk e2 e0
            have HZ := Lib.hid (motZ_yes hb)
            go_wp2_with (at_builtin; refine wpList_app rfl _ _ 22 rfl 3 i0 _ 1 8 Tryd.underlying22 hi hz0 hz1 hz2 rfl (by decide) _ _ _ rfl (H3.alloc _) _ _ _ [.int .i64 (i : Int)] rfl (Rd.fresh _ 3 #[.int .i64 (i : Int)] 1 1 rfl) oc1 (by unfold maxLen; omega) (by omega) ?_; intro v4 w4 H4; clear H3)
            have HQ2 : Hid (q + 1 = (motZ r (i + 1)).length) := Lib.hid (by rw [HZ.out, List.length_append, ← HQ.out]; rfl)
            have H5 : Sep w w4 [Res.row v4 3 1 (q + 1) (ic (motZ r (i + 1))), Res.box g 27 #[.int .i64 r.w, .slice A r.rows.length c]] := by
              rw [HZ.out, ic_append]; exact H4
            clear H4
            go_wp2
            go_roundw
            case rel => exact ⟨i + 1, q + 1, by omega, by go_num, HQ2, by omega, H5⟩
            case measure => simp [intOf]; omega
          · have hb : motB r i = false := by rw [HMB2.out]; exact decide_eq_false hk
            rw [decide_eq_false hk]
            clear hk e2 e0
            have HZ := Lib.hid (motZ_no hb)
            go_wp2
            go_roundw
            case rel => exact ⟨i + 1, q, by omega, by go_num, by rw [HZ.out]; exact HQ, by omega, by rw [HZ.out]; exact H3⟩
            case measure => simp [intOf]; omega
        · rw [decide_eq_false h2] at e0
          rw [decide_eq_true (by omega)] at e1
          clear h2 hok
          iterate 21 (go_big_quiet_step (first | (go_at_call 56; exact Later.call (HM.out _)) | (go_at_call 55; exact Later.call (HC.out _))))
          refine wpQuiet_nil ?_
          intro w3 hw3
          obtain ⟨u3, hu3⟩ := hw3
          subst hu3
          have H3 := H.step u3.h
          clear l0 l1 HM H
          generalize u3.w = W3 at *
          by_cases hk : K = mk
          · have hb : motB r i = true := by rw [HMB2.out]; exact decide_eq_true hk
            rw [decide_eq_true hk]
            clear hk e2 e0
            have HZ := Lib.hid (motZ_yes hb)
            go_wp2_with (at_builtin; refine wpList_app rfl _ _ 22 rfl 3 i0 _ 1 8 Tryd.underlying22 hi hz0 hz1 hz2 rfl (by decide) _ _ _ rfl (H3.alloc _) _ _ _ [.int .i64 (i : Int)] rfl (Rd.fresh _ 3 #[.int .i64 (i : Int)] 1 1 rfl) oc1 (by unfold maxLen; omega) (by omega) ?_; intro v4 w4 H4; clear H3)
            have HQ2 : Hid (q + 1 = (motZ r (i + 1)).length) := Lib.hid (by rw [HZ.out, List.length_append, ← HQ.out]; rfl)
            have H5 : Sep w w4 [Res.row v4 3 1 (q + 1) (ic (motZ r (i + 1))), Res.box g 27 #[.int .i64 r.w, .slice A r.rows.length c]] := by
              rw [HZ.out, ic_append]; exact H4
            clear H4
            go_wp2
            go_roundw
            case rel => exact ⟨i + 1, q + 1, by omega, by go_num, HQ2, by omega, H5⟩
            case measure => simp [intOf]; omega
          · have hb : motB r i = false := by rw [HMB2.out]; exact decide_eq_false hk
            rw [decide_eq_false hk]
            clear hk e2 e0
            have HZ := Lib.hid (motZ_no hb)
            go_wp2
            go_roundw
            case rel => exact ⟨i + 1, q, by omega, by go_num, by rw [HZ.out]; exact HQ, by omega, by rw [HZ.out]; exact H3⟩
            case measure => simp [intOf]; omega
      · have h2 : ¬ i % 2 = 0 := fun h => hok (.inl h)
        have h3 : ¬ r.w.toNat = r.rows.length := fun h => hok (.inr h)
        have hb : motB r i = false := by rw [HMB.out, decide_eq_false h2, decide_eq_false h3]; rfl
        have e0 := HE0.out
        have e1 := HE1.out
        rw [decide_eq_false h2] at e0
        rw [decide_eq_false h3] at e1
        have HB := Lib.hid hb
        clear h2 h3 hok hb
        iterate 21 (go_big_quiet_step (fail))
        refine wpQuiet_nil ?_
        intro w3 hw3
        obtain ⟨u3, hu3⟩ := hw3
        subst hu3
        have H3 := H.step u3.h
        clear l0 l1 HM H
        generalize u3.w = W3 at *
        have hb := HB.out
        have HZ := Lib.hid (motZ_no hb)
        go_wp2
        go_roundw
        case rel => exact ⟨i + 1, q, by omega, by go_num, by rw [HZ.out]; exact HQ, by omega, by rw [HZ.out]; exact H3⟩
        case measure => simp [intOf]; omega
    · obtain rfl : i = 8 := by omega
      have hq := HQ.out
      have H5 := H.oi
      have hbl := H.below
      clear H
      go_wp2
      go_ret
      exact ⟨_, rfl, by rw [hq] at H5; exact H5, hbl⟩
end Go.Proofs.YtoccedebiacbiaaDoor
