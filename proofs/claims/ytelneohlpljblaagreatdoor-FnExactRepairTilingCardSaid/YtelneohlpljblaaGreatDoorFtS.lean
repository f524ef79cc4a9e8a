
/-
  Is there a tiling, and which comes first? The reference's walks, and whether there is one: both.
-/
import Derived.Test.YtelneohlpljblaaGreatDoorFtX
import Derived.Test.YtelneohlpljblaaGreatDoorSrcS
import Derived.Test.YtelneohlpljblaaGreatDoorPlcSX
namespace Go.Proofs.YtelneohlpljblaaGreatDoor
open Go.RowKit

theorem srch_c {v : Value} {A : List Nat} (hA : ∀ m ∈ A, m < 2 ^ 36) : ∀ free, free < 2 ^ 36 → SrchC v A free := by
  intro free
  induction free using Nat.strongRecOn with
  | _ free ih =>
    intro hf
    by_cases h0 : free = 0
    · subst h0
      exact srch_zero v A
    · exact srch_step hA h0 hf fun k hk => ih k hk (by omega)
theorem Sep.rowsOi {w0 w : World} {L : List Res} {vs : List Value} {M : List (List Int)} (h : Sep w0 w (Res.rows vs M :: L)) {i : Nat} {u : Value} {r : List Int} (hu : vs[i]? = some u) (hr : M[i]? = some r) : OI w w0.heap.size w.heap.size 3 1 u r.length (ic r) := by
  have h1 := RowsAt.own h.h0 i u r hu hr
  refine ⟨⟨h1.1, ?_⟩, fun k hk => own_lt h1 k hk⟩
  rcases h1.2 with hn | ⟨g, cap, cur, e, hbg, rest⟩
  · exact .inl hn
  · exact .inr ⟨g, cap, cur, e, h.2.1 g ⟨_, List.mem_of_getElem? hu, by rw [e]; rfl⟩, rest⟩
theorem srcM_one {A : List Nat} {free : Nat} : srcM A free 1 = if ordB A free 0 = true then [nl (ordR A free 0)] else [] := by
  unfold srcM ordB ordR
  cases til A free with
  | nil => rfl
  | cons t T => rfl
theorem ordR_none {A : List Nat} {free : Nat} (h : ordB A free 0 = false) : ordR A free 0 = [] := by
  unfold ordB at h
  unfold ordR
  cases hT : (til A free)[0]? with
  | none => rfl
  | some t => rw [hT] at h; cases h
set_option maxRecDepth 100000 in
set_option maxHeartbeats 1600000 in
theorem spec_find_c {v v2 : Value} {r : Reg} {ps : List (List Cell)} (w : World) (h : RegRd w 0 w.heap.size v r) (h2 : CellSSRd w 0 w.heap.size v2 ps) (hn : ps.length ≤ 1048576) (hl : ∀ s ∈ ps, s.length ≤ 1048576) :
    Calls Tryz.prog 51 #[v, v2] w fun e w' => ∃ v', e = .returned (.tuple #[v', .bool (findB r ps)]) ∧ IntsIn w' w.heap.size w'.heap.size v' (nl (findL r ps)) ∧ Below w.heap.size w w' := by
  have HRD : Hid (∀ w1, Below w.heap.size w w1 → RegRd w1 0 w1.heap.size v r) := Lib.hid fun w1 b1 => (h.keep (SameIn.of_below b1 (Nat.le_refl _))).more (Nat.le_refl _) b1.size
  have HR2 : Hid (∀ w1, Below w.heap.size w w1 → CellSSRd w1 0 w1.heap.size v2 ps) := Lib.hid fun w1 b1 => (h2.keep (SameIn.of_below b1 (Nat.le_refl _))).more (Nat.le_refl _) b1.size
  have HAR : Hid (∀ w1, Below w.heap.size w w1 → Calls Tryz.prog 55 #[v2] w1 fun e w' => e = .returned (.bool (arePcs ps)) ∧ Below w1.heap.size w1 w') := Lib.hid fun w1 b1 =>
    spec_arePcs_c w1 (HR2.out w1 b1) hn hl
  obtain ⟨RB, hRB⟩ : ∃ b, b = findB r ps := ⟨_, rfl⟩
  obtain ⟨RL, hRL⟩ : ∃ b, b = nl (findL r ps) := ⟨_, rfl⟩
  rw [← hRB, ← hRL]
  have HB := Lib.hid hRB
  have HL := Lib.hid hRL
  obtain ⟨sr, rfl, hsr⟩ := h
  obtain ⟨A, c, rfl, _, _⟩ := hsr
  obtain ⟨vs, ⟨A2, c2, rfl, _, _⟩, _⟩ := h2
  have H0 := (Sep.start w).box 31 #[.int .i64 r.w, .slice A r.rows.length c]
  obtain ⟨bR, hbR⟩ : ∃ bR, bR = w.heap.size := ⟨_, rfl⟩
  rw [← hbR] at H0
  clear hRB hRL hn hl
  go_enter Tryz.func51, Tryz.ntmps51
  go_upto_region 1 with fail
  rw [← hbR]
  generalize (w.alloc (.cells #[.int .i64 r.w, .slice A r.rows.length c] 31)) = W at *
  clear hbR
  have c0 : W.cell? ⟨bR, 0, none⟩ = some (.int .i64 r.w) := H0.h0.cell 0
  have c1 : W.cell? ⟨bR, 1, none⟩ = some (.slice A r.rows.length c) := H0.h0.cell 1
  have HP := Lib.hid (spec_IsRegion_c W (HRD.out W H0.below))
  go_wp2_with fail
  refine (HP.out).mono ?_
  rintro e w1 ⟨rfl, b1⟩
  have H1 := H0.step b1
  clear H0 b1 HP c0 c1
  cases hv : r.valid
  · have h1 := find_no (r := r) (ps := ps) (by rw [hv]; rfl)
    obtain rfl : RB = false := by rw [HB.out, h1.1]
    obtain rfl : RL = [] := by rw [HL.out, h1.2]; rfl
    have H2 := H1.rowBox 3 #[] 1 0 rfl (by decide)
    clear hv h1
    go_wp2
    refine bodyPost_ret (results_tmp2 rfl _ _ _) rfl ?_
    exact ⟨_, rfl, H2.oi, H2.below⟩
  have HVV := Lib.hid hv
  have HP2 := Lib.hid (HAR.out w1 H1.below)
  clear hv HAR
  go_wp2_with fail
  refine (HP2.out).mono ?_
  rintro e w2 ⟨rfl, b2⟩
  replace H1 := H1.step b2
  clear HP2 b2
  cases hp : arePcs ps
  · have h1 := find_no (r := r) (ps := ps) (by rw [hp, Bool.and_false])
    obtain rfl : RB = false := by rw [HB.out, h1.1]
    obtain rfl : RL = [] := by rw [HL.out, h1.2]; rfl
    have H2 := H1.rowBox 3 #[] 1 0 rfl (by decide)
    clear hp h1
    go_wp2
    refine bodyPost_ret (results_tmp2 rfl _ _ _) rfl ?_
    exact ⟨_, rfl, H2.oi, H2.below⟩
  have h1 := find_yes (r := r) (ps := ps) (by rw [hp, HVV.out]; rfl)
  have HV := Lib.hid (Reg.valid_iff.1 HVV.out)
  have HAP := Lib.hid hp
  have HALL : Hid (∀ w1, Below w.heap.size w w1 → Calls Tryz.prog 56 #[.agg #[.int .i64 r.w, .slice A r.rows.length c], .slice A2 ps.length c2] w1 fun e w' => ∃ v', e = .returned v' ∧ IntsIn w' w1.heap.size w'.heap.size v' (allP r ps) ∧ Below w1.heap.size w1 w') := Lib.hid fun w1 b1 =>
    spec_all_c w1 (HRD.out w1 b1) (HR2.out w1 b1) HV.out HAP.out
  have HMSK : Hid (∀ w1, Below w.heap.size w w1 → Calls Tryz.prog 57 #[.agg #[.int .i64 r.w, .slice A r.rows.length c]] w1 fun e w' => e = .returned (.int .i64 (r.mask : Int)) ∧ Below w1.heap.size w1 w') := Lib.hid fun w1 b1 =>
    spec_mask_c w1 (HRD.out w1 b1) HV.out
  obtain ⟨M1, hM1⟩ : ∃ M, M = srcM (allN r ps) r.mask 1 := ⟨_, rfl⟩
  have HM1 : Hid (M1 = if RB = true then [RL] else []) := Lib.hid (by rw [hM1, srcM_one, HB.out, HL.out, h1.1, h1.2])
  have HRL0 : Hid (RB = false → RL = []) := Lib.hid (fun h => by
    rw [HB.out, h1.1] at h
    rw [HL.out, h1.2, ordR_none h]; rfl)
  have HORD : Hid (∀ w1 v, Below w.heap.size w w1 → IntsRd w1 0 w1.heap.size v (allP r ps) → Calls Tryz.prog 59 #[v, .int .i64 (r.mask : Int), .int .i64 1] w1 fun e w' => ∃ g n c vs, e = .returned (.slice (some ⟨g, 0, none⟩) n c) ∧ n = M1.length ∧ Sep w1 w' [Res.row (.slice (some ⟨g, 0, none⟩) n c) 23 1 n vs, Res.rows vs M1]) := Lib.hid fun w1 v b1 hv => by
    rw [← nl_allN HV.out] at hv
    have := srch_c (v := v) (allN_lt HV.out (ps := ps)) r.mask (by have := Reg.mask_lt HV.out; omega) 1 w1 hv (Nat.le_refl _) (by omega)
    rw [hM1]
    exact this
  replace H1 := H1.drew
  have c0 : w2.drew.cell? ⟨bR, 0, none⟩ = some (.int .i64 r.w) := H1.h0.cell 0
  have c1 : w2.drew.cell? ⟨bR, 1, none⟩ = some (.slice A r.rows.length c) := H1.h0.cell 1
  obtain ⟨M, hM⟩ : ∃ M, M = r.mask := ⟨_, rfl⟩
  obtain ⟨Q, hQ⟩ : ∃ Q, Q = allP r ps := ⟨_, rfl⟩
  rw [← hM] at HMSK HORD
  rw [← hQ] at HALL HORD
  clear hp h1 hM hQ hM1
  go_wp2_with fail
  go_cut [6] (fun lv wx => ∃ g n c vs, lv = .slice (some ⟨g, 0, none⟩) n c ∧ Hid (n = M1.length) ∧ Sep w wx [Res.row (.slice (some ⟨g, 0, none⟩) n c) 23 1 n vs, Res.rows vs M1])
  case first =>
    go_region_with (first
      | (go_at_call 56; (with_reducible refine (HALL.out _ H1.below).mono ?_); rintro e w4 ⟨av, rfl, o4, b4⟩; replace H1 := H1.step b4; have oa := (IntsIn.rd o4).more (Nat.zero_le _) (Nat.le_refl _); clear o4; obtain ⟨Aa, ca, rfl, _, _⟩ := id oa; clear c0 c1; have c0 : w4.cell? ⟨bR, 0, none⟩ = some (.int .i64 r.w) := H1.h0.cell 0; have c1 : w4.cell? ⟨bR, 1, none⟩ = some (.slice A r.rows.length c) := H1.h0.cell 1)
      | (go_at_call 57; (with_reducible refine (HMSK.out _ H1.below).mono ?_); rintro e w5 ⟨rfl, b5⟩; replace H1 := H1.step b5; first | replace oa := ints_keep oa b5 | skip; clear c0 c1; have c0 : w5.cell? ⟨bR, 0, none⟩ = some (.int .i64 r.w) := H1.h0.cell 0; have c1 : w5.cell? ⟨bR, 1, none⟩ = some (.slice A r.rows.length c) := H1.h0.cell 1)
      | (go_at_call 59; (with_reducible refine (HORD.out _ _ H1.below oa).mono ?_); rintro e w6 ⟨g6, n6, c6, vs6, rfl, hn6, H6⟩; have HN6 := Lib.hid hn6; clear hn6))
    all_goals (go_wp2_with fail; go_meet; exact ⟨_, _, _, vs6, rfl, HN6, H6.join H1.drop⟩)
  case rest =>
  obtain ⟨g6, n6, c6, vs6, rfl, HN6, H6⟩ := hcut
  generalize hwc : wc = w7 at *
  clear hwc H1 c0 c1 HALL HMSK HORD
  cases RB
  · obtain rfl : M1 = [] := by rw [HM1.out]; rfl
    obtain rfl : RL = [] := HRL0.out rfl
    obtain rfl : n6 = 0 := HN6.out
    have H2 := H6.rowBox 3 #[] 1 0 rfl (by decide)
    go_wp2
    refine bodyPost_ret (results_tmp2 rfl _ _ _) rfl ?_
    exact ⟨_, rfl, H2.oi, H2.below⟩
  · obtain rfl : M1 = [RL] := by rw [HM1.out]; rfl
    obtain rfl : n6 = 1 := HN6.out
    have hvl : vs6.length = 1 := RowsAt.len H6.h1
    obtain ⟨u, rfl⟩ : ∃ u, vs6 = [u] := by
      match vs6, hvl with
      | [u], _ => exact ⟨u, rfl⟩
    have x0 : w7.cell? ⟨g6, 0, none⟩ = some u := by have := own_cell H6.h0 (j := 0) (u := u) rfl; rwa [Nat.zero_add] at this
    have ho := H6.drop.rowsOi (i := 0) rfl rfl
    have HO := Lib.hid ho
    have HBL := Lib.hid H6.below
    obtain ⟨Au, cu, rfl, _, _⟩ := ho.rd
    clear ho H6 hvl
    go_wp2
    refine bodyPost_ret (results_tmp2 rfl _ _ _) rfl ?_
    exact ⟨_, rfl, HO.out, HBL.out⟩
set_option maxRecDepth 100000 in
set_option maxHeartbeats 800000 in
theorem impl_hasT_c {v v2 : Value} {r : Reg} {ps : List (List Cell)} (w : World) (h : RegRd w 0 w.heap.size v r) (h2 : CellSSRd w 0 w.heap.size v2 ps) (hn : ps.length ≤ 1048576) (hl : ∀ s ∈ ps, s.length ≤ 1048576) (ht : Tab64 w) :
    Calls Tryz.prog 44 #[v, v2] w fun e w' => e = .returned (.bool (findB r ps)) ∧ Below w.heap.size w w' := by
  have HRD : Hid (∀ w1, Below w.heap.size w w1 → RegRd w1 0 w1.heap.size v r) := Lib.hid fun w1 b1 => (h.keep (SameIn.of_below b1 (Nat.le_refl _))).more (Nat.le_refl _) b1.size
  have HR2 : Hid (∀ w1, Below w.heap.size w w1 → CellSSRd w1 0 w1.heap.size v2 ps) := Lib.hid fun w1 b1 => (h2.keep (SameIn.of_below b1 (Nat.le_refl _))).more (Nat.le_refl _) b1.size
  have HFT : Hid (∀ w1, Below w.heap.size w w1 → Calls Tryz.prog 53 #[v, v2] w1 fun e w' => ∃ v', e = .returned (.tuple #[v', .bool (findB r ps)]) ∧ IntsIn w' w1.heap.size w'.heap.size v' (nl (findL r ps)) ∧ Below w1.heap.size w1 w') := Lib.hid fun w1 b1 =>
    impl_find_c w1 (HRD.out w1 b1) (HR2.out w1 b1) hn hl (tab64_on ht b1)
  obtain ⟨RB, hRB⟩ : ∃ b, b = findB r ps := ⟨_, rfl⟩
  rw [← hRB] at HFT ⊢
  obtain ⟨sr, rfl, hsr⟩ := h
  obtain ⟨A, c, rfl, _, _⟩ := hsr
  obtain ⟨vs, ⟨A2, c2, rfl, _, _⟩, _⟩ := h2
  have H0 := (Sep.start w).box 31 #[.int .i64 r.w, .slice A r.rows.length c]
  have HF2 := Lib.hid (HFT.out _ H0.below)
  clear hRB HFT HRD HR2
  go_enter Tryz.func44, Tryz.ntmps44
  go_wp2_with fail
  refine (HF2.out).mono ?_
  rintro e w1 ⟨v1, rfl, o1, b1⟩
  obtain ⟨A1, c1, rfl, _, _⟩ := o1.rd
  have hb := H0.below.trans (b1.mono H0.size)
  clear b1 o1 HF2 H0
  go_wp2
  go_ret
  exact ⟨rfl, hb⟩
set_option maxRecDepth 100000 in
set_option maxHeartbeats 800000 in
theorem spec_hasT_c {v v2 : Value} {r : Reg} {ps : List (List Cell)} (w : World) (h : RegRd w 0 w.heap.size v r) (h2 : CellSSRd w 0 w.heap.size v2 ps) (hn : ps.length ≤ 1048576) (hl : ∀ s ∈ ps, s.length ≤ 1048576)  :
    Calls Tryz.prog 42 #[v, v2] w fun e w' => e = .returned (.bool (findB r ps)) ∧ Below w.heap.size w w' := by
  have HRD : Hid (∀ w1, Below w.heap.size w w1 → RegRd w1 0 w1.heap.size v r) := Lib.hid fun w1 b1 => (h.keep (SameIn.of_below b1 (Nat.le_refl _))).more (Nat.le_refl _) b1.size
  have HR2 : Hid (∀ w1, Below w.heap.size w w1 → CellSSRd w1 0 w1.heap.size v2 ps) := Lib.hid fun w1 b1 => (h2.keep (SameIn.of_below b1 (Nat.le_refl _))).more (Nat.le_refl _) b1.size
  have HFT : Hid (∀ w1, Below w.heap.size w w1 → Calls Tryz.prog 51 #[v, v2] w1 fun e w' => ∃ v', e = .returned (.tuple #[v', .bool (findB r ps)]) ∧ IntsIn w' w1.heap.size w'.heap.size v' (nl (findL r ps)) ∧ Below w1.heap.size w1 w') := Lib.hid fun w1 b1 =>
    spec_find_c w1 (HRD.out w1 b1) (HR2.out w1 b1) hn hl 
  obtain ⟨RB, hRB⟩ : ∃ b, b = findB r ps := ⟨_, rfl⟩
  rw [← hRB] at HFT ⊢
  obtain ⟨sr, rfl, hsr⟩ := h
  obtain ⟨A, c, rfl, _, _⟩ := hsr
  obtain ⟨vs, ⟨A2, c2, rfl, _, _⟩, _⟩ := h2
  have H0 := (Sep.start w).box 31 #[.int .i64 r.w, .slice A r.rows.length c]
  have HF2 := Lib.hid (HFT.out _ H0.below)
  clear hRB HFT HRD HR2
  go_enter Tryz.func42, Tryz.ntmps42
  go_wp2_with fail
  refine (HF2.out).mono ?_
  rintro e w1 ⟨v1, rfl, o1, b1⟩
  obtain ⟨A1, c1, rfl, _, _⟩ := o1.rd
  have hb := H0.below.trans (b1.mono H0.size)
  clear b1 o1 HF2 H0
  go_wp2
  go_ret
  exact ⟨rfl, hb⟩
end Go.Proofs.YtelneohlpljblaaGreatDoor
