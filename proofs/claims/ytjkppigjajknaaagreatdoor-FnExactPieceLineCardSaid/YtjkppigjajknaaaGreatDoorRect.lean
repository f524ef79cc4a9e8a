
/-
  The walk of the reference's rectangle.
-/
import Derived.Test.YtjkppigjajknaaaGreatDoorFlipX
import Derived.IntWalk
namespace Go.Proofs.YtjkppigjajknaaaGreatDoor
open Go.RowKit

set_option maxRecDepth 100000 in
set_option maxHeartbeats 1600000 in
theorem rect_1 (h : Nat) (w : World) (h1 : 1 ≤ h) (h6 : h ≤ 6) :
    Calls Tryz.prog 147 #[.int .i64 1, .int .i64 (h : Int)] w fun e w' => ∃ A c, e = .returned (.tuple #[.agg #[.int .i64 1, .slice A h c], .bool true]) ∧ OI w' w.heap.size w'.heap.size 3 1 (.slice A h c) h (ic (List.replicate h 1)) ∧ Below w.heap.size w w' := by
  obtain ⟨j0, hj0, hy0, hy1, hy2⟩ := info_parts infoIntC
  have hr1 : inR 1 1 6 = true := by decide
  have hr2 : inR (h : Int) 1 6 = true := inR_t (by omega) (by omega)
  have H := (((Sep.start w).box 36 #[.int .i64 0, .slice none 0 0]).nil 3 1).box 36 #[.int .i64 1, .slice none 0 0]
  simp only [World.size_alloc] at H
  go_enter Tryz.func147, Tryz.ntmps147
  go_wp2_with (go_at_call 59; refine (l1In_r _ _ _ _).mono ?_; rintro e w' ⟨rfl, rfl⟩)
  clear hr1 hr2
  generalize (w.alloc (.cells #[.int .i64 0, .slice none 0 0] 36)).alloc (.cells #[.int .i64 1, .slice none 0 0] 36) = W at *
  go_loopw [7] (fun i wr => ∃ (j : Nat) (v : Value), j ≤ h ∧ i = .int .i64 j ∧ Sep w wr [Res.box (w.heap.size + 1) 36 #[.int .i64 1, v], Res.row v 3 1 j (ic (List.replicate j 1)), Res.box w.heap.size 36 #[.int .i64 0, .slice none 0 0]]) (fun i _ => h - (intOf i).toNat)
  case atStart => exact ⟨0, _, by omega, rfl, H⟩
  case round =>
    clear H
    obtain ⟨j, v, hj, rfl, H⟩ := hrel
    obtain ⟨A, cv, rfl, _, _, _⟩ := Res.row_at H.h1
    have x0 := H.h0.cell 0
    have x1 := H.h0.cell 1
    simp at x0 x1
    by_cases hlj : j < h
    · have hw1 : IntKind.i64.wrap 2 = 2 := rfl
      have hw2 : IntKind.i64.wrap 1 = 1 := rfl
      have hgb : w.heap.size + 1 < wr.heap.size := H.h0.lt
      go_wp2_with fail
      go_region_law (refine step_app rfl (.tmp 25) (.tmp 29) 29 rfl 3 j0 _ 1 8 Tryz.underlying29 hj0 hy0 hy1 hy2 rfl (by decide) (.slice A j cv) j _ (by simp [Act.eval]) ((H.alloc _).drew.g1) (some ⟨wr.heap.size, 0, none⟩) 1 1 [.int .i64 1] (by simp [Act.eval]) (Rd.fresh wr 3 #[.int .i64 1] 1 1 rfl) oc1 (by unfold maxLen; omega) (by omega) ?_; intro v' w5 H5; obtain ⟨A5, cv5, rfl, _, _, _⟩ := Res.row_at H5.h0; have y1 := H5.h1.cell 1; have f1 := H5.h1.frozen 1; simp at y1)
      all_goals
        have H6 := H5.g1.set_ 1 (.slice A5 (j + 1) cv5)
        have e : ic (List.replicate (j + 1) 1) = ic (List.replicate j 1) ++ [.int .i64 1] := by rw [List.replicate_succ', ic_append]; rfl
        have HE := Lib.hid e
        clear e hw1 hw2 f1 y1 x0 x1 H5
        go_wp2
        go_roundw
        case rel => exact ⟨j + 1, .slice A5 (j + 1) cv5, by omega, by go_num, by rw [HE.out]; exact H6⟩
        case measure => simp [intOf]; omega
    · obtain rfl : j = h := by omega
      have z0 := H.h2.cell 0
      have z1 := H.h2.cell 1
      have f0 := H.h2.frozen 0
      have f1 := H.h2.frozen 1
      simp at z0 z1
      have H6 := ((H.g2.set_ 0 (.int .i64 1)).set_ 1 (.slice A j cv))
      have u0 := H6.h0.cell 0
      have u1 := H6.h0.cell 1
      simp at u0 u1
      go_wp2
      exact bodyPost_ret (v := .tuple #[.agg #[.int .i64 1, .slice A j cv], .bool true]) (by simp [results, Tryz.results147, go_sem, u0, u1]) rfl ⟨_, _, rfl, H6.g2.oi, H6.below⟩
set_option maxRecDepth 100000 in
set_option maxHeartbeats 1600000 in
theorem rect_2 (h : Nat) (w : World) (h1 : 1 ≤ h) (h6 : h ≤ 6) :
    Calls Tryz.prog 147 #[.int .i64 2, .int .i64 (h : Int)] w fun e w' => ∃ A c, e = .returned (.tuple #[.agg #[.int .i64 2, .slice A h c], .bool true]) ∧ OI w' w.heap.size w'.heap.size 3 1 (.slice A h c) h (ic (List.replicate h 3)) ∧ Below w.heap.size w w' := by
  obtain ⟨j0, hj0, hy0, hy1, hy2⟩ := info_parts infoIntC
  have hr1 : inR 2 1 6 = true := by decide
  have hr2 : inR (h : Int) 1 6 = true := inR_t (by omega) (by omega)
  have H := (((Sep.start w).box 36 #[.int .i64 0, .slice none 0 0]).nil 3 1).box 36 #[.int .i64 2, .slice none 0 0]
  simp only [World.size_alloc] at H
  go_enter Tryz.func147, Tryz.ntmps147
  go_wp2_with (go_at_call 59; refine (l1In_r _ _ _ _).mono ?_; rintro e w' ⟨rfl, rfl⟩)
  clear hr1 hr2
  generalize (w.alloc (.cells #[.int .i64 0, .slice none 0 0] 36)).alloc (.cells #[.int .i64 2, .slice none 0 0] 36) = W at *
  go_loopw [7] (fun i wr => ∃ (j : Nat) (v : Value), j ≤ h ∧ i = .int .i64 j ∧ Sep w wr [Res.box (w.heap.size + 1) 36 #[.int .i64 2, v], Res.row v 3 1 j (ic (List.replicate j 3)), Res.box w.heap.size 36 #[.int .i64 0, .slice none 0 0]]) (fun i _ => h - (intOf i).toNat)
  case atStart => exact ⟨0, _, by omega, rfl, H⟩
  case round =>
    clear H
    obtain ⟨j, v, hj, rfl, H⟩ := hrel
    obtain ⟨A, cv, rfl, _, _, _⟩ := Res.row_at H.h1
    have x0 := H.h0.cell 0
    have x1 := H.h0.cell 1
    simp at x0 x1
    by_cases hlj : j < h
    · have hw1 : IntKind.i64.wrap 4 = 4 := rfl
      have hw2 : IntKind.i64.wrap 3 = 3 := rfl
      have hgb : w.heap.size + 1 < wr.heap.size := H.h0.lt
      go_wp2_with fail
      go_region_law (refine step_app rfl (.tmp 25) (.tmp 29) 29 rfl 3 j0 _ 1 8 Tryz.underlying29 hj0 hy0 hy1 hy2 rfl (by decide) (.slice A j cv) j _ (by simp [Act.eval]) ((H.alloc _).drew.g1) (some ⟨wr.heap.size, 0, none⟩) 1 1 [.int .i64 3] (by simp [Act.eval]) (Rd.fresh wr 3 #[.int .i64 3] 1 1 rfl) oc1 (by unfold maxLen; omega) (by omega) ?_; intro v' w5 H5; obtain ⟨A5, cv5, rfl, _, _, _⟩ := Res.row_at H5.h0; have y1 := H5.h1.cell 1; have f1 := H5.h1.frozen 1; simp at y1)
      all_goals
        have H6 := H5.g1.set_ 1 (.slice A5 (j + 1) cv5)
        have e : ic (List.replicate (j + 1) 3) = ic (List.replicate j 3) ++ [.int .i64 3] := by rw [List.replicate_succ', ic_append]; rfl
        have HE := Lib.hid e
        clear e hw1 hw2 f1 y1 x0 x1 H5
        go_wp2
        go_roundw
        case rel => exact ⟨j + 1, .slice A5 (j + 1) cv5, by omega, by go_num, by rw [HE.out]; exact H6⟩
        case measure => simp [intOf]; omega
    · obtain rfl : j = h := by omega
      have z0 := H.h2.cell 0
      have z1 := H.h2.cell 1
      have f0 := H.h2.frozen 0
      have f1 := H.h2.frozen 1
      simp at z0 z1
      have H6 := ((H.g2.set_ 0 (.int .i64 2)).set_ 1 (.slice A j cv))
      have u0 := H6.h0.cell 0
      have u1 := H6.h0.cell 1
      simp at u0 u1
      go_wp2
      exact bodyPost_ret (v := .tuple #[.agg #[.int .i64 2, .slice A j cv], .bool true]) (by simp [results, Tryz.results147, go_sem, u0, u1]) rfl ⟨_, _, rfl, H6.g2.oi, H6.below⟩
set_option maxRecDepth 100000 in
set_option maxHeartbeats 1600000 in
theorem rect_3 (h : Nat) (w : World) (h1 : 1 ≤ h) (h6 : h ≤ 6) :
    Calls Tryz.prog 147 #[.int .i64 3, .int .i64 (h : Int)] w fun e w' => ∃ A c, e = .returned (.tuple #[.agg #[.int .i64 3, .slice A h c], .bool true]) ∧ OI w' w.heap.size w'.heap.size 3 1 (.slice A h c) h (ic (List.replicate h 7)) ∧ Below w.heap.size w w' := by
  obtain ⟨j0, hj0, hy0, hy1, hy2⟩ := info_parts infoIntC
  have hr1 : inR 3 1 6 = true := by decide
  have hr2 : inR (h : Int) 1 6 = true := inR_t (by omega) (by omega)
  have H := (((Sep.start w).box 36 #[.int .i64 0, .slice none 0 0]).nil 3 1).box 36 #[.int .i64 3, .slice none 0 0]
  simp only [World.size_alloc] at H
  go_enter Tryz.func147, Tryz.ntmps147
  go_wp2_with (go_at_call 59; refine (l1In_r _ _ _ _).mono ?_; rintro e w' ⟨rfl, rfl⟩)
  clear hr1 hr2
  generalize (w.alloc (.cells #[.int .i64 0, .slice none 0 0] 36)).alloc (.cells #[.int .i64 3, .slice none 0 0] 36) = W at *
  go_loopw [7] (fun i wr => ∃ (j : Nat) (v : Value), j ≤ h ∧ i = .int .i64 j ∧ Sep w wr [Res.box (w.heap.size + 1) 36 #[.int .i64 3, v], Res.row v 3 1 j (ic (List.replicate j 7)), Res.box w.heap.size 36 #[.int .i64 0, .slice none 0 0]]) (fun i _ => h - (intOf i).toNat)
  case atStart => exact ⟨0, _, by omega, rfl, H⟩
  case round =>
    clear H
    obtain ⟨j, v, hj, rfl, H⟩ := hrel
    obtain ⟨A, cv, rfl, _, _, _⟩ := Res.row_at H.h1
    have x0 := H.h0.cell 0
    have x1 := H.h0.cell 1
    simp at x0 x1
    by_cases hlj : j < h
    · have hw1 : IntKind.i64.wrap 8 = 8 := rfl
      have hw2 : IntKind.i64.wrap 7 = 7 := rfl
      have hgb : w.heap.size + 1 < wr.heap.size := H.h0.lt
      go_wp2_with fail
      go_region_law (refine step_app rfl (.tmp 25) (.tmp 29) 29 rfl 3 j0 _ 1 8 Tryz.underlying29 hj0 hy0 hy1 hy2 rfl (by decide) (.slice A j cv) j _ (by simp [Act.eval]) ((H.alloc _).drew.g1) (some ⟨wr.heap.size, 0, none⟩) 1 1 [.int .i64 7] (by simp [Act.eval]) (Rd.fresh wr 3 #[.int .i64 7] 1 1 rfl) oc1 (by unfold maxLen; omega) (by omega) ?_; intro v' w5 H5; obtain ⟨A5, cv5, rfl, _, _, _⟩ := Res.row_at H5.h0; have y1 := H5.h1.cell 1; have f1 := H5.h1.frozen 1; simp at y1)
      all_goals
        have H6 := H5.g1.set_ 1 (.slice A5 (j + 1) cv5)
        have e : ic (List.replicate (j + 1) 7) = ic (List.replicate j 7) ++ [.int .i64 7] := by rw [List.replicate_succ', ic_append]; rfl
        have HE := Lib.hid e
        clear e hw1 hw2 f1 y1 x0 x1 H5
        go_wp2
        go_roundw
        case rel => exact ⟨j + 1, .slice A5 (j + 1) cv5, by omega, by go_num, by rw [HE.out]; exact H6⟩
        case measure => simp [intOf]; omega
    · obtain rfl : j = h := by omega
      have z0 := H.h2.cell 0
      have z1 := H.h2.cell 1
      have f0 := H.h2.frozen 0
      have f1 := H.h2.frozen 1
      simp at z0 z1
      have H6 := ((H.g2.set_ 0 (.int .i64 3)).set_ 1 (.slice A j cv))
      have u0 := H6.h0.cell 0
      have u1 := H6.h0.cell 1
      simp at u0 u1
      go_wp2
      exact bodyPost_ret (v := .tuple #[.agg #[.int .i64 3, .slice A j cv], .bool true]) (by simp [results, Tryz.results147, go_sem, u0, u1]) rfl ⟨_, _, rfl, H6.g2.oi, H6.below⟩
set_option maxRecDepth 100000 in
set_option maxHeartbeats 1600000 in
theorem rect_4 (h : Nat) (w : World) (h1 : 1 ≤ h) (h6 : h ≤ 6) :
    Calls Tryz.prog 147 #[.int .i64 4, .int .i64 (h : Int)] w fun e w' => ∃ A c, e = .returned (.tuple #[.agg #[.int .i64 4, .slice A h c], .bool true]) ∧ OI w' w.heap.size w'.heap.size 3 1 (.slice A h c) h (ic (List.replicate h 15)) ∧ Below w.heap.size w w' := by
  obtain ⟨j0, hj0, hy0, hy1, hy2⟩ := info_parts infoIntC
  have hr1 : inR 4 1 6 = true := by decide
  have hr2 : inR (h : Int) 1 6 = true := inR_t (by omega) (by omega)
  have H := (((Sep.start w).box 36 #[.int .i64 0, .slice none 0 0]).nil 3 1).box 36 #[.int .i64 4, .slice none 0 0]
  simp only [World.size_alloc] at H
  go_enter Tryz.func147, Tryz.ntmps147
  go_wp2_with (go_at_call 59; refine (l1In_r _ _ _ _).mono ?_; rintro e w' ⟨rfl, rfl⟩)
  clear hr1 hr2
  generalize (w.alloc (.cells #[.int .i64 0, .slice none 0 0] 36)).alloc (.cells #[.int .i64 4, .slice none 0 0] 36) = W at *
  go_loopw [7] (fun i wr => ∃ (j : Nat) (v : Value), j ≤ h ∧ i = .int .i64 j ∧ Sep w wr [Res.box (w.heap.size + 1) 36 #[.int .i64 4, v], Res.row v 3 1 j (ic (List.replicate j 15)), Res.box w.heap.size 36 #[.int .i64 0, .slice none 0 0]]) (fun i _ => h - (intOf i).toNat)
  case atStart => exact ⟨0, _, by omega, rfl, H⟩
  case round =>
    clear H
    obtain ⟨j, v, hj, rfl, H⟩ := hrel
    obtain ⟨A, cv, rfl, _, _, _⟩ := Res.row_at H.h1
    have x0 := H.h0.cell 0
    have x1 := H.h0.cell 1
    simp at x0 x1
    by_cases hlj : j < h
    · have hw1 : IntKind.i64.wrap 16 = 16 := rfl
      have hw2 : IntKind.i64.wrap 15 = 15 := rfl
      have hgb : w.heap.size + 1 < wr.heap.size := H.h0.lt
      go_wp2_with fail
      go_region_law (refine step_app rfl (.tmp 25) (.tmp 29) 29 rfl 3 j0 _ 1 8 Tryz.underlying29 hj0 hy0 hy1 hy2 rfl (by decide) (.slice A j cv) j _ (by simp [Act.eval]) ((H.alloc _).drew.g1) (some ⟨wr.heap.size, 0, none⟩) 1 1 [.int .i64 15] (by simp [Act.eval]) (Rd.fresh wr 3 #[.int .i64 15] 1 1 rfl) oc1 (by unfold maxLen; omega) (by omega) ?_; intro v' w5 H5; obtain ⟨A5, cv5, rfl, _, _, _⟩ := Res.row_at H5.h0; have y1 := H5.h1.cell 1; have f1 := H5.h1.frozen 1; simp at y1)
      all_goals
        have H6 := H5.g1.set_ 1 (.slice A5 (j + 1) cv5)
        have e : ic (List.replicate (j + 1) 15) = ic (List.replicate j 15) ++ [.int .i64 15] := by rw [List.replicate_succ', ic_append]; rfl
        have HE := Lib.hid e
        clear e hw1 hw2 f1 y1 x0 x1 H5
        go_wp2
        go_roundw
        case rel => exact ⟨j + 1, .slice A5 (j + 1) cv5, by omega, by go_num, by rw [HE.out]; exact H6⟩
        case measure => simp [intOf]; omega
    · obtain rfl : j = h := by omega
      have z0 := H.h2.cell 0
      have z1 := H.h2.cell 1
      have f0 := H.h2.frozen 0
      have f1 := H.h2.frozen 1
      simp at z0 z1
      have H6 := ((H.g2.set_ 0 (.int .i64 4)).set_ 1 (.slice A j cv))
      have u0 := H6.h0.cell 0
      have u1 := H6.h0.cell 1
      simp at u0 u1
      go_wp2
      exact bodyPost_ret (v := .tuple #[.agg #[.int .i64 4, .slice A j cv], .bool true]) (by simp [results, Tryz.results147, go_sem, u0, u1]) rfl ⟨_, _, rfl, H6.g2.oi, H6.below⟩
set_option maxRecDepth 100000 in
set_option maxHeartbeats 1600000 in
theorem rect_5 (h : Nat) (w : World) (h1 : 1 ≤ h) (h6 : h ≤ 6) :
    Calls Tryz.prog 147 #[.int .i64 5, .int .i64 (h : Int)] w fun e w' => ∃ A c, e = .returned (.tuple #[.agg #[.int .i64 5, .slice A h c], .bool true]) ∧ OI w' w.heap.size w'.heap.size 3 1 (.slice A h c) h (ic (List.replicate h 31)) ∧ Below w.heap.size w w' := by
  obtain ⟨j0, hj0, hy0, hy1, hy2⟩ := info_parts infoIntC
  have hr1 : inR 5 1 6 = true := by decide
  have hr2 : inR (h : Int) 1 6 = true := inR_t (by omega) (by omega)
  have H := (((Sep.start w).box 36 #[.int .i64 0, .slice none 0 0]).nil 3 1).box 36 #[.int .i64 5, .slice none 0 0]
  simp only [World.size_alloc] at H
  go_enter Tryz.func147, Tryz.ntmps147
  go_wp2_with (go_at_call 59; refine (l1In_r _ _ _ _).mono ?_; rintro e w' ⟨rfl, rfl⟩)
  clear hr1 hr2
  generalize (w.alloc (.cells #[.int .i64 0, .slice none 0 0] 36)).alloc (.cells #[.int .i64 5, .slice none 0 0] 36) = W at *
  go_loopw [7] (fun i wr => ∃ (j : Nat) (v : Value), j ≤ h ∧ i = .int .i64 j ∧ Sep w wr [Res.box (w.heap.size + 1) 36 #[.int .i64 5, v], Res.row v 3 1 j (ic (List.replicate j 31)), Res.box w.heap.size 36 #[.int .i64 0, .slice none 0 0]]) (fun i _ => h - (intOf i).toNat)
  case atStart => exact ⟨0, _, by omega, rfl, H⟩
  case round =>
    clear H
    obtain ⟨j, v, hj, rfl, H⟩ := hrel
    obtain ⟨A, cv, rfl, _, _, _⟩ := Res.row_at H.h1
    have x0 := H.h0.cell 0
    have x1 := H.h0.cell 1
    simp at x0 x1
    by_cases hlj : j < h
    · have hw1 : IntKind.i64.wrap 32 = 32 := rfl
      have hw2 : IntKind.i64.wrap 31 = 31 := rfl
      have hgb : w.heap.size + 1 < wr.heap.size := H.h0.lt
      go_wp2_with fail
      go_region_law (refine step_app rfl (.tmp 25) (.tmp 29) 29 rfl 3 j0 _ 1 8 Tryz.underlying29 hj0 hy0 hy1 hy2 rfl (by decide) (.slice A j cv) j _ (by simp [Act.eval]) ((H.alloc _).drew.g1) (some ⟨wr.heap.size, 0, none⟩) 1 1 [.int .i64 31] (by simp [Act.eval]) (Rd.fresh wr 3 #[.int .i64 31] 1 1 rfl) oc1 (by unfold maxLen; omega) (by omega) ?_; intro v' w5 H5; obtain ⟨A5, cv5, rfl, _, _, _⟩ := Res.row_at H5.h0; have y1 := H5.h1.cell 1; have f1 := H5.h1.frozen 1; simp at y1)
      all_goals
        have H6 := H5.g1.set_ 1 (.slice A5 (j + 1) cv5)
        have e : ic (List.replicate (j + 1) 31) = ic (List.replicate j 31) ++ [.int .i64 31] := by rw [List.replicate_succ', ic_append]; rfl
        have HE := Lib.hid e
        clear e hw1 hw2 f1 y1 x0 x1 H5
        go_wp2
        go_roundw
        case rel => exact ⟨j + 1, .slice A5 (j + 1) cv5, by omega, by go_num, by rw [HE.out]; exact H6⟩
        case measure => simp [intOf]; omega
    · obtain rfl : j = h := by omega
      have z0 := H.h2.cell 0
      have z1 := H.h2.cell 1
      have f0 := H.h2.frozen 0
      have f1 := H.h2.frozen 1
      simp at z0 z1
      have H6 := ((H.g2.set_ 0 (.int .i64 5)).set_ 1 (.slice A j cv))
      have u0 := H6.h0.cell 0
      have u1 := H6.h0.cell 1
      simp at u0 u1
      go_wp2
      exact bodyPost_ret (v := .tuple #[.agg #[.int .i64 5, .slice A j cv], .bool true]) (by simp [results, Tryz.results147, go_sem, u0, u1]) rfl ⟨_, _, rfl, H6.g2.oi, H6.below⟩
set_option maxRecDepth 100000 in
set_option maxHeartbeats 1600000 in
theorem rect_6 (h : Nat) (w : World) (h1 : 1 ≤ h) (h6 : h ≤ 6) :
    Calls Tryz.prog 147 #[.int .i64 6, .int .i64 (h : Int)] w fun e w' => ∃ A c, e = .returned (.tuple #[.agg #[.int .i64 6, .slice A h c], .bool true]) ∧ OI w' w.heap.size w'.heap.size 3 1 (.slice A h c) h (ic (List.replicate h 63)) ∧ Below w.heap.size w w' := by
  obtain ⟨j0, hj0, hy0, hy1, hy2⟩ := info_parts infoIntC
  have hr1 : inR 6 1 6 = true := by decide
  have hr2 : inR (h : Int) 1 6 = true := inR_t (by omega) (by omega)
  have H := (((Sep.start w).box 36 #[.int .i64 0, .slice none 0 0]).nil 3 1).box 36 #[.int .i64 6, .slice none 0 0]
  simp only [World.size_alloc] at H
  go_enter Tryz.func147, Tryz.ntmps147
  go_wp2_with (go_at_call 59; refine (l1In_r _ _ _ _).mono ?_; rintro e w' ⟨rfl, rfl⟩)
  clear hr1 hr2
  generalize (w.alloc (.cells #[.int .i64 0, .slice none 0 0] 36)).alloc (.cells #[.int .i64 6, .slice none 0 0] 36) = W at *
  go_loopw [7] (fun i wr => ∃ (j : Nat) (v : Value), j ≤ h ∧ i = .int .i64 j ∧ Sep w wr [Res.box (w.heap.size + 1) 36 #[.int .i64 6, v], Res.row v 3 1 j (ic (List.replicate j 63)), Res.box w.heap.size 36 #[.int .i64 0, .slice none 0 0]]) (fun i _ => h - (intOf i).toNat)
  case atStart => exact ⟨0, _, by omega, rfl, H⟩
  case round =>
    clear H
    obtain ⟨j, v, hj, rfl, H⟩ := hrel
    obtain ⟨A, cv, rfl, _, _, _⟩ := Res.row_at H.h1
    have x0 := H.h0.cell 0
    have x1 := H.h0.cell 1
    simp at x0 x1
    by_cases hlj : j < h
    · have hw1 : IntKind.i64.wrap 64 = 64 := rfl
      have hw2 : IntKind.i64.wrap 63 = 63 := rfl
      have hgb : w.heap.size + 1 < wr.heap.size := H.h0.lt
      go_wp2_with fail
      go_region_law (refine step_app rfl (.tmp 25) (.tmp 29) 29 rfl 3 j0 _ 1 8 Tryz.underlying29 hj0 hy0 hy1 hy2 rfl (by decide) (.slice A j cv) j _ (by simp [Act.eval]) ((H.alloc _).drew.g1) (some ⟨wr.heap.size, 0, none⟩) 1 1 [.int .i64 63] (by simp [Act.eval]) (Rd.fresh wr 3 #[.int .i64 63] 1 1 rfl) oc1 (by unfold maxLen; omega) (by omega) ?_; intro v' w5 H5; obtain ⟨A5, cv5, rfl, _, _, _⟩ := Res.row_at H5.h0; have y1 := H5.h1.cell 1; have f1 := H5.h1.frozen 1; simp at y1)
      all_goals
        have H6 := H5.g1.set_ 1 (.slice A5 (j + 1) cv5)
        have e : ic (List.replicate (j + 1) 63) = ic (List.replicate j 63) ++ [.int .i64 63] := by rw [List.replicate_succ', ic_append]; rfl
        have HE := Lib.hid e
        clear e hw1 hw2 f1 y1 x0 x1 H5
        go_wp2
        go_roundw
        case rel => exact ⟨j + 1, .slice A5 (j + 1) cv5, by omega, by go_num, by rw [HE.out]; exact H6⟩
        case measure => simp [intOf]; omega
    · obtain rfl : j = h := by omega
      have z0 := H.h2.cell 0
      have z1 := H.h2.cell 1
      have f0 := H.h2.frozen 0
      have f1 := H.h2.frozen 1
      simp at z0 z1
      have H6 := ((H.g2.set_ 0 (.int .i64 6)).set_ 1 (.slice A j cv))
      have u0 := H6.h0.cell 0
      have u1 := H6.h0.cell 1
      simp at u0 u1
      go_wp2
      exact bodyPost_ret (v := .tuple #[.agg #[.int .i64 6, .slice A j cv], .bool true]) (by simp [results, Tryz.results147, go_sem, u0, u1]) rfl ⟨_, _, rfl, H6.g2.oi, H6.below⟩
set_option maxRecDepth 100000 in
/-- a rectangle of at most six by six -/
theorem rect_c (a b : Nat) (w : World) (ha : 1 ≤ a ∧ a ≤ 6) (hb : 1 ≤ b ∧ b ≤ 6) :
    Calls Tryz.prog 147 #[.int .i64 (a : Int), .int .i64 (b : Int)] w fun e w' => ∃ A c, e = .returned (.tuple #[.agg #[.int .i64 (a : Int), .slice A b c], .bool true]) ∧ OI w' w.heap.size w'.heap.size 3 1 (.slice A b c) b (ic (List.replicate b (2 ^ a - 1))) ∧ Below w.heap.size w w' := by
  have hx : a = 1 ∨ a = 2 ∨ a = 3 ∨ a = 4 ∨ a = 5 ∨ a = 6 := by omega
  rcases hx with rfl | rfl | rfl | rfl | rfl | rfl
  · exact rect_1 b w hb.1 hb.2
  · exact rect_2 b w hb.1 hb.2
  · exact rect_3 b w hb.1 hb.2
  · exact rect_4 b w hb.1 hb.2
  · exact rect_5 b w hb.1 hb.2
  · exact rect_6 b w hb.1 hb.2
end Go.Proofs.YtjkppigjajknaaaGreatDoor
