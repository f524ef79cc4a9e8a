
/-
  The helpers of the laws over bytes: too many bytes, lists compared. Two equal lists of shapes, compared by the laws. The walk of the reference's rectangle. The law's drawing of regions. The law's drawing of regions, right or not. The law's drawings of regions for divisions. The drawings of the law FnDivisions. The reference's 'IsDivision', walked. The program's 'IsDivision', walked, under the library's table. The law FnDivisions, walked by contracts.
-/
import Derived.Test.YtfmkmjebkmimkaaGreatDoorDraw
import Derived.Test.YtfmkmjebkmimkaaGreatDoorCwWalks
import Derived.Test.YtfmkmjebkmimkaaGreatDoorEqW
import Derived.Test.YtfmkmjebkmimkaaGreatDoorEqV
import Derived.Test.YtfmkmjebkmimkaaGreatDoorFlipX
import Derived.IntWalk
import Derived.Test.YtfmkmjebkmimkaaGreatDoorFdB
import Derived.Deep.DeepCutAuto
import Derived.Test.YtfmkmjebkmimkaaGreatDoorRowX
import Derived.Test.YtfmkmjebkmimkaaGreatDoorDivPX
import Derived.Test.YtfmkmjebkmimkaaGreatDoorSepX
import Derived.Test.YtfmkmjebkmimkaaGreatDoorPlcX
namespace Go.Proofs.YtfmkmjebkmimkaaGreatDoor
open Go.RowKit

theorem row_rdZ {w : World} {v : Value} {n : Nat} {l : List Int} (h : w.ownsRow 0 3 1 v n (ic l)) (hn : n = l.length) : IntsRd w 0 w.heap.size v l := by
  subst hn
  exact IntsIn.rd (lo := 0) ⟨h, fun k hk => own_lt h k hk⟩

set_option maxRecDepth 100000 in
theorem big_no {v : Value} {l : List UInt8} (w : World) (h : BytesRd w 0 w.heap.size v l) (hl : l.length ≤ 1048576) :
    Calls Tryz.prog 20 #[v] w fun e w' => e = .returned (.bool false) ∧ w = w' := by
  obtain ⟨A, c, rfl, hm, hr⟩ := h
  have hd : decide ((1048576 : Int) < (l.length : Int)) = false := by simp; omega
  clear hr
  go_enter Tryz.func20, Tryz.ntmps20
  go_wp2
  go_ret
  exact ⟨rfl, rfl⟩
set_option maxRecDepth 100000 in
theorem big_yes {v : Value} {l : List UInt8} (w : World) (h : BytesRd w 0 w.heap.size v l) (hl : 1048576 < l.length) :
    Calls Tryz.prog 20 #[v] w fun e w' => e = .returned (.bool true) ∧ w = w' := by
  obtain ⟨A, c, rfl, hm, hr⟩ := h
  have hd : decide ((1048576 : Int) < (l.length : Int)) = true := by simp; omega
  clear hr
  go_enter Tryz.func20, Tryz.ntmps20
  go_wp2
  go_ret
  exact ⟨rfl, rfl⟩

set_option maxRecDepth 100000 in
set_option maxHeartbeats 800000 in
theorem spec_eqShapes_same {v v' : Value} {l : List Cell} (w : World) (h : CellsRd w 0 w.heap.size v l) (h' : CellsRd w 0 w.heap.size v' l) :
    Calls Tryz.prog 108 #[v, v'] w fun e w' => e = .returned (.bool true) ∧ Below w.heap.size w w' := by
  obtain ⟨A, c, rfl, hm, hr⟩ := h
  obtain ⟨A', c', rfl, hm', hr'⟩ := h'
  unfold maxLen at hm
  clear hm'
  go_enter Tryz.func108, Tryz.ntmps108
  go_wp2
  go_loopw [5] (fun i wr => ∃ k : Nat, k ≤ l.length ∧ i = .int .i64 k ∧ Below w.heap.size w wr) (fun i _ => l.length - (intOf i).toNat)
  case atStart => exact ⟨0, Nat.zero_le _, rfl, Below.refl _ _⟩
  case round =>
    obtain ⟨k, hk, rfl, hbel⟩ := hrel
    by_cases hlt : k < l.length
    · obtain ⟨b, off, a, rfl, _, hb, hla, q1, q2⟩ := (hr.below hbel (Nat.le_refl _)).at2 hlt
      obtain ⟨b', off', a', rfl, _, hb', hla', q1', q2'⟩ := (hr'.below hbel (Nat.le_refl _)).at2 hlt
      obtain rfl : a = a' := by rw [hla] at hla'; injection hla'
      have heq : ∀ n, (Op.equal 120 (.agg #[.int .i64 a.x, .int .i64 a.y]) (.agg #[.int .i64 a.x, .int .i64 a.y])).run Tryz.prog (wr.drewN n) = .ok true (wr.drewN n) := fun n => by have := run_equal_cell (wr.drewN n) a a; rw [decide_eq_true rfl] at this; exact this
      clear hr hr' hla hla'
      go_wp2_with fail
      go_quiet (fail)
      have hbel2 := below_drewN hbel nq
      generalize wr.drewN nq = w2 at *
      clear heq q1 q2 q1' q2'
      go_wp2
      go_roundw
      case rel => exact ⟨k + 1, by omega, by go_num, hbel2⟩
      case measure => simp [intOf]; omega
    · go_wp2
      go_ret
      exact ⟨rfl, hbel⟩

set_option maxRecDepth 100000 in
set_option maxHeartbeats 800000 in
theorem laws_sameInts_same {v v' : Value} {l : List Int} (w : World) (h : IntsRd w 0 w.heap.size v l) (h' : IntsRd w 0 w.heap.size v' l) :
    Calls Tryz.prog 29 #[v, v'] w fun e w' => e = .returned (.bool true) ∧ Below w.heap.size w w' := by
  obtain ⟨A, c, rfl, hm, hr⟩ := h
  obtain ⟨A', c', rfl, hm', hr'⟩ := h'
  unfold maxLen at hm
  clear hm'
  go_enter Tryz.func29, Tryz.ntmps29
  go_wp2
  go_loopw [5] (fun i wr => ∃ k : Nat, k ≤ l.length ∧ i = .int .i64 k ∧ Below w.heap.size w wr) (fun i _ => l.length - (intOf i).toNat)
  case atStart => exact ⟨0, Nat.zero_le _, rfl, Below.refl _ _⟩
  case round =>
    obtain ⟨k, hk, rfl, hbel⟩ := hrel
    by_cases hlt : k < l.length
    · obtain ⟨b, off, a, rfl, _, hb, hla, q1⟩ := Rd.at1 (f := fun n : Int => .int .i64 n) (hr.below hbel (Nat.le_refl _)) hlt
      obtain ⟨b', off', a', rfl, _, hb', hla', q1'⟩ := Rd.at1 (f := fun n : Int => .int .i64 n) (hr'.below hbel (Nat.le_refl _)) hlt
      obtain rfl : a = a' := by rw [hla] at hla'; injection hla'
      clear hr hr' hla hla'
      go_wp2_with fail
      go_quiet (fail)
      have hbel2 := below_drewN hbel nq
      generalize wr.drewN nq = w2 at *
      clear q1 q1'
      go_wp2
      go_roundw
      case rel => exact ⟨k + 1, by omega, by go_num, hbel2⟩
      case measure => simp [intOf]; omega
    · go_wp2
      go_ret
      exact ⟨rfl, hbel⟩

end Go.Proofs.YtfmkmjebkmimkaaGreatDoor

namespace Go.Proofs.YtfmkmjebkmimkaaGreatDoor
open Go.RowKit

set_option maxRecDepth 100000 in
set_option maxHeartbeats 800000 in
theorem laws_sameShapes_same {v v' : Value} {a : List (List Cell)} (w : World) (h : CellSSRd w 0 w.heap.size v a) (h' : CellSSRd w 0 w.heap.size v' a) :
    Calls Tryz.prog 39 #[v, v'] w fun e w' => e = .returned (.bool true) ∧ Below w.heap.size w w' := by
  obtain ⟨vs, ⟨A, c, rfl, hm, hr⟩, hvs⟩ := h
  obtain ⟨vs', ⟨A', c', rfl, hm', hr'⟩, hvs'⟩ := h'
  unfold maxLen at hm
  go_enter Tryz.func39, Tryz.ntmps39
  go_wp2
  go_loopw [5] (fun i wr => ∃ k : Nat, k ≤ a.length ∧ i = .int .i64 k ∧ Below w.heap.size w wr) (fun i _ => a.length - (intOf i).toNat)
  case atStart => exact ⟨0, Nat.zero_le _, rfl, Below.refl _ _⟩
  case round =>
    obtain ⟨k, hk, rfl, hbel⟩ := hrel
    by_cases hlt : k < a.length
    · obtain ⟨bb, off, x, vx, rfl, _, hb, hla, q1, hx⟩ := (hr.below hbel (Nat.le_refl _)).slot (hvs.keep (SameIn.of_below hbel (Nat.le_refl _))) rfl hlt
      obtain ⟨bb', off', y, vy, rfl, _, hb', hla', q1', hy⟩ := (hr'.below hbel (Nat.le_refl _)).slot (hvs'.keep (SameIn.of_below hbel (Nat.le_refl _))) rfl hlt
      obtain rfl : x = y := by rw [hla] at hla'; injection hla'
      replace hx := hx.more (Nat.le_refl _) hbel.size
      replace hy := hy.more (Nat.le_refl _) hbel.size
      clear hr hr' hla hla' hvs hvs'
      go_wp2_with fail
      go_still_tail 8, (by kernel_rfl)
      change wpList _ _ _ _ _ wr.drew
      have hbel2 := below_drew hbel
      clear q1 q1'
      go_wp2_with fail
      refine (spec_eqShapes_same (l := x) wr.drew hx hy).mono ?_
      rintro e w2 ⟨rfl, b2⟩
      have hbel3 := hbel2.trans (b2.mono hbel2.size)
      clear hbel2 b2 hx hy
      go_wp2
      go_roundw
      case rel => exact ⟨k + 1, by omega, by go_num, hbel3⟩
      case measure => simp [intOf]; omega
    · go_wp2
      go_ret
      exact ⟨rfl, hbel⟩
end Go.Proofs.YtfmkmjebkmimkaaGreatDoor

namespace Go.Proofs.YtfmkmjebkmimkaaGreatDoor
open Go.RowKit

set_option maxRecDepth 100000 in
set_option maxHeartbeats 1600000 in
theorem rect_1 (h : Nat) (w : World) (h1 : 1 ≤ h) (h6 : h ≤ 6) :
    Calls Tryz.prog 30 #[.int .i64 1, .int .i64 (h : Int)] w fun e w' => ∃ A c, e = .returned (.tuple #[.agg #[.int .i64 1, .slice A h c], .bool true]) ∧ OI w' w.heap.size w'.heap.size 3 1 (.slice A h c) h (ic (List.replicate h 1)) ∧ Below w.heap.size w w' := by
  obtain ⟨j0, hj0, hy0, hy1, hy2⟩ := info_parts infoIntC
  have hr1 : inR 1 1 6 = true := by decide
  have hr2 : inR (h : Int) 1 6 = true := inR_t (by omega) (by omega)
  have H := (((Sep.start w).box 29 #[.int .i64 0, .slice none 0 0]).nil 3 1).box 29 #[.int .i64 1, .slice none 0 0]
  simp only [World.size_alloc] at H
  go_enter Tryz.func30, Tryz.ntmps30
  go_wp2_with (go_at_call 95; refine (l1In_r _ _ _ _).mono ?_; rintro e w' ⟨rfl, rfl⟩)
  clear hr1 hr2
  generalize (w.alloc (.cells #[.int .i64 0, .slice none 0 0] 29)).alloc (.cells #[.int .i64 1, .slice none 0 0] 29) = W at *
  go_loopw [7] (fun i wr => ∃ (j : Nat) (v : Value), j ≤ h ∧ i = .int .i64 j ∧ Sep w wr [Res.box (w.heap.size + 1) 29 #[.int .i64 1, v], Res.row v 3 1 j (ic (List.replicate j 1)), Res.box w.heap.size 29 #[.int .i64 0, .slice none 0 0]]) (fun i _ => h - (intOf i).toNat)
  case atStart => exact ⟨0, _, by omega, rfl, H⟩
  case round =>
    clear H
    obtain ⟨j, v, hj, rfl, H⟩ := hrel
    obtain ⟨A, cv, rfl, _, _, _⟩ := Res.row_at H.h1
    have x0 := H.h0.cell 0
    have x1 := H.h0.cell 1
    simp at x0 x1
    by_cases hlj : j < h
    · have hw1 : IntKind.i64.wrap 2 = 2 := rfl
      have hw2 : IntKind.i64.wrap 1 = 1 := rfl
      have hgb : w.heap.size + 1 < wr.heap.size := H.h0.lt
      go_wp2_with fail
      go_region_law (refine step_app rfl (.tmp 25) (.tmp 29) 22 rfl 3 j0 _ 1 8 Tryz.underlying22 hj0 hy0 hy1 hy2 rfl (by decide) (.slice A j cv) j _ (by simp [Act.eval]) ((H.alloc _).drew.g1) (some ⟨wr.heap.size, 0, none⟩) 1 1 [.int .i64 1] (by simp [Act.eval]) (Rd.fresh wr 3 #[.int .i64 1] 1 1 rfl) oc1 (by unfold maxLen; omega) (by omega) ?_; intro v' w5 H5; obtain ⟨A5, cv5, rfl, _, _, _⟩ := Res.row_at H5.h0; have y1 := H5.h1.cell 1; have f1 := H5.h1.frozen 1; simp at y1)
      all_goals
        have H6 := H5.g1.set_ 1 (.slice A5 (j + 1) cv5)
        have e : ic (List.replicate (j + 1) 1) = ic (List.replicate j 1) ++ [.int .i64 1] := by rw [List.replicate_succ', ic_append]; rfl
        have HE := Lib.hid e
        clear e hw1 hw2 f1 y1 x0 x1 H5
        go_wp2
        go_roundw
        case rel => exact ⟨j + 1, .slice A5 (j + 1) cv5, by omega, by go_num, by rw [HE.out]; exact H6⟩
        case measure => simp [intOf]; omega
    · obtain rfl : j = h := by omega
      have z0 := H.h2.cell 0
      have z1 := H.h2.cell 1
      have f0 := H.h2.frozen 0
      have f1 := H.h2.frozen 1
      simp at z0 z1
      have H6 := ((H.g2.set_ 0 (.int .i64 1)).set_ 1 (.slice A j cv))
      have u0 := H6.h0.cell 0
      have u1 := H6.h0.cell 1
      simp at u0 u1
      go_wp2
      exact bodyPost_ret (v := .tuple #[.agg #[.int .i64 1, .slice A j cv], .bool true]) (by simp [results, Tryz.results30, go_sem, u0, u1]) rfl ⟨_, _, rfl, H6.g2.oi, H6.below⟩
set_option maxRecDepth 100000 in
set_option maxHeartbeats 1600000 in
theorem rect_2 (h : Nat) (w : World) (h1 : 1 ≤ h) (h6 : h ≤ 6) :
    Calls Tryz.prog 30 #[.int .i64 2, .int .i64 (h : Int)] w fun e w' => ∃ A c, e = .returned (.tuple #[.agg #[.int .i64 2, .slice A h c], .bool true]) ∧ OI w' w.heap.size w'.heap.size 3 1 (.slice A h c) h (ic (List.replicate h 3)) ∧ Below w.heap.size w w' := by
  obtain ⟨j0, hj0, hy0, hy1, hy2⟩ := info_parts infoIntC
  have hr1 : inR 2 1 6 = true := by decide
  have hr2 : inR (h : Int) 1 6 = true := inR_t (by omega) (by omega)
  have H := (((Sep.start w).box 29 #[.int .i64 0, .slice none 0 0]).nil 3 1).box 29 #[.int .i64 2, .slice none 0 0]
  simp only [World.size_alloc] at H
  go_enter Tryz.func30, Tryz.ntmps30
  go_wp2_with (go_at_call 95; refine (l1In_r _ _ _ _).mono ?_; rintro e w' ⟨rfl, rfl⟩)
  clear hr1 hr2
  generalize (w.alloc (.cells #[.int .i64 0, .slice none 0 0] 29)).alloc (.cells #[.int .i64 2, .slice none 0 0] 29) = W at *
  go_loopw [7] (fun i wr => ∃ (j : Nat) (v : Value), j ≤ h ∧ i = .int .i64 j ∧ Sep w wr [Res.box (w.heap.size + 1) 29 #[.int .i64 2, v], Res.row v 3 1 j (ic (List.replicate j 3)), Res.box w.heap.size 29 #[.int .i64 0, .slice none 0 0]]) (fun i _ => h - (intOf i).toNat)
  case atStart => exact ⟨0, _, by omega, rfl, H⟩
  case round =>
    clear H
    obtain ⟨j, v, hj, rfl, H⟩ := hrel
    obtain ⟨A, cv, rfl, _, _, _⟩ := Res.row_at H.h1
    have x0 := H.h0.cell 0
    have x1 := H.h0.cell 1
    simp at x0 x1
    by_cases hlj : j < h
    · have hw1 : IntKind.i64.wrap 4 = 4 := rfl
      have hw2 : IntKind.i64.wrap 3 = 3 := rfl
      have hgb : w.heap.size + 1 < wr.heap.size := H.h0.lt
      go_wp2_with fail
      go_region_law (refine step_app rfl (.tmp 25) (.tmp 29) 22 rfl 3 j0 _ 1 8 Tryz.underlying22 hj0 hy0 hy1 hy2 rfl (by decide) (.slice A j cv) j _ (by simp [Act.eval]) ((H.alloc _).drew.g1) (some ⟨wr.heap.size, 0, none⟩) 1 1 [.int .i64 3] (by simp [Act.eval]) (Rd.fresh wr 3 #[.int .i64 3] 1 1 rfl) oc1 (by unfold maxLen; omega) (by omega) ?_; intro v' w5 H5; obtain ⟨A5, cv5, rfl, _, _, _⟩ := Res.row_at H5.h0; have y1 := H5.h1.cell 1; have f1 := H5.h1.frozen 1; simp at y1)
      all_goals
        have H6 := H5.g1.set_ 1 (.slice A5 (j + 1) cv5)
        have e : ic (List.replicate (j + 1) 3) = ic (List.replicate j 3) ++ [.int .i64 3] := by rw [List.replicate_succ', ic_append]; rfl
        have HE := Lib.hid e
        clear e hw1 hw2 f1 y1 x0 x1 H5
        go_wp2
        go_roundw
        case rel => exact ⟨j + 1, .slice A5 (j + 1) cv5, by omega, by go_num, by rw [HE.out]; exact H6⟩
        case measure => simp [intOf]; omega
    · obtain rfl : j = h := by omega
      have z0 := H.h2.cell 0
      have z1 := H.h2.cell 1
      have f0 := H.h2.frozen 0
      have f1 := H.h2.frozen 1
      simp at z0 z1
      have H6 := ((H.g2.set_ 0 (.int .i64 2)).set_ 1 (.slice A j cv))
      have u0 := H6.h0.cell 0
      have u1 := H6.h0.cell 1
      simp at u0 u1
      go_wp2
      exact bodyPost_ret (v := .tuple #[.agg #[.int .i64 2, .slice A j cv], .bool true]) (by simp [results, Tryz.results30, go_sem, u0, u1]) rfl ⟨_, _, rfl, H6.g2.oi, H6.below⟩
set_option maxRecDepth 100000 in
set_option maxHeartbeats 1600000 in
theorem rect_3 (h : Nat) (w : World) (h1 : 1 ≤ h) (h6 : h ≤ 6) :
    Calls Tryz.prog 30 #[.int .i64 3, .int .i64 (h : Int)] w fun e w' => ∃ A c, e = .returned (.tuple #[.agg #[.int .i64 3, .slice A h c], .bool true]) ∧ OI w' w.heap.size w'.heap.size 3 1 (.slice A h c) h (ic (List.replicate h 7)) ∧ Below w.heap.size w w' := by
  obtain ⟨j0, hj0, hy0, hy1, hy2⟩ := info_parts infoIntC
  have hr1 : inR 3 1 6 = true := by decide
  have hr2 : inR (h : Int) 1 6 = true := inR_t (by omega) (by omega)
  have H := (((Sep.start w).box 29 #[.int .i64 0, .slice none 0 0]).nil 3 1).box 29 #[.int .i64 3, .slice none 0 0]
  simp only [World.size_alloc] at H
  go_enter Tryz.func30, Tryz.ntmps30
  go_wp2_with (go_at_call 95; refine (l1In_r _ _ _ _).mono ?_; rintro e w' ⟨rfl, rfl⟩)
  clear hr1 hr2
  generalize (w.alloc (.cells #[.int .i64 0, .slice none 0 0] 29)).alloc (.cells #[.int .i64 3, .slice none 0 0] 29) = W at *
  go_loopw [7] (fun i wr => ∃ (j : Nat) (v : Value), j ≤ h ∧ i = .int .i64 j ∧ Sep w wr [Res.box (w.heap.size + 1) 29 #[.int .i64 3, v], Res.row v 3 1 j (ic (List.replicate j 7)), Res.box w.heap.size 29 #[.int .i64 0, .slice none 0 0]]) (fun i _ => h - (intOf i).toNat)
  case atStart => exact ⟨0, _, by omega, rfl, H⟩
  case round =>
    clear H
    obtain ⟨j, v, hj, rfl, H⟩ := hrel
    obtain ⟨A, cv, rfl, _, _, _⟩ := Res.row_at H.h1
    have x0 := H.h0.cell 0
    have x1 := H.h0.cell 1
    simp at x0 x1
    by_cases hlj : j < h
    · have hw1 : IntKind.i64.wrap 8 = 8 := rfl
      have hw2 : IntKind.i64.wrap 7 = 7 := rfl
      have hgb : w.heap.size + 1 < wr.heap.size := H.h0.lt
      go_wp2_with fail
      go_region_law (refine step_app rfl (.tmp 25) (.tmp 29) 22 rfl 3 j0 _ 1 8 Tryz.underlying22 hj0 hy0 hy1 hy2 rfl (by decide) (.slice A j cv) j _ (by simp [Act.eval]) ((H.alloc _).drew.g1) (some ⟨wr.heap.size, 0, none⟩) 1 1 [.int .i64 7] (by simp [Act.eval]) (Rd.fresh wr 3 #[.int .i64 7] 1 1 rfl) oc1 (by unfold maxLen; omega) (by omega) ?_; intro v' w5 H5; obtain ⟨A5, cv5, rfl, _, _, _⟩ := Res.row_at H5.h0; have y1 := H5.h1.cell 1; have f1 := H5.h1.frozen 1; simp at y1)
      all_goals
        have H6 := H5.g1.set_ 1 (.slice A5 (j + 1) cv5)
        have e : ic (List.replicate (j + 1) 7) = ic (List.replicate j 7) ++ [.int .i64 7] := by rw [List.replicate_succ', ic_append]; rfl
        have HE := Lib.hid e
        clear e hw1 hw2 f1 y1 x0 x1 H5
        go_wp2
        go_roundw
        case rel => exact ⟨j + 1, .slice A5 (j + 1) cv5, by omega, by go_num, by rw [HE.out]; exact H6⟩
        case measure => simp [intOf]; omega
    · obtain rfl : j = h := by omega
      have z0 := H.h2.cell 0
      have z1 := H.h2.cell 1
      have f0 := H.h2.frozen 0
      have f1 := H.h2.frozen 1
      simp at z0 z1
      have H6 := ((H.g2.set_ 0 (.int .i64 3)).set_ 1 (.slice A j cv))
      have u0 := H6.h0.cell 0
      have u1 := H6.h0.cell 1
      simp at u0 u1
      go_wp2
      exact bodyPost_ret (v := .tuple #[.agg #[.int .i64 3, .slice A j cv], .bool true]) (by simp [results, Tryz.results30, go_sem, u0, u1]) rfl ⟨_, _, rfl, H6.g2.oi, H6.below⟩
set_option maxRecDepth 100000 in
set_option maxHeartbeats 1600000 in
theorem rect_4 (h : Nat) (w : World) (h1 : 1 ≤ h) (h6 : h ≤ 6) :
    Calls Tryz.prog 30 #[.int .i64 4, .int .i64 (h : Int)] w fun e w' => ∃ A c, e = .returned (.tuple #[.agg #[.int .i64 4, .slice A h c], .bool true]) ∧ OI w' w.heap.size w'.heap.size 3 1 (.slice A h c) h (ic (List.replicate h 15)) ∧ Below w.heap.size w w' := by
  obtain ⟨j0, hj0, hy0, hy1, hy2⟩ := info_parts infoIntC
  have hr1 : inR 4 1 6 = true := by decide
  have hr2 : inR (h : Int) 1 6 = true := inR_t (by omega) (by omega)
  have H := (((Sep.start w).box 29 #[.int .i64 0, .slice none 0 0]).nil 3 1).box 29 #[.int .i64 4, .slice none 0 0]
  simp only [World.size_alloc] at H
  go_enter Tryz.func30, Tryz.ntmps30
  go_wp2_with (go_at_call 95; refine (l1In_r _ _ _ _).mono ?_; rintro e w' ⟨rfl, rfl⟩)
  clear hr1 hr2
  generalize (w.alloc (.cells #[.int .i64 0, .slice none 0 0] 29)).alloc (.cells #[.int .i64 4, .slice none 0 0] 29) = W at *
  go_loopw [7] (fun i wr => ∃ (j : Nat) (v : Value), j ≤ h ∧ i = .int .i64 j ∧ Sep w wr [Res.box (w.heap.size + 1) 29 #[.int .i64 4, v], Res.row v 3 1 j (ic (List.replicate j 15)), Res.box w.heap.size 29 #[.int .i64 0, .slice none 0 0]]) (fun i _ => h - (intOf i).toNat)
  case atStart => exact ⟨0, _, by omega, rfl, H⟩
  case round =>
    clear H
    obtain ⟨j, v, hj, rfl, H⟩ := hrel
    obtain ⟨A, cv, rfl, _, _, _⟩ := Res.row_at H.h1
    have x0 := H.h0.cell 0
    have x1 := H.h0.cell 1
    simp at x0 x1
    by_cases hlj : j < h
    · have hw1 : IntKind.i64.wrap 16 = 16 := rfl
      have hw2 : IntKind.i64.wrap 15 = 15 := rfl
      have hgb : w.heap.size + 1 < wr.heap.size := H.h0.lt
      go_wp2_with fail
      go_region_law (refine step_app rfl (.tmp 25) (.tmp 29) 22 rfl 3 j0 _ 1 8 Tryz.underlying22 hj0 hy0 hy1 hy2 rfl (by decide) (.slice A j cv) j _ (by simp [Act.eval]) ((H.alloc _).drew.g1) (some ⟨wr.heap.size, 0, none⟩) 1 1 [.int .i64 15] (by simp [Act.eval]) (Rd.fresh wr 3 #[.int .i64 15] 1 1 rfl) oc1 (by unfold maxLen; omega) (by omega) ?_; intro v' w5 H5; obtain ⟨A5, cv5, rfl, _, _, _⟩ := Res.row_at H5.h0; have y1 := H5.h1.cell 1; have f1 := H5.h1.frozen 1; simp at y1)
      all_goals
        have H6 := H5.g1.set_ 1 (.slice A5 (j + 1) cv5)
        have e : ic (List.replicate (j + 1) 15) = ic (List.replicate j 15) ++ [.int .i64 15] := by rw [List.replicate_succ', ic_append]; rfl
        have HE := Lib.hid e
        clear e hw1 hw2 f1 y1 x0 x1 H5
        go_wp2
        go_roundw
        case rel => exact ⟨j + 1, .slice A5 (j + 1) cv5, by omega, by go_num, by rw [HE.out]; exact H6⟩
        case measure => simp [intOf]; omega
    · obtain rfl : j = h := by omega
      have z0 := H.h2.cell 0
      have z1 := H.h2.cell 1
      have f0 := H.h2.frozen 0
      have f1 := H.h2.frozen 1
      simp at z0 z1
      have H6 := ((H.g2.set_ 0 (.int .i64 4)).set_ 1 (.slice A j cv))
      have u0 := H6.h0.cell 0
      have u1 := H6.h0.cell 1
      simp at u0 u1
      go_wp2
      exact bodyPost_ret (v := .tuple #[.agg #[.int .i64 4, .slice A j cv], .bool true]) (by simp [results, Tryz.results30, go_sem, u0, u1]) rfl ⟨_, _, rfl, H6.g2.oi, H6.below⟩
set_option maxRecDepth 100000 in
set_option maxHeartbeats 1600000 in
theorem rect_5 (h : Nat) (w : World) (h1 : 1 ≤ h) (h6 : h ≤ 6) :
    Calls Tryz.prog 30 #[.int .i64 5, .int .i64 (h : Int)] w fun e w' => ∃ A c, e = .returned (.tuple #[.agg #[.int .i64 5, .slice A h c], .bool true]) ∧ OI w' w.heap.size w'.heap.size 3 1 (.slice A h c) h (ic (List.replicate h 31)) ∧ Below w.heap.size w w' := by
  obtain ⟨j0, hj0, hy0, hy1, hy2⟩ := info_parts infoIntC
  have hr1 : inR 5 1 6 = true := by decide
  have hr2 : inR (h : Int) 1 6 = true := inR_t (by omega) (by omega)
  have H := (((Sep.start w).box 29 #[.int .i64 0, .slice none 0 0]).nil 3 1).box 29 #[.int .i64 5, .slice none 0 0]
  simp only [World.size_alloc] at H
  go_enter Tryz.func30, Tryz.ntmps30
  go_wp2_with (go_at_call 95; refine (l1In_r _ _ _ _).mono ?_; rintro e w' ⟨rfl, rfl⟩)
  clear hr1 hr2
  generalize (w.alloc (.cells #[.int .i64 0, .slice none 0 0] 29)).alloc (.cells #[.int .i64 5, .slice none 0 0] 29) = W at *
  go_loopw [7] (fun i wr => ∃ (j : Nat) (v : Value), j ≤ h ∧ i = .int .i64 j ∧ Sep w wr [Res.box (w.heap.size + 1) 29 #[.int .i64 5, v], Res.row v 3 1 j (ic (List.replicate j 31)), Res.box w.heap.size 29 #[.int .i64 0, .slice none 0 0]]) (fun i _ => h - (intOf i).toNat)
  case atStart => exact ⟨0, _, by omega, rfl, H⟩
  case round =>
    clear H
    obtain ⟨j, v, hj, rfl, H⟩ := hrel
    obtain ⟨A, cv, rfl, _, _, _⟩ := Res.row_at H.h1
    have x0 := H.h0.cell 0
    have x1 := H.h0.cell 1
    simp at x0 x1
    by_cases hlj : j < h
    · have hw1 : IntKind.i64.wrap 32 = 32 := rfl
      have hw2 : IntKind.i64.wrap 31 = 31 := rfl
      have hgb : w.heap.size + 1 < wr.heap.size := H.h0.lt
      go_wp2_with fail
      go_region_law (refine step_app rfl (.tmp 25) (.tmp 29) 22 rfl 3 j0 _ 1 8 Tryz.underlying22 hj0 hy0 hy1 hy2 rfl (by decide) (.slice A j cv) j _ (by simp [Act.eval]) ((H.alloc _).drew.g1) (some ⟨wr.heap.size, 0, none⟩) 1 1 [.int .i64 31] (by simp [Act.eval]) (Rd.fresh wr 3 #[.int .i64 31] 1 1 rfl) oc1 (by unfold maxLen; omega) (by omega) ?_; intro v' w5 H5; obtain ⟨A5, cv5, rfl, _, _, _⟩ := Res.row_at H5.h0; have y1 := H5.h1.cell 1; have f1 := H5.h1.frozen 1; simp at y1)
      all_goals
        have H6 := H5.g1.set_ 1 (.slice A5 (j + 1) cv5)
        have e : ic (List.replicate (j + 1) 31) = ic (List.replicate j 31) ++ [.int .i64 31] := by rw [List.replicate_succ', ic_append]; rfl
        have HE := Lib.hid e
        clear e hw1 hw2 f1 y1 x0 x1 H5
        go_wp2
        go_roundw
        case rel => exact ⟨j + 1, .slice A5 (j + 1) cv5, by omega, by go_num, by rw [HE.out]; exact H6⟩
        case measure => simp [intOf]; omega
    · obtain rfl : j = h := by omega
      have z0 := H.h2.cell 0
      have z1 := H.h2.cell 1
      have f0 := H.h2.frozen 0
      have f1 := H.h2.frozen 1
      simp at z0 z1
      have H6 := ((H.g2.set_ 0 (.int .i64 5)).set_ 1 (.slice A j cv))
      have u0 := H6.h0.cell 0
      have u1 := H6.h0.cell 1
      simp at u0 u1
      go_wp2
      exact bodyPost_ret (v := .tuple #[.agg #[.int .i64 5, .slice A j cv], .bool true]) (by simp [results, Tryz.results30, go_sem, u0, u1]) rfl ⟨_, _, rfl, H6.g2.oi, H6.below⟩
set_option maxRecDepth 100000 in
set_option maxHeartbeats 1600000 in
theorem rect_6 (h : Nat) (w : World) (h1 : 1 ≤ h) (h6 : h ≤ 6) :
    Calls Tryz.prog 30 #[.int .i64 6, .int .i64 (h : Int)] w fun e w' => ∃ A c, e = .returned (.tuple #[.agg #[.int .i64 6, .slice A h c], .bool true]) ∧ OI w' w.heap.size w'.heap.size 3 1 (.slice A h c) h (ic (List.replicate h 63)) ∧ Below w.heap.size w w' := by
  obtain ⟨j0, hj0, hy0, hy1, hy2⟩ := info_parts infoIntC
  have hr1 : inR 6 1 6 = true := by decide
  have hr2 : inR (h : Int) 1 6 = true := inR_t (by omega) (by omega)
  have H := (((Sep.start w).box 29 #[.int .i64 0, .slice none 0 0]).nil 3 1).box 29 #[.int .i64 6, .slice none 0 0]
  simp only [World.size_alloc] at H
  go_enter Tryz.func30, Tryz.ntmps30
  go_wp2_with (go_at_call 95; refine (l1In_r _ _ _ _).mono ?_; rintro e w' ⟨rfl, rfl⟩)
  clear hr1 hr2
  generalize (w.alloc (.cells #[.int .i64 0, .slice none 0 0] 29)).alloc (.cells #[.int .i64 6, .slice none 0 0] 29) = W at *
  go_loopw [7] (fun i wr => ∃ (j : Nat) (v : Value), j ≤ h ∧ i = .int .i64 j ∧ Sep w wr [Res.box (w.heap.size + 1) 29 #[.int .i64 6, v], Res.row v 3 1 j (ic (List.replicate j 63)), Res.box w.heap.size 29 #[.int .i64 0, .slice none 0 0]]) (fun i _ => h - (intOf i).toNat)
  case atStart => exact ⟨0, _, by omega, rfl, H⟩
  case round =>
    clear H
    obtain ⟨j, v, hj, rfl, H⟩ := hrel
    obtain ⟨A, cv, rfl, _, _, _⟩ := Res.row_at H.h1
    have x0 := H.h0.cell 0
    have x1 := H.h0.cell 1
    simp at x0 x1
    by_cases hlj : j < h
    · have hw1 : IntKind.i64.wrap 64 = 64 := rfl
      have hw2 : IntKind.i64.wrap 63 = 63 := rfl
      have hgb : w.heap.size + 1 < wr.heap.size := H.h0.lt
      go_wp2_with fail
      go_region_law (refine step_app rfl (.tmp 25) (.tmp 29) 22 rfl 3 j0 _ 1 8 Tryz.underlying22 hj0 hy0 hy1 hy2 rfl (by decide) (.slice A j cv) j _ (by simp [Act.eval]) ((H.alloc _).drew.g1) (some ⟨wr.heap.size, 0, none⟩) 1 1 [.int .i64 63] (by simp [Act.eval]) (Rd.fresh wr 3 #[.int .i64 63] 1 1 rfl) oc1 (by unfold maxLen; omega) (by omega) ?_; intro v' w5 H5; obtain ⟨A5, cv5, rfl, _, _, _⟩ := Res.row_at H5.h0; have y1 := H5.h1.cell 1; have f1 := H5.h1.frozen 1; simp at y1)
      all_goals
        have H6 := H5.g1.set_ 1 (.slice A5 (j + 1) cv5)
        have e : ic (List.replicate (j + 1) 63) = ic (List.replicate j 63) ++ [.int .i64 63] := by rw [List.replicate_succ', ic_append]; rfl
        have HE := Lib.hid e
        clear e hw1 hw2 f1 y1 x0 x1 H5
        go_wp2
        go_roundw
        case rel => exact ⟨j + 1, .slice A5 (j + 1) cv5, by omega, by go_num, by rw [HE.out]; exact H6⟩
        case measure => simp [intOf]; omega
    · obtain rfl : j = h := by omega
      have z0 := H.h2.cell 0
      have z1 := H.h2.cell 1
      have f0 := H.h2.frozen 0
      have f1 := H.h2.frozen 1
      simp at z0 z1
      have H6 := ((H.g2.set_ 0 (.int .i64 6)).set_ 1 (.slice A j cv))
      have u0 := H6.h0.cell 0
      have u1 := H6.h0.cell 1
      simp at u0 u1
      go_wp2
      exact bodyPost_ret (v := .tuple #[.agg #[.int .i64 6, .slice A j cv], .bool true]) (by simp [results, Tryz.results30, go_sem, u0, u1]) rfl ⟨_, _, rfl, H6.g2.oi, H6.below⟩
set_option maxRecDepth 100000 in
/-- a rectangle of at most six by six -/
theorem rect_c (a b : Nat) (w : World) (ha : 1 ≤ a ∧ a ≤ 6) (hb : 1 ≤ b ∧ b ≤ 6) :
    Calls Tryz.prog 30 #[.int .i64 (a : Int), .int .i64 (b : Int)] w fun e w' => ∃ A c, e = .returned (.tuple #[.agg #[.int .i64 (a : Int), .slice A b c], .bool true]) ∧ OI w' w.heap.size w'.heap.size 3 1 (.slice A b c) b (ic (List.replicate b (2 ^ a - 1))) ∧ Below w.heap.size w w' := by
  have hx : a = 1 ∨ a = 2 ∨ a = 3 ∨ a = 4 ∨ a = 5 ∨ a = 6 := by omega
  rcases hx with rfl | rfl | rfl | rfl | rfl | rfl
  · exact rect_1 b w hb.1 hb.2
  · exact rect_2 b w hb.1 hb.2
  · exact rect_3 b w hb.1 hb.2
  · exact rect_4 b w hb.1 hb.2
  · exact rect_5 b w hb.1 hb.2
  · exact rect_6 b w hb.1 hb.2
end Go.Proofs.YtfmkmjebkmimkaaGreatDoor

namespace Go.Proofs.YtfmkmjebkmimkaaGreatDoor
open Go.RowKit

theorem Cur.map {w0 w w' : World} {g : Nat} {l : List UInt8} {L L' : List Res} (h : Cur w0 w g l L) (f : ∀ X, Sep w0 w (X :: L) → Sep w0 w' (X :: L')) : Cur w0 w' g l L' := by
  obtain ⟨A, c, i, hh, h1, h2, h3, h4, h5, H⟩ := h
  exact ⟨A, c, i, hh, h1, h2, h3, h4, h5, f _ H⟩
theorem Reg.less_valid {r : Reg} (hv : r.Valid) {x y : Int} : (r.less x y).Valid ∧ (r.less x y).w = r.w := by
  unfold Reg.less
  split
  · rename_i h
    simp only [Reg.isIn, Bool.and_eq_true] at h
    by_cases hc : 0 ≤ x ∧ x < r.w ∧ 0 ≤ y ∧ y < r.rows.length
    · exact ⟨Reg.flip_valid hv (by omega), rfl⟩
    · rw [Reg.has_out hc] at h; cases h.2
  · exact ⟨hv, rfl⟩

set_option maxRecDepth 100000 in
set_option maxHeartbeats 800000 in
theorem l1Pick_c {g b n : Nat} {l : List UInt8} {w0 w : World} {L : List Res} {xs : List Int} (hn : xs.length = n) (h1 : 1 ≤ n) (h2 : n ≤ 1000) (H : Cur w0 w g l (Res.row (.slice (some ⟨b, 0, none⟩) n n) 3 1 n (ic xs) :: L)) :
    Calls Tryz.prog 177 #[.pointer (some ⟨g, 0, none⟩), .slice (some ⟨b, 0, none⟩) n n] w fun e w' => ∃ x : Int, e = .returned (.int .i64 x) ∧ x ∈ xs ∧ Cur w0 w' g l (Res.row (.slice (some ⟨b, 0, none⟩) n n) 3 1 n (ic xs) :: L) := by
  go_enter Tryz.func177, Tryz.ntmps177
  go_wp2_with fail
  refine (l1Below_c (n : Int) H (by omega)).mono ?_
  rintro e w1 ⟨x, rfl, hx1, hx2, hx3, H1⟩
  have hxn := hx2 (by omega)
  obtain ⟨k, rfl⟩ := Int.eq_ofNat_of_zero_le hx1
  have hk : k < xs.length := by omega
  have r0 := own_cell1 H1.sep.h0 (List.getElem?_eq_getElem hk)
  simp only [Nat.zero_add] at r0
  have hmem := List.getElem_mem hk
  generalize xs[k] = a at *
  clear hx2 hx3 H
  go_wp2
  go_ret
  exact ⟨a, rfl, hmem, H1⟩

set_option maxRecDepth 100000 in
set_option maxHeartbeats 1600000 in
theorem l6DrawM_c (mo : Int) (hm1 : 1 ≤ mo) (hm5 : mo ≤ 5) {g : Nat} {l : List UInt8} {w0 w : World} {L : List Res} (H : Cur w0 w g l L) :
    Calls Tryz.prog 176 #[.pointer (some ⟨g, 0, none⟩), .int .i64 mo] w fun e w' => ∃ (r : Reg) (A : Option Addr) (c : Nat), e = .returned (.agg #[.int .i64 r.w, .slice A r.rows.length c]) ∧ r.Valid ∧
      Cur w0 w' g l (Res.row (.slice A r.rows.length c) 3 1 r.rows.length (ic r.rows) :: L) := by
  have H0 := H.map (fun X h => (h.box 29 #[.int .i64 0, .slice none 0 0]).g1)
  clear H
  go_enter Tryz.func176, Tryz.ntmps176
  go_wp2_with fail
  obtain ⟨gz, hgz⟩ : ∃ gz : World, gz = w := ⟨_, rfl⟩
  subst hgz
  generalize gz.alloc (.cells #[.int .i64 0, .slice none 0 0] 29) = W at *
  refine (l1Below_c mo H0 (by omega)).mono ?_
  rintro e w1 ⟨x, rfl, hx1, hx2, hx3, H1⟩
  have hx5 := hx2 (by omega)
  clear hx2 hx3 H0
  go_wp2_with fail
  refine (l1Below_c mo H1 (by omega)).mono ?_
  rintro e w2 ⟨y, rfl, hy1, hy2, hy3, H2⟩
  have hy5 := hy2 (by omega)
  clear hy2 hy3 H1
  obtain ⟨a, ha⟩ : ∃ a : Nat, (a : Int) = 1 + x := ⟨(1 + x).toNat, by omega⟩
  obtain ⟨b, hb⟩ : ∃ b : Nat, (b : Int) = 1 + y := ⟨(1 + y).toNat, by omega⟩
  go_wp2_with fail
  rw [← ha, ← hb]
  have HA := Lib.hid ha
  have HB := Lib.hid hb
  have hab : 1 ≤ a ∧ a ≤ 5 ∧ 1 ≤ b ∧ b ≤ 5 := by omega
  clear ha hb
  refine (rect_c a b w2 ⟨hab.1, by omega⟩ ⟨hab.2.2.1, by omega⟩).mono ?_
  rintro e w3 ⟨A, c, rfl, o3, b3⟩
  obtain ⟨r, hr⟩ : ∃ r : Reg, r = ⟨(a : Int), List.replicate b (2 ^ a - 1)⟩ := ⟨_, rfl⟩
  have hv : r.Valid := by
    rw [hr]
    refine ⟨by simp only; omega, by simp only; omega, by simp; omega, by simp; omega, fun q hq => ?_⟩
    simp only [List.mem_replicate] at hq
    rw [hq.2]
    have := pow_le_64 (wn := a) (by omega)
    simp only [Int.toNat_natCast]
    omega
  have hl : r.rows.length = b := by rw [hr]; simp
  have hw : (a : Int) = r.w := by rw [hr]
  have hrows : List.replicate b ((2 : Int) ^ a - 1) = r.rows := by rw [hr]
  rw [hrows] at o3
  rw [← hl] at o3 ⊢
  rw [hw]
  have H3 := H2.map (fun X h => ((h.oiNew b3 o3).box 29 #[.int .i64 r.w, .slice A r.rows.length c]).g2)
  clear H2 b3 o3 hrows hl hw hr
  go_wp2_with fail
  generalize w3.alloc (.cells #[.int .i64 r.w, .slice A r.rows.length c] 29) = w4 at *
  refine (l1Below_c 3 H3 (by omega)).mono ?_
  rintro e w5 ⟨n, rfl, hn1, hn2, hn3, H5⟩
  have hn5 := hn2 (by omega)
  have hv2 := hv.2.1
  have hv4 := hv.2.2.2.1
  clear hn2 hn3 H3
  go_wp2
  go_loopw [8] (fun nv wr => ∃ (k : Int) (r : Reg) (A : Option Addr) (c : Nat), nv = .int .i64 k ∧ 0 ≤ k ∧ k ≤ 2 ∧ r.Valid ∧ Cur w0 wr g l (Res.box w3.heap.size 29 #[.int .i64 r.w, .slice A r.rows.length c] :: Res.row (.slice A r.rows.length c) 3 1 r.rows.length (ic r.rows) :: Res.box gz.heap.size 29 #[.int .i64 0, .slice none 0 0] :: L)) (fun nv _ => (intOf nv).toNat)
  case atStart => exact ⟨n, r, A, c, rfl, hn1, by omega, hv, H5⟩
  case round =>
    clear H5 hv hv2 hv4
    obtain ⟨k, r, A, c, rfl, hk0, hk2, hv, H⟩ := hrel
    have hv1 := hv.1
    have hv2 := hv.2.1
    have hv4 := hv.2.2.2.1
    have x0 := H.sep.h0.cell 0
    have x1 := H.sep.h0.cell 1
    simp at x0 x1
    by_cases hk : 0 < k
    · have HV := Lib.hid hv
      clear hv
      go_wp2_with fail
      clear x0 x1
      refine (l1Below_c r.w H (by omega)).mono ?_
      rintro e w6 ⟨x, rfl, hx1, hx2, hx3, H6⟩
      have x0 := H6.sep.h0.cell 0
      have x1 := H6.sep.h0.cell 1
      simp at x0 x1
      have hx5 := hx2 (by omega)
      clear hx2 hx3 H
      go_wp2_with fail
      go_region_with ((first
        | (go_at_call 217; refine (l1Below_c (r.rows.length : Int) (by exact H6.map (fun X h => h.drew)) (by omega)).mono ?_; rintro e w7 ⟨y, rfl, hy1, hy2, hy3, H7⟩; have z0 := H7.sep.h0.cell 0; have z1 := H7.sep.h0.cell 1; have f0 := H7.sep.h0.frozen 0; have f1 := H7.sep.h0.frozen 1; simp at z0 z1; clear hy2 hy3)
        | (go_at_call 227; refine (spec_remove_c (r := r) x y w7 ⟨_, rfl, (H7.sep.g1.oi.sr).more (Nat.zero_le _) (Nat.le_refl _)⟩ (by omega)).mono ?_; rintro e w8 ⟨v8, rfl, ⟨s8, rfl, o8⟩, b8⟩; obtain ⟨A8, c8, rfl, _, _⟩ := o8.rd; have H8 := H7.map (fun X h => (h.oiNew b8 o8).g1); have q0 := H8.sep.h1.cell 0; have q1 := H8.sep.h1.cell 1; have p0 := H8.sep.h1.frozen 0; have p1 := H8.sep.h1.frozen 1; simp at q0 q1)))
      all_goals
        have H9 := H8.map (fun X h => (((h.g2.set_ 0 (.int .i64 (r.less x y).w)).set_ 1 (.slice A8 (r.less x y).rows.length c8)).g3.drop).g1)
        have hlv := Reg.less_valid HV.out (x := x) (y := y)
        obtain ⟨r', hr'⟩ : ∃ r', r' = r.less x y := ⟨_, rfl⟩
        rw [← hr'] at H9 hlv ⊢
        have HLV := Lib.hid hlv.1
        clear hr' hlv x0 x1 z0 z1 f0 f1 q0 q1 p0 p1 H8 H7 H6 o8 b8
        go_wp2
        go_roundw
        case rel => exact ⟨k - 1, r', A8, c8, rfl, by omega, by omega, HLV.out, H9⟩
        case measure => simp [intOf]; omega
    · have z0 := H.sep.h2.cell 0
      have z1 := H.sep.h2.cell 1
      have f0 := H.sep.h2.frozen 0
      have f1 := H.sep.h2.frozen 1
      simp at z0 z1
      have H6 := H.sep.g2.set_ 0 (.int .i64 r.w) |>.set_ 1 (.slice A r.rows.length c)
      have u0 := H6.h0.cell 0
      have u1 := H6.h0.cell 1
      simp at u0 u1
      have H7 := H.map (fun X h => ((h.g3.set_ 0 (.int .i64 r.w)).set_ 1 (.slice A r.rows.length c)).drop.g1.drop)
      have HV := Lib.hid hv
      clear hv H6
      go_wp2
      exact bodyPost_ret (v := .agg #[.int .i64 r.w, .slice A r.rows.length c]) (by simp [results, Tryz.results176, go_sem, u0, u1]) rfl ⟨r, A, c, rfl, HV.out, H7⟩
set_option maxRecDepth 100000 in
theorem l6Draw_c {g : Nat} {l : List UInt8} {w0 w : World} {L : List Res} (H : Cur w0 w g l L) :
    Calls Tryz.prog 176 #[.pointer (some ⟨g, 0, none⟩), .int .i64 5] w fun e w' => ∃ (r : Reg) (A : Option Addr) (c : Nat), e = .returned (.agg #[.int .i64 r.w, .slice A r.rows.length c]) ∧ r.Valid ∧
      Cur w0 w' g l (Res.row (.slice A r.rows.length c) 3 1 r.rows.length (ic r.rows) :: L) := l6DrawM_c 5 (by omega) (by omega) H
end Go.Proofs.YtfmkmjebkmimkaaGreatDoor

namespace Go.Proofs.YtfmkmjebkmimkaaGreatDoor
open Go.RowKit

/-- a drawn region: its box, its rows -/
def DrawnR (r : Reg) : Prop := 1 ≤ r.rows.length ∧ r.rows.length ≤ 20
set_option maxRecDepth 100000 in
set_option maxHeartbeats 3200000 in
theorem l6Any_c {g : Nat} {l : List UInt8} {w0 w : World} {L : List Res} (H : Cur w0 w g l L) :
    Calls Tryz.prog 175 #[.pointer (some ⟨g, 0, none⟩)] w fun e w' => ∃ (r : Reg) (A : Option Addr) (c : Nat), e = .returned (.agg #[.int .i64 r.w, .slice A r.rows.length c]) ∧ DrawnR r ∧
      Cur w0 w' g l (Res.row (.slice A r.rows.length c) 3 1 r.rows.length (ic r.rows) :: L) := by
  obtain ⟨j0, hj0, hy0, hy1, hy2⟩ := info_parts infoIntC
  have H0 := H.map (fun X h => (h.box 29 #[.int .i64 0, .slice none 0 0]).g1)
  clear H
  go_enter Tryz.func175, Tryz.ntmps175
  go_wp2_with fail
  obtain ⟨gz, hgz⟩ : ∃ gz : World, gz = w := ⟨_, rfl⟩
  subst hgz
  generalize gz.alloc (.cells #[.int .i64 0, .slice none 0 0] 29) = W at *
  refine (l6Draw_c H0).mono ?_
  rintro e w1 ⟨r, A, c, rfl, hv, H1⟩
  have H2 := H1.map (fun X h => (h.box 29 #[.int .i64 r.w, .slice A r.rows.length c]).g1)
  have hv3 := hv.2.2.1
  have hv4 := hv.2.2.2.1
  clear H0 H1
  go_wp2_with fail
  generalize w1.alloc (.cells #[.int .i64 r.w, .slice A r.rows.length c] 29) = w2 at *
  refine (l1Below_c 14 H2 (by omega)).mono ?_
  rintro e w3 ⟨q, rfl, hq1, hq2, _, H3⟩
  clear H2 hq2
  have HV := Lib.hid hv
  clear hv
  by_cases h0 : q = 0
  · subst h0
    have H4 := H3.map (fun X h => (h.rowBox 3 #[.int .i64 0, .int .i64 7, .int .i64 (-1), .int .i64 2] 1 4 rfl (by decide)).g1)
    go_wp2_with fail
    generalize w3.alloc (.cells #[.int .i64 0, .int .i64 7, .int .i64 (-1), .int .i64 2] 3) = w4 at *
    refine (l1Pick_c (n := 4) (xs := [0, 7, -1, 2]) rfl (by omega) (by omega) H4).mono ?_
    rintro e w5 ⟨x, rfl, hx, H5⟩
    have H6 := H5.map (fun X h => h.g1.drop)
    have x0 := H6.sep.h0.cell 0
    have f0 := H6.sep.h0.frozen 0
    simp at x0
    have H7 := H6.map (fun X h => (h.g1.set_ 0 (.int .i64 x)).p1)
    clear H3 H4 H5 H6 hx
    have z0 : (w5.setCell ⟨w1.heap.size, 0, none⟩ (.int .i64 x)).cell? ⟨gz.heap.size, 0, none⟩ = some (.int .i64 0) := H7.sep.h2.cell 0
    have z1 : (w5.setCell ⟨w1.heap.size, 0, none⟩ (.int .i64 x)).cell? ⟨gz.heap.size, 1, none⟩ = some (.slice none 0 0) := H7.sep.h2.cell 1
    have f0' := H7.sep.h2.frozen 0
    have f1' := H7.sep.h2.frozen 1
    have x0' : (w5.setCell ⟨w1.heap.size, 0, none⟩ (.int .i64 x)).cell? ⟨w1.heap.size, 0, none⟩ = some (.int .i64 (x)) := H7.sep.h0.cell 0
    have x1' : (w5.setCell ⟨w1.heap.size, 0, none⟩ (.int .i64 x)).cell? ⟨w1.heap.size, 1, none⟩ = some (.slice A r.rows.length c) := H7.sep.h0.cell 1
    have He := (H7.sep.g2.set_ 0 (.int .i64 (x))).set_ 1 (.slice A r.rows.length c)
    have u0 := He.h0.cell 0
    have u1 := He.h0.cell 1
    simp at u0 u1
    have Hf := H7.map (fun X h => ((h.g3.set_ 0 (.int .i64 (x))).set_ 1 (.slice A r.rows.length c)).drop.g1.drop)
    clear He
    go_wp2
    exact bodyPost_ret (v := .agg #[.int .i64 x, .slice A r.rows.length c]) (by simp [results, Tryz.results175, go_sem, u0, u1]) rfl ⟨⟨x, r.rows⟩, A, c, rfl, ⟨hv3, by simp only; omega⟩, Hf⟩
  · by_cases h1 : q = 1
    · subst h1
      have x0 := H3.sep.h0.cell 0
      have x1 := H3.sep.h0.cell 1
      simp at x0 x1
      obtain ⟨bo, oo, co, he, _, _, hbo⟩ := own_shape H3.sep.h1 (by omega)
      injection he with he1 _ he3
      subst he1 he3
      have hl0 : (0 : Int) < (r.rows.length : Int) := by omega
      have hgb := H3.sep.h0.lt
      go_wp2_with fail
      go_region_with ((first
        | (go_at_call 177; refine (l1Pick_c (n := 3) (b := w3.heap.size) (xs := [-1, 64, 9223372036854775807]) rfl (by omega) (by omega) (by exact H3.map (fun X h => (h.rowBox 3 #[.int .i64 (-1), .int .i64 64, .int .i64 9223372036854775807] 1 3 rfl (by decide)).drew.g1))).mono ?_; rintro e w5 ⟨x, rfl, hx, H5⟩; have H6 := H5.map (fun X h => h.g1.drop); have r0 := own_cell1 H6.sep.h1 (List.getElem?_eq_getElem (show 0 < r.rows.length by omega)); have fr := own_free H6.sep.h1 0; have x0' := H6.sep.h0.cell 0; have x1' := H6.sep.h0.cell 1; simp at x0' x1'; simp only [Nat.add_zero] at r0 fr)))
      all_goals
        have H7 := H6.map (fun X h => (h.g2.setRow (j := 0) (by rw [ic_length]; omega) (.int .i64 x)).p2)
        rw [ic_set] at H7
        simp only [Nat.add_zero] at H7
        clear x0' x1' r0 fr H6 H5 hx x0 x1
        have z0 : (w5.setCell ⟨bo, oo, none⟩ (.int .i64 x)).cell? ⟨gz.heap.size, 0, none⟩ = some (.int .i64 0) := H7.sep.h2.cell 0
        have z1 : (w5.setCell ⟨bo, oo, none⟩ (.int .i64 x)).cell? ⟨gz.heap.size, 1, none⟩ = some (.slice none 0 0) := H7.sep.h2.cell 1
        have f0' := H7.sep.h2.frozen 0
        have f1' := H7.sep.h2.frozen 1
        have x0' : (w5.setCell ⟨bo, oo, none⟩ (.int .i64 x)).cell? ⟨w1.heap.size, 0, none⟩ = some (.int .i64 (r.w)) := H7.sep.h0.cell 0
        have x1' : (w5.setCell ⟨bo, oo, none⟩ (.int .i64 x)).cell? ⟨w1.heap.size, 1, none⟩ = some (.slice (some ⟨bo, oo, none⟩) r.rows.length c) := H7.sep.h0.cell 1
        have He := (H7.sep.g2.set_ 0 (.int .i64 (r.w))).set_ 1 (.slice (some ⟨bo, oo, none⟩) r.rows.length c)
        have u0 := He.h0.cell 0
        have u1 := He.h0.cell 1
        simp at u0 u1
        have Hf := H7.map (fun X h => ((h.g3.set_ 0 (.int .i64 (r.w))).set_ 1 (.slice (some ⟨bo, oo, none⟩) r.rows.length c)).drop.g1.drop)
        clear He
        go_wp2
        have hls : (r.rows.set 0 x).length = r.rows.length := List.length_set
        refine bodyPost_ret (v := .agg #[.int .i64 r.w, .slice (some ⟨bo, oo, none⟩) r.rows.length c]) (by simp [results, Tryz.results175, go_sem, u0, u1]) rfl ⟨⟨r.w, r.rows.set 0 x⟩, some ⟨bo, oo, none⟩, c, by simp only [hls], ⟨by simp only [hls]; exact hv3, by simp only [hls]; omega⟩, ?_⟩
        simp only [hls]
        exact Hf
    · by_cases h2 : q = 2
      · subst h2
        have x0 := H3.sep.h0.cell 0
        have x1 := H3.sep.h0.cell 1
        have fx := H3.sep.h0.frozen 1
        simp at x0 x1
        obtain ⟨B, cb, ci, ch, e1, e2, e3, e4, e5, HS⟩ := H3
        have hgb := HS.h1.lt
        go_wp2_with (
          at_builtin
          refine wpList_app rfl _ _ 22 rfl 3 j0 _ 1 8 Tryz.underlying22 hj0 hy0 hy1 hy2 rfl (by decide) _ _ _ rfl (HS.alloc _).g2 _ _ _ [.int .i64 1, .int .i64 1, .int .i64 1] rfl (Rd.fresh w3 _ #[.int .i64 1, .int .i64 1, .int .i64 1] 1 3 rfl) (by intro u hu; simp at hu; subst hu; rfl) (by unfold maxLen; omega) (by omega) ?_
          intro v' w5 H5
          obtain ⟨A5, c5, rfl, _, _, _⟩ := Res.row_at H5.h0
          have y1 := H5.p2.h1.cell 1
          have fy := H5.p2.h1.frozen 1
          simp at y1
          have HC : Cur w0 (w5.setCell ⟨w1.heap.size, 1, none⟩ (.slice A5 (r.rows.length + 3) c5)) g l (Res.box w1.heap.size 29 #[.int .i64 r.w, .slice A5 (r.rows.length + 3) c5] :: Res.row (.slice A5 (r.rows.length + 3) c5) 3 1 (r.rows.length + 3) (ic r.rows ++ [.int .i64 1, .int .i64 1, .int .i64 1]) :: Res.box gz.heap.size 29 #[.int .i64 0, .slice none 0 0] :: L) :=
            ⟨B, cb, ci, ch, e1, e2, e3, e4, e5, (H5.p2.g1.set_ 1 (.slice A5 (r.rows.length + 3) c5)).p1⟩
          have z0 : (w5.setCell ⟨w1.heap.size, 1, none⟩ (.slice A5 (r.rows.length + 3) c5)).cell? ⟨gz.heap.size, 0, none⟩ = some (.int .i64 0) := HC.sep.h2.cell 0
          have z1 : (w5.setCell ⟨w1.heap.size, 1, none⟩ (.slice A5 (r.rows.length + 3) c5)).cell? ⟨gz.heap.size, 1, none⟩ = some (.slice none 0 0) := HC.sep.h2.cell 1
          have f0' := HC.sep.h2.frozen 0
          have f1' := HC.sep.h2.frozen 1
          have x0' : (w5.setCell ⟨w1.heap.size, 1, none⟩ (.slice A5 (r.rows.length + 3) c5)).cell? ⟨w1.heap.size, 0, none⟩ = some (.int .i64 (r.w)) := HC.sep.h0.cell 0
          have x1' : (w5.setCell ⟨w1.heap.size, 1, none⟩ (.slice A5 (r.rows.length + 3) c5)).cell? ⟨w1.heap.size, 1, none⟩ = some (.slice A5 (r.rows.length + 3) c5) := HC.sep.h0.cell 1
          have He := (HC.sep.g2.set_ 0 (.int .i64 (r.w))).set_ 1 (.slice A5 (r.rows.length + 3) c5)
          have u0 := He.h0.cell 0
          have u1 := He.h0.cell 1
          simp at u0 u1
          have Hf := HC.map (fun X h => ((h.g3.set_ 0 (.int .i64 (r.w))).set_ 1 (.slice A5 (r.rows.length + 3) c5)).drop.g1.drop)
          clear He
          )
        have hls : (r.rows ++ [1, 1, 1]).length = r.rows.length + 3 := by simp
        refine bodyPost_ret (v := .agg #[.int .i64 r.w, .slice A5 (r.rows.length + 3) c5]) (by simp [results, Tryz.results175, go_sem, u0, u1]) rfl ⟨⟨r.w, r.rows ++ [1, 1, 1]⟩, A5, c5, by simp only [hls], ⟨by simp only [hls]; omega, by simp only [hls]; omega⟩, ?_⟩
        simp only [hls]
        rw [ic_append]
        exact Hf
      · have b0 : (q == 0) = false := by simp [h0]
        have b1 : (q == 1) = false := by simp [h1]
        have b2 : (q == 2) = false := by simp [h2]
        have z0 : (w3).cell? ⟨gz.heap.size, 0, none⟩ = some (.int .i64 0) := H3.sep.h2.cell 0
        have z1 : (w3).cell? ⟨gz.heap.size, 1, none⟩ = some (.slice none 0 0) := H3.sep.h2.cell 1
        have f0' := H3.sep.h2.frozen 0
        have f1' := H3.sep.h2.frozen 1
        have x0' : (w3).cell? ⟨w1.heap.size, 0, none⟩ = some (.int .i64 (r.w)) := H3.sep.h0.cell 0
        have x1' : (w3).cell? ⟨w1.heap.size, 1, none⟩ = some (.slice A r.rows.length c) := H3.sep.h0.cell 1
        have He := (H3.sep.g2.set_ 0 (.int .i64 (r.w))).set_ 1 (.slice A r.rows.length c)
        have u0 := He.h0.cell 0
        have u1 := He.h0.cell 1
        simp at u0 u1
        have Hf := H3.map (fun X h => ((h.g3.set_ 0 (.int .i64 (r.w))).set_ 1 (.slice A r.rows.length c)).drop.g1.drop)
        clear He
        go_wp2
        exact bodyPost_ret (v := .agg #[.int .i64 r.w, .slice A r.rows.length c]) (by simp [results, Tryz.results175, go_sem, u0, u1]) rfl ⟨r, A, c, rfl, ⟨hv3, by omega⟩, Hf⟩
end Go.Proofs.YtfmkmjebkmimkaaGreatDoor

namespace Go.Proofs.YtfmkmjebkmimkaaGreatDoor
open Go.RowKit

set_option maxRecDepth 100000 in
set_option maxHeartbeats 1600000 in
theorem l20Region_c {g : Nat} {l : List UInt8} {w0 w : World} {L : List Res} (H : Cur w0 w g l L) :
    Calls Tryz.prog 118 #[.pointer (some ⟨g, 0, none⟩)] w fun e w' => ∃ (r : Reg) (A : Option Addr) (c : Nat), e = .returned (.agg #[.int .i64 r.w, .slice A r.rows.length c]) ∧ DrawnR r ∧
      Cur w0 w' g l (Res.row (.slice A r.rows.length c) 3 1 r.rows.length (ic r.rows) :: L) := by
  have H0 := H.map (fun X h => (h.box 29 #[.int .i64 0, .slice none 0 0]).g1)
  clear H
  go_enter Tryz.func118, Tryz.ntmps118
  go_wp2_with fail
  obtain ⟨gz, hgz⟩ : ∃ gz : World, gz = w := ⟨_, rfl⟩
  subst hgz
  generalize gz.alloc (.cells #[.int .i64 0, .slice none 0 0] 29) = W at *
  refine (l1Once_c 10 H0 (by omega)).mono ?_
  rintro e w1 ⟨q, rfl, H1⟩
  clear H0
  cases q
  · go_wp2_with fail
    refine (l6DrawM_c 3 (by omega) (by omega) H1).mono ?_
    rintro e w2 ⟨r, A, c, rfl, hv, H2⟩
    have hd : DrawnR r := ⟨hv.2.2.1, by have := hv.2.2.2.1; omega⟩
    have HD := Lib.hid hd
    clear H1 hv hd
    have z0 := H2.sep.h1.cell 0
    have z1 := H2.sep.h1.cell 1
    have f0 := H2.sep.h1.frozen 0
    have f1 := H2.sep.h1.frozen 1
    simp at z0 z1
    have He := (H2.sep.g1.set_ 0 (.int .i64 r.w)).set_ 1 (.slice A r.rows.length c)
    have u0 := He.h0.cell 0
    have u1 := He.h0.cell 1
    simp at u0 u1
    have Hf := H2.map (fun X h => ((h.g2.set_ 0 (.int .i64 r.w)).set_ 1 (.slice A r.rows.length c)).drop)
    clear He
    go_wp2
    exact bodyPost_ret (v := .agg #[.int .i64 r.w, .slice A r.rows.length c]) (by simp [results, Tryz.results118, go_sem, u0, u1]) rfl ⟨r, A, c, rfl, HD.out, Hf⟩
  · go_wp2_with fail
    refine (l6Any_c H1).mono ?_
    rintro e w2 ⟨r, A, c, rfl, hd, H2⟩
    have HD := Lib.hid hd
    clear H1 hd
    have z0 := H2.sep.h1.cell 0
    have z1 := H2.sep.h1.cell 1
    have f0 := H2.sep.h1.frozen 0
    have f1 := H2.sep.h1.frozen 1
    simp at z0 z1
    have He := (H2.sep.g1.set_ 0 (.int .i64 r.w)).set_ 1 (.slice A r.rows.length c)
    have u0 := He.h0.cell 0
    have u1 := He.h0.cell 1
    simp at u0 u1
    have Hf := H2.map (fun X h => ((h.g2.set_ 0 (.int .i64 r.w)).set_ 1 (.slice A r.rows.length c)).drop)
    clear He
    go_wp2
    exact bodyPost_ret (v := .agg #[.int .i64 r.w, .slice A r.rows.length c]) (by simp [results, Tryz.results118, go_sem, u0, u1]) rfl ⟨r, A, c, rfl, HD.out, Hf⟩
/-- what l32Both draws -/
def D32 (k : Int) : Prop := k ∈ ([2, 3, 4, 1, 2, 0, 13] : List Int)
theorem D32.bd {k : Int} (h : D32 k) : 0 ≤ k ∧ k ≤ 13 := by
  unfold D32 at h
  simp only [List.mem_cons, List.not_mem_nil, or_false] at h
  omega
def Both (w : World) : Ending → World → Prop := fun e w' => ∃ (r : Reg) (v' : Value) (k : Int), e = .returned (.tuple #[v', .int .i64 k]) ∧ DrawnR r ∧ D32 k ∧ RegIn w' w.heap.size w'.heap.size v' r ∧ Below w.heap.size w w'
set_option maxRecDepth 100000 in
set_option maxHeartbeats 1600000 in
theorem l32Both_c {v : Value} {l : List UInt8} (w : World) (h : BytesRd w 0 w.heap.size v l) (hn : l.length ≤ 1048576) :
    Calls Tryz.prog 104 #[v] w (Both w) := by
  have H := (Sep.start w).box 29 #[.int .i64 0, .slice none 0 0]
  go_enter Tryz.func104, Tryz.ntmps104
  go_wp2_with fail
  obtain ⟨gz, hgz⟩ : ∃ gz : World, gz = w := ⟨_, rfl⟩
  subst hgz
  generalize gz.alloc (.cells #[.int .i64 0, .slice none 0 0] 29) = W at *
  refine (l1New_c h hn H).mono ?_
  rintro e w1 ⟨g, rfl, H1⟩
  clear H
  go_wp2_with fail
  refine (l20Region_c H1).mono ?_
  rintro e w2 ⟨r, A, c, rfl, hd, H2⟩
  have H3 := H2.map (fun X h => (h.box 29 #[.int .i64 r.w, .slice A r.rows.length c]).g1)
  have HD := Lib.hid hd
  clear H1 H2 hd
  go_upto_region 3 with fail
  generalize w2.alloc (.cells #[.int .i64 r.w, .slice A r.rows.length c] 29) = w3 at *
  have x0 := H3.sep.h0.cell 0
  have x1 := H3.sep.h0.cell 1
  simp at x0 x1
  have hgb := H3.sep.h0.lt
  go_wp2_with fail
  go_region_with ((first
    | (go_at_call 177; refine (l1Pick_c (n := 7) (b := w3.heap.size) (xs := [2, 3, 4, 1, 2, 0, 13]) rfl (by omega) (by omega) (by exact H3.map (fun X h => (h.rowBox 3 #[.int .i64 2, .int .i64 3, .int .i64 4, .int .i64 1, .int .i64 2, .int .i64 0, .int .i64 13] 1 7 rfl (by decide)).drew.g1))).mono ?_; rintro e w5 ⟨k, rfl, hk, H5⟩; have H6 := H5.map (fun X h => h.g1.drop); have x0' := H6.sep.h0.cell 0; have x1' := H6.sep.h0.cell 1; simp at x0' x1'; have z0 := H6.sep.h2.cell 0; have z1 := H6.sep.h2.cell 1; have f0 := H6.sep.h2.frozen 0; have f1 := H6.sep.h2.frozen 1; simp at z0 z1)))
  all_goals
    have He := (H6.sep.g2.set_ 0 (.int .i64 r.w)).set_ 1 (.slice A r.rows.length c)
    have u0 := He.h0.cell 0
    have u1 := He.h0.cell 1
    simp at u0 u1
    have Hf := He.g2
    have HK := Lib.hid hk
    clear H3 H5 H6 x0 x1 x0' x1' z0 z1 f0 f1 hk
    go_wp2
    exact bodyPost_ret (v := .tuple #[.agg #[.int .i64 r.w, .slice A r.rows.length c], .int .i64 k]) (by simp [results, Tryz.results104, go_sem, u0, u1]) rfl ⟨r, _, k, rfl, HD.out, HK.out, ⟨_, rfl, Hf.oi⟩, Hf.below⟩
end Go.Proofs.YtfmkmjebkmimkaaGreatDoor

namespace Go.Proofs.YtfmkmjebkmimkaaGreatDoor
open Go.RowKit

set_option maxRecDepth 100000 in
set_option maxHeartbeats 1600000 in
theorem drawInto_c {v : Value} {l : List UInt8} (w : World) (h : BytesRd w 0 w.heap.size v l) (hn : l.length ≤ 1048576) :
    Calls Tryz.prog 35 #[v] w (Both w) := by
  have H := (Sep.start w).box 29 #[.int .i64 0, .slice none 0 0]
  go_enter Tryz.func35, Tryz.ntmps35
  go_wp2_with fail
  obtain ⟨W, hW⟩ : ∃ W : World, W = w.alloc (.cells #[.int .i64 0, .slice none 0 0] 29) := ⟨_, rfl⟩
  rw [← hW] at H ⊢
  clear hW
  refine (l32Both_c W ((h.keep (SameIn.of_below H.below (Nat.le_refl _))).more (Nat.le_refl _) H.size) hn).mono ?_
  rintro e w1 ⟨r, v1, k, rfl, hd, hk, ⟨s, rfl, o1⟩, b1⟩
  have H1 := H.oiNew b1 o1
  obtain ⟨A, c, rfl, _, _, _⟩ := Res.row_at H1.h0
  have H2 := H1.box 29 #[.int .i64 r.w, .slice A r.rows.length c]
  have HD := Lib.hid hd
  have HK := Lib.hid hk
  clear hd hk o1 b1 H H1
  go_upto_region 2 with fail
  generalize w1.alloc (.cells #[.int .i64 r.w, .slice A r.rows.length c] 29) = w2 at *
  have x0 := H2.h0.cell 0
  have x1 := H2.h0.cell 1
  have z0 := H2.h2.cell 0
  have z1 := H2.h2.cell 1
  have f0 := H2.h2.frozen 0
  have f1 := H2.h2.frozen 1
  simp at x0 x1 z0 z1
  have Hf := (H2.g2.set_ 0 (.int .i64 r.w)).set_ 1 (.slice A r.rows.length c)
  have u0 := Hf.h0.cell 0
  have u1 := Hf.h0.cell 1
  simp at u0 u1
  go_wp2
  exact bodyPost_ret (v := .tuple #[.agg #[.int .i64 r.w, .slice A r.rows.length c], .int .i64 k]) (by simp [results, Tryz.results35, go_sem, u0, u1]) rfl ⟨r, _, k, rfl, HD.out, HK.out, ⟨_, rfl, Hf.g2.oi⟩, Hf.below⟩
set_option maxRecDepth 100000 in
set_option maxHeartbeats 1600000 in
theorem drawDivs_c {v : Value} {l : List UInt8} (w : World) (h : BytesRd w 0 w.heap.size v l) (hn : l.length ≤ 1048576) :
    Calls Tryz.prog 44 #[v] w fun e w' => ∃ (r : Reg) (v' : Value), e = .returned v' ∧ DrawnR r ∧ RegIn w' w.heap.size w'.heap.size v' r ∧ Below w.heap.size w w' := by
  have H := (Sep.start w).box 29 #[.int .i64 0, .slice none 0 0]
  go_enter Tryz.func44, Tryz.ntmps44
  go_wp2_with fail
  obtain ⟨gz, hgz⟩ : ∃ gz : World, gz = w := ⟨_, rfl⟩
  subst hgz
  generalize gz.alloc (.cells #[.int .i64 0, .slice none 0 0] 29) = W at *
  refine (l1New_c h hn H).mono ?_
  rintro e w1 ⟨g, rfl, H1⟩
  clear H
  go_wp2_with fail
  refine (l20Region_c H1).mono ?_
  rintro e w2 ⟨r, A, c, rfl, hd, H2⟩
  have HD := Lib.hid hd
  clear H1 hd
  have z0 := H2.sep.h1.cell 0
  have z1 := H2.sep.h1.cell 1
  have f0 := H2.sep.h1.frozen 0
  have f1 := H2.sep.h1.frozen 1
  simp at z0 z1
  have Hf := (H2.sep.g1.set_ 0 (.int .i64 r.w)).set_ 1 (.slice A r.rows.length c)
  have u0 := Hf.h0.cell 0
  have u1 := Hf.h0.cell 1
  simp at u0 u1
  go_wp2
  exact bodyPost_ret (v := .agg #[.int .i64 r.w, .slice A r.rows.length c]) (by simp [results, Tryz.results44, go_sem, u0, u1]) rfl ⟨r, _, rfl, HD.out, ⟨_, rfl, Hf.g1.oi⟩, Hf.below⟩
/-- what the law draws for IsDivision -/
def DrawIs (w : World) : Ending → World → Prop := fun e w' => ∃ (r : Reg) (v1 v2 : Value) (t : List Int), e = .returned (.tuple #[v1, v2]) ∧ DrawnR r ∧ RegIn w' w.heap.size w'.heap.size v1 r ∧ IntsRd w' 0 w'.heap.size v2 t ∧ (∀ a ∈ t, I64 a) ∧ t.length ≤ 1048576 ∧ Below w.heap.size w w'
theorem divL_ok (r : Reg) (k : Int) : (∀ a ∈ divL r k, I64 a) ∧ (divL r k).length ≤ 1048576 ∧ (divB r k = true → 1 ≤ (divL r k).length) := by
  cases hb : divB r k
  · have : divL r k = [] := by
      have := divB_ne (r := r) (k := k)
      rw [hb] at this
      have hp : divP r k = [] := by
        cases hp : divP r k with
        | nil => rfl
        | cons _ _ => rw [hp] at this; cases this
      exact (div_no hp).1
    rw [this]
    exact ⟨fun a ha => (by cases ha), by simp, fun h => (by cases h)⟩
  · have h1 := div_law hb
    obtain ⟨s, t, hL, ht, hs, hh, hv, hok, hsl⟩ := div_found hb
    have h2 : t.length ≤ 36 := til_len36 (Reg.mask_lt hv) ht
    have hcov := isCov_at (til_cover (Reg.mask_lt hv) ht)
    refine ⟨fun a ha => ?_, by rw [hL]; simp [nl]; omega, fun _ => ?_⟩
    · rw [hL] at ha
      obtain ⟨i, hi⟩ := List.getElem?_of_mem ha
      have := of_decide_eq_true (hcov.1 i a hi).1
      obtain ⟨m, hm, rfl⟩ := List.mem_map.1 this
      have h3 := allN_lt hv m hm
      unfold I64
      omega
    · unfold divOk at hok
      simp only [Bool.and_eq_true, decide_eq_true_eq] at hok
      have := inR_iff.1 hok.1.2
      omega
set_option maxRecDepth 100000 in
theorem drawn_mask {v : Value} {r : Reg} (w : World) (h : RegRd w 0 w.heap.size v r) : Calls Tryz.prog 121 #[v] w fun e w' => ∃ m : Int, e = .returned (.int .i64 m) ∧ I64 m ∧ Below w.heap.size w w' := by
  by_cases hv : r.Valid
  · refine (spec_mask_c w h hv).mono ?_
    rintro e w' ⟨rfl, hb⟩
    have := Reg.mask_lt hv
    exact ⟨_, rfl, by unfold I64; omega, hb⟩
  · refine (spec_mask_no w h hv).mono ?_
    rintro e w' ⟨rfl, hb⟩
    exact ⟨0, rfl, by unfold I64; omega, hb⟩
theorem rd_tail {w : World} {b o n c : Nat} {t : List Int} (h : IntsRd w 0 w.heap.size (.slice (some ⟨b, o, none⟩) n c) t) (h1 : 1 ≤ n) : IntsRd w 0 w.heap.size (.slice (some ⟨b, o + 1, none⟩) (n - 1) (c - 1)) (t.drop 1) := by
  obtain ⟨A', c', e, hm, hr⟩ := h
  injection e with e1 e2 e3
  subst e1
  subst e2
  have hr2 := hr.2 (by omega)
  obtain ⟨b2, o2, e4, h5, h6, hc⟩ := hr2
  injection e4 with e4
  injection e4 with e4 e6
  subst e4
  subst e6
  refine ⟨some ⟨b, o + 1, none⟩, c - 1, by rw [List.length_drop], by rw [List.length_drop]; omega, by rw [List.length_drop]; simp [ic], fun hn => ⟨b, o + 1, rfl, h5, h6, fun j u hu => ?_⟩⟩
  have := hc (j + 1) u (by simpa [ic, List.getElem?_drop, Nat.add_comm] using hu)
  rwa [show o + (j + 1) = o + 1 + j by omega] at this
theorem rd_tail1 {w : World} {A : Option Addr} {n : Nat} {t : List Int} (h : IntsRd w 0 w.heap.size (.slice A n 1) t) (h2 : t.length ≤ 1) (h1 : 1 ≤ n) : IntsRd w 0 w.heap.size (.slice A (n - 1) 0) (t.drop 1) := by
  obtain ⟨A', c', e, hm, hr⟩ := h
  injection e with e1 e2 e3
  subst e1
  subst e2
  have hl := hr.1
  have h0 : t.length = 1 := by omega
  exact ⟨_, 0, by rw [List.length_drop], by rw [List.length_drop]; omega, by rw [List.length_drop]; simp [ic], fun hn => (by rw [List.length_drop] at hn; omega)⟩
set_option maxRecDepth 100000 in
set_option maxHeartbeats 3200000 in
theorem drawIs_c {v : Value} {l : List UInt8} (w : World) (h : BytesRd w 0 w.heap.size v l) (hn : l.length ≤ 1048576) :
    Calls Tryz.prog 48 #[v] w (DrawIs w) := by
  have H := (Sep.start w).box 29 #[.int .i64 0, .slice none 0 0]
  obtain ⟨A0, c0, rfl, hm0, _⟩ := id h
  obtain ⟨m5, hm5⟩ : ∃ m, m = l.length % 5 := ⟨_, rfl⟩
  have t1 : (l.length : Int) % 5 = (m5 : Int) := by omega
  have t2 : Int.tmod (l.length : Int) 5 = (m5 : Int) := by rw [Int.tmod_eq_emod_of_nonneg (by omega)]; omega
  have hmx := Lib.hid hm5
  go_enter Tryz.func48, Tryz.ntmps48
  go_wp2_with fail
  obtain ⟨W, hW⟩ : ∃ W : World, W = w.alloc (.cells #[.int .i64 0, .slice none 0 0] 29) := ⟨_, rfl⟩
  rw [← hW] at H ⊢
  clear hW
  refine (l32Both_c W ((h.keep (SameIn.of_below H.below (Nat.le_refl _))).more (Nat.le_refl _) H.size) hn).mono ?_
  rintro e w1 ⟨r, v1, k, rfl, hd, hk, ⟨s, rfl, o1⟩, b1⟩
  have H1 := H.oiNew b1 o1
  obtain ⟨A, c, rfl, _, _, _⟩ := Res.row_at H1.h0
  have H2 := H1.box 29 #[.int .i64 r.w, .slice A r.rows.length c]
  have HD := Lib.hid hd
  have hr20 := hd.2
  clear hd hk o1 b1 H H1
  go_upto_region 2 with fail
  generalize w1.alloc (.cells #[.int .i64 r.w, .slice A r.rows.length c] 29) = w2 at *
  have x0 := H2.h0.cell 0
  have x1 := H2.h0.cell 1
  simp at x0 x1
  have HRG : Hid (∀ w', Below w2.heap.size w2 w' → RegRd w' 0 w'.heap.size (.agg #[.int .i64 r.w, .slice A r.rows.length c]) r) := Lib.hid fun w' b => ⟨_, rfl, ((H2.step b).g1.oi.sr).more (Nat.zero_le _) (Nat.le_refl _)⟩
  have HIN := Lib.hid (spec_into_c w2 (HRG.out w2 (Below.refl _ _)) k (by omega))
  obtain ⟨B, hB⟩ : ∃ B, B = divB r k := ⟨_, rfl⟩
  obtain ⟨T, hT⟩ : ∃ T, T = divL r k := ⟨_, rfl⟩
  rw [← hB, ← hT] at HIN
  have HOK := Lib.hid (divL_ok r k)
  rw [← hB, ← hT] at HOK
  clear hB hT
  go_wp2_with fail
  refine (HIN.out).mono ?_
  rintro e w3 ⟨v3, rfl, o3, b3⟩
  have H3 := H2.step b3
  have HN := Lib.hid (H2.oiNew b3 o3)
  have HTC : Hid (∃ A4 c4, v3 = .slice A4 T.length c4 ∧ T.length ≤ c4) := Lib.hid (by obtain ⟨A4, c4, e4, h4, _⟩ := Res.row_at HN.out.h0; exact ⟨A4, c4, e4, h4⟩)
  have HR3 := Lib.hid ((IntsIn.rd o3).more (Nat.zero_le _) (Nat.le_refl _))
  have HRG3 : Hid (∀ w', Below w3.heap.size w3 w' → RegRd w' 0 w'.heap.size (.agg #[.int .i64 r.w, .slice A r.rows.length c]) r) := Lib.hid fun w' b => HRG.out w' (b3.trans (b.mono b3.size))
  obtain ⟨A3, c3, rfl, hm3, _⟩ := (IntsIn.rd o3)
  clear x0 x1 HIN o3 b3 H2 HRG
  have x0 := H3.h0.cell 0
  have x1 := H3.h0.cell 1
  have z0 := H3.h2.cell 0
  have z1 := H3.h2.cell 1
  have f0 := H3.h2.frozen 0
  have f1 := H3.h2.frozen 1
  simp at x0 x1 z0 z1
  have hgb := H3.h0.lt
  cases B
  · have HMK := Lib.hid (fun w' (b : Below w3.heap.size w3 w') => drawn_mask w' (HRG3.out w' b))
    go_upto_region 7 with fail
    go_region_with ((first
      | (go_at_call 121; refine (HMK.out w3.drew (below_drew (Below.refl _ _))).mono ?_; rintro e w5 ⟨mk, rfl, hmk, b5⟩; have H5 := H3.drew.step b5; have x0' := H5.h0.cell 0; have x1' := H5.h0.cell 1; simp at x0' x1'; have y0' := H5.h2.cell 0; have y1' := H5.h2.cell 1; have e0' := H5.h2.frozen 0; have e1' := H5.h2.frozen 1; simp at y0' y1'; have H6 := (H5.rowBox 3 #[.int .i64 mk] 1 1 rfl (by decide)); have z0' := H6.h3.cell 0; have z1' := H6.h3.cell 1; have f0' := H6.h3.frozen 0; have f1' := H6.h3.frozen 1; simp at z0' z1'; have q0' := H6.h1.cell 0; have q1' := H6.h1.cell 1; simp at q0' q1')))
    all_goals
      have He := (H6.g3.set_ 0 (.int .i64 r.w)).set_ 1 (.slice A r.rows.length c)
      have u0 := He.h0.cell 0
      have u1 := He.h0.cell 1
      simp at u0 u1
      have Hf := He.g3
      have He2 := (H5.g2.set_ 0 (.int .i64 r.w)).set_ 1 (.slice A r.rows.length c)
      have hsz : ((w5.setCell ⟨w.heap.size, 0, none⟩ (.int .i64 r.w)).setCell ⟨w.heap.size, 1, none⟩ (.slice A r.rows.length c)).heap.size = w5.heap.size := by simp [World.setCell]
      have He3 := He2.rowBox 3 #[.int .i64 mk] 1 1 rfl (by decide)
      rw [hsz] at He3
      have s0 := He3.h1.cell 0
      have s1 := He3.h1.cell 1
      simp at s0 s1
      have Hf3 := He3.g3
      have HMK2 := Lib.hid hmk
      clear x0 x1 x0' x1' z0 z1 f0 f1 z0' z1' f0' f1' y0' y1' e0' e1' q0' q1' hmk H5 H6 HMK
      first
        | (go_wp2
           exact bodyPost_ret (v := .tuple #[.agg #[.int .i64 r.w, .slice A r.rows.length c], .slice (some ⟨w5.heap.size, 0, none⟩) 1 1]) (by simp [results, Tryz.results48, go_sem, u0, u1]) rfl ⟨r, _, _, [mk], rfl, HD.out, ⟨_, rfl, Hf.oi⟩, row_rdZ (n := 1) He.h1 rfl, fun a ha => (by rw [List.mem_singleton] at ha; rw [ha]; exact HMK2.out), by simp, Hf.below⟩)
        | (go_wp2
           exact bodyPost_ret (v := .tuple #[.agg #[.int .i64 r.w, .slice A r.rows.length c], .slice (some ⟨w5.heap.size, 0, none⟩) 1 1]) (by simp [results, Tryz.results48, go_sem, s0, s1]) rfl ⟨r, _, _, [mk], rfl, HD.out, ⟨_, rfl, Hf3.oi⟩, row_rdZ (n := 1) He3.h0 rfl, fun a ha => (by rw [List.mem_singleton] at ha; rw [ha]; exact HMK2.out), by simp, Hf3.below⟩)
  · have hT1 := HOK.out.2.2 rfl
    by_cases h5 : m5 = 0
    · have t1' : (l.length : Int) % 5 = 0 := by omega
      have t2' : Int.tmod (l.length : Int) 5 = 0 := by omega
      clear t1 t2 hm5
      have t4 : (1 : Int) ≤ (T.length : Int) := by omega
      obtain ⟨b3, o3, rfl⟩ : ∃ b o, A3 = some ⟨b, o, none⟩ := by
        obtain ⟨A', c', e, hm, hr⟩ := HR3.out
        injection e with e1 e2 e3
        subst e1
        obtain ⟨b, o, e4, _⟩ := hr.2 (by omega)
        exact ⟨b, o, e4⟩
      have HC3 : Hid (T.length ≤ c3) := Lib.hid (by obtain ⟨A4, c4, e4, h4⟩ := HTC.out; injection e4 with _ _ e5; omega)
      have HF := Lib.hid ((HN.out.g3.set_ 0 (.int .i64 r.w)).set_ 1 (.slice A r.rows.length c))
      have u0 := HF.out.h0.cell 0
      have u1 := HF.out.h0.cell 1
      simp at u0 u1
      by_cases hc1 : c3 = 1
      · subst hc1
        go_upto_region 4 with fail
        go_region_with (fail)
        all_goals
          go_wp2
          exact bodyPost_ret (v := .tuple #[.agg #[.int .i64 r.w, .slice A r.rows.length c], .slice (some ⟨b3, o3, none⟩) (T.length - 1) 0]) (by simp [results, Tryz.results48, go_sem, u0, u1]) rfl ⟨r, _, _, T.drop 1, rfl, HD.out, ⟨_, rfl, HF.out.drew.g3.oi⟩, rd_tail1 ((IntsIn.rd HF.out.drew.g1.oi).more (Nat.zero_le _) (Nat.le_refl _)) HC3.out hT1, fun a ha => HOK.out.1 a (List.mem_of_mem_drop ha), (by have := HOK.out.2.1; rw [List.length_drop]; omega), HF.out.drew.below⟩
      · go_upto_region 4 with fail
        go_region_with (fail)
        all_goals
          go_wp2
          exact bodyPost_ret (v := .tuple #[.agg #[.int .i64 r.w, .slice A r.rows.length c], .slice (some ⟨b3, o3 + 1, none⟩) (T.length - 1) (c3 - 1)]) (by simp [results, Tryz.results48, go_sem, u0, u1]) rfl ⟨r, _, _, T.drop 1, rfl, HD.out, ⟨_, rfl, HF.out.drew.g3.oi⟩, rd_tail ((IntsIn.rd HF.out.drew.g1.oi).more (Nat.zero_le _) (Nat.le_refl _)) hT1, fun a ha => HOK.out.1 a (List.mem_of_mem_drop ha), (by have := HOK.out.2.1; rw [List.length_drop]; omega), HF.out.drew.below⟩
    · obtain ⟨q, hq⟩ : ∃ q : Int, q = (m5 : Int) := ⟨_, rfl⟩
      rw [← hq] at t1 t2
      have q0 : 0 ≤ q := by omega
      have q5 : q < 5 := by omega
      have t3 : (q == 0) = false := by simp; omega
      have t4 : IntKind.i64.wrap (Int.tmod (l.length : Int) 5) = q := by rw [t2]; exact IntWalk.i64_in _ (by omega)
      have t5 : ¬ q = 0 := by omega
      clear hq hm5
      have HF := Lib.hid ((HN.out.g3.set_ 0 (.int .i64 r.w)).set_ 1 (.slice A r.rows.length c))
      have u0 := HF.out.h0.cell 0
      have u1 := HF.out.h0.cell 1
      simp at u0 u1
      go_wp2
      exact bodyPost_ret (v := .tuple #[.agg #[.int .i64 r.w, .slice A r.rows.length c], .slice A3 T.length c3]) (by simp [results, Tryz.results48, go_sem, u0, u1]) rfl ⟨r, _, _, T, rfl, HD.out, ⟨_, rfl, HF.out.g3.oi⟩, (IntsIn.rd HF.out.g1.oi).more (Nat.zero_le _) (Nat.le_refl _), HOK.out.1, HOK.out.2.1, HF.out.below⟩
end Go.Proofs.YtfmkmjebkmimkaaGreatDoor

namespace Go.Proofs.YtfmkmjebkmimkaaGreatDoor
open Go.RowKit

theorem cellsOf_len {r : Reg} {n : Int} (_ : r.Valid) : (r.cellsOf n).length ≤ 1048576 := by
  unfold Reg.cellsOf cellsM
  split
  · exact Nat.le_trans (cellsTo_le 36) (by decide)
  · exact Nat.zero_le _
set_option maxRecDepth 100000 in
set_option maxHeartbeats 3200000 in
theorem spec_isDivision_c {v v2 : Value} {r : Reg} {t : List Int} (w : World) (h : RegRd w 0 w.heap.size v r) (h2 : IntsRd w 0 w.heap.size v2 t) (hi64 : ∀ a ∈ t, I64 a) (hn : t.length ≤ 1048576) :
    Calls Tryz.prog 49 #[v, v2] w fun e w' => e = .returned (.bool (isDiv r t)) ∧ Below w.heap.size w w' := by
  have HRD : Hid (∀ w1, Below w.heap.size w w1 → RegRd w1 0 w1.heap.size v r) := Lib.hid fun w1 b1 => (h.keep (SameIn.of_below b1 (Nat.le_refl _))).more (Nat.le_refl _) b1.size
  obtain ⟨R, hR⟩ : ∃ R, R = isDiv r t := ⟨_, rfl⟩
  rw [← hR]
  have HR := Lib.hid hR
  have HI64 := Lib.hid hi64
  obtain ⟨s, rfl, hs⟩ := h
  obtain ⟨A, c, rfl, hm, hr⟩ := id hs
  obtain ⟨A2, c2, rfl, hm2, hr2⟩ := id h2
  have HR2 := Lib.hid hr2
  have H0 := ((Sep.start w).box 29 #[.int .i64 r.w, .slice A r.rows.length c])
  obtain ⟨bR, hbR⟩ : ∃ bR, bR = w.heap.size := ⟨_, rfl⟩
  rw [← hbR] at H0
  clear hr hs hR hr2 h2 hi64
  go_enter Tryz.func49, Tryz.ntmps49
  go_upto_region 1 with fail
  rw [← hbR]
  generalize (w.alloc (.cells #[.int .i64 r.w, .slice A r.rows.length c] 29)) = W at *
  clear hbR
  have c0 : W.cell? ⟨bR, 0, none⟩ = some (.int .i64 r.w) := H0.h0.cell 0
  have c1 : W.cell? ⟨bR, 1, none⟩ = some (.slice A r.rows.length c) := H0.h0.cell 1
  have HI := Lib.hid (spec_IsRegion_c W (HRD.out W H0.below))
  go_wp2_with fail
  refine (HI.out).mono ?_
  rintro e w1 ⟨rfl, b1⟩
  have H1 := H0.step b1
  clear H0 HI b1 c0 c1
  cases hv : r.valid
  · obtain rfl : R = false := by rw [HR.out]; unfold isDiv; rw [hv]; rfl
    clear hv
    go_wp2
    go_ret
    exact ⟨rfl, H1.below⟩
  have HV := Lib.hid (Reg.valid_iff.1 hv)
  have HVV := Lib.hid hv
  clear hv
  by_cases hl0 : t.length = 0
  · obtain rfl : R = false := by rw [HR.out]; unfold isDiv; rw [List.isEmpty_iff_length_eq_zero.2 hl0]; simp
    have hz : ((t.length : Int) == 0) = true := by simp [hl0]
    go_wp2
    go_ret
    exact ⟨rfl, H1.below⟩
  have hz : ((t.length : Int) == 0) = false := by simpa using hl0
  have hpos : 0 < t.length := by omega
  have hposi : (0 : Int) < (t.length : Int) := by omega
  obtain ⟨n0, hn0⟩ : ∃ n0, t[0]? = some n0 := ⟨t[0], List.getElem?_eq_getElem hpos⟩
  obtain ⟨b2, o2, hA2, _, hb2, hc2⟩ := HR2.out.2 (by omega)
  subst hA2
  have HC2 : Hid (∀ (j : Nat) (n : Int), t[j]? = some n → w.cell? ⟨b2, o2 + j, none⟩ = some (.int .i64 n)) := Lib.hid fun j n hj => hc2 j _ (by simp [ic, hj])
  have x0 : w1.drew.cell? ⟨b2, o2, none⟩ = some (.int .i64 n0) := (H1.drew.below.cell (p := ⟨b2, o2, none⟩) hb2).trans (HC2.out 0 n0 hn0)
  have c0 : w1.drew.cell? ⟨bR, 0, none⟩ = some (.int .i64 r.w) := H1.h0.cell 0
  have c1 : w1.drew.cell? ⟨bR, 1, none⟩ = some (.slice A r.rows.length c) := H1.h0.cell 1
  have HG0 : Hid (t.getD 0 0 = n0) := Lib.hid (by simp [List.getD, hn0])
  have HF := Lib.hid (spec_cellsOf_c n0 w1.drew (HRD.out w1.drew H1.drew.below) HV.out (HI64.out n0 (List.mem_of_getElem? hn0)))
  have H2 := H1.drew
  clear hc2 hn0 H1
  go_wp2_with fail
  go_cut [6] (fun vf wx => Hid (CellsRd wx 0 wx.heap.size vf (r.cellsOf n0)) ∧ Sep w wx [Res.box bR 29 #[.int .i64 r.w, .slice A r.rows.length c]])
  case first =>
    go_region_with (go_at_call 122; (with_reducible refine (HF.out).mono ?_); rintro en w4 ⟨vf, rfl, o4, b4⟩)
    all_goals (go_wp2_with fail; go_meet; exact ⟨Lib.hid (o4.rd.more (Nat.zero_le _) (Nat.le_refl _)), H2.step b4⟩)
  case rest =>
  obtain ⟨HF4, H4⟩ := hcut
  clear H2
  generalize hwc : wc = w4 at *
  clear hwc
  have HB0 : Hid (Below w.heap.size w w4) := Lib.hid H4.below
  have HCR : Hid (w4.cell? ⟨bR, 0, none⟩ = some (.int .i64 r.w) ∧ w4.cell? ⟨bR, 1, none⟩ = some (.slice A r.rows.length c) ∧ bR < w4.heap.size) := Lib.hid ⟨H4.h0.cell 0, H4.h0.cell 1, Blk.lt H4.h0⟩
  clear H4 HF c0 c1 x0
  go_wp2
  go_loopw [5, 7] (fun uv iv wx => ∃ i : Nat, i ≤ t.length ∧ iv = .int .i64 i ∧ uv = .int .i64 ((usedTo t i : Nat) : Int) ∧ Hid (∀ j < i, okDiv r t j = true) ∧ Below w4.heap.size w4 wx) (fun _ iv _ => t.length - (intOf iv).toNat)
  case atStart => exact ⟨0, Nat.zero_le _, rfl, rfl, Lib.hid (fun j hj => absurd hj (Nat.not_lt_zero j)), Below.refl _ _⟩
  case round =>
    obtain ⟨i, hi, rfl, rfl, HOK, hbel⟩ := hrel
    have HUL : Hid (usedTo t i < 2 ^ 36) := Lib.hid (usedTo_lt HV.out i hi HOK.out)
    obtain ⟨U, hU⟩ : ∃ U, U = usedTo t i := ⟨_, rfl⟩
    rw [← hU] at HUL ⊢
    have HU := Lib.hid hU
    clear hU
    by_cases hlt : i < t.length
    · have hlti : (i : Int) < (t.length : Int) := by omega
      obtain ⟨n, hn1⟩ : ∃ n, t[i]? = some n := ⟨t[i], List.getElem?_eq_getElem hlt⟩
      have HN1 := Lib.hid hn1
      have hbw := HB0.out.trans (hbel.mono HB0.out.size)
      have x0 : wr.drew.cell? ⟨b2, o2 + i, none⟩ = some (.int .i64 n) := ((below_drew hbw).cell (p := ⟨b2, o2 + i, none⟩) hb2).trans (HC2.out i n hn1)
      have c0 : wr.drew.cell? ⟨bR, 0, none⟩ = some (.int .i64 r.w) := ((below_drew hbel).cell (p := ⟨bR, 0, none⟩) HCR.out.2.2).trans HCR.out.1
      have c1 : wr.drew.cell? ⟨bR, 1, none⟩ = some (.slice A r.rows.length c) := ((below_drew hbel).cell (p := ⟨bR, 1, none⟩) HCR.out.2.2).trans HCR.out.2.1
      have HF := Lib.hid (spec_cellsOf_c n wr.drew (HRD.out wr.drew (below_drew hbw)) HV.out (HI64.out n (List.mem_of_getElem? hn1)))
      clear hn1 hbw
      go_wp2_with fail
      go_cut [8] (fun vc wx => Hid (CellsRd wx 0 wx.heap.size vc (r.cellsOf n)) ∧ Below w4.heap.size w4 wx)
      case first =>
        go_region_with (go_at_call 122; (with_reducible refine (HF.out).mono ?_); rintro en w5 ⟨vf, rfl, o4, b4⟩)
        all_goals (go_wp2_with fail; go_meet; exact ⟨Lib.hid (o4.rd.more (Nat.zero_le _) (Nat.le_refl _)), (below_drew hbel).trans (b4.mono (below_drew hbel).size)⟩)
      case rest =>
      obtain ⟨HF5, hb5⟩ := hcut
      clear HF x0 c0 c1 hbel
      generalize hwc : wc = w5 at *
      clear hwc
      have HC : Hid (∀ u' : Later w5, Calls Tryz.prog 123 #[u8] u'.w fun e w' => e = .returned (.bool (connS (r.cellsOf n))) ∧ Below u'.w.heap.size u'.w w') := Lib.hid fun u' =>
        spec_conn_c u'.w (Later.cells HF5.out) (cellsOf_len HV.out)
      have HG : Hid (∀ u' : Later w5, Calls Tryz.prog 124 #[u8, u6] u'.w fun e w' => e = .returned (.bool (congr (r.cellsOf n) (r.cellsOf n0))) ∧ Below u'.w.heap.size u'.w w') := Lib.hid fun u' =>
        spec_congr_c u'.w (Later.cells HF5.out) (Later.cells ((HF4.out.keep (SameIn.of_below hb5 (Nat.le_refl _))).more (Nat.le_refl _) hb5.size)) (cellsOf_len HV.out) (cellsOf_len HV.out)
      have hb7 := HB0.out.trans (hb5.mono HB0.out.size)
      have y1 : w5.cell? ⟨b2, o2 + i, none⟩ = some (.int .i64 n) := (hb7.cell (p := ⟨b2, o2 + i, none⟩) hb2).trans (HC2.out i n HN1.out)
      have hb2' : b2 < w5.heap.size := by have := hb7.size; omega
      have l1 := Later.cell y1 hb2'
      obtain ⟨C, hC⟩ : ∃ C, C = r.cellsOf n := ⟨_, rfl⟩
      obtain ⟨F, hF⟩ : ∃ F, F = r.cellsOf n0 := ⟨_, rfl⟩
      have HOA : Hid (okDiv r t i = (r.isMask n && (U &&& n.toNat == 0) && connS C && congr C F && (decide (i = 0) || decide (lowB (t.getD (i - 1) 0).toNat < lowB n.toNat)))) := Lib.hid (by rw [okDiv_at HN1.out, HU.out, hC, hF, HG0.out])
      rw [← hC] at HC HG HF5
      rw [← hF] at HG HF4
      have HCC := Lib.hid hC
      have HFF := Lib.hid hF
      clear hC hF hb7
      cases hz : (bits .and .i64 (U : Int) n == 0)
      · have HNO : Hid (okDiv r t i = false) := Lib.hid (by
          rw [HOA.out]
          cases hm : r.isMask n
          · rfl
          · rw [div_and HUL.out hm HV.out] at hz; rw [hz]; rfl)
        have hz2 : (bits .and .i64 (U : Int) n != 0) = true := by simp [bne, hz]
        clear hz
        obtain rfl : R = false := by rw [HR.out]; exact isDiv_no hlt HNO.out
        go_wp2_with fail
        refine wp_region_later (by kernel_rfl) (by kernel_rfl) ?_
        repeat (go_big_quiet_step (first | (go_at_call 123; with_reducible exact Later.call (HC.out _)) | (go_at_call 124; with_reducible exact Later.call (HG.out _))))
        refine wpQuiet_nil ?_
        intro w6 hw6
        obtain ⟨u6, hu6⟩ := hw6
        subst hu6
        have hb6 := hb5.trans (u6.h.mono hb5.size)
        generalize u6.w = w6 at *
        clear HC HG hb5 y1 l1
        go_wp2
        go_ret
        exact ⟨rfl, HB0.out.trans (hb6.mono HB0.out.size)⟩
      have hz2 : (bits .and .i64 (U : Int) n != 0) = false := by simp [bne, hz]
      have HZ := Lib.hid hz
      clear hz
      cases hcn : connS C
      · rw [hcn] at HC
        have HNO : Hid (okDiv r t i = false) := Lib.hid (by rw [HOA.out, hcn, Bool.and_false]; rfl)
        obtain rfl : R = false := by rw [HR.out]; exact isDiv_no hlt HNO.out
        go_wp2_with fail
        refine wp_region_later (by kernel_rfl) (by kernel_rfl) ?_
        repeat (go_big_quiet_step (first | (go_at_call 123; with_reducible exact Later.call (HC.out _)) | (go_at_call 124; with_reducible exact Later.call (HG.out _))))
        refine wpQuiet_nil ?_
        intro w6 hw6
        obtain ⟨u6, hu6⟩ := hw6
        subst hu6
        have hb6 := hb5.trans (u6.h.mono hb5.size)
        generalize u6.w = w6 at *
        clear HC HG hb5 y1 l1
        go_wp2
        go_ret
        exact ⟨rfl, HB0.out.trans (hb6.mono HB0.out.size)⟩
      have HMK : Hid (r.isMask n = true) := Lib.hid (connS_mask (by rw [← HCC.out]; exact hcn))
      have HN0 : Hid (n.toNat ≠ 0) := Lib.hid (conn_pos (r := r) (by rw [← HCC.out]; exact hcn))
      have HDJ : Hid ((U &&& n.toNat == 0) = true) := Lib.hid (by rw [← div_and HUL.out HMK.out HV.out]; exact HZ.out)
      have HCN := Lib.hid hcn
      rw [hcn] at HC
      cases hcg : congr C F
      · rw [hcg] at HG
        have HNO : Hid (okDiv r t i = false) := Lib.hid (by rw [HOA.out, hcg, Bool.and_false]; rfl)
        obtain rfl : R = false := by rw [HR.out]; exact isDiv_no hlt HNO.out
        go_wp2_with fail
        refine wp_region_later (by kernel_rfl) (by kernel_rfl) ?_
        repeat (go_big_quiet_step (first | (go_at_call 123; with_reducible exact Later.call (HC.out _)) | (go_at_call 124; with_reducible exact Later.call (HG.out _))))
        refine wpQuiet_nil ?_
        intro w6 hw6
        obtain ⟨u6, hu6⟩ := hw6
        subst hu6
        have hb6 := hb5.trans (u6.h.mono hb5.size)
        generalize u6.w = w6 at *
        clear HC HG hb5 y1 l1
        go_wp2
        go_ret
        exact ⟨rfl, HB0.out.trans (hb6.mono HB0.out.size)⟩
      have HCG := Lib.hid hcg
      rw [hcg] at HG
      clear hcn hcg
      by_cases hi0 : i = 0
      · have hdi : decide ((0 : Int) < (i : Int)) = false := by simp; omega
        have hdi2 : decide ((i : Int) > 0) = false := by simp; omega
        have hdn : decide (0 < i) = false := by simp; omega
        have hdl : ¬ (0 : Int) < (i : Int) := by omega
        have HYES : Hid (okDiv r t i = true) := Lib.hid (by rw [HOA.out, HMK.out, HDJ.out, HCN.out, HCG.out, hi0]; rfl)
        clear hi0
        go_wp2_with fail
        refine wp_region_later (by kernel_rfl) (by kernel_rfl) ?_
        repeat (go_big_quiet_step (first | (go_at_call 123; with_reducible exact Later.call (HC.out _)) | (go_at_call 124; with_reducible exact Later.call (HG.out _))))
        refine wpQuiet_nil ?_
        intro w6 hw6
        obtain ⟨u6, hu6⟩ := hw6
        subst hu6
        have hb6 := hb5.trans (u6.h.mono hb5.size)
        generalize u6.w = w6 at *
        clear HC HG hb5 y1 l1
        have y1 : w6.drew.cell? ⟨b2, o2 + i, none⟩ = some (.int .i64 n) := ((below_drew (HB0.out.trans (hb6.mono HB0.out.size))).cell (p := ⟨b2, o2 + i, none⟩) hb2).trans (HC2.out i n HN1.out)
        have y2 : w6.cell? ⟨b2, o2 + i, none⟩ = some (.int .i64 n) := y1
        have hor : bits .or .i64 (U : Int) n = ((usedTo t (i + 1) : Nat) : Int) := by
          have h1 := (okDiv_mask HYES.out HN1.out).1
          have h2 := mask_lt36 h1 HV.out
          obtain ⟨m, rfl⟩ := Int.eq_ofNat_of_zero_le (isMask_lt h1 HV.out).2
          rw [usedTo_succ HN1.out, i64_or_nat _ _ (by have := HUL.out; omega) (by simp at h2; omega), HU.out]; rfl
        have HOK2 : Hid (∀ j < i + 1, okDiv r t j = true) := Lib.hid fun j hj => by
          rcases Nat.lt_or_ge j i with h | h
          · exact HOK.out j h
          · obtain rfl : j = i := by omega
            exact HYES.out
        go_wp2
        go_roundw
        case rel => exact ⟨i + 1, by omega, by go_num, rfl, HOK2, hb6⟩
        case measure => simp [intOf]; omega
      · have hdi : decide ((0 : Int) < (i : Int)) = true := by simp; omega
        have hdi2 : decide ((i : Int) > 0) = true := by simp; omega
        have hdn : decide (0 < i) = true := by simp; omega
        have hdl : (0 : Int) < (i : Int) := by omega
        obtain ⟨p, hp⟩ : ∃ p, p = i - 1 := ⟨_, rfl⟩
        have HPI : Hid (i = p + 1) := Lib.hid (by omega)
        have e1 : (i : Int) - 1 = (p : Int) := by omega
        have e2 : IntKind.i64.wrap ((i : Int) - 1) = (p : Int) := by rw [e1]; exact IntWalk.i64_in _ (by omega)
        have e3 : (p : Int) < (t.length : Int) := by omega
        have e4 : p < t.length := by omega
        obtain ⟨a, ha⟩ : ∃ a, t[p]? = some a := ⟨t[p], List.getElem?_eq_getElem e4⟩
        have hga : t.getD (i - 1) 0 = a := by rw [← hp]; simp [List.getD, ha]
        have hokp := okDiv_mask (HOK.out p (by omega)) ha
        have HPM := Lib.hid hokp.1
        have HP0 : Hid (a.toNat ≠ 0) := Lib.hid (conn_pos hokp.2)
        have HPA := Lib.hid ha
        rw [hga] at HOA
        have y3 : w5.cell? ⟨b2, o2 + p, none⟩ = some (.int .i64 a) := ((HB0.out.trans (hb5.mono HB0.out.size)).cell (p := ⟨b2, o2 + p, none⟩) hb2).trans (HC2.out p a ha)
        have l2 := Later.cell y3 hb2'
        have HLN : Hid (∀ u' : Later w5, Calls Tryz.prog 125 #[.int .i64 n] u'.w fun e w' => e = .returned (.int .i64 (lowB n.toNat)) ∧ u'.w = w') := Lib.hid fun u' => by
          have h1 := spec_low_c u'.w HN0.out (mask_lt36 HMK.out HV.out)
          rwa [Int.toNat_of_nonneg (isMask_lt HMK.out HV.out).2] at h1
        have HLA : Hid (∀ u' : Later w5, Calls Tryz.prog 125 #[.int .i64 a] u'.w fun e w' => e = .returned (.int .i64 (lowB a.toNat)) ∧ u'.w = w') := Lib.hid fun u' => by
          have h1 := spec_low_c u'.w HP0.out (mask_lt36 HPM.out HV.out)
          rwa [Int.toNat_of_nonneg (isMask_lt HPM.out HV.out).2] at h1
        obtain ⟨x, hx⟩ : ∃ x, x = lowB n.toNat := ⟨_, rfl⟩
        obtain ⟨y, hy⟩ : ∃ y, y = lowB a.toNat := ⟨_, rfl⟩
        rw [← hx] at HLN HOA
        rw [← hy] at HLA HOA
        have HX := Lib.hid hx
        have HY := Lib.hid hy
        clear hp ha hga hokp hi0 hx hy y3
        by_cases hxy : x < y
        · have HNO : Hid (okDiv r t i = false) := Lib.hid (by rw [HOA.out, decide_eq_false (show ¬ i = 0 by have := HPI.out; omega), decide_eq_false (show ¬ y < x by omega)]; simp)
          have hdx : decide ((x : Int) < (y : Int)) = true := decide_eq_true (by omega)
          have hdx2 : decide (x < y) = true := decide_eq_true hxy
          obtain rfl : R = false := by rw [HR.out]; exact isDiv_no hlt HNO.out
          go_wp2_with fail
          refine wp_region_later (by kernel_rfl) (by kernel_rfl) ?_
          repeat (go_big_quiet_step (first | (go_at_call 123; with_reducible exact Later.call (HC.out _)) | (go_at_call 124; with_reducible exact Later.call (HG.out _))| (go_at_call 125; with_reducible exact Later.same (HLN.out _)) | (go_at_call 125; with_reducible exact Later.same (HLA.out _))))
          refine wpQuiet_nil ?_
          intro w6 hw6
          obtain ⟨u6, hu6⟩ := hw6
          subst hu6
          have hb6 := hb5.trans (u6.h.mono hb5.size)
          generalize u6.w = w6 at *
          clear HC HG hb5 y1 l1
          go_wp2
          go_ret
          exact ⟨rfl, HB0.out.trans (hb6.mono HB0.out.size)⟩
        · have HYES : Hid (okDiv r t i = true) := Lib.hid (by
            have hne : y ≠ x := by
              rw [HX.out, HY.out]
              refine low_ne HV.out HPA.out HPM.out HP0.out HMK.out HN0.out ?_
              rw [← HPI.out, ← HU.out]
              exact beq_iff_eq.1 HDJ.out
            rw [HOA.out, HMK.out, HDJ.out, HCN.out, HCG.out, decide_eq_true (show y < x by omega)]
            simp)
          have hdx : decide ((x : Int) < (y : Int)) = false := decide_eq_false (by omega)
          have hdx2 : decide (x < y) = false := decide_eq_false hxy
          have hdx3 : ¬ (x : Int) < (y : Int) := by omega
          go_wp2_with fail
          refine wp_region_later (by kernel_rfl) (by kernel_rfl) ?_
          repeat (go_big_quiet_step (first | (go_at_call 123; with_reducible exact Later.call (HC.out _)) | (go_at_call 124; with_reducible exact Later.call (HG.out _))| (go_at_call 125; with_reducible exact Later.same (HLN.out _)) | (go_at_call 125; with_reducible exact Later.same (HLA.out _))))
          refine wpQuiet_nil ?_
          intro w6 hw6
          obtain ⟨u6, hu6⟩ := hw6
          subst hu6
          have hb6 := hb5.trans (u6.h.mono hb5.size)
          generalize u6.w = w6 at *
          clear HC HG hb5 y1 l1
          have y1 : w6.drew.cell? ⟨b2, o2 + i, none⟩ = some (.int .i64 n) := ((below_drew (HB0.out.trans (hb6.mono HB0.out.size))).cell (p := ⟨b2, o2 + i, none⟩) hb2).trans (HC2.out i n HN1.out)
          have y2 : w6.cell? ⟨b2, o2 + i, none⟩ = some (.int .i64 n) := y1
          have hor : bits .or .i64 (U : Int) n = ((usedTo t (i + 1) : Nat) : Int) := by
            have h1 := (okDiv_mask HYES.out HN1.out).1
            have h2 := mask_lt36 h1 HV.out
            obtain ⟨m, rfl⟩ := Int.eq_ofNat_of_zero_le (isMask_lt h1 HV.out).2
            rw [usedTo_succ HN1.out, i64_or_nat _ _ (by have := HUL.out; omega) (by simp at h2; omega), HU.out]; rfl
          have HOK2 : Hid (∀ j < i + 1, okDiv r t j = true) := Lib.hid fun j hj => by
            rcases Nat.lt_or_ge j i with h | h
            · exact HOK.out j h
            · obtain rfl : j = i := by omega
              exact HYES.out
          go_wp2
          go_roundw
          case rel => exact ⟨i + 1, by omega, by go_num, rfl, HOK2, hb6⟩
          case measure => simp [intOf]; omega
    · obtain rfl : i = t.length := by omega
      have hlti : ¬ (t.length : Int) < (t.length : Int) := by omega
      have hbw := HB0.out.trans (hbel.mono HB0.out.size)
      have HI := Lib.hid (spec_mask_c wr (HRD.out wr hbw) HV.out)
      have c0 : wr.cell? ⟨bR, 0, none⟩ = some (.int .i64 r.w) := (hbel.cell (p := ⟨bR, 0, none⟩) HCR.out.2.2).trans HCR.out.1
      have c1 : wr.cell? ⟨bR, 1, none⟩ = some (.slice A r.rows.length c) := (hbel.cell (p := ⟨bR, 1, none⟩) HCR.out.2.2).trans HCR.out.2.1
      have HE : Hid (R = (U == r.mask)) := Lib.hid (by rw [HR.out, isDiv_end HVV.out hpos HOK.out, HU.out])
      go_wp2_with fail
      refine (HI.out).mono ?_
      rintro e w6 ⟨rfl, b6⟩
      have hq : ((U : Int) == (r.mask : Int)) = R := by rw [HE.out, Bool.eq_iff_iff]; simp only [beq_iff_eq]; omega
      go_wp2
      go_ret
      exact ⟨rfl, hbw.trans (b6.mono hbw.size)⟩
end Go.Proofs.YtfmkmjebkmimkaaGreatDoor

namespace Go.Proofs.YtfmkmjebkmimkaaGreatDoor
open Go.RowKit

set_option maxRecDepth 100000 in
set_option maxHeartbeats 3200000 in
theorem impl_isDivision_c {v v2 : Value} {r : Reg} {t : List Int} (w : World) (h : RegRd w 0 w.heap.size v r) (h2 : IntsRd w 0 w.heap.size v2 t) (hi64 : ∀ a ∈ t, I64 a) (hn : t.length ≤ 1048576) (ht : Tab64 w) :
    Calls Tryz.prog 41 #[v, v2] w fun e w' => e = .returned (.bool (isDiv r t)) ∧ Below w.heap.size w w' := by
  have HRD : Hid (∀ w1, Below w.heap.size w w1 → RegRd w1 0 w1.heap.size v r) := Lib.hid fun w1 b1 => (h.keep (SameIn.of_below b1 (Nat.le_refl _))).more (Nat.le_refl _) b1.size
  have HTB : Hid (∀ w1, Below w.heap.size w w1 → Tab64 w1) := Lib.hid fun w1 b1 => tab64_on ht b1
  obtain ⟨R, hR⟩ : ∃ R, R = isDiv r t := ⟨_, rfl⟩
  rw [← hR]
  have HR := Lib.hid hR
  have HI64 := Lib.hid hi64
  obtain ⟨s, rfl, hs⟩ := h
  obtain ⟨A, c, rfl, hm, hr⟩ := id hs
  obtain ⟨A2, c2, rfl, hm2, hr2⟩ := id h2
  have HR2 := Lib.hid hr2
  have H0 := ((Sep.start w).box 29 #[.int .i64 r.w, .slice A r.rows.length c])
  obtain ⟨bR, hbR⟩ : ∃ bR, bR = w.heap.size := ⟨_, rfl⟩
  rw [← hbR] at H0
  clear hr hs hR hr2 h2 hi64 ht
  go_enter Tryz.func41, Tryz.ntmps41
  go_upto_region 1 with fail
  rw [← hbR]
  generalize (w.alloc (.cells #[.int .i64 r.w, .slice A r.rows.length c] 29)) = W at *
  clear hbR
  have c0 : W.cell? ⟨bR, 0, none⟩ = some (.int .i64 r.w) := H0.h0.cell 0
  have c1 : W.cell? ⟨bR, 1, none⟩ = some (.slice A r.rows.length c) := H0.h0.cell 1
  have HI := Lib.hid (impl_IsRegion_c W (HRD.out W H0.below))
  go_wp2_with fail
  refine (HI.out).mono ?_
  rintro e w1 ⟨rfl, b1⟩
  have H1 := H0.step b1
  clear H0 HI b1 c0 c1
  cases hv : r.valid
  · obtain rfl : R = false := by rw [HR.out]; unfold isDiv; rw [hv]; rfl
    clear hv
    go_wp2
    go_ret
    exact ⟨rfl, H1.below⟩
  have HV := Lib.hid (Reg.valid_iff.1 hv)
  have HVV := Lib.hid hv
  clear hv
  by_cases hl0 : t.length = 0
  · obtain rfl : R = false := by rw [HR.out]; unfold isDiv; rw [List.isEmpty_iff_length_eq_zero.2 hl0]; simp
    have hz : ((t.length : Int) == 0) = true := by simp [hl0]
    go_wp2
    go_ret
    exact ⟨rfl, H1.below⟩
  have hz : ((t.length : Int) == 0) = false := by simpa using hl0
  have hpos : 0 < t.length := by omega
  obtain ⟨b2, o2, hA2, _, hb2, hc2⟩ := HR2.out.2 (by omega)
  subst hA2
  have HC2 : Hid (∀ (j : Nat) (n : Int), t[j]? = some n → w.cell? ⟨b2, o2 + j, none⟩ = some (.int .i64 n)) := Lib.hid fun j n hj => hc2 j _ (by simp [ic, hj])
  have HB0 : Hid (Below w.heap.size w w1) := Lib.hid H1.below
  have HCR : Hid (w1.cell? ⟨bR, 0, none⟩ = some (.int .i64 r.w) ∧ w1.cell? ⟨bR, 1, none⟩ = some (.slice A r.rows.length c) ∧ bR < w1.heap.size) := Lib.hid ⟨H1.h0.cell 0, H1.h0.cell 1, Blk.lt H1.h0⟩
  clear hc2 H1
  go_wp2
  go_loopw [5, 6, 20] (fun uv fv iv wx => ∃ i : Nat, i ≤ t.length ∧ iv = .int .i64 i ∧ uv = .int .i64 ((usedTo t i : Nat) : Int) ∧ Hid (0 < i → CellsRd wx 0 wx.heap.size fv (r.cellsOf (t.getD 0 0))) ∧ Hid (∀ j < i, okDiv r t j = true) ∧ Below w1.heap.size w1 wx) (fun _ _ iv _ => t.length - (intOf iv).toNat)
  case atStart => exact ⟨0, Nat.zero_le _, rfl, rfl, Lib.hid (fun h => absurd h (Nat.lt_irrefl 0)), Lib.hid (fun j hj => absurd hj (Nat.not_lt_zero j)), Below.refl _ _⟩
  case round =>
    obtain ⟨i, hi, rfl, rfl, HF, HOK, hbel⟩ := hrel
    have HUL : Hid (usedTo t i < 2 ^ 36) := Lib.hid (usedTo_lt HV.out i hi HOK.out)
    obtain ⟨U, hU⟩ : ∃ U, U = usedTo t i := ⟨_, rfl⟩
    rw [← hU] at HUL ⊢
    have HU := Lib.hid hU
    clear hU
    by_cases hlt : i < t.length
    · have hlti : (i : Int) < (t.length : Int) := by omega
      obtain ⟨n, hn1⟩ : ∃ n, t[i]? = some n := ⟨t[i], List.getElem?_eq_getElem hlt⟩
      have HN1 := Lib.hid hn1
      have hbw := HB0.out.trans (hbel.mono HB0.out.size)
      have x1 : wr.cell? ⟨b2, o2 + i, none⟩ = some (.int .i64 n) := (hbw.cell (p := ⟨b2, o2 + i, none⟩) hb2).trans (HC2.out i n hn1)
      have c0 : wr.cell? ⟨bR, 0, none⟩ = some (.int .i64 r.w) := (hbel.cell (p := ⟨bR, 0, none⟩) HCR.out.2.2).trans HCR.out.1
      have c1 : wr.cell? ⟨bR, 1, none⟩ = some (.slice A r.rows.length c) := (hbel.cell (p := ⟨bR, 1, none⟩) HCR.out.2.2).trans HCR.out.2.1
      have HM := Lib.hid (isMask_c n wr (HRD.out wr hbw) HV.out (HI64.out n (List.mem_of_getElem? hn1)).2)
      clear hn1 hbw
      go_wp2_with fail
      refine (HM.out).mono ?_
      rintro e w5 ⟨rfl, b5⟩
      have hb5 := hbel.trans (b5.mono hbel.size)
      have HF5 : Hid (0 < i → CellsRd w5 0 w5.heap.size u6 (r.cellsOf (t.getD 0 0))) := Lib.hid fun h => ((HF.out h).keep (SameIn.of_below b5 (Nat.le_refl _))).more (Nat.le_refl _) b5.size
      clear c0 c1 x1 b5 HM hbel HF
      cases hm : r.isMask n
      · have HNO : Hid (okDiv r t i = false) := Lib.hid (by rw [okDiv_at HN1.out, hm]; rfl)
        clear hm
        obtain rfl : R = false := by rw [HR.out]; exact isDiv_no hlt HNO.out
        go_wp2
        go_ret
        exact ⟨rfl, HB0.out.trans (hb5.mono HB0.out.size)⟩
      obtain ⟨m, rfl⟩ := Int.eq_ofNat_of_zero_le (isMask_lt hm HV.out).2
      have HMK := Lib.hid hm
      have HM36 : Hid (m < 2 ^ 36) := Lib.hid (by have := mask_lt36 hm HV.out; simpa using this)
      obtain ⟨C, hC⟩ : ∃ C, C = cellsM r.w.toNat m := ⟨_, rfl⟩
      obtain ⟨F, hF⟩ : ∃ F, F = r.cellsOf (t.getD 0 0) := ⟨_, rfl⟩
      have HCC := Lib.hid hC
      have HFD := Lib.hid hF
      have HCO : Hid (r.cellsOf (m : Int) = C) := Lib.hid (by unfold Reg.cellsOf; rw [hm, hC]; rfl)
      have HOA : Hid (okDiv r t i = ((U &&& m == 0) && connS C && congr C (r.cellsOf (t.getD 0 0)) && (decide (i = 0) || decide (lowB (t.getD (i - 1) 0).toNat < lowB m)))) := Lib.hid (by rw [okDiv_at HN1.out, hm, HCO.out, HU.out]; rfl)
      have HML := Lib.hid (isMask_lt hm HV.out).1
      have HCON : Hid (connS C = (decide (C.length ≤ 8) && hangs C)) := Lib.hid (by
        rw [hC]
        exact cellsM_conn (h := r.rows.length) (by have := HV.out.1; omega) (by have := HV.out.2.1; omega) HV.out.2.2.2.1 (by have := HML.out; simpa using this))
      have HND : Hid C.Nodup := Lib.hid (by rw [hC]; exact srt_nodup (srt_cellsTo 36))
      have HON : Hid (∀ d ∈ C, On d) := Lib.hid (by
        rw [hC]
        exact cellsM_on (h := r.rows.length) (by have := HV.out.1; omega) (by have := HV.out.2.1; omega) HV.out.2.2.2.1 (by have := HML.out; simpa using this))
      have HCL : Hid (C.length ≤ 36) := Lib.hid (by rw [hC]; exact cellsTo_le 36)
      have HFC : Hid (i = 0 → r.cellsOf (t.getD 0 0) = C) := Lib.hid (fun h => by
        have := HN1.out
        rw [h] at this
        rw [show t.getD 0 0 = (m : Int) by simp [List.getD, this], HCO.out])
      have hand := i64_and_nat U m (by have := HUL.out; omega) (by have := HM36.out; omega)
      clear hm hC hF
      by_cases hz : U &&& m = 0
      · have HDJ : Hid ((U &&& m == 0) = true) := Lib.hid (beq_iff_eq.2 hz)
        have hz2 : (bits .and .i64 (U : Int) (m : Int) != 0) = false := by rw [hand, hz]; rfl
        clear hand hz
        by_cases hi0 : i = 0
        · have hdi : decide ((0 : Int) < (i : Int)) = false := by simp; omega
          have hdi2 : decide ((i : Int) > 0) = false := by simp; omega
          have hdn : decide (0 < i) = false := by simp; omega
          have hdl : ¬ (0 : Int) < (i : Int) := by omega
          have hde : ((i : Int) == 0) = true := by simp; omega
          have HI0 := Lib.hid hi0
          clear hi0
          have c0 : w5.cell? ⟨bR, 0, none⟩ = some (.int .i64 r.w) := (hb5.cell (p := ⟨bR, 0, none⟩) HCR.out.2.2).trans HCR.out.1
          have HPL : Hid (Calls Tryz.prog 113 #[.int .i64 r.w, .int .i64 m] w5 fun e w' => ∃ v', e = .returned v' ∧ CellsIn w' w5.heap.size w'.heap.size v' C ∧ Below w5.heap.size w5 w') := Lib.hid (by
            have h1 := impl_places_c (wn := r.w.toNat) (m := m) w5 (by have := HV.out.1; omega) (by have := HV.out.2.1; omega) HM36.out
            rw [Int.toNat_of_nonneg (show 0 ≤ r.w by have := HV.out.1; omega), ← HCC.out] at h1
            exact h1)
          go_wp2_with fail
          refine (HPL.out).mono ?_
          rintro e w6 ⟨vc, rfl, o6, b6⟩
          have hb6 := hb5.trans (b6.mono hb5.size)
          have B56 := Lib.hid b6
          have HO6 : Hid (CellsRd w6 0 w6.heap.size vc C) := Lib.hid (o6.rd.more (Nat.zero_le _) (Nat.le_refl _))
          obtain ⟨Ac, cvc, rfl, _, _⟩ := o6.rd
          clear c0 HPL o6 b6
          by_cases hl8 : C.length ≤ 8
          · have hd8 : decide ((C.length : Int) > 8) = false := by simp; omega
            have hd8b : decide ((8 : Int) < (C.length : Int)) = false := by simp; omega
            have hd8c : ¬ (8 : Int) < (C.length : Int) := by omega
            have HH := Lib.hid (hangs_c w6 HO6.out (by omega) HND.out HON.out)
            go_wp2_with fail
            refine (HH.out).mono ?_
            rintro e w7 ⟨rfl, b7⟩
            have hb7 := hb6.trans (b7.mono hb6.size)
            have B57 := Lib.hid (B56.out.trans (b7.mono B56.out.size))
            have HO7 : Hid (CellsRd w7 0 w7.heap.size (.slice Ac C.length cvc) C) := Lib.hid ((HO6.out.keep (SameIn.of_below b7 (Nat.le_refl _))).more (Nat.le_refl _) b7.size)
            clear HH b7
            cases hh : hangs C
            · have HNO : Hid (okDiv r t i = false) := Lib.hid (by rw [HOA.out, HCON.out, hh]; simp)
              clear hh
              obtain rfl : R = false := by rw [HR.out]; exact isDiv_no hlt HNO.out
              go_wp2
              go_ret
              exact ⟨rfl, HB0.out.trans (hb7.mono HB0.out.size)⟩
            have HCN : Hid (connS C = true) := Lib.hid (by rw [HCON.out, hh, decide_eq_true hl8]; rfl)
            clear hh hl8
            have HYES : Hid (okDiv r t i = true) := Lib.hid (by rw [HOA.out, HDJ.out, HCN.out, HFC.out HI0.out, congr_self (connS_shape HCN.out), HI0.out]; rfl)
            have HF2 : Hid (0 < i + 1 → CellsRd w7 0 w7.heap.size (.slice Ac C.length cvc) (r.cellsOf (t.getD 0 0))) := Lib.hid (fun _ => by rw [HFC.out HI0.out]; exact HO7.out)
            have hor : bits .or .i64 (U : Int) (m : Int) = ((usedTo t (i + 1) : Nat) : Int) := by
              rw [usedTo_succ HN1.out, i64_or_nat _ _ (by have := HUL.out; omega) (by have := HM36.out; omega), HU.out]; rfl
            have HOK2 : Hid (∀ j < i + 1, okDiv r t j = true) := Lib.hid fun j hj => by
              rcases Nat.lt_or_ge j i with h | h
              · exact HOK.out j h
              · obtain rfl : j = i := by omega
                exact HYES.out
            go_wp2
            go_roundw
            case rel => exact ⟨i + 1, by omega, by go_num, rfl, HF2, HOK2, hb7⟩
            case measure => simp [intOf]; omega
          · have hd8 : decide ((C.length : Int) > 8) = true := by simp; omega
            have hd8b : decide ((8 : Int) < (C.length : Int)) = true := by simp; omega
            have hd8c : (8 : Int) < (C.length : Int) := by omega
            have HNO : Hid (okDiv r t i = false) := Lib.hid (by rw [HOA.out, HCON.out, decide_eq_false hl8]; simp)
            obtain rfl : R = false := by rw [HR.out]; exact isDiv_no hlt HNO.out
            go_wp2
            go_ret
            exact ⟨rfl, HB0.out.trans (hb6.mono HB0.out.size)⟩
        · have hdi : decide ((0 : Int) < (i : Int)) = true := by simp; omega
          have hdi2 : decide ((i : Int) > 0) = true := by simp; omega
          have hdn : decide (0 < i) = true := by simp; omega
          have hdl : (0 : Int) < (i : Int) := by omega
          have hde : ((i : Int) == 0) = false := by simp; omega
          have HI0 : Hid (0 < i) := Lib.hid (by omega)
          obtain ⟨p, hp⟩ : ∃ p, p = i - 1 := ⟨_, rfl⟩
          have HPI : Hid (i = p + 1) := Lib.hid (by omega)
          have e1 : (i : Int) - 1 = (p : Int) := by omega
          have e2 : IntKind.i64.wrap ((i : Int) - 1) = (p : Int) := by rw [e1]; exact IntWalk.i64_in _ (by omega)
          have e3 : (p : Int) < (t.length : Int) := by omega
          have e4 : p < t.length := by omega
          obtain ⟨a, ha⟩ : ∃ a, t[p]? = some a := ⟨t[p], List.getElem?_eq_getElem e4⟩
          have hga : t.getD (i - 1) 0 = a := by rw [← hp]; simp [List.getD, ha]
          have hokp := okDiv_mask (HOK.out p (by omega)) ha
          obtain ⟨q, rfl⟩ := Int.eq_ofNat_of_zero_le (isMask_lt hokp.1 HV.out).2
          have HPM := Lib.hid hokp.1
          have HP0 : Hid (q ≠ 0) := Lib.hid (by have := conn_pos hokp.2; simpa using this)
          have HPA := Lib.hid ha
          have HQ36 : Hid (q < 2 ^ 36) := Lib.hid (by have := mask_lt36 hokp.1 HV.out; simpa using this)
          rw [hga, Int.toNat_natCast] at HOA
          have y3 : w5.cell? ⟨b2, o2 + p, none⟩ = some (.int .i64 (q : Int)) := ((HB0.out.trans (hb5.mono HB0.out.size)).cell (p := ⟨b2, o2 + p, none⟩) hb2).trans (HC2.out p _ ha)
          have HLN := Lib.hid (impl_low_c w5 HM36.out (HTB.out w5 (HB0.out.trans (hb5.mono HB0.out.size))))
          have HLA := Lib.hid (impl_low_c w5 HQ36.out (HTB.out w5 (HB0.out.trans (hb5.mono HB0.out.size))))
          obtain ⟨x, hx⟩ : ∃ x, x = lowB m := ⟨_, rfl⟩
          obtain ⟨y, hy⟩ : ∃ y, y = lowB q := ⟨_, rfl⟩
          rw [← hx] at HLN HOA
          rw [← hy] at HLA HOA
          have HX := Lib.hid hx
          have HY := Lib.hid hy
          clear hp ha hga hokp hi0 hx hy
          go_wp2_with fail
          refine (HLA.out).mono ?_
          rintro e w' ⟨rfl, rfl⟩
          go_wp2_with fail
          refine (HLN.out).mono ?_
          rintro e w' ⟨rfl, rfl⟩
          clear y3
          by_cases hxy : y < x
          · have hdx : decide ((y : Int) ≥ (x : Int)) = false := by simp; omega
            have hdx2 : decide ((x : Int) ≤ (y : Int)) = false := by simp; omega
            have hdx3 : decide (x ≤ y) = false := by simp; omega
            have HLOW : Hid (decide (y < x) = true) := Lib.hid (decide_eq_true hxy)
            clear hxy
            have c0 : w5.cell? ⟨bR, 0, none⟩ = some (.int .i64 r.w) := (hb5.cell (p := ⟨bR, 0, none⟩) HCR.out.2.2).trans HCR.out.1
            have HPL : Hid (Calls Tryz.prog 113 #[.int .i64 r.w, .int .i64 m] w5 fun e w' => ∃ v', e = .returned v' ∧ CellsIn w' w5.heap.size w'.heap.size v' C ∧ Below w5.heap.size w5 w') := Lib.hid (by
              have h1 := impl_places_c (wn := r.w.toNat) (m := m) w5 (by have := HV.out.1; omega) (by have := HV.out.2.1; omega) HM36.out
              rw [Int.toNat_of_nonneg (show 0 ≤ r.w by have := HV.out.1; omega), ← HCC.out] at h1
              exact h1)
            go_wp2_with fail
            refine (HPL.out).mono ?_
            rintro e w6 ⟨vc, rfl, o6, b6⟩
            have hb6 := hb5.trans (b6.mono hb5.size)
            have B56 := Lib.hid b6
            have HO6 : Hid (CellsRd w6 0 w6.heap.size vc C) := Lib.hid (o6.rd.more (Nat.zero_le _) (Nat.le_refl _))
            obtain ⟨Ac, cvc, rfl, _, _⟩ := o6.rd
            clear c0 HPL o6 b6
            by_cases hl8 : C.length ≤ 8
            · have hd8 : decide ((C.length : Int) > 8) = false := by simp; omega
              have hd8b : decide ((8 : Int) < (C.length : Int)) = false := by simp; omega
              have hd8c : ¬ (8 : Int) < (C.length : Int) := by omega
              have HH := Lib.hid (hangs_c w6 HO6.out (by omega) HND.out HON.out)
              go_wp2_with fail
              refine (HH.out).mono ?_
              rintro e w7 ⟨rfl, b7⟩
              have hb7 := hb6.trans (b7.mono hb6.size)
              have B57 := Lib.hid (B56.out.trans (b7.mono B56.out.size))
              have HO7 : Hid (CellsRd w7 0 w7.heap.size (.slice Ac C.length cvc) C) := Lib.hid ((HO6.out.keep (SameIn.of_below b7 (Nat.le_refl _))).more (Nat.le_refl _) b7.size)
              clear HH b7
              cases hh : hangs C
              · have HNO : Hid (okDiv r t i = false) := Lib.hid (by rw [HOA.out, HCON.out, hh]; simp)
                clear hh
                obtain rfl : R = false := by rw [HR.out]; exact isDiv_no hlt HNO.out
                go_wp2
                go_ret
                exact ⟨rfl, HB0.out.trans (hb7.mono HB0.out.size)⟩
              have HCN : Hid (connS C = true) := Lib.hid (by rw [HCON.out, hh, decide_eq_true hl8]; rfl)
              clear hh hl8
              have HG := Lib.hid (impl_congr_c w7 (((HF5.out HI0.out).keep (SameIn.of_below B57.out (Nat.le_refl _))).more (Nat.le_refl _) B57.out.size) HO7.out (cellsOf_len HV.out) (by have := HCL.out; omega))
              rw [← HFD.out] at HG
              go_wp2_with fail
              refine (HG.out).mono ?_
              rintro e w8 ⟨rfl, b8⟩
              have hb8 := hb7.trans (b8.mono hb7.size)
              have HF8 : Hid (0 < i + 1 → CellsRd w8 0 w8.heap.size u6 (r.cellsOf (t.getD 0 0))) := Lib.hid fun _ => ((HF5.out HI0.out).keep (SameIn.of_below (B57.out.trans (b8.mono B57.out.size)) (Nat.le_refl _))).more (Nat.le_refl _) (B57.out.trans (b8.mono B57.out.size)).size
              clear HG b8 hb7
              cases hcg : congr F C
              · have HNO : Hid (okDiv r t i = false) := Lib.hid (by rw [HOA.out, HFD.out.symm, congr_comm C F, hcg, Bool.and_false]; rfl)
                clear hcg
                obtain rfl : R = false := by rw [HR.out]; exact isDiv_no hlt HNO.out
                go_wp2
                go_ret
                exact ⟨rfl, HB0.out.trans (hb8.mono HB0.out.size)⟩
              have HYES : Hid (okDiv r t i = true) := Lib.hid (by rw [HOA.out, HDJ.out, HCN.out, HFD.out.symm, congr_comm C F, hcg, HLOW.out]; simp)
              clear hcg
              have hor : bits .or .i64 (U : Int) (m : Int) = ((usedTo t (i + 1) : Nat) : Int) := by
                rw [usedTo_succ HN1.out, i64_or_nat _ _ (by have := HUL.out; omega) (by have := HM36.out; omega), HU.out]; rfl
              have HOK2 : Hid (∀ j < i + 1, okDiv r t j = true) := Lib.hid fun j hj => by
                rcases Nat.lt_or_ge j i with h | h
                · exact HOK.out j h
                · obtain rfl : j = i := by omega
                  exact HYES.out
              go_wp2
              go_roundw
              case rel => exact ⟨i + 1, by omega, by go_num, rfl, HF8, HOK2, hb8⟩
              case measure => simp [intOf]; omega
            · have hd8 : decide ((C.length : Int) > 8) = true := by simp; omega
              have hd8b : decide ((8 : Int) < (C.length : Int)) = true := by simp; omega
              have hd8c : (8 : Int) < (C.length : Int) := by omega
              have HNO : Hid (okDiv r t i = false) := Lib.hid (by rw [HOA.out, HCON.out, decide_eq_false hl8]; simp)
              obtain rfl : R = false := by rw [HR.out]; exact isDiv_no hlt HNO.out
              go_wp2
              go_ret
              exact ⟨rfl, HB0.out.trans (hb6.mono HB0.out.size)⟩
          · have hdx : decide ((y : Int) ≥ (x : Int)) = true := by simp; omega
            have hdx2 : decide ((x : Int) ≤ (y : Int)) = true := by simp; omega
            have hdx3 : decide (x ≤ y) = true := by simp; omega
            have HNO : Hid (okDiv r t i = false) := Lib.hid (by rw [HOA.out, decide_eq_false hxy, decide_eq_false (show ¬ i = 0 by have := HI0.out; omega)]; simp)
            clear hxy
            obtain rfl : R = false := by rw [HR.out]; exact isDiv_no hlt HNO.out
            go_wp2
            go_ret
            exact ⟨rfl, HB0.out.trans (hb5.mono HB0.out.size)⟩
      · have hz2 : (bits .and .i64 (U : Int) (m : Int) != 0) = true := by rw [hand]; simp; omega
        have HNO : Hid (okDiv r t i = false) := Lib.hid (by rw [HOA.out, beq_false_of_ne hz]; rfl)
        clear hand hz
        obtain rfl : R = false := by rw [HR.out]; exact isDiv_no hlt HNO.out
        go_wp2
        go_ret
        exact ⟨rfl, HB0.out.trans (hb5.mono HB0.out.size)⟩
    · obtain rfl : i = t.length := by omega
      have hlti : ¬ (t.length : Int) < (t.length : Int) := by omega
      have hbw := HB0.out.trans (hbel.mono HB0.out.size)
      have HI := Lib.hid (impl_mask_c wr (HRD.out wr hbw) HV.out)
      have c0 : wr.cell? ⟨bR, 0, none⟩ = some (.int .i64 r.w) := (hbel.cell (p := ⟨bR, 0, none⟩) HCR.out.2.2).trans HCR.out.1
      have c1 : wr.cell? ⟨bR, 1, none⟩ = some (.slice A r.rows.length c) := (hbel.cell (p := ⟨bR, 1, none⟩) HCR.out.2.2).trans HCR.out.2.1
      have HE : Hid (R = (U == r.mask)) := Lib.hid (by rw [HR.out, isDiv_end HVV.out hpos HOK.out, HU.out])
      go_wp2_with fail
      refine (HI.out).mono ?_
      rintro e w6 ⟨rfl, b6⟩
      have hq : ((U : Int) == (r.mask : Int)) = R := by rw [HE.out, Bool.eq_iff_iff]; simp only [beq_iff_eq]; omega
      go_wp2
      go_ret
      exact ⟨rfl, hbw.trans (b6.mono hbw.size)⟩
end Go.Proofs.YtfmkmjebkmimkaaGreatDoor

namespace Go.Proofs.YtfmkmjebkmimkaaGreatDoor
open Go.RowKit

theorem i_step {w w' : World} {v : Value} {l : List Int} (h : IntsRd w 0 w.heap.size v l) (b : Below w.heap.size w w') : IntsRd w' 0 w'.heap.size v l := (h.keep (SameIn.of_below b (Nat.le_refl _))).more (Nat.le_refl _) b.size
theorem ss_step {w w' : World} {v : Value} {l : List (List Cell)} (h : CellSSRd w 0 w.heap.size v l) (b : Below w.heap.size w w') : CellSSRd w' 0 w'.heap.size v l := (h.keep (SameIn.of_below b (Nat.le_refl _))).more (Nat.le_refl _) b.size
/-- a region in a box, and what is known of it in every later world -/
theorem box_rd {w0 w1 : World} {r : Reg} {s : Value} (o : IntsIn w1 w0.heap.size w1.heap.size s r.rows) (b : Below w0.heap.size w0 w1) :
    ∃ A c, s = .slice A r.rows.length c ∧ Below w1.heap.size w1 (w1.alloc (.cells #[.int .i64 r.w, .slice A r.rows.length c] 29)) ∧ Sep w0 (w1.alloc (.cells #[.int .i64 r.w, .slice A r.rows.length c] 29)) [Res.box w1.heap.size 29 #[.int .i64 r.w, .slice A r.rows.length c], Res.row (.slice A r.rows.length c) 3 1 r.rows.length (ic r.rows)] := by
  have H := (Sep.start w0).oiNew b o
  obtain ⟨A, c, rfl, _, _, _⟩ := Res.row_at H.h0
  exact ⟨A, c, rfl, ((Sep.start w1).box 29 #[.int .i64 r.w, .slice A r.rows.length c]).below, H.box 29 #[.int .i64 r.w, .slice A r.rows.length c]⟩

set_option maxRecDepth 100000 in
set_option maxHeartbeats 6400000 in
theorem law_fd (v : Value) (l : List UInt8) (w : World) (h : BytesRd w 0 w.heap.size v l) (htab : Tab64 w) :
    Calls Tryz.prog 6 #[v] w fun e w' => e = .returned (.bool true) ∧ Below w.heap.size w w' := by
  by_cases hl : l.length ≤ 1048576
  · have HBY : Hid (∀ w', Below w.heap.size w w' → BytesRd w' 0 w'.heap.size v l) := Lib.hid fun w' b => (h.keep (SameIn.of_below b (Nat.le_refl _))).more (Nat.le_refl _) b.size
    have HTB : Hid (∀ w', Below w.heap.size w w' → Tab64 w') := Lib.hid fun w' b => tab64_on htab b
    go_enter Tryz.func6, Tryz.ntmps6
    go_wp2_with fail
    refine (big_no w h hl).mono ?_
    rintro e w' ⟨rfl, rfl⟩
    go_wp2_with fail
    refine (drawInto_c w h hl).mono ?_
    rintro e w1 ⟨r, v1, k, rfl, hd, hk, ⟨s, rfl, o1⟩, b1⟩
    obtain ⟨A, c, rfl, b2, HS⟩ := box_rd o1 b1
    have hr20 : r.rows.length ≤ 1048576 := by have := hd.2; omega
    go_upto_region 4 with fail
    generalize w1.alloc (.cells #[.int .i64 r.w, .slice A r.rows.length c] 29) = W at *
    have HW := Lib.hid HS.below
    have BB : Hid (∀ w', Below W.heap.size W w' → w'.cell? ⟨w1.heap.size, 0, none⟩ = some (.int .i64 r.w) ∧ w'.cell? ⟨w1.heap.size, 1, none⟩ = some (.slice A r.rows.length c)) := Lib.hid fun w' b => by
      have K := HS.step b
      have x0 := K.h0.cell 0
      have x1 := K.h0.cell 1
      simp at x0 x1
      exact ⟨x0, x1⟩
    have HRG : Hid (∀ w', Below W.heap.size W w' → RegRd w' 0 w'.heap.size (.agg #[.int .i64 r.w, .slice A r.rows.length c]) r) := Lib.hid fun w' b => ⟨_, rfl, ((HS.step b).g1.oi.sr).more (Nat.zero_le _) (Nat.le_refl _)⟩
    obtain ⟨B, hB⟩ : ∃ B, B = divB r k := ⟨_, rfl⟩
    obtain ⟨T, hT⟩ : ∃ T, T = divL r k := ⟨_, rfl⟩
    obtain ⟨D, hD⟩ : ∃ D, D = divP r k := ⟨_, rfl⟩
    obtain ⟨N, hN⟩ : ∃ N, N = cdR r k := ⟨_, rfl⟩
    have H1 : Hid (∀ w', Below W.heap.size W w' → Calls Tryz.prog 36 #[.agg #[.int .i64 r.w, .slice A r.rows.length c], .int .i64 k] w' fun e w'' => ∃ v', e = .returned (.tuple #[v', .bool B]) ∧ IntsIn w'' w'.heap.size w''.heap.size v' T ∧ Below w'.heap.size w' w'') := Lib.hid fun w' b => by rw [hB, hT]; exact impl_into_c w' (HRG.out w' b) k hr20 (HTB.out w' (HW.out.trans (b.mono HW.out.size)))
    have H2 : Hid (∀ w', Below W.heap.size W w' → Calls Tryz.prog 37 #[.agg #[.int .i64 r.w, .slice A r.rows.length c], .int .i64 k] w' fun e w'' => ∃ v', e = .returned (.tuple #[v', .bool B]) ∧ IntsIn w'' w'.heap.size w''.heap.size v' T ∧ Below w'.heap.size w' w'') := Lib.hid fun w' b => by rw [hB, hT]; exact spec_into_c w' (HRG.out w' b) k hr20
    have H3 : Hid (∀ w', Below W.heap.size W w' → Calls Tryz.prog 38 #[.agg #[.int .i64 r.w, .slice A r.rows.length c], .int .i64 k] w' fun e w'' => ∃ v' P, e = .returned v' ∧ P.map Prod.snd = D ∧ Sep w' w'' [Res.row v' 49 1 P.length (P.map Prod.fst), Res.shps P]) := Lib.hid fun w' b => by rw [hD]; exact impl_divP_c k w' (HRG.out w' b) hr20 (HTB.out w' (HW.out.trans (b.mono HW.out.size)))
    have H4 : Hid (∀ w', Below W.heap.size W w' → Calls Tryz.prog 40 #[.agg #[.int .i64 r.w, .slice A r.rows.length c], .int .i64 k] w' fun e w'' => ∃ v', e = .returned v' ∧ ListAt w' w'' v' D) := Lib.hid fun w' b => by rw [hD]; exact spec_divP_c k w' (HRG.out w' b) hr20
    have H6 : Hid (∀ w', Below W.heap.size W w' → Calls Tryz.prog 42 #[.agg #[.int .i64 r.w, .slice A r.rows.length c], .int .i64 k] w' fun e w'' => e = .returned (.int .i64 N) ∧ Below w'.heap.size w' w'') := Lib.hid fun w' b => by rw [hN]; exact impl_cd_c w' (HRG.out w' b) k hr20 (HTB.out w' (HW.out.trans (b.mono HW.out.size)))
    have H7 : Hid (∀ w', Below W.heap.size W w' → Calls Tryz.prog 43 #[.agg #[.int .i64 r.w, .slice A r.rows.length c], .int .i64 k] w' fun e w'' => e = .returned (.int .i64 N) ∧ Below w'.heap.size w' w'') := Lib.hid fun w' b => by rw [hN]; exact spec_cd_c w' (HRG.out w' b) k hr20
    have H5 : Hid (B = true → Hid (∀ w' v', Below W.heap.size W w' → IntsRd w' 0 w'.heap.size v' T → Calls Tryz.prog 41 #[.agg #[.int .i64 r.w, .slice A r.rows.length c], v'] w' fun e w'' => e = .returned (.bool true) ∧ Below w'.heap.size w' w'')) := Lib.hid fun hb => Lib.hid fun w' v' b h2 => by
      have h3 := divL_ok r k
      have h4 := (div_law (by rw [← hB]; exact hb)).1
      rw [← hT] at h3 h4
      rw [← h4]
      exact impl_isDivision_c w' (HRG.out w' b) h2 h3.1 h3.2.1 (HTB.out w' (HW.out.trans (b.mono HW.out.size)))
    have HP1 : Hid (decide (0 < N) = B) := Lib.hid (by rw [hN, hB]; exact cd_pos)
    have HP2 : Hid (B = !D.isEmpty) := Lib.hid (by rw [hB, hD]; exact divB_ne)
    have HP3 : Hid (B = true → (T.length : Int) = k) := Lib.hid fun hb => by rw [hT]; exact (div_law (by rw [← hB]; exact hb)).2
    have HP4 : Hid (T.length ≤ 1048576) := Lib.hid (by rw [hT]; exact (divL_ok r k).2.1)
    have HDL : Hid (D.length ≤ 160000) := Lib.hid (by rw [hD]; exact divP_len r k)
    clear hB hT hD hN hd hk HS b2 b1 o1 h htab
    have HH : Below W.heap.size W W := Below.refl _ _
    have f0 := (BB.out _ HH).1
    have f1 := (BB.out _ HH).2
    go_wp2_with fail
    refine (H1.out _ HH).mono ?_
    rintro e w3 ⟨vl, rfl, o3, b3⟩
    have HL := Lib.hid ((IntsIn.rd o3).more (Nat.zero_le _) (Nat.le_refl _))
    replace HH := HH.trans (b3.mono HH.size)
    clear b3 o3 f0 f1
    have f0 := (BB.out _ HH).1
    have f1 := (BB.out _ HH).2
    go_wp2_with fail
    refine (H2.out _ HH).mono ?_
    rintro e w4 ⟨vm, rfl, o4, b4⟩
    replace HL := Lib.hid (i_step HL.out b4)
    have HM := Lib.hid ((IntsIn.rd o4).more (Nat.zero_le _) (Nat.le_refl _))
    obtain ⟨Am, cm, rfl, hmm, _⟩ := (IntsIn.rd o4)
    replace HH := HH.trans (b4.mono HH.size)
    clear b4 o4 f0 f1
    have f0 := (BB.out _ HH).1
    have f1 := (BB.out _ HH).2
    go_wp2_with fail
    refine (H3.out _ HH).mono ?_
    rintro e w5 ⟨vp, P, rfl, hPD, h5⟩
    have b5 := h5.below
    replace HL := Lib.hid (i_step HL.out b5)
    replace HM := Lib.hid (i_step HM.out b5)
    have HPR := Lib.hid ((Sep.shpsRdNew h5 rfl).more (Nat.zero_le _) (Nat.le_refl _))
    rw [hPD] at HPR
    obtain ⟨Ap, cp, rfl, _, _, _⟩ := Res.row_at h5.h0
    obtain ⟨n, hn⟩ : ∃ n, n = P.length := ⟨_, rfl⟩
    rw [← hn]
    have hnD : n = D.length := by rw [hn, ← hPD, List.length_map]
    replace HH := HH.trans (b5.mono HH.size)
    rw [← hn] at HPR
    clear b5 h5 hPD hn f0 f1
    have f0 := (BB.out _ HH).1
    have f1 := (BB.out _ HH).2
    have hDL := HDL.out
    have hTL := HP4.out
    have hp2 := HP2.out
    have hp1 := HP1.out
    clear HP2 HP1
    cases B
    · have hn0 : n = 0 := by
        cases D with
        | nil => exact hnD
        | cons _ _ => simp at hp2
      subst hn0
      have hN0 : ¬ 0 < N := of_decide_eq_false hp1
      clear hnD hp2 hp1
      go_wp2_with fail
      refine (laws_sameInts_same _ HL.out HM.out).mono ?_
      rintro e w6 ⟨rfl, b6⟩
      replace HM := Lib.hid (i_step HM.out b6)
      replace HPR := Lib.hid (ss_step HPR.out b6)
      replace HH := HH.trans (b6.mono HH.size)
      clear b6 f0 f1 HL
      have f0 := (BB.out _ HH).1
      have f1 := (BB.out _ HH).2
      go_wp2_with fail
      refine (H4.out _ HH).mono ?_
      rintro e w7 ⟨vq, rfl, h7⟩
      have b7 := h7.below
      replace HM := Lib.hid (i_step HM.out b7)
      replace HPR := Lib.hid (ss_step HPR.out b7)
      have HQR := Lib.hid ((ListAt.rd h7).more (Nat.zero_le _) (Nat.le_refl _))
      replace HH := HH.trans (b7.mono HH.size)
      clear b7 h7 f0 f1
      go_wp2_with fail
      refine (laws_sameShapes_same _ HPR.out HQR.out).mono ?_
      rintro e w8 ⟨rfl, b8⟩
      replace HM := Lib.hid (i_step HM.out b8)
      replace HH := HH.trans (b8.mono HH.size)
      clear b8 HPR HQR
      have f0 := (BB.out _ HH).1
      have f1 := (BB.out _ HH).2
      go_wp2_with fail
      go_wp2_with fail
      refine (H6.out _ HH).mono ?_
      rintro e w10 ⟨rfl, b10⟩
      replace HH := HH.trans (b10.mono HH.size)
      clear b10 f0 f1
      have f0 := (BB.out _ HH).1
      have f1 := (BB.out _ HH).2
      go_wp2_with fail
      refine (H7.out _ HH).mono ?_
      rintro e w11 ⟨rfl, b11⟩
      replace HH := HH.trans (b11.mono HH.size)
      clear b11 f0 f1
      go_wp2_with fail
      have HB0 := Lib.hid (HW.out.trans (HH.mono HW.out.size))
      clear HH BB HRG H1 H2 H3 H4 H5 H6 H7 HM
      clear HW HP3 HP4 HDL hDL hTL
      rename_i wz0
      refine (drawDivs_c _ (HBY.out _ HB0.out) hl).mono ?_
      rintro e w12 ⟨r2, v2, rfl, hd2, ⟨s2, rfl, o2⟩, b12⟩
      obtain ⟨A2, c2, rfl, bx, HS⟩ := box_rd o2 b12
      have hr20 : r2.rows.length ≤ 1048576 := by have := hd2.2; omega
      go_upto_region 13 with fail
      have HW := Lib.hid ((HB0.out.trans (b12.mono HB0.out.size)).trans (bx.mono (HB0.out.trans (b12.mono HB0.out.size)).size))
      generalize w12.alloc (.cells #[.int .i64 r2.w, .slice A2 r2.rows.length c2] 29) = W2 at *
      have BB : Hid (∀ w', Below W2.heap.size W2 w' → w'.cell? ⟨w12.heap.size, 0, none⟩ = some (.int .i64 r2.w) ∧ w'.cell? ⟨w12.heap.size, 1, none⟩ = some (.slice A2 r2.rows.length c2)) := Lib.hid fun w' b => by
        have K := HS.step b
        have x0 := K.h0.cell 0
        have x1 := K.h0.cell 1
        simp at x0 x1
        exact ⟨x0, x1⟩
      have HRG : Hid (∀ w', Below W2.heap.size W2 w' → RegRd w' 0 w'.heap.size (.agg #[.int .i64 r2.w, .slice A2 r2.rows.length c2]) r2) := Lib.hid fun w' b => ⟨_, rfl, ((HS.step b).g1.oi.sr).more (Nat.zero_le _) (Nat.le_refl _)⟩
      obtain ⟨E, hE⟩ : ∃ E, E = divs r2 := ⟨_, rfl⟩
      obtain ⟨Z, hZ⟩ : ∃ Z, Z = areaR r2 := ⟨_, rfl⟩
      have H1 : Hid (∀ w', Below W2.heap.size W2 w' → Calls Tryz.prog 45 #[.agg #[.int .i64 r2.w, .slice A2 r2.rows.length c2]] w' fun e w'' => ∃ v', e = .returned v' ∧ IntsIn w'' w'.heap.size w''.heap.size v' E ∧ Below w'.heap.size w' w'') := Lib.hid fun w' b => by rw [hE]; exact impl_divs_c w' (HRG.out w' b) hr20 (HTB.out w' (HW.out.trans (b.mono HW.out.size)))
      have H2 : Hid (∀ w', Below W2.heap.size W2 w' → Calls Tryz.prog 46 #[.agg #[.int .i64 r2.w, .slice A2 r2.rows.length c2]] w' fun e w'' => ∃ v', e = .returned v' ∧ IntsIn w'' w'.heap.size w''.heap.size v' E ∧ Below w'.heap.size w' w'') := Lib.hid fun w' b => by rw [hE]; exact spec_divs_c w' (HRG.out w' b) hr20
      have H3 : Hid (∀ w', Below W2.heap.size W2 w' → Calls Tryz.prog 47 #[.agg #[.int .i64 r2.w, .slice A2 r2.rows.length c2]] w' fun e w'' => e = .returned (.int .i64 Z) ∧ Below w'.heap.size w' w'') := Lib.hid fun w' b => by rw [hZ]; exact spec_area_c w' (HRG.out w' b) hr20
      have HE : Hid (∀ a ∈ E, 1 ≤ a ∧ a ≤ 12 ∧ Int.tmod Z a = 0) := Lib.hid fun a ha => by rw [hZ]; rw [hE] at ha; exact divs_in ha
      have hEl : E.length ≤ 12 := by rw [hE]; exact divsTo_len
      have hZ1 := (area_le r2).1
      have hZ2 := (area_le r2).2
      rw [← hZ] at hZ1 hZ2
      clear hE hZ HS hd2 hr20 bx b12 o2 HRG HB0
      have HH : Below W2.heap.size W2 W2 := Below.refl _ _
      have f0 := (BB.out _ HH).1
      have f1 := (BB.out _ HH).2
      go_wp2_with fail
      refine (H1.out _ HH).mono ?_
      rintro e w13 ⟨vd, rfl, o13, b13⟩
      have HD := Lib.hid ((IntsIn.rd o13).more (Nat.zero_le _) (Nat.le_refl _))
      obtain ⟨Ad, cd, rfl, hmd, _⟩ := (IntsIn.rd o13)
      replace HH := HH.trans (b13.mono HH.size)
      clear b13 o13 f0 f1
      have f0 := (BB.out _ HH).1
      have f1 := (BB.out _ HH).2
      go_wp2_with fail
      refine (H2.out _ HH).mono ?_
      rintro e w14 ⟨ve, rfl, o14, b14⟩
      replace HD := Lib.hid (i_step HD.out b14)
      have HM := Lib.hid ((IntsIn.rd o14).more (Nat.zero_le _) (Nat.le_refl _))
      replace HH := HH.trans (b14.mono HH.size)
      clear b14 o14 f0 f1
      go_wp2_with fail
      refine (laws_sameInts_same _ HD.out HM.out).mono ?_
      rintro e w15 ⟨rfl, b15⟩
      replace HD := Lib.hid (i_step HD.out b15)
      replace HH := HH.trans (b15.mono HH.size)
      have HH15 := Lib.hid HH
      clear b15 HM H1 H2 HH
      go_wp2
      go_loopw [13] (fun i wr => ∃ j : Nat, j ≤ E.length ∧ i = .int .i64 j ∧ Below w15.heap.size w15 wr) (fun i _ => E.length - (intOf i).toNat)
      case atStart => exact ⟨0, Nat.zero_le _, rfl, Below.refl _ _⟩
      case round =>
        obtain ⟨j, hj, rfl, hbel⟩ := hrel
        have HBL := Lib.hid hbel
        by_cases hlt : j < E.length
        · obtain ⟨Ad', cd', e5, _, hrd⟩ := HD.out
          injection e5 with e5 e6 e7
          subst e5
          subst e7
          obtain ⟨b, off, a, rfl, _, hb, hla, q1⟩ := Rd.at1 (f := fun n : Int => .int .i64 n) (hrd.below hbel (Nat.le_refl _)) hlt
          have hae := HE.out a (List.mem_of_getElem? hla)
          have ha1 := hae.1
          have ha2 := hae.2.1
          have ht1 := hae.2.2
          have ht2 : IntKind.i64.wrap (Int.tmod Z a) = 0 := by rw [ht1]; exact IntWalk.i64_in _ (by omega)
          have ha0 : ¬ a = 0 := by omega
          have HQ1 := Lib.hid q1
          have HQB := Lib.hid hb
          clear hae hla hrd
          go_upto_region 19 with fail
          have BBr : Hid (∀ w', Below wr.heap.size wr w' → w'.cell? ⟨w12.heap.size, 0, none⟩ = some (.int .i64 r2.w) ∧ w'.cell? ⟨w12.heap.size, 1, none⟩ = some (.slice A2 r2.rows.length c2) ∧ w'.cell? ⟨b, off + j, none⟩ = some (.int .i64 a)) := Lib.hid fun w' bb => by
            have K := HBL.out.trans (bb.mono HBL.out.size)
            have K2 := BB.out _ (HH15.out.trans (K.mono HH15.out.size))
            exact ⟨K2.1, K2.2, (bb.cell (p := ⟨b, off + j, none⟩) (Nat.lt_of_lt_of_le HQB.out HBL.out.size)).trans HQ1.out⟩
          have H3r : Hid (∀ w', Below wr.heap.size wr w' → Calls Tryz.prog 47 #[.agg #[.int .i64 r2.w, .slice A2 r2.rows.length c2]] w' fun e w'' => e = .returned (.int .i64 Z) ∧ Below w'.heap.size w' w'') := Lib.hid fun w' bb => by
            have K := HBL.out.trans (bb.mono HBL.out.size)
            exact H3.out _ (HH15.out.trans (K.mono HH15.out.size))
          clear q1 hb hbel
          have HX : Below wr.heap.size wr wr.drew := below_drew (Below.refl _ _)
          have f0 := (BBr.out _ HX).1
          have f1 := (BBr.out _ HX).2.1
          have f2 := (BBr.out _ HX).2.2
          go_region_held3 (fun w' => w'.cell? ⟨w12.heap.size, 0, none⟩ = some (.int .i64 r2.w) ∧ w'.cell? ⟨w12.heap.size, 1, none⟩ = some (.slice A2 r2.rows.length c2) ∧ w'.cell? ⟨b, off + j, none⟩ = some (.int .i64 a))
            (first | ((try dsimp only); refine ⟨?_, ?_, ?_⟩ <;> assumption) | go_keep)
            (first
            | (go_at_call 47; (with_reducible refine (H3r.out _ HX).mono ?_); rintro e wz ⟨rfl, bz⟩; replace HX := HX.trans (bz.mono HX.size); clear bz; have f0 := (BBr.out _ HX).1; have f1 := (BBr.out _ HX).2.1; have f2 := (BBr.out _ HX).2.2))
          all_goals
            have HX2 := Lib.hid HX
            clear f0 f1 f2 HX
            go_wp2
            go_roundw
            case rel => exact ⟨j + 1, by omega, by go_num, HBL.out.trans (HX2.out.mono HBL.out.size)⟩
            case measure => simp [intOf]; omega
        · have HB1 := Lib.hid (HW.out.trans ((HH15.out.trans (hbel.mono HH15.out.size)).mono HW.out.size))
          clear hbel HBL HH15 HW BB H3 HE HD
          go_wp2_with fail
          refine (drawIs_c wr (HBY.out _ HB1.out) hl).mono ?_
          rintro e w20 ⟨r3, v3, v4, t, rfl, hd3, ⟨s3, rfl, o3⟩, ht3, hi3, hl3, b20⟩
          obtain ⟨A3, c3, rfl, bx3, HS3⟩ := box_rd o3 b20
          have HT3 := Lib.hid (i_step ht3 bx3)
          have HW3 := Lib.hid ((HB1.out.trans (b20.mono HB1.out.size)).trans (bx3.mono (HB1.out.trans (b20.mono HB1.out.size)).size))
          clear ht3 bx3 b20 o3 hd3
          go_upto_region 22 with fail
          generalize w20.alloc (.cells #[.int .i64 r3.w, .slice A3 r3.rows.length c3] 29) = W3 at *
          obtain ⟨R, hR⟩ : ∃ R, R = isDiv r3 t := ⟨_, rfl⟩
          have BB3 : Hid (∀ w', Below W3.heap.size W3 w' → w'.cell? ⟨w20.heap.size, 0, none⟩ = some (.int .i64 r3.w) ∧ w'.cell? ⟨w20.heap.size, 1, none⟩ = some (.slice A3 r3.rows.length c3)) := Lib.hid fun w' b => by
            have K := HS3.step b
            have x0 := K.h0.cell 0
            have x1 := K.h0.cell 1
            simp at x0 x1
            exact ⟨x0, x1⟩
          have HRG3 : Hid (∀ w', Below W3.heap.size W3 w' → RegRd w' 0 w'.heap.size (.agg #[.int .i64 r3.w, .slice A3 r3.rows.length c3]) r3) := Lib.hid fun w' b => ⟨_, rfl, ((HS3.step b).g1.oi.sr).more (Nat.zero_le _) (Nat.le_refl _)⟩
          have H1 : Hid (∀ w', Below W3.heap.size W3 w' → Calls Tryz.prog 41 #[.agg #[.int .i64 r3.w, .slice A3 r3.rows.length c3], v4] w' fun e w'' => e = .returned (.bool R) ∧ Below w'.heap.size w' w'') := Lib.hid fun w' b => by rw [hR]; exact impl_isDivision_c w' (HRG3.out w' b) (i_step HT3.out b) hi3 hl3 (HTB.out w' (HW3.out.trans (b.mono HW3.out.size)))
          have H2 : Hid (∀ w', Below W3.heap.size W3 w' → Calls Tryz.prog 49 #[.agg #[.int .i64 r3.w, .slice A3 r3.rows.length c3], v4] w' fun e w'' => e = .returned (.bool R) ∧ Below w'.heap.size w' w'') := Lib.hid fun w' b => by rw [hR]; exact spec_isDivision_c w' (HRG3.out w' b) (i_step HT3.out b) hi3 hl3
          clear hR hi3 hl3 HRG3 HT3 HS3
          have HX : Below W3.heap.size W3 W3.drew := below_drew (Below.refl _ _)
          have f0 := (BB3.out _ HX).1
          have f1 := (BB3.out _ HX).2
          go_region_held3 (fun w' => w'.cell? ⟨w20.heap.size, 0, none⟩ = some (.int .i64 r3.w) ∧ w'.cell? ⟨w20.heap.size, 1, none⟩ = some (.slice A3 r3.rows.length c3))
            (first | ((try dsimp only); refine ⟨?_, ?_⟩ <;> assumption) | go_keep)
            (first
            | (go_at_call 41; (with_reducible refine (H1.out _ HX).mono ?_); rintro e wz ⟨rfl, bz⟩; replace HX := HX.trans (bz.mono HX.size); clear bz; have f0 := (BB3.out _ HX).1; have f1 := (BB3.out _ HX).2)
            | (go_at_call 49; (with_reducible refine (H2.out _ HX).mono ?_); rintro e wz ⟨rfl, bz⟩; replace HX := HX.trans (bz.mono HX.size); clear bz; have f0 := (BB3.out _ HX).1; have f1 := (BB3.out _ HX).2))
          all_goals
            have HX2 := Lib.hid (HW3.out.trans (HX.mono HW3.out.size))
            clear f0 f1 HX
            cases R
            all_goals
              go_wp2
              go_ret
              exact ⟨rfl, HX2.out⟩
    · have hn1 : decide ((0 : Int) < (n : Int)) = true := by
        cases D with
        | nil => simp at hp2
        | cons _ _ => rw [List.length_cons] at hnD; simp; omega
      replace H5 := H5.out rfl
      have hn2 : 0 < n := by simpa using hn1
      have hn3 : (0 : Int) < (n : Int) := by omega
      have hk : (T.length : Int) = k := HP3.out rfl
      subst hk
      have hN0 : 0 < N := of_decide_eq_true hp1
      clear hnD hp2 hp1
      go_wp2_with fail
      refine (laws_sameInts_same _ HL.out HM.out).mono ?_
      rintro e w6 ⟨rfl, b6⟩
      replace HM := Lib.hid (i_step HM.out b6)
      replace HPR := Lib.hid (ss_step HPR.out b6)
      replace HH := HH.trans (b6.mono HH.size)
      clear b6 f0 f1 HL
      have f0 := (BB.out _ HH).1
      have f1 := (BB.out _ HH).2
      go_wp2_with fail
      refine (H4.out _ HH).mono ?_
      rintro e w7 ⟨vq, rfl, h7⟩
      have b7 := h7.below
      replace HM := Lib.hid (i_step HM.out b7)
      replace HPR := Lib.hid (ss_step HPR.out b7)
      have HQR := Lib.hid ((ListAt.rd h7).more (Nat.zero_le _) (Nat.le_refl _))
      replace HH := HH.trans (b7.mono HH.size)
      clear b7 h7 f0 f1
      go_wp2_with fail
      refine (laws_sameShapes_same _ HPR.out HQR.out).mono ?_
      rintro e w8 ⟨rfl, b8⟩
      replace HM := Lib.hid (i_step HM.out b8)
      replace HH := HH.trans (b8.mono HH.size)
      clear b8 HPR HQR
      have f0 := (BB.out _ HH).1
      have f1 := (BB.out _ HH).2
      go_wp2_with fail
      refine (H5.out _ _ HH HM.out).mono ?_
      rintro e w9 ⟨rfl, b9⟩
      replace HH := HH.trans (b9.mono HH.size)
      clear b9 f0 f1
      have f0 := (BB.out _ HH).1
      have f1 := (BB.out _ HH).2
      go_wp2_with fail
      go_wp2_with fail
      refine (H6.out _ HH).mono ?_
      rintro e w10 ⟨rfl, b10⟩
      replace HH := HH.trans (b10.mono HH.size)
      clear b10 f0 f1
      have f0 := (BB.out _ HH).1
      have f1 := (BB.out _ HH).2
      go_wp2_with fail
      refine (H7.out _ HH).mono ?_
      rintro e w11 ⟨rfl, b11⟩
      replace HH := HH.trans (b11.mono HH.size)
      clear b11 f0 f1
      go_wp2_with fail
      have HB0 := Lib.hid (HW.out.trans (HH.mono HW.out.size))
      clear HH BB HRG H1 H2 H3 H4 H5 H6 H7 HM
      clear HW HP3 HP4 HDL hDL hTL
      rename_i wz0
      refine (drawDivs_c _ (HBY.out _ HB0.out) hl).mono ?_
      rintro e w12 ⟨r2, v2, rfl, hd2, ⟨s2, rfl, o2⟩, b12⟩
      obtain ⟨A2, c2, rfl, bx, HS⟩ := box_rd o2 b12
      have hr20 : r2.rows.length ≤ 1048576 := by have := hd2.2; omega
      go_upto_region 13 with fail
      have HW := Lib.hid ((HB0.out.trans (b12.mono HB0.out.size)).trans (bx.mono (HB0.out.trans (b12.mono HB0.out.size)).size))
      generalize w12.alloc (.cells #[.int .i64 r2.w, .slice A2 r2.rows.length c2] 29) = W2 at *
      have BB : Hid (∀ w', Below W2.heap.size W2 w' → w'.cell? ⟨w12.heap.size, 0, none⟩ = some (.int .i64 r2.w) ∧ w'.cell? ⟨w12.heap.size, 1, none⟩ = some (.slice A2 r2.rows.length c2)) := Lib.hid fun w' b => by
        have K := HS.step b
        have x0 := K.h0.cell 0
        have x1 := K.h0.cell 1
        simp at x0 x1
        exact ⟨x0, x1⟩
      have HRG : Hid (∀ w', Below W2.heap.size W2 w' → RegRd w' 0 w'.heap.size (.agg #[.int .i64 r2.w, .slice A2 r2.rows.length c2]) r2) := Lib.hid fun w' b => ⟨_, rfl, ((HS.step b).g1.oi.sr).more (Nat.zero_le _) (Nat.le_refl _)⟩
      obtain ⟨E, hE⟩ : ∃ E, E = divs r2 := ⟨_, rfl⟩
      obtain ⟨Z, hZ⟩ : ∃ Z, Z = areaR r2 := ⟨_, rfl⟩
      have H1 : Hid (∀ w', Below W2.heap.size W2 w' → Calls Tryz.prog 45 #[.agg #[.int .i64 r2.w, .slice A2 r2.rows.length c2]] w' fun e w'' => ∃ v', e = .returned v' ∧ IntsIn w'' w'.heap.size w''.heap.size v' E ∧ Below w'.heap.size w' w'') := Lib.hid fun w' b => by rw [hE]; exact impl_divs_c w' (HRG.out w' b) hr20 (HTB.out w' (HW.out.trans (b.mono HW.out.size)))
      have H2 : Hid (∀ w', Below W2.heap.size W2 w' → Calls Tryz.prog 46 #[.agg #[.int .i64 r2.w, .slice A2 r2.rows.length c2]] w' fun e w'' => ∃ v', e = .returned v' ∧ IntsIn w'' w'.heap.size w''.heap.size v' E ∧ Below w'.heap.size w' w'') := Lib.hid fun w' b => by rw [hE]; exact spec_divs_c w' (HRG.out w' b) hr20
      have H3 : Hid (∀ w', Below W2.heap.size W2 w' → Calls Tryz.prog 47 #[.agg #[.int .i64 r2.w, .slice A2 r2.rows.length c2]] w' fun e w'' => e = .returned (.int .i64 Z) ∧ Below w'.heap.size w' w'') := Lib.hid fun w' b => by rw [hZ]; exact spec_area_c w' (HRG.out w' b) hr20
      have HE : Hid (∀ a ∈ E, 1 ≤ a ∧ a ≤ 12 ∧ Int.tmod Z a = 0) := Lib.hid fun a ha => by rw [hZ]; rw [hE] at ha; exact divs_in ha
      have hEl : E.length ≤ 12 := by rw [hE]; exact divsTo_len
      have hZ1 := (area_le r2).1
      have hZ2 := (area_le r2).2
      rw [← hZ] at hZ1 hZ2
      clear hE hZ HS hd2 hr20 bx b12 o2 HRG HB0
      have HH : Below W2.heap.size W2 W2 := Below.refl _ _
      have f0 := (BB.out _ HH).1
      have f1 := (BB.out _ HH).2
      go_wp2_with fail
      refine (H1.out _ HH).mono ?_
      rintro e w13 ⟨vd, rfl, o13, b13⟩
      have HD := Lib.hid ((IntsIn.rd o13).more (Nat.zero_le _) (Nat.le_refl _))
      obtain ⟨Ad, cd, rfl, hmd, _⟩ := (IntsIn.rd o13)
      replace HH := HH.trans (b13.mono HH.size)
      clear b13 o13 f0 f1
      have f0 := (BB.out _ HH).1
      have f1 := (BB.out _ HH).2
      go_wp2_with fail
      refine (H2.out _ HH).mono ?_
      rintro e w14 ⟨ve, rfl, o14, b14⟩
      replace HD := Lib.hid (i_step HD.out b14)
      have HM := Lib.hid ((IntsIn.rd o14).more (Nat.zero_le _) (Nat.le_refl _))
      replace HH := HH.trans (b14.mono HH.size)
      clear b14 o14 f0 f1
      go_wp2_with fail
      refine (laws_sameInts_same _ HD.out HM.out).mono ?_
      rintro e w15 ⟨rfl, b15⟩
      replace HD := Lib.hid (i_step HD.out b15)
      replace HH := HH.trans (b15.mono HH.size)
      have HH15 := Lib.hid HH
      clear b15 HM H1 H2 HH
      go_wp2
      go_loopw [13] (fun i wr => ∃ j : Nat, j ≤ E.length ∧ i = .int .i64 j ∧ Below w15.heap.size w15 wr) (fun i _ => E.length - (intOf i).toNat)
      case atStart => exact ⟨0, Nat.zero_le _, rfl, Below.refl _ _⟩
      case round =>
        obtain ⟨j, hj, rfl, hbel⟩ := hrel
        have HBL := Lib.hid hbel
        by_cases hlt : j < E.length
        · obtain ⟨Ad', cd', e5, _, hrd⟩ := HD.out
          injection e5 with e5 e6 e7
          subst e5
          subst e7
          obtain ⟨b, off, a, rfl, _, hb, hla, q1⟩ := Rd.at1 (f := fun n : Int => .int .i64 n) (hrd.below hbel (Nat.le_refl _)) hlt
          have hae := HE.out a (List.mem_of_getElem? hla)
          have ha1 := hae.1
          have ha2 := hae.2.1
          have ht1 := hae.2.2
          have ht2 : IntKind.i64.wrap (Int.tmod Z a) = 0 := by rw [ht1]; exact IntWalk.i64_in _ (by omega)
          have ha0 : ¬ a = 0 := by omega
          have HQ1 := Lib.hid q1
          have HQB := Lib.hid hb
          clear hae hla hrd
          go_upto_region 19 with fail
          have BBr : Hid (∀ w', Below wr.heap.size wr w' → w'.cell? ⟨w12.heap.size, 0, none⟩ = some (.int .i64 r2.w) ∧ w'.cell? ⟨w12.heap.size, 1, none⟩ = some (.slice A2 r2.rows.length c2) ∧ w'.cell? ⟨b, off + j, none⟩ = some (.int .i64 a)) := Lib.hid fun w' bb => by
            have K := HBL.out.trans (bb.mono HBL.out.size)
            have K2 := BB.out _ (HH15.out.trans (K.mono HH15.out.size))
            exact ⟨K2.1, K2.2, (bb.cell (p := ⟨b, off + j, none⟩) (Nat.lt_of_lt_of_le HQB.out HBL.out.size)).trans HQ1.out⟩
          have H3r : Hid (∀ w', Below wr.heap.size wr w' → Calls Tryz.prog 47 #[.agg #[.int .i64 r2.w, .slice A2 r2.rows.length c2]] w' fun e w'' => e = .returned (.int .i64 Z) ∧ Below w'.heap.size w' w'') := Lib.hid fun w' bb => by
            have K := HBL.out.trans (bb.mono HBL.out.size)
            exact H3.out _ (HH15.out.trans (K.mono HH15.out.size))
          clear q1 hb hbel
          have HX : Below wr.heap.size wr wr.drew := below_drew (Below.refl _ _)
          have f0 := (BBr.out _ HX).1
          have f1 := (BBr.out _ HX).2.1
          have f2 := (BBr.out _ HX).2.2
          go_region_held3 (fun w' => w'.cell? ⟨w12.heap.size, 0, none⟩ = some (.int .i64 r2.w) ∧ w'.cell? ⟨w12.heap.size, 1, none⟩ = some (.slice A2 r2.rows.length c2) ∧ w'.cell? ⟨b, off + j, none⟩ = some (.int .i64 a))
            (first | ((try dsimp only); refine ⟨?_, ?_, ?_⟩ <;> assumption) | go_keep)
            (first
            | (go_at_call 47; (with_reducible refine (H3r.out _ HX).mono ?_); rintro e wz ⟨rfl, bz⟩; replace HX := HX.trans (bz.mono HX.size); clear bz; have f0 := (BBr.out _ HX).1; have f1 := (BBr.out _ HX).2.1; have f2 := (BBr.out _ HX).2.2))
          all_goals
            have HX2 := Lib.hid HX
            clear f0 f1 f2 HX
            go_wp2
            go_roundw
            case rel => exact ⟨j + 1, by omega, by go_num, HBL.out.trans (HX2.out.mono HBL.out.size)⟩
            case measure => simp [intOf]; omega
        · have HB1 := Lib.hid (HW.out.trans ((HH15.out.trans (hbel.mono HH15.out.size)).mono HW.out.size))
          clear hbel HBL HH15 HW BB H3 HE HD
          go_wp2_with fail
          refine (drawIs_c wr (HBY.out _ HB1.out) hl).mono ?_
          rintro e w20 ⟨r3, v3, v4, t, rfl, hd3, ⟨s3, rfl, o3⟩, ht3, hi3, hl3, b20⟩
          obtain ⟨A3, c3, rfl, bx3, HS3⟩ := box_rd o3 b20
          have HT3 := Lib.hid (i_step ht3 bx3)
          have HW3 := Lib.hid ((HB1.out.trans (b20.mono HB1.out.size)).trans (bx3.mono (HB1.out.trans (b20.mono HB1.out.size)).size))
          clear ht3 bx3 b20 o3 hd3
          go_upto_region 22 with fail
          generalize w20.alloc (.cells #[.int .i64 r3.w, .slice A3 r3.rows.length c3] 29) = W3 at *
          obtain ⟨R, hR⟩ : ∃ R, R = isDiv r3 t := ⟨_, rfl⟩
          have BB3 : Hid (∀ w', Below W3.heap.size W3 w' → w'.cell? ⟨w20.heap.size, 0, none⟩ = some (.int .i64 r3.w) ∧ w'.cell? ⟨w20.heap.size, 1, none⟩ = some (.slice A3 r3.rows.length c3)) := Lib.hid fun w' b => by
            have K := HS3.step b
            have x0 := K.h0.cell 0
            have x1 := K.h0.cell 1
            simp at x0 x1
            exact ⟨x0, x1⟩
          have HRG3 : Hid (∀ w', Below W3.heap.size W3 w' → RegRd w' 0 w'.heap.size (.agg #[.int .i64 r3.w, .slice A3 r3.rows.length c3]) r3) := Lib.hid fun w' b => ⟨_, rfl, ((HS3.step b).g1.oi.sr).more (Nat.zero_le _) (Nat.le_refl _)⟩
          have H1 : Hid (∀ w', Below W3.heap.size W3 w' → Calls Tryz.prog 41 #[.agg #[.int .i64 r3.w, .slice A3 r3.rows.length c3], v4] w' fun e w'' => e = .returned (.bool R) ∧ Below w'.heap.size w' w'') := Lib.hid fun w' b => by rw [hR]; exact impl_isDivision_c w' (HRG3.out w' b) (i_step HT3.out b) hi3 hl3 (HTB.out w' (HW3.out.trans (b.mono HW3.out.size)))
          have H2 : Hid (∀ w', Below W3.heap.size W3 w' → Calls Tryz.prog 49 #[.agg #[.int .i64 r3.w, .slice A3 r3.rows.length c3], v4] w' fun e w'' => e = .returned (.bool R) ∧ Below w'.heap.size w' w'') := Lib.hid fun w' b => by rw [hR]; exact spec_isDivision_c w' (HRG3.out w' b) (i_step HT3.out b) hi3 hl3
          clear hR hi3 hl3 HRG3 HT3 HS3
          have HX : Below W3.heap.size W3 W3.drew := below_drew (Below.refl _ _)
          have f0 := (BB3.out _ HX).1
          have f1 := (BB3.out _ HX).2
          go_region_held3 (fun w' => w'.cell? ⟨w20.heap.size, 0, none⟩ = some (.int .i64 r3.w) ∧ w'.cell? ⟨w20.heap.size, 1, none⟩ = some (.slice A3 r3.rows.length c3))
            (first | ((try dsimp only); refine ⟨?_, ?_⟩ <;> assumption) | go_keep)
            (first
            | (go_at_call 41; (with_reducible refine (H1.out _ HX).mono ?_); rintro e wz ⟨rfl, bz⟩; replace HX := HX.trans (bz.mono HX.size); clear bz; have f0 := (BB3.out _ HX).1; have f1 := (BB3.out _ HX).2)
            | (go_at_call 49; (with_reducible refine (H2.out _ HX).mono ?_); rintro e wz ⟨rfl, bz⟩; replace HX := HX.trans (bz.mono HX.size); clear bz; have f0 := (BB3.out _ HX).1; have f1 := (BB3.out _ HX).2))
          all_goals
            have HX2 := Lib.hid (HW3.out.trans (HX.mono HW3.out.size))
            clear f0 f1 HX
            cases R
            all_goals
              go_wp2
              go_ret
              exact ⟨rfl, HX2.out⟩
  · go_enter Tryz.func6, Tryz.ntmps6
    go_wp2_with fail
    refine (big_yes w h (by omega)).mono ?_
    rintro e w' ⟨rfl, rfl⟩
    go_wp2
    go_ret
    exact ⟨rfl, Below.refl _ _⟩
end Go.Proofs.YtfmkmjebkmimkaaGreatDoor
