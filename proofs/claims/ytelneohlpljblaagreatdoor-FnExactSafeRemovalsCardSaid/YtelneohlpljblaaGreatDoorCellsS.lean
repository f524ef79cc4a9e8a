
/-
  The walk of the reference's 'CellsOf'.
-/
import Derived.Test.YtelneohlpljblaaGreatDoorCellsW
import Derived.Test.YtelneohlpljblaaGreatDoorSepX
namespace Go.Proofs.YtelneohlpljblaaGreatDoor
open Go.RowKit

set_option maxRecDepth 100000 in
set_option maxHeartbeats 1600000 in
theorem spec_cells_c {v : Value} {r : Reg} (w : World) (h : RegRd w 0 w.heap.size v r) (hn : r.rows.length ≤ 1048576) :
    Calls Tryz.prog 70 #[v] w fun en w' => ∃ v', en = .returned v' ∧ CellsIn w' w.heap.size w'.heap.size v' (if r.valid then r.cells else []) ∧ Below w.heap.size w w' := by
  obtain ⟨s, rfl, hs⟩ := h
  obtain ⟨A, c, rfl, hm, hr⟩ := id hs
  obtain ⟨i0, hi, hz0, hz1, hz2⟩ := info_parts infoCell
  have H := ((Sep.start w).box 31 #[.int .i64 r.w, .slice A r.rows.length c]).rowBox 60 #[] 2 0 rfl (by decide)
  simp only [World.size_alloc] at H
  obtain ⟨L, hL⟩ : ∃ L, L = if r.valid then r.cells else [] := ⟨_, rfl⟩
  rw [← hL]
  have HL := Lib.hid hL
  clear hr hL
  go_enter Tryz.func70, Tryz.ntmps70
  go_wp2
  generalize (w.alloc (.cells #[.int .i64 r.w, .slice A r.rows.length c] 31)).alloc (.cells #[] 60) = W at *
  go_loopw [3, 4] (fun o i wr => ∃ k : Nat, k ≤ r.rows.length ∧ i = .int .i64 k ∧ Hid (k ≠ 0 → r.valid = true) ∧ Sep w wr [Res.row o 60 2 (r.cellsTo k).length (cc (r.cellsTo k)), Res.box w.heap.size 31 #[.int .i64 r.w, .slice A r.rows.length c]]) (fun _ i _ => r.rows.length - (intOf i).toNat)
  case atStart => exact ⟨0, Nat.zero_le _, rfl, Lib.hid (fun h => absurd rfl h), H⟩
  case round =>
    clear H
    obtain ⟨k, hk, rfl, HK, H⟩ := hrel
    have c0 := H.h1.cell 0
    have c1 := H.h1.cell 1
    simp at c0 c1
    by_cases hlt : k < r.rows.length
    · go_wp2_with fail
      clear c0 c1
      refine (spec_IsRegion_c (r := r) wr ⟨_, rfl, (hs.keep (SameIn.of_below H.below (Nat.le_refl _))).more (Nat.le_refl _) H.size⟩).mono ?_
      rintro e w2 ⟨rfl, b2⟩
      have H2 := H.step b2
      clear b2 H
      cases hv : r.valid
      · have hk0 : k = 0 := by
          rcases Nat.eq_zero_or_pos k with h0 | h0
          · exact h0
          · have := HK.out (by omega); rw [hv] at this; cases this
        subst hk0
        have hl0 : L = r.cellsTo 0 := by rw [HL.out, hv]; rfl
        have HL0 := Lib.hid hl0
        clear hl0 hv
        go_wp2
        go_ret
        rw [HL0.out]
        exact ⟨_, rfl, CellsIn.mk H2.oi.1 rfl rfl, H2.below⟩
      · have hV := Reg.valid_iff.1 hv
        have hv1 := hV.1
        have hv2 := hV.2.1
        have hv4 := hV.2.2.2.1
        obtain ⟨wn, hwn⟩ : ∃ wn : Nat, r.w = (wn : Int) := ⟨r.w.toNat, by omega⟩
        have hwt : r.w.toNat = wn := by omega
        have HW := Lib.hid hwn
        have HWT := Lib.hid hwt
        have HV := Lib.hid hV
        have HVV := Lib.hid hv
        have hcl : (r.cellsTo k).length ≤ 36 := by
          refine Nat.le_trans Reg.cellsTo_le ?_
          rw [hwt]
          calc k * wn ≤ 6 * 6 := Nat.mul_le_mul (by omega) (by omega)
            _ = 36 := rfl
        have hw6 : wn ≤ 6 := by omega
        clear hV hv hwn hwt
        go_wp2
        obtain ⟨wo, hwo⟩ : ∃ wo : World, wo = w2 := ⟨_, rfl⟩
        subst hwo
        go_loopw [3, 5] (fun o i wr => ∃ j : Nat, j ≤ wn ∧ i = .int .i64 j ∧ Sep w wr [Res.row o 60 2 (r.cellsTo k ++ r.rowTo k j).length (cc (r.cellsTo k ++ r.rowTo k j)), Res.box w.heap.size 31 #[.int .i64 r.w, .slice A r.rows.length c]]) (fun _ i _ => wn - (intOf i).toNat)
        case atStart => exact ⟨0, Nat.zero_le _, rfl, by simpa [Reg.rowTo] using H2⟩
        case round =>
          clear H2
          obtain ⟨j, hj, rfl, H⟩ := hrel
          have c0 := H.h1.cell 0
          have c1 := H.h1.cell 1
          simp at c0 c1
          have hrl := Reg.rowTo_le (r := r) (y := k) (k := j)
          have hll : (r.cellsTo k ++ r.rowTo k j).length ≤ 50 := by rw [List.length_append]; omega
          by_cases hlj : j < wn
          · have hjw : (j : Int) < r.w := by rw [HW.out]; omega
            have hst := Reg.rowTo_succ (r := r) (y := k) (k := j)
            have HST := Lib.hid hst
            clear hst
            go_wp2_with fail
            clear c0 c1
            refine (spec_has_c (r := r) j k wr ⟨_, rfl, (hs.keep (SameIn.of_below H.below (Nat.le_refl _))).more (Nat.le_refl _) H.size⟩ HV.out).mono ?_
            rintro e w3 ⟨rfl, b3⟩
            have H3 := H.step b3
            clear b3 H
            cases hh : r.has j k
            · have hst := HST.out
              rw [hh] at hst
              simp only [Bool.false_eq_true, if_false, List.append_nil] at hst
              have HS := Lib.hid hst
              clear hst hh
              go_wp2
              go_roundw
              case rel => exact ⟨j + 1, by omega, by go_num, by rw [HS.out]; exact H3⟩
              case measure => simp [intOf]; omega
            · have hst := HST.out
              rw [hh, if_pos rfl] at hst
              have HS := Lib.hid hst
              clear hst hh
              go_wp2_with (at_builtin; refine wpList_app rfl _ _ 29 rfl 60 i0 _ 2 16 Tryz.underlying29 hi hz0 hz1 hz2 rfl (by decide) _ _ _ rfl (H3.alloc _) _ _ _ [.int .i64 (j : Int), .int .i64 (k : Int)] rfl (Rd.fresh w3 _ #[.int .i64 (j : Int), .int .i64 (k : Int)] 2 1 rfl) oc2 (by unfold maxLen; omega) (by omega) ?_; intro v' w4 H4)
              have H5 : Sep w w4 [Res.row v' 60 2 (r.cellsTo k ++ r.rowTo k (j + 1)).length (cc (r.cellsTo k ++ r.rowTo k (j + 1))), Res.box w.heap.size 31 #[.int .i64 r.w, .slice A r.rows.length c]] := by
                rw [HS.out, ← List.append_assoc, cc_append, List.length_append]; exact H4
              clear H4 H3
              go_wp2
              go_roundw
              case rel => exact ⟨j + 1, by omega, by go_num, H5⟩
              case measure => simp [intOf]; omega
          · obtain rfl : j = wn := by omega
            have hjw : ¬ (j : Int) < r.w := by rw [HW.out]; omega
            go_wp2
            go_roundw
            case rel => exact ⟨k + 1, by omega, by go_num, Lib.hid (fun _ => HVV.out), by rw [Reg.cellsTo_succ, HWT.out]; exact H⟩
            case measure => simp [intOf]; omega
    · obtain rfl : k = r.rows.length := by omega
      have hl0 : L = r.cellsTo r.rows.length := by
        rw [HL.out]
        cases hv : r.valid
        · have hz : r.rows.length = 0 := by
            rcases Nat.eq_zero_or_pos r.rows.length with h0 | h0
            · exact h0
            · have := HK.out (by omega); rw [hv] at this; cases this
          rw [hz]
          rfl
        · rfl
      have HL0 := Lib.hid hl0
      clear hl0
      go_wp2
      go_ret
      rw [HL0.out]
      exact ⟨_, rfl, CellsIn.mk H.oi.1 rfl rfl, H.below⟩
end Go.Proofs.YtelneohlpljblaaGreatDoor
