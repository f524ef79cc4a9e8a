
/-
  The walks over regions: the cells in order. The walk of the reference's 'CellsOf'.
-/
import Derived.Test.YtoccedebiacbiaaDoorRegX
import Derived.Test.YtoccedebiacbiaaDoorSepX
namespace Go.Proofs.YtoccedebiacbiaaDoor
open Go.RowKit

/-- the cells of row y, of its first k places -/
def Reg.rowTo (r : Reg) (y k : Nat) : List Cell := ((List.range k).filter fun x : Nat => r.has (x : Int) (y : Int)).map fun x : Nat => ⟨(x : Int), (y : Int)⟩
/-- the cells of the first k rows -/
def Reg.cellsTo (r : Reg) (k : Nat) : List Cell := (List.range k).flatMap fun y => r.rowTo y r.w.toNat
def Reg.cells (r : Reg) : List Cell := r.cellsTo r.rows.length
theorem Reg.rowTo_succ {r : Reg} {y k : Nat} : r.rowTo y (k + 1) = r.rowTo y k ++ if r.has k y = true then [⟨k, y⟩] else [] := by
  unfold Reg.rowTo
  rw [List.range_succ, List.filter_append, List.map_append]
  congr 1
  cases h : r.has k y <;> simp [h]
theorem Reg.cellsTo_succ {r : Reg} {k : Nat} : r.cellsTo (k + 1) = r.cellsTo k ++ r.rowTo k r.w.toNat := by
  unfold Reg.cellsTo
  rw [List.range_succ, List.flatMap_append]
  simp
theorem Reg.rowTo_le {r : Reg} {y k : Nat} : (r.rowTo y k).length ≤ k := by
  unfold Reg.rowTo
  rw [List.length_map]
  exact Nat.le_trans (List.length_filter_le _ _) (by simp)
theorem Reg.cellsTo_le {r : Reg} {k : Nat} : (r.cellsTo k).length ≤ k * r.w.toNat := by
  induction k with
  | zero => simp [Reg.cellsTo]
  | succ k ih => rw [Reg.cellsTo_succ, List.length_append, Nat.add_mul]; have := Reg.rowTo_le (r := r) (y := k) (k := r.w.toNat); omega
theorem Reg.cells_le {r : Reg} (h : r.Valid) : r.cells.length ≤ 36 := by
  have h1 := Reg.cellsTo_le (r := r) (k := r.rows.length)
  have h2 : r.rows.length * r.w.toNat ≤ 6 * 6 := Nat.mul_le_mul h.2.2.2.1 (by have := h.2.1; omega)
  unfold Reg.cells
  omega
theorem Reg.cells_mem {r : Reg} {c : Cell} : c ∈ r.cells ↔ r.has c.x c.y = true := by
  unfold Reg.cells Reg.cellsTo Reg.rowTo
  simp only [List.mem_flatMap, List.mem_range, List.mem_map, List.mem_filter]
  constructor
  · rintro ⟨y, hy, x, ⟨hx, hh⟩, rfl⟩
    exact hh
  · intro h
    have hin : 0 ≤ c.x ∧ c.x < r.w ∧ 0 ≤ c.y ∧ c.y < r.rows.length := by
      have := h
      simp only [Reg.has, Bool.and_eq_true, decide_eq_true_eq] at this
      exact this.1
    refine ⟨c.y.toNat, by omega, c.x.toNat, ⟨by omega, ?_⟩, ?_⟩
    · rw [Int.toNat_of_nonneg hin.1, Int.toNat_of_nonneg hin.2.2.1]; exact h
    · rw [Int.toNat_of_nonneg hin.1, Int.toNat_of_nonneg hin.2.2.1]

set_option maxRecDepth 100000 in
theorem infoCell : (Tryd.prog.info? 52).map (fun i => (i.zero, i.size, i.bytes)) = some (some (.agg #[.int .i64 0, .int .i64 0]), 2, 16) := by kernel_rfl

set_option maxRecDepth 100000 in
set_option maxHeartbeats 1600000 in
theorem impl_cells_c {v : Value} {r : Reg} (w : World) (h : RegRd w 0 w.heap.size v r) (hv : r.Valid) :
    Calls Tryd.prog 50 #[v] w fun en w' => ∃ v', en = .returned v' ∧ CellsIn w' w.heap.size w'.heap.size v' r.cells ∧ Below w.heap.size w w' := by
  obtain ⟨s, rfl, hs⟩ := h
  obtain ⟨A, c, rfl, hm, hr⟩ := id hs
  obtain ⟨i0, hi, hz0, hz1, hz2⟩ := info_parts infoCell
  have hv2 := hv.2.1
  have hv4 := hv.2.2.2.1
  obtain ⟨wn, hwn⟩ : ∃ wn : Nat, r.w = (wn : Int) := ⟨r.w.toNat, by have := hv.1; omega⟩
  have hwn2 : r.w.toNat = wn := by omega
  have hw6 : wn ≤ 6 := by omega
  have HV := Lib.hid hv
  have HW := Lib.hid hwn2
  have HN := Lib.hid hwn
  have hbel : Below w.heap.size w (w.alloc (.cells #[.int .i64 r.w, .slice A r.rows.length c] 27)) := (Below.refl _ _).alloc (Nat.le_refl _) _
  have BX : Blk (w.alloc (.cells #[.int .i64 r.w, .slice A r.rows.length c] 27)) w.heap.size 27 #[.int .i64 r.w, .slice A r.rows.length c] := Blk.new _ _ _
  have HZ : w.heap.size + 1 ≤ (w.alloc (.cells #[.int .i64 r.w, .slice A r.rows.length c] 27)).heap.size := by simp
  rw [hwn] at BX hbel HZ ⊢
  clear hv hwn hwn2
  go_enter Tryd.func50, Tryd.ntmps50
  go_wp2
  generalize w.alloc (.cells #[.int .i64 (wn : Int), .slice A r.rows.length c] 27) = W at *
  go_loopw [3, 9] (fun o i wr => ∃ k : Nat, k ≤ r.rows.length ∧ i = .int .i64 k ∧ wr.ownsRow (w.heap.size + 1) 52 2 o (r.cellsTo k).length (cc (r.cellsTo k)) ∧ Below (w.heap.size + 1) W wr) (fun _ i _ => r.rows.length - (intOf i).toNat)
  case atStart => exact ⟨0, Nat.zero_le _, rfl, World.ownsRow_nil _ _ _ _, Below.refl _ _⟩
  case round =>
    obtain ⟨k, hk, rfl, hown, hbr⟩ := hrel
    obtain ⟨wo, rfl⟩ : ∃ wo : World, wo = wr := ⟨_, rfl⟩
    have hsz := hbr.size
    by_cases hlt : k < r.rows.length
    · have BXr := BX.below hbr (by omega)
      have c0 := BXr.cell 0
      have c1 := BXr.cell 1
      simp at c0 c1
      have hcl := Reg.cellsTo_le (r := r) (k := k)
      rw [HW.out] at hcl
      have hcl2 : k * wn ≤ 5 * 6 := Nat.mul_le_mul (by omega) hw6
      clear BXr
      go_wp2
      clear c0 c1
      go_loopw [3, 14] (fun o i wr => ∃ j : Nat, j ≤ wn ∧ i = .int .i64 j ∧ wr.ownsRow (w.heap.size + 1) 52 2 o (r.cellsTo k ++ r.rowTo k j).length (cc (r.cellsTo k ++ r.rowTo k j)) ∧ Below (w.heap.size + 1) W wr) (fun _ i _ => wn - (intOf i).toNat)
      case atStart => exact ⟨0, Nat.zero_le _, rfl, by simpa [Reg.rowTo] using hown, hbr⟩
      case round =>
        obtain ⟨j, hj, rfl, hown1, hbr1⟩ := hrel
        have hsz1 := hbr1.size
        by_cases hlj : j < wn
        · have BXr := BX.below hbr1 (by omega)
          have c0 := BXr.cell 0
          have c1 := BXr.cell 1
          simp at c0 c1
          have hrl := Reg.rowTo_le (r := r) (y := k) (k := j)
          have hll : (r.cellsTo k ++ r.rowTo k j).length ≤ 36 := by rw [List.length_append]; omega
          have hbw := hbel.trans (hbr1.mono (by omega))
          have hst := Reg.rowTo_succ (r := r) (y := k) (k := j)
          clear BXr hown
          go_wp2_with fail
          refine (impl_has_c (r := r) _ _ _ ⟨_, by rw [HN.out], ((hs.keep (SameIn.of_below hbw (Nat.le_refl _))).more (Nat.le_refl _) hbw.size)⟩ HV.out).mono ?_
          rintro en w2 ⟨rfl, hb2⟩
          have hbr2 := hbr1.trans (hb2.mono (by omega))
          have hown2 := own_below hown1 hb2 (Nat.le_refl _)
          have hsz2 := hbr2.size
          clear c0 c1 hown1
          cases hq : r.has (j : Int) (k : Int)
          · rw [hq] at hst
            simp only [Bool.false_eq_true, if_false, List.append_nil] at hst
            have HS := Lib.hid hst
            clear hst hq
            go_wp2
            go_roundw
            case rel => exact ⟨j + 1, by omega, by go_num, by rw [HS.out]; exact hown2, hbr2⟩
            case measure => simp [intOf]; omega
          · rw [hq, if_pos rfl] at hst
            have HS := Lib.hid hst
            clear hst hq
            go_wp2_with (at_builtin; refine wpList_append_own _ rfl _ _ 49 rfl (w.heap.size + 1) 52 i0 _ 2 16 Tryd.underlying49 hi hz0 hz1 hz2 rfl (by decide) _ _ _ rfl (hown2.alloc _) ⟨w2.heap.size, 0, none⟩ 1 1 [.int .i64 (j : Int), .int .i64 (k : Int)] rfl rfl (news_alloc w2 #[.int .i64 (j : Int), .int .i64 (k : Int)] _) (by intro u hu; simp at hu; rcases hu with rfl | rfl <;> rfl) (by unfold maxLen; omega) (by omega) (by simp; omega) ?_; intro v' w3 hown3 hgrow _)
            have hbr3 : Below (w.heap.size + 1) W w3 := (hbr2.alloc (by omega) _).grown hgrow (by simp; omega) (own_ge hown2)
            have hown4 : w3.ownsRow (w.heap.size + 1) 52 2 v' (r.cellsTo k ++ r.rowTo k (j + 1)).length (cc (r.cellsTo k ++ r.rowTo k (j + 1))) := by
              rw [HS.out, ← List.append_assoc, cc_append, List.length_append]
              exact hown3
            clear hown3 hgrow hown2
            go_wp2
            go_roundw
            case rel => exact ⟨j + 1, by omega, by go_num, hown4, hbr3⟩
            case measure => simp [intOf]; omega
        · have hjw : j = wn := by omega
          subst hjw
          have hown2 : wr.ownsRow (w.heap.size + 1) 52 2 u3 (r.cellsTo (k + 1)).length (cc (r.cellsTo (k + 1))) := by
            rw [Reg.cellsTo_succ, HW.out]
            exact hown1
          clear hown1 hown
          go_wp2
          go_roundw
          case rel => exact ⟨k + 1, by omega, by go_num, hown2, hbr1⟩
          case measure => simp [intOf]; omega
    · go_wp2
      go_ret
      have hkn : k = r.rows.length := by omega
      subst hkn
      exact ⟨_, rfl, CellsIn.mk (own_base hown (by omega)) rfl rfl, hbel.trans (hbr.mono (by omega))⟩
end Go.Proofs.YtoccedebiacbiaaDoor

namespace Go.Proofs.YtoccedebiacbiaaDoor
open Go.RowKit

set_option maxRecDepth 100000 in
set_option maxHeartbeats 1600000 in
theorem spec_cells_c {v : Value} {r : Reg} (w : World) (h : RegRd w 0 w.heap.size v r) (hn : r.rows.length ≤ 1048576) :
    Calls Tryd.prog 37 #[v] w fun en w' => ∃ v', en = .returned v' ∧ CellsIn w' w.heap.size w'.heap.size v' (if r.valid then r.cells else []) ∧ Below w.heap.size w w' := by
  obtain ⟨s, rfl, hs⟩ := h
  obtain ⟨A, c, rfl, hm, hr⟩ := id hs
  obtain ⟨i0, hi, hz0, hz1, hz2⟩ := info_parts infoCell
  have H := ((Sep.start w).box 27 #[.int .i64 r.w, .slice A r.rows.length c]).rowBox 52 #[] 2 0 rfl (by decide)
  simp only [World.size_alloc] at H
  obtain ⟨L, hL⟩ : ∃ L, L = if r.valid then r.cells else [] := ⟨_, rfl⟩
  rw [← hL]
  have HL := Lib.hid hL
  clear hr hL
  go_enter Tryd.func37, Tryd.ntmps37
  go_wp2
  generalize (w.alloc (.cells #[.int .i64 r.w, .slice A r.rows.length c] 27)).alloc (.cells #[] 52) = W at *
  go_loopw [3, 4] (fun o i wr => ∃ k : Nat, k ≤ r.rows.length ∧ i = .int .i64 k ∧ Hid (k ≠ 0 → r.valid = true) ∧ Sep w wr [Res.row o 52 2 (r.cellsTo k).length (cc (r.cellsTo k)), Res.box w.heap.size 27 #[.int .i64 r.w, .slice A r.rows.length c]]) (fun _ i _ => r.rows.length - (intOf i).toNat)
  case atStart => exact ⟨0, Nat.zero_le _, rfl, Lib.hid (fun h => absurd rfl h), H⟩
  case round =>
    clear H
    obtain ⟨k, hk, rfl, HK, H⟩ := hrel
    have c0 := H.h1.cell 0
    have c1 := H.h1.cell 1
    simp at c0 c1
    by_cases hlt : k < r.rows.length
    · go_wp2_with fail
      clear c0 c1
      refine (spec_IsRegion_c (r := r) wr ⟨_, rfl, (hs.keep (SameIn.of_below H.below (Nat.le_refl _))).more (Nat.le_refl _) H.size⟩).mono ?_
      rintro e w2 ⟨rfl, b2⟩
      have H2 := H.step b2
      clear b2 H
      cases hv : r.valid
      · have hk0 : k = 0 := by
          rcases Nat.eq_zero_or_pos k with h0 | h0
          · exact h0
          · have := HK.out (by omega); rw [hv] at this; cases this
        subst hk0
        have hl0 : L = r.cellsTo 0 := by rw [HL.out, hv]; rfl
        have HL0 := Lib.hid hl0
        clear hl0 hv
        go_wp2
        go_ret
        rw [HL0.out]
        exact ⟨_, rfl, CellsIn.mk H2.oi.1 rfl rfl, H2.below⟩
      · have hV := Reg.valid_iff.1 hv
        have hv1 := hV.1
        have hv2 := hV.2.1
        have hv4 := hV.2.2.2.1
        obtain ⟨wn, hwn⟩ : ∃ wn : Nat, r.w = (wn : Int) := ⟨r.w.toNat, by omega⟩
        have hwt : r.w.toNat = wn := by omega
        have HW := Lib.hid hwn
        have HWT := Lib.hid hwt
        have HV := Lib.hid hV
        have HVV := Lib.hid hv
        have hcl : (r.cellsTo k).length ≤ 36 := by
          refine Nat.le_trans Reg.cellsTo_le ?_
          rw [hwt]
          calc k * wn ≤ 6 * 6 := Nat.mul_le_mul (by omega) (by omega)
            _ = 36 := rfl
        have hw6 : wn ≤ 6 := by omega
        clear hV hv hwn hwt
        go_wp2
        obtain ⟨wo, hwo⟩ : ∃ wo : World, wo = w2 := ⟨_, rfl⟩
        subst hwo
        go_loopw [3, 5] (fun o i wr => ∃ j : Nat, j ≤ wn ∧ i = .int .i64 j ∧ Sep w wr [Res.row o 52 2 (r.cellsTo k ++ r.rowTo k j).length (cc (r.cellsTo k ++ r.rowTo k j)), Res.box w.heap.size 27 #[.int .i64 r.w, .slice A r.rows.length c]]) (fun _ i _ => wn - (intOf i).toNat)
        case atStart => exact ⟨0, Nat.zero_le _, rfl, by simpa [Reg.rowTo] using H2⟩
        case round =>
          clear H2
          obtain ⟨j, hj, rfl, H⟩ := hrel
          have c0 := H.h1.cell 0
          have c1 := H.h1.cell 1
          simp at c0 c1
          have hrl := Reg.rowTo_le (r := r) (y := k) (k := j)
          have hll : (r.cellsTo k ++ r.rowTo k j).length ≤ 50 := by rw [List.length_append]; omega
          by_cases hlj : j < wn
          · have hjw : (j : Int) < r.w := by rw [HW.out]; omega
            have hst := Reg.rowTo_succ (r := r) (y := k) (k := j)
            have HST := Lib.hid hst
            clear hst
            go_wp2_with fail
            clear c0 c1
            refine (spec_has_c (r := r) j k wr ⟨_, rfl, (hs.keep (SameIn.of_below H.below (Nat.le_refl _))).more (Nat.le_refl _) H.size⟩ HV.out).mono ?_
            rintro e w3 ⟨rfl, b3⟩
            have H3 := H.step b3
            clear b3 H
            cases hh : r.has j k
            · have hst := HST.out
              rw [hh] at hst
              simp only [Bool.false_eq_true, if_false, List.append_nil] at hst
              have HS := Lib.hid hst
              clear hst hh
              go_wp2
              go_roundw
              case rel => exact ⟨j + 1, by omega, by go_num, by rw [HS.out]; exact H3⟩
              case measure => simp [intOf]; omega
            · have hst := HST.out
              rw [hh, if_pos rfl] at hst
              have HS := Lib.hid hst
              clear hst hh
              go_wp2_with (at_builtin; refine wpList_app rfl _ _ 49 rfl 52 i0 _ 2 16 Tryd.underlying49 hi hz0 hz1 hz2 rfl (by decide) _ _ _ rfl (H3.alloc _) _ _ _ [.int .i64 (j : Int), .int .i64 (k : Int)] rfl (Rd.fresh w3 _ #[.int .i64 (j : Int), .int .i64 (k : Int)] 2 1 rfl) oc2 (by unfold maxLen; omega) (by omega) ?_; intro v' w4 H4)
              have H5 : Sep w w4 [Res.row v' 52 2 (r.cellsTo k ++ r.rowTo k (j + 1)).length (cc (r.cellsTo k ++ r.rowTo k (j + 1))), Res.box w.heap.size 27 #[.int .i64 r.w, .slice A r.rows.length c]] := by
                rw [HS.out, ← List.append_assoc, cc_append, List.length_append]; exact H4
              clear H4 H3
              go_wp2
              go_roundw
              case rel => exact ⟨j + 1, by omega, by go_num, H5⟩
              case measure => simp [intOf]; omega
          · obtain rfl : j = wn := by omega
            have hjw : ¬ (j : Int) < r.w := by rw [HW.out]; omega
            go_wp2
            go_roundw
            case rel => exact ⟨k + 1, by omega, by go_num, Lib.hid (fun _ => HVV.out), by rw [Reg.cellsTo_succ, HWT.out]; exact H⟩
            case measure => simp [intOf]; omega
    · obtain rfl : k = r.rows.length := by omega
      have hl0 : L = r.cellsTo r.rows.length := by
        rw [HL.out]
        cases hv : r.valid
        · have hz : r.rows.length = 0 := by
            rcases Nat.eq_zero_or_pos r.rows.length with h0 | h0
            · exact h0
            · have := HK.out (by omega); rw [hv] at this; cases this
          rw [hz]
          rfl
        · rfl
      have HL0 := Lib.hid hl0
      clear hl0
      go_wp2
      go_ret
      rw [HL0.out]
      exact ⟨_, rfl, CellsIn.mk H.oi.1 rfl rfl, H.below⟩
end Go.Proofs.YtoccedebiacbiaaDoor
