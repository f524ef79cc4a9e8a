
/-
  ColorCount of a valid region by two colors: both walks.
-/
import Derived.Test.YtoccedebiacbiaaDoorCellX
import Derived.Test.YtoccedebiacbiaaDoorCwWalks
import Derived.Test.YtoccedebiacbiaaDoorPutX
import Derived.Deep.DeepCutAuto
import Derived.Laws.MakeOwn
namespace Go.Proofs.YtoccedebiacbiaaDoor
open Go.RowKit

/-- how many cells have the color q -/
def colN (C : List Cell) (q : Int) : Nat := C.countP fun c => decide ((c.x + c.y).tmod 2 = q)
/-- the cells of both colors -/
def colL (r : Reg) : List Int := [(colN r.cells 0 : Int), (colN r.cells 1 : Int)]
theorem colN_le {C : List Cell} {q : Int} : colN C q ≤ C.length := List.countP_le_length
theorem col_take {C : List Cell} {i : Nat} {d : Cell} {q : Int} (h : C[i]? = some d) : colN (C.take (i + 1)) q = colN (C.take i) q + if (d.x + d.y).tmod 2 = q then 1 else 0 := by
  unfold colN
  rw [List.take_add_one, h, List.countP_append]
  simp
set_option maxRecDepth 100000 in
theorem impl_cells_cV {v : Value} {r : Reg} (w : World) (h : RegRd w 0 w.heap.size v r) (hv : r.Valid) :
    Calls Tryd.prog 50 #[v] w fun en w' => ∃ v', en = .returned v' ∧ CellsIn w' w.heap.size w'.heap.size v' r.cells ∧ Below w.heap.size w w' := impl_cells_c w h hv
set_option maxRecDepth 100000 in
theorem spec_cells_cV {v : Value} {r : Reg} (w : World) (h : RegRd w 0 w.heap.size v r) (hv : r.Valid) :
    Calls Tryd.prog 37 #[v] w fun en w' => ∃ v', en = .returned v' ∧ CellsIn w' w.heap.size w'.heap.size v' r.cells ∧ Below w.heap.size w w' := by
  have := spec_cells_c w h (by have := hv.2.2.2.1; omega)
  rwa [if_pos (Reg.valid_iff.2 hv)] at this
set_option maxRecDepth 100000 in
theorem infoIntL : (Tryd.prog.info? 3).map (fun i => (i.zero, i.size, i.bytes)) = some (some (.int .i64 0), 1, 8) := by kernel_rfl
theorem col_cell {r : Reg} (hv : r.Valid) {d : Cell} {i : Nat} (h : r.cells[i]? = some d) : 0 ≤ d.x ∧ d.x ≤ 5 ∧ 0 ≤ d.y ∧ d.y ≤ 5 := by
  have hm := Reg.cells_mem.1 (List.mem_of_getElem? h)
  simp only [Reg.has, Bool.and_eq_true, decide_eq_true_eq] at hm
  obtain ⟨⟨h1, h2, h3, h4⟩, _⟩ := hm
  have := hv.2.1
  have := hv.2.2.2.1
  omega
set_option maxRecDepth 100000 in
set_option maxHeartbeats 3200000 in
theorem impl_col_c {v : Value} {r : Reg} (w : World) (h : RegRd w 0 w.heap.size v r) (hv : r.Valid) :
    Calls Tryd.prog 28 #[v, .int .i64 2] w fun e w' => ∃ v', e = .returned v' ∧ IntsIn w' w.heap.size w'.heap.size v' (colL r) ∧ Below w.heap.size w w' := by
  obtain ⟨j0, hj, hy0, hy1, hy2⟩ := info_parts infoIntL
  have HRD : Hid (∀ w1, Below w.heap.size w w1 → RegRd w1 0 w1.heap.size v r) := Lib.hid fun w1 b1 => (h.keep (SameIn.of_below b1 (Nat.le_refl _))).more (Nat.le_refl _) b1.size
  have HV := Lib.hid hv
  obtain ⟨s, rfl, hs⟩ := h
  obtain ⟨A, c, rfl, _, _⟩ := hs
  have H0 := (Sep.start w).box 27 #[.int .i64 r.w, .slice A r.rows.length c]
  obtain ⟨g, hg⟩ : ∃ g, g = w.heap.size := ⟨_, rfl⟩
  rw [← hg] at H0
  clear hv
  go_enter Tryd.func28, Tryd.ntmps28
  go_upto_region 1 with fail
  rw [← hg]
  generalize (w.alloc (.cells #[.int .i64 r.w, .slice A r.rows.length c] 27)) = W at *
  clear hg
  have c0 : W.cell? ⟨g, 0, none⟩ = some (.int .i64 r.w) := H0.h0.cell 0
  have c1 : W.cell? ⟨g, 1, none⟩ = some (.slice A r.rows.length c) := H0.h0.cell 1
  have HP := Lib.hid (impl_IsRegion_c W (HRD.out W H0.below))
  rw [Reg.valid_iff.2 HV.out] at HP
  go_wp2_with fail
  refine (HP.out).mono ?_
  rintro e w1 ⟨rfl, b1⟩
  have H1 := H0.step b1
  clear c0 c1 H0 HP b1
  have HBT := Lib.hid (between_any 2 1 6 w1)
  go_wp2_with fail
  refine (HBT.out).mono ?_
  rintro e w2 ⟨rfl, rfl⟩
  have hmk := fun W => run_make_rowN (P := Tryd.prog) 22 3 j0 _ Tryd.underlying22 hj hy0 .i64 .i64 2 2 (Nat.le_refl _) (by rw [hy2]; omega) (by omega) W
  rw [hy1] at hmk
  simp at hmk
  have em : madeCells #[.int .i64 0] 2 = (ic [(0 : Int), 0]).toArray := by apply Array.ext'; rw [toList_madeCells_one]; rfl
  have H2 : Sep w (w1.alloc (.cells (ic [(0 : Int), 0]).toArray 3)) _ := H1.rowBox 3 (ic [(0 : Int), 0]).toArray 1 2 rfl (by decide)
  go_upto_region 4 with fail
  obtain ⟨go, hgo⟩ : ∃ k, k = w1.heap.size := ⟨_, rfl⟩
  rw [← hgo] at H2 ⊢
  generalize w1.alloc (.cells (ic [(0 : Int), 0]).toArray 3) = W2 at *
  clear hgo em hmk H1
  have c0 : W2.cell? ⟨g, 0, none⟩ = some (.int .i64 r.w) := H2.h1.cell 0
  have c1 : W2.cell? ⟨g, 1, none⟩ = some (.slice A r.rows.length c) := H2.h1.cell 1
  have HCE := Lib.hid (impl_cells_cV W2 (HRD.out W2 H2.below) HV.out)
  go_wp2_with fail
  refine (HCE.out).mono ?_
  rintro e w4 ⟨vC, rfl, oC, b4⟩
  obtain ⟨C, hC⟩ : ∃ C, C = r.cells := ⟨_, rfl⟩
  have HC := Lib.hid hC
  have H3 := (H2.oiNew b4 oC).g1
  rw [← hC] at H3
  obtain ⟨n, hn⟩ : ∃ n, n = C.length := ⟨_, rfl⟩
  have HCN := Lib.hid hn
  rw [← hn] at H3
  obtain ⟨AC, cC, hvC, hnc, _, _⟩ := Res.row_at H3.h1
  subst hvC
  have hn36 : n ≤ 36 := by rw [hn, hC]; exact Reg.cells_le HV.out
  clear c0 c1 H2 HCE b4 oC hC hn
  go_wp2
  go_loopw [21] (fun iv wx => ∃ i : Nat, i ≤ n ∧ iv = .int .i64 i ∧ Sep w wx [Res.row (.slice (some ⟨go, 0, none⟩) 2 2) 3 1 2 (ic [(colN (C.take i) 0 : Int), (colN (C.take i) 1 : Int)]), Res.row (.slice AC n cC) 52 2 n (cc C), Res.box g 27 #[.int .i64 r.w, .slice A r.rows.length c]]) (fun iv _ => n - (intOf iv).toNat)
  case atStart => exact ⟨0, Nat.zero_le _, rfl, H3⟩
  case round =>
    clear H3
    obtain ⟨i, hi, rfl, H⟩ := hrel
    by_cases hlt : i < n
    · have hlti : (i : Int) < (n : Int) := by omega
      obtain ⟨d, hd⟩ : ∃ d, C[i]? = some d := ⟨C[i]'(by rw [← HCN.out]; exact hlt), List.getElem?_eq_getElem _⟩
      obtain ⟨gC, oC, cC', hs1, _, _, _⟩ := own_shape H.h1 (by omega)
      injection hs1 with hs2 hs3 hs4
      subst hs2 hs4
      obtain ⟨rfl, _⟩ := own_blk H.h1
      obtain ⟨q1, q2⟩ := own_cell2 H.h1 hd
      simp only [Nat.zero_add] at q1 q2
      obtain ⟨d1, d2, d3, d4⟩ := col_cell HV.out (show r.cells[i]? = some d by rw [← HC.out]; exact hd)
      have HT0 := Lib.hid (col_take (q := 0) hd)
      have HT1 := Lib.hid (col_take (q := 1) hd)
      have HLE0 : colN (C.take i) 0 ≤ 36 := Nat.le_trans colN_le (by rw [List.length_take]; omega)
      have HLE1 : colN (C.take i) 1 ≤ 36 := Nat.le_trans colN_le (by rw [List.length_take]; omega)
      obtain ⟨a, ha⟩ : ∃ a, a = colN (C.take i) 0 := ⟨_, rfl⟩
      obtain ⟨b, hb⟩ : ∃ a, a = colN (C.take i) 1 := ⟨_, rfl⟩
      rw [← ha] at HT0 HLE0 H
      rw [← hb] at HT1 HLE1 H
      obtain ⟨dx, dy⟩ := d
      have w1 : wrap64 (dx + dy) = dx + dy := IntWalk.wrap64_in _ (by simp only at d1 d2 d3 d4; omega)
      have w2 : IntKind.i64.wrap (dx + dy) = dx + dy := IntWalk.i64_in _ (by simp only at d1 d2 d3 d4; omega)
      obtain ⟨q, hq⟩ : ∃ q, q = (dx + dy).tmod 2 := ⟨_, rfl⟩
      have hq01 : q = 0 ∨ q = 1 := by
        rw [hq, Int.tmod_eq_emod_of_nonneg (by simp only at d1 d3; omega)]
        omega
      have w3 : (dx + dy).tmod 2 = q := hq.symm
      simp only at HT0 HT1 q1 q2
      rw [w3] at HT0 HT1
      have W1 := Lib.hid w1
      have W2 := Lib.hid w2
      have W3 := Lib.hid w3
      clear hd ha hb hq w1 w2 w3 d1 d2 d3 d4
      rcases hq01 with rfl | rfl
      · have HA : Hid (colN (C.take (i + 1)) 0 = a + 1 ∧ colN (C.take (i + 1)) 1 = b) := Lib.hid ⟨by rw [HT0.out, if_pos rfl], by rw [HT1.out, if_neg (by decide), Nat.add_zero]⟩
        clear HT0 HT1
        have H1 := H.box 52 #[.int .i64 dx, .int .i64 dy]
        clear H
        go_upto_region 7 with fail
        obtain ⟨gc, hgc⟩ : ∃ k, k = wr.heap.size := ⟨_, rfl⟩
        rw [← hgc] at H1 ⊢
        generalize wr.alloc (.cells #[.int .i64 dx, .int .i64 dy] 52) = W4 at *
        clear hgc q1 q2
        have k0 : W4.cell? ⟨gc, 0, none⟩ = some (.int .i64 dx) := H1.h0.cell 0
        have k1 : W4.cell? ⟨gc, 1, none⟩ = some (.int .i64 dy) := H1.h0.cell 1
        have H2 := H1.drop
        have k2 := own_cell1 H2.h0 (show ([(a : Int), (b : Int)] : List Int)[0]? = some (a : Int) from rfl)
        have k3 := own_free H2.h0 0
        simp only [Nat.zero_add] at k2 k3
        have w1 := W1.out
        have w2 := W2.out
        have w3 := W3.out
        have H3 := H2.setRow (j := 0) (by simp [ic]) (.int .i64 ((a + 1 : Nat) : Int))
        clear H1 H2
        go_wp2
        clear k0 k1 k2 k3 w1 w2 w3
        go_roundw
        case rel => exact ⟨i + 1, by omega, by go_num, by rw [HA.out.1, HA.out.2]; exact H3⟩
        case measure => simp [intOf]; omega
      · have HA : Hid (colN (C.take (i + 1)) 0 = a ∧ colN (C.take (i + 1)) 1 = b + 1) := Lib.hid ⟨by rw [HT0.out, if_neg (by decide), Nat.add_zero], by rw [HT1.out, if_pos rfl]⟩
        clear HT0 HT1
        have H1 := H.box 52 #[.int .i64 dx, .int .i64 dy]
        clear H
        go_upto_region 7 with fail
        obtain ⟨gc, hgc⟩ : ∃ k, k = wr.heap.size := ⟨_, rfl⟩
        rw [← hgc] at H1 ⊢
        generalize wr.alloc (.cells #[.int .i64 dx, .int .i64 dy] 52) = W4 at *
        clear hgc q1 q2
        have k0 : W4.cell? ⟨gc, 0, none⟩ = some (.int .i64 dx) := H1.h0.cell 0
        have k1 : W4.cell? ⟨gc, 1, none⟩ = some (.int .i64 dy) := H1.h0.cell 1
        have H2 := H1.drop
        have k2 := own_cell1 H2.h0 (show ([(a : Int), (b : Int)] : List Int)[1]? = some (b : Int) from rfl)
        have k3 := own_free H2.h0 1
        simp only [Nat.zero_add] at k2 k3
        have w1 := W1.out
        have w2 := W2.out
        have w3 := W3.out
        have H3 := H2.setRow (j := 1) (by simp [ic]) (.int .i64 ((b + 1 : Nat) : Int))
        clear H1 H2
        go_wp2
        clear k0 k1 k2 k3 w1 w2 w3
        go_roundw
        case rel => exact ⟨i + 1, by omega, by go_num, by rw [HA.out.1, HA.out.2]; exact H3⟩
        case measure => simp [intOf]; omega
    · obtain rfl : i = n := by omega
      have hT : C.take i = C := by rw [HCN.out, List.take_length]
      rw [hT, HC.out] at H
      have HO := Lib.hid H.oi
      have hb := H.below
      clear H hT
      go_wp2
      go_ret
      exact ⟨_, rfl, HO.out, hb⟩
set_option maxRecDepth 100000 in
set_option maxHeartbeats 3200000 in
theorem spec_col_c {v : Value} {r : Reg} (w : World) (h : RegRd w 0 w.heap.size v r) (hv : r.Valid) :
    Calls Tryd.prog 16 #[v, .int .i64 2] w fun e w' => ∃ v', e = .returned v' ∧ IntsIn w' w.heap.size w'.heap.size v' (colL r) ∧ Below w.heap.size w w' := by
  obtain ⟨j0, hj, hy0, hy1, hy2⟩ := info_parts infoIntL
  have HRD : Hid (∀ w1, Below w.heap.size w w1 → RegRd w1 0 w1.heap.size v r) := Lib.hid fun w1 b1 => (h.keep (SameIn.of_below b1 (Nat.le_refl _))).more (Nat.le_refl _) b1.size
  have HV := Lib.hid hv
  obtain ⟨s, rfl, hs⟩ := h
  obtain ⟨A, c, rfl, _, _⟩ := hs
  have H0 := (Sep.start w).box 27 #[.int .i64 r.w, .slice A r.rows.length c]
  obtain ⟨g, hg⟩ : ∃ g, g = w.heap.size := ⟨_, rfl⟩
  rw [← hg] at H0
  clear hv
  go_enter Tryd.func16, Tryd.ntmps16
  go_upto_region 1 with fail
  rw [← hg]
  generalize (w.alloc (.cells #[.int .i64 r.w, .slice A r.rows.length c] 27)) = W at *
  clear hg
  have c0 : W.cell? ⟨g, 0, none⟩ = some (.int .i64 r.w) := H0.h0.cell 0
  have c1 : W.cell? ⟨g, 1, none⟩ = some (.slice A r.rows.length c) := H0.h0.cell 1
  have HP := Lib.hid (spec_IsRegion_c W (HRD.out W H0.below))
  rw [Reg.valid_iff.2 HV.out] at HP
  go_wp2_with fail
  refine (HP.out).mono ?_
  rintro e w1 ⟨rfl, b1⟩
  have H1 := H0.step b1
  clear c0 c1 H0 HP b1
  have HBT := Lib.hid (l1In_any 2 1 6 w1)
  go_wp2_with fail
  refine (HBT.out).mono ?_
  rintro e w2 ⟨rfl, rfl⟩
  have hmk := fun W => run_make_rowN (P := Tryd.prog) 22 3 j0 _ Tryd.underlying22 hj hy0 .i64 .i64 2 2 (Nat.le_refl _) (by rw [hy2]; omega) (by omega) W
  rw [hy1] at hmk
  simp at hmk
  have em : madeCells #[.int .i64 0] 2 = (ic [(0 : Int), 0]).toArray := by apply Array.ext'; rw [toList_madeCells_one]; rfl
  have H2 : Sep w (w1.alloc (.cells (ic [(0 : Int), 0]).toArray 3)) _ := H1.rowBox 3 (ic [(0 : Int), 0]).toArray 1 2 rfl (by decide)
  go_upto_region 4 with fail
  obtain ⟨go, hgo⟩ : ∃ k, k = w1.heap.size := ⟨_, rfl⟩
  rw [← hgo] at H2 ⊢
  generalize w1.alloc (.cells (ic [(0 : Int), 0]).toArray 3) = W2 at *
  clear hgo em hmk H1
  have c0 : W2.cell? ⟨g, 0, none⟩ = some (.int .i64 r.w) := H2.h1.cell 0
  have c1 : W2.cell? ⟨g, 1, none⟩ = some (.slice A r.rows.length c) := H2.h1.cell 1
  have HCE := Lib.hid (spec_cells_cV W2 (HRD.out W2 H2.below) HV.out)
  go_wp2_with fail
  refine (HCE.out).mono ?_
  rintro e w4 ⟨vC, rfl, oC, b4⟩
  obtain ⟨C, hC⟩ : ∃ C, C = r.cells := ⟨_, rfl⟩
  have HC := Lib.hid hC
  have H3 := (H2.oiNew b4 oC).g1
  rw [← hC] at H3
  obtain ⟨n, hn⟩ : ∃ n, n = C.length := ⟨_, rfl⟩
  have HCN := Lib.hid hn
  rw [← hn] at H3
  obtain ⟨AC, cC, hvC, hnc, _, _⟩ := Res.row_at H3.h1
  subst hvC
  have hn36 : n ≤ 36 := by rw [hn, hC]; exact Reg.cells_le HV.out
  clear c0 c1 H2 HCE b4 oC hC hn
  go_wp2
  go_loopw [7] (fun iv wx => ∃ i : Nat, i ≤ n ∧ iv = .int .i64 i ∧ Sep w wx [Res.row (.slice (some ⟨go, 0, none⟩) 2 2) 3 1 2 (ic [(colN (C.take i) 0 : Int), (colN (C.take i) 1 : Int)]), Res.row (.slice AC n cC) 52 2 n (cc C), Res.box g 27 #[.int .i64 r.w, .slice A r.rows.length c]]) (fun iv _ => n - (intOf iv).toNat)
  case atStart => exact ⟨0, Nat.zero_le _, rfl, H3⟩
  case round =>
    clear H3
    obtain ⟨i, hi, rfl, H⟩ := hrel
    by_cases hlt : i < n
    · have hlti : (i : Int) < (n : Int) := by omega
      obtain ⟨d, hd⟩ : ∃ d, C[i]? = some d := ⟨C[i]'(by rw [← HCN.out]; exact hlt), List.getElem?_eq_getElem _⟩
      obtain ⟨gC, oC, cC', hs1, _, _, _⟩ := own_shape H.h1 (by omega)
      injection hs1 with hs2 hs3 hs4
      subst hs2 hs4
      obtain ⟨rfl, _⟩ := own_blk H.h1
      obtain ⟨q1, q2⟩ := own_cell2 H.h1 hd
      simp only [Nat.zero_add] at q1 q2
      obtain ⟨d1, d2, d3, d4⟩ := col_cell HV.out (show r.cells[i]? = some d by rw [← HC.out]; exact hd)
      have HT0 := Lib.hid (col_take (q := 0) hd)
      have HT1 := Lib.hid (col_take (q := 1) hd)
      have HLE0 : colN (C.take i) 0 ≤ 36 := Nat.le_trans colN_le (by rw [List.length_take]; omega)
      have HLE1 : colN (C.take i) 1 ≤ 36 := Nat.le_trans colN_le (by rw [List.length_take]; omega)
      obtain ⟨a, ha⟩ : ∃ a, a = colN (C.take i) 0 := ⟨_, rfl⟩
      obtain ⟨b, hb⟩ : ∃ a, a = colN (C.take i) 1 := ⟨_, rfl⟩
      rw [← ha] at HT0 HLE0 H
      rw [← hb] at HT1 HLE1 H
      obtain ⟨dx, dy⟩ := d
      have w1 : wrap64 (dx + dy) = dx + dy := IntWalk.wrap64_in _ (by simp only at d1 d2 d3 d4; omega)
      have w2 : IntKind.i64.wrap (dx + dy) = dx + dy := IntWalk.i64_in _ (by simp only at d1 d2 d3 d4; omega)
      obtain ⟨q, hq⟩ : ∃ q, q = (dx + dy).tmod 2 := ⟨_, rfl⟩
      have hq01 : q = 0 ∨ q = 1 := by
        rw [hq, Int.tmod_eq_emod_of_nonneg (by simp only at d1 d3; omega)]
        omega
      have w3 : (dx + dy).tmod 2 = q := hq.symm
      simp only at HT0 HT1 q1 q2
      rw [w3] at HT0 HT1
      have W1 := Lib.hid w1
      have W2 := Lib.hid w2
      have W3 := Lib.hid w3
      clear hd ha hb hq w1 w2 w3 d1 d2 d3 d4
      rcases hq01 with rfl | rfl
      · have HA : Hid (colN (C.take (i + 1)) 0 = a + 1 ∧ colN (C.take (i + 1)) 1 = b) := Lib.hid ⟨by rw [HT0.out, if_pos rfl], by rw [HT1.out, if_neg (by decide), Nat.add_zero]⟩
        clear HT0 HT1
        have k2 := own_cell1 H.h0 (show ([(a : Int), (b : Int)] : List Int)[0]? = some (a : Int) from rfl)
        have k3 := own_free H.drew.h0 0
        simp only [Nat.zero_add] at k2 k3
        have w1 := W1.out
        have w2 := W2.out
        have w3 := W3.out
        have w4 : IntKind.i64.wrap ((a : Int) + 1) = (a : Int) + 1 := IntWalk.i64_in _ (by omega)
        have w5 : wrap64 ((a : Int) + 1) = (a : Int) + 1 := IntWalk.wrap64_in _ (by omega)
        have H3 := H.drew.setRow (j := 0) (by simp [ic]) (.int .i64 ((a : Int) + 1))
        clear H
        go_wp2_with fail
        refine wp_region_stq 32 (by kernel_rfl) (by kernel_rfl) ?_
        simp only [List.take_succ_cons, List.take_zero, List.drop_succ_cons, List.drop_zero]
        repeat (first | go_big_quiet_skip | (go_big_quiet_want; go_big_quiet_op; first | go_big_quiet_on | (apply Exists.intro; refine ⟨?_, ?_⟩; focus (fail); go_big_quiet_on)))
        refine wpQuiet_nil ?_
        go_wp2
        clear k2 k3 w1 w2 w3 w4 w5 q1 q2
        go_roundw
        case rel => exact ⟨i + 1, by omega, by go_num, by rw [HA.out.1, HA.out.2]; exact H3⟩
        case measure => simp [intOf]; omega
      · have HA : Hid (colN (C.take (i + 1)) 0 = a ∧ colN (C.take (i + 1)) 1 = b + 1) := Lib.hid ⟨by rw [HT0.out, if_neg (by decide), Nat.add_zero], by rw [HT1.out, if_pos rfl]⟩
        clear HT0 HT1
        have k2 := own_cell1 H.h0 (show ([(a : Int), (b : Int)] : List Int)[1]? = some (b : Int) from rfl)
        have k3 := own_free H.drew.h0 1
        simp only [Nat.zero_add] at k2 k3
        have w1 := W1.out
        have w2 := W2.out
        have w3 := W3.out
        have w4 : IntKind.i64.wrap ((b : Int) + 1) = (b : Int) + 1 := IntWalk.i64_in _ (by omega)
        have w5 : wrap64 ((b : Int) + 1) = (b : Int) + 1 := IntWalk.wrap64_in _ (by omega)
        have H3 := H.drew.setRow (j := 1) (by simp [ic]) (.int .i64 ((b : Int) + 1))
        clear H
        go_wp2_with fail
        refine wp_region_stq 32 (by kernel_rfl) (by kernel_rfl) ?_
        simp only [List.take_succ_cons, List.take_zero, List.drop_succ_cons, List.drop_zero]
        repeat (first | go_big_quiet_skip | (go_big_quiet_want; go_big_quiet_op; first | go_big_quiet_on | (apply Exists.intro; refine ⟨?_, ?_⟩; focus (fail); go_big_quiet_on)))
        refine wpQuiet_nil ?_
        go_wp2
        clear k2 k3 w1 w2 w3 w4 w5 q1 q2
        go_roundw
        case rel => exact ⟨i + 1, by omega, by go_num, by rw [HA.out.1, HA.out.2]; exact H3⟩
        case measure => simp [intOf]; omega
    · obtain rfl : i = n := by omega
      have hT : C.take i = C := by rw [HCN.out, List.take_length]
      rw [hT, HC.out] at H
      have HO := Lib.hid H.oi
      have hb := H.below
      clear H hT
      go_wp2
      go_ret
      exact ⟨_, rfl, HO.out, hb⟩
end Go.Proofs.YtoccedebiacbiaaDoor
