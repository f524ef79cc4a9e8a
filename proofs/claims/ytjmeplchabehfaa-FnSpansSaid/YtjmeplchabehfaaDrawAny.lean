
/-
  The law's drawing of regions, right or not.
-/
import Derived.Test.YtjmeplchabehfaaDrawReg
namespace Go.Proofs.Ytjmeplchabehfaa
open Go.RowKit

/-- a drawn region: its box, its rows -/
def DrawnR (r : Reg) : Prop := 1 ≤ r.rows.length ∧ r.rows.length ≤ 20
set_option maxRecDepth 100000 in
set_option maxHeartbeats 3200000 in
theorem l6Any_c {g : Nat} {l : List UInt8} {w0 w : World} {L : List Res} (H : Cur w0 w g l L) :
    Calls Try.prog 141 #[.pointer (some ⟨g, 0, none⟩)] w fun e w' => ∃ (r : Reg) (A : Option Addr) (c : Nat), e = .returned (.agg #[.int .i64 r.w, .slice A r.rows.length c]) ∧ DrawnR r ∧
      Cur w0 w' g l (Res.row (.slice A r.rows.length c) 3 1 r.rows.length (ic r.rows) :: L) := by
  obtain ⟨j0, hj0, hy0, hy1, hy2⟩ := info_parts infoIntC
  have H0 := H.map (fun X h => (h.box 31 #[.int .i64 0, .slice none 0 0]).g1)
  clear H
  go_enter Try.func141, Try.ntmps141
  go_wp2_with fail
  obtain ⟨gz, hgz⟩ : ∃ gz : World, gz = w := ⟨_, rfl⟩
  subst hgz
  generalize gz.alloc (.cells #[.int .i64 0, .slice none 0 0] 31) = W at *
  refine (l6Draw_c H0).mono ?_
  rintro e w1 ⟨r, A, c, rfl, hv, H1⟩
  have H2 := H1.map (fun X h => (h.box 31 #[.int .i64 r.w, .slice A r.rows.length c]).g1)
  have hv3 := hv.2.2.1
  have hv4 := hv.2.2.2.1
  clear H0 H1
  go_wp2_with fail
  generalize w1.alloc (.cells #[.int .i64 r.w, .slice A r.rows.length c] 31) = w2 at *
  refine (l1Below_c 14 H2 (by omega)).mono ?_
  rintro e w3 ⟨q, rfl, hq1, hq2, _, H3⟩
  clear H2 hq2
  have HV := Lib.hid hv
  clear hv
  by_cases h0 : q = 0
  · subst h0
    have H4 := H3.map (fun X h => (h.rowBox 3 #[.int .i64 0, .int .i64 7, .int .i64 (-1), .int .i64 2] 1 4 rfl (by decide)).g1)
    go_wp2_with fail
    generalize w3.alloc (.cells #[.int .i64 0, .int .i64 7, .int .i64 (-1), .int .i64 2] 3) = w4 at *
    refine (l1Pick_c (n := 4) (xs := [0, 7, -1, 2]) rfl (by omega) (by omega) H4).mono ?_
    rintro e w5 ⟨x, rfl, hx, H5⟩
    have H6 := H5.map (fun X h => h.g1.drop)
    have x0 := H6.sep.h0.cell 0
    have f0 := H6.sep.h0.frozen 0
    simp at x0
    have H7 := H6.map (fun X h => (h.g1.set_ 0 (.int .i64 x)).p1)
    clear H3 H4 H5 H6 hx
    have z0 : (w5.setCell ⟨w1.heap.size, 0, none⟩ (.int .i64 x)).cell? ⟨gz.heap.size, 0, none⟩ = some (.int .i64 0) := H7.sep.h2.cell 0
    have z1 : (w5.setCell ⟨w1.heap.size, 0, none⟩ (.int .i64 x)).cell? ⟨gz.heap.size, 1, none⟩ = some (.slice none 0 0) := H7.sep.h2.cell 1
    have f0' := H7.sep.h2.frozen 0
    have f1' := H7.sep.h2.frozen 1
    have x0' : (w5.setCell ⟨w1.heap.size, 0, none⟩ (.int .i64 x)).cell? ⟨w1.heap.size, 0, none⟩ = some (.int .i64 (x)) := H7.sep.h0.cell 0
    have x1' : (w5.setCell ⟨w1.heap.size, 0, none⟩ (.int .i64 x)).cell? ⟨w1.heap.size, 1, none⟩ = some (.slice A r.rows.length c) := H7.sep.h0.cell 1
    have He := (H7.sep.g2.set_ 0 (.int .i64 (x))).set_ 1 (.slice A r.rows.length c)
    have u0 := He.h0.cell 0
    have u1 := He.h0.cell 1
    simp at u0 u1
    have Hf := H7.map (fun X h => ((h.g3.set_ 0 (.int .i64 (x))).set_ 1 (.slice A r.rows.length c)).drop.g1.drop)
    clear He
    go_wp2
    exact bodyPost_ret (v := .agg #[.int .i64 x, .slice A r.rows.length c]) (by simp [results, Try.results141, go_sem, u0, u1]) rfl ⟨⟨x, r.rows⟩, A, c, rfl, ⟨hv3, by simp only; omega⟩, Hf⟩
  · by_cases h1 : q = 1
    · subst h1
      have x0 := H3.sep.h0.cell 0
      have x1 := H3.sep.h0.cell 1
      simp at x0 x1
      obtain ⟨bo, oo, co, he, _, _, hbo⟩ := own_shape H3.sep.h1 (by omega)
      injection he with he1 _ he3
      subst he1 he3
      have hl0 : (0 : Int) < (r.rows.length : Int) := by omega
      have hgb := H3.sep.h0.lt
      go_wp2_with fail
      go_region_with ((first
        | (go_at_call 145; refine (l1Pick_c (n := 3) (b := w3.heap.size) (xs := [-1, 64, 9223372036854775807]) rfl (by omega) (by omega) (by exact H3.map (fun X h => (h.rowBox 3 #[.int .i64 (-1), .int .i64 64, .int .i64 9223372036854775807] 1 3 rfl (by decide)).drew.g1))).mono ?_; rintro e w5 ⟨x, rfl, hx, H5⟩; have H6 := H5.map (fun X h => h.g1.drop); have r0 := own_cell1 H6.sep.h1 (List.getElem?_eq_getElem (show 0 < r.rows.length by omega)); have fr := own_free H6.sep.h1 0; have x0' := H6.sep.h0.cell 0; have x1' := H6.sep.h0.cell 1; simp at x0' x1'; simp only [Nat.add_zero] at r0 fr)))
      all_goals
        have H7 := H6.map (fun X h => (h.g2.setRow (j := 0) (by rw [ic_length]; omega) (.int .i64 x)).p2)
        rw [ic_set] at H7
        simp only [Nat.add_zero] at H7
        clear x0' x1' r0 fr H6 H5 hx x0 x1
        have z0 : (w5.setCell ⟨bo, oo, none⟩ (.int .i64 x)).cell? ⟨gz.heap.size, 0, none⟩ = some (.int .i64 0) := H7.sep.h2.cell 0
        have z1 : (w5.setCell ⟨bo, oo, none⟩ (.int .i64 x)).cell? ⟨gz.heap.size, 1, none⟩ = some (.slice none 0 0) := H7.sep.h2.cell 1
        have f0' := H7.sep.h2.frozen 0
        have f1' := H7.sep.h2.frozen 1
        have x0' : (w5.setCell ⟨bo, oo, none⟩ (.int .i64 x)).cell? ⟨w1.heap.size, 0, none⟩ = some (.int .i64 (r.w)) := H7.sep.h0.cell 0
        have x1' : (w5.setCell ⟨bo, oo, none⟩ (.int .i64 x)).cell? ⟨w1.heap.size, 1, none⟩ = some (.slice (some ⟨bo, oo, none⟩) r.rows.length c) := H7.sep.h0.cell 1
        have He := (H7.sep.g2.set_ 0 (.int .i64 (r.w))).set_ 1 (.slice (some ⟨bo, oo, none⟩) r.rows.length c)
        have u0 := He.h0.cell 0
        have u1 := He.h0.cell 1
        simp at u0 u1
        have Hf := H7.map (fun X h => ((h.g3.set_ 0 (.int .i64 (r.w))).set_ 1 (.slice (some ⟨bo, oo, none⟩) r.rows.length c)).drop.g1.drop)
        clear He
        go_wp2
        have hls : (r.rows.set 0 x).length = r.rows.length := List.length_set
        refine bodyPost_ret (v := .agg #[.int .i64 r.w, .slice (some ⟨bo, oo, none⟩) r.rows.length c]) (by simp [results, Try.results141, go_sem, u0, u1]) rfl ⟨⟨r.w, r.rows.set 0 x⟩, some ⟨bo, oo, none⟩, c, by simp only [hls], ⟨by simp only [hls]; exact hv3, by simp only [hls]; omega⟩, ?_⟩
        simp only [hls]
        exact Hf
    · by_cases h2 : q = 2
      · subst h2
        have x0 := H3.sep.h0.cell 0
        have x1 := H3.sep.h0.cell 1
        have fx := H3.sep.h0.frozen 1
        simp at x0 x1
        obtain ⟨B, cb, ci, ch, e1, e2, e3, e4, e5, HS⟩ := H3
        have hgb := HS.h1.lt
        go_wp2_with (
          at_builtin
          refine wpList_app rfl _ _ 22 rfl 3 j0 _ 1 8 Try.underlying22 hj0 hy0 hy1 hy2 rfl (by decide) _ _ _ rfl (HS.alloc _).g2 _ _ _ [.int .i64 1, .int .i64 1, .int .i64 1] rfl (Rd.fresh w3 _ #[.int .i64 1, .int .i64 1, .int .i64 1] 1 3 rfl) (by intro u hu; simp at hu; subst hu; rfl) (by unfold maxLen; omega) (by omega) ?_
          intro v' w5 H5
          obtain ⟨A5, c5, rfl, _, _, _⟩ := Res.row_at H5.h0
          have y1 := H5.p2.h1.cell 1
          have fy := H5.p2.h1.frozen 1
          simp at y1
          have HC : Cur w0 (w5.setCell ⟨w1.heap.size, 1, none⟩ (.slice A5 (r.rows.length + 3) c5)) g l (Res.box w1.heap.size 31 #[.int .i64 r.w, .slice A5 (r.rows.length + 3) c5] :: Res.row (.slice A5 (r.rows.length + 3) c5) 3 1 (r.rows.length + 3) (ic r.rows ++ [.int .i64 1, .int .i64 1, .int .i64 1]) :: Res.box gz.heap.size 31 #[.int .i64 0, .slice none 0 0] :: L) :=
            ⟨B, cb, ci, ch, e1, e2, e3, e4, e5, (H5.p2.g1.set_ 1 (.slice A5 (r.rows.length + 3) c5)).p1⟩
          have z0 : (w5.setCell ⟨w1.heap.size, 1, none⟩ (.slice A5 (r.rows.length + 3) c5)).cell? ⟨gz.heap.size, 0, none⟩ = some (.int .i64 0) := HC.sep.h2.cell 0
          have z1 : (w5.setCell ⟨w1.heap.size, 1, none⟩ (.slice A5 (r.rows.length + 3) c5)).cell? ⟨gz.heap.size, 1, none⟩ = some (.slice none 0 0) := HC.sep.h2.cell 1
          have f0' := HC.sep.h2.frozen 0
          have f1' := HC.sep.h2.frozen 1
          have x0' : (w5.setCell ⟨w1.heap.size, 1, none⟩ (.slice A5 (r.rows.length + 3) c5)).cell? ⟨w1.heap.size, 0, none⟩ = some (.int .i64 (r.w)) := HC.sep.h0.cell 0
          have x1' : (w5.setCell ⟨w1.heap.size, 1, none⟩ (.slice A5 (r.rows.length + 3) c5)).cell? ⟨w1.heap.size, 1, none⟩ = some (.slice A5 (r.rows.length + 3) c5) := HC.sep.h0.cell 1
          have He := (HC.sep.g2.set_ 0 (.int .i64 (r.w))).set_ 1 (.slice A5 (r.rows.length + 3) c5)
          have u0 := He.h0.cell 0
          have u1 := He.h0.cell 1
          simp at u0 u1
          have Hf := HC.map (fun X h => ((h.g3.set_ 0 (.int .i64 (r.w))).set_ 1 (.slice A5 (r.rows.length + 3) c5)).drop.g1.drop)
          clear He
          )
        have hls : (r.rows ++ [1, 1, 1]).length = r.rows.length + 3 := by simp
        refine bodyPost_ret (v := .agg #[.int .i64 r.w, .slice A5 (r.rows.length + 3) c5]) (by simp [results, Try.results141, go_sem, u0, u1]) rfl ⟨⟨r.w, r.rows ++ [1, 1, 1]⟩, A5, c5, by simp only [hls], ⟨by simp only [hls]; omega, by simp only [hls]; omega⟩, ?_⟩
        simp only [hls]
        rw [ic_append]
        exact Hf
      · have b0 : (q == 0) = false := by simp [h0]
        have b1 : (q == 1) = false := by simp [h1]
        have b2 : (q == 2) = false := by simp [h2]
        have z0 : (w3).cell? ⟨gz.heap.size, 0, none⟩ = some (.int .i64 0) := H3.sep.h2.cell 0
        have z1 : (w3).cell? ⟨gz.heap.size, 1, none⟩ = some (.slice none 0 0) := H3.sep.h2.cell 1
        have f0' := H3.sep.h2.frozen 0
        have f1' := H3.sep.h2.frozen 1
        have x0' : (w3).cell? ⟨w1.heap.size, 0, none⟩ = some (.int .i64 (r.w)) := H3.sep.h0.cell 0
        have x1' : (w3).cell? ⟨w1.heap.size, 1, none⟩ = some (.slice A r.rows.length c) := H3.sep.h0.cell 1
        have He := (H3.sep.g2.set_ 0 (.int .i64 (r.w))).set_ 1 (.slice A r.rows.length c)
        have u0 := He.h0.cell 0
        have u1 := He.h0.cell 1
        simp at u0 u1
        have Hf := H3.map (fun X h => ((h.g3.set_ 0 (.int .i64 (r.w))).set_ 1 (.slice A r.rows.length c)).drop.g1.drop)
        clear He
        go_wp2
        exact bodyPost_ret (v := .agg #[.int .i64 r.w, .slice A r.rows.length c]) (by simp [results, Try.results141, go_sem, u0, u1]) rfl ⟨r, A, c, rfl, ⟨hv3, by omega⟩, Hf⟩
end Go.Proofs.Ytjmeplchabehfaa
