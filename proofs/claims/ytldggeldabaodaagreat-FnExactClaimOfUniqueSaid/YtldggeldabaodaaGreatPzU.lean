
/-
  PuzzleSolutions, both walks.
-/
import Derived.Test.YtldggeldabaodaaGreatPzT
namespace Go.Proofs.YtldggeldabaodaaGreat
open Go.RowKit

def PzsPost (M : List (List Nat)) (b : Bool) (w : World) : Ending → World → Prop := fun e w' => ∃ ov vs n L, e = .returned (.tuple #[ov, .bool b]) ∧ n = M.length ∧ Sep w w' (Res.row ov 22 1 n vs :: Res.rows vs (M.map nl) :: L)
theorem PzsPost.mk {M T : List (List Nat)} {b c : Bool} {w w' : World} {ov : Value} {vs : List Value} {n : Nat} {L : List Res} (hM : T = M) (hb : c = b) (hn : n = M.length) (H : Sep w w' (Res.row ov 22 1 n vs :: Res.rows vs (M.map nl) :: L)) : PzsPost T b w (.returned (.tuple #[ov, .bool c])) w' := by
  subst hM hb
  exact ⟨ov, vs, n, L, rfl, hn, H⟩
theorem pzM_no {r : Reg} {ps : List (List Cell)} (h : (r.valid && arePcs ps) = false) : pzM r ps = [] := by unfold pzM; rw [h]; rfl
theorem pzM_yes {r : Reg} {ps : List (List Cell)} (h : (r.valid && arePcs ps) = true) : pzM r ps = pzR r ps := by unfold pzM; rw [h]; rfl
set_option maxRecDepth 100000 in
set_option maxHeartbeats 1600000 in
theorem impl_pzs_c {v v2 : Value} {r : Reg} {ps : List (List Cell)} (w : World) (h : RegRd w 0 w.heap.size v r) (h2 : CellSSRd w 0 w.heap.size v2 ps) (hn : ps.length ≤ 1048576) (hl : ∀ s ∈ ps, s.length ≤ 1048576) :
    Calls Tryz.prog 30 #[v, v2] w (PzsPost (pzM r ps) (r.valid && arePcs ps) w) := by
  have HRD : Hid (∀ w1, Below w.heap.size w w1 → RegRd w1 0 w1.heap.size v r) := Lib.hid fun w1 b1 => (h.keep (SameIn.of_below b1 (Nat.le_refl _))).more (Nat.le_refl _) b1.size
  have HR2 : Hid (∀ w1, Below w.heap.size w w1 → CellSSRd w1 0 w1.heap.size v2 ps) := Lib.hid fun w1 b1 => (h2.keep (SameIn.of_below b1 (Nat.le_refl _))).more (Nat.le_refl _) b1.size
  obtain ⟨T, hT⟩ : ∃ T, T = pzM r ps := ⟨_, rfl⟩
  obtain ⟨K, hK⟩ : ∃ K, K = (r.valid && arePcs ps) := ⟨_, rfl⟩
  rw [← hT, ← hK]
  have HT := Lib.hid hT
  have HKK := Lib.hid hK
  obtain ⟨sr, rfl, hsr⟩ := h
  obtain ⟨A, c, rfl, _, _⟩ := hsr
  obtain ⟨vs, ⟨A2, c2, rfl, _, _⟩, _⟩ := h2
  have H0 := (Sep.start w).box 28 #[.int .i64 r.w, .slice A r.rows.length c]
  obtain ⟨g, hg⟩ : ∃ g, g = w.heap.size := ⟨_, rfl⟩
  rw [← hg] at H0
  clear hT hK
  go_enter Tryz.func30, Tryz.ntmps30
  go_upto_region 1 with fail
  rw [← hg]
  generalize (w.alloc (.cells #[.int .i64 r.w, .slice A r.rows.length c] 28)) = W at *
  clear hg
  have c0 : W.cell? ⟨g, 0, none⟩ = some (.int .i64 r.w) := H0.h0.cell 0
  have c1 : W.cell? ⟨g, 1, none⟩ = some (.slice A r.rows.length c) := H0.h0.cell 1
  have HP := Lib.hid (impl_prob_c W (HRD.out W H0.below) (HR2.out W H0.below) hn hl)
  rw [← HKK.out] at HP
  go_wp2_with fail
  refine (HP.out).mono ?_
  rintro e w1 ⟨rfl, b1⟩
  have H1 := H0.step b1
  clear c0 c1 H0 HP b1
  cases K
  · have HN : Hid (T = []) := Lib.hid (by rw [HT.out]; exact pzM_no HKK.out.symm)
    have H2 := H1.rowsNil.nil 22 1
    go_wp2
    go_ret2
    exact PzsPost.mk (M := []) HN.out rfl rfl H2
  · have HN : Hid (T = pzR r ps) := Lib.hid (by rw [HT.out]; exact pzM_yes HKK.out.symm)
    have hkk := HKK.out.symm
    rw [Bool.and_eq_true] at hkk
    have HS := Lib.hid (impl_sols_c w1 (HRD.out w1 H1.below) (HR2.out w1 H1.below) (Reg.valid_iff.1 hkk.1) hkk.2)
    have c0 : w1.cell? ⟨g, 0, none⟩ = some (.int .i64 r.w) := H1.h0.cell 0
    have c1 : w1.cell? ⟨g, 1, none⟩ = some (.slice A r.rows.length c) := H1.h0.cell 1
    have HB := Lib.hid H1
    clear hkk H1
    go_wp2_with fail
    refine (HS.out).mono ?_
    rintro e w2 ⟨ov, vs2, n2, L2, rfl, hn2, H2⟩
    rw [← HN.out] at hn2 H2
    have H3 := H2.join HB.out
    have HN2 := Lib.hid hn2
    obtain ⟨Ao, co, rfl, _, _, _⟩ := Res.row_at H2.h0
    clear hn2 H2 HS HB c0 c1
    go_wp2
    go_ret2
    exact PzsPost.mk rfl rfl HN2.out H3
set_option maxRecDepth 100000 in
set_option maxHeartbeats 1600000 in
theorem spec_pzs_c {v v2 : Value} {r : Reg} {ps : List (List Cell)} (w : World) (h : RegRd w 0 w.heap.size v r) (h2 : CellSSRd w 0 w.heap.size v2 ps) (hn : ps.length ≤ 1048576) (hl : ∀ s ∈ ps, s.length ≤ 1048576) :
    Calls Tryz.prog 25 #[v, v2] w (PzsPost (pzM r ps) (r.valid && arePcs ps) w) := by
  have HRD : Hid (∀ w1, Below w.heap.size w w1 → RegRd w1 0 w1.heap.size v r) := Lib.hid fun w1 b1 => (h.keep (SameIn.of_below b1 (Nat.le_refl _))).more (Nat.le_refl _) b1.size
  have HR2 : Hid (∀ w1, Below w.heap.size w w1 → CellSSRd w1 0 w1.heap.size v2 ps) := Lib.hid fun w1 b1 => (h2.keep (SameIn.of_below b1 (Nat.le_refl _))).more (Nat.le_refl _) b1.size
  have HAR : Hid (∀ w1, Below w.heap.size w w1 → Calls Tryz.prog 51 #[v2] w1 fun e w' => e = .returned (.bool (arePcs ps)) ∧ Below w1.heap.size w1 w') := Lib.hid fun w1 b1 => spec_arePcs_c w1 (HR2.out w1 b1) hn hl
  obtain ⟨T, hT⟩ : ∃ T, T = pzM r ps := ⟨_, rfl⟩
  obtain ⟨K, hK⟩ : ∃ K, K = (r.valid && arePcs ps) := ⟨_, rfl⟩
  rw [← hT, ← hK]
  have HT := Lib.hid hT
  have HKK := Lib.hid hK
  obtain ⟨K1, hK1⟩ : ∃ K, K = r.valid := ⟨_, rfl⟩
  obtain ⟨K2, hK2⟩ : ∃ K, K = arePcs ps := ⟨_, rfl⟩
  have HK1 := Lib.hid hK1
  have HK2 := Lib.hid hK2
  rw [← hK2] at HAR
  obtain ⟨sr, rfl, hsr⟩ := h
  obtain ⟨A, c, rfl, _, _⟩ := hsr
  obtain ⟨vs, ⟨A2, c2, rfl, _, _⟩, _⟩ := h2
  have H0 := (Sep.start w).box 28 #[.int .i64 r.w, .slice A r.rows.length c]
  obtain ⟨g, hg⟩ : ∃ g, g = w.heap.size := ⟨_, rfl⟩
  rw [← hg] at H0
  clear hT hK hK1 hK2
  go_enter Tryz.func25, Tryz.ntmps25
  go_upto_region 1 with fail
  rw [← hg]
  generalize (w.alloc (.cells #[.int .i64 r.w, .slice A r.rows.length c] 28)) = W at *
  clear hg
  have c0 : W.cell? ⟨g, 0, none⟩ = some (.int .i64 r.w) := H0.h0.cell 0
  have c1 : W.cell? ⟨g, 1, none⟩ = some (.slice A r.rows.length c) := H0.h0.cell 1
  have HP := Lib.hid (spec_IsRegion_c W (HRD.out W H0.below))
  rw [← HK1.out] at HP
  go_wp2_with fail
  refine (HP.out).mono ?_
  rintro e w1 ⟨rfl, b1⟩
  have H1 := H0.step b1
  clear c0 c1 H0 HP b1
  cases K1
  · obtain rfl : K = false := by rw [HKK.out, ← HK1.out]; rfl
    have HN : Hid (T = []) := Lib.hid (by rw [HT.out]; exact pzM_no HKK.out.symm)
    have H2 := H1.rowsNil.rowBox 22 #[] 1 0 rfl (by decide)
    go_wp2
    go_ret2
    exact PzsPost.mk (M := []) HN.out rfl rfl H2
  have HP2 := Lib.hid (HAR.out w1 H1.below)
  go_wp2_with fail
  refine (HP2.out).mono ?_
  rintro e w2 ⟨rfl, b2⟩
  replace H1 := H1.step b2
  clear HP2 b2 HAR
  cases K2
  · obtain rfl : K = false := by rw [HKK.out, ← HK2.out, Bool.and_false]
    have HN : Hid (T = []) := Lib.hid (by rw [HT.out]; exact pzM_no HKK.out.symm)
    have H2 := H1.rowsNil.rowBox 22 #[] 1 0 rfl (by decide)
    go_wp2
    go_ret2
    exact PzsPost.mk (M := []) HN.out rfl rfl H2
  obtain rfl : K = true := by rw [HKK.out, ← HK1.out, ← HK2.out]; rfl
  have HN : Hid (T = pzR r ps) := Lib.hid (by rw [HT.out]; exact pzM_yes HKK.out.symm)
  have HV := Lib.hid (Reg.valid_iff.1 HK1.out.symm)
  have hp5 := (arePcs_on HK2.out.symm).2.2
  have HS : Hid (∀ (w1 : World) (v3 : Value), Below w.heap.size w w1 → IntsRd w1 0 w1.heap.size v3 (List.replicate ps.length (-1)) → Calls Tryz.prog 52 #[.agg #[.int .i64 r.w, .slice A r.rows.length c], .slice A2 ps.length c2, v3] w1 (PzSol T w1)) := Lib.hid fun w1 v3 b1 h3 => by
    rw [HN.out]
    exact spec_sols_c w1 (HRD.out w1 b1) (HR2.out w1 b1) h3 HV.out HK2.out.symm
  have H2 := H1.drew
  have c0 : w2.drew.cell? ⟨g, 0, none⟩ = some (.int .i64 r.w) := H2.h0.cell 0
  have c1 : w2.drew.cell? ⟨g, 1, none⟩ = some (.slice A r.rows.length c) := H2.h0.cell 1
  have HNC := Lib.hid (none_c (n := ps.length) (by omega) H2)
  unfold PzSol at HS
  clear H1
  go_wp2_with fail
  go_region_held3 (fun w' => w'.cell? ⟨g, 0, none⟩ = some (.int .i64 r.w) ∧ w'.cell? ⟨g, 1, none⟩ = some (.slice A r.rows.length c))
    (first | ((try dsimp only); refine ⟨?_, ?_⟩ <;> assumption) | go_keep)
    (first
      | (go_at_call 53; (with_reducible refine (HNC.out).mono ?_); rintro e w5 ⟨nv, rfl, H5⟩; have hrd := row_rdZ (w := w5) (v := nv) (n := ps.length) (l := List.replicate ps.length (-1)) H5.h0 (by rw [List.length_replicate]); have d0 : w5.cell? ⟨g, 0, none⟩ = some (.int .i64 r.w) := H5.h1.cell 0; have d1 : w5.cell? ⟨g, 1, none⟩ = some (.slice A r.rows.length c) := H5.h1.cell 1)
      | (go_at_call 52; (with_reducible refine (HS.out _ _ H5.below hrd).mono ?_); rintro e w6 ⟨ov, vs6, n6, L6, rfl, hn6, H6⟩; have H7 := H6.join H5; have d0' : w6.cell? ⟨g, 0, none⟩ = some (.int .i64 r.w) := (H6.below.cell (p := ⟨g, 0, none⟩) (H5.h1.lt)).trans d0; have d1' : w6.cell? ⟨g, 1, none⟩ = some (.slice A r.rows.length c) := (H6.below.cell (p := ⟨g, 1, none⟩) (H5.h1.lt)).trans d1))
  all_goals
    have HN6 := Lib.hid hn6
    have HH := Lib.hid H7
    obtain ⟨Ao, co, rfl, _, _, _⟩ := Res.row_at H7.h0
    clear hn6 H6 H7 hrd H5 d0 d1 d0' d1' c0 c1 H2 HNC HS
    go_wp2
    go_ret2
    exact PzsPost.mk rfl rfl HN6.out HH.out
end Go.Proofs.YtldggeldabaodaaGreat
