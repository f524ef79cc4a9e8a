
/-
  ClaimOfTiling: both walks.
-/
import Derived.Test.YtjoglffhdoneoaaGreatDoorMclX
import Derived.Test.YtjoglffhdoneoaaGreatDoorRefX
import Derived.Test.YtjoglffhdoneoaaGreatDoorFtS
namespace Go.Proofs.YtjoglffhdoneoaaGreatDoor
open Go.RowKit

/-- the claim of a tiling, or of none -/
def tilC (r : Reg) (ps : List (List Cell)) : Clm := if findB r ps = true then ⟨1, r, ps, nl (findL r ps), ⟨#[]⟩, 0, [], 0, [], 0, 0⟩ else match refR r ps with
  | some T => ⟨2, r, ps, [], tb T, 0, [], 0, [], 0, 0⟩
  | none => zeroC
def tilOk (r : Reg) (ps : List (List Cell)) : Bool := findB r ps || (refR r ps).isSome
theorem tilC_yes {r : Reg} {ps : List (List Cell)} (h : findB r ps = true) : tilC r ps = ⟨1, r, ps, nl (findL r ps), ⟨#[]⟩, 0, [], 0, [], 0, 0⟩ ∧ tilOk r ps = true := by
  unfold tilC tilOk; rw [h]; exact ⟨rfl, rfl⟩
theorem tilC_no {r : Reg} {ps : List (List Cell)} {T : List UInt8} (h : findB r ps = false) (h2 : refR r ps = some T) : tilC r ps = ⟨2, r, ps, [], tb T, 0, [], 0, [], 0, 0⟩ ∧ tilOk r ps = true := by
  unfold tilC tilOk; rw [h, h2]; exact ⟨rfl, rfl⟩
theorem tilC_none {r : Reg} {ps : List (List Cell)} (h : findB r ps = false) (h2 : refR r ps = none) : tilC r ps = zeroC ∧ tilOk r ps = false := by
  unfold tilC tilOk; rw [h, h2]; exact ⟨rfl, rfl⟩
set_option maxRecDepth 100000 in
set_option maxHeartbeats 1600000 in
theorem spec_ct_c {v v2 : Value} {r : Reg} {ps : List (List Cell)} (w : World) (h : RegRd w 0 w.heap.size v r) (h2 : CellSSRd w 0 w.heap.size v2 ps) (hr : r.rows.length ≤ 1048576) (hn : ps.length ≤ 1048576) (hl : ∀ s ∈ ps, s.length ≤ 1048576) :
    Calls Tryz.prog 7 #[v, v2] w (MkPost (tilC r ps) (tilOk r ps) w) := by
  have HRD : Hid (∀ w1, Below w.heap.size w w1 → RegRd w1 0 w1.heap.size v r) := Lib.hid fun w1 b1 => (h.keep (SameIn.of_below b1 (Nat.le_refl _))).more (Nat.le_refl _) b1.size
  have HR2 : Hid (∀ w1, Below w.heap.size w w1 → CellSSRd w1 0 w1.heap.size v2 ps) := Lib.hid fun w1 b1 => (h2.keep (SameIn.of_below b1 (Nat.le_refl _))).more (Nat.le_refl _) b1.size
  obtain ⟨C, hC⟩ : ∃ C, C = tilC r ps := ⟨_, rfl⟩
  obtain ⟨B, hB⟩ : ∃ C, C = tilOk r ps := ⟨_, rfl⟩
  rw [← hC, ← hB]
  have HC := Lib.hid hC
  have HB := Lib.hid hB
  obtain ⟨sr, rfl, hsr⟩ := h
  obtain ⟨A, c, rfl, _, _⟩ := hsr
  obtain ⟨vs, ⟨A2, c2, rfl, _, _⟩, _⟩ := h2
  have H0 := ((Sep.start w).box 28 #[.int .i64 r.w, .slice A r.rows.length c]).box 32 clm0
  simp only [World.size_alloc] at H0
  obtain ⟨g, hg⟩ : ∃ g, g = w.heap.size := ⟨_, rfl⟩
  rw [← hg] at H0
  clear hC hB
  go_enter Tryz.func7, Tryz.ntmps7
  go_upto_region 1 with fail
  rw [← hg]
  generalize ((w.alloc (.cells #[.int .i64 r.w, .slice A r.rows.length c] 28)).alloc (.cells clm0 32)) = W at *
  clear hg
  have c0 : W.cell? ⟨g, 0, none⟩ = some (.int .i64 r.w) := H0.h1.cell 0
  have c1 : W.cell? ⟨g, 1, none⟩ = some (.slice A r.rows.length c) := H0.h1.cell 1
  have HC1 := Lib.hid (spec_find_c W (HRD.out W H0.below) (HR2.out W H0.below) hn hl)
  go_wp2_with fail
  refine (HC1.out).mono ?_
  rintro e w1 ⟨v1, rfl, o1, b1⟩
  obtain ⟨q3, d3, rfl, _, _⟩ := o1.rd
  have H1 := H0.area b1 (fun u u' hs hp => IntsIn.keep hp hs) o1
  have HZ0 : Hid (w.heap.size ≤ W.heap.size) := Lib.hid H0.below.size
  have HZ1 := Lib.hid b1.size
  clear c0 c1 H0 HC1 o1 b1
  obtain ⟨F, hF⟩ : ∃ F, F = findB r ps := ⟨_, rfl⟩
  rw [← hF]
  have HF := Lib.hid hF
  clear hF
  have c0 : w1.cell? ⟨g, 0, none⟩ = some (.int .i64 r.w) := H1.h2.cell 0
  have c1 : w1.cell? ⟨g, 1, none⟩ = some (.slice A r.rows.length c) := H1.h2.cell 1
  cases F
  · have HC2 := Lib.hid (spec_ref_c w1 (HRD.out w1 H1.below) (HR2.out w1 H1.below) hn hl)
    go_wp2_with fail
    refine (HC2.out).mono ?_
    rintro e w2 ⟨rfl, b2⟩
    have H2 := H1.step b2
    clear c0 c1 H1 HC2
    obtain ⟨R, hR⟩ : ∃ F, F = refR r ps := ⟨_, rfl⟩
    rw [← hR]
    have HR := Lib.hid hR
    clear hR
    have c0 : w2.cell? ⟨g, 0, none⟩ = some (.int .i64 r.w) := H2.h2.cell 0
    have c1 : w2.cell? ⟨g, 1, none⟩ = some (.slice A r.rows.length c) := H2.h2.cell 1
    cases R with
    | none =>
      have hT := tilC_none HF.out.symm HR.out.symm
      obtain rfl : C = zeroC := by rw [HC.out, hT.1]
      obtain rfl : B = false := by rw [HB.out, hT.2]
      have HALL : ((clm0 : Array Value).all (·.oneCell')) = true := by simp [Value.oneCell']
      unfold spcV
      simp only [Option.isSome_none]
      clear hT
      go_wp2_with (refine wpList_store_row rfl 32 _ _ rfl (g + 1) clm0 rfl rfl 32 _ H2.g1.h0 (by kernel_rfl) rfl HALL ?_)
      have M := H2.g1.setAll clm0
      refine bodyPost_ret (v := .tuple #[.agg clm0, .bool false]) (results_clm Tryz.results7 _ _ (g + 1) 32 _ _ _ rfl M.h0 Tryz.underlying32 rfl (by kernel_rfl)) rfl ?_
      exact ⟨_, rfl, ClmIn.zero M.below.size, M.below⟩
    | some T =>
      have hT := tilC_no HF.out.symm HR.out.symm
      have HCC : Hid (C = ⟨2, r, ps, [], tb T, 0, [], 0, [], 0, 0⟩) := Lib.hid (by rw [HC.out, hT.1])
      obtain rfl : B = true := by rw [HB.out, hT.2]
      unfold spcV
      simp only [Option.isSome_some, Option.getD_some]
      obtain ⟨t, ht⟩ : ∃ t, t = tb T := ⟨_, rfl⟩
      rw [← ht] at HCC ⊢
      have HZ2 := Lib.hid b2.size
      clear hT ht b2
      have HK1 := Lib.hid (spec_copy_c w2 (HRD.out w2 H2.below) hr)
      go_wp2_with fail
      refine (HK1.out).mono ?_
      rintro e wa ⟨va, rfl, oa, ba⟩
      obtain ⟨qa, da, rfl, pa⟩ := oa.shape
      have HA := H2.area ba (fun u u' hs hp => IntsIn.keep hp hs) pa
      clear c0 c1 H2 HK1 oa pa
      have HK2 := Lib.hid (l33Copy_c wa (HR2.out wa HA.below) hn hl)
      go_wp2_with fail
      refine (HK2.out).mono ?_
      rintro e wb ⟨vb, rfl, ob, bb⟩
      obtain ⟨qb, db, rfl⟩ := ob.shape
      have HB2 := HA.area bb (fun u u' hs hp => ShpsIn.keep hp hs) ob
      have HZA := Lib.hid ba.size
      have HZB := Lib.hid bb.size
      clear HA HK2 ob ba bb
      have HALL : ((clmA 2 r.w 0 0 t (.slice qa r.rows.length da) (.slice qb ps.length db) (.slice none 0 0) (.slice none 0 0) : Array Value).all (·.oneCell')) = true := by simp [Value.oneCell']
      go_wp2_with (refine wpList_store_row rfl 32 _ _ rfl (g + 1) (clmA 2 r.w 0 0 t (.slice qa r.rows.length da) (.slice qb ps.length db) (.slice none 0 0) (.slice none 0 0)) rfl rfl 32 _ HB2.g3.h0 (by kernel_rfl) rfl HALL ?_)
      have M := HB2.g3.setAll (clmA 2 r.w 0 0 t (.slice qa r.rows.length da) (.slice qb ps.length db) (.slice none 0 0) (.slice none 0 0))
      refine bodyPost_ret (v := .tuple #[.agg (clmA 2 r.w 0 0 t (.slice qa r.rows.length da) (.slice qb ps.length db) (.slice none 0 0) (.slice none 0 0)), .bool true]) (results_clm Tryz.results7 _ _ (g + 1) 32 _ _ _ rfl M.h0 Tryz.underlying32 rfl (by kernel_rfl)) rfl ?_
      have hz0 := HZ0.out
      have hz1 := HZ1.out
      have hza := HZA.out
      have hzb := HZB.out
      have hzc : (wb.setRow (g + 1) (clmA 2 r.w 0 0 t (.slice qa r.rows.length da) (.slice qb ps.length db) (.slice none 0 0) (.slice none 0 0))).heap.size = wb.heap.size := by simp [World.setRow]
      have hz2 := HZ2.out
      exact ⟨_, rfl, by rw [HCC.out]; exact ⟨w2.heap.size, wa.heap.size, _, _, _, _, rfl, rfl, by omega, by omega, by omega, M.h2.1, M.h1.1.wide (Nat.le_refl _) (by omega), IntsIn.nil, IntsIn.nil, .inl ⟨rfl, rfl⟩⟩, M.below⟩
  · have hT := tilC_yes HF.out.symm
    have HCC : Hid (C = ⟨1, r, ps, nl (findL r ps), ⟨#[]⟩, 0, [], 0, [], 0, 0⟩) := Lib.hid (by rw [HC.out, hT.1])
    obtain rfl : B = true := by rw [HB.out, hT.2]
    obtain ⟨L, hL⟩ : ∃ L, L = nl (findL r ps) := ⟨_, rfl⟩
    rw [← hL] at HCC H1 ⊢
    clear hT hL
    have HK1 := Lib.hid (spec_copy_c w1 (HRD.out w1 H1.below) hr)
    go_wp2_with fail
    refine (HK1.out).mono ?_
    rintro e wa ⟨va, rfl, oa, ba⟩
    obtain ⟨qa, da, rfl, pa⟩ := oa.shape
    have HA := H1.area ba (fun u u' hs hp => IntsIn.keep hp hs) pa
    clear c0 c1 H1 HK1 oa pa
    have HK2 := Lib.hid (l33Copy_c wa (HR2.out wa HA.below) hn hl)
    go_wp2_with fail
    refine (HK2.out).mono ?_
    rintro e wb ⟨vb, rfl, ob, bb⟩
    obtain ⟨qb, db, rfl⟩ := ob.shape
    have HB2 := HA.area bb (fun u u' hs hp => ShpsIn.keep hp hs) ob
    have HZA := Lib.hid ba.size
    have HZB := Lib.hid bb.size
    clear HA HK2 ob ba bb
    have HALL : ((clmA 1 r.w 0 0 ⟨#[]⟩ (.slice qa r.rows.length da) (.slice qb ps.length db) (.slice q3 L.length d3) (.slice none 0 0) : Array Value).all (·.oneCell')) = true := by simp [Value.oneCell']
    go_wp2_with (refine wpList_store_row rfl 32 _ _ rfl (g + 1) (clmA 1 r.w 0 0 ⟨#[]⟩ (.slice qa r.rows.length da) (.slice qb ps.length db) (.slice q3 L.length d3) (.slice none 0 0)) rfl rfl 32 _ HB2.g3.h0 (by kernel_rfl) rfl HALL ?_)
    have M := HB2.g3.setAll (clmA 1 r.w 0 0 ⟨#[]⟩ (.slice qa r.rows.length da) (.slice qb ps.length db) (.slice q3 L.length d3) (.slice none 0 0))
    refine bodyPost_ret (v := .tuple #[.agg (clmA 1 r.w 0 0 ⟨#[]⟩ (.slice qa r.rows.length da) (.slice qb ps.length db) (.slice q3 L.length d3) (.slice none 0 0)), .bool true]) (results_clm Tryz.results7 _ _ (g + 1) 32 _ _ _ rfl M.h0 Tryz.underlying32 rfl (by kernel_rfl)) rfl ?_
    have hz0 := HZ0.out
    have hz1 := HZ1.out
    have hza := HZA.out
    have hzb := HZB.out
    have hzc : (wb.setRow (g + 1) (clmA 1 r.w 0 0 ⟨#[]⟩ (.slice qa r.rows.length da) (.slice qb ps.length db) (.slice q3 L.length d3) (.slice none 0 0))).heap.size = wb.heap.size := by simp [World.setRow]
    exact ⟨_, rfl, by rw [HCC.out]; exact ⟨w1.heap.size, wa.heap.size, _, _, _, _, rfl, rfl, by omega, by omega, by omega, M.h2.1, M.h1.1.wide (Nat.le_refl _) (by omega), M.h3.1.wide (by omega) (Nat.le_refl _), IntsIn.nil, .inr ⟨rfl, rfl⟩⟩, M.below⟩
set_option maxRecDepth 100000 in
set_option maxHeartbeats 1600000 in
theorem impl_ct_c {v v2 : Value} {r : Reg} {ps : List (List Cell)} (w : World) (h : RegRd w 0 w.heap.size v r) (h2 : CellSSRd w 0 w.heap.size v2 ps) (hr : r.rows.length ≤ 1048576) (hn : ps.length ≤ 1048576) (hl : ∀ s ∈ ps, s.length ≤ 1048576) (ht : Tab64 w) :
    Calls Tryz.prog 10 #[v, v2] w (MkPost (tilC r ps) (tilOk r ps) w) := by
  have HRD : Hid (∀ w1, Below w.heap.size w w1 → RegRd w1 0 w1.heap.size v r) := Lib.hid fun w1 b1 => (h.keep (SameIn.of_below b1 (Nat.le_refl _))).more (Nat.le_refl _) b1.size
  have HR2 : Hid (∀ w1, Below w.heap.size w w1 → CellSSRd w1 0 w1.heap.size v2 ps) := Lib.hid fun w1 b1 => (h2.keep (SameIn.of_below b1 (Nat.le_refl _))).more (Nat.le_refl _) b1.size
  have HTB : Hid (∀ w1, Below w.heap.size w w1 → Tab64 w1) := Lib.hid fun w1 b1 => tab64_on ht b1
  obtain ⟨C, hC⟩ : ∃ C, C = tilC r ps := ⟨_, rfl⟩
  obtain ⟨B, hB⟩ : ∃ C, C = tilOk r ps := ⟨_, rfl⟩
  rw [← hC, ← hB]
  have HC := Lib.hid hC
  have HB := Lib.hid hB
  obtain ⟨sr, rfl, hsr⟩ := h
  obtain ⟨A, c, rfl, _, _⟩ := hsr
  obtain ⟨vs, ⟨A2, c2, rfl, _, _⟩, _⟩ := h2
  have H0 := ((Sep.start w).box 28 #[.int .i64 r.w, .slice A r.rows.length c]).box 32 clm0
  simp only [World.size_alloc] at H0
  obtain ⟨g, hg⟩ : ∃ g, g = w.heap.size := ⟨_, rfl⟩
  rw [← hg] at H0
  clear hC hB ht
  go_enter Tryz.func10, Tryz.ntmps10
  go_upto_region 1 with fail
  rw [← hg]
  generalize ((w.alloc (.cells #[.int .i64 r.w, .slice A r.rows.length c] 28)).alloc (.cells clm0 32)) = W at *
  clear hg
  have c0 : W.cell? ⟨g, 0, none⟩ = some (.int .i64 r.w) := H0.h1.cell 0
  have c1 : W.cell? ⟨g, 1, none⟩ = some (.slice A r.rows.length c) := H0.h1.cell 1
  have HC1 := Lib.hid (impl_find_c W (HRD.out W H0.below) (HR2.out W H0.below) hn hl (HTB.out W H0.below))
  go_wp2_with fail
  refine (HC1.out).mono ?_
  rintro e w1 ⟨v1, rfl, o1, b1⟩
  obtain ⟨q3, d3, rfl, _, _⟩ := o1.rd
  have H1 := H0.area b1 (fun u u' hs hp => IntsIn.keep hp hs) o1
  have HZ0 : Hid (w.heap.size ≤ W.heap.size) := Lib.hid H0.below.size
  have HZ1 := Lib.hid b1.size
  clear c0 c1 H0 HC1 o1 b1
  obtain ⟨F, hF⟩ : ∃ F, F = findB r ps := ⟨_, rfl⟩
  rw [← hF]
  have HF := Lib.hid hF
  clear hF
  have c0 : w1.cell? ⟨g, 0, none⟩ = some (.int .i64 r.w) := H1.h2.cell 0
  have c1 : w1.cell? ⟨g, 1, none⟩ = some (.slice A r.rows.length c) := H1.h2.cell 1
  cases F
  · have HC2 := Lib.hid (impl_ref_c w1 (HRD.out w1 H1.below) (HR2.out w1 H1.below) hn hl (HTB.out w1 H1.below))
    go_wp2_with fail
    refine (HC2.out).mono ?_
    rintro e w2 ⟨rfl, b2⟩
    have H2 := H1.step b2
    clear c0 c1 H1 HC2
    obtain ⟨R, hR⟩ : ∃ F, F = refR r ps := ⟨_, rfl⟩
    rw [← hR]
    have HR := Lib.hid hR
    clear hR
    have c0 : w2.cell? ⟨g, 0, none⟩ = some (.int .i64 r.w) := H2.h2.cell 0
    have c1 : w2.cell? ⟨g, 1, none⟩ = some (.slice A r.rows.length c) := H2.h2.cell 1
    cases R with
    | none =>
      have hT := tilC_none HF.out.symm HR.out.symm
      obtain rfl : C = zeroC := by rw [HC.out, hT.1]
      obtain rfl : B = false := by rw [HB.out, hT.2]
      have HALL : ((clm0 : Array Value).all (·.oneCell')) = true := by simp [Value.oneCell']
      unfold spcV
      simp only [Option.isSome_none]
      clear hT
      go_wp2_with (refine wpList_store_row rfl 32 _ _ rfl (g + 1) clm0 rfl rfl 32 _ H2.g1.h0 (by kernel_rfl) rfl HALL ?_)
      have M := H2.g1.setAll clm0
      refine bodyPost_ret (v := .tuple #[.agg clm0, .bool false]) (results_clm Tryz.results10 _ _ (g + 1) 32 _ _ _ rfl M.h0 Tryz.underlying32 rfl (by kernel_rfl)) rfl ?_
      exact ⟨_, rfl, ClmIn.zero M.below.size, M.below⟩
    | some T =>
      have hT := tilC_no HF.out.symm HR.out.symm
      have HCC : Hid (C = ⟨2, r, ps, [], tb T, 0, [], 0, [], 0, 0⟩) := Lib.hid (by rw [HC.out, hT.1])
      obtain rfl : B = true := by rw [HB.out, hT.2]
      unfold spcV
      simp only [Option.isSome_some, Option.getD_some]
      obtain ⟨t, ht⟩ : ∃ t, t = tb T := ⟨_, rfl⟩
      rw [← ht] at HCC ⊢
      have HZ2 := Lib.hid b2.size
      clear hT ht b2
      have HK1 := Lib.hid (impl_claimOf_c 2 w2 (HRD.out w2 H2.below) (HR2.out w2 H2.below) hr hn hl)
      go_upto_region 9 with fail
      refine (HK1.out).mono ?_
      rintro e wa ⟨qa, da, qb, db, m, rfl, hma, hmb, oa, ob, ba⟩
      have HMA := Lib.hid hma
      have HMB := Lib.hid hmb
      clear hma hmb
      have HA := H2.area ba (P := fun u => IntsIn u w2.heap.size m (.slice qa r.rows.length da) r.rows ∧ ShpsIn u m wa.heap.size (.slice qb ps.length db) ps) (fun u u' hs hp => ⟨hp.1.keep fun b h1 h2 => hs b h1 (Nat.lt_of_lt_of_le h2 HMB.out), hp.2.keep fun b h1 h2 => hs b (Nat.le_trans HMA.out h1) h2⟩) ⟨oa, ob⟩
      clear c0 c1 H2 HK1 oa ob ba
      have HALL : ((clmA 2 r.w 0 0 ⟨#[]⟩ (.slice qa r.rows.length da) (.slice qb ps.length db) (.slice none 0 0) (.slice none 0 0) : Array Value).all (·.oneCell')) = true := by simp [Value.oneCell']
      have HALL2 : ((clmA 2 r.w 0 0 t (.slice qa r.rows.length da) (.slice qb ps.length db) (.slice none 0 0) (.slice none 0 0) : Array Value).all (·.oneCell')) = true := by simp [Value.oneCell']
      have H3 := (HA.box 32 clm0).setAll (clmA 2 r.w 0 0 ⟨#[]⟩ (.slice qa r.rows.length da) (.slice qb ps.length db) (.slice none 0 0) (.slice none 0 0))
      have y4 : ((wa.alloc (.cells clm0 32)).setRow wa.heap.size (clmA 2 r.w 0 0 ⟨#[]⟩ (.slice qa r.rows.length da) (.slice qb ps.length db) (.slice none 0 0) (.slice none 0 0))).cell? ⟨wa.heap.size, 5, none⟩ = some (.string ⟨#[]⟩) := H3.h0.cell 5
      have f4 := H3.h0.frozen 5
      go_upto_region 10 with (refine wpList_store_row rfl 32 _ _ rfl wa.heap.size (clmA 2 r.w 0 0 ⟨#[]⟩ (.slice qa r.rows.length da) (.slice qb ps.length db) (.slice none 0 0) (.slice none 0 0)) rfl rfl 32 _ (HA.box 32 clm0).h0 (by kernel_rfl) rfl HALL ?_)
      clear y4 f4
      have H4 := H3.set_ 5 (.string t)
      clear HA H3
      have hrow : (clmA 2 r.w 0 0 ⟨#[]⟩ (.slice qa r.rows.length da) (.slice qb ps.length db) (.slice none 0 0) (.slice none 0 0)).setIfInBounds 5 (.string t) = clmA 2 r.w 0 0 t (.slice qa r.rows.length da) (.slice qb ps.length db) (.slice none 0 0) (.slice none 0 0) := rfl
      rw [hrow] at H4
      have hza : wa.heap.size ≤ (((wa.alloc (.cells clm0 32)).setRow wa.heap.size (clmA 2 r.w 0 0 ⟨#[]⟩ (.slice qa r.rows.length da) (.slice qb ps.length db) (.slice none 0 0) (.slice none 0 0))).setCell ⟨wa.heap.size, 5, none⟩ (.string t)).heap.size := by simp [World.setRow, World.setCell]
      have HZA := Lib.hid hza
      clear hrow hza
      generalize (World.setCell _ _ _) = wb at *
      go_wp2_with (first
        | (refine wpList_load_rowW rfl 32 _ rfl (wa.heap.size) rfl 32 _ _ _ H4.h0 Tryz.underlying32 rfl (by kernel_rfl) ?_)
        | (refine wpList_store_row rfl 32 _ _ rfl (g + 1) (clmA 2 r.w 0 0 t (.slice qa r.rows.length da) (.slice qb ps.length db) (.slice none 0 0) (.slice none 0 0)) rfl rfl 32 _ H4.g3.h0 (by kernel_rfl) rfl HALL2 ?_))
      have M := H4.g3.setAll (clmA 2 r.w 0 0 t (.slice qa r.rows.length da) (.slice qb ps.length db) (.slice none 0 0) (.slice none 0 0))
      refine bodyPost_ret (v := .tuple #[.agg (clmA 2 r.w 0 0 t (.slice qa r.rows.length da) (.slice qb ps.length db) (.slice none 0 0) (.slice none 0 0)), .bool true]) (results_clm Tryz.results10 _ _ (g + 1) 32 _ _ _ rfl M.h0 Tryz.underlying32 rfl (by kernel_rfl)) rfl ?_
      have hz0 := HZ0.out
      have hz1 := HZ1.out
      have hza := HZA.out
      have hma := HMA.out
      have hmb := HMB.out
      have hzc : (wb.setRow (g + 1) (clmA 2 r.w 0 0 t (.slice qa r.rows.length da) (.slice qb ps.length db) (.slice none 0 0) (.slice none 0 0))).heap.size = wb.heap.size := by simp [World.setRow]
      have hz2 := HZ2.out
      exact ⟨_, rfl, by rw [HCC.out]; exact ⟨w2.heap.size, m, _, _, _, _, rfl, rfl, by omega, by omega, by omega, M.h2.1.1, M.h2.1.2.wide (Nat.le_refl _) (by omega), IntsIn.nil, IntsIn.nil, .inl ⟨rfl, rfl⟩⟩, M.below⟩
  · have hT := tilC_yes HF.out.symm
    have HCC : Hid (C = ⟨1, r, ps, nl (findL r ps), ⟨#[]⟩, 0, [], 0, [], 0, 0⟩) := Lib.hid (by rw [HC.out, hT.1])
    obtain rfl : B = true := by rw [HB.out, hT.2]
    obtain ⟨L, hL⟩ : ∃ L, L = nl (findL r ps) := ⟨_, rfl⟩
    rw [← hL] at HCC H1 ⊢
    clear hT hL
    have HK1 := Lib.hid (impl_claimOf_c 1 w1 (HRD.out w1 H1.below) (HR2.out w1 H1.below) hr hn hl)
    go_upto_region 4 with fail
    refine (HK1.out).mono ?_
    rintro e wa ⟨qa, da, qb, db, m, rfl, hma, hmb, oa, ob, ba⟩
    have HMA := Lib.hid hma
    have HMB := Lib.hid hmb
    clear hma hmb
    have HA := H1.area ba (P := fun u => IntsIn u w1.heap.size m (.slice qa r.rows.length da) r.rows ∧ ShpsIn u m wa.heap.size (.slice qb ps.length db) ps) (fun u u' hs hp => ⟨hp.1.keep fun b h1 h2 => hs b h1 (Nat.lt_of_lt_of_le h2 HMB.out), hp.2.keep fun b h1 h2 => hs b (Nat.le_trans HMA.out h1) h2⟩) ⟨oa, ob⟩
    clear c0 c1 H1 HK1 oa ob ba
    have HALL : ((clmA 1 r.w 0 0 ⟨#[]⟩ (.slice qa r.rows.length da) (.slice qb ps.length db) (.slice none 0 0) (.slice none 0 0) : Array Value).all (·.oneCell')) = true := by simp [Value.oneCell']
    have HALL2 : ((clmA 1 r.w 0 0 ⟨#[]⟩ (.slice qa r.rows.length da) (.slice qb ps.length db) (.slice q3 L.length d3) (.slice none 0 0) : Array Value).all (·.oneCell')) = true := by simp [Value.oneCell']
    have H3 := (HA.box 32 clm0).setAll (clmA 1 r.w 0 0 ⟨#[]⟩ (.slice qa r.rows.length da) (.slice qb ps.length db) (.slice none 0 0) (.slice none 0 0))
    have y4 : ((wa.alloc (.cells clm0 32)).setRow wa.heap.size (clmA 1 r.w 0 0 ⟨#[]⟩ (.slice qa r.rows.length da) (.slice qb ps.length db) (.slice none 0 0) (.slice none 0 0))).cell? ⟨wa.heap.size, 4, none⟩ = some (.slice none 0 0) := H3.h0.cell 4
    have f4 := H3.h0.frozen 4
    go_upto_region 5 with (refine wpList_store_row rfl 32 _ _ rfl wa.heap.size (clmA 1 r.w 0 0 ⟨#[]⟩ (.slice qa r.rows.length da) (.slice qb ps.length db) (.slice none 0 0) (.slice none 0 0)) rfl rfl 32 _ (HA.box 32 clm0).h0 (by kernel_rfl) rfl HALL ?_)
    clear y4 f4
    have H4 := H3.set_ 4 (.slice q3 L.length d3)
    clear HA H3
    have hrow : (clmA 1 r.w 0 0 ⟨#[]⟩ (.slice qa r.rows.length da) (.slice qb ps.length db) (.slice none 0 0) (.slice none 0 0)).setIfInBounds 4 (.slice q3 L.length d3) = clmA 1 r.w 0 0 ⟨#[]⟩ (.slice qa r.rows.length da) (.slice qb ps.length db) (.slice q3 L.length d3) (.slice none 0 0) := rfl
    rw [hrow] at H4
    have hza : wa.heap.size ≤ (((wa.alloc (.cells clm0 32)).setRow wa.heap.size (clmA 1 r.w 0 0 ⟨#[]⟩ (.slice qa r.rows.length da) (.slice qb ps.length db) (.slice none 0 0) (.slice none 0 0))).setCell ⟨wa.heap.size, 4, none⟩ (.slice q3 L.length d3)).heap.size := by simp [World.setRow, World.setCell]
    have HZA := Lib.hid hza
    clear hrow hza
    generalize (World.setCell _ _ _) = wb at *
    go_wp2_with (first
      | (refine wpList_load_rowW rfl 32 _ rfl (wa.heap.size) rfl 32 _ _ _ H4.h0 Tryz.underlying32 rfl (by kernel_rfl) ?_)
      | (refine wpList_store_row rfl 32 _ _ rfl (g + 1) (clmA 1 r.w 0 0 ⟨#[]⟩ (.slice qa r.rows.length da) (.slice qb ps.length db) (.slice q3 L.length d3) (.slice none 0 0)) rfl rfl 32 _ H4.g3.h0 (by kernel_rfl) rfl HALL2 ?_))
    have M := H4.g3.setAll (clmA 1 r.w 0 0 ⟨#[]⟩ (.slice qa r.rows.length da) (.slice qb ps.length db) (.slice q3 L.length d3) (.slice none 0 0))
    refine bodyPost_ret (v := .tuple #[.agg (clmA 1 r.w 0 0 ⟨#[]⟩ (.slice qa r.rows.length da) (.slice qb ps.length db) (.slice q3 L.length d3) (.slice none 0 0)), .bool true]) (results_clm Tryz.results10 _ _ (g + 1) 32 _ _ _ rfl M.h0 Tryz.underlying32 rfl (by kernel_rfl)) rfl ?_
    have hz0 := HZ0.out
    have hz1 := HZ1.out
    have hza := HZA.out
    have hma := HMA.out
    have hmb := HMB.out
    have hzc : (wb.setRow (g + 1) (clmA 1 r.w 0 0 ⟨#[]⟩ (.slice qa r.rows.length da) (.slice qb ps.length db) (.slice q3 L.length d3) (.slice none 0 0))).heap.size = wb.heap.size := by simp [World.setRow]
    exact ⟨_, rfl, by rw [HCC.out]; exact ⟨w1.heap.size, m, _, _, _, _, rfl, rfl, by omega, by omega, by omega, M.h2.1.1, M.h2.1.2.wide (Nat.le_refl _) (by omega), M.h3.1.wide (by omega) (Nat.le_refl _), IntsIn.nil, .inr ⟨rfl, rfl⟩⟩, M.below⟩
end Go.Proofs.YtjoglffhdoneoaaGreatDoor
