
/-
  ClaimOfUnique: both walks.
-/
import Derived.Test.YtldggeldabaodaaGreatMclX
import Derived.Test.YtldggeldabaodaaGreatPzU
namespace Go.Proofs.YtldggeldabaodaaGreat
open Go.RowKit

theorem claim_set12 {w0 wb : World} {g : Nat} {L : List Res} {o0 o1 o2 o3 o4 o5 o6 o7 o8 o9 o10 o11 v0 v1 v2 v3 v4 v5 v6 v7 v8 v9 v10 v11 : Value} (H : Sep w0 wb (Res.box g 32 #[o0, o1, o2, o3, o4, o5, o6, o7, o8, o9, o10, o11] :: L)) :
    Sep w0 ((((((((((((wb.setCell ⟨g, 0, none⟩ v0).setCell ⟨g, 1, none⟩ v1).setCell ⟨g, 2, none⟩ v2).setCell ⟨g, 3, none⟩ v3).setCell ⟨g, 4, none⟩ v4).setCell ⟨g, 5, none⟩ v5).setCell ⟨g, 6, none⟩ v6).setCell ⟨g, 7, none⟩ v7).setCell ⟨g, 8, none⟩ v8).setCell ⟨g, 9, none⟩ v9).setCell ⟨g, 10, none⟩ v10).setCell ⟨g, 11, none⟩ v11) (Res.box g 32 #[v0, v1, v2, v3, v4, v5, v6, v7, v8, v9, v10, v11] :: L) := by
  have h := ((((((((((((H.set_ 0 v0).set_ 1 v1).set_ 2 v2).set_ 3 v3).set_ 4 v4).set_ 5 v5).set_ 6 v6).set_ 7 v7).set_ 8 v8).set_ 9 v9).set_ 10 v10).set_ 11 v11)
  simpa using h
/-- the claim of a single solution, or none -/
def unqC (r : Reg) (ps : List (List Cell)) : Clm := match pzM r ps with
  | [t] => ⟨6, r, ps, nl t, ⟨#[]⟩, 0, [], 0, [], 0, 0⟩
  | _ => zeroC
def unqOk (r : Reg) (ps : List (List Cell)) : Bool := decide ((pzM r ps).length = 1)
theorem unq_yes {r : Reg} {ps : List (List Cell)} {t : List Nat} (h : pzM r ps = [t]) : unqC r ps = ⟨6, r, ps, nl t, ⟨#[]⟩, 0, [], 0, [], 0, 0⟩ ∧ unqOk r ps = true := by
  unfold unqC unqOk; rw [h]; exact ⟨rfl, rfl⟩
theorem unq_no {r : Reg} {ps : List (List Cell)} (h : (pzM r ps).length ≠ 1) : unqC r ps = zeroC ∧ unqOk r ps = false := by
  unfold unqC unqOk
  refine ⟨?_, decide_eq_false h⟩
  match hm : pzM r ps, h with
  | [], _ => rfl
  | [t], h => exact absurd rfl h
  | a :: b :: T, _ => rfl
theorem Sep.rowsOiZ {w0 w : World} {L : List Res} {vs : List Value} {M : List (List Int)} (h : Sep w0 w (Res.rows vs M :: L)) {i : Nat} {u : Value} {r : List Int} (hu : vs[i]? = some u) (hr : M[i]? = some r) : OI w w0.heap.size w.heap.size 3 1 u r.length (ic r) := by
  have h1 := RowsAt.own h.h0 i u r hu hr
  refine ⟨⟨h1.1, ?_⟩, fun k hk => own_lt h1 k hk⟩
  rcases h1.2 with hn | ⟨g, cap, cur, e, hbg, rest⟩
  · exact .inl hn
  · exact .inr ⟨g, cap, cur, e, h.2.1 g ⟨_, List.mem_of_getElem? hu, by rw [e]; rfl⟩, rest⟩
theorem step_store_rowZ {P : Program} {ops : Array Oper} {o : Oper} {a : Act} {w : World} {K : Act → World → Prop} {Q : Exit → Act → World → Prop} {E : Prop} (hgd : o.guard = none) (ty : TypeId) (x y : Operand) (ho : o.op = .store ty x y)
    (g : Nat) (cells : Array Value) (hx : a.eval x = .pointer (some ⟨g, 0, none⟩)) (hy : a.eval y = .agg cells)
    (t : TypeId) (old : Array Value) (hg : w.heap[g]? = some (.cells old t (0, 0))) (hi : (P.info? ty).map (·.size) = some cells.size)
    (hold : old.size = cells.size) (h1 : cells.all (·.oneCell') = true)
    (h : K (a.put o.dst undef) (w.setRow g cells)) : if Region.wanted o (yielded ops a.tmps) = true then Oper.wp P o a w K Q else E := by
  have hw : Region.wanted o (yielded ops a.tmps) = true := by simp [Region.wanted, hgd]
  rw [if_pos hw]
  exact wp_store_row ty x y ho g cells hx hy t old hg hi hold h1 h
set_option maxRecDepth 100000 in
set_option maxHeartbeats 3200000 in
theorem impl_cu_c {v v2 : Value} {r : Reg} {ps : List (List Cell)} (w : World) (h : RegRd w 0 w.heap.size v r) (h2 : CellSSRd w 0 w.heap.size v2 ps) (hr : r.rows.length ≤ 1048576) (hn : ps.length ≤ 1048576) (hl : ∀ s ∈ ps, s.length ≤ 1048576) :
    Calls Tryz.prog 11 #[v, v2] w (MkPost (unqC r ps) (unqOk r ps) w) := by
  have HRD : Hid (∀ w1, Below w.heap.size w w1 → RegRd w1 0 w1.heap.size v r) := Lib.hid fun w1 b1 => (h.keep (SameIn.of_below b1 (Nat.le_refl _))).more (Nat.le_refl _) b1.size
  have HR2 : Hid (∀ w1, Below w.heap.size w w1 → CellSSRd w1 0 w1.heap.size v2 ps) := Lib.hid fun w1 b1 => (h2.keep (SameIn.of_below b1 (Nat.le_refl _))).more (Nat.le_refl _) b1.size
  obtain ⟨C, hC⟩ : ∃ C, C = unqC r ps := ⟨_, rfl⟩
  obtain ⟨B, hB⟩ : ∃ C, C = unqOk r ps := ⟨_, rfl⟩
  rw [← hC, ← hB]
  have HC := Lib.hid hC
  have HB := Lib.hid hB
  obtain ⟨sr, rfl, hsr⟩ := h
  obtain ⟨A, c, rfl, _, _⟩ := hsr
  obtain ⟨vs, ⟨A2, c2, rfl, _, _⟩, _⟩ := h2
  have H0 := ((Sep.start w).box 28 #[.int .i64 r.w, .slice A r.rows.length c]).box 32 clm0
  simp only [World.size_alloc] at H0
  obtain ⟨g, hg⟩ : ∃ g, g = w.heap.size := ⟨_, rfl⟩
  rw [← hg] at H0
  clear hC hB
  go_enter Tryz.func11, Tryz.ntmps11
  go_upto_region 1 with fail
  rw [← hg]
  generalize ((w.alloc (.cells #[.int .i64 r.w, .slice A r.rows.length c] 28)).alloc (.cells clm0 32)) = W at *
  clear hg
  have c0 : W.cell? ⟨g, 0, none⟩ = some (.int .i64 r.w) := H0.h1.cell 0
  have c1 : W.cell? ⟨g, 1, none⟩ = some (.slice A r.rows.length c) := H0.h1.cell 1
  have HC1 := Lib.hid (impl_pzs_c W (HRD.out W H0.below) (HR2.out W H0.below) hn hl)
  obtain ⟨K, hK⟩ : ∃ K, K = (r.valid && arePcs ps) := ⟨_, rfl⟩
  rw [← hK] at HC1
  have HKK := Lib.hid hK
  clear hK
  obtain ⟨M, hM⟩ : ∃ M, M = pzM r ps := ⟨_, rfl⟩
  rw [← hM] at HC1
  have HM := Lib.hid hM
  clear hM
  go_wp2_with fail
  refine (HC1.out).mono ?_
  rintro e w1 ⟨ov, vs6, n6, L6, rfl, hn6, H6⟩
  obtain ⟨Ao, co, rfl, _, _, _⟩ := Res.row_at H6.h0
  have HN6 := Lib.hid hn6
  clear c0 c1 HC1 hn6
  by_cases hone : K = true ∧ n6 = 1
  · obtain ⟨rfl, rfl⟩ := hone
    obtain ⟨t, rfl⟩ : ∃ t, M = [t] := by
      have := HN6.out
      match M, this with
      | [t], _ => exact ⟨t, rfl⟩
    have hvl : vs6.length = 1 := RowsAt.len H6.h1
    obtain ⟨u, rfl⟩ : ∃ u, vs6 = [u] := by
      match vs6, hvl with
      | [u], _ => exact ⟨u, rfl⟩
    obtain ⟨g6, rfl⟩ : ∃ g6, Ao = some ⟨g6, 0, none⟩ := by
      obtain ⟨b, off, c', e, _⟩ := own_shape H6.h0 (by omega)
      injection e with e1
      subst e1
      obtain ⟨rfl, _⟩ := own_blk H6.h0
      exact ⟨b, rfl⟩
    have x0 : w1.cell? ⟨g6, 0, none⟩ = some u := by have := own_cell H6.h0 (j := 0) (u := u) rfl; rwa [Nat.zero_add] at this
    have hg6 : W.heap.size ≤ g6 := H6.2.1 g6 rfl
    have hg61 : g6 < w1.heap.size := own_lt H6.h0 g6 rfl
    have ho : IntsIn w1 W.heap.size w1.heap.size u (nl t) := H6.drop.rowsOiZ (i := 0) rfl rfl
    have b1 := H6.below
    obtain ⟨L, hL⟩ : ∃ L, L = nl t := ⟨_, rfl⟩
    rw [← hL] at ho
    obtain ⟨q3, d3, rfl, _, _⟩ := ho.rd
    have hT := unq_yes HM.out.symm
    have HCC : Hid (C = ⟨6, r, ps, L, ⟨#[]⟩, 0, [], 0, [], 0, 0⟩) := Lib.hid (by rw [HC.out, hT.1, hL])
    obtain rfl : B = true := by rw [HB.out, hT.2]
    have H1 := H0.area b1 (P := fun x => IntsIn x W.heap.size w1.heap.size (.slice q3 L.length d3) L ∧ x.cell? ⟨g6, 0, none⟩ = some (.slice q3 L.length d3)) (fun u u' hs hp => ⟨hp.1.keep hs, (World.cell?_of_block (hs g6 hg6 hg61)).trans hp.2⟩) ⟨ho, x0⟩
    have HZ0 : Hid (w.heap.size ≤ W.heap.size) := Lib.hid H0.below.size
    have HZ1 := Lib.hid b1.size
    clear H6 H0 x0 ho b1 hT hL hvl
    have c0 : w1.cell? ⟨g, 0, none⟩ = some (.int .i64 r.w) := H1.h2.cell 0
    have c1 : w1.cell? ⟨g, 1, none⟩ = some (.slice A r.rows.length c) := H1.h2.cell 1
    have HK1 := Lib.hid (impl_claimOf_c 6 w1 (HRD.out w1 H1.below) (HR2.out w1 H1.below) hr hn hl)
    go_upto_region 5 with fail
    refine (HK1.out).mono ?_
    rintro e wa ⟨qa, da, qb, db, m, rfl, hma, hmb, oa, ob, ba⟩
    have HMA := Lib.hid hma
    have HMB := Lib.hid hmb
    clear hma hmb
    have HA := H1.area ba (P := fun u => IntsIn u w1.heap.size m (.slice qa r.rows.length da) r.rows ∧ ShpsIn u m wa.heap.size (.slice qb ps.length db) ps) (fun u u' hs hp => ⟨hp.1.keep fun b h1 h2 => hs b h1 (Nat.lt_of_lt_of_le h2 HMB.out), hp.2.keep fun b h1 h2 => hs b (Nat.le_trans HMA.out h1) h2⟩) ⟨oa, ob⟩
    clear c0 c1 H1 HK1 oa ob ba
    have HALL : ((clmA 6 r.w 0 0 ⟨#[]⟩ (.slice qa r.rows.length da) (.slice qb ps.length db) (.slice none 0 0) (.slice none 0 0) : Array Value).all (·.oneCell')) = true := by simp [Value.oneCell']
    have HALL2 : ((clmA 6 r.w 0 0 ⟨#[]⟩ (.slice qa r.rows.length da) (.slice qb ps.length db) (.slice q3 L.length d3) (.slice none 0 0) : Array Value).all (·.oneCell')) = true := by simp [Value.oneCell']
    have H3 := (HA.box 32 clm0).setAll (clmA 6 r.w 0 0 ⟨#[]⟩ (.slice qa r.rows.length da) (.slice qb ps.length db) (.slice none 0 0) (.slice none 0 0))
    have y4 : ((wa.alloc (.cells clm0 32)).setRow wa.heap.size (clmA 6 r.w 0 0 ⟨#[]⟩ (.slice qa r.rows.length da) (.slice qb ps.length db) (.slice none 0 0) (.slice none 0 0))).cell? ⟨wa.heap.size, 4, none⟩ = some (.slice none 0 0) := H3.h0.cell 4
    have f4 := H3.h0.frozen 4
    have yl : ((wa.alloc (.cells clm0 32)).setRow wa.heap.size (clmA 6 r.w 0 0 ⟨#[]⟩ (.slice qa r.rows.length da) (.slice qb ps.length db) (.slice none 0 0) (.slice none 0 0))).cell? ⟨g6, 0, none⟩ = some (.slice q3 L.length d3) := H3.h2.1.2
    go_upto_region 6 with (refine wpList_store_row rfl 32 _ _ rfl wa.heap.size (clmA 6 r.w 0 0 ⟨#[]⟩ (.slice qa r.rows.length da) (.slice qb ps.length db) (.slice none 0 0) (.slice none 0 0)) rfl rfl 32 _ (HA.box 32 clm0).h0 (by kernel_rfl) rfl HALL ?_)
    clear y4 f4 yl
    have H4 := H3.set_ 4 (.slice q3 L.length d3)
    clear HA H3
    have hrow : (clmA 6 r.w 0 0 ⟨#[]⟩ (.slice qa r.rows.length da) (.slice qb ps.length db) (.slice none 0 0) (.slice none 0 0)).setIfInBounds 4 (.slice q3 L.length d3) = clmA 6 r.w 0 0 ⟨#[]⟩ (.slice qa r.rows.length da) (.slice qb ps.length db) (.slice q3 L.length d3) (.slice none 0 0) := rfl
    rw [hrow] at H4
    have hza : wa.heap.size ≤ (((wa.alloc (.cells clm0 32)).setRow wa.heap.size (clmA 6 r.w 0 0 ⟨#[]⟩ (.slice qa r.rows.length da) (.slice qb ps.length db) (.slice none 0 0) (.slice none 0 0))).setCell ⟨wa.heap.size, 4, none⟩ (.slice q3 L.length d3)).heap.size := by simp [World.setRow, World.setCell]
    have HZA := Lib.hid hza
    clear hrow hza
    generalize (World.setCell _ _ _) = wb at *
    go_wp2_with (first
      | (refine wpList_load_rowW rfl 32 _ rfl (wa.heap.size) rfl 32 _ _ _ H4.h0 Tryz.underlying32 rfl (by kernel_rfl) ?_)
      | (refine wpList_store_row rfl 32 _ _ rfl (g + 1) (clmA 6 r.w 0 0 ⟨#[]⟩ (.slice qa r.rows.length da) (.slice qb ps.length db) (.slice q3 L.length d3) (.slice none 0 0)) rfl rfl 32 _ H4.g3.h0 (by kernel_rfl) rfl HALL2 ?_))
    have M := H4.g3.setAll (clmA 6 r.w 0 0 ⟨#[]⟩ (.slice qa r.rows.length da) (.slice qb ps.length db) (.slice q3 L.length d3) (.slice none 0 0))
    refine bodyPost_ret (v := .tuple #[.agg (clmA 6 r.w 0 0 ⟨#[]⟩ (.slice qa r.rows.length da) (.slice qb ps.length db) (.slice q3 L.length d3) (.slice none 0 0)), .bool true]) (results_clm Tryz.results11 _ _ (g + 1) 32 _ _ _ rfl M.h0 Tryz.underlying32 rfl (by kernel_rfl)) rfl ?_
    have hz0 := HZ0.out
    have hz1 := HZ1.out
    have hza := HZA.out
    have hma := HMA.out
    have hmb := HMB.out
    have hzc : (wb.setRow (g + 1) (clmA 6 r.w 0 0 ⟨#[]⟩ (.slice qa r.rows.length da) (.slice qb ps.length db) (.slice q3 L.length d3) (.slice none 0 0))).heap.size = wb.heap.size := by simp [World.setRow]
    exact ⟨_, rfl, by rw [HCC.out]; exact ⟨w1.heap.size, m, _, _, _, _, rfl, rfl, by omega, by omega, by omega, M.h2.1.1, M.h2.1.2.wide (Nat.le_refl _) (by omega), M.h3.1.1.wide (by omega) (Nat.le_refl _), IntsIn.nil, .inr ⟨rfl, rfl⟩⟩, M.below⟩
  · have hne1 : (pzM r ps).length ≠ 1 := by
      intro h1
      rw [← HM.out, ← HN6.out] at h1
      refine hone ⟨?_, h1⟩
      cases hk : K with
      | true => rfl
      | false =>
        have := pzM_no (r := r) (ps := ps) (by rw [← HKK.out]; exact hk)
        rw [← HM.out] at this
        have h2 := HN6.out
        rw [this] at h2
        simp at h2; omega
    have hT := unq_no hne1
    obtain rfl : C = zeroC := by rw [HC.out, hT.1]
    obtain rfl : B = false := by rw [HB.out, hT.2]
    have HALL : ((clm0 : Array Value).all (·.oneCell')) = true := by simp [Value.oneCell']
    have H7 := H0.step H6.below
    have HON := Lib.hid hone
    clear hT hne1 H6 H0 hone
    cases K
    · go_wp2_with (refine wpList_store_row rfl 32 _ _ rfl (g + 1) clm0 rfl rfl 32 _ H7.h0 (by kernel_rfl) rfl HALL ?_)
      have M := H7.setAll clm0
      refine bodyPost_ret (v := .tuple #[.agg clm0, .bool false]) (results_clm Tryz.results11 _ _ (g + 1) 32 _ _ _ rfl M.h0 Tryz.underlying32 rfl (by kernel_rfl)) rfl ?_
      exact ⟨_, rfl, ClmIn.zero M.below.size, M.below⟩
    · have h61 : n6 ≠ 1 := fun e => HON.out ⟨rfl, e⟩
      have hn1 : ((n6 : Int) == 1) = false := by simp; omega
      have hn2 : ((n6 : Int) != 1) = true := by simp; omega
      go_wp2_with (refine wpList_store_row rfl 32 _ _ rfl (g + 1) clm0 rfl rfl 32 _ H7.h0 (by kernel_rfl) rfl HALL ?_)
      have M := H7.setAll clm0
      refine bodyPost_ret (v := .tuple #[.agg clm0, .bool false]) (results_clm Tryz.results11 _ _ (g + 1) 32 _ _ _ rfl M.h0 Tryz.underlying32 rfl (by kernel_rfl)) rfl ?_
      exact ⟨_, rfl, ClmIn.zero M.below.size, M.below⟩
set_option maxRecDepth 100000 in
set_option maxHeartbeats 3200000 in
theorem spec_cu_c {v v2 : Value} {r : Reg} {ps : List (List Cell)} (w : World) (h : RegRd w 0 w.heap.size v r) (h2 : CellSSRd w 0 w.heap.size v2 ps) (hr : r.rows.length ≤ 1048576) (hn : ps.length ≤ 1048576) (hl : ∀ s ∈ ps, s.length ≤ 1048576) :
    Calls Tryz.prog 8 #[v, v2] w (MkPost (unqC r ps) (unqOk r ps) w) := by
  have HRD : Hid (∀ w1, Below w.heap.size w w1 → RegRd w1 0 w1.heap.size v r) := Lib.hid fun w1 b1 => (h.keep (SameIn.of_below b1 (Nat.le_refl _))).more (Nat.le_refl _) b1.size
  have HR2 : Hid (∀ w1, Below w.heap.size w w1 → CellSSRd w1 0 w1.heap.size v2 ps) := Lib.hid fun w1 b1 => (h2.keep (SameIn.of_below b1 (Nat.le_refl _))).more (Nat.le_refl _) b1.size
  obtain ⟨C, hC⟩ : ∃ C, C = unqC r ps := ⟨_, rfl⟩
  obtain ⟨B, hB⟩ : ∃ C, C = unqOk r ps := ⟨_, rfl⟩
  rw [← hC, ← hB]
  have HC := Lib.hid hC
  have HB := Lib.hid hB
  obtain ⟨sr, rfl, hsr⟩ := h
  obtain ⟨A, c, rfl, _, _⟩ := hsr
  obtain ⟨vs, ⟨A2, c2, rfl, _, _⟩, _⟩ := h2
  have H0 := ((Sep.start w).box 28 #[.int .i64 r.w, .slice A r.rows.length c]).box 32 clm0
  simp only [World.size_alloc] at H0
  obtain ⟨g, hg⟩ : ∃ g, g = w.heap.size := ⟨_, rfl⟩
  rw [← hg] at H0
  clear hC hB
  go_enter Tryz.func8, Tryz.ntmps8
  go_upto_region 1 with fail
  rw [← hg]
  generalize ((w.alloc (.cells #[.int .i64 r.w, .slice A r.rows.length c] 28)).alloc (.cells clm0 32)) = W at *
  clear hg
  have c0 : W.cell? ⟨g, 0, none⟩ = some (.int .i64 r.w) := H0.h1.cell 0
  have c1 : W.cell? ⟨g, 1, none⟩ = some (.slice A r.rows.length c) := H0.h1.cell 1
  have HC1 := Lib.hid (spec_pzs_c W (HRD.out W H0.below) (HR2.out W H0.below) hn hl)
  obtain ⟨K, hK⟩ : ∃ K, K = (r.valid && arePcs ps) := ⟨_, rfl⟩
  rw [← hK] at HC1
  have HKK := Lib.hid hK
  clear hK
  obtain ⟨M, hM⟩ : ∃ M, M = pzM r ps := ⟨_, rfl⟩
  rw [← hM] at HC1
  have HM := Lib.hid hM
  clear hM
  go_wp2_with fail
  refine (HC1.out).mono ?_
  rintro e w1 ⟨ov, vs6, n6, L6, rfl, hn6, H6⟩
  obtain ⟨Ao, co, rfl, _, _, _⟩ := Res.row_at H6.h0
  have HN6 := Lib.hid hn6
  clear c0 c1 HC1 hn6
  by_cases hone : K = true ∧ n6 = 1
  · obtain ⟨rfl, rfl⟩ := hone
    obtain ⟨t, rfl⟩ : ∃ t, M = [t] := by
      have := HN6.out
      match M, this with
      | [t], _ => exact ⟨t, rfl⟩
    have hvl : vs6.length = 1 := RowsAt.len H6.h1
    obtain ⟨u, rfl⟩ : ∃ u, vs6 = [u] := by
      match vs6, hvl with
      | [u], _ => exact ⟨u, rfl⟩
    obtain ⟨g6, rfl⟩ : ∃ g6, Ao = some ⟨g6, 0, none⟩ := by
      obtain ⟨b, off, c', e, _⟩ := own_shape H6.h0 (by omega)
      injection e with e1
      subst e1
      obtain ⟨rfl, _⟩ := own_blk H6.h0
      exact ⟨b, rfl⟩
    have x0 : w1.cell? ⟨g6, 0, none⟩ = some u := by have := own_cell H6.h0 (j := 0) (u := u) rfl; rwa [Nat.zero_add] at this
    have hg6 : W.heap.size ≤ g6 := H6.2.1 g6 rfl
    have hg61 : g6 < w1.heap.size := own_lt H6.h0 g6 rfl
    have ho : IntsIn w1 W.heap.size w1.heap.size u (nl t) := H6.drop.rowsOiZ (i := 0) rfl rfl
    have b1 := H6.below
    obtain ⟨L, hL⟩ : ∃ L, L = nl t := ⟨_, rfl⟩
    rw [← hL] at ho
    obtain ⟨q3, d3, rfl, _, _⟩ := ho.rd
    have hT := unq_yes HM.out.symm
    have HCC : Hid (C = ⟨6, r, ps, L, ⟨#[]⟩, 0, [], 0, [], 0, 0⟩) := Lib.hid (by rw [HC.out, hT.1, hL])
    obtain rfl : B = true := by rw [HB.out, hT.2]
    have H1 := H0.area b1 (P := fun x => IntsIn x W.heap.size w1.heap.size (.slice q3 L.length d3) L ∧ x.cell? ⟨g6, 0, none⟩ = some (.slice q3 L.length d3)) (fun u u' hs hp => ⟨hp.1.keep hs, (World.cell?_of_block (hs g6 hg6 hg61)).trans hp.2⟩) ⟨ho, x0⟩
    have HZ0 : Hid (w.heap.size ≤ W.heap.size) := Lib.hid H0.below.size
    have HZ1 := Lib.hid b1.size
    clear H6 H0 x0 ho b1 hT hL hvl
    have H2 := H1.drew
    have c0 : w1.drew.cell? ⟨g, 0, none⟩ = some (.int .i64 r.w) := H2.h2.cell 0
    have c1 : w1.drew.cell? ⟨g, 1, none⟩ = some (.slice A r.rows.length c) := H2.h2.cell 1
    have yl : w1.drew.cell? ⟨g6, 0, none⟩ = some (.slice q3 L.length d3) := H2.h0.1.2
    have HK1 := Lib.hid (spec_copy_c w1.drew (HRD.out w1.drew H2.below) hr)
    have HK2 : Hid (∀ u, Below w.heap.size w u → Calls Tryz.prog 27 #[.slice A2 ps.length c2] u (CpyC ps u)) := Lib.hid fun u hu => l33Copy_c u (HR2.out u hu) hn hl
    clear H1
    go_wp2_with fail
    go_region_with
      (first
        | (go_at_call 26; (with_reducible refine (HK1.out).mono ?_); rintro e wa ⟨va, rfl, oa, ba⟩; obtain ⟨qa, da, rfl, pa⟩ := oa.shape; have HA := H2.area ba (fun u u' hs hp => IntsIn.keep hp hs) pa; have d0 : wa.cell? ⟨g, 0, none⟩ = some (.int .i64 r.w) := HA.h3.cell 0; have d1 : wa.cell? ⟨g, 1, none⟩ = some (.slice A r.rows.length c) := HA.h3.cell 1; have ya : wa.cell? ⟨g6, 0, none⟩ = some (.slice q3 L.length d3) := HA.h1.1.2)
        | (go_at_call 27; (with_reducible refine (HK2.out wa HA.below).mono ?_); rintro e wb ⟨vb, rfl, ob, bb⟩; obtain ⟨qb, db, rfl⟩ := ob.shape; have HB2 := HA.area bb (fun u u' hs hp => ShpsIn.keep hp hs) ob; have e0 : wb.cell? ⟨g, 0, none⟩ = some (.int .i64 r.w) := HB2.h4.cell 0; have e1 : wb.cell? ⟨g, 1, none⟩ = some (.slice A r.rows.length c) := HB2.h4.cell 1; have yb : wb.cell? ⟨g6, 0, none⟩ = some (.slice q3 L.length d3) := HB2.h2.1.2; have HALL : ((clmA 6 r.w 0 0 ⟨#[]⟩ (.slice qa r.rows.length da) (.slice qb ps.length db) (.slice q3 L.length d3) (.slice none 0 0) : Array Value).all (·.oneCell')) = true := (by simp [Value.oneCell']); have k0 : wb.cell? ⟨g + 1, 0, none⟩ = some (.int .i64 0) := HB2.h3.cell 0; have fr0 : wb.frozen? ⟨g + 1, 0, none⟩ = false := HB2.h3.frozen 0; have k1 : wb.cell? ⟨g + 1, 1, none⟩ = some (.int .i64 0) := HB2.h3.cell 1; have fr1 : wb.frozen? ⟨g + 1, 1, none⟩ = false := HB2.h3.frozen 1; have k2 : wb.cell? ⟨g + 1, 2, none⟩ = some (.slice none 0 0) := HB2.h3.cell 2; have fr2 : wb.frozen? ⟨g + 1, 2, none⟩ = false := HB2.h3.frozen 2; have k3 : wb.cell? ⟨g + 1, 3, none⟩ = some (.slice none 0 0) := HB2.h3.cell 3; have fr3 : wb.frozen? ⟨g + 1, 3, none⟩ = false := HB2.h3.frozen 3; have k4 : wb.cell? ⟨g + 1, 4, none⟩ = some (.slice none 0 0) := HB2.h3.cell 4; have fr4 : wb.frozen? ⟨g + 1, 4, none⟩ = false := HB2.h3.frozen 4; have k5 : wb.cell? ⟨g + 1, 5, none⟩ = some (.string ⟨#[]⟩) := HB2.h3.cell 5; have fr5 : wb.frozen? ⟨g + 1, 5, none⟩ = false := HB2.h3.frozen 5; have k6 : wb.cell? ⟨g + 1, 6, none⟩ = some (.int .i64 0) := HB2.h3.cell 6; have fr6 : wb.frozen? ⟨g + 1, 6, none⟩ = false := HB2.h3.frozen 6; have k7 : wb.cell? ⟨g + 1, 7, none⟩ = some (.slice none 0 0) := HB2.h3.cell 7; have fr7 : wb.frozen? ⟨g + 1, 7, none⟩ = false := HB2.h3.frozen 7; have k8 : wb.cell? ⟨g + 1, 8, none⟩ = some (.int .i64 0) := HB2.h3.cell 8; have fr8 : wb.frozen? ⟨g + 1, 8, none⟩ = false := HB2.h3.frozen 8; have k9 : wb.cell? ⟨g + 1, 9, none⟩ = some (.slice none 0 0) := HB2.h3.cell 9; have fr9 : wb.frozen? ⟨g + 1, 9, none⟩ = false := HB2.h3.frozen 9; have k10 : wb.cell? ⟨g + 1, 10, none⟩ = some (.int .i64 0) := HB2.h3.cell 10; have fr10 : wb.frozen? ⟨g + 1, 10, none⟩ = false := HB2.h3.frozen 10; have k11 : wb.cell? ⟨g + 1, 11, none⟩ = some (.int .i64 0) := HB2.h3.cell 11; have fr11 : wb.frozen? ⟨g + 1, 11, none⟩ = false := HB2.h3.frozen 11))
    all_goals
      have M := claim_set12 (v0 := .int .i64 6) (v1 := .int .i64 r.w) (v2 := .slice qa r.rows.length da) (v3 := .slice qb ps.length db) (v4 := .slice q3 L.length d3) (v5 := .string ⟨#[]⟩) (v6 := .int .i64 0) (v7 := .slice none 0 0) (v8 := .int .i64 0) (v9 := .slice none 0 0) (v10 := .int .i64 0) (v11 := .int .i64 0) HB2.g3
      have hza := ba.size
      have hzb := bb.size
      have hzc : (((((((((((((wb.setCell ⟨g + 1, 0, none⟩ (.int .i64 6)).setCell ⟨g + 1, 1, none⟩ (.int .i64 r.w)).setCell ⟨g + 1, 2, none⟩ (.slice qa r.rows.length da)).setCell ⟨g + 1, 3, none⟩ (.slice qb ps.length db)).setCell ⟨g + 1, 4, none⟩ (.slice q3 L.length d3)).setCell ⟨g + 1, 5, none⟩ (.string ⟨#[]⟩)).setCell ⟨g + 1, 6, none⟩ (.int .i64 0)).setCell ⟨g + 1, 7, none⟩ (.slice none 0 0)).setCell ⟨g + 1, 8, none⟩ (.int .i64 0)).setCell ⟨g + 1, 9, none⟩ (.slice none 0 0)).setCell ⟨g + 1, 10, none⟩ (.int .i64 0)).setCell ⟨g + 1, 11, none⟩ (.int .i64 0))).heap.size = wb.heap.size := by simp [World.setCell]
      have HZA := Lib.hid hza
      have HZB := Lib.hid hzb
      have HZC := Lib.hid hzc
      clear k0 fr0 k1 fr1 k2 fr2 k3 fr3 k4 fr4 k5 fr5 k6 fr6 k7 fr7 k8 fr8 k9 fr9 k10 fr10 k11 fr11
      clear hza hzb hzc HB2 HA c0 c1 yl d0 d1 ya e0 e1 yb oa pa ob H2 HK1 HK2
      obtain ⟨wf, hwf⟩ : ∃ x, x = ((((((((((((wb.setCell ⟨g + 1, 0, none⟩ (.int .i64 6)).setCell ⟨g + 1, 1, none⟩ (.int .i64 r.w)).setCell ⟨g + 1, 2, none⟩ (.slice qa r.rows.length da)).setCell ⟨g + 1, 3, none⟩ (.slice qb ps.length db)).setCell ⟨g + 1, 4, none⟩ (.slice q3 L.length d3)).setCell ⟨g + 1, 5, none⟩ (.string ⟨#[]⟩)).setCell ⟨g + 1, 6, none⟩ (.int .i64 0)).setCell ⟨g + 1, 7, none⟩ (.slice none 0 0)).setCell ⟨g + 1, 8, none⟩ (.int .i64 0)).setCell ⟨g + 1, 9, none⟩ (.slice none 0 0)).setCell ⟨g + 1, 10, none⟩ (.int .i64 0)).setCell ⟨g + 1, 11, none⟩ (.int .i64 0)) := ⟨_, rfl⟩
      rw [← hwf] at M HZC ⊢
      clear hwf
      go_wp2
      refine bodyPost_ret (v := .tuple #[.agg (clmA 6 r.w 0 0 ⟨#[]⟩ (.slice qa r.rows.length da) (.slice qb ps.length db) (.slice q3 L.length d3) (.slice none 0 0)), .bool true]) (results_clm Tryz.results8 _ _ (g + 1) 32 _ _ _ rfl M.h0 Tryz.underlying32 rfl (by kernel_rfl)) rfl ?_
      have hz0 := HZ0.out
      have hz1 := HZ1.out
      have hza := HZA.out
      have hzb := HZB.out
      have hzc := HZC.out
      have hzd : w1.drew.heap.size = w1.heap.size := rfl
      exact ⟨_, rfl, by rw [HCC.out]; exact ⟨w1.drew.heap.size, wa.heap.size, _, _, _, _, rfl, rfl, by omega, by omega, by omega, M.h2.1, M.h1.1.wide (Nat.le_refl _) (by omega), M.h3.1.1.wide (by omega) (by omega), IntsIn.nil, .inr ⟨rfl, rfl⟩⟩, M.below⟩
  · have hne1 : (pzM r ps).length ≠ 1 := by
      intro h1
      rw [← HM.out, ← HN6.out] at h1
      refine hone ⟨?_, h1⟩
      cases hk : K with
      | true => rfl
      | false =>
        have := pzM_no (r := r) (ps := ps) (by rw [← HKK.out]; exact hk)
        rw [← HM.out] at this
        have h2 := HN6.out
        rw [this] at h2
        simp at h2; omega
    have hT := unq_no hne1
    obtain rfl : C = zeroC := by rw [HC.out, hT.1]
    obtain rfl : B = false := by rw [HB.out, hT.2]
    have HALL : ((clm0 : Array Value).all (·.oneCell')) = true := by simp [Value.oneCell']
    have H7 := H0.step H6.below
    have HON := Lib.hid hone
    clear hT hne1 H6 H0 hone
    cases K
    · go_wp2_with (refine wpList_store_row rfl 32 _ _ rfl (g + 1) clm0 rfl rfl 32 _ H7.h0 (by kernel_rfl) rfl HALL ?_)
      have M := H7.setAll clm0
      refine bodyPost_ret (v := .tuple #[.agg clm0, .bool false]) (results_clm Tryz.results8 _ _ (g + 1) 32 _ _ _ rfl M.h0 Tryz.underlying32 rfl (by kernel_rfl)) rfl ?_
      exact ⟨_, rfl, ClmIn.zero M.below.size, M.below⟩
    · have h61 : n6 ≠ 1 := fun e => HON.out ⟨rfl, e⟩
      have hn1 : ((n6 : Int) == 1) = false := by simp; omega
      have hn2 : ((n6 : Int) != 1) = true := by simp; omega
      go_wp2_with (refine wpList_store_row rfl 32 _ _ rfl (g + 1) clm0 rfl rfl 32 _ H7.h0 (by kernel_rfl) rfl HALL ?_)
      have M := H7.setAll clm0
      refine bodyPost_ret (v := .tuple #[.agg clm0, .bool false]) (results_clm Tryz.results8 _ _ (g + 1) 32 _ _ _ rfl M.h0 Tryz.underlying32 rfl (by kernel_rfl)) rfl ?_
      exact ⟨_, rfl, ClmIn.zero M.below.size, M.below⟩
end Go.Proofs.YtldggeldabaodaaGreat
