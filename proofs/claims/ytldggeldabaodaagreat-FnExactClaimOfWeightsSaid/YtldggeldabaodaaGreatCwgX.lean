
/-
  ClaimOfWeights: both walks.
-/
import Derived.Test.YtldggeldabaodaaGreatMclX
import Derived.Test.YtldggeldabaodaaGreatFwI
import Derived.Test.YtldggeldabaodaaGreatFwS
namespace Go.Proofs.YtldggeldabaodaaGreat
open Go.RowKit

/-- the claim of weights, or none -/
def wgtC (r : Reg) (ps : List (List Cell)) : Clm := match fwR r ps 2 with
  | some W => ⟨3, r, ps, [], ⟨#[]⟩, 2, W, 0, [], 0, 0⟩
  | none => match fwR r ps 3 with
    | some W => ⟨3, r, ps, [], ⟨#[]⟩, 3, W, 0, [], 0, 0⟩
    | none => match fwR r ps 5 with
      | some W => ⟨3, r, ps, [], ⟨#[]⟩, 5, W, 0, [], 0, 0⟩
      | none => zeroC
def wgtOk (r : Reg) (ps : List (List Cell)) : Bool := (fwR r ps 2).isSome || (fwR r ps 3).isSome || (fwR r ps 5).isSome
theorem fwR_prm {r : Reg} {ps : List (List Cell)} {p : Int} {W : List Int} (h : fwR r ps p = some W) : p = 2 ∨ p = 3 ∨ p = 5 := by
  unfold fwR at h
  split at h
  · rename_i h2
    exact prm_is h2.2
  · cases h
theorem wgtC_yes {r : Reg} {ps : List (List Cell)} {p : Int} {W : List Int} (h : fwR r ps p = some W) (h0 : ∀ q : Int, 2 ≤ q → q < p → fwR r ps q = none) : wgtC r ps = ⟨3, r, ps, [], ⟨#[]⟩, p, W, 0, [], 0, 0⟩ ∧ wgtOk r ps = true := by
  unfold wgtC wgtOk
  rcases fwR_prm h with rfl | rfl | rfl
  · rw [h]; exact ⟨rfl, rfl⟩
  · rw [h, h0 2 (by decide) (by decide)]; exact ⟨rfl, rfl⟩
  · rw [h, h0 2 (by decide) (by decide), h0 3 (by decide) (by decide)]; exact ⟨rfl, rfl⟩
theorem wgtC_none {r : Reg} {ps : List (List Cell)} (h0 : ∀ q : Int, 2 ≤ q → q < 6 → fwR r ps q = none) : wgtC r ps = zeroC ∧ wgtOk r ps = false := by
  unfold wgtC wgtOk
  rw [h0 2 (by decide) (by decide), h0 3 (by decide) (by decide), h0 5 (by decide) (by decide)]
  exact ⟨rfl, rfl⟩
theorem fwR_four {r : Reg} {ps : List (List Cell)} : fwR r ps 4 = none := by
  cases h : fwR r ps 4 with
  | none => rfl
  | some W => have := fwR_prm h; omega
theorem fwFrom_len {p : Int} {S : List (List Int) × List Nat} {n mask : Nat} : ∀ (d c : Nat) {W : List Int}, fwFrom p S n mask c d = some W → W.length = n
  | 0, c, W, h => by cases h
  | d + 1, c, W, h => by
    unfold fwFrom at h
    split at h
    · exact fwFrom_len d (c + 1) h
    · split at h
      · injection h with h
        rw [← h]
        exact wgtTo_len _
      · exact fwFrom_len d (c + 1) h
theorem fwR_len {r : Reg} {ps : List (List Cell)} {p : Int} {W : List Int} (h : fwR r ps p = some W) : W.length ≤ 36 := by
  unfold fwR at h
  split at h
  · rename_i h2
    have hv := Reg.valid_iff.1 (Bool.and_eq_true_iff.1 h2.1).1
    rw [fwFrom_len _ _ h]
    exact (Reg.size_le hv).2
  · cases h
set_option maxRecDepth 100000 in
set_option maxHeartbeats 1600000 in
theorem spec_cw_c {v v2 : Value} {r : Reg} {ps : List (List Cell)} (w : World) (h : RegRd w 0 w.heap.size v r) (h2 : CellSSRd w 0 w.heap.size v2 ps) (hr : r.rows.length ≤ 1048576) (hn : ps.length ≤ 1048576) (hl : ∀ s ∈ ps, s.length ≤ 1048576) :
    Calls Tryz.prog 19 #[v, v2] w (MkPost (wgtC r ps) (wgtOk r ps) w) := by
  have HRD : Hid (∀ w1, Below w.heap.size w w1 → RegRd w1 0 w1.heap.size v r) := Lib.hid fun w1 b1 => (h.keep (SameIn.of_below b1 (Nat.le_refl _))).more (Nat.le_refl _) b1.size
  have HR2 : Hid (∀ w1, Below w.heap.size w w1 → CellSSRd w1 0 w1.heap.size v2 ps) := Lib.hid fun w1 b1 => (h2.keep (SameIn.of_below b1 (Nat.le_refl _))).more (Nat.le_refl _) b1.size
  obtain ⟨C, hC⟩ : ∃ C, C = wgtC r ps := ⟨_, rfl⟩
  obtain ⟨B, hB⟩ : ∃ C, C = wgtOk r ps := ⟨_, rfl⟩
  rw [← hC, ← hB]
  have HC := Lib.hid hC
  have HB := Lib.hid hB
  obtain ⟨sr, rfl, hsr⟩ := h
  obtain ⟨A, c, rfl, _, _⟩ := hsr
  obtain ⟨vs, ⟨A2, c2, rfl, _, _⟩, _⟩ := h2
  have H0 := ((Sep.start w).box 28 #[.int .i64 r.w, .slice A r.rows.length c]).box 32 clm0
  simp only [World.size_alloc] at H0
  obtain ⟨g, hg⟩ : ∃ g, g = w.heap.size := ⟨_, rfl⟩
  rw [← hg] at H0
  clear hC hB
  go_enter Tryz.func19, Tryz.ntmps19
  go_upto_region 1 with fail
  rw [← hg]
  generalize ((w.alloc (.cells #[.int .i64 r.w, .slice A r.rows.length c] 28)).alloc (.cells clm0 32)) = W at *
  clear hg
  go_wp2
  go_loopw [6] (fun pv wx => ∃ p : Int, 2 ≤ p ∧ p ≤ 6 ∧ pv = .int .i64 p ∧ Hid (∀ q : Int, 2 ≤ q → q < p → fwR r ps q = none) ∧ Sep w wx [Res.box (g + 1) 32 clm0, Res.box g 28 #[.int .i64 r.w, .slice A r.rows.length c]]) (fun pv _ => (6 - intOf pv).toNat)
  case atStart => exact ⟨2, by decide, by decide, rfl, Lib.hid (fun q h1 h2 => by omega), H0⟩
  case round =>
    clear H0
    obtain ⟨p, hp2, hp6, rfl, HF, H⟩ := hrel
    by_cases hp5 : p ≤ 5
    · have c0 : wr.cell? ⟨g, 0, none⟩ = some (.int .i64 r.w) := H.h1.cell 0
      have c1 : wr.cell? ⟨g, 1, none⟩ = some (.slice A r.rows.length c) := H.h1.cell 1
      have HC1 := Lib.hid (spec_fw_c wr (HRD.out wr H.below) (HR2.out wr H.below) hn hl hp2 hp5)
      obtain ⟨R, hR⟩ : ∃ R, R = fwR r ps p := ⟨_, rfl⟩
      rw [← hR] at HC1
      have HR := Lib.hid hR
      clear hR
      unfold FwPost at HC1
      go_wp2_with fail
      refine (HC1.out).mono ?_
      rintro e w1 ⟨v1, bb, rfl, hbb, o1, b1⟩
      cases R with
      | none =>
        have hb0 : bb = false := hbb
        subst hb0
        have H1 := H.step b1
        have HF2 : Hid (∀ q : Int, 2 ≤ q → q < p + 1 → fwR r ps q = none) := Lib.hid (fun q h1 h2 => by
          by_cases e : q = p
          · rw [e]; exact HR.out.symm
          · exact HF.out q h1 (by omega))
        clear c0 c1 H HC1 o1 b1 hbb
        go_wp2
        go_roundw
        case rel => exact ⟨p + 1, by omega, by omega, by go_num, HF2, H1⟩
        case measure => simp [intOf]; omega
      | some L =>
        have hb0 : bb = true := hbb
        subst hb0
        have o2 : IntsIn w1 wr.heap.size w1.heap.size v1 L := o1
        obtain ⟨q3, d3, rfl, _, _⟩ := o2.rd
        have H1 := H.area b1 (fun u u' hs hp => IntsIn.keep hp hs) o2
        have HZ0 : Hid (w.heap.size ≤ wr.heap.size) := Lib.hid H.below.size
        have HZ1 := Lib.hid b1.size
        have hT := wgtC_yes HR.out.symm HF.out
        have HCC : Hid (C = ⟨3, r, ps, [], ⟨#[]⟩, p, L, 0, [], 0, 0⟩) := Lib.hid (by rw [HC.out, hT.1])
        obtain rfl : B = true := by rw [HB.out, hT.2]
        clear c0 c1 H HC1 o1 o2 b1 hbb hT
        have c0 : w1.cell? ⟨g, 0, none⟩ = some (.int .i64 r.w) := H1.h2.cell 0
        have c1 : w1.cell? ⟨g, 1, none⟩ = some (.slice A r.rows.length c) := H1.h2.cell 1
        have HK1 := Lib.hid (spec_copy_c w1 (HRD.out w1 H1.below) hr)
        go_wp2_with fail
        refine (HK1.out).mono ?_
        rintro e wa ⟨va, rfl, oa, ba⟩
        obtain ⟨qa, da, rfl, pa⟩ := oa.shape
        have HA := H1.area ba (fun u u' hs hp => IntsIn.keep hp hs) pa
        clear c0 c1 H1 HK1 oa pa
        have HK2 := Lib.hid (l33Copy_c wa (HR2.out wa HA.below) hn hl)
        go_wp2_with fail
        refine (HK2.out).mono ?_
        rintro e wb ⟨vb, rfl, ob, bb⟩
        obtain ⟨qb, db, rfl⟩ := ob.shape
        have HB2 := HA.area bb (fun u u' hs hp => ShpsIn.keep hp hs) ob
        have HZA := Lib.hid ba.size
        have HZB := Lib.hid bb.size
        clear HA HK2 ob ba bb
        have HALL : ((clmA 3 r.w p 0 ⟨#[]⟩ (.slice qa r.rows.length da) (.slice qb ps.length db) (.slice none 0 0) (.slice q3 L.length d3) : Array Value).all (·.oneCell')) = true := by simp [Value.oneCell']
        go_wp2_with (refine wpList_store_row rfl 32 _ _ rfl (g + 1) (clmA 3 r.w p 0 ⟨#[]⟩ (.slice qa r.rows.length da) (.slice qb ps.length db) (.slice none 0 0) (.slice q3 L.length d3)) rfl rfl 32 _ HB2.g3.h0 (by kernel_rfl) rfl HALL ?_)
        have M := HB2.g3.setAll (clmA 3 r.w p 0 ⟨#[]⟩ (.slice qa r.rows.length da) (.slice qb ps.length db) (.slice none 0 0) (.slice q3 L.length d3))
        refine bodyPost_ret (v := .tuple #[.agg (clmA 3 r.w p 0 ⟨#[]⟩ (.slice qa r.rows.length da) (.slice qb ps.length db) (.slice none 0 0) (.slice q3 L.length d3)), .bool true]) (results_clm Tryz.results19 _ _ (g + 1) 32 _ _ _ rfl M.h0 Tryz.underlying32 rfl (by kernel_rfl)) rfl ?_
        have hz0 := HZ0.out
        have hz1 := HZ1.out
        have hza := HZA.out
        have hzb := HZB.out
        have hzc : (wb.setRow (g + 1) (clmA 3 r.w p 0 ⟨#[]⟩ (.slice qa r.rows.length da) (.slice qb ps.length db) (.slice none 0 0) (.slice q3 L.length d3))).heap.size = wb.heap.size := by simp [World.setRow]
        exact ⟨_, rfl, by rw [HCC.out]; exact ⟨w1.heap.size, wa.heap.size, _, _, _, _, rfl, rfl, by omega, by omega, by omega, M.h2.1, M.h1.1.wide (Nat.le_refl _) (by omega), IntsIn.nil, M.h3.1.wide (by omega) (Nat.le_refl _), .inl ⟨rfl, rfl⟩⟩, M.below⟩
    · have hT := wgtC_none (r := r) (ps := ps) (fun q h1 h2 => HF.out q h1 (by omega))
      obtain rfl : C = zeroC := by rw [HC.out, hT.1]
      obtain rfl : B = false := by rw [HB.out, hT.2]
      have HALL : ((clm0 : Array Value).all (·.oneCell')) = true := by simp [Value.oneCell']
      clear hT
      go_wp2_with (refine wpList_store_row rfl 32 _ _ rfl (g + 1) clm0 rfl rfl 32 _ H.h0 (by kernel_rfl) rfl HALL ?_)
      have M := H.setAll clm0
      refine bodyPost_ret (v := .tuple #[.agg clm0, .bool false]) (results_clm Tryz.results19 _ _ (g + 1) 32 _ _ _ rfl M.h0 Tryz.underlying32 rfl (by kernel_rfl)) rfl ?_
      exact ⟨_, rfl, ClmIn.zero M.below.size, M.below⟩
def prN (i : Nat) : Int := if i = 0 then 2 else if i = 1 then 3 else if i = 2 then 5 else 6
theorem prN_at {i : Nat} (h : i < 3) : ([2, 3, 5] : List Int)[i]? = some (prN i) ∧ 2 ≤ prN i ∧ prN i ≤ 5 := by
  have h3 : i = 0 ∨ i = 1 ∨ i = 2 := by omega
  rcases h3 with rfl | rfl | rfl <;> exact ⟨rfl, by decide, by decide⟩
theorem prN_next {r : Reg} {ps : List (List Cell)} {i : Nat} (h : i < 3) (h0 : ∀ q : Int, 2 ≤ q → q < prN i → fwR r ps q = none) (h1 : fwR r ps (prN i) = none) : ∀ q : Int, 2 ≤ q → q < prN (i + 1) → fwR r ps q = none := by
  have h3 : i = 0 ∨ i = 1 ∨ i = 2 := by omega
  intro q hq1 hq2
  rcases h3 with rfl | rfl | rfl <;> simp [prN] at h0 h1 hq2
  · obtain rfl : q = 2 := by omega
    exact h1
  · by_cases e : q = 3
    · rw [e]; exact h1
    · by_cases e4 : q = 4
      · rw [e4]; exact fwR_four
      · exact h0 q hq1 (by omega)
  · by_cases e : q = 5
    · rw [e]; exact h1
    · exact h0 q hq1 (by omega)
set_option maxRecDepth 100000 in
set_option maxHeartbeats 1600000 in
theorem impl_cw_c {v v2 : Value} {r : Reg} {ps : List (List Cell)} (w : World) (h : RegRd w 0 w.heap.size v r) (h2 : CellSSRd w 0 w.heap.size v2 ps) (hr : r.rows.length ≤ 1048576) (hn : ps.length ≤ 1048576) (hl : ∀ s ∈ ps, s.length ≤ 1048576) :
    Calls Tryz.prog 20 #[v, v2] w (MkPost (wgtC r ps) (wgtOk r ps) w) := by
  have HRD : Hid (∀ w1, Below w.heap.size w w1 → RegRd w1 0 w1.heap.size v r) := Lib.hid fun w1 b1 => (h.keep (SameIn.of_below b1 (Nat.le_refl _))).more (Nat.le_refl _) b1.size
  have HR2 : Hid (∀ w1, Below w.heap.size w w1 → CellSSRd w1 0 w1.heap.size v2 ps) := Lib.hid fun w1 b1 => (h2.keep (SameIn.of_below b1 (Nat.le_refl _))).more (Nat.le_refl _) b1.size
  obtain ⟨C, hC⟩ : ∃ C, C = wgtC r ps := ⟨_, rfl⟩
  obtain ⟨B, hB⟩ : ∃ C, C = wgtOk r ps := ⟨_, rfl⟩
  rw [← hC, ← hB]
  have HC := Lib.hid hC
  have HB := Lib.hid hB
  obtain ⟨sr, rfl, hsr⟩ := h
  obtain ⟨A, c, rfl, _, _⟩ := hsr
  obtain ⟨vs, ⟨A2, c2, rfl, _, _⟩, _⟩ := h2
  have H0 := ((Sep.start w).box 28 #[.int .i64 r.w, .slice A r.rows.length c]).box 32 clm0
  simp only [World.size_alloc] at H0
  obtain ⟨g, hg⟩ : ∃ g, g = w.heap.size := ⟨_, rfl⟩
  rw [← hg] at H0
  clear hC hB
  go_enter Tryz.func20, Tryz.ntmps20
  go_upto_region 1 with fail
  rw [← hg]
  generalize ((w.alloc (.cells #[.int .i64 r.w, .slice A r.rows.length c] 28)).alloc (.cells clm0 32)) = W at *
  clear hg
  have H1 := H0.rowBox 3 #[.int .i64 2, .int .i64 3, .int .i64 5] 1 3 rfl (by decide)
  obtain ⟨h0, hh0⟩ : ∃ h0, h0 = W.heap.size := ⟨_, rfl⟩
  rw [← hh0] at H1
  go_wp2
  rw [← hh0]
  generalize W.alloc (.cells #[.int .i64 2, .int .i64 3, .int .i64 5] 3) = W2 at *
  clear hh0 H0
  go_loopw [13] (fun iv wx => ∃ i : Nat, i ≤ 3 ∧ iv = .int .i64 i ∧ Hid (∀ q : Int, 2 ≤ q → q < prN i → fwR r ps q = none) ∧ Sep w wx [Res.row (.slice (some ⟨h0, 0, none⟩) 3 3) 3 1 3 (ic [2, 3, 5]), Res.box (g + 1) 32 clm0, Res.box g 28 #[.int .i64 r.w, .slice A r.rows.length c]]) (fun iv _ => 3 - (intOf iv).toNat)
  case atStart => exact ⟨0, by decide, rfl, Lib.hid (fun q h1 h2 => by simp [prN] at h2; omega), H1⟩
  case round =>
    clear H1
    obtain ⟨i, hi3, rfl, HF, H⟩ := hrel
    by_cases hil : i < 3
    · have hili : (i : Int) < 3 := by omega
      obtain ⟨hpa, hp2, hp5⟩ := prN_at hil
      have yp := own_cell1 H.h0 hpa
      rw [Nat.zero_add] at yp
      have hh0 : h0 < wr.heap.size := own_lt H.h0 h0 rfl
      obtain ⟨p, hp⟩ : ∃ p, p = prN i := ⟨_, rfl⟩
      rw [← hp] at yp hp2 hp5
      have HPP := Lib.hid hp
      clear hpa hp
      have c0 : wr.cell? ⟨g, 0, none⟩ = some (.int .i64 r.w) := H.h2.cell 0
      have c1 : wr.cell? ⟨g, 1, none⟩ = some (.slice A r.rows.length c) := H.h2.cell 1
      have HC1 := Lib.hid (impl_fw_c wr (HRD.out wr H.below) (HR2.out wr H.below) hn hl hp2 hp5)
      obtain ⟨R, hR⟩ : ∃ R, R = fwR r ps p := ⟨_, rfl⟩
      rw [← hR] at HC1
      have HR := Lib.hid hR
      clear hR
      unfold FwPost at HC1
      go_wp2_with fail
      refine (HC1.out).mono ?_
      rintro e w1 ⟨v1, bb, rfl, hbb, o1, b1⟩
      clear yp hh0
      cases R with
      | none =>
        have hb0 : bb = false := hbb
        subst hb0
        have H1 := H.step b1
        have HF2 : Hid (∀ q : Int, 2 ≤ q → q < prN (i + 1) → fwR r ps q = none) := Lib.hid (prN_next hil HF.out (by rw [← HPP.out]; exact HR.out.symm))
        clear c0 c1 H HC1 o1 b1 hbb
        go_wp2
        go_roundw
        case rel => exact ⟨i + 1, by omega, by go_num, HF2, H1⟩
        case measure => simp [intOf]; omega
      | some L =>
        have hb0 : bb = true := hbb
        subst hb0
        have o2 : IntsIn w1 wr.heap.size w1.heap.size v1 L := o1
        obtain ⟨q3, d3, rfl, _, _⟩ := o2.rd
        have H1 := H.drop.area b1 (fun u u' hs hp => IntsIn.keep hp hs) o2
        have HZ0 : Hid (w.heap.size ≤ wr.heap.size) := Lib.hid H.below.size
        have HZ1 := Lib.hid b1.size
        have hT := wgtC_yes HR.out.symm (by rw [HPP.out]; exact HF.out)
        have HCC : Hid (C = ⟨3, r, ps, [], ⟨#[]⟩, p, L, 0, [], 0, 0⟩) := Lib.hid (by rw [HC.out, hT.1])
        obtain rfl : B = true := by rw [HB.out, hT.2]
        clear c0 c1 H HC1 o1 o2 b1 hbb hT
        have c0 : w1.cell? ⟨g, 0, none⟩ = some (.int .i64 r.w) := H1.h2.cell 0
        have c1 : w1.cell? ⟨g, 1, none⟩ = some (.slice A r.rows.length c) := H1.h2.cell 1
        have HK1 := Lib.hid (impl_claimOf_c 3 w1 (HRD.out w1 H1.below) (HR2.out w1 H1.below) hr hn hl)
        go_upto_region 7 with fail
        refine (HK1.out).mono ?_
        rintro e wa ⟨qa, da, qb, db, m, rfl, hma, hmb, oa, ob, ba⟩
        have HMA := Lib.hid hma
        have HMB := Lib.hid hmb
        clear hma hmb
        have HA := H1.area ba (P := fun u => IntsIn u w1.heap.size m (.slice qa r.rows.length da) r.rows ∧ ShpsIn u m wa.heap.size (.slice qb ps.length db) ps) (fun u u' hs hp => ⟨hp.1.keep fun b h1 h2 => hs b h1 (Nat.lt_of_lt_of_le h2 HMB.out), hp.2.keep fun b h1 h2 => hs b (Nat.le_trans HMA.out h1) h2⟩) ⟨oa, ob⟩
        clear c0 c1 H1 HK1 oa ob ba
        have HALL : ((clmA 3 r.w 0 0 ⟨#[]⟩ (.slice qa r.rows.length da) (.slice qb ps.length db) (.slice none 0 0) (.slice none 0 0) : Array Value).all (·.oneCell')) = true := by simp [Value.oneCell']
        have HALL2 : ((clmA 3 r.w p 0 ⟨#[]⟩ (.slice qa r.rows.length da) (.slice qb ps.length db) (.slice none 0 0) (.slice q3 L.length d3) : Array Value).all (·.oneCell')) = true := by simp [Value.oneCell']
        have H3 := (HA.box 32 clm0).setAll (clmA 3 r.w 0 0 ⟨#[]⟩ (.slice qa r.rows.length da) (.slice qb ps.length db) (.slice none 0 0) (.slice none 0 0))
        obtain ⟨W3, hW3⟩ : ∃ W3, W3 = (wa.alloc (.cells clm0 32)).setRow wa.heap.size (clmA 3 r.w 0 0 ⟨#[]⟩ (.slice qa r.rows.length da) (.slice qb ps.length db) (.slice none 0 0) (.slice none 0 0)) := ⟨_, rfl⟩
        rw [← hW3] at H3
        go_upto_region 7 with (refine wpList_store_row rfl 32 _ _ rfl wa.heap.size (clmA 3 r.w 0 0 ⟨#[]⟩ (.slice qa r.rows.length da) (.slice qb ps.length db) (.slice none 0 0) (.slice none 0 0)) rfl rfl 32 _ (HA.box 32 clm0).h0 (by kernel_rfl) rfl HALL ?_)
        rw [← hW3]
        have hz3 : W3.heap.size = wa.heap.size + 1 := by rw [hW3]; simp [World.setRow]
        have HZ3 := Lib.hid hz3
        clear hW3 hz3 HA
        have hgl : wa.heap.size < W3.heap.size := H3.h0.lt
        have y6 : W3.cell? ⟨wa.heap.size, 6, none⟩ = some (.int .i64 0) := H3.h0.cell 6
        have f6 := H3.h0.frozen 6
        have H4 := H3.set_ 6 (.int .i64 p)
        have y7 : (W3.setCell ⟨wa.heap.size, 6, none⟩ (.int .i64 p)).cell? ⟨wa.heap.size, 7, none⟩ = some (.slice none 0 0) := H4.h0.cell 7
        have f7 := H4.h0.frozen 7
        have H5 := H4.set_ 7 (.slice q3 L.length d3)
        have hrow : ((clmA 3 r.w 0 0 ⟨#[]⟩ (.slice qa r.rows.length da) (.slice qb ps.length db) (.slice none 0 0) (.slice none 0 0)).setIfInBounds 6 (.int .i64 p)).setIfInBounds 7 (.slice q3 L.length d3) = clmA 3 r.w p 0 ⟨#[]⟩ (.slice qa r.rows.length da) (.slice qb ps.length db) (.slice none 0 0) (.slice q3 L.length d3) := rfl
        rw [hrow] at H5
        have hza : wa.heap.size ≤ ((W3.setCell ⟨wa.heap.size, 6, none⟩ (.int .i64 p)).setCell ⟨wa.heap.size, 7, none⟩ (.slice q3 L.length d3)).heap.size := by simp [World.setCell, HZ3.out]
        have HZA := Lib.hid hza
        clear hrow hza H3 H4
        go_upto_region 8 with fail
        clear y6 y7 f6 f7 hgl
        generalize (World.setCell (World.setCell _ _ _) _ _) = wb at *
        go_wp2_with (first
          | (refine wpList_load_rowW rfl 32 _ rfl wa.heap.size rfl 32 _ _ _ H5.h0 Tryz.underlying32 rfl (by kernel_rfl) ?_)
          | (refine wpList_store_row rfl 32 _ _ rfl (g + 1) (clmA 3 r.w p 0 ⟨#[]⟩ (.slice qa r.rows.length da) (.slice qb ps.length db) (.slice none 0 0) (.slice q3 L.length d3)) rfl rfl 32 _ H5.g3.h0 (by kernel_rfl) rfl HALL2 ?_))
        have M := H5.g3.setAll (clmA 3 r.w p 0 ⟨#[]⟩ (.slice qa r.rows.length da) (.slice qb ps.length db) (.slice none 0 0) (.slice q3 L.length d3))
        refine bodyPost_ret (v := .tuple #[.agg (clmA 3 r.w p 0 ⟨#[]⟩ (.slice qa r.rows.length da) (.slice qb ps.length db) (.slice none 0 0) (.slice q3 L.length d3)), .bool true]) (results_clm Tryz.results20 _ _ (g + 1) 32 _ _ _ rfl M.h0 Tryz.underlying32 rfl (by kernel_rfl)) rfl ?_
        have hz0 := HZ0.out
        have hz1 := HZ1.out
        have hza := HZA.out
        have hma := HMA.out
        have hmb := HMB.out
        have hzc : (wb.setRow (g + 1) (clmA 3 r.w p 0 ⟨#[]⟩ (.slice qa r.rows.length da) (.slice qb ps.length db) (.slice none 0 0) (.slice q3 L.length d3))).heap.size = wb.heap.size := by simp [World.setRow]
        exact ⟨_, rfl, by rw [HCC.out]; exact ⟨w1.heap.size, m, _, _, _, _, rfl, rfl, by omega, by omega, by omega, M.h2.1.1, M.h2.1.2.wide (Nat.le_refl _) (by omega), IntsIn.nil, M.h3.1.wide (by omega) (Nat.le_refl _), .inl ⟨rfl, rfl⟩⟩, M.below⟩
    · obtain rfl : i = 3 := by omega
      have hT := wgtC_none (r := r) (ps := ps) HF.out
      obtain rfl : C = zeroC := by rw [HC.out, hT.1]
      obtain rfl : B = false := by rw [HB.out, hT.2]
      have HALL : ((clm0 : Array Value).all (·.oneCell')) = true := by simp [Value.oneCell']
      clear hT hil
      go_wp2_with (refine wpList_store_row rfl 32 _ _ rfl (g + 1) clm0 rfl rfl 32 _ H.h1 (by kernel_rfl) rfl HALL ?_)
      have M := H.g1.setAll clm0
      refine bodyPost_ret (v := .tuple #[.agg clm0, .bool false]) (results_clm Tryz.results20 _ _ (g + 1) 32 _ _ _ rfl M.h0 Tryz.underlying32 rfl (by kernel_rfl)) rfl ?_
      exact ⟨_, rfl, ClmIn.zero M.below.size, M.below⟩
end Go.Proofs.YtldggeldabaodaaGreat
