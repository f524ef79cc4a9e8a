
/-
  The law FnScales, walked by contracts.
-/
import Derived.Test.YtppbkiajcpdkiaaGreatDoorFsA
import Derived.Test.YtppbkiajcpdkiaaGreatDoorFsD
import Derived.Test.YtppbkiajcpdkiaaGreatDoorFsE
import Derived.Test.YtppbkiajcpdkiaaGreatDoorFsF
import Derived.Deep.DeepCutAuto
import Derived.Deep.RegionHeld3
namespace Go.Proofs.YtppbkiajcpdkiaaGreatDoor
open Go.RowKit

theorem i_stepX {w w' : World} {v : Value} {l : List Int} (h : IntsRd w 0 w.heap.size v l) (b : Below w.heap.size w w') : IntsRd w' 0 w'.heap.size v l := (h.keep (SameIn.of_below b (Nat.le_refl _))).more (Nat.le_refl _) b.size
theorem reg_stepX {w w' : World} {v : Value} {r : Reg} (h : RegRd w 0 w.heap.size v r) (b : Below w.heap.size w w') : RegRd w' 0 w'.heap.size v r := (h.keep (SameIn.of_below b (Nat.le_refl _))).more (Nat.le_refl _) b.size
theorem cells_stepX {w w' : World} {v : Value} {r : List Cell} (h : CellsRd w 0 w.heap.size v r) (b : Below w.heap.size w w') : CellsRd w' 0 w'.heap.size v r := (h.keep (SameIn.of_below b (Nat.le_refl _))).more (Nat.le_refl _) b.size
set_option maxRecDepth 100000 in
theorem eqReg_sameX {v v' : Value} {a : Reg} (w : World) (h : RegRd w 0 w.heap.size v a) (h' : RegRd w 0 w.heap.size v' a) :
    Calls Tryz.prog 11 #[v, v'] w fun e w' => e = .returned (.bool true) ∧ Below w.heap.size w w' := by
  have := spec_eqReg_c w h h'
  rwa [same_t rfl] at this
theorem boxX_rd {w0 w1 : World} {r : Reg} {s : Value} (o : IntsIn w1 w0.heap.size w1.heap.size s r.rows) (b : Below w0.heap.size w0 w1) :
    ∃ A c, s = .slice A r.rows.length c ∧ Below w1.heap.size w1 (w1.alloc (.cells #[.int .i64 r.w, .slice A r.rows.length c] 29)) ∧ Sep w0 (w1.alloc (.cells #[.int .i64 r.w, .slice A r.rows.length c] 29)) [Res.box w1.heap.size 29 #[.int .i64 r.w, .slice A r.rows.length c], Res.row (.slice A r.rows.length c) 3 1 r.rows.length (ic r.rows)] := by
  have H := (Sep.start w0).oiNew b o
  obtain ⟨A, c, rfl, _, _, _⟩ := Res.row_at H.h0
  exact ⟨A, c, rfl, ((Sep.start w1).box 29 #[.int .i64 r.w, .slice A r.rows.length c]).below, H.box 29 #[.int .i64 r.w, .slice A r.rows.length c]⟩
set_option maxRecDepth 100000 in
set_option maxHeartbeats 6400000 in
theorem law_fsc (v : Value) (l : List UInt8) (w : World) (h : BytesRd w 0 w.heap.size v l) (htab : Tab64 w) :
    Calls Tryz.prog 3 #[v] w fun e w' => e = .returned (.bool true) ∧ Below w.heap.size w w' := by
  by_cases hl : l.length ≤ 1048576
  · have HBY : Hid (∀ w', Below w.heap.size w w' → BytesRd w' 0 w'.heap.size v l) := Lib.hid fun w' b => (h.keep (SameIn.of_below b (Nat.le_refl _))).more (Nat.le_refl _) b.size
    have HTB : Hid (∀ w', Below w.heap.size w w' → Tab64 w') := Lib.hid fun w' b => tab64_on htab b
    go_enter Tryz.func3, Tryz.ntmps3
    go_wp2_with fail
    refine (big_no w h hl).mono ?_
    rintro e w' ⟨rfl, rfl⟩
    go_wp2_with fail
    refine (drawScaled_c w h hl).mono ?_
    rintro e W1 ⟨va, s, k, rfl, hs, hs8, hk, b1⟩
    have HW1 := Lib.hid b1
    have HS : Hid (∀ w', Below W1.heap.size W1 w' → CellsRd w' 0 w'.heap.size va s) := Lib.hid fun w' b => cells_stepX hs b
    have HT : Hid (∀ w', Below W1.heap.size W1 w' → Tab64 w') := Lib.hid fun w' b => HTB.out w' (b1.trans (b.mono b1.size))
    obtain ⟨A, c, rfl, hsm, _⟩ := hs
    obtain ⟨B, hB⟩ : ∃ B, B = scB s k := ⟨_, rfl⟩
    obtain ⟨D, hD⟩ : ∃ B, B = rtB s k := ⟨_, rfl⟩
    obtain ⟨X, hX⟩ : ∃ X, X = scX s k := ⟨_, rfl⟩
    obtain ⟨L, hL⟩ : ∃ X, X = rtL s k := ⟨_, rfl⟩
    obtain ⟨AR, hAR⟩ : ∃ q, q = areaR X := ⟨_, rfl⟩
    have HBD : Hid (B = false → D = false) := Lib.hid (by
      intro hb
      rw [hD]
      unfold rtB
      rw [← hB, hb]
      rfl)
    have HAK : Hid (B = true → AR = k * k * s.length) := Lib.hid (by
      intro hb
      rw [hAR, hX]
      exact scX_area (by rw [← hB]; exact hb))
    have HDK : Hid (D = true → tlgB X [s] L = true ∧ (L.length : Int) = k * k) := Lib.hid (by
      intro hd
      rw [hX, hL]
      exact rt_law (by rw [← hD]; exact hd))
    have hXr : X.rows.length ≤ 1048576 := by rw [hX]; have := scX_len (s := s) (k := k); omega
    have C1 := Lib.hid (impl_scaled_c k W1 (HS.out _ (Below.refl _ _)) (by omega) (by omega))
    have C2 : Hid (∀ w', Below W1.heap.size W1 w' → Calls Tryz.prog 8 #[.slice A s.length c, .int .i64 k] w' fun e w'' => ∃ v', e = .returned (.tuple #[v', .bool B]) ∧ RegIn w'' w'.heap.size w''.heap.size v' X ∧ Below w'.heap.size w' w'') := Lib.hid fun w' b => by rw [hB, hX]; exact spec_scaled_c k w' (HS.out _ b) (by omega) (by omega)
    have C3 : Hid (∀ w', Below W1.heap.size W1 w' → Calls Tryz.prog 9 #[.slice A s.length c, .int .i64 k] w' fun e w'' => ∃ v', e = .returned (.tuple #[v', .bool D]) ∧ IntsIn w'' w'.heap.size w''.heap.size v' L ∧ Below w'.heap.size w' w'') := Lib.hid fun w' b => by rw [hD, hL]; exact impl_rt_c k w' (HS.out _ b) (by omega) (by omega) (HT.out _ b)
    have C4 : Hid (∀ w', Below W1.heap.size W1 w' → Calls Tryz.prog 10 #[.slice A s.length c, .int .i64 k] w' fun e w'' => ∃ v', e = .returned (.tuple #[v', .bool D]) ∧ IntsIn w'' w'.heap.size w''.heap.size v' L ∧ Below w'.heap.size w' w'') := Lib.hid fun w' b => by rw [hD, hL]; exact spec_rt_c k w' (HS.out _ b) (by omega) (by omega)
    have C5 : Hid (∀ w', Below W1.heap.size W1 w' → Calls Tryz.prog 14 #[.slice A s.length c, .int .i64 k] w' fun e w'' => e = .returned (.bool D) ∧ Below w'.heap.size w' w'') := Lib.hid fun w' b => by rw [hD]; exact impl_isRt_c k w' (HS.out _ b) (by omega) (by omega) (HT.out _ b)
    rw [← hB, ← hX] at C1
    have hk7 := hk.2
    have hk0 := hk.1
    clear hB hD hX hL b1 h htab
    go_wp2_with fail
    refine (C1.out).mono ?_
    rintro e w2 ⟨v1, rfl, o1, b1⟩
    have HR1 := Lib.hid ((RegIn.rd o1).more (Nat.zero_le _) (Nat.le_refl _))
    obtain ⟨s1, rfl, o1⟩ := o1
    obtain ⟨A1, c1, rfl, _, _⟩ := o1.rd
    have HSS := ((Sep.start W1).step b1).box 29 #[.int .i64 X.w, .slice A1 X.rows.length c1]
    have BX : Below w2.heap.size w2 (w2.alloc (.cells #[.int .i64 X.w, .slice A1 X.rows.length c1] 29)) := ((Sep.start w2).box 29 #[.int .i64 X.w, .slice A1 X.rows.length c1]).below
    clear o1 b1 C1
    go_upto_region 5 with fail
    obtain ⟨g1, hg1⟩ : ∃ k, k = w2.heap.size := ⟨_, rfl⟩
    rw [← hg1] at HSS ⊢
    generalize hw3 : w2.alloc (.cells #[.int .i64 X.w, .slice A1 X.rows.length c1] 29) = w3 at *
    replace HR1 := Lib.hid (reg_stepX HR1.out BX)
    clear hg1 BX hw3
    go_wp2_with fail
    refine (C2.out _ HSS.below).mono ?_
    rintro e w4 ⟨v2, rfl, o2, b2⟩
    replace HR1 := Lib.hid (reg_stepX HR1.out b2)
    have HR2 := Lib.hid ((RegIn.rd o2).more (Nat.zero_le _) (Nat.le_refl _))
    obtain ⟨s2, rfl, o2⟩ := o2
    obtain ⟨A2, c2, rfl, _, _⟩ := o2.rd
    replace HSS := (HSS.step b2).box 29 #[.int .i64 X.w, .slice A2 X.rows.length c2]
    have BX : Below w4.heap.size w4 (w4.alloc (.cells #[.int .i64 X.w, .slice A2 X.rows.length c2] 29)) := ((Sep.start w4).box 29 #[.int .i64 X.w, .slice A2 X.rows.length c2]).below
    clear o2 b2 C2
    go_upto_region 6 with fail
    obtain ⟨g2, hg2⟩ : ∃ k, k = w4.heap.size := ⟨_, rfl⟩
    rw [← hg2] at HSS ⊢
    generalize hw5 : w4.alloc (.cells #[.int .i64 X.w, .slice A2 X.rows.length c2] 29) = w5 at *
    replace HR1 := Lib.hid (reg_stepX HR1.out BX)
    replace HR2 := Lib.hid (reg_stepX HR2.out BX)
    clear hg2 BX hw5
    go_wp2_with fail
    refine (C3.out _ HSS.below).mono ?_
    rintro e w6 ⟨v3, rfl, o3, b3⟩
    replace HR1 := Lib.hid (reg_stepX HR1.out b3)
    replace HR2 := Lib.hid (reg_stepX HR2.out b3)
    have HE1 := Lib.hid ((IntsIn.rd o3).more (Nat.zero_le _) (Nat.le_refl _))
    obtain ⟨A3, c3, rfl, _, _⟩ := IntsIn.rd o3
    replace HSS := HSS.step b3
    clear o3 b3 C3
    go_wp2_with fail
    refine (C4.out _ HSS.below).mono ?_
    rintro e W ⟨v4, rfl, o4, b4⟩
    replace HR1 := Lib.hid (reg_stepX HR1.out b4)
    replace HR2 := Lib.hid (reg_stepX HR2.out b4)
    replace HE1 := Lib.hid (i_stepX HE1.out b4)
    have HE2 := Lib.hid ((IntsIn.rd o4).more (Nat.zero_le _) (Nat.le_refl _))
    obtain ⟨A4, c4, rfl, _, _⟩ := IntsIn.rd o4
    replace HSS := HSS.step b4
    clear o4 b4 C4
    have HBW := Lib.hid HSS.below
    have HW : Hid (Below w.heap.size w W) := Lib.hid (HW1.out.trans (HSS.below.mono HW1.out.size))
    have x0 := HSS.h1.cell 0
    have x1 := HSS.h1.cell 1
    have y0 := HSS.h0.cell 0
    have y1 := HSS.h0.cell 1
    simp at x0 x1 y0 y1
    have hg1 : g1 < W.heap.size := HSS.h1.lt
    have hg2 : g2 < W.heap.size := HSS.h0.lt
    have BB : Hid (∀ w', Below W.heap.size W w' → (w'.cell? ⟨g1, 0, none⟩ = some (.int .i64 X.w) ∧ w'.cell? ⟨g1, 1, none⟩ = some (.slice A1 X.rows.length c1)) ∧ (w'.cell? ⟨g2, 0, none⟩ = some (.int .i64 X.w) ∧ w'.cell? ⟨g2, 1, none⟩ = some (.slice A2 X.rows.length c2))) := Lib.hid fun w' b => ⟨⟨(b.cell (p := ⟨g1, 0, none⟩) hg1).trans x0, (b.cell (p := ⟨g1, 1, none⟩) hg1).trans x1⟩, ⟨(b.cell (p := ⟨g2, 0, none⟩) hg2).trans y0, (b.cell (p := ⟨g2, 1, none⟩) hg2).trans y1⟩⟩
    have HEQ : Hid (∀ w', Below W.heap.size W w' → Calls Tryz.prog 11 #[.agg #[.int .i64 X.w, .slice A1 X.rows.length c1], .agg #[.int .i64 X.w, .slice A2 X.rows.length c2]] w' fun e w'' => e = .returned (.bool true) ∧ Below w'.heap.size w' w'') := Lib.hid fun w' b => eqReg_sameX w' (reg_stepX HR1.out b) (reg_stepX HR2.out b)
    have HSI : Hid (∀ w', Below W.heap.size W w' → Calls Tryz.prog 13 #[.slice A3 L.length c3, .slice A4 L.length c4] w' fun e w'' => e = .returned (.bool true) ∧ Below w'.heap.size w' w'') := Lib.hid fun w' b => laws_sameInts_same w' (i_stepX HE1.out b) (i_stepX HE2.out b)
    have HIR : Hid (∀ w', Below W.heap.size W w' → Calls Tryz.prog 14 #[.slice A s.length c, .int .i64 k] w' fun e w'' => e = .returned (.bool D) ∧ Below w'.heap.size w' w'') := Lib.hid fun w' b => C5.out w' (HBW.out.trans (b.mono HBW.out.size))
    have HAO : Hid (∀ w', Below W.heap.size W w' → Calls Tryz.prog 12 #[.agg #[.int .i64 X.w, .slice A2 X.rows.length c2]] w' fun e w'' => e = .returned (.int .i64 AR) ∧ Below w'.heap.size w' w'') := Lib.hid fun w' b => by rw [hAR]; exact impl_area_c w' (reg_stepX HR2.out b) hXr
    have HTL : Hid (D = true → Hid (∀ w' gg, Sep W w' [Res.box gg 24 #[.slice A s.length c]] → Calls Tryz.prog 15 #[.agg #[.int .i64 X.w, .slice A2 X.rows.length c2], .slice (some ⟨gg, 0, none⟩) 1 1, .slice A4 L.length c4] w' fun e w'' => e = .returned (.bool true) ∧ Below w'.heap.size w' w'')) := Lib.hid fun hd => Lib.hid fun w' gg hsep => by
      have hb := hsep.below
      have hb1 := HBW.out.trans (hb.mono HBW.out.size)
      rw [← (HDK.out hd).1]
      exact impl_tlg_c w' (reg_stepX HR2.out hb) (one_ssRd hsep.h0 (HS.out _ hb1)) (i_stepX HE2.out hb) (by show 1 ≤ 1048576; omega) (fun t ht => by rw [List.mem_singleton.1 ht]; omega) (HT.out _ hb1)
    have HLK : Hid (D = true → (L.length : Int) = k * k) := Lib.hid fun hd => (HDK.out hd).2
    obtain ⟨kk, hkk⟩ : ∃ q, q = k * k := ⟨_, rfl⟩
    have hkk49 : 0 ≤ kk ∧ kk ≤ 49 := by
      have h8 : k = 0 ∨ k = 1 ∨ k = 2 ∨ k = 3 ∨ k = 4 ∨ k = 5 ∨ k = 6 ∨ k = 7 := by omega
      rw [hkk]
      rcases h8 with rfl | rfl | rfl | rfl | rfl | rfl | rfl | rfl <;> decide
    rw [← hkk] at HLK HAK
    obtain ⟨ks, hks⟩ : ∃ q, q = kk * (s.length : Int) := ⟨_, rfl⟩
    have hks9 : 0 ≤ ks ∧ ks ≤ 392 := by
      rw [hks]
      constructor
      · exact Int.mul_nonneg hkk49.1 (Int.natCast_nonneg _)
      · calc kk * (s.length : Int) ≤ 49 * 8 := Int.mul_le_mul hkk49.2 (by omega) (Int.natCast_nonneg _) (by decide)
          _ = 392 := rfl
    rw [← hks] at HAK
    have m1 : IntKind.i64.wrap (k * k) = kk := by rw [← hkk]; exact IntWalk.i64_in _ (by omega)
    have m2 : IntKind.i64.wrap (kk * (s.length : Int)) = ks := by rw [← hks]; exact IntWalk.i64_in _ (by omega)
    have m3 : wrap64 (k * k) = kk := by rw [← hkk]; exact IntWalk.wrap64_in _ (by omega)
    have m4 : wrap64 (kk * (s.length : Int)) = ks := by rw [← hks]; exact IntWalk.wrap64_in _ (by omega)
    clear hAR hXr HR1 HR2 HE1 HE2 HDK C5 HS HT hk7 hk0 hk hs8 hsm hkk hks hkk49 hks9 HSS
    go_upto_region 8 with fail
    go_cut [110] (fun q wx => q = .bool false ∧ Below w.heap.size w wx)
    case first =>
      as_aux_lemma =>
        have HH : Below W.heap.size W W := Below.refl _ _
        cases B
        · obtain rfl : D = false := HBD.out rfl
          clear HTL HLK HAK HBD hg1 hg2
          go_wp2_with fail
          refine (HEQ.out _ HH).mono ?_
          rintro e wa ⟨rfl, bz⟩
          replace HH := HH.trans (bz.mono HH.size)
          clear bz x0 x1 y0 y1
          have x0 := (BB.out _ HH).1.1
          have x1 := (BB.out _ HH).1.2
          have y0 := (BB.out _ HH).2.1
          have y1 := (BB.out _ HH).2.2
          go_wp2_with fail
          refine (HSI.out _ HH).mono ?_
          rintro e wb ⟨rfl, bz⟩
          replace HH := HH.trans (bz.mono HH.size)
          clear bz x0 x1 y0 y1
          have x0 := (BB.out _ HH).1.1
          have x1 := (BB.out _ HH).1.2
          have y0 := (BB.out _ HH).2.1
          have y1 := (BB.out _ HH).2.2
          go_wp2_with fail
          refine (HIR.out _ HH).mono ?_
          rintro e wc1 ⟨rfl, bz⟩
          replace HH := HH.trans (bz.mono HH.size)
          clear bz x0 x1 y0 y1
          have x0 := (BB.out _ HH).1.1
          have x1 := (BB.out _ HH).1.2
          have y0 := (BB.out _ HH).2.1
          have y1 := (BB.out _ HH).2.2
          have HB5 := HW.out.trans (HH.mono HW.out.size)
          go_wp2_with fail
          go_meet
          exact ⟨rfl, HB5⟩
        · obtain rfl : AR = ks := HAK.out rfl
          cases D
          · clear HTL HLK HAK HBD hg1 hg2
            go_wp2_with fail
            refine (HEQ.out _ HH).mono ?_
            rintro e wa ⟨rfl, bz⟩
            replace HH := HH.trans (bz.mono HH.size)
            clear bz x0 x1 y0 y1
            have x0 := (BB.out _ HH).1.1
            have x1 := (BB.out _ HH).1.2
            have y0 := (BB.out _ HH).2.1
            have y1 := (BB.out _ HH).2.2
            go_wp2_with fail
            refine (HAO.out _ HH).mono ?_
            rintro e wb ⟨rfl, bz⟩
            replace HH := HH.trans (bz.mono HH.size)
            clear bz x0 x1 y0 y1
            have x0 := (BB.out _ HH).1.1
            have x1 := (BB.out _ HH).1.2
            have y0 := (BB.out _ HH).2.1
            have y1 := (BB.out _ HH).2.2
            go_wp2_with fail
            refine (HSI.out _ HH).mono ?_
            rintro e wc1 ⟨rfl, bz⟩
            replace HH := HH.trans (bz.mono HH.size)
            clear bz x0 x1 y0 y1
            have x0 := (BB.out _ HH).1.1
            have x1 := (BB.out _ HH).1.2
            have y0 := (BB.out _ HH).2.1
            have y1 := (BB.out _ HH).2.2
            go_wp2_with fail
            refine (HIR.out _ HH).mono ?_
            rintro e wd ⟨rfl, bz⟩
            replace HH := HH.trans (bz.mono HH.size)
            clear bz x0 x1 y0 y1
            have x0 := (BB.out _ HH).1.1
            have x1 := (BB.out _ HH).1.2
            have y0 := (BB.out _ HH).2.1
            have y1 := (BB.out _ HH).2.2
            have HB5 := HW.out.trans (HH.mono HW.out.size)
            go_wp2_with fail
            go_meet
            exact ⟨rfl, HB5⟩
          · have HT1 := HTL.out rfl
            have hlk : (L.length : Int) = kk := HLK.out rfl
            clear HTL HLK HAK HBD hg1 hg2
            go_wp2_with fail
            refine (HEQ.out _ HH).mono ?_
            rintro e wa ⟨rfl, bz⟩
            replace HH := HH.trans (bz.mono HH.size)
            clear bz x0 x1 y0 y1
            have x0 := (BB.out _ HH).1.1
            have x1 := (BB.out _ HH).1.2
            have y0 := (BB.out _ HH).2.1
            have y1 := (BB.out _ HH).2.2
            go_wp2_with fail
            refine (HAO.out _ HH).mono ?_
            rintro e wb ⟨rfl, bz⟩
            replace HH := HH.trans (bz.mono HH.size)
            clear bz x0 x1 y0 y1
            have x0 := (BB.out _ HH).1.1
            have x1 := (BB.out _ HH).1.2
            have y0 := (BB.out _ HH).2.1
            have y1 := (BB.out _ HH).2.2
            go_wp2_with fail
            refine (HSI.out _ HH).mono ?_
            rintro e wc1 ⟨rfl, bz⟩
            replace HH := HH.trans (bz.mono HH.size)
            clear bz x0 x1 y0 y1
            have x0 := (BB.out _ HH).1.1
            have x1 := (BB.out _ HH).1.2
            have y0 := (BB.out _ HH).2.1
            have y1 := (BB.out _ HH).2.2
            go_wp2_with fail
            refine (HIR.out _ HH).mono ?_
            rintro e wd ⟨rfl, bz⟩
            replace HH := HH.trans (bz.mono HH.size)
            clear bz x0 x1 y0 y1
            have x0 := (BB.out _ HH).1.1
            have x1 := (BB.out _ HH).1.2
            have y0 := (BB.out _ HH).2.1
            have y1 := (BB.out _ HH).2.2
            have HB := ((show Sep W wd [] from HH).box 24 #[.slice A s.length c])
            have HTC := Lib.hid (HT1.out _ _ HB)
            clear HT1
            go_wp2_with fail
            refine (HTC.out).mono ?_
            rintro e wf ⟨rfl, bz⟩
            have HB5 := HW.out.trans ((HB.step bz).below.mono HW.out.size)
            clear HTC bz HB x0 x1 y0 y1
            go_wp2_with fail
            go_meet
            exact ⟨rfl, HB5⟩
    case rest =>
    as_aux_lemma =>
      clear BB HEQ HSI HIR HAO HTL HLK HAK HBD x0 x1 y0 y1 hg1 hg2 HW1 HBW HW m1 m2 m3 m4
      obtain ⟨rfl, hb⟩ := hcut
      generalize hwc : wc = wA at *
      clear hwc
      have HB0 := Lib.hid hb
      clear hb
      go_wp2_with fail
      refine (drawLeast_c wA (HBY.out _ HB0.out) hl).mono ?_
      rintro e W1 ⟨va, s, rfl, hs, hs8, b1⟩
      have HW1 := Lib.hid (HB0.out.trans (b1.mono HB0.out.size))
      have HS : Hid (∀ w', Below W1.heap.size W1 w' → CellsRd w' 0 w'.heap.size va s) := Lib.hid fun w' b => cells_stepX hs b
      have HT : Hid (∀ w', Below W1.heap.size W1 w' → Tab64 w') := Lib.hid fun w' b => HTB.out w' (HW1.out.trans (b.mono HW1.out.size))
      obtain ⟨A, c, rfl, hsm, _⟩ := hs
      have C1 := Lib.hid (impl_least_rep_c W1 (HS.out _ (Below.refl _ _)) (by omega) (HT.out _ (Below.refl _ _)))
      go_wp2_with fail
      refine (C1.out).mono ?_
      rintro e w2 ⟨n, rfl, hn, b2⟩
      have HLR := Lib.hid hn
      have C2 := Lib.hid (spec_least_rep_c w2 (HS.out _ b2) (by omega))
      have HB2 := Lib.hid b2
      clear C1 hn b2 b1 HB0
      go_upto_region 12 with fail
      go_cut [128] (fun q wx => q = .bool false ∧ Below w.heap.size w wx)
      case first =>
        as_aux_lemma =>
          rcases HLR.out with ⟨q, rfl, hq⟩ | ⟨rfl, hq⟩
          · have hq2 := hq.two
            have hq6 := hq.six
            have hlt : (0 : Int) < (q : Int) := by omega
            have hltn : 0 < q := by omega
            have hdlt : decide ((0 : Int) < (q : Int)) = true := decide_eq_true hlt
            have HC2 : Hid (∀ w', Below w2.heap.size w2 w' → Calls Tryz.prog 18 #[.slice A s.length c] w' fun e w'' => e = .returned (.int .i64 (q : Int)) ∧ Below w'.heap.size w' w'') := Lib.hid fun w' b => by
              refine (spec_least_rep_c w' (HS.out _ (HB2.out.trans (b.mono HB2.out.size))) (by omega)).mono ?_
              rintro e w3 ⟨n, rfl, hn, b3⟩
              rw [hn.one HLR.out]
              exact ⟨rfl, b3⟩
            have HC3 : Hid (∀ w', Below w2.heap.size w2 w' → Calls Tryz.prog 14 #[.slice A s.length c, .int .i64 (q : Int)] w' fun e w'' => e = .returned (.bool true) ∧ Below w'.heap.size w' w'') := Lib.hid fun w' b' => by
              have b := HB2.out.trans (b'.mono HB2.out.size)
              rw [← hq.is]
              exact impl_isRt_c (q : Int) w' (HS.out _ b) (by omega) (by omega) (HT.out _ b)
            clear C2 hq hq2 hq6
            go_wp2_with fail
            refine (HC2.out w2 (Below.refl _ _)).mono ?_
            rintro e w3 ⟨rfl, b3⟩
            go_wp2_with fail
            refine (HC3.out w3 b3).mono ?_
            rintro e w4 ⟨rfl, b4⟩
            have hb4 := b3.trans (b4.mono b3.size)
            have hb5 := HB2.out.trans (hb4.mono HB2.out.size)
            have HB5 := HW1.out.trans (hb5.mono HW1.out.size)
            clear HC2 HC3 b3 b4 hb4 hb5
            go_wp2_with fail
            go_meet
            exact ⟨rfl, HB5⟩
          · have HC2 : Hid (∀ w', Below w2.heap.size w2 w' → Calls Tryz.prog 18 #[.slice A s.length c] w' fun e w'' => e = .returned (.int .i64 (-1)) ∧ Below w'.heap.size w' w'') := Lib.hid fun w' b => by
              refine (spec_least_rep_c w' (HS.out _ (HB2.out.trans (b.mono HB2.out.size))) (by omega)).mono ?_
              rintro e w3 ⟨n, rfl, hn, b3⟩
              rw [hn.one HLR.out]
              exact ⟨rfl, b3⟩
            clear C2 hq
            go_wp2_with fail
            refine (HC2.out w2 (Below.refl _ _)).mono ?_
            rintro e w3 ⟨rfl, b3⟩
            have hb5 := HB2.out.trans (b3.mono HB2.out.size)
            have HB5 := HW1.out.trans (hb5.mono HW1.out.size)
            clear HC2 b3 hb5
            go_wp2_with fail
            go_meet
            exact ⟨rfl, HB5⟩
      case rest =>
      as_aux_lemma =>
        clear HLR HS HT C2 HB2 HW1 hs8 hsm
        obtain ⟨rfl, hb⟩ := hcut
        generalize hwc : wc = wA at *
        clear hwc
        have HB0 := Lib.hid hb
        clear hb
        go_wp2_with fail
        refine (drawHalves_c wA (HBY.out _ HB0.out) hl).mono ?_
        rintro e w1 ⟨vr, r, rfl, hd, ⟨sr, rfl, or⟩, b1⟩
        obtain ⟨A, c, rfl, bx, HSS⟩ := boxX_rd or b1
        have hr20 := hd.2
        go_upto_region 15 with fail
        obtain ⟨gb, hgb⟩ : ∃ k, k = w1.heap.size := ⟨_, rfl⟩
        rw [← hgb] at HSS ⊢
        generalize w1.alloc (.cells #[.int .i64 r.w, .slice A r.rows.length c] 29) = W at *
        have HW : Hid (Below w.heap.size w W) := Lib.hid (HB0.out.trans (HSS.below.mono HB0.out.size))
        have HRG : Hid (∀ w', Below W.heap.size W w' → RegRd w' 0 w'.heap.size (.agg #[.int .i64 r.w, .slice A r.rows.length c]) r) := Lib.hid fun w' b => ⟨_, rfl, ((HSS.step b).g1.oi.sr).more (Nat.zero_le _) (Nat.le_refl _)⟩
        have HT : Hid (∀ w', Below W.heap.size W w' → Tab64 w') := Lib.hid fun w' b => HTB.out w' (HW.out.trans (b.mono HW.out.size))
        have HS0 := HSS
        have BB : Hid (∀ w', Below W.heap.size W w' → w'.cell? ⟨gb, 0, none⟩ = some (.int .i64 r.w) ∧ w'.cell? ⟨gb, 1, none⟩ = some (.slice A r.rows.length c)) := Lib.hid fun w' b => by
          have K := HS0.step b
          have x0 := K.h0.cell 0
          have x1 := K.h0.cell 1
          simp at x0 x1
          exact ⟨x0, x1⟩
        obtain ⟨B, hB⟩ : ∃ B, B = (hvR r).isSome := ⟨_, rfl⟩
        obtain ⟨L, hL⟩ : ∃ B, B = nl (hvL r) := ⟨_, rfl⟩
        have HLW : Hid (B = true → isDiv r L = true ∧ L.length = 2) := Lib.hid fun hb => by rw [hL]; exact hv_law (by rw [← hB]; exact hb)
        have HI64 : Hid (∀ a ∈ L, I64 a) := Lib.hid (by rw [hL]; exact hvL_i64)
        have C1 : Hid (∀ w', Below W.heap.size W w' → Calls Tryz.prog 20 #[.agg #[.int .i64 r.w, .slice A r.rows.length c]] w' fun e w'' => ∃ v', e = .returned (.tuple #[v', .bool B]) ∧ IntsIn w'' w'.heap.size w''.heap.size v' L ∧ Below w'.heap.size w' w'') := Lib.hid fun w' b => by rw [hB, hL]; exact impl_halves_c w' (HRG.out w' b) (by omega)
        have C2 : Hid (∀ w', Below W.heap.size W w' → Calls Tryz.prog 21 #[.agg #[.int .i64 r.w, .slice A r.rows.length c]] w' fun e w'' => ∃ v', e = .returned (.tuple #[v', .bool B]) ∧ IntsIn w'' w'.heap.size w''.heap.size v' L ∧ Below w'.heap.size w' w'') := Lib.hid fun w' b => by rw [hB, hL]; exact spec_halves_c w' (HRG.out w' b) (by omega)
        clear hB hL HSS HS0 hgb bx or b1 HB0 hd
        have x0 := (BB.out _ (Below.refl _ _)).1
        have x1 := (BB.out _ (Below.refl _ _)).2
        go_wp2_with fail
        refine (C1.out _ (Below.refl _ _)).mono ?_
        rintro e w2 ⟨v1, rfl, o1, b1⟩
        have HE1 := Lib.hid ((IntsIn.rd o1).more (Nat.zero_le _) (Nat.le_refl _))
        obtain ⟨A1, c1, rfl, _, _⟩ := IntsIn.rd o1
        clear x0 x1 o1 C1
        have x0 := (BB.out _ b1).1
        have x1 := (BB.out _ b1).2
        go_wp2_with fail
        refine (C2.out _ b1).mono ?_
        rintro e w3 ⟨v2, rfl, o2, b2⟩
        replace HE1 := Lib.hid (i_stepX HE1.out b2)
        have HE2 := Lib.hid ((IntsIn.rd o2).more (Nat.zero_le _) (Nat.le_refl _))
        obtain ⟨A2, c2, rfl, _, _⟩ := IntsIn.rd o2
        have b3 := b1.trans (b2.mono b1.size)
        clear x0 x1 o2 C2 b1 b2
        have HSI := Lib.hid (laws_sameInts_same w3 HE1.out HE2.out)
        go_wp2_with fail
        refine (HSI.out).mono ?_
        rintro e w4 ⟨rfl, b4⟩
        have HE3 := Lib.hid (i_stepX HE2.out b4)
        have b5 := b3.trans (b4.mono b3.size)
        have x0 := (BB.out _ b5).1
        have x1 := (BB.out _ b5).2
        have HB5 := Lib.hid b5
        clear HE1 HE2 HSI b3 b4 b5
        cases B
        · have HBZ := Lib.hid (HW.out.trans (HB5.out.mono HW.out.size))
          clear HLW
          go_wp2_with fail
          go_ret
          exact ⟨rfl, HBZ.out⟩
        · have hl2 := (HLW.out rfl).2
          have HDV := Lib.hid (impl_isDivision_c w4 (HRG.out _ HB5.out) HE3.out HI64.out (by omega) (HT.out _ HB5.out))
          rw [(HLW.out rfl).1] at HDV
          rw [hl2] at HDV ⊢
          clear HLW hl2
          go_wp2_with fail
          refine (HDV.out).mono ?_
          rintro e w6 ⟨rfl, b6⟩
          have hb6 := HB5.out.trans (b6.mono HB5.out.size)
          have HBZ := Lib.hid (HW.out.trans (hb6.mono HW.out.size))
          clear b6 hb6 x0 x1 HDV
          go_wp2_with fail
          go_ret
          exact ⟨rfl, HBZ.out⟩
  · go_enter Tryz.func3, Tryz.ntmps3
    go_wp2_with fail
    refine (big_yes w h (by omega)).mono ?_
    rintro e w' ⟨rfl, rfl⟩
    go_wp2
    go_ret
    exact ⟨rfl, Below.refl _ _⟩
end Go.Proofs.YtppbkiajcpdkiaaGreatDoor
