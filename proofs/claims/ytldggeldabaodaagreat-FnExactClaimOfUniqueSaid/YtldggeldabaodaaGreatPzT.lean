
/-
  Puzzles: the reference's solutions; PuzzleSolutions, both walks.
-/
import Derived.Test.YtldggeldabaodaaGreatPzS
import Derived.Test.YtldggeldabaodaaGreatPzJ
import Derived.Test.YtldggeldabaodaaGreatPlcSX
namespace Go.Proofs.YtldggeldabaodaaGreat
open Go.RowKit

def PzSol (R : List (List Nat)) (w : World) : Ending → World → Prop := fun e w' => ∃ ov vs n L, e = .returned ov ∧ n = R.length ∧ Sep w w' (Res.row ov 22 1 n vs :: Res.rows vs (R.map nl) :: L)
theorem PzSol.mk {R : List (List Nat)} {w w' : World} {ov : Value} {vs : List Value} {n : Nat} {L : List Res} (hn : n = R.length) (H : Sep w w' (Res.row ov 22 1 n vs :: Res.rows vs (R.map nl) :: L)) : PzSol R w (.returned ov) w' := ⟨ov, vs, n, L, rfl, hn, H⟩
set_option maxRecDepth 100000 in
set_option maxHeartbeats 800000 in
theorem spec_pcsA_c {v2 : Value} {ps : List (List Cell)} (w : World) (h2 : CellSSRd w 0 w.heap.size v2 ps) (hp : arePcs ps = true) :
    Calls Tryz.prog 88 #[v2] w fun e w' => e = .returned (.int .i64 (pcsA ps)) ∧ Below w.heap.size w w' := by
  have HPS := Lib.hid (arePcs_on hp).1
  have hp5 := (arePcs_on hp).2.2
  have hsl8 : ∀ s ∈ ps, s.length ≤ 1048576 := fun s hs => by have := (shp_len (HPS.out s hs)).2; omega
  have HAP : Hid (∀ w1, Below w.heap.size w w1 → Calls Tryz.prog 51 #[v2] w1 fun e w' => e = .returned (.bool true) ∧ Below w1.heap.size w1 w') := Lib.hid fun w1 b1 => by
    have := spec_arePcs_c w1 ((h2.keep (SameIn.of_below b1 (Nat.le_refl _))).more (Nat.le_refl _) b1.size) (by omega) hsl8
    rw [hp] at this
    exact this
  have HLE := Lib.hid (arTo_le hsl8)
  obtain ⟨vs, ⟨A2, c2, rfl, hm2, hr2⟩, hsl⟩ := h2
  have HR2 := Lib.hid hr2
  have HSL := Lib.hid hsl
  have H0 := Sep.start w
  clear hr2 hsl hsl8 hp
  go_enter Tryz.func88, Tryz.ntmps88
  go_wp2
  go_loopw [3, 4] (fun nv kv wx => ∃ k : Nat, k ≤ ps.length ∧ kv = .int .i64 k ∧ nv = .int .i64 (arTo ps k : Nat) ∧ Sep w wx []) (fun _ kv _ => ps.length - (intOf kv).toNat)
  case atStart => exact ⟨0, Nat.zero_le _, rfl, rfl, H0⟩
  case round =>
    clear H0
    obtain ⟨k, hk, rfl, rfl, H⟩ := hrel
    by_cases hlt : k < ps.length
    · have hlti : (k : Int) < (ps.length : Int) := by omega
      obtain ⟨b, off, s, x, rfl, hb1, hb2, hla, x1, xr⟩ := HR2.out.slot HSL.out rfl hlt
      obtain ⟨Ax, cx, rfl, _, _⟩ := xr
      have HA := Lib.hid (HAP.out wr H.below)
      have HX1 := Lib.hid x1
      obtain ⟨a, ha⟩ : ∃ a, a = arTo ps k := ⟨_, rfl⟩
      have hal2 := HLE.out (k + 1)
      have has := arTo_succ hla
      rw [← ha] at has ⊢
      have HAS : Hid (arTo ps (k + 1) = a + s.length) := Lib.hid has
      have hsb : a + s.length ≤ 1152921504606846976 := by rw [← has]; exact Nat.le_trans hal2 (by omega)
      clear hla ha hal2 has x1
      go_wp2_with fail
      refine (HA.out).mono ?_
      rintro e w4 ⟨rfl, b4⟩
      have H4 := H.step b4
      have y1 := (H4.below.cell (p := ⟨b, off + k, none⟩) hb2).trans HX1.out
      clear H b4 HA
      go_wp2
      go_roundw
      case rel => exact ⟨k + 1, by omega, by go_num, by rw [HAS.out]; go_num, H4⟩
      case measure => simp [intOf]; omega
    · obtain rfl : k = ps.length := by omega
      go_wp2
      go_ret
      exact ⟨rfl, H.below⟩
set_option maxRecDepth 100000 in
set_option maxHeartbeats 3200000 in
theorem spec_sols_c {v v2 v3 : Value} {r : Reg} {ps : List (List Cell)} (w : World) (h : RegRd w 0 w.heap.size v r) (h2 : CellSSRd w 0 w.heap.size v2 ps) (h3 : IntsRd w 0 w.heap.size v3 (List.replicate ps.length (-1))) (hv : r.Valid) (hp : arePcs ps = true) :
    Calls Tryz.prog 52 #[v, v2, v3] w (PzSol (pzR r ps) w) := by
  obtain ⟨j0, hj, hy0, hy1, hy2⟩ := info_parts infoRowZ
  have HV := Lib.hid hv
  have HPS := Lib.hid (arePcs_on hp).1
  have hp5 := (arePcs_on hp).2.2
  have HRD : Hid (∀ w1, Below w.heap.size w w1 → RegRd w1 0 w1.heap.size v r) := Lib.hid fun w1 b1 => (h.keep (SameIn.of_below b1 (Nat.le_refl _))).more (Nat.le_refl _) b1.size
  have HH3 : Hid (∀ w1, Below w.heap.size w w1 → IntsRd w1 0 w1.heap.size v3 (List.replicate ps.length (-1))) := Lib.hid fun w1 b1 => (h3.keep (SameIn.of_below b1 (Nat.le_refl _))).more (Nat.le_refl _) b1.size
  have HAA : Hid (∀ w1, Below w.heap.size w w1 → Calls Tryz.prog 88 #[v2] w1 fun e w' => e = .returned (.int .i64 (pcsA ps)) ∧ Below w1.heap.size w1 w') := Lib.hid fun w1 b1 => spec_pcsA_c w1 ((h2.keep (SameIn.of_below b1 (Nat.le_refl _))).more (Nat.le_refl _) b1.size) hp
  have HAR : Hid (∀ w1, Below w.heap.size w w1 → Calls Tryz.prog 89 #[v] w1 fun e w' => e = .returned (.int .i64 (areaR r)) ∧ Below w1.heap.size w1 w') := Lib.hid fun w1 b1 => spec_area_c w1 (HRD.out w1 b1) (by have := HV.out.2.2.2.1; omega)
  have HMSK : Hid (∀ w1, Below w.heap.size w w1 → Calls Tryz.prog 68 #[v] w1 fun e w' => e = .returned (.int .i64 (r.mask : Int)) ∧ Below w1.heap.size w1 w') := Lib.hid fun w1 b1 => spec_mask_c w1 (HRD.out w1 b1) HV.out
  obtain ⟨R, hR⟩ : ∃ R, R = pzR r ps := ⟨_, rfl⟩
  rw [← hR]
  have HRR := Lib.hid hR
  obtain ⟨a1, ha1⟩ : ∃ a, a = pcsA ps := ⟨_, rfl⟩
  obtain ⟨a2, ha2⟩ : ∃ a, a = areaR r := ⟨_, rfl⟩
  rw [← ha1] at HAA
  rw [← ha2] at HAR
  have HA1 := Lib.hid ha1
  have HA2 := Lib.hid ha2
  obtain ⟨sr, rfl, hsr⟩ := h
  obtain ⟨A, c, rfl, _, _⟩ := hsr
  obtain ⟨vs, ⟨A2, c2, rfl, hm2, hr2⟩, hsl⟩ := h2
  have hlr : (List.replicate ps.length (-1 : Int)).length = ps.length := List.length_replicate
  obtain ⟨A3, c3, rfl, _, _⟩ := h3
  rw [hlr] at HH3 ⊢
  have HR2 := Lib.hid hr2
  have HSL := Lib.hid hsl
  have H0 := (Sep.start w).box 28 #[.int .i64 r.w, .slice A r.rows.length c]
  obtain ⟨g, hg⟩ : ∃ g, g = w.heap.size := ⟨_, rfl⟩
  rw [← hg] at H0
  clear hR ha1 ha2 hv hp hr2 hsl hlr
  go_enter Tryz.func52, Tryz.ntmps52
  go_upto_region 1 with fail
  rw [← hg]
  generalize (w.alloc (.cells #[.int .i64 r.w, .slice A r.rows.length c] 28)) = W at *
  clear hg
  have l0 := Later.cell (p := ⟨g, 0, none⟩) (v := .int .i64 r.w) (W := W) (H0.h0.cell 0) H0.h0.lt
  have l1 := Later.cell (p := ⟨g, 1, none⟩) (v := .slice A r.rows.length c) (W := W) (H0.h0.cell 1) H0.h0.lt
  have HB0 := Lib.hid H0.below
  have HA3 : Hid (∀ u : Later W, Calls Tryz.prog 88 #[.slice A2 ps.length c2] u.w fun e w' => e = .returned (.int .i64 a1) ∧ Below u.w.heap.size u.w w') := Lib.hid fun u => HAA.out u.w (HB0.out.trans (u.h.mono HB0.out.size))
  have HA4 : Hid (∀ u : Later W, Calls Tryz.prog 89 #[.agg #[.int .i64 r.w, .slice A r.rows.length c]] u.w fun e w' => e = .returned (.int .i64 a2) ∧ Below u.w.heap.size u.w w') := Lib.hid fun u => HAR.out u.w (HB0.out.trans (u.h.mono HB0.out.size))
  have HH := Lib.hid H0
  clear H0 HAA HAR
  refine wp_region_later (by kernel_rfl) (by kernel_rfl) ?_
  repeat (go_big_quiet_step ((first
    | (go_at_call 88; exact Later.call (HA3.out _))
    | (go_at_call 89; exact Later.call (HA4.out _)))))
  refine wpQuiet_nil ?_
  intro w3 hw3
  obtain ⟨u3, hu3⟩ := hw3
  subst hu3
  have H1 := Sep.later HH.out u3
  clear l0 l1 HH HA3 HA4 HB0
  generalize u3.w = w1 at *
  by_cases ha : a1 = a2
  · have hab : (a1 == a2) = true := by simpa using ha
    have hab2 : (a1 != a2) = false := by simpa using ha
    have HRE : Hid (R = (pzS (atN r ps) r.mask).take 300) := Lib.hid (by
      rw [HRR.out, pzR, if_pos (by rw [← HA1.out, ← HA2.out]; exact ha)])
    have H3 := H1.rowsNil.rowBox 22 #[] 1 0 rfl (by decide)
    clear ha H1
    go_wp2
    go_loopw [7, 8] (fun pv iv wx => ∃ (k : Nat) (av : Value) (avs : List Value), k ≤ ps.length ∧ pv = av ∧ iv = .int .i64 k ∧ Sep w wx [Res.row av 22 1 k avs, Res.rows avs ((ps.take k).map (plc r)), Res.box g 28 #[.int .i64 r.w, .slice A r.rows.length c]]) (fun _ iv _ => ps.length - (intOf iv).toNat)
    case atStart => exact ⟨0, _, [], Nat.zero_le _, rfl, rfl, H3⟩
    case round =>
      clear H3
      obtain ⟨k, av, avs, hk, rfl, rfl, H⟩ := hrel
      obtain ⟨Aa, ca, rfl, _, _, _⟩ := Res.row_at H.h0
      by_cases hlt : k < ps.length
      · have hlti : (k : Int) < (ps.length : Int) := by omega
        obtain ⟨b, off, s, x, rfl, hb1, hb2, hla, x1, xr⟩ := HR2.out.slot HSL.out rfl hlt
        have HX1 := Lib.hid x1
        have H4 := H.drew
        have y1 := (H4.below.cell (p := ⟨b, off + k, none⟩) hb2).trans x1
        have HPC := Lib.hid (spec_plc_c wr.drew (HRD.out wr.drew H4.below) ((xr.keep (SameIn.of_below H4.below (Nat.le_refl _))).more (Nat.le_refl _) H4.size) HV.out (HPS.out s (List.mem_of_getElem? hla)))
        have c0 : wr.drew.cell? ⟨g, 0, none⟩ = some (.int .i64 r.w) := H4.h2.cell 0
        have c1 : wr.drew.cell? ⟨g, 1, none⟩ = some (.slice A r.rows.length c) := H4.h2.cell 1
        obtain ⟨Ax, cx, rfl, _, _⟩ := xr
        obtain ⟨Q, hQ⟩ : ∃ Q, Q = plc r s := ⟨_, rfl⟩
        rw [← hQ] at HPC
        have HTK : Hid ((ps.take (k + 1)).map (plc r) = (ps.take k).map (plc r) ++ [Q]) := Lib.hid (by rw [List.take_add_one, hla, List.map_append, hQ]; rfl)
        obtain ⟨q, hq⟩ : ∃ q, q = Q.length := ⟨_, rfl⟩
        have HQL := Lib.hid hq
        clear hQ hla x1 hq H
        go_wp2_with fail
        go_region_held3 (fun w' => w'.cell? ⟨g, 0, none⟩ = some (.int .i64 r.w) ∧ w'.cell? ⟨g, 1, none⟩ = some (.slice A r.rows.length c) ∧ w'.cell? ⟨b, off + k, none⟩ = some (.slice Ax s.length cx))
          (first | ((try dsimp only); refine ⟨?_, ?_, ?_⟩ <;> assumption) | go_keep)
          (first
            | (go_at_call 90; (with_reducible refine (HPC.out).mono ?_); rintro e w5 ⟨pv, rfl, o5, b5⟩; have o6 : OI w5 wr.drew.heap.size w5.heap.size 3 1 pv q (ic Q) := (by rw [HQL.out]; exact o5); obtain ⟨Ap, cp, rfl, _, _, _⟩ := o6.rd; have H5 := H4.oiNew b5 o6; have d0 : w5.cell? ⟨g, 0, none⟩ = some (.int .i64 r.w) := H5.h3.cell 0; have d1 : w5.cell? ⟨g, 1, none⟩ = some (.slice A r.rows.length c) := H5.h3.cell 1; have y5 : w5.cell? ⟨b, off + k, none⟩ = some (.slice Ax s.length cx) := (H5.below.cell (p := ⟨b, off + k, none⟩) hb2).trans HX1.out)
            | (refine step_app rfl (.tmp 22) (.tmp 29) 47 rfl 22 j0 _ 1 24 Tryz.underlying47 hj hy0 hy1 hy2 rfl (by decide) _ _ _ (by rfl) (H5.g1.alloc _) _ _ _ [.slice Ap q cp] (by rfl) (Rd.fresh w5 _ #[.slice Ap q cp] 1 1 rfl) (ocZ rfl) (by unfold maxLen; omega) (by omega) ?_; intro v6 w6 H6; have d0' : w6.cell? ⟨g, 0, none⟩ = some (.int .i64 r.w) := H6.h3.cell 0; have d1' : w6.cell? ⟨g, 1, none⟩ = some (.slice A r.rows.length c) := H6.h3.cell 1; have y6 : w6.cell? ⟨b, off + k, none⟩ = some (.slice Ax s.length cx) := (H6.below.cell (p := ⟨b, off + k, none⟩) hb2).trans HX1.out))
        all_goals
          have H7 := (H6.g1.g2.rowsSnoc HQL.out).p1
          rw [← HTK.out] at H7
          clear H4 H5 H6 c0 c1 y1 d0 d1 y5 d0' d1' y6
          go_wp2
          go_roundw
          case rel => exact ⟨k + 1, _, _, by omega, rfl, by go_num, H7⟩
          case measure => simp [intOf]; omega
      · obtain rfl : k = ps.length := by omega
        have hmap : (ps.take ps.length).map (plc r) = (atN r ps).map nl := by rw [List.take_length, atN_nl HV.out ps]
        rw [hmap] at H
        have hlen2 : ps.length = ((atN r ps).map nl).length := by simp [atN]
        have HSS := Lib.hid hlen2
        have c0 : wr.cell? ⟨g, 0, none⟩ = some (.int .i64 r.w) := H.h2.cell 0
        have c1 : wr.cell? ⟨g, 1, none⟩ = some (.slice A r.rows.length c) := H.h2.cell 1
        have HMK := Lib.hid (HMSK.out wr H.below)
        clear hmap hlen2
        go_wp2_with fail
        refine (HMK.out).mono ?_
        rintro e w5 ⟨rfl, b5⟩
        have H5 := H.step b5
        clear H b5 c0 c1 HMK
        have HML : Hid (r.mask < 2 ^ 36) := Lib.hid (by have := Reg.mask_lt HV.out; omega)
        obtain ⟨M, hM⟩ : ∃ M, M = r.mask := ⟨_, rfl⟩
        rw [← hM] at HML HRE ⊢
        have HSV := Lib.hid (sr_c ps.length (.slice Aa ps.length ca) (.slice A3 ps.length c3) (atN r ps) ps.length w5 M 300 0 (by omega) (by simp [atN]) (by omega) (atN_msk HV.out) HML.out (by decide) (by decide) (H5.ssRd HSS.out) (HH3.out w5 H5.below))
        clear hM
        go_wp2_with fail
        refine (HSV.out).mono ?_
        rintro e w6 ⟨g6, n6, c6, vs6, rfl, hn6, H6⟩
        have HS : Hid ((pzS ((atN r ps).drop 0) M).take 300 = R) := Lib.hid (by rw [HRE.out]; rfl)
        rw [HS.out] at hn6 H6
        have HN6 := Lib.hid hn6
        have H7 := H6.join H5
        clear hn6 HSV H6 H5
        go_wp2
        go_ret
        exact PzSol.mk HN6.out H7
  · have hab : (a1 == a2) = false := by simpa using ha
    have hab2 : (a1 != a2) = true := by simpa using ha
    obtain rfl : R = [] := by rw [HRR.out, pzR, if_neg (by rw [← HA1.out, ← HA2.out]; exact ha)]
    clear ha
    have H2 := H1.rowsNil.rowBox 22 #[] 1 0 rfl (by decide)
    clear H1
    go_wp2
    go_ret
    exact PzSol.mk (R := []) (n := 0) (vs := []) rfl H2
end Go.Proofs.YtldggeldabaodaaGreat
