
/-
  The symmetries of a shape: both walks.
-/
import Derived.Test.YtbdffadhieljbaaGreatDoorOriX
import Derived.Test.YtbdffadhieljbaaGreatDoorOriS
namespace Go.Proofs.YtbdffadhieljbaaGreatDoor
open Go.RowKit

theorem shp_srtS {s : List Cell} (h : isShape s = true) : Srt s := List.pairwise_iff_getElem.2 fun _ j hi hj hij => shp_pair h (List.getElem?_eq_getElem hi) j hij (List.getElem?_eq_getElem hj)
theorem sort_shpS {s : List Cell} (h : isShape s = true) : sortC s = s := sortC_is (shp_srtS h) fun _ => Iff.rfl
noncomputable def symB (s : List Cell) (m : Nat) : Bool := same (turnS m s) (corner s)
/-- the symmetries below i -/
noncomputable def symZ (s : List Cell) (i : Nat) : List Int := ((List.range i).filter (symB s)).map fun (n : Nat) => (n : Int)
theorem symZ_yes {s : List Cell} {i : Nat} (h : symB s i = true) : symZ s (i + 1) = symZ s i ++ [(i : Int)] := by
  rw [symZ, List.range_succ, List.filter_append, List.map_append]
  simp [symZ, h]
theorem symZ_no {s : List Cell} {i : Nat} (h : symB s i = false) : symZ s (i + 1) = symZ s i := by
  rw [symZ, List.range_succ, List.filter_append, List.map_append]
  simp [symZ, h]
theorem symZ_len {s : List Cell} (i : Nat) : (symZ s i).length ≤ i := by
  rw [symZ, List.length_map]
  exact Nat.le_trans (List.length_filter_le _ _) (by simp)
set_option maxRecDepth 100000 in
theorem infoIntSy : (Tryz.prog.info? 3).map (fun i => (i.zero, i.size, i.bytes)) = some (some (.int .i64 0), 1, 8) := by kernel_rfl
theorem sml_of {s : List Cell} (h : isShape s = true) (n : Int) (hn : 10 ≤ n) : ∀ c ∈ s, Sml n c := fun c hc => by
  obtain ⟨⟨h1, h2⟩, h3, h4⟩ := shp_on h hc
  exact ⟨⟨by omega, by omega⟩, by omega, by omega⟩
set_option maxRecDepth 100000 in
set_option maxHeartbeats 3200000 in
theorem impl_sym_c {v : Value} {s : List Cell} (w : World) (h : CellsRd w 0 w.heap.size v s) (hsh : isShape s = true) :
    Calls Tryz.prog 29 #[v] w fun e w' => ∃ v', e = .returned v' ∧ IntsIn w' w.heap.size w'.heap.size v' (symZ s 8) ∧ Below w.heap.size w w' := by
  obtain ⟨i0, hi, hz0, hz1, hz2⟩ := info_parts infoIntSy
  obtain ⟨hl1, hl8⟩ := shp_len hsh
  have HRD : Hid (∀ w1, Below w.heap.size w w1 → CellsRd w1 0 w1.heap.size v s) := Lib.hid fun w1 b1 => (h.keep (SameIn.of_below b1 (Nat.le_refl _))).more (Nat.le_refl _) b1.size
  have HSH := Lib.hid hsh
  have HS := Lib.hid (impl_isShape_c w h (by omega))
  rw [hsh] at HS
  have HCO : Hid (∀ w1, Below w.heap.size w w1 → Calls Tryz.prog 64 #[v] w1 fun e w' => ∃ v', e = .returned v' ∧ CellsIn w' w1.heap.size w'.heap.size v' (corner s) ∧ Below w1.heap.size w1 w') := Lib.hid fun w1 b1 => by
    have := impl_corner_c w1 (HRD.out w1 b1) (by omega) (by omega) (sml_of hsh _ (by decide))
    rwa [sort_shpS hsh] at this
  have HTU : Hid (∀ (m : Nat) w1, m < 8 → Below w.heap.size w w1 → Calls Tryz.prog 66 #[v, .int .i64 m] w1 fun e w' => ∃ v', e = .returned v' ∧ CellsIn w' w1.heap.size w'.heap.size v' (turnS m s) ∧ Below w1.heap.size w1 w') := Lib.hid fun m w1 hm b1 => impl_turned_c m w1 (HRD.out w1 b1) hm hl1 (by omega) (sml_of hsh _ (by decide))
  obtain ⟨A, c, rfl, _, _⟩ := h
  clear hsh
  go_enter Tryz.func29, Tryz.ntmps29
  go_wp2_with fail
  refine (HS.out).mono ?_
  rintro e w1 ⟨rfl, b1⟩
  go_wp2_with fail
  refine (HCO.out _ b1).mono ?_
  rintro e w2 ⟨vK, rfl, oK, b2⟩
  have H2 := ((((Sep.start w).step b1).oiNew b2 oK).nil 3 1)
  obtain ⟨K, hK⟩ : ∃ K, K = corner s := ⟨_, rfl⟩
  have HK := Lib.hid hK
  rw [← hK] at H2
  have hk8 : K.length ≤ 1000 := by rw [HK.out, corner, shift, List.length_map]; omega
  clear b1 b2 oK HS HCO hK
  go_wp2
  go_loopw [4, 11] (fun ov iv wx => ∃ (i q : Nat), i ≤ 8 ∧ iv = .int .i64 i ∧ Hid (q = (symZ s i).length) ∧ q ≤ i ∧ Sep w wx [Res.row ov 3 1 q (ic (symZ s i)), Res.row vK 39 2 K.length (cc K)]) (fun _ iv _ => 8 - (intOf iv).toNat)
  case atStart => exact ⟨0, 0, by omega, rfl, Lib.hid rfl, Nat.le_refl _, H2⟩
  case round =>
    clear H2
    obtain ⟨i, q, hi8, rfl, HQ, hq, H⟩ := hrel
    by_cases hlt : i < 8
    · have hlti : (i : Int) < 8 := by omega
      have HT := Lib.hid (HTU.out i wr hlt H.below)
      go_wp2_with fail
      refine (HT.out).mono ?_
      rintro e w3 ⟨vT, rfl, oT, b3⟩
      have H3 := H.oiNew b3 oT
      obtain ⟨b, hb⟩ : ∃ b, b = symB s i := ⟨_, rfl⟩
      have HSB := Lib.hid hb
      have HE : Hid (Calls Tryz.prog 65 #[vT, vK] w3 fun e w' => e = .returned (.bool b) ∧ Below w3.heap.size w3 w') := Lib.hid (by
        rw [hb, symB, ← HK.out]
        exact impl_eqShapes_c w3 ((CellsIn.rd oT).more (Nat.zero_le _) (Nat.le_refl _)) (H3.g2.cellsRd (by omega)))
      clear HT oT b3 H hb
      go_wp2_with fail
      refine (HE.out).mono ?_
      rintro e w4 ⟨rfl, b4⟩
      have H4 := (H3.step b4).drop
      clear HE H3 b4
      cases b
      · have HZ := Lib.hid (symZ_no (s := s) (i := i) HSB.out.symm)
        go_wp2
        go_roundw
        case rel => exact ⟨i + 1, q, by omega, by go_num, by rw [HZ.out]; exact HQ, by omega, by rw [HZ.out]; exact H4⟩
        case measure => simp [intOf]; omega
      · have HZ := Lib.hid (symZ_yes (s := s) (i := i) HSB.out.symm)
        go_wp2_with (at_builtin; refine wpList_app rfl _ _ 33 rfl 3 i0 _ 1 8 Tryz.underlying33 hi hz0 hz1 hz2 rfl (by decide) _ _ _ rfl (H4.alloc _) _ _ _ [.int .i64 (i : Int)] rfl (Rd.fresh _ 3 #[.int .i64 (i : Int)] 1 1 rfl) oc1 (by unfold maxLen; omega) (by omega) ?_; intro v5 w5 H5; clear H4)
        have HQ2 : Hid (q + 1 = (symZ s (i + 1)).length) := Lib.hid (by rw [HZ.out, List.length_append, ← HQ.out]; rfl)
        have H6 : Sep w w5 ([Res.row v5 3 1 (q + 1) (ic (symZ s (i + 1))), Res.row vK 39 2 K.length (cc K)]) := by
          rw [HZ.out, ic_append]; exact H5
        clear H5
        go_wp2
        go_roundw
        case rel => exact ⟨i + 1, q + 1, by omega, by go_num, HQ2, by omega, H6⟩
        case measure => simp [intOf]; omega
    · obtain rfl : i = 8 := by omega
      have hq := HQ.out
      have H5 := H.oi
      have hbl := H.below
      clear H
      go_wp2
      go_ret
      exact ⟨_, rfl, by rw [hq] at H5; exact H5, hbl⟩
set_option maxRecDepth 100000 in
set_option maxHeartbeats 3200000 in
theorem spec_sym_c {v : Value} {s : List Cell} (w : World) (h : CellsRd w 0 w.heap.size v s) (hsh : isShape s = true) :
    Calls Tryz.prog 15 #[v] w fun e w' => ∃ v', e = .returned v' ∧ IntsIn w' w.heap.size w'.heap.size v' (symZ s 8) ∧ Below w.heap.size w w' := by
  obtain ⟨i0, hi, hz0, hz1, hz2⟩ := info_parts infoIntSy
  obtain ⟨hl1, hl8⟩ := shp_len hsh
  have HRD : Hid (∀ w1, Below w.heap.size w w1 → CellsRd w1 0 w1.heap.size v s) := Lib.hid fun w1 b1 => (h.keep (SameIn.of_below b1 (Nat.le_refl _))).more (Nat.le_refl _) b1.size
  have HSH := Lib.hid hsh
  have HS : Hid (∀ w1, Below w.heap.size w w1 → Calls Tryz.prog 9 #[v] w1 fun e w' => e = .returned (.bool true) ∧ Below w1.heap.size w1 w') := Lib.hid fun w1 b1 => by
    have := spec_isShape_c w1 (HRD.out w1 b1) (by omega)
    rwa [hsh] at this
  have HCO : Hid (∀ w1, Below w.heap.size w w1 → Calls Tryz.prog 47 #[v] w1 fun e w' => ∃ v', e = .returned v' ∧ CellsIn w' w1.heap.size w'.heap.size v' (corner s) ∧ Below w1.heap.size w1 w') := Lib.hid fun w1 b1 => l2Corner_c w1 (HRD.out w1 b1) hsh
  have HTU : Hid (∀ (m : Nat) w1, m < 8 → Below w.heap.size w w1 → Calls Tryz.prog 46 #[v, .int .i64 m] w1 fun e w' => ∃ v', e = .returned v' ∧ CellsIn w' w1.heap.size w'.heap.size v' (turnS m s) ∧ Below w1.heap.size w1 w') := Lib.hid fun m w1 hm b1 => spec_turn_c m w1 (HRD.out w1 b1) hm hl1 (by omega) (sml_of hsh _ (by decide))
  obtain ⟨A, c, rfl, _, _⟩ := h
  obtain ⟨K, hK⟩ : ∃ K, K = corner s := ⟨_, rfl⟩
  have HK := Lib.hid hK
  have hk8 : K.length ≤ 1000 := by rw [hK, corner, shift, List.length_map]; omega
  rw [← hK] at HCO
  have H1 := (Sep.start w).rowBox 3 #[] 1 0 rfl (by decide)
  obtain ⟨g, hg⟩ : ∃ g, g = w.heap.size := ⟨_, rfl⟩
  rw [← hg] at H1
  clear hsh hK
  go_enter Tryz.func15, Tryz.ntmps15
  go_upto_region 2 with fail
  rw [← hg]
  generalize w.alloc (.cells #[] 3) = W1 at *
  clear hg
  go_wp2
  go_loopw [3, 4] (fun ov iv wx => ∃ (i q : Nat), i ≤ 8 ∧ iv = .int .i64 i ∧ Hid (q = (symZ s i).length) ∧ q ≤ i ∧ Sep w wx [Res.row ov 3 1 q (ic (symZ s i))]) (fun _ iv _ => 8 - (intOf iv).toNat)
  case atStart => exact ⟨0, 0, by omega, rfl, Lib.hid rfl, Nat.le_refl _, H1⟩
  case round =>
    clear H1
    obtain ⟨i, q, hi8, rfl, HQ, hq, H⟩ := hrel
    by_cases hlt : i < 8
    · have hlti : (i : Int) < 8 := by omega
      have hltd : decide ((i : Int) < 8) = true := decide_eq_true hlti
      go_wp2_with fail
      refine (HS.out _ H.below).mono ?_
      rintro e wa ⟨rfl, b1⟩
      have Ha := H.step b1
      have HT := Lib.hid (HTU.out i wa hlt Ha.below)
      clear b1 H
      go_wp2_with fail
      refine (HT.out).mono ?_
      rintro e w3 ⟨vT, rfl, oT, b3⟩
      have hrT : CellsRd w3 0 w3.heap.size vT (turnS i s) := (CellsIn.rd oT).more (Nat.zero_le _) (Nat.le_refl _)
      have H3 := Ha.step b3
      have HC := Lib.hid (HCO.out w3 H3.below)
      clear HT oT b3 Ha
      go_wp2_with fail
      refine (HC.out).mono ?_
      rintro e w5' ⟨vK, rfl, oK, b5⟩
      have hrT5 := (hrT.keep (SameIn.of_below b5 (Nat.le_refl _))).more (Nat.le_refl _) b5.size
      have H5' := H3.oiNew b5 oK
      obtain ⟨b, hb⟩ : ∃ b, b = symB s i := ⟨_, rfl⟩
      have HSB := Lib.hid hb
      have HE : Hid (Calls Tryz.prog 45 #[vT, vK] w5' fun e w' => e = .returned (.bool b) ∧ Below w5'.heap.size w5' w') := Lib.hid (by
        rw [hb, symB, ← HK.out]
        exact spec_eqShapes_c w5' hrT5 (H5'.cellsRd (by omega)))
      clear HC oK b5 H3 hb hrT hrT5
      go_wp2_with fail
      refine (HE.out).mono ?_
      rintro e w4 ⟨rfl, b4⟩
      have H4 := (H5'.step b4).drop
      clear HE H5' b4
      cases b
      · have HZ := Lib.hid (symZ_no (s := s) (i := i) HSB.out.symm)
        go_wp2
        go_roundw
        case rel => exact ⟨i + 1, q, by omega, by go_num, by rw [HZ.out]; exact HQ, by omega, by rw [HZ.out]; exact H4⟩
        case measure => simp [intOf]; omega
      · have HZ := Lib.hid (symZ_yes (s := s) (i := i) HSB.out.symm)
        go_wp2_with (at_builtin; refine wpList_app rfl _ _ 33 rfl 3 i0 _ 1 8 Tryz.underlying33 hi hz0 hz1 hz2 rfl (by decide) _ _ _ rfl (H4.alloc _) _ _ _ [.int .i64 (i : Int)] rfl (Rd.fresh _ 3 #[.int .i64 (i : Int)] 1 1 rfl) oc1 (by unfold maxLen; omega) (by omega) ?_; intro v5 w5 H5; clear H4)
        have HQ2 : Hid (q + 1 = (symZ s (i + 1)).length) := Lib.hid (by rw [HZ.out, List.length_append, ← HQ.out]; rfl)
        have H6 : Sep w w5 ([Res.row v5 3 1 (q + 1) (ic (symZ s (i + 1)))]) := by
          rw [HZ.out, ic_append]; exact H5
        clear H5
        go_wp2
        go_roundw
        case rel => exact ⟨i + 1, q + 1, by omega, by go_num, HQ2, by omega, H6⟩
        case measure => simp [intOf]; omega
    · obtain rfl : i = 8 := by omega
      have hltd : decide ((8 : Int) < 8) = false := rfl
      have hq := HQ.out
      have H5 := H.oi
      have hbl := H.below
      clear H
      go_wp2
      go_ret
      exact ⟨_, rfl, by rw [hq] at H5; exact H5, hbl⟩
end Go.Proofs.YtbdffadhieljbaaGreatDoor
