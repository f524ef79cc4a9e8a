
/-
  LargestPacking, the program's walk; is a problem small? Both walks. LargestPacking, the program's walk. Does a mask meet all placements? Both walks. How many cells a mask has: the reference's walk. LargestPacking, the reference's walk. LargestPacking, the reference's walk: the whole. An append of one number onto a row that is also read by an older slice: the older slice's cells stay. No program in sight but the type of the row. The submasks of a mask, the program's walk: it reads the list while it appends to it. FewestBlockers, the program's walk. FewestBlockers, the reference's walk. ClaimOfPacking: both walks.
-/
import Derived.Test.YtfmkmjebkmimkaaGreatDoorPkIX
import Derived.Test.YtfmkmjebkmimkaaGreatDoorPzG
import Derived.Test.YtfmkmjebkmimkaaGreatDoorPlcSX
import Derived.Test.YtfmkmjebkmimkaaGreatDoorPkPU
import Derived.Test.YtfmkmjebkmimkaaGreatDoorSepX
import Derived.Test.YtfmkmjebkmimkaaGreatDoorMskX
import Derived.Deep.DeepCutAuto
namespace Go.Proofs.YtfmkmjebkmimkaaGreatDoor
open Go.RowKit

/-- a largest packing -/
def lgP (r : Reg) (ps : List (List Cell)) : List Nat := if smlB r ps = true then pk (allN r ps) 0 else []
set_option maxRecDepth 100000 in
set_option maxHeartbeats 1600000 in
theorem impl_small_c {v v2 : Value} {r : Reg} {ps : List (List Cell)} (w : World) (h : RegRd w 0 w.heap.size v r) (h2 : CellSSRd w 0 w.heap.size v2 ps) (hn : ps.length ≤ 1048576) (hl : ∀ s ∈ ps, s.length ≤ 1048576) :
    Calls Tryz.prog 132 #[v, v2] w fun e w' => e = .returned (.bool (smlB r ps)) ∧ Below w.heap.size w w' := by
  have HRD : Hid (∀ w1, Below w.heap.size w w1 → RegRd w1 0 w1.heap.size v r) := Lib.hid fun w1 b1 => (h.keep (SameIn.of_below b1 (Nat.le_refl _))).more (Nat.le_refl _) b1.size
  have HR2 : Hid (∀ w1, Below w.heap.size w w1 → CellSSRd w1 0 w1.heap.size v2 ps) := Lib.hid fun w1 b1 => (h2.keep (SameIn.of_below b1 (Nat.le_refl _))).more (Nat.le_refl _) b1.size
  obtain ⟨T, hT⟩ : ∃ T, T = smlB r ps := ⟨_, rfl⟩
  obtain ⟨K, hK⟩ : ∃ K, K = (r.valid && arePcs ps) := ⟨_, rfl⟩
  rw [← hT]
  have HT := Lib.hid hT
  have HKK := Lib.hid hK
  obtain ⟨sr, rfl, hsr⟩ := h
  obtain ⟨A, c, rfl, _, _⟩ := hsr
  obtain ⟨vs, ⟨A2, c2, rfl, _, _⟩, _⟩ := h2
  have H0 := (Sep.start w).box 29 #[.int .i64 r.w, .slice A r.rows.length c]
  obtain ⟨g, hg⟩ : ∃ g, g = w.heap.size := ⟨_, rfl⟩
  rw [← hg] at H0
  clear hT hK
  go_enter Tryz.func132, Tryz.ntmps132
  go_upto_region 1 with fail
  rw [← hg]
  generalize (w.alloc (.cells #[.int .i64 r.w, .slice A r.rows.length c] 29)) = W at *
  clear hg
  have c0 : W.cell? ⟨g, 0, none⟩ = some (.int .i64 r.w) := H0.h0.cell 0
  have c1 : W.cell? ⟨g, 1, none⟩ = some (.slice A r.rows.length c) := H0.h0.cell 1
  have HP := Lib.hid (impl_prob_c W (HRD.out W H0.below) (HR2.out W H0.below) hn hl)
  rw [← HKK.out] at HP
  go_wp2_with fail
  refine (HP.out).mono ?_
  rintro e w1 ⟨rfl, b1⟩
  have H1 := H0.step b1
  clear c0 c1 H0 HP b1
  cases K
  · obtain rfl : T = false := by rw [HT.out, smlB, ← HKK.out]; rfl
    go_wp2
    go_ret
    exact ⟨rfl, H1.below⟩
  · have hkk := HKK.out.symm
    rw [Bool.and_eq_true] at hkk
    have HAR := Lib.hid (impl_area_c w1 (HRD.out w1 H1.below) (by have := (Reg.valid_iff.1 hkk.1).2.2.2.1; omega))
    obtain ⟨a, ha⟩ : ∃ a, a = areaR r := ⟨_, rfl⟩
    rw [← ha] at HAR
    have HTA : Hid (decide (a ≤ 12) = T) := Lib.hid (by rw [HT.out, smlB, ← HKK.out, ha]; rfl)
    have c0 : w1.cell? ⟨g, 0, none⟩ = some (.int .i64 r.w) := H1.h0.cell 0
    have c1 : w1.cell? ⟨g, 1, none⟩ = some (.slice A r.rows.length c) := H1.h0.cell 1
    clear hkk ha
    go_wp2_with fail
    refine (HAR.out).mono ?_
    rintro e w2 ⟨rfl, b2⟩
    have H2 := H1.step b2
    clear c0 c1 H1 HAR b2
    go_wp2
    go_ret
    rw [HTA.out]
    exact ⟨rfl, H2.below⟩
set_option maxRecDepth 100000 in
set_option maxHeartbeats 1600000 in
theorem spec_small_c {v v2 : Value} {r : Reg} {ps : List (List Cell)} (w : World) (h : RegRd w 0 w.heap.size v r) (h2 : CellSSRd w 0 w.heap.size v2 ps) (hn : ps.length ≤ 1048576) (hl : ∀ s ∈ ps, s.length ≤ 1048576) :
    Calls Tryz.prog 126 #[v, v2] w fun e w' => e = .returned (.bool (smlB r ps)) ∧ Below w.heap.size w w' := by
  have HRD : Hid (∀ w1, Below w.heap.size w w1 → RegRd w1 0 w1.heap.size v r) := Lib.hid fun w1 b1 => (h.keep (SameIn.of_below b1 (Nat.le_refl _))).more (Nat.le_refl _) b1.size
  have HR2 : Hid (∀ w1, Below w.heap.size w w1 → CellSSRd w1 0 w1.heap.size v2 ps) := Lib.hid fun w1 b1 => (h2.keep (SameIn.of_below b1 (Nat.le_refl _))).more (Nat.le_refl _) b1.size
  have HAP : Hid (∀ w1, Below w.heap.size w w1 → Calls Tryz.prog 142 #[v2] w1 fun e w' => e = .returned (.bool (arePcs ps)) ∧ Below w1.heap.size w1 w') := Lib.hid fun w1 b1 => spec_arePcs_c w1 (HR2.out w1 b1) hn hl
  obtain ⟨T, hT⟩ : ∃ T, T = smlB r ps := ⟨_, rfl⟩
  obtain ⟨K1, hK1⟩ : ∃ K, K = r.valid := ⟨_, rfl⟩
  obtain ⟨K2, hK2⟩ : ∃ K, K = arePcs ps := ⟨_, rfl⟩
  rw [← hT]
  rw [← hK2] at HAP
  have HT := Lib.hid hT
  have HK1 := Lib.hid hK1
  have HK2 := Lib.hid hK2
  obtain ⟨sr, rfl, hsr⟩ := h
  obtain ⟨A, c, rfl, _, _⟩ := hsr
  obtain ⟨vs, ⟨A2, c2, rfl, _, _⟩, _⟩ := h2
  have H0 := (Sep.start w).box 29 #[.int .i64 r.w, .slice A r.rows.length c]
  obtain ⟨g, hg⟩ : ∃ g, g = w.heap.size := ⟨_, rfl⟩
  rw [← hg] at H0
  clear hT hK1 hK2
  go_enter Tryz.func126, Tryz.ntmps126
  go_upto_region 1 with fail
  rw [← hg]
  generalize (w.alloc (.cells #[.int .i64 r.w, .slice A r.rows.length c] 29)) = W at *
  clear hg
  have c0 : W.cell? ⟨g, 0, none⟩ = some (.int .i64 r.w) := H0.h0.cell 0
  have c1 : W.cell? ⟨g, 1, none⟩ = some (.slice A r.rows.length c) := H0.h0.cell 1
  have HP := Lib.hid (spec_IsRegion_c W (HRD.out W H0.below))
  rw [← HK1.out] at HP
  go_wp2_with fail
  refine (HP.out).mono ?_
  rintro e w1 ⟨rfl, b1⟩
  have H1 := H0.step b1
  clear c0 c1 H0 HP b1
  cases K1
  · obtain rfl : T = false := by rw [HT.out, smlB, ← HK1.out]; rfl
    go_wp2
    go_ret
    exact ⟨rfl, H1.below⟩
  have HP2 := Lib.hid (HAP.out w1 H1.below)
  go_wp2_with fail
  refine (HP2.out).mono ?_
  rintro e w2 ⟨rfl, b2⟩
  replace H1 := H1.step b2
  clear HP2 b2 HAP
  cases K2
  · obtain rfl : T = false := by rw [HT.out, smlB, ← HK2.out, Bool.and_false]; rfl
    go_wp2
    go_ret
    exact ⟨rfl, H1.below⟩
  have HAR := Lib.hid (spec_area_c w2 (HRD.out w2 H1.below) (by have := (Reg.valid_iff.1 HK1.out.symm).2.2.2.1; omega))
  obtain ⟨a, ha⟩ : ∃ a, a = areaR r := ⟨_, rfl⟩
  rw [← ha] at HAR
  have HTA : Hid (decide (a ≤ 12) = T) := Lib.hid (by rw [HT.out, smlB, ← HK1.out, ← HK2.out, ha]; rfl)
  have c0 : w2.cell? ⟨g, 0, none⟩ = some (.int .i64 r.w) := H1.h0.cell 0
  have c1 : w2.cell? ⟨g, 1, none⟩ = some (.slice A r.rows.length c) := H1.h0.cell 1
  clear ha
  go_wp2_with fail
  refine (HAR.out).mono ?_
  rintro e w3 ⟨rfl, b3⟩
  have H2 := H1.step b3
  clear c0 c1 H1 HAR b3
  go_wp2
  go_ret
  rw [HTA.out]
  exact ⟨rfl, H2.below⟩
end Go.Proofs.YtfmkmjebkmimkaaGreatDoor

namespace Go.Proofs.YtfmkmjebkmimkaaGreatDoor
open Go.RowKit

def LgPost (r : Reg) (ps : List (List Cell)) (w : World) : Ending → World → Prop := fun e w' => ∃ v', e = .returned (.tuple #[v', .bool (smlB r ps)]) ∧ IntsIn w' w.heap.size w'.heap.size v' (nl (lgP r ps)) ∧ Below w.heap.size w w'
theorem LgPost.mk {r : Reg} {ps : List (List Cell)} {w w' : World} {v : Value} {b : Bool} {O : List Nat} {n : Nat} {L : List Res} (hb : b = smlB r ps) (hO : lgP r ps = O) (hn : n = O.length) (H : Sep w w' (Res.row v 3 1 n (ic (nl O)) :: L)) : LgPost r ps w (.returned (.tuple #[v, .bool b])) w' := by
  subst hb
  refine ⟨v, rfl, ?_, H.below⟩
  rw [hO]
  unfold IntsIn
  rw [show (nl O).length = n by simp [nl]; exact hn.symm]
  exact H.oi
theorem Sep.kmapNew {w0 w : World} {L : List Res} (H : Sep w0 w L) : Sep w0 (w.alloc (.map #[] 0)) (Res.kmap w.heap.size [] :: L) :=
  H.new ((Below.refl _ _).alloc (Nat.le_refl _) _) (MapKs.made w) (fun b hb => by have : b = w.heap.size := hb; omega)
set_option maxRecDepth 100000 in
theorem kmake (w : World) : (Instr.makeMap 124 none).run Tryz.prog w = .ok (.map (some w.heap.size)) (w.alloc (.map #[] 0)) := by
  simp [Instr.makeMap, go_sem]
set_option maxRecDepth 100000 in
set_option maxHeartbeats 3200000 in
theorem impl_lg_c {v v2 : Value} {r : Reg} {ps : List (List Cell)} (w : World) (h : RegRd w 0 w.heap.size v r) (h2 : CellSSRd w 0 w.heap.size v2 ps) (hn : ps.length ≤ 1048576) (hl : ∀ s ∈ ps, s.length ≤ 1048576) :
    Calls Tryz.prog 60 #[v, v2] w (LgPost r ps w) := by
  obtain ⟨j0, hj, hy0, hy1, hy2⟩ := info_parts infoIntZ
  have HRD : Hid (∀ w1, Below w.heap.size w w1 → RegRd w1 0 w1.heap.size v r) := Lib.hid fun w1 b1 => (h.keep (SameIn.of_below b1 (Nat.le_refl _))).more (Nat.le_refl _) b1.size
  have HR2 : Hid (∀ w1, Below w.heap.size w w1 → CellSSRd w1 0 w1.heap.size v2 ps) := Lib.hid fun w1 b1 => (h2.keep (SameIn.of_below b1 (Nat.le_refl _))).more (Nat.le_refl _) b1.size
  obtain ⟨T, hT⟩ : ∃ T, T = smlB r ps := ⟨_, rfl⟩
  have HT := Lib.hid hT
  obtain ⟨sr, rfl, hsr⟩ := h
  obtain ⟨A0, c, rfl, _, _⟩ := hsr
  obtain ⟨vs, ⟨A2, c2, rfl, _, _⟩, _⟩ := h2
  have H0 := (Sep.start w).box 29 #[.int .i64 r.w, .slice A0 r.rows.length c]
  obtain ⟨g, hg⟩ : ∃ g, g = w.heap.size := ⟨_, rfl⟩
  rw [← hg] at H0
  go_enter Tryz.func60, Tryz.ntmps60
  go_upto_region 1 with fail
  rw [← hg]
  generalize (w.alloc (.cells #[.int .i64 r.w, .slice A0 r.rows.length c] 29)) = W at *
  clear hg
  have c0 : W.cell? ⟨g, 0, none⟩ = some (.int .i64 r.w) := H0.h0.cell 0
  have c1 : W.cell? ⟨g, 1, none⟩ = some (.slice A0 r.rows.length c) := H0.h0.cell 1
  have HP := Lib.hid (impl_small_c W (HRD.out W H0.below) (HR2.out W H0.below) hn hl)
  rw [← hT] at HP
  clear hT
  go_wp2_with fail
  refine (HP.out).mono ?_
  rintro e w1 ⟨rfl, b1⟩
  have H1 := H0.step b1
  clear c0 c1 H0 HP b1
  cases T
  · have H2 := H1.nil 3 1
    go_wp2
    go_ret2
    exact LgPost.mk (O := []) (n := 0) HT.out (by rw [lgP, if_neg (by rw [← HT.out]; decide)]) rfl H2
  have hkk : (r.valid && arePcs ps) = true := by
    have := HT.out.symm
    unfold smlB at this
    rw [Bool.and_eq_true] at this
    exact this.1
  rw [Bool.and_eq_true] at hkk
  have HV := Lib.hid (Reg.valid_iff.1 hkk.1)
  have HAP := Lib.hid hkk.2
  have c0 : w1.cell? ⟨g, 0, none⟩ = some (.int .i64 r.w) := H1.h0.cell 0
  have c1 : w1.cell? ⟨g, 1, none⟩ = some (.slice A0 r.rows.length c) := H1.h0.cell 1
  have HALL := Lib.hid (impl_all_c w1 (HRD.out w1 H1.below) (HR2.out w1 H1.below) HV.out HAP.out)
  obtain ⟨A, hA⟩ : ∃ A, A = allN r ps := ⟨_, rfl⟩
  have HA := Lib.hid hA
  rw [← nl_allN HV.out, ← hA] at HALL
  have HAL : Hid (A.length ≤ 1000000) := Lib.hid (by
    have h1 := allP_len HV.out (ps := ps)
    have h2 := (arePcs_on HAP.out).2.2
    have h3 : ps.length * 288 ≤ 5 * 288 := Nat.mul_le_mul_right _ (by omega)
    have h4 : A.length = (allP r ps).length := by rw [← nl_allN HV.out, ← hA]; simp [nl]
    omega)
  have HMS : Hid (∀ m ∈ A, m < 2 ^ 36) := Lib.hid (by rw [hA]; exact allN_lt HV.out)
  have HLG : Hid (lgP r ps = pk A 0) := Lib.hid (by rw [lgP, if_pos HT.out.symm, hA])
  clear hkk hA
  go_wp2_with fail
  refine (HALL.out).mono ?_
  rintro e w2 ⟨v3, rfl, o3, b3⟩
  obtain ⟨k, hk⟩ : ∃ k, k = A.length := ⟨_, rfl⟩
  have o4 : OI w2 w1.heap.size w2.heap.size 3 1 v3 k (ic (nl A)) := by
    unfold IntsIn at o3
    rw [show (nl A).length = k by simp [nl]; exact hk.symm] at o3
    exact o3
  obtain ⟨Av, cv, rfl, _, _, _⟩ := o4.rd
  have hk6 : k ≤ 1000000 := by rw [hk]; exact HAL.out
  have HK := Lib.hid hk
  have H3 := (H1.oiNew b3 o4).kmapNew
  have H4 := H3.box 126 #[.slice Av k cv, .map (some w2.heap.size)]
  obtain ⟨W3, hW3⟩ : ∃ x, x = (w2.alloc (.map #[] 0)).alloc (.cells #[.slice Av k cv, .map (some w2.heap.size)] 126) := ⟨_, rfl⟩
  rw [← hW3] at H4
  simp only [World.size_alloc] at H4
  obtain ⟨mb, hmb⟩ : ∃ mb, mb = w2.heap.size := ⟨_, rfl⟩
  have hmk := kmake
  clear c0 c1 HALL o3 o4 b3 hk H1
  go_upto_region 4 with fail
  rw [← hW3]
  rw [← hmb] at H4 ⊢
  clear hW3 hmb H3 hmk
  have H5 := (H4.g1.nil 3 1)
  have hgs := H4.h0.lt
  have d0 : W3.cell? ⟨mb + 1, 0, none⟩ = some (.slice Av k cv) := H4.h0.cell 0
  clear H4
  go_wp2
  clear hgs d0
  go_loopw [7, 8, 23] (fun ov uv iv wx => ∃ (i u n : Nat) (O : List Nat) (l : List ((Int × Int) × Int)) (ow : Value), i ≤ k ∧ iv = .int .i64 i ∧ uv = .int .i64 u ∧ ov = ow ∧ u < 68719476736 ∧ n ≤ i ∧ Hid (n = O.length) ∧ Hid (pk A 0 = O ++ pk (A.drop i) u) ∧ Hid (PkM A l) ∧ Sep w wx [Res.row ow 3 1 n (ic (nl O)), Res.kmap mb l, Res.box (mb + 1) 126 #[.slice Av k cv, .map (some mb)], Res.row (.slice Av k cv) 3 1 k (ic (nl A)), Res.box g 29 #[.int .i64 r.w, .slice A0 r.rows.length c]]) (fun _ _ iv _ => k - (intOf iv).toNat)
  case atStart => exact ⟨0, 0, 0, [], [], _, Nat.zero_le _, rfl, rfl, rfl, by decide, Nat.le_refl _, Lib.hid rfl, Lib.hid rfl, Lib.hid (fun p hp => by simp at hp), H5⟩
  case round =>
    clear H5
    obtain ⟨i, u, n, O, l, ow, hik, rfl, rfl, rfl, hu, hni, HN, HO, HM, H⟩ := hrel
    obtain ⟨Ao, co, rfl, _, _, _⟩ := Res.row_at H.h0
    by_cases hil : i < k
    · have hili : (i : Int) < (k : Int) := by omega
      obtain ⟨m, hm⟩ : ∃ m, A[i]? = some m := ⟨A[i]'(by rw [← HK.out]; exact hil), List.getElem?_eq_getElem _⟩
      obtain ⟨b, off, rfl, hb, y0⟩ := ints_atZ (row_rdZ H.h3 (by simp [nl]; exact HK.out)) (show (nl A)[i]? = some (m : Int) by simp [nl, hm])
      have hm36 : m < 68719476736 := HMS.out m (List.mem_of_getElem? hm)
      have HMM := Lib.hid hm
      have hand := i64_and_nat m u (by omega) (by omega)
      have hor := i64_or_nat u m (by omega) (by omega)
      obtain ⟨a, ha⟩ : ∃ a, a = m &&& u := ⟨_, rfl⟩
      rw [← ha] at hand
      have HA1 := Lib.hid ha
      clear hm ha
      by_cases hz : a = 0
      · subst hz
        have hz1 : (((0 : Nat) : Int) == 0) = true := rfl
        obtain ⟨u2, hu2d⟩ : ∃ u2, u2 = u ||| m := ⟨_, rfl⟩
        rw [← hu2d] at hor
        have hu2c : u2 < 68719476736 := by rw [hu2d]; exact Nat.or_lt_two_pow (n := 36) hu hm36
        have HU2 := Lib.hid hu2d
        obtain ⟨i2, hi2⟩ : ∃ i2, i2 = i + 1 := ⟨_, rfl⟩
        have e5 : (i : Int) + 1 = (i2 : Int) := by omega
        have e6 : IntKind.i64.wrap ((i : Int) + 1) = (i2 : Int) := by rw [e5]; exact IntWalk.i64_in _ (by omega)
        have HI2 := Lib.hid hi2
        have HC1 := Lib.hid (most_c (mb + 1) mb k (.slice (some ⟨b, off, none⟩) k cv) A (k - i2) w wr _ l i2 u2 ⟨by simp, by simp, HK.out, hk6, HMS.out⟩ (by omega) hu2c HM.out H.g1)
        clear hu2d hi2
        go_wp2_with fail
        refine (HC1.out).mono ?_
        rintro e w3 ⟨l1, rfl, hM1, _, H3⟩
        have HM1 := Lib.hid hM1
        obtain ⟨n1, hn1⟩ : ∃ n, n = pkN A i2 u2 := ⟨_, rfl⟩
        have hn1b : n1 ≤ 1000000 := by
          rw [hn1]
          have := pkN_le (A := A.drop i2) u2
          rw [List.length_drop] at this
          have h2 := HAL.out
          unfold pkN
          omega
        have HN1 := Lib.hid hn1
        rw [← hn1]
        have HC2 := Lib.hid (most_c (mb + 1) mb k (.slice (some ⟨b, off, none⟩) k cv) A (k - i) w w3 _ l1 i u ⟨by simp, by simp, HK.out, hk6, HMS.out⟩ (by omega) hu HM1.out H3)
        clear hM1 hn1 HC1 H H3 hb y0
        go_wp2_with fail
        refine (HC2.out).mono ?_
        rintro e w4 ⟨l2, rfl, hM2, _, H4⟩
        have HM2 := Lib.hid hM2
        obtain ⟨n2, hn2⟩ : ∃ n, n = pkN A i u := ⟨_, rfl⟩
        have HN2 := Lib.hid hn2
        rw [← hn2]
        have H5 := H4.p1
        clear hM2 hn2 HC2 H4
        by_cases he : 1 + n1 = n2
        · have heb : ((1 : Int) + (n1 : Int) == (n2 : Int)) = true := by simp; omega
          have HTK : Hid (pk A 0 = (O ++ [m]) ++ pk (A.drop (i + 1)) u2) := Lib.hid (by
            rw [HO.out, pk_take HMM.out HA1.out.symm (by rw [← HU2.out, ← HI2.out, ← HN1.out, ← HN2.out]; exact he), ← HU2.out, List.append_assoc]; rfl)
          have HNL : Hid (ic (nl (O ++ [m])) = ic (nl O) ++ [.int .i64 (m : Int)]) := Lib.hid (by rw [nlZ, ic_append]; rfl)
          have HN3 : Hid (n + 1 = (O ++ [m]).length) := Lib.hid (by rw [List.length_append, ← HN.out]; rfl)
          clear he
          go_wp2_with (at_builtin; refine wpList_app rfl _ _ 22 rfl 3 j0 _ 1 8 Tryz.underlying22 hj hy0 hy1 hy2 rfl (by decide) _ _ _ rfl (H5.alloc _) _ _ _ [.int .i64 (m : Int)] rfl (Rd.fresh w4 _ #[.int .i64 (m : Int)] 1 1 rfl) oc1 (by unfold maxLen; omega) (by omega) ?_; intro v5 w5 H6; clear H5)
          rw [← HNL.out] at H6
          go_roundw
          case rel => exact ⟨i + 1, u2, n + 1, O ++ [m], l2, _, by omega, by go_num, rfl, rfl, hu2c, by omega, HN3, HTK, HM2, H6⟩
          case measure => simp [intOf]; omega
        · have heb : ((1 : Int) + (n1 : Int) == (n2 : Int)) = false := by simp; omega
          have HTK : Hid (pk A 0 = O ++ pk (A.drop (i + 1)) u) := Lib.hid (by
            rw [HO.out, pk_leave HMM.out (.inr (by rw [← HU2.out, ← HI2.out, ← HN1.out, ← HN2.out]; exact he))])
          clear he
          go_wp2
          go_roundw
          case rel => exact ⟨i + 1, u, n, O, l2, _, by omega, by go_num, rfl, rfl, hu, by omega, HN, HTK, HM2, H5⟩
          case measure => simp [intOf]; omega
      · have hz1 : ((a : Int) == 0) = false := by simp; omega
        have HTK : Hid (pk A 0 = O ++ pk (A.drop (i + 1)) u) := Lib.hid (by
          rw [HO.out, pk_leave HMM.out (.inl (by rw [← HA1.out]; exact hz))])
        clear hz
        go_wp2
        go_roundw
        case rel => exact ⟨i + 1, u, n, O, l, _, by omega, by go_num, rfl, rfl, hu, by omega, HN, HTK, HM, H⟩
        case measure => simp [intOf]; omega
    · obtain rfl : k = i := by omega
      have HTK : Hid (lgP r ps = O) := Lib.hid (by rw [HLG.out, HO.out, HK.out, List.drop_length, show pk [] u = [] from rfl, List.append_nil])
      go_wp2
      go_ret2
      exact LgPost.mk HT.out HTK.out HN.out H
end Go.Proofs.YtfmkmjebkmimkaaGreatDoor

namespace Go.Proofs.YtfmkmjebkmimkaaGreatDoor
open Go.RowKit

set_option maxRecDepth 100000 in
set_option maxHeartbeats 800000 in
theorem impl_blk_c {v : Value} {A : List Nat} {m : Nat} (w : World) (h : IntsRd w 0 w.heap.size v (nl A)) (hA : ∀ x ∈ A, x < 2 ^ 36) (hl : A.length ≤ 1000000) (hm : m < 2 ^ 36) :
    Calls Tryz.prog 135 #[v, .int .i64 m] w fun e w' => e = .returned (.bool (blkB A m)) ∧ w = w' := by
  obtain ⟨n, hn⟩ : ∃ n, n = A.length := ⟨_, rfl⟩
  have hnl : (nl A).length = n := by simp [nl]; exact hn.symm
  obtain ⟨Av, cv, rfl, _, _⟩ := id h
  rw [hnl] at h ⊢
  have HR := Lib.hid h
  have HN := Lib.hid hn
  have HA := Lib.hid hA
  have hn6 : n ≤ 1000000 := by rw [hn]; exact hl
  have hm36 : m < 68719476736 := hm
  obtain ⟨T, hT⟩ : ∃ T, T = blkB A m := ⟨_, rfl⟩
  rw [← hT]
  have HT := Lib.hid hT
  clear h hn hA hl hm hT hnl
  go_enter Tryz.func135, Tryz.ntmps135
  go_wp2
  go_loopw [9] (fun iv wx => ∃ i : Nat, i ≤ n ∧ iv = .int .i64 i ∧ Hid (∀ (j x : Nat), j < i → A[j]? = some x → x &&& m ≠ 0) ∧ w = wx) (fun iv _ => n - (intOf iv).toNat)
  case atStart => exact ⟨0, Nat.zero_le _, rfl, Lib.hid (fun j x hj => absurd hj (Nat.not_lt_zero _)), rfl⟩
  case round =>
    obtain ⟨i, hin, rfl, HK, rfl⟩ := hrel
    by_cases hil : i < n
    · have hili : (i : Int) < (n : Int) := by omega
      obtain ⟨x, hx⟩ : ∃ x, A[i]? = some x := ⟨A[i]'(by rw [← HN.out]; exact hil), List.getElem?_eq_getElem _⟩
      obtain ⟨b, off, rfl, hb, y0⟩ := ints_atZ HR.out (show (nl A)[i]? = some (x : Int) by simp [nl, hx])
      have hx36 : x < 68719476736 := HA.out x (List.mem_of_getElem? hx)
      have hand := i64_and_nat x m (by omega) (by omega)
      obtain ⟨a, ha⟩ : ∃ a, a = x &&& m := ⟨_, rfl⟩
      rw [← ha] at hand
      have HX := Lib.hid hx
      have HAA := Lib.hid ha
      clear hx ha
      by_cases hz : a = 0
      · subst hz
        have hz1 : (((0 : Nat) : Int) == 0) = true := rfl
        obtain rfl : T = false := by rw [HT.out]; exact blkB_no HX.out HAA.out.symm
        go_wp2
        go_ret
        exact ⟨rfl, rfl⟩
      · have hz1 : ((a : Int) == 0) = false := by simp; omega
        have HK2 : Hid (∀ (j x : Nat), j < i + 1 → A[j]? = some x → x &&& m ≠ 0) := Lib.hid (fun j y hj hy => by
          by_cases e : j = i
          · subst e
            rw [HX.out] at hy
            injection hy with hy
            rw [← hy, ← HAA.out]
            exact hz
          · exact HK.out j y (by omega) hy)
        clear hz
        go_wp2
        go_roundw
        case rel => exact ⟨i + 1, by omega, by go_num, HK2, trivial⟩
        case measure => simp [intOf]; omega
    · obtain rfl : i = n := by omega
      obtain rfl : T = true := by
        rw [HT.out]
        exact blkB_yes fun j x hj => HK.out j x (by rw [HN.out]; exact (List.getElem?_eq_some_iff.1 hj).1) hj
      go_wp2
      go_ret
      exact ⟨rfl, rfl⟩
set_option maxRecDepth 100000 in
set_option maxHeartbeats 800000 in
theorem spec_blk_c {v : Value} {A : List Nat} {m : Nat} (w : World) (h : IntsRd w 0 w.heap.size v (nl A)) (hA : ∀ x ∈ A, x < 2 ^ 36) (hl : A.length ≤ 1000000) (hm : m < 2 ^ 36) :
    Calls Tryz.prog 129 #[v, .int .i64 m] w fun e w' => e = .returned (.bool (blkB A m)) ∧ w = w' := by
  obtain ⟨n, hn⟩ : ∃ n, n = A.length := ⟨_, rfl⟩
  have hnl : (nl A).length = n := by simp [nl]; exact hn.symm
  obtain ⟨Av, cv, rfl, _, _⟩ := id h
  rw [hnl] at h ⊢
  have HR := Lib.hid h
  have HN := Lib.hid hn
  have HA := Lib.hid hA
  have hn6 : n ≤ 1000000 := by rw [hn]; exact hl
  have hm36 : m < 68719476736 := hm
  obtain ⟨T, hT⟩ : ∃ T, T = blkB A m := ⟨_, rfl⟩
  rw [← hT]
  have HT := Lib.hid hT
  clear h hn hA hl hm hT hnl
  go_enter Tryz.func129, Tryz.ntmps129
  go_wp2
  go_loopw [5] (fun iv wx => ∃ i : Nat, i ≤ n ∧ iv = .int .i64 i ∧ Hid (∀ (j x : Nat), j < i → A[j]? = some x → x &&& m ≠ 0) ∧ w = wx) (fun iv _ => n - (intOf iv).toNat)
  case atStart => exact ⟨0, Nat.zero_le _, rfl, Lib.hid (fun j x hj => absurd hj (Nat.not_lt_zero _)), rfl⟩
  case round =>
    obtain ⟨i, hin, rfl, HK, rfl⟩ := hrel
    by_cases hil : i < n
    · have hili : (i : Int) < (n : Int) := by omega
      obtain ⟨x, hx⟩ : ∃ x, A[i]? = some x := ⟨A[i]'(by rw [← HN.out]; exact hil), List.getElem?_eq_getElem _⟩
      obtain ⟨b, off, rfl, hb, y0⟩ := ints_atZ HR.out (show (nl A)[i]? = some (x : Int) by simp [nl, hx])
      have hx36 : x < 68719476736 := HA.out x (List.mem_of_getElem? hx)
      have hand := i64_and_nat x m (by omega) (by omega)
      obtain ⟨a, ha⟩ : ∃ a, a = x &&& m := ⟨_, rfl⟩
      rw [← ha] at hand
      have HX := Lib.hid hx
      have HAA := Lib.hid ha
      clear hx ha
      by_cases hz : a = 0
      · subst hz
        have hz1 : (((0 : Nat) : Int) == 0) = true := rfl
        obtain rfl : T = false := by rw [HT.out]; exact blkB_no HX.out HAA.out.symm
        go_wp2
        go_ret
        exact ⟨rfl, rfl⟩
      · have hz1 : ((a : Int) == 0) = false := by simp; omega
        have HK2 : Hid (∀ (j x : Nat), j < i + 1 → A[j]? = some x → x &&& m ≠ 0) := Lib.hid (fun j y hj hy => by
          by_cases e : j = i
          · subst e
            rw [HX.out] at hy
            injection hy with hy
            rw [← hy, ← HAA.out]
            exact hz
          · exact HK.out j y (by omega) hy)
        clear hz
        go_wp2
        go_roundw
        case rel => exact ⟨i + 1, by omega, by go_num, HK2, trivial⟩
        case measure => simp [intOf]; omega
    · obtain rfl : i = n := by omega
      obtain rfl : T = true := by
        rw [HT.out]
        exact blkB_yes fun j x hj => HK.out j x (by rw [HN.out]; exact (List.getElem?_eq_some_iff.1 hj).1) hj
      go_wp2
      go_ret
      exact ⟨rfl, rfl⟩
end Go.Proofs.YtfmkmjebkmimkaaGreatDoor

namespace Go.Proofs.YtfmkmjebkmimkaaGreatDoor
open Go.RowKit

set_option maxRecDepth 100000 in
set_option maxHeartbeats 800000 in
theorem spec_bits_c {m : Nat} (w : World) (hm : m < 2 ^ 36) :
    Calls Tryz.prog 56 #[.int .i64 m] w fun e w' => e = .returned (.int .i64 (cntB m : Nat)) ∧ w = w' := by
  have HM := Lib.hid hm
  obtain ⟨T, hT⟩ : ∃ T, T = cntB m := ⟨_, rfl⟩
  rw [← hT]
  have HT := Lib.hid hT
  have hm36 : m < 68719476736 := hm
  have hmax : ∀ dd : Decidable (0 < m), @ite Int (0 < m) dd (m : Int) 0 = (m : Int) := fun dd => by by_cases h : 0 < m <;> simp [h]; omega
  clear hm hT
  go_enter Tryz.func56, Tryz.ntmps56
  go_wp2
  clear hmax
  go_loopw [3, 4] (fun nv xv wx => ∃ k n x : Nat, k ≤ 36 ∧ n ≤ k ∧ x < 68719476736 ∧ nv = .int .i64 n ∧ xv = .int .i64 x ∧ Hid (x = m / 2 ^ k) ∧ Hid (n = cntTo m k) ∧ w = wx) (fun _ xv _ => (intOf xv).toNat)
  case atStart => exact ⟨0, 0, m, by decide, by decide, hm36, rfl, rfl, Lib.hid (by simp), Lib.hid rfl, rfl⟩
  case round =>
    obtain ⟨k, n, x, hk, hn, hx36, rfl, rfl, HX, HN, rfl⟩ := hrel
    by_cases hx : 0 < x
    · have hxi : (0 : Int) < (x : Int) := by omega
      have hk36 : k < 36 := by
        rcases Nat.lt_or_ge k 36 with h | h
        · exact h
        · have h1 := HX.out
          have h2 : m / 2 ^ k = 0 := Nat.div_eq_of_lt (Nat.lt_of_lt_of_le HM.out (Nat.pow_le_pow_right (by decide) h))
          omega
      have hand : bits .and .i64 (x : Int) 1 = ((x % 2 : Nat) : Int) := by
        have := i64_and_nat x 1 (by omega) (by decide)
        rw [nat_mask1] at this
        exact this
      obtain ⟨b, hb⟩ : ∃ b, b = x % 2 := ⟨_, rfl⟩
      rw [← hb] at hand
      have hb2 : b < 2 := by rw [hb]; exact Nat.mod_lt _ (by decide)
      obtain ⟨y, hy⟩ : ∃ y, y = x / 2 := ⟨_, rfl⟩
      have hyx : y < x := by rw [hy]; omega
      have hdiv : (x : Int) / 2 = (y : Int) := by omega
      have HY : Hid (y = m / 2 ^ (k + 1)) := Lib.hid (by rw [hy, HX.out, Nat.pow_succ, Nat.div_div_eq_div_mul])
      have HN2 : Hid (n + b = cntTo m (k + 1)) := Lib.hid (by rw [cntTo, ← HN.out, hb, HX.out])
      clear hb hy
      go_wp2
      go_roundw
      case rel => exact ⟨k + 1, n + b, y, by omega, by omega, by omega, by go_num, by go_num, HY, HN2, trivial⟩
      case measure => simp [intOf]; omega
    · obtain rfl : x = 0 := by omega
      obtain rfl : T = n := by
        rw [HT.out, HN.out, cntB]
        obtain ⟨d, hd⟩ : ∃ d, 36 = k + d := ⟨36 - k, by omega⟩
        rw [hd]
        exact cntTo_up HX.out.symm d
      go_wp2
      go_ret
      exact ⟨rfl, rfl⟩
end Go.Proofs.YtfmkmjebkmimkaaGreatDoor

namespace Go.Proofs.YtfmkmjebkmimkaaGreatDoor
open Go.RowKit

theorem row_RdP {w : World} {e : TypeId} {sz n c : Nat} {A : Option Addr} {xs : List Value} (h : w.ownsRow 0 e sz (.slice A n c) n xs) : Rd w 0 w.heap.size sz A n xs := by
  obtain ⟨A', c', hq, _, _, h2⟩ := own_rd h
  injection hq with q1
  subst q1
  exact h2
def PckPost (T : List Nat) (w : World) : Ending → World → Prop := fun e w' => ∃ v n, e = .returned v ∧ n = T.length ∧ Sep w w' [Res.row v 3 1 n (ic (nl T))]
theorem PckPost.mk {T B : List Nat} {w w' : World} {v : Value} {n : Nat} (hB : B = T) (hn : n = B.length) (H : Sep w w' [Res.row v 3 1 n (ic (nl B))]) : PckPost T w (.returned v) w' := by
  subst hB
  exact ⟨v, n, rfl, hn, H⟩
def PckC (lv : Value) (A : List Nat) (i : Nat) : Prop := ∀ (w : World) (u : Nat), IntsRd w 0 w.heap.size lv (nl A) → (∀ m ∈ A, m < 2 ^ 36) → A.length ≤ 1000000 → u < 2 ^ 36 → Calls Tryz.prog 127 #[lv, .int .i64 i, .int .i64 u] w (PckPost (pk (A.drop i) u) w)
set_option maxRecDepth 100000 in
set_option maxHeartbeats 3200000 in
theorem pck_step (lv : Value) (A : List Nat) (at0 : Nat) (hat : at0 ≤ A.length) (ih : ∀ j, at0 < j → j ≤ A.length → PckC lv A j) : PckC lv A at0 := by
  intro w u h hA hlen hu
  obtain ⟨j0, hj, hy0, hy1, hy2⟩ := info_parts infoIntZ
  have HIH := Lib.hid ih
  have HMS := Lib.hid hA
  have HRD : Hid (∀ w1, Below w.heap.size w w1 → IntsRd w1 0 w1.heap.size lv (nl A)) := Lib.hid fun w1 b1 => (h.keep (SameIn.of_below b1 (Nat.le_refl _))).more (Nat.le_refl _) b1.size
  obtain ⟨k, hk⟩ : ∃ k, k = A.length := ⟨_, rfl⟩
  have HK := Lib.hid hk
  have hk6 : k ≤ 1000000 := by rw [hk]; exact hlen
  have hnl : (nl A).length = k := by simp [nl]; exact hk.symm
  have hat2 : at0 ≤ k := by rw [hk]; exact hat
  have hu36 : u < 68719476736 := hu
  obtain ⟨Av, cv, rfl, _, _⟩ := id h
  rw [hnl] at HRD HIH h ⊢
  have HR0 := Lib.hid h
  have H0 := (Sep.start w).rowBox 3 #[] 1 0 rfl (by decide)
  have HLE : Hid (A.length ≤ 1000000) := Lib.hid hlen
  clear ih hA hk hnl h hat hlen hu
  go_enter Tryz.func127, Tryz.ntmps127
  go_wp2
  go_loopw [7, 8] (fun bv iv wx => ∃ (i n : Nat) (B : List Nat) (bw : Value), at0 ≤ i ∧ i ≤ k ∧ iv = .int .i64 i ∧ bv = bw ∧ n ≤ k ∧ Hid (n = B.length) ∧ Hid (pkB (A.drop i) u B = pk (A.drop at0) u) ∧ Sep w wx [Res.row bw 3 1 n (ic (nl B))]) (fun _ iv _ => k - (intOf iv).toNat)
  case atStart => exact ⟨at0, 0, [], _, Nat.le_refl _, hat2, rfl, rfl, Nat.zero_le _, Lib.hid rfl, Lib.hid pkB_start, H0⟩
  case round =>
    clear H0
    obtain ⟨i, n, B, bw, hai, hik, rfl, rfl, hnk, HN, HB, H⟩ := hrel
    obtain ⟨Ab, cb, rfl, _, _, _⟩ := Res.row_at H.h0
    by_cases hil : i < k
    · have hili : (i : Int) < (k : Int) := by omega
      obtain ⟨m, hm⟩ : ∃ m, A[i]? = some m := ⟨A[i]'(by rw [← HK.out]; exact hil), List.getElem?_eq_getElem _⟩
      obtain ⟨b, off, rfl, hb, y00⟩ := ints_atZ HR0.out (show (nl A)[i]? = some (m : Int) by simp [nl, hm])
      have y0 := (H.below.cell (p := ⟨b, off + i, none⟩) hb).trans y00
      have HY00 := Lib.hid y00
      have hm36 : m < 68719476736 := HMS.out m (List.mem_of_getElem? hm)
      have HMM := Lib.hid hm
      have hand := i64_and_nat m u (by omega) (by omega)
      have hor := i64_or_nat u m (by omega) (by omega)
      obtain ⟨a, ha⟩ : ∃ a, a = m &&& u := ⟨_, rfl⟩
      rw [← ha] at hand
      have HA1 := Lib.hid ha
      clear hm ha y00
      by_cases hz : a = 0
      · subst hz
        have hz1 : (((0 : Nat) : Int) != 0) = false := rfl
        obtain ⟨u2, hu2d⟩ : ∃ u2, u2 = u ||| m := ⟨_, rfl⟩
        rw [← hu2d] at hor
        have hu2c : u2 < 68719476736 := by rw [hu2d]; exact Nat.or_lt_two_pow (n := 36) hu36 hm36
        have HU2 := Lib.hid hu2d
        obtain ⟨i2, hi2⟩ : ∃ i2, i2 = i + 1 := ⟨_, rfl⟩
        have e6 : IntKind.i64.wrap ((i : Int) + 1) = (i2 : Int) := by rw [show (i : Int) + 1 = (i2 : Int) by omega]; exact IntWalk.i64_in _ (by omega)
        have HI2 := Lib.hid hi2
        obtain ⟨R, hR⟩ : ∃ R, R = pk (A.drop i2) u2 := ⟨_, rfl⟩
        have HRR := Lib.hid hR
        have HRL : Hid (R.length + 1 ≤ k) := Lib.hid (by
          rw [hR]
          have := pkN_le (A := A.drop i2) u2
          rw [List.length_drop, ← HK.out] at this
          omega)
        have HBG : Hid (∀ q : Nat, q = R.length → 1 + q ≤ maxLen ∧ (1 + q) * 8 ≤ 140737488355328) := Lib.hid (fun q hq => by have := HRL.out; unfold maxLen; omega)
        have HCL : Hid (∀ w1, Below w.heap.size w w1 → Calls Tryz.prog 127 #[.slice (some ⟨b, off, none⟩) k cv, .int .i64 i2, .int .i64 u2] w1 fun e w' => ∃ v n, e = .returned v ∧ n = R.length ∧ Sep w1 w' [Res.row v 3 1 n (ic (nl R))]) := Lib.hid fun w1 b1 => by
          rw [hR]
          exact HIH.out i2 (by omega) (by rw [← HK.out]; omega) w1 u2 (HRD.out w1 b1) HMS.out HLE.out hu2c
        have HD1 := H.drew
        have HD2 := (H.rowBox 3 #[.int .i64 (m : Int)] 1 1 rfl (by decide)).drew
        have z1 : wr.drew.cell? ⟨b, off + i, none⟩ = some (.int .i64 m) := (HD1.below.cell (p := ⟨b, off + i, none⟩) hb).trans HY00.out
        have z2 : (wr.alloc (.cells #[.int .i64 (m : Int)] 3)).drew.cell? ⟨b, off + i, none⟩ = some (.int .i64 m) := (HD2.below.cell (p := ⟨b, off + i, none⟩) hb).trans HY00.out
        clear hi2 hu2d hR H
        go_upto_region 6 with fail
        go_region_held3 (fun w' => w'.cell? ⟨b, off + i, none⟩ = some (.int .i64 m))
          (first | assumption | go_keep)
          (first
            | (go_at_call 127; (with_reducible refine (HCL.out wr.drew HD1.below).mono ?_); rintro e w5 ⟨rv, rn, rfl, hrn, H5⟩; have HRN := Lib.hid hrn; obtain ⟨Ar, cr, rfl, _, _, _⟩ := Res.row_at H5.h0; have H6 := (H5.join HD1).rowBox 3 #[.int .i64 (m : Int)] 1 1 rfl (by decide); have z5 : w5.cell? ⟨b, off + i, none⟩ = some (.int .i64 m) := ((H5.join HD1).below.cell (p := ⟨b, off + i, none⟩) hb).trans HY00.out; have z6 : (w5.alloc (.cells #[.int .i64 (m : Int)] 3)).cell? ⟨b, off + i, none⟩ = some (.int .i64 m) := (H6.below.cell (p := ⟨b, off + i, none⟩) hb).trans HY00.out; have hrd := row_RdP H6.h1; have hb1 := (HBG.out rn hrn).1; have hb2 := (HBG.out rn hrn).2; clear hrn)
            | (go_at_call 127; (with_reducible refine (HCL.out _ HD2.below).mono ?_); rintro e w5 ⟨rv, rn, rfl, hrn, H5⟩; have HRN := Lib.hid hrn; obtain ⟨Ar, cr, rfl, _, _, _⟩ := Res.row_at H5.h0; have H6 := (H5.join HD2).g1; have z5 : w5.cell? ⟨b, off + i, none⟩ = some (.int .i64 m) := (H6.below.cell (p := ⟨b, off + i, none⟩) hb).trans HY00.out; have hrd := row_RdP H6.h1; have hb1 := (HBG.out rn hrn).1; have hb2 := (HBG.out rn hrn).2; clear hrn)
            | (refine step_app rfl (.tmp 29) (.tmp 39) 22 (by rfl) 3 j0 _ 1 8 Tryz.underlying22 hj hy0 hy1 hy2 rfl (by decide) _ _ _ (by rfl) H6 _ _ _ (ic (nl R)) (by rfl) hrd ic_one hb1 hb2 ?_; intro v7 w7 H7; have z7 : w7.cell? ⟨b, off + i, none⟩ = some (.int .i64 m) := (H7.below.cell (p := ⟨b, off + i, none⟩) hb).trans HY00.out))
        all_goals
          obtain ⟨q, hq⟩ : ∃ q, q = 1 + rn := ⟨_, rfl⟩
          rw [← hq] at H7
          have HX7 : Hid (ic (nl (m :: R)) = [.int .i64 (m : Int)] ++ ic (nl R)) := Lib.hid rfl
          have HN7 : Hid (q = (m :: R).length) := Lib.hid (by rw [List.length_cons, ← HRN.out]; omega)
          have hqk : q ≤ k := by have := HRL.out; have := HRN.out; omega
          obtain ⟨A7, c7, rfl, _, _, _⟩ := Res.row_at H7.h0
          rw [← HX7.out] at H7
          have hstep : pkB (A.drop (i + 1)) u (if (m :: R).length > B.length then m :: R else B) = pk (A.drop at0) u := by
            rw [HRR.out, HI2.out, HU2.out, ← HB.out]
            exact (pkB_yes HMM.out HA1.out.symm).symm
          have HST := Lib.hid hstep
          clear hstep hq H6 hrd hb1 hb2 H5 HD1 HD2 z1 z2 z5 z7 e6
          by_cases hlt : n < q
          · have HTK : Hid (pkB (A.drop (i + 1)) u (m :: R) = pk (A.drop at0) u) := Lib.hid (by
              have := HST.out
              rw [if_pos (by rw [← HN7.out, ← HN.out]; exact hlt)] at this
              exact this)
            have hlti2 : (n : Int) < (q : Int) := by omega
            go_wp2
            go_roundw
            case rel => exact ⟨i + 1, q, m :: R, _, by omega, by omega, by go_num, rfl, hqk, HN7, HTK, H7.drop2.drop2⟩
            case measure => simp [intOf]; omega
          · have HTK : Hid (pkB (A.drop (i + 1)) u B = pk (A.drop at0) u) := Lib.hid (by
              have := HST.out
              rw [if_neg (by rw [← HN7.out, ← HN.out]; exact hlt)] at this
              exact this)
            have hlti2 : ¬ (n : Int) < (q : Int) := by omega
            go_wp2
            go_roundw
            case rel => exact ⟨i + 1, n, B, _, by omega, by omega, by go_num, rfl, hnk, HN, HTK, H7.g2.drop2.drop2⟩
            case measure => simp [intOf]; omega
      · have hz1 : ((a : Int) != 0) = true := by simp; omega
        have HTK : Hid (pkB (A.drop (i + 1)) u B = pk (A.drop at0) u) := Lib.hid (by
          rw [← HB.out, pkB_no HMM.out (by rw [← HA1.out]; exact hz)])
        clear hz
        go_wp2
        go_roundw
        case rel => exact ⟨i + 1, n, B, _, by omega, by omega, by go_num, rfl, hnk, HN, HTK, H⟩
        case measure => simp [intOf]; omega
    · obtain rfl : k = i := by omega
      have HTK : Hid (B = pk (A.drop at0) u) := Lib.hid (by rw [← HB.out]; exact (pkB_end HK.out).symm)
      go_wp2
      go_ret
      exact PckPost.mk HTK.out HN.out H
theorem pck_c (lv : Value) (A : List Nat) : ∀ d at0, at0 + d = A.length → PckC lv A at0 := by
  intro d
  induction d using Nat.strongRecOn with
  | _ d ih =>
    intro at0 h
    exact pck_step lv A at0 (by omega) fun j h1 h2 => ih (A.length - j) (by omega) j (by omega)
end Go.Proofs.YtfmkmjebkmimkaaGreatDoor

namespace Go.Proofs.YtfmkmjebkmimkaaGreatDoor
open Go.RowKit

set_option maxRecDepth 100000 in
set_option maxHeartbeats 3200000 in
theorem spec_lg_c {v v2 : Value} {r : Reg} {ps : List (List Cell)} (w : World) (h : RegRd w 0 w.heap.size v r) (h2 : CellSSRd w 0 w.heap.size v2 ps) (hn : ps.length ≤ 1048576) (hl : ∀ s ∈ ps, s.length ≤ 1048576) :
    Calls Tryz.prog 52 #[v, v2] w (LgPost r ps w) := by
  have HRD : Hid (∀ w1, Below w.heap.size w w1 → RegRd w1 0 w1.heap.size v r) := Lib.hid fun w1 b1 => (h.keep (SameIn.of_below b1 (Nat.le_refl _))).more (Nat.le_refl _) b1.size
  have HR2 : Hid (∀ w1, Below w.heap.size w w1 → CellSSRd w1 0 w1.heap.size v2 ps) := Lib.hid fun w1 b1 => (h2.keep (SameIn.of_below b1 (Nat.le_refl _))).more (Nat.le_refl _) b1.size
  obtain ⟨T, hT⟩ : ∃ T, T = smlB r ps := ⟨_, rfl⟩
  have HT := Lib.hid hT
  obtain ⟨sr, rfl, hsr⟩ := h
  obtain ⟨A0, c, rfl, _, _⟩ := hsr
  obtain ⟨vs, ⟨A2, c2, rfl, _, _⟩, _⟩ := h2
  have H0 := (Sep.start w).box 29 #[.int .i64 r.w, .slice A0 r.rows.length c]
  obtain ⟨g, hg⟩ : ∃ g, g = w.heap.size := ⟨_, rfl⟩
  rw [← hg] at H0
  go_enter Tryz.func52, Tryz.ntmps52
  go_upto_region 1 with fail
  rw [← hg]
  generalize (w.alloc (.cells #[.int .i64 r.w, .slice A0 r.rows.length c] 29)) = W at *
  clear hg
  have c0 : W.cell? ⟨g, 0, none⟩ = some (.int .i64 r.w) := H0.h0.cell 0
  have c1 : W.cell? ⟨g, 1, none⟩ = some (.slice A0 r.rows.length c) := H0.h0.cell 1
  have HP := Lib.hid (spec_small_c W (HRD.out W H0.below) (HR2.out W H0.below) hn hl)
  rw [← hT] at HP
  clear hT
  go_wp2_with fail
  refine (HP.out).mono ?_
  rintro e w1 ⟨rfl, b1⟩
  have H1 := H0.step b1
  clear c0 c1 H0 HP b1
  cases T
  · have H2 := H1.rowBox 3 #[] 1 0 rfl (by decide)
    go_wp2
    go_ret2
    exact LgPost.mk (O := []) (n := 0) HT.out (by rw [lgP, if_neg (by rw [← HT.out]; decide)]) rfl H2
  have hkk : (r.valid && arePcs ps) = true := by
    have := HT.out.symm
    unfold smlB at this
    rw [Bool.and_eq_true] at this
    exact this.1
  rw [Bool.and_eq_true] at hkk
  have HV := Lib.hid (Reg.valid_iff.1 hkk.1)
  have HAP := Lib.hid hkk.2
  have c0 : w1.cell? ⟨g, 0, none⟩ = some (.int .i64 r.w) := H1.h0.cell 0
  have c1 : w1.cell? ⟨g, 1, none⟩ = some (.slice A0 r.rows.length c) := H1.h0.cell 1
  have HALL := Lib.hid (spec_all_c w1 (HRD.out w1 H1.below) (HR2.out w1 H1.below) HV.out HAP.out)
  obtain ⟨A, hA⟩ : ∃ A, A = allN r ps := ⟨_, rfl⟩
  have HA := Lib.hid hA
  rw [← nl_allN HV.out, ← hA] at HALL
  have HAL : Hid (A.length ≤ 1000000) := Lib.hid (by
    have h1 := allP_len HV.out (ps := ps)
    have h2 := (arePcs_on HAP.out).2.2
    have h3 : ps.length * 288 ≤ 5 * 288 := Nat.mul_le_mul_right _ (by omega)
    have h4 : A.length = (allP r ps).length := by rw [← nl_allN HV.out, ← hA]; simp [nl]
    omega)
  have HMS : Hid (∀ m ∈ A, m < 2 ^ 36) := Lib.hid (by rw [hA]; exact allN_lt HV.out)
  have HLG : Hid (lgP r ps = pk A 0) := Lib.hid (by rw [lgP, if_pos HT.out.symm, hA])
  clear hkk hA
  go_wp2_with fail
  refine (HALL.out).mono ?_
  rintro e w2 ⟨v3, rfl, o3, b3⟩
  have hrd : IntsRd w2 0 w2.heap.size v3 (nl A) := (IntsIn.rd o3).more (Nat.zero_le _) (Nat.le_refl _)
  obtain ⟨Av, cv, rfl, _, _⟩ := id hrd
  have HPC := Lib.hid (pck_c _ A A.length 0 (Nat.zero_add _) w2 0 hrd HMS.out HAL.out (by decide))
  have H3 := H1.step b3
  clear c0 c1 HALL o3 b3 H1 hrd
  go_wp2_with fail
  refine (HPC.out).mono ?_
  rintro e w4 ⟨pv, pn, rfl, hpn, H4⟩
  have H5 := H4.join H3
  have HPN := Lib.hid hpn
  obtain ⟨Ap, cp, rfl, _, _, _⟩ := Res.row_at H4.h0
  clear H4 H3 hpn HPC
  go_wp2
  go_ret2
  exact LgPost.mk HT.out HLG.out HPN.out H5
end Go.Proofs.YtfmkmjebkmimkaaGreatDoor

namespace Go.Proofs.YtfmkmjebkmimkaaGreatDoor
open Go.RowKit

section
variable {P : Program} {w0 w w' : World} {L : List Res}
theorem run_append_two (t ty e : TypeId) (i : TypeInfo) (z : Value) (size bytes : Nat) (ht : P.underlying t = some (.slice e)) (hi : P.info? e = some i) (hz : i.zero = some z)
    (hsize : i.size = size) (hby : i.bytes = bytes) (hzs : z.cells.size = size)
    (g n cap : Nat) (xs : List Value) (hown : w.ownsRow 0 e size (.slice (some ⟨g, 0, none⟩) n cap) n xs)
    (a : Addr) (m c : Nat) (news : List Value) (hl : news.length = m * size) (hnews : ∀ j u, news[j]? = some u → w.cell? (a.add j) = some u) (h1 : ∀ u ∈ news, u.oneCell' = true)
    (h63 : n + m ≤ maxLen) (hbytes : (n + m) * bytes ≤ 140737488355328) :
    ∃ v' w', (Builtin.append_ #[t, t] ty #[.slice (some ⟨g, 0, none⟩) n cap, .slice (some a) m c]).run P w = .ok v' w' ∧ w'.ownsRow 0 e size v' (n + m) (xs ++ news) ∧
      ((v' = .slice (some ⟨g, 0, none⟩) (n + m) cap ∧ w.grownBy w' (some g)) ∨ (v'.ownBlock = some w.heap.size ∧ Below w.heap.size w w')) := by
  subst hsize
  subst hby
  have hsmall : n + m ≤ 9223372036854775807 := by simp only [maxLen] at h63; omega
  have hlen : (xs ++ news).length = (n + m) * i.size := by rw [List.length_append, hown.1, hl, Nat.add_mul]
  rcases hown.2 with ⟨h, _⟩ | ⟨g', cap', cur, he, hbg, hg, hnc, hcm, hcs, htake⟩
  · cases h
  · injection he with e1 e2 e3
    injection e1 with e1
    injection e1 with e1
    subst e1
    subst e3
    by_cases hroom : n + m ≤ cap
    · have hfit : n * i.size + news.length ≤ cur.size := by rw [hl, hcs, ← Nat.add_mul]; exact Nat.mul_le_mul_right _ hroom
      have hr := run_append_room (P := P) w t ty e i ht hi g n cap cur hg a m c news hl hnews h1 hroom hfit
      refine ⟨_, _, hr, ⟨hlen, .inr ⟨g, cap, _, rfl, hbg, setRow_heap w g cur _ e _ hg, hroom, hcm, ?_, ?_⟩⟩, .inl ⟨rfl, ⟨rfl, rfl, rfl, by simp, fun k _ hk => setRow_other w g k _ (fun e => hk (by rw [e]))⟩⟩⟩
      · simp only [List.size_toArray, List.length_append, List.length_take, List.length_drop, Array.length_toList]
        omega
      · rw [htake, ← hlen]
        exact List.take_left
    · have holds : ∀ j u, xs[j]? = some u → w.cell? ((⟨g, 0, none⟩ : Addr).add j) = some u := hown.cells (g := g) rfl
      have hr := run_append_grow (P := P) w t ty e i z ht hi hz ⟨g, 0, none⟩ n cap xs hown.1 holds a m c news hl hnews (by omega) (by omega) (growslice_fits (by omega) hbytes)
      have hge := grownCap_ge w (n + m) cap e
      have hcm2 : grownCap w (n + m) cap e ≤ maxLen := grownCap_le_maxLen w (n + m) cap e h63
      refine ⟨_, _, hr, ⟨hlen, .inr ⟨w.heap.size, _, _, rfl, Nat.zero_le _, heap_alloc_new w.drew _, hge, hcm2, ?_, ?_⟩⟩, .inr ⟨rfl, (below_drew (Below.refl _ _)).alloc (Nat.le_refl _) _⟩⟩
      · simp only [Array.size_append, List.size_toArray, size_zeroCells, hzs, hown.1, hl, ← Nat.add_mul]
        congr 1
        omega
      · simp only [Array.toList_append, List.append_assoc]
        rw [← List.append_assoc, ← hlen]
        exact List.take_left
/-- a row that grows, and an older slice of its first cells -/
def SubI (e : TypeId) (w0 w : World) (b : Nat) (X : List Value) (ov : Value) (k : Nat) (M : List Value) : Prop :=
  (∃ cap, ov = .slice (some ⟨b, 0, none⟩) k cap ∧ Sep w0 w [Res.row ov e 1 k M]) ∨ ∃ (q : Nat) (cur : Array Value), cur.toList.take q = X ∧ Sep w0 w [Res.row ov e 1 k M, Res.obj b (.cells cur e (0, 0))]
theorem SubI.sep {e : TypeId} {b k : Nat} {X M : List Value} {ov : Value} (h : SubI e w0 w b X ov k M) : Sep w0 w [Res.row ov e 1 k M] := by
  rcases h with ⟨_, _, H⟩ | ⟨_, _, _, H⟩
  · exact H
  · exact H.drop2
theorem SubI.step {e : TypeId} {b k : Nat} {X M : List Value} {ov : Value} (h : SubI e w0 w b X ov k M) (hb : Below w.heap.size w w') : SubI e w0 w' b X ov k M := by
  rcases h with ⟨c, he, H⟩ | ⟨q, cur, hc, H⟩
  · exact .inl ⟨c, he, H.step hb⟩
  · exact .inr ⟨q, cur, hc, H.step hb⟩
theorem SubI.start {e : TypeId} {b k c : Nat} {X M : List Value} (H : Sep w0 w [Res.row (.slice (some ⟨b, 0, none⟩) k c) e 1 k M]) : SubI e w0 w b X (.slice (some ⟨b, 0, none⟩) k c) k M := .inl ⟨c, rfl, H⟩
theorem SubI.cell {e : TypeId} {b k j : Nat} {X M : List Value} {ov u : Value} (h : SubI e w0 w b X ov k M) (h1 : X[j]? = some u) (h2 : M[j]? = some u) : w.cell? ⟨b, j, none⟩ = some u := by
  rcases h with ⟨c, rfl, H⟩ | ⟨q, cur, hc, H⟩
  · have := own_cell H.h0 h2
    rwa [Nat.zero_add] at this
  · rw [cell_of_row w b j cur e (0, 0) H.h1]
    rw [← hc, List.getElem?_take] at h1
    split at h1
    · simpa using h1
    · cases h1
theorem SubI.lt {e : TypeId} {b k : Nat} {X M : List Value} {ov : Value} (h : SubI e w0 w b X ov k M) : b < w.heap.size := by
  rcases h with ⟨c, rfl, H⟩ | ⟨q, cur, hc, H⟩
  · exact own_lt H.h0 b rfl
  · exact (Array.getElem?_eq_some_iff.1 H.h1).1
theorem SubI.app {t ty e : TypeId} (i : TypeInfo) (z : Value) (bytes : Nat) (ht : P.underlying t = some (.slice e)) (hi : P.info? e = some i) (hz : i.zero = some z)
    (hsize : i.size = 1) (hby : i.bytes = bytes) (hzs : z.cells.size = 1)
    {b k : Nat} {X M : List Value} {ov u : Value} (h : SubI e w0 w b X ov k M) (hX : ∀ (j : Nat) (x : Value), X[j]? = some x → M[j]? = some x)
    {lo hi' : Nat} {a : Addr} (c : Nat) (hr : Rd w lo hi' 1 (some a) 1 [u]) (h1 : u.oneCell' = true)
    (h63 : k + 1 ≤ maxLen) (hbytes : (k + 1) * bytes ≤ 140737488355328) :
    ∃ v' w', (Builtin.append_ #[t, t] ty #[ov, .slice (some a) 1 c]).run P w = .ok v' w' ∧ SubI e w0 w' b X v' (k + 1) (M ++ [u]) := by
  have h11 : ∀ x ∈ [u], x.oneCell' = true := by intro x hx; simp at hx; subst hx; exact h1
  have hnews : ∀ j v, [u][j]? = some v → w.cell? (a.add j) = some v := by
    intro j v hv
    obtain ⟨s, off, h, _, _, hc⟩ := hr.2 (by decide)
    injection h with h
    subst h
    have hadd : (⟨s, off, none⟩ : Addr).add j = ⟨s, off + j, none⟩ := by unfold Addr.add; split <;> simp_all
    rw [hadd]
    exact hc j v hv
  rcases h with ⟨cap, rfl, H⟩ | ⟨q, cur, hc, H⟩
  · obtain ⟨v', w', hr2, ho, hcase⟩ := run_append_two (P := P) t ty e i z 1 bytes ht hi hz hsize hby hzs b k cap M H.h0 a 1 c [u] rfl hnews h11 h63 hbytes
    refine ⟨v', w', hr2, ?_⟩
    rcases hcase with ⟨rfl, hg⟩ | ⟨hv, hb⟩
    · exact .inl ⟨cap, rfl, H.app ho hg (.inl rfl)⟩
    · have hrow : ∃ cur : Array Value, w.heap[b]? = some (.cells cur e (0, 0)) ∧ cur.toList.take M.length = M := by
        have hown : w.ownsRow 0 e 1 (.slice (some ⟨b, 0, none⟩) k cap) k M := H.h0
        rcases hown.2 with ⟨h, _⟩ | ⟨g', cap', cur, he, _, hg, _, _, _, htake⟩
        · cases h
        · injection he with e1 e2 e3
          injection e1 with e1
          injection e1 with e1
          subst e1
          exact ⟨cur, hg, by rw [hown.1]; exact htake⟩
      obtain ⟨cur, hg, htk⟩ := hrow
      have H2 : Sep w0 w [Res.obj b (.cells cur e (0, 0))] := H.say (fun _ => hg) (fun x hx => by have hx : x = b := hx; subst hx; rfl)
      have hXM : X = M.take X.length := by
        apply List.ext_getElem?
        intro j
        rw [List.getElem?_take]
        split
        · rename_i hj
          obtain ⟨x, hx⟩ : ∃ x, X[j]? = some x := ⟨X[j]'hj, List.getElem?_eq_getElem _⟩
          rw [hx, hX j x hx]
        · rename_i hj
          exact List.getElem?_eq_none (by omega)
      refine .inr ⟨min X.length M.length, cur, ?_, H2.new hb ho (fun x hx => ?_)⟩
      · have e1 : cur.toList.take (min X.length M.length) = (cur.toList.take M.length).take X.length := by rw [List.take_take]
        rw [e1, htk]
        exact hXM.symm
      · have hx : v'.ownBlock = some x := hx
        rw [hv] at hx
        injection hx with hx
        omega
  · obtain ⟨v', w', hr2, H2⟩ := H.run_app (P := P) t ty e i z 1 bytes ht hi hz hsize hby hzs (by decide) c hr h11 h63 hbytes
    exact ⟨v', w', hr2, .inr ⟨q, cur, hc, H2⟩⟩
theorem wpList_sub {ops : Array Oper} {rest : List Oper} {o : Oper} {a : Act} {Q : Exit → Act → World → Prop} (hgd : o.guard = none) (s x : Operand) (t : TypeId)
    (ho : o.op = .call { callee := .builtin .append, args := #[s, x], argTypes := #[t, t] })
    (e : TypeId) (i : TypeInfo) (z : Value) (bytes : Nat) (ht : P.underlying t = some (.slice e)) (hi : P.info? e = some i) (hz : i.zero = some z)
    (hsize : i.size = 1) (hby : i.bytes = bytes) (hzs : z.cells.size = 1)
    {b k : Nat} {X M : List Value} {ov u : Value} (hs : a.eval s = ov) (H : SubI e w0 w b X ov k M) (hX : ∀ (j : Nat) (x : Value), X[j]? = some x → M[j]? = some x)
    {lo hi' : Nat} {ad : Addr} (c : Nat) (hx : a.eval x = .slice (some ad) 1 c) (hr : Rd w lo hi' 1 (some ad) 1 [u]) (h1 : u.oneCell' = true)
    (h63 : k + 1 ≤ maxLen) (hbytes : (k + 1) * bytes ≤ 140737488355328)
    (h : ∀ v' w', SubI e w0 w' b X v' (k + 1) (M ++ [u]) → wpList P ops Q rest (a.put o.dst v') w') : wpList P ops Q (o :: rest) a w := by
  refine wpList_plain hgd fun K hK => ?_
  obtain ⟨v', w', hr', h2⟩ := H.app (P := P) (t := t) (ty := o.type) i z bytes ht hi hz hsize hby hzs hX c hr h1 h63 hbytes
  unfold Oper.wp execOp
  simp only [ho, resolve, invoke, builtin, Sem.run_bind, Sem.run_pure, Result.andThen_ok, List.map_toArray, List.map_cons, List.map_nil, hs, hx, hr']
  exact hK _ _ (h v' w' h2)
end
end Go.Proofs.YtfmkmjebkmimkaaGreatDoor

namespace Go.Proofs.YtfmkmjebkmimkaaGreatDoor
open Go.RowKit

theorem nlZ2 {A B : List Nat} : nl (A ++ B) = nl A ++ nl B := by simp [nl]
theorem subs_len_le {m : Nat} (h : cntB m ≤ 16) : ∀ {k : Nat}, k ≤ 36 → (subs m k).length ≤ 65536 := by
  intro k hk
  rw [subs_len, bitsTo_cnt]
  have h1 : cntTo m k ≤ cntB m := by
    unfold cntB
    obtain ⟨d, hd⟩ : ∃ d, 36 = k + d := ⟨36 - k, by omega⟩
    rw [hd]
    have : ∀ d, cntTo m k ≤ cntTo m (k + d) := fun d => by
      induction d with
      | zero => exact Nat.le_refl _
      | succ d ih => exact Nat.le_trans ih (Nat.le_add_right _ _)
    exact this d
  exact Nat.pow_le_pow_right (by decide) (Nat.le_trans h1 h)
theorem or_pow_num {x k : Nat} (hx : x < 2 ^ 36) (hk : k < 36) : bits .or .i64 (x : Int) (wrap64 (2 ^ k)) = ((x ||| 2 ^ k : Nat) : Int) := by
  have hp : 2 ^ k < 68719476736 := Nat.pow_lt_pow_right (n := 36) (by decide) hk
  have := or_step (a := x) (m := 1) (p := k) (by omega) (by omega)
  simpa using this
set_option maxRecDepth 100000 in
set_option maxHeartbeats 1600000 in
theorem subs_c {m : Nat} (w : World) (hm : m < 2 ^ 36) (hc : cntB m ≤ 16) :
    Calls Tryz.prog 134 #[.int .i64 m] w fun e w' => ∃ v', e = .returned v' ∧ IntsIn w' w.heap.size w'.heap.size v' (nl (subs m 36)) ∧ Below w.heap.size w w' := by
  obtain ⟨j0, hj, hy0, hy1, hy2⟩ := info_parts infoIntZ
  have HM := Lib.hid hm
  have HC := Lib.hid hc
  obtain ⟨h0, hh0⟩ : ∃ h0, h0 = w.heap.size := ⟨_, rfl⟩
  have H0 := (Sep.start w).rowBox 3 #[.int .i64 0] 1 1 rfl (by decide)
  rw [← hh0] at H0
  have hm36 : m < 68719476736 := hm
  clear hm hc
  go_enter Tryz.func134, Tryz.ntmps134
  go_upto_region 2 with fail
  rw [← hh0]
  generalize (w.alloc (.cells #[.int .i64 0] 3)) = W at *
  clear hh0
  go_wp2
  go_loopw [3, 4] (fun ov kv wx => ∃ (k n : Nat) (S : List Nat) (ow : Value), k ≤ 36 ∧ kv = .int .i64 k ∧ ov = ow ∧ 1 ≤ n ∧ n ≤ 65536 ∧ Hid (n = S.length) ∧ Hid (S = subs m k) ∧ Sep w wx [Res.row ow 3 1 n (ic (nl S))]) (fun _ kv _ => 37 - (intOf kv).toNat)
  case atStart => exact ⟨0, 1, [0], _, by omega, rfl, rfl, Nat.le_refl _, by omega, Lib.hid rfl, Lib.hid rfl, H0⟩
  case round =>
    clear H0
    obtain ⟨k, n, S, ow, hk, rfl, rfl, hn1, hn6, HN, HS, H⟩ := hrel
    by_cases hz : (m : Int) / 2 ^ k = 0
    · have hzd : ((m : Int) / 2 ^ k != 0) = false := by simpa using hz
      have HE : Hid (subs m 36 = S) := Lib.hid (by
        obtain ⟨d, hd⟩ : ∃ d, 36 = k + d := ⟨36 - k, by omega⟩
        rw [hd, subs_top (shr_zero.1 hz), HS.out])
      clear hz
      go_wp2
      go_ret
      refine ⟨_, rfl, ?_, H.below⟩
      rw [HE.out]
      unfold IntsIn
      rw [show (nl S).length = n by simp [nl]; exact HN.out.symm]
      exact H.oi
    · have hzd : ((m : Int) / 2 ^ k != 0) = true := by simpa using hz
      have hk35 : k < 36 := by
        rcases Nat.lt_or_ge k 36 with h | h
        · exact h
        · obtain rfl : k = 36 := by omega
          exact absurd (shr_zero.2 HM.out) hz
      have hbit := bit_test (m := m) (x := k) (by omega)
      clear hz
      cases hb2 : m.testBit k
      · rw [hb2] at hbit
        have HS2 : Hid (S = subs m (k + 1)) := Lib.hid (by rw [subs_f hb2]; exact HS.out)
        clear hb2
        go_wp2
        go_roundw
        case rel => exact ⟨k + 1, n, S, _, by omega, by go_num, rfl, hn1, hn6, HN, HS2, H⟩
        case measure => simp [intOf]; omega
      · rw [hb2] at hbit
        have HS2 : Hid (S ++ S.map (· ||| 2 ^ k) = subs m (k + 1)) := Lib.hid (by rw [subs_t hb2, ← HS.out])
        have HN2 : Hid (n + n ≤ 65536) := Lib.hid (by
          have h1 := subs_len_le HC.out (k := k + 1) (by omega)
          rw [← HS2.out, List.length_append, List.length_map, ← HN.out] at h1
          exact h1)
        have HSL : Hid (∀ x ∈ S, x < 2 ^ 36) := Lib.hid (fun x hx => by
          have h1 : x < 2 ^ k := subs_lt (by rw [← HS.out]; exact hx)
          exact Nat.lt_of_lt_of_le h1 (Nat.pow_le_pow_right (by decide) (by omega)))
        obtain ⟨b, o, c, rfl, hnc, hcm, _⟩ := own_shape H.h0 (by omega)
        obtain ⟨rfl, _⟩ := own_blk H.h0
        have HB : Hid (SubI 3 w wr b (ic (nl S)) (.slice (some ⟨b, 0, none⟩) n c) n (ic (nl S))) := Lib.hid (SubI.start H)
        have s0 : (n : Int) ≤ (c : Int) := by omega
        obtain ⟨wo, hwo⟩ : ∃ wo, wo = wr := ⟨_, rfl⟩
        subst hwo
        clear hb2 H
        go_wp2
        go_loopw [3, 26] (fun ov iv wx => ∃ (i : Nat) (ow : Value), i ≤ n ∧ iv = .int .i64 i ∧ ov = ow ∧ SubI 3 w wx b (ic (nl S)) ow (n + i) (ic (nl (S ++ (S.take i).map (· ||| 2 ^ k))))) (fun _ iv _ => n - (intOf iv).toNat)
        case atStart => exact ⟨0, _, Nat.zero_le _, rfl, rfl, by simpa using HB.out⟩
        case round =>
          obtain ⟨i, ow, hi, rfl, rfl, H⟩ := hrel
          by_cases hlt : i < n
          · have hlti : (i : Int) < (n : Int) := by omega
            obtain ⟨x, hx⟩ : ∃ x, S[i]? = some x := ⟨S[i]'(by rw [← HN.out]; exact hlt), List.getElem?_eq_getElem _⟩
            have hX1 : (ic (nl S))[i]? = some (.int .i64 (x : Int)) := by simp [ic, nl, hx]
            have HXM : Hid (∀ (j : Nat) (u : Value), (ic (nl S))[j]? = some u → (ic (nl (S ++ (S.take i).map (· ||| 2 ^ k))))[j]? = some u) := Lib.hid (fun j u hu => by
              rw [show ic (nl (S ++ (S.take i).map (· ||| 2 ^ k))) = ic (nl S) ++ ic (nl ((S.take i).map (· ||| 2 ^ k))) by rw [nlZ2, ic_append]]
              rw [List.getElem?_append_left (List.getElem?_eq_some_iff.1 hu).1]
              exact hu)
            have y0 := H.cell hX1 (HXM.out i _ hX1)
            have hbl := H.lt
            have hx36 : x < 2 ^ 36 := HSL.out x (List.mem_of_getElem? hx)
            have HOR := or_pow_num hx36 hk35
            obtain ⟨q, hq⟩ : ∃ q, q = x ||| 2 ^ k := ⟨_, rfl⟩
            rw [← hq] at HOR
            have HTK : Hid (ic (nl (S ++ (S.take (i + 1)).map (· ||| 2 ^ k))) = ic (nl (S ++ (S.take i).map (· ||| 2 ^ k))) ++ [.int .i64 (q : Int)]) := Lib.hid (by
              rw [List.take_add_one, hx, Option.toList_some, List.map_append, ← List.append_assoc, nlZ2, ic_append, hq]
              rfl)
            have HA := Lib.hid (fun o : Obj => H.step ((Below.refl wr.heap.size wr).alloc (Nat.le_refl _) o))
            have hn62 := HN2.out
            clear hx hX1 hq hx36 H
            go_wp2_with (at_builtin; refine wpList_sub rfl _ _ 22 rfl 3 j0 _ 8 Tryz.underlying22 hj hy0 hy1 hy2 rfl (u := .int .i64 (q : Int)) rfl (HA.out _) HXM.out _ rfl (Rd.fresh wr _ #[.int .i64 (q : Int)] 1 1 rfl) rfl (by unfold maxLen; omega) (by omega) ?_; intro v5 w5 H6)
            rw [← HTK.out] at H6
            go_roundw
            case rel => exact ⟨i + 1, _, by omega, by go_num, rfl, H6⟩
            case measure => simp [intOf]; omega
          · obtain rfl : i = n := by omega
            have HE : Hid (S ++ (S.take i).map (· ||| 2 ^ k) = subs m (k + 1)) := Lib.hid (by rw [← HS2.out, HN.out, List.take_length])
            have H1 := H.sep
            rw [HE.out] at H1
            have HL : Hid (i + i = (subs m (k + 1)).length) := Lib.hid (by rw [← HS2.out, List.length_append, List.length_map, ← HN.out])
            have hn62 := HN2.out
            clear H
            go_wp2
            go_roundw
            case rel => exact ⟨k + 1, i + i, subs m (k + 1), _, by omega, by go_num, rfl, by omega, hn62, HL, Lib.hid rfl, H1⟩
            case measure => simp [intOf]; omega
end Go.Proofs.YtfmkmjebkmimkaaGreatDoor

namespace Go.Proofs.YtfmkmjebkmimkaaGreatDoor
open Go.RowKit

set_option maxRecDepth 100000 in
theorem ones36_c (m : Nat) (w : World) (hm : m < 2 ^ 36) :
    Calls Tryz.prog 65 #[.int .u64 (m : Int)] w fun e w' => e = .returned (.int .i64 (cntB m : Int)) ∧ w = w' := by
  rw [← onesOf_cnt hm]
  exact onesg_c m w
def FbPost (r : Reg) (ps : List (List Cell)) (w : World) : Ending → World → Prop := fun e w' => e = .returned (.tuple #[.int .i64 (fbM r ps : Int), .bool (smlB r ps)]) ∧ Below w.heap.size w w'
theorem FbPost.mk {r : Reg} {ps : List (List Cell)} {w w' : World} {b : Nat} {f : Bool} (hf : f = smlB r ps) (hb : fbM r ps = b) (H : Below w.heap.size w w') : FbPost r ps w (.returned (.tuple #[.int .i64 (b : Int), .bool f])) w' := by
  subst hf
  subst hb
  exact ⟨rfl, H⟩
theorem cntB_le (m : Nat) : cntB m ≤ 36 := cntTo_le 36
set_option maxRecDepth 100000 in
set_option maxHeartbeats 3200000 in
theorem impl_fb_c {v v2 : Value} {r : Reg} {ps : List (List Cell)} (w : World) (h : RegRd w 0 w.heap.size v r) (h2 : CellSSRd w 0 w.heap.size v2 ps) (hn : ps.length ≤ 1048576) (hl : ∀ s ∈ ps, s.length ≤ 1048576) :
    Calls Tryz.prog 61 #[v, v2] w (FbPost r ps w) := by
  have HRD : Hid (∀ w1, Below w.heap.size w w1 → RegRd w1 0 w1.heap.size v r) := Lib.hid fun w1 b1 => (h.keep (SameIn.of_below b1 (Nat.le_refl _))).more (Nat.le_refl _) b1.size
  have HR2 : Hid (∀ w1, Below w.heap.size w w1 → CellSSRd w1 0 w1.heap.size v2 ps) := Lib.hid fun w1 b1 => (h2.keep (SameIn.of_below b1 (Nat.le_refl _))).more (Nat.le_refl _) b1.size
  obtain ⟨T, hT⟩ : ∃ T, T = smlB r ps := ⟨_, rfl⟩
  have HT := Lib.hid hT
  obtain ⟨sr, rfl, hsr⟩ := h
  obtain ⟨A0, c, rfl, _, _⟩ := hsr
  obtain ⟨vs, ⟨A2, c2, rfl, _, _⟩, _⟩ := h2
  have H0 := (Sep.start w).box 29 #[.int .i64 r.w, .slice A0 r.rows.length c]
  obtain ⟨g, hg⟩ : ∃ g, g = w.heap.size := ⟨_, rfl⟩
  rw [← hg] at H0
  go_enter Tryz.func61, Tryz.ntmps61
  go_upto_region 1 with fail
  rw [← hg]
  generalize (w.alloc (.cells #[.int .i64 r.w, .slice A0 r.rows.length c] 29)) = W at *
  clear hg
  have c0 : W.cell? ⟨g, 0, none⟩ = some (.int .i64 r.w) := H0.h0.cell 0
  have c1 : W.cell? ⟨g, 1, none⟩ = some (.slice A0 r.rows.length c) := H0.h0.cell 1
  have HP := Lib.hid (impl_small_c W (HRD.out W H0.below) (HR2.out W H0.below) hn hl)
  rw [← hT] at HP
  clear hT
  go_wp2_with fail
  refine (HP.out).mono ?_
  rintro e w1 ⟨rfl, b1⟩
  have H1 := H0.step b1
  clear c0 c1 H0 HP b1
  cases T
  · go_wp2
    go_ret2
    exact FbPost.mk (b := 0) HT.out (by rw [fbM, if_neg (by rw [← HT.out]; decide)]) H1.below
  have hkk : (r.valid && arePcs ps) = true := by
    have := HT.out.symm
    unfold smlB at this
    rw [Bool.and_eq_true] at this
    exact this.1
  have har : areaR r ≤ 12 := by
    have := HT.out.symm
    unfold smlB at this
    rw [Bool.and_eq_true] at this
    exact of_decide_eq_true this.2
  rw [Bool.and_eq_true] at hkk
  have HV := Lib.hid (Reg.valid_iff.1 hkk.1)
  have HAP := Lib.hid hkk.2
  have HCN : Hid (cntB r.mask ≤ 16) := Lib.hid (by
    rw [← cells_cnt HV.out]
    unfold areaR at har
    rw [hkk.1, if_pos rfl] at har
    omega)
  have c0 : w1.cell? ⟨g, 0, none⟩ = some (.int .i64 r.w) := H1.h0.cell 0
  have c1 : w1.cell? ⟨g, 1, none⟩ = some (.slice A0 r.rows.length c) := H1.h0.cell 1
  have HALL := Lib.hid (impl_all_c w1 (HRD.out w1 H1.below) (HR2.out w1 H1.below) HV.out HAP.out)
  obtain ⟨A, hA⟩ : ∃ A, A = allN r ps := ⟨_, rfl⟩
  rw [← nl_allN HV.out, ← hA] at HALL
  have HAL : Hid (A.length ≤ 1000000) := Lib.hid (by
    have h1 := allP_len HV.out (ps := ps)
    have h2 := (arePcs_on HAP.out).2.2
    have h3 : ps.length * 288 ≤ 5 * 288 := Nat.mul_le_mul_right _ (by omega)
    have h4 : A.length = (allP r ps).length := by rw [← nl_allN HV.out, ← hA]; simp [nl]
    omega)
  have HMS : Hid (∀ m ∈ A, m < 2 ^ 36) := Lib.hid (by rw [hA]; exact allN_lt HV.out)
  obtain ⟨M, hM⟩ : ∃ M, M = r.mask := ⟨_, rfl⟩
  have HMM := Lib.hid hM
  rw [← hM] at HCN
  obtain ⟨S, hS⟩ : ∃ S, S = subs M 36 := ⟨_, rfl⟩
  have HSS := Lib.hid hS
  have HFB : Hid (fbI A (S.drop 0) (0, false) = (fbM r ps, true)) := Lib.hid (by
    rw [List.drop_zero, hS, hM, hA, fbI_is HV.out HAP.out, fbM, if_pos HT.out.symm])
  clear hkk hA har hM hS
  go_wp2_with fail
  refine (HALL.out).mono ?_
  rintro e w2 ⟨v3, rfl, o3, b3⟩
  have hrd : IntsRd w2 0 w2.heap.size v3 (nl A) := (IntsIn.rd o3).more (Nat.zero_le _) (Nat.le_refl _)
  have H2 := H1.step b3
  have HRA : Hid (∀ w3, Below w2.heap.size w2 w3 → IntsRd w3 0 w3.heap.size v3 (nl A)) := Lib.hid fun w3 b => (hrd.keep (SameIn.of_below b (Nat.le_refl _))).more (Nat.le_refl _) b.size
  obtain ⟨Av, cv, rfl, _, _⟩ := id hrd
  clear c0 c1 HALL o3 b3 H1 hrd
  have c0 : w2.cell? ⟨g, 0, none⟩ = some (.int .i64 r.w) := H2.h0.cell 0
  have c1 : w2.cell? ⟨g, 1, none⟩ = some (.slice A0 r.rows.length c) := H2.h0.cell 1
  have HMK := Lib.hid (impl_mask_c w2 (HRD.out w2 H2.below) HV.out)
  rw [← HMM.out] at HMK
  go_wp2_with fail
  refine (HMK.out).mono ?_
  rintro e w3 ⟨rfl, b4⟩
  have H3 := H2.step b4
  have hM36 : M < 2 ^ 36 := by rw [HMM.out]; exact Reg.mask_lt HV.out
  have HSB := Lib.hid (subs_c w3 hM36 HCN.out)
  rw [← HSS.out] at HSB
  have HB4 := Lib.hid b4
  clear c0 c1 H2 HMK b4 hM36
  go_wp2_with fail
  refine (HSB.out).mono ?_
  rintro e w4 ⟨v5, rfl, o5, b5⟩
  have H4 := H3.step b5
  have hrs : IntsRd w4 0 w4.heap.size v5 (nl S) := (IntsIn.rd o5).more (Nat.zero_le _) (Nat.le_refl _)
  have HRA4 := Lib.hid (HRA.out w4 (HB4.out.trans (b5.mono HB4.out.size)))
  obtain ⟨k, hk⟩ : ∃ k, k = S.length := ⟨_, rfl⟩
  have hnl : (nl S).length = k := by simp [nl]; exact hk.symm
  obtain ⟨As, cs, rfl, _, _⟩ := id hrs
  rw [hnl] at hrs ⊢
  have HRS := Lib.hid hrs
  have HK := Lib.hid hk
  have HSX : Hid (∀ x ∈ S, x < 2 ^ 36) := Lib.hid (fun x hx => subs_lt (by rw [← HSS.out]; exact hx))
  have hk6 : k ≤ 65536 := by rw [hk, HSS.out]; exact subs_len_le HCN.out (Nat.le_refl _)
  have HBB := Lib.hid H4.below
  clear hnl hrs hk HSB o5 b5 H3 H4 HRA
  go_wp2
  go_loopw [7, 8, 22] (fun bv fv iv wx => ∃ (i b : Nat) (f : Bool), i ≤ k ∧ iv = .int .i64 i ∧ bv = .int .i64 b ∧ fv = .bool f ∧ b < 68719476736 ∧ Hid (fbI A (S.drop i) (b, f) = (fbM r ps, true)) ∧ w4 = wx) (fun _ _ iv _ => k - (intOf iv).toNat)
  case atStart => exact ⟨0, 0, false, Nat.zero_le _, rfl, rfl, rfl, by decide, HFB, rfl⟩
  case round =>
    obtain ⟨i, b, f, hik, rfl, rfl, rfl, hb36, HF, rfl⟩ := hrel
    by_cases hil : i < k
    · have hili : (i : Int) < (k : Int) := by omega
      obtain ⟨x, hx⟩ : ∃ x, S[i]? = some x := ⟨S[i]'(by rw [← HK.out]; exact hil), List.getElem?_eq_getElem _⟩
      obtain ⟨bs, off, rfl, hbs, y0⟩ := ints_atZ HRS.out (show (nl S)[i]? = some (x : Int) by simp [nl, hx])
      have hx36 : x < 68719476736 := HSX.out x (List.mem_of_getElem? hx)
      have HX := Lib.hid hx
      have HBK := Lib.hid (impl_blk_c (m := x) w4 HRA4.out HMS.out HAL.out hx36)
      obtain ⟨B, hB⟩ : ∃ B, B = blkB A x := ⟨_, rfl⟩
      rw [← hB] at HBK
      have HB := Lib.hid hB
      clear hx hB
      cases f
      · go_wp2_with fail
        refine (HBK.out).mono ?_
        rintro e w5 ⟨rfl, rfl⟩
        clear HBK
        cases B
        · have HF2 : Hid (fbI A (S.drop (i + 1)) (b, false) = (fbM r ps, true)) := Lib.hid (by
            have := HF.out
            rw [fbI_step HX.out, if_neg (fun h => by rw [← HB.out] at h; exact absurd h.2 (by decide))] at this
            exact this)
          go_wp2
          go_roundw
          case rel => exact ⟨i + 1, b, false, by omega, by go_num, rfl, rfl, hb36, HF2, trivial⟩
          case measure => simp [intOf]; omega
        · have HF2 : Hid (fbI A (S.drop (i + 1)) (x, true) = (fbM r ps, true)) := Lib.hid (by
            have := HF.out
            rw [fbI_step HX.out, if_pos ⟨.inl rfl, HB.out.symm⟩] at this
            exact this)
          go_wp2
          go_roundw
          case rel => exact ⟨i + 1, x, true, by omega, by go_num, rfl, rfl, hx36, HF2, trivial⟩
          case measure => simp [intOf]; omega
      · have hu1 : IntKind.u64.wrap (x : Int) = (x : Int) := u64_in _ (by omega)
        have hu2 : IntKind.u64.wrap (b : Int) = (b : Int) := u64_in _ (by omega)
        have HO1 := Lib.hid (ones36_c x w4 hx36)
        have HO2 := Lib.hid (ones36_c b w4 hb36)
        obtain ⟨nx, hnx⟩ : ∃ n, n = cntB x := ⟨_, rfl⟩
        obtain ⟨nb, hnb⟩ : ∃ n, n = cntB b := ⟨_, rfl⟩
        rw [← hnx] at HO1
        rw [← hnb] at HO2
        have HNX := Lib.hid hnx
        have HNB := Lib.hid hnb
        clear hnx hnb
        by_cases hlt : nx < nb
        · have hlti : (nx : Int) < (nb : Int) := by omega
          cases B
          · have HF2 : Hid (fbI A (S.drop (i + 1)) (b, true) = (fbM r ps, true)) := Lib.hid (by
              have := HF.out
              rw [fbI_step HX.out, if_neg (fun h => by rw [← HB.out] at h; exact absurd h.2 (by decide))] at this
              exact this)
            go_wp2_with (first
              | (with_reducible refine (HO1.out).mono ?_; rintro e w5 ⟨rfl, rfl⟩)
              | (with_reducible refine (HO2.out).mono ?_; rintro e w5 ⟨rfl, rfl⟩)
              | (with_reducible refine (HBK.out).mono ?_; rintro e w5 ⟨rfl, rfl⟩))
            go_roundw
            case rel => exact ⟨i + 1, b, true, by omega, by go_num, rfl, rfl, hb36, HF2, trivial⟩
            case measure => simp [intOf]; omega
          · have HF2 : Hid (fbI A (S.drop (i + 1)) (x, true) = (fbM r ps, true)) := Lib.hid (by
              have := HF.out
              rw [fbI_step HX.out, if_pos ⟨.inr (by show cntB x < cntB b; rw [← HNX.out, ← HNB.out]; exact hlt), HB.out.symm⟩] at this
              exact this)
            go_wp2_with (first
              | (with_reducible refine (HO1.out).mono ?_; rintro e w5 ⟨rfl, rfl⟩)
              | (with_reducible refine (HO2.out).mono ?_; rintro e w5 ⟨rfl, rfl⟩)
              | (with_reducible refine (HBK.out).mono ?_; rintro e w5 ⟨rfl, rfl⟩))
            go_roundw
            case rel => exact ⟨i + 1, x, true, by omega, by go_num, rfl, rfl, hx36, HF2, trivial⟩
            case measure => simp [intOf]; omega
        · have hlti : ¬ (nx : Int) < (nb : Int) := by omega
          have HF2 : Hid (fbI A (S.drop (i + 1)) (b, true) = (fbM r ps, true)) := Lib.hid (by
            have := HF.out
            rw [fbI_step HX.out, if_neg (fun h => by
              have h1 := h.1.resolve_left (by simp)
              have h2 : cntB x < cntB b := h1
              rw [← HNX.out, ← HNB.out] at h2
              exact hlt h2)] at this
            exact this)
          go_wp2_with (first
            | (with_reducible refine (HO1.out).mono ?_; rintro e w5 ⟨rfl, rfl⟩)
            | (with_reducible refine (HO2.out).mono ?_; rintro e w5 ⟨rfl, rfl⟩))
          go_roundw
          case rel => exact ⟨i + 1, b, true, by omega, by go_num, rfl, rfl, hb36, HF2, trivial⟩
          case measure => simp [intOf]; omega
    · obtain rfl : k = i := by omega
      have hfin := HF.out
      rw [HK.out, List.drop_length] at hfin
      have h1 : (b, f) = (fbM r ps, true) := hfin
      injection h1 with h1 h2
      subst h2
      have HBM : Hid (fbM r ps = b) := Lib.hid h1.symm
      clear hfin h1
      go_wp2
      go_ret2
      exact FbPost.mk HT.out HBM.out HBB.out
end Go.Proofs.YtfmkmjebkmimkaaGreatDoor

namespace Go.Proofs.YtfmkmjebkmimkaaGreatDoor
open Go.RowKit

theorem selTo_mono {B : List Nat} {c : Nat} : ∀ {i j : Nat}, i ≤ j → selTo B c i ≤ selTo B c j
  | i, 0, h => by obtain rfl : i = 0 := by omega
                  exact Nat.le_refl _
  | i, j + 1, h => by
    by_cases e : i = j + 1
    · subst e; exact Nat.le_refl _
    · exact Nat.le_trans (selTo_mono (j := j) (by omega)) (Nat.le_add_right _ _)
theorem selTo_lt {m c i : Nat} (hc : c < 2 ^ (bitsTo m 36).length) (hi : i ≤ (bitsTo m 36).length) : selTo (bitsTo m 36) c i < 2 ^ 36 :=
  Nat.lt_of_le_of_lt (selTo_mono hi) (subs_lt (List.mem_of_getElem? (subs_at 36 (Nat.le_refl _) c hc).1))
theorem selTo_t {B : List Nat} {c i b : Nat} (h : c.testBit i = true) (hb : B[i]? = some b) : selTo B c (i + 1) = selTo B c i + 2 ^ b := by
  rw [selTo, if_pos h, List.getD_eq_getElem?_getD, hb]; rfl
theorem selTo_f {B : List Nat} {c i : Nat} (h : c.testBit i = false) : selTo B c (i + 1) = selTo B c i := by
  rw [selTo, h]; rfl
theorem cntC_t {c i : Nat} (h : c.testBit i = true) : cntC c (i + 1) = cntC c i + 1 := by rw [cntC, if_pos h]
theorem cntC_f {c i : Nat} (h : c.testBit i = false) : cntC c (i + 1) = cntC c i := by rw [cntC, h]; rfl
set_option maxRecDepth 100000 in
set_option maxHeartbeats 3200000 in
theorem spec_fb_c {v v2 : Value} {r : Reg} {ps : List (List Cell)} (w : World) (h : RegRd w 0 w.heap.size v r) (h2 : CellSSRd w 0 w.heap.size v2 ps) (hn : ps.length ≤ 1048576) (hl : ∀ s ∈ ps, s.length ≤ 1048576) :
    Calls Tryz.prog 53 #[v, v2] w (FbPost r ps w) := by
  have HRD : Hid (∀ w1, Below w.heap.size w w1 → RegRd w1 0 w1.heap.size v r) := Lib.hid fun w1 b1 => (h.keep (SameIn.of_below b1 (Nat.le_refl _))).more (Nat.le_refl _) b1.size
  have HR2 : Hid (∀ w1, Below w.heap.size w w1 → CellSSRd w1 0 w1.heap.size v2 ps) := Lib.hid fun w1 b1 => (h2.keep (SameIn.of_below b1 (Nat.le_refl _))).more (Nat.le_refl _) b1.size
  obtain ⟨T, hT⟩ : ∃ T, T = smlB r ps := ⟨_, rfl⟩
  have HT := Lib.hid hT
  obtain ⟨sr, rfl, hsr⟩ := h
  obtain ⟨A0, c, rfl, _, _⟩ := hsr
  obtain ⟨vs, ⟨A2, c2, rfl, _, _⟩, _⟩ := h2
  have H0 := (Sep.start w).box 29 #[.int .i64 r.w, .slice A0 r.rows.length c]
  obtain ⟨g, hg⟩ : ∃ g, g = w.heap.size := ⟨_, rfl⟩
  rw [← hg] at H0
  go_enter Tryz.func53, Tryz.ntmps53
  go_upto_region 1 with fail
  rw [← hg]
  generalize (w.alloc (.cells #[.int .i64 r.w, .slice A0 r.rows.length c] 29)) = W at *
  clear hg
  have c0 : W.cell? ⟨g, 0, none⟩ = some (.int .i64 r.w) := H0.h0.cell 0
  have c1 : W.cell? ⟨g, 1, none⟩ = some (.slice A0 r.rows.length c) := H0.h0.cell 1
  have HP := Lib.hid (spec_small_c W (HRD.out W H0.below) (HR2.out W H0.below) hn hl)
  rw [← hT] at HP
  clear hT
  go_wp2_with fail
  refine (HP.out).mono ?_
  rintro e w1 ⟨rfl, b1⟩
  have H1 := H0.step b1
  clear c0 c1 H0 HP b1
  cases T
  · go_wp2
    go_ret2
    exact FbPost.mk (b := 0) HT.out (by rw [fbM, if_neg (by rw [← HT.out]; decide)]) H1.below
  have hkk : (r.valid && arePcs ps) = true := by
    have := HT.out.symm
    unfold smlB at this
    rw [Bool.and_eq_true] at this
    exact this.1
  have har : areaR r ≤ 12 := by
    have := HT.out.symm
    unfold smlB at this
    rw [Bool.and_eq_true] at this
    exact of_decide_eq_true this.2
  rw [Bool.and_eq_true] at hkk
  have HV := Lib.hid (Reg.valid_iff.1 hkk.1)
  have HVB := Lib.hid hkk.1
  have HAP := Lib.hid hkk.2
  have hcl : r.cells.length ≤ 12 := by
    unfold areaR at har
    rw [hkk.1, if_pos rfl] at har
    omega
  have c0 : w1.cell? ⟨g, 0, none⟩ = some (.int .i64 r.w) := H1.h0.cell 0
  have c1 : w1.cell? ⟨g, 1, none⟩ = some (.slice A0 r.rows.length c) := H1.h0.cell 1
  have HALL := Lib.hid (spec_all_c w1 (HRD.out w1 H1.below) (HR2.out w1 H1.below) HV.out HAP.out)
  obtain ⟨A, hA⟩ : ∃ A, A = allN r ps := ⟨_, rfl⟩
  rw [← nl_allN HV.out, ← hA] at HALL
  have HAL : Hid (A.length ≤ 1000000) := Lib.hid (by
    have h1 := allP_len HV.out (ps := ps)
    have h2 := (arePcs_on HAP.out).2.2
    have h3 : ps.length * 288 ≤ 5 * 288 := Nat.mul_le_mul_right _ (by omega)
    have h4 : A.length = (allP r ps).length := by rw [← nl_allN HV.out, ← hA]; simp [nl]
    omega)
  have HMS : Hid (∀ m ∈ A, m < 2 ^ 36) := Lib.hid (by rw [hA]; exact allN_lt HV.out)
  obtain ⟨M, hM⟩ : ∃ M, M = r.mask := ⟨_, rfl⟩
  have HMM := Lib.hid hM
  obtain ⟨S, hS⟩ : ∃ S, S = subs M 36 := ⟨_, rfl⟩
  have HSS := Lib.hid hS
  obtain ⟨B, hB⟩ : ∃ B, B = bitsTo M 36 := ⟨_, rfl⟩
  have HBB := Lib.hid hB
  obtain ⟨L, hL⟩ : ∃ L, L = r.cells.length := ⟨_, rfl⟩
  have HBC : Hid (B = r.cells.map (bitOf r)) := Lib.hid (by rw [hB, hM, cells_bits HV.out])
  have HBL : Hid (B.length = L) := Lib.hid (by rw [HBC.out, List.length_map, hL])
  have HCN : Hid (cntB M = L) := Lib.hid (by rw [hM, hL, cells_cnt HV.out])
  have HFB : Hid (fbS A (S.drop 0) (M, L) = (fbM r ps, cntB (fbM r ps))) := Lib.hid (by
    rw [List.drop_zero, ← HCN.out, fbS_cnt, hS, hM, hA, fbM, if_pos HT.out.symm])
  have hL12 : L ≤ 12 := by omega
  have HLL := Lib.hid hL
  clear hkk hA har hM hS hB hL hcl
  go_wp2_with fail
  refine (HALL.out).mono ?_
  rintro e w2 ⟨v3, rfl, o3, b3⟩
  have hrd : IntsRd w2 0 w2.heap.size v3 (nl A) := (IntsIn.rd o3).more (Nat.zero_le _) (Nat.le_refl _)
  have H2 := H1.step b3
  have HRA : Hid (∀ w3, Below w2.heap.size w2 w3 → IntsRd w3 0 w3.heap.size v3 (nl A)) := Lib.hid fun w3 b => (hrd.keep (SameIn.of_below b (Nat.le_refl _))).more (Nat.le_refl _) b.size
  obtain ⟨Av, cv, rfl, _, _⟩ := id hrd
  clear c0 c1 HALL o3 b3 H1 hrd
  have c0 : w2.cell? ⟨g, 0, none⟩ = some (.int .i64 r.w) := H2.h0.cell 0
  have c1 : w2.cell? ⟨g, 1, none⟩ = some (.slice A0 r.rows.length c) := H2.h0.cell 1
  have HCL := Lib.hid (spec_cells_c w2 (HRD.out w2 H2.below) (by have := HV.out.2.2.2.1; omega))
  rw [if_pos HVB.out] at HCL
  go_wp2_with fail
  refine (HCL.out).mono ?_
  rintro e w3 ⟨v5, rfl, o5, b4⟩
  have H3 := H2.step b4
  have hcr : CellsRd w3 0 w3.heap.size v5 r.cells := (CellsIn.rd o5).more (Nat.zero_le _) (Nat.le_refl _)
  have HCR : Hid (∀ w4, Below w3.heap.size w3 w4 → CellsRd w4 0 w4.heap.size v5 r.cells) := Lib.hid fun w4 b => (hcr.keep (SameIn.of_below b (Nat.le_refl _))).more (Nat.le_refl _) b.size
  obtain ⟨Ac, cc5, rfl, _, _⟩ := id hcr
  rw [← HLL.out] at HCR ⊢
  have HB4 := Lib.hid b4
  clear c0 c1 HCL o5 b4 H2 hcr
  have c0 : w3.cell? ⟨g, 0, none⟩ = some (.int .i64 r.w) := H3.h0.cell 0
  have c1 : w3.cell? ⟨g, 1, none⟩ = some (.slice A0 r.rows.length c) := H3.h0.cell 1
  have HMK := Lib.hid (spec_mask_c w3 (HRD.out w3 H3.below) HV.out)
  rw [← HMM.out] at HMK
  go_wp2_with fail
  refine (HMK.out).mono ?_
  rintro e w4 ⟨rfl, b5⟩
  have H4 := H3.step b5
  have HRA4 : Hid (∀ w5, Below w4.heap.size w4 w5 → IntsRd w5 0 w5.heap.size (.slice Av (nl A).length cv) (nl A)) := Lib.hid (fun w5 b => HRA.out w5 ((HB4.out.trans (b5.mono HB4.out.size)).trans (b.mono (Nat.le_trans HB4.out.size b5.size))))
  have HCR4 := Lib.hid (HCR.out w4 b5)
  have hM36 : M < 68719476736 := by rw [HMM.out]; exact Reg.mask_lt HV.out
  obtain ⟨N, hN⟩ : ∃ N, N = 2 ^ L := ⟨_, rfl⟩
  have hN6 : N ≤ 4096 := by rw [hN]; exact Nat.le_trans (Nat.pow_le_pow_right (by decide) hL12) (by decide)
  have hsh : IntKind.i64.wrap (2 ^ L) = (N : Int) := by
    rw [show ((2 : Int) ^ L) = (N : Int) by rw [hN]; simp]
    exact IntWalk.i64_in _ (by omega)
  have HNN := Lib.hid hN
  have HSA : Hid (∀ k, k < N → S[k]? = some (selTo B k L) ∧ cntB (selTo B k L) = cntC k L ∧ (∀ i ≤ L, selTo B k i < 2 ^ 36)) := Lib.hid (fun k hk => by
    have h1 := subs_at (m := M) 36 (Nat.le_refl _) k (by rw [← HBB.out, HBL.out, ← HNN.out]; exact hk)
    rw [← HBB.out, HBL.out, ← HSS.out] at h1
    refine ⟨h1.1, h1.2, fun i hi => ?_⟩
    have := selTo_lt (m := M) (c := k) (i := i) (by rw [← HBB.out, HBL.out, ← HNN.out]; exact hk) (by rw [← HBB.out, HBL.out]; exact hi)
    rwa [← HBB.out] at this)
  have HSL : Hid (S.length = N) := Lib.hid (by rw [HSS.out, subs_len, ← HBB.out, HBL.out, HNN.out])
  have HH4 := Lib.hid H4.below
  have C0 : Hid (w4.cell? ⟨g, 0, none⟩ = some (.int .i64 r.w) ∧ g < w4.heap.size) := Lib.hid ⟨H4.h0.cell 0, H4.h0.lt⟩
  clear c0 c1 HMK b5 H3 H4 hN HRA HCR
  go_wp2
  go_loopw [8, 9, 10] (fun bv zv kv wx => ∃ (k b z : Nat), k ≤ N ∧ kv = .int .i64 k ∧ bv = .int .i64 b ∧ zv = .int .i64 z ∧ b < 68719476736 ∧ z ≤ 36 ∧ Hid (fbS A (S.drop k) (b, z) = (fbM r ps, cntB (fbM r ps))) ∧ Below w4.heap.size w4 wx) (fun _ _ kv _ => N - (intOf kv).toNat)
  case atStart => exact ⟨0, M, L, Nat.zero_le _, rfl, rfl, rfl, hM36, by omega, HFB, Below.refl _ _⟩
  case round =>
    obtain ⟨k, b, z, hkn, rfl, rfl, rfl, hb36, hz36, HF, hbel⟩ := hrel
    by_cases hkl : k < N
    · have hkli : (k : Int) < (N : Int) := by omega
      obtain ⟨wo, hwo⟩ : ∃ wo, wo = wr := ⟨_, rfl⟩
      subst hwo
      go_wp2
      go_loopw [11, 12, 13] (fun mv nv iv wx => ∃ (i m n : Nat), i ≤ L ∧ iv = .int .i64 i ∧ mv = .int .i64 m ∧ nv = .int .i64 n ∧ m < 68719476736 ∧ n ≤ i ∧ Hid (m = selTo B k i) ∧ Hid (n = cntC k i) ∧ Below w4.heap.size w4 wx) (fun _ _ iv _ => L - (intOf iv).toNat)
      case atStart => exact ⟨0, 0, 0, Nat.zero_le _, rfl, rfl, rfl, by decide, Nat.le_refl _, Lib.hid rfl, Lib.hid rfl, hbel⟩
      case round =>
        clear hbel
        obtain ⟨i, m, n, hi, rfl, rfl, rfl, hm36, hni, HM, HN, hbel⟩ := hrel
        by_cases hil : i < L
        · have hili : (i : Int) < (L : Int) := by omega
          have hbit := bit_test (m := k) (x := i) (by omega)
          cases ht : k.testBit i
          · rw [ht] at hbit
            have HM2 : Hid (m = selTo B k (i + 1)) := Lib.hid (by rw [selTo_f ht]; exact HM.out)
            have HN2 : Hid (n = cntC k (i + 1)) := Lib.hid (by rw [cntC_f ht]; exact HN.out)
            clear ht
            go_wp2
            go_roundw
            case rel => exact ⟨i + 1, m, n, by omega, by go_num, rfl, rfl, hm36, by omega, HM2, HN2, hbel⟩
            case measure => simp [intOf]; omega
          · rw [ht] at hbit
            obtain ⟨Ac', cc', e5, hm2, hr2⟩ := HCR4.out
            injection e5 with e51 e52 e53
            subst e51
            obtain ⟨b2, o2, d, rfl, _, hb2, hla, x1, x2⟩ := hr2.at2 (by rw [← HLL.out]; exact hil)
            have hmem := Reg.cells_mem.1 (List.mem_of_getElem? hla)
            obtain ⟨wn, hwn⟩ : ∃ wn : Nat, r.w = (wn : Int) := ⟨r.w.toNat, by have := HV.out.1; omega⟩
            obtain ⟨xn, yn, p, q, hN⟩ := bit_nums HV.out hwn hmem
            obtain ⟨hx, hy, e1, e2, e3, e4, hq, hq36⟩ := hN
            have HQ : Hid (B[i]? = some q) := Lib.hid (by rw [HBC.out, List.getElem?_map, hla, hq]; rfl)
            have y0 := (hbel.cell (p := ⟨g, 0, none⟩) C0.out.2).trans C0.out.1
            have y1 := (hbel.cell (p := ⟨b2, o2 + i * 2, none⟩) hb2).trans x1
            have y2 := (hbel.cell (p := ⟨b2, o2 + i * 2 + 1, none⟩) hb2).trans x2
            rw [hwn] at y0
            rw [hx] at y1
            rw [hy] at y2
            have hgl : g < wr.heap.size := Nat.lt_of_lt_of_le C0.out.2 hbel.size
            have hbl2 : b2 < wr.heap.size := Nat.lt_of_lt_of_le hb2 hbel.size
            have z0 : (0 : Int) ≤ (q : Int) := by omega
            have HAB := Lib.hid (add_bit_num (b := q) (show m < 2 ^ 36 from hm36) hq36)
            obtain ⟨m2, hm2d⟩ : ∃ m2, m2 = m + 2 ^ q := ⟨_, rfl⟩
            rw [← hm2d] at HAB
            have HM2 : Hid (m2 = selTo B k (i + 1)) := Lib.hid (by rw [selTo_t ht HQ.out, hm2d, HM.out])
            have HN2 : Hid (n + 1 = cntC k (i + 1)) := Lib.hid (by rw [cntC_t ht, HN.out])
            have hm2b : m2 < 68719476736 := by rw [HM2.out]; exact (HSA.out k hkl).2.2 (i + 1) (by omega)
            clear ht x1 x2 hr2 hm2 hla hmem hx hy hq hm2d e52 e53
            go_wp2_with fail
            go_quiet (fail)
            rw [HAB.out]
            go_wp2
            go_roundw
            case rel => exact ⟨i + 1, m2, n + 1, by omega, by go_num, rfl, by go_num, hm2b, by omega, HM2, HN2, below_drewN hbel _⟩
            case measure => simp [intOf]; omega
        · obtain rfl : i = L := by omega
          have HSK := HSA.out k hkl
          have hcn : cntB m = n := by rw [HM.out, HSK.2.1, HN.out]
          have hSm : S[k]? = some m := by rw [HSK.1, HM.out]
          have HCNT := Lib.hid hcn
          have HSM := Lib.hid hSm
          clear HSK hcn hSm
          by_cases hlt : n < z
          · have hlti : (n : Int) < (z : Int) := by omega
            have HBK := Lib.hid (spec_blk_c (m := m) wr (HRA4.out wr hbel) HMS.out HAL.out hm36)
            obtain ⟨K, hK⟩ : ∃ K, K = blkB A m := ⟨_, rfl⟩
            rw [← hK] at HBK
            have HK := Lib.hid hK
            clear hK
            go_wp2_with fail
            refine (HBK.out).mono ?_
            rintro e w6 ⟨rfl, rfl⟩
            clear HBK
            cases K
            · have HF2 : Hid (fbS A (S.drop (k + 1)) (b, z) = (fbM r ps, cntB (fbM r ps))) := Lib.hid (by
                have := HF.out
                rw [fbS_step HSM.out, if_neg (fun h => by rw [← HK.out] at h; exact absurd h.2 (by decide))] at this
                exact this)
              go_wp2
              go_roundw
              case rel => exact ⟨k + 1, b, z, by omega, by go_num, rfl, rfl, hb36, hz36, HF2, hbel⟩
              case measure => simp [intOf]; omega
            · have HF2 : Hid (fbS A (S.drop (k + 1)) (m, n) = (fbM r ps, cntB (fbM r ps))) := Lib.hid (by
                have := HF.out
                rw [fbS_step HSM.out, HCNT.out, if_pos ⟨hlt, HK.out.symm⟩] at this
                exact this)
              go_wp2
              go_roundw
              case rel => exact ⟨k + 1, m, n, by omega, by go_num, rfl, rfl, hm36, by omega, HF2, hbel⟩
              case measure => simp [intOf]; omega
          · have hlti : ¬ (n : Int) < (z : Int) := by omega
            have HF2 : Hid (fbS A (S.drop (k + 1)) (b, z) = (fbM r ps, cntB (fbM r ps))) := Lib.hid (by
              have := HF.out
              rw [fbS_step HSM.out, HCNT.out, if_neg (fun h => hlt h.1)] at this
              exact this)
            go_wp2
            go_roundw
            case rel => exact ⟨k + 1, b, z, by omega, by go_num, rfl, rfl, hb36, hz36, HF2, hbel⟩
            case measure => simp [intOf]; omega
    · obtain rfl : k = N := by omega
      have hfin := HF.out
      rw [← HSL.out, List.drop_length] at hfin
      have h1 : (b, z) = (fbM r ps, cntB (fbM r ps)) := hfin
      injection h1 with h1 h2
      have HBM : Hid (fbM r ps = b) := Lib.hid h1.symm
      have HBL2 := Lib.hid (HH4.out.trans (hbel.mono HH4.out.size))
      clear hfin h1 h2
      go_wp2
      go_ret2
      exact FbPost.mk HT.out HBM.out HBL2.out
end Go.Proofs.YtfmkmjebkmimkaaGreatDoor

namespace Go.Proofs.YtfmkmjebkmimkaaGreatDoor
open Go.RowKit

theorem fbS_mem {A : List Nat} : ∀ (S : List Nat) (s : Nat × Nat), (fbS A S s).1 = s.1 ∨ (fbS A S s).1 ∈ S
  | [], s => .inl rfl
  | m :: S, s => by
    unfold fbS
    split
    · rcases fbS_mem S (m, cntB m) with h | h
      · exact .inr (by rw [h]; exact List.mem_cons_self ..)
      · exact .inr (List.mem_cons_of_mem _ h)
    · rcases fbS_mem S s with h | h
      · exact .inl h
      · exact .inr (List.mem_cons_of_mem _ h)
theorem fbM_lt {r : Reg} {ps : List (List Cell)} : fbM r ps < 2 ^ 36 := by
  unfold fbM
  split
  · rename_i h
    unfold smlB at h
    simp only [Bool.and_eq_true] at h
    have hv := Reg.valid_iff.1 h.1.1
    rcases fbS_mem (A := allN r ps) (subs r.mask 36) (r.mask, cntB r.mask) with e | e
    · rw [e]; exact Reg.mask_lt hv
    · exact subs_lt e
  · decide
theorem lgP_len {r : Reg} {ps : List (List Cell)} : (nl (lgP r ps)).length ≤ 1000000 := by
  unfold nl lgP
  rw [List.length_map]
  split
  · rename_i h
    unfold smlB at h
    simp only [Bool.and_eq_true] at h
    have hv := Reg.valid_iff.1 h.1.1
    have h1 := allN_len hv (ps := ps)
    have h2 := (arePcs_on h.1.2).2.2
    have h3 := pkN_le (A := allN r ps) 0
    have h4 : ps.length * 288 ≤ 5 * 288 := Nat.mul_le_mul_right _ (by omega)
    omega
  · exact Nat.zero_le _
end Go.Proofs.YtfmkmjebkmimkaaGreatDoor
