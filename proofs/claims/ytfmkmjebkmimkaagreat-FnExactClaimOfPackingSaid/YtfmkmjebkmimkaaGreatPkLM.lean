
/-
  LargestPacking, the program's walk; is a problem small? Both walks. LargestPacking, the program's walk.
-/
import Derived.Test.YtfmkmjebkmimkaaGreatPkIX
import Derived.Test.YtfmkmjebkmimkaaGreatPzG
import Derived.Test.YtfmkmjebkmimkaaGreatPlcSX
namespace Go.Proofs.YtfmkmjebkmimkaaGreat
open Go.RowKit

/-- a largest packing -/
def lgP (r : Reg) (ps : List (List Cell)) : List Nat := if smlB r ps = true then pk (allN r ps) 0 else []
set_option maxRecDepth 100000 in
set_option maxHeartbeats 1600000 in
theorem impl_small_c {v v2 : Value} {r : Reg} {ps : List (List Cell)} (w : World) (h : RegRd w 0 w.heap.size v r) (h2 : CellSSRd w 0 w.heap.size v2 ps) (hn : ps.length ≤ 1048576) (hl : ∀ s ∈ ps, s.length ≤ 1048576) :
    Calls Tryz.prog 47 #[v, v2] w fun e w' => e = .returned (.bool (smlB r ps)) ∧ Below w.heap.size w w' := by
  have HRD : Hid (∀ w1, Below w.heap.size w w1 → RegRd w1 0 w1.heap.size v r) := Lib.hid fun w1 b1 => (h.keep (SameIn.of_below b1 (Nat.le_refl _))).more (Nat.le_refl _) b1.size
  have HR2 : Hid (∀ w1, Below w.heap.size w w1 → CellSSRd w1 0 w1.heap.size v2 ps) := Lib.hid fun w1 b1 => (h2.keep (SameIn.of_below b1 (Nat.le_refl _))).more (Nat.le_refl _) b1.size
  obtain ⟨T, hT⟩ : ∃ T, T = smlB r ps := ⟨_, rfl⟩
  obtain ⟨K, hK⟩ : ∃ K, K = (r.valid && arePcs ps) := ⟨_, rfl⟩
  rw [← hT]
  have HT := Lib.hid hT
  have HKK := Lib.hid hK
  obtain ⟨sr, rfl, hsr⟩ := h
  obtain ⟨A, c, rfl, _, _⟩ := hsr
  obtain ⟨vs, ⟨A2, c2, rfl, _, _⟩, _⟩ := h2
  have H0 := (Sep.start w).box 28 #[.int .i64 r.w, .slice A r.rows.length c]
  obtain ⟨g, hg⟩ : ∃ g, g = w.heap.size := ⟨_, rfl⟩
  rw [← hg] at H0
  clear hT hK
  go_enter Tryz.func47, Tryz.ntmps47
  go_upto_region 1 with fail
  rw [← hg]
  generalize (w.alloc (.cells #[.int .i64 r.w, .slice A r.rows.length c] 28)) = W at *
  clear hg
  have c0 : W.cell? ⟨g, 0, none⟩ = some (.int .i64 r.w) := H0.h0.cell 0
  have c1 : W.cell? ⟨g, 1, none⟩ = some (.slice A r.rows.length c) := H0.h0.cell 1
  have HP := Lib.hid (impl_prob_c W (HRD.out W H0.below) (HR2.out W H0.below) hn hl)
  rw [← HKK.out] at HP
  go_wp2_with fail
  refine (HP.out).mono ?_
  rintro e w1 ⟨rfl, b1⟩
  have H1 := H0.step b1
  clear c0 c1 H0 HP b1
  cases K
  · obtain rfl : T = false := by rw [HT.out, smlB, ← HKK.out]; rfl
    go_wp2
    go_ret
    exact ⟨rfl, H1.below⟩
  · have hkk := HKK.out.symm
    rw [Bool.and_eq_true] at hkk
    have HAR := Lib.hid (impl_area_c w1 (HRD.out w1 H1.below) (by have := (Reg.valid_iff.1 hkk.1).2.2.2.1; omega))
    obtain ⟨a, ha⟩ : ∃ a, a = areaR r := ⟨_, rfl⟩
    rw [← ha] at HAR
    have HTA : Hid (decide (a ≤ 12) = T) := Lib.hid (by rw [HT.out, smlB, ← HKK.out, ha]; rfl)
    have c0 : w1.cell? ⟨g, 0, none⟩ = some (.int .i64 r.w) := H1.h0.cell 0
    have c1 : w1.cell? ⟨g, 1, none⟩ = some (.slice A r.rows.length c) := H1.h0.cell 1
    clear hkk ha
    go_wp2_with fail
    refine (HAR.out).mono ?_
    rintro e w2 ⟨rfl, b2⟩
    have H2 := H1.step b2
    clear c0 c1 H1 HAR b2
    go_wp2
    go_ret
    rw [HTA.out]
    exact ⟨rfl, H2.below⟩
set_option maxRecDepth 100000 in
set_option maxHeartbeats 1600000 in
theorem spec_small_c {v v2 : Value} {r : Reg} {ps : List (List Cell)} (w : World) (h : RegRd w 0 w.heap.size v r) (h2 : CellSSRd w 0 w.heap.size v2 ps) (hn : ps.length ≤ 1048576) (hl : ∀ s ∈ ps, s.length ≤ 1048576) :
    Calls Tryz.prog 40 #[v, v2] w fun e w' => e = .returned (.bool (smlB r ps)) ∧ Below w.heap.size w w' := by
  have HRD : Hid (∀ w1, Below w.heap.size w w1 → RegRd w1 0 w1.heap.size v r) := Lib.hid fun w1 b1 => (h.keep (SameIn.of_below b1 (Nat.le_refl _))).more (Nat.le_refl _) b1.size
  have HR2 : Hid (∀ w1, Below w.heap.size w w1 → CellSSRd w1 0 w1.heap.size v2 ps) := Lib.hid fun w1 b1 => (h2.keep (SameIn.of_below b1 (Nat.le_refl _))).more (Nat.le_refl _) b1.size
  have HAP : Hid (∀ w1, Below w.heap.size w w1 → Calls Tryz.prog 61 #[v2] w1 fun e w' => e = .returned (.bool (arePcs ps)) ∧ Below w1.heap.size w1 w') := Lib.hid fun w1 b1 => spec_arePcs_c w1 (HR2.out w1 b1) hn hl
  obtain ⟨T, hT⟩ : ∃ T, T = smlB r ps := ⟨_, rfl⟩
  obtain ⟨K1, hK1⟩ : ∃ K, K = r.valid := ⟨_, rfl⟩
  obtain ⟨K2, hK2⟩ : ∃ K, K = arePcs ps := ⟨_, rfl⟩
  rw [← hT]
  rw [← hK2] at HAP
  have HT := Lib.hid hT
  have HK1 := Lib.hid hK1
  have HK2 := Lib.hid hK2
  obtain ⟨sr, rfl, hsr⟩ := h
  obtain ⟨A, c, rfl, _, _⟩ := hsr
  obtain ⟨vs, ⟨A2, c2, rfl, _, _⟩, _⟩ := h2
  have H0 := (Sep.start w).box 28 #[.int .i64 r.w, .slice A r.rows.length c]
  obtain ⟨g, hg⟩ : ∃ g, g = w.heap.size := ⟨_, rfl⟩
  rw [← hg] at H0
  clear hT hK1 hK2
  go_enter Tryz.func40, Tryz.ntmps40
  go_upto_region 1 with fail
  rw [← hg]
  generalize (w.alloc (.cells #[.int .i64 r.w, .slice A r.rows.length c] 28)) = W at *
  clear hg
  have c0 : W.cell? ⟨g, 0, none⟩ = some (.int .i64 r.w) := H0.h0.cell 0
  have c1 : W.cell? ⟨g, 1, none⟩ = some (.slice A r.rows.length c) := H0.h0.cell 1
  have HP := Lib.hid (spec_IsRegion_c W (HRD.out W H0.below))
  rw [← HK1.out] at HP
  go_wp2_with fail
  refine (HP.out).mono ?_
  rintro e w1 ⟨rfl, b1⟩
  have H1 := H0.step b1
  clear c0 c1 H0 HP b1
  cases K1
  · obtain rfl : T = false := by rw [HT.out, smlB, ← HK1.out]; rfl
    go_wp2
    go_ret
    exact ⟨rfl, H1.below⟩
  have HP2 := Lib.hid (HAP.out w1 H1.below)
  go_wp2_with fail
  refine (HP2.out).mono ?_
  rintro e w2 ⟨rfl, b2⟩
  replace H1 := H1.step b2
  clear HP2 b2 HAP
  cases K2
  · obtain rfl : T = false := by rw [HT.out, smlB, ← HK2.out, Bool.and_false]; rfl
    go_wp2
    go_ret
    exact ⟨rfl, H1.below⟩
  have HAR := Lib.hid (spec_area_c w2 (HRD.out w2 H1.below) (by have := (Reg.valid_iff.1 HK1.out.symm).2.2.2.1; omega))
  obtain ⟨a, ha⟩ : ∃ a, a = areaR r := ⟨_, rfl⟩
  rw [← ha] at HAR
  have HTA : Hid (decide (a ≤ 12) = T) := Lib.hid (by rw [HT.out, smlB, ← HK1.out, ← HK2.out, ha]; rfl)
  have c0 : w2.cell? ⟨g, 0, none⟩ = some (.int .i64 r.w) := H1.h0.cell 0
  have c1 : w2.cell? ⟨g, 1, none⟩ = some (.slice A r.rows.length c) := H1.h0.cell 1
  clear ha
  go_wp2_with fail
  refine (HAR.out).mono ?_
  rintro e w3 ⟨rfl, b3⟩
  have H2 := H1.step b3
  clear c0 c1 H1 HAR b3
  go_wp2
  go_ret
  rw [HTA.out]
  exact ⟨rfl, H2.below⟩
end Go.Proofs.YtfmkmjebkmimkaaGreat

namespace Go.Proofs.YtfmkmjebkmimkaaGreat
open Go.RowKit

def LgPost (r : Reg) (ps : List (List Cell)) (w : World) : Ending → World → Prop := fun e w' => ∃ v', e = .returned (.tuple #[v', .bool (smlB r ps)]) ∧ IntsIn w' w.heap.size w'.heap.size v' (nl (lgP r ps)) ∧ Below w.heap.size w w'
theorem LgPost.mk {r : Reg} {ps : List (List Cell)} {w w' : World} {v : Value} {b : Bool} {O : List Nat} {n : Nat} {L : List Res} (hb : b = smlB r ps) (hO : lgP r ps = O) (hn : n = O.length) (H : Sep w w' (Res.row v 3 1 n (ic (nl O)) :: L)) : LgPost r ps w (.returned (.tuple #[v, .bool b])) w' := by
  subst hb
  refine ⟨v, rfl, ?_, H.below⟩
  rw [hO]
  unfold IntsIn
  rw [show (nl O).length = n by simp [nl]; exact hn.symm]
  exact H.oi
theorem Sep.kmapNew {w0 w : World} {L : List Res} (H : Sep w0 w L) : Sep w0 (w.alloc (.map #[] 0)) (Res.kmap w.heap.size [] :: L) :=
  H.new ((Below.refl _ _).alloc (Nat.le_refl _) _) (MapKs.made w) (fun b hb => by have : b = w.heap.size := hb; omega)
set_option maxRecDepth 100000 in
theorem kmake (w : World) : (Instr.makeMap 76 none).run Tryz.prog w = .ok (.map (some w.heap.size)) (w.alloc (.map #[] 0)) := by
  simp [Instr.makeMap, go_sem]
set_option maxRecDepth 100000 in
set_option maxHeartbeats 3200000 in
theorem impl_lg_c {v v2 : Value} {r : Reg} {ps : List (List Cell)} (w : World) (h : RegRd w 0 w.heap.size v r) (h2 : CellSSRd w 0 w.heap.size v2 ps) (hn : ps.length ≤ 1048576) (hl : ∀ s ∈ ps, s.length ≤ 1048576) :
    Calls Tryz.prog 26 #[v, v2] w (LgPost r ps w) := by
  obtain ⟨j0, hj, hy0, hy1, hy2⟩ := info_parts infoIntZ
  have HRD : Hid (∀ w1, Below w.heap.size w w1 → RegRd w1 0 w1.heap.size v r) := Lib.hid fun w1 b1 => (h.keep (SameIn.of_below b1 (Nat.le_refl _))).more (Nat.le_refl _) b1.size
  have HR2 : Hid (∀ w1, Below w.heap.size w w1 → CellSSRd w1 0 w1.heap.size v2 ps) := Lib.hid fun w1 b1 => (h2.keep (SameIn.of_below b1 (Nat.le_refl _))).more (Nat.le_refl _) b1.size
  obtain ⟨T, hT⟩ : ∃ T, T = smlB r ps := ⟨_, rfl⟩
  have HT := Lib.hid hT
  obtain ⟨sr, rfl, hsr⟩ := h
  obtain ⟨A0, c, rfl, _, _⟩ := hsr
  obtain ⟨vs, ⟨A2, c2, rfl, _, _⟩, _⟩ := h2
  have H0 := (Sep.start w).box 28 #[.int .i64 r.w, .slice A0 r.rows.length c]
  obtain ⟨g, hg⟩ : ∃ g, g = w.heap.size := ⟨_, rfl⟩
  rw [← hg] at H0
  go_enter Tryz.func26, Tryz.ntmps26
  go_upto_region 1 with fail
  rw [← hg]
  generalize (w.alloc (.cells #[.int .i64 r.w, .slice A0 r.rows.length c] 28)) = W at *
  clear hg
  have c0 : W.cell? ⟨g, 0, none⟩ = some (.int .i64 r.w) := H0.h0.cell 0
  have c1 : W.cell? ⟨g, 1, none⟩ = some (.slice A0 r.rows.length c) := H0.h0.cell 1
  have HP := Lib.hid (impl_small_c W (HRD.out W H0.below) (HR2.out W H0.below) hn hl)
  rw [← hT] at HP
  clear hT
  go_wp2_with fail
  refine (HP.out).mono ?_
  rintro e w1 ⟨rfl, b1⟩
  have H1 := H0.step b1
  clear c0 c1 H0 HP b1
  cases T
  · have H2 := H1.nil 3 1
    go_wp2
    go_ret2
    exact LgPost.mk (O := []) (n := 0) HT.out (by rw [lgP, if_neg (by rw [← HT.out]; decide)]) rfl H2
  have hkk : (r.valid && arePcs ps) = true := by
    have := HT.out.symm
    unfold smlB at this
    rw [Bool.and_eq_true] at this
    exact this.1
  rw [Bool.and_eq_true] at hkk
  have HV := Lib.hid (Reg.valid_iff.1 hkk.1)
  have HAP := Lib.hid hkk.2
  have c0 : w1.cell? ⟨g, 0, none⟩ = some (.int .i64 r.w) := H1.h0.cell 0
  have c1 : w1.cell? ⟨g, 1, none⟩ = some (.slice A0 r.rows.length c) := H1.h0.cell 1
  have HALL := Lib.hid (impl_all_c w1 (HRD.out w1 H1.below) (HR2.out w1 H1.below) HV.out HAP.out)
  obtain ⟨A, hA⟩ : ∃ A, A = allN r ps := ⟨_, rfl⟩
  have HA := Lib.hid hA
  rw [← nl_allN HV.out, ← hA] at HALL
  have HAL : Hid (A.length ≤ 1000000) := Lib.hid (by
    have h1 := allP_len HV.out (ps := ps)
    have h2 := (arePcs_on HAP.out).2.2
    have h3 : ps.length * 288 ≤ 5 * 288 := Nat.mul_le_mul_right _ (by omega)
    have h4 : A.length = (allP r ps).length := by rw [← nl_allN HV.out, ← hA]; simp [nl]
    omega)
  have HMS : Hid (∀ m ∈ A, m < 2 ^ 36) := Lib.hid (by rw [hA]; exact allN_lt HV.out)
  have HLG : Hid (lgP r ps = pk A 0) := Lib.hid (by rw [lgP, if_pos HT.out.symm, hA])
  clear hkk hA
  go_wp2_with fail
  refine (HALL.out).mono ?_
  rintro e w2 ⟨v3, rfl, o3, b3⟩
  obtain ⟨k, hk⟩ : ∃ k, k = A.length := ⟨_, rfl⟩
  have o4 : OI w2 w1.heap.size w2.heap.size 3 1 v3 k (ic (nl A)) := by
    unfold IntsIn at o3
    rw [show (nl A).length = k by simp [nl]; exact hk.symm] at o3
    exact o3
  obtain ⟨Av, cv, rfl, _, _, _⟩ := o4.rd
  have hk6 : k ≤ 1000000 := by rw [hk]; exact HAL.out
  have HK := Lib.hid hk
  have H3 := (H1.oiNew b3 o4).kmapNew
  have H4 := H3.box 78 #[.slice Av k cv, .map (some w2.heap.size)]
  obtain ⟨W3, hW3⟩ : ∃ x, x = (w2.alloc (.map #[] 0)).alloc (.cells #[.slice Av k cv, .map (some w2.heap.size)] 78) := ⟨_, rfl⟩
  rw [← hW3] at H4
  simp only [World.size_alloc] at H4
  obtain ⟨mb, hmb⟩ : ∃ mb, mb = w2.heap.size := ⟨_, rfl⟩
  have hmk := kmake
  clear c0 c1 HALL o3 o4 b3 hk H1
  go_upto_region 4 with fail
  rw [← hW3]
  rw [← hmb] at H4 ⊢
  clear hW3 hmb H3 hmk
  have H5 := (H4.g1.nil 3 1)
  have hgs := H4.h0.lt
  have d0 : W3.cell? ⟨mb + 1, 0, none⟩ = some (.slice Av k cv) := H4.h0.cell 0
  clear H4
  go_wp2
  clear hgs d0
  go_loopw [7, 8, 23] (fun ov uv iv wx => ∃ (i u n : Nat) (O : List Nat) (l : List ((Int × Int) × Int)) (ow : Value), i ≤ k ∧ iv = .int .i64 i ∧ uv = .int .i64 u ∧ ov = ow ∧ u < 68719476736 ∧ n ≤ i ∧ Hid (n = O.length) ∧ Hid (pk A 0 = O ++ pk (A.drop i) u) ∧ Hid (PkM A l) ∧ Sep w wx [Res.row ow 3 1 n (ic (nl O)), Res.kmap mb l, Res.box (mb + 1) 78 #[.slice Av k cv, .map (some mb)], Res.row (.slice Av k cv) 3 1 k (ic (nl A)), Res.box g 28 #[.int .i64 r.w, .slice A0 r.rows.length c]]) (fun _ _ iv _ => k - (intOf iv).toNat)
  case atStart => exact ⟨0, 0, 0, [], [], _, Nat.zero_le _, rfl, rfl, rfl, by decide, Nat.le_refl _, Lib.hid rfl, Lib.hid rfl, Lib.hid (fun p hp => by simp at hp), H5⟩
  case round =>
    clear H5
    obtain ⟨i, u, n, O, l, ow, hik, rfl, rfl, rfl, hu, hni, HN, HO, HM, H⟩ := hrel
    obtain ⟨Ao, co, rfl, _, _, _⟩ := Res.row_at H.h0
    by_cases hil : i < k
    · have hili : (i : Int) < (k : Int) := by omega
      obtain ⟨m, hm⟩ : ∃ m, A[i]? = some m := ⟨A[i]'(by rw [← HK.out]; exact hil), List.getElem?_eq_getElem _⟩
      obtain ⟨b, off, rfl, hb, y0⟩ := ints_atZ (row_rdZ H.h3 (by simp [nl]; exact HK.out)) (show (nl A)[i]? = some (m : Int) by simp [nl, hm])
      have hm36 : m < 68719476736 := HMS.out m (List.mem_of_getElem? hm)
      have HMM := Lib.hid hm
      have hand := i64_and_nat m u (by omega) (by omega)
      have hor := i64_or_nat u m (by omega) (by omega)
      obtain ⟨a, ha⟩ : ∃ a, a = m &&& u := ⟨_, rfl⟩
      rw [← ha] at hand
      have HA1 := Lib.hid ha
      clear hm ha
      by_cases hz : a = 0
      · subst hz
        have hz1 : (((0 : Nat) : Int) == 0) = true := rfl
        obtain ⟨u2, hu2d⟩ : ∃ u2, u2 = u ||| m := ⟨_, rfl⟩
        rw [← hu2d] at hor
        have hu2c : u2 < 68719476736 := by rw [hu2d]; exact Nat.or_lt_two_pow (n := 36) hu hm36
        have HU2 := Lib.hid hu2d
        obtain ⟨i2, hi2⟩ : ∃ i2, i2 = i + 1 := ⟨_, rfl⟩
        have e5 : (i : Int) + 1 = (i2 : Int) := by omega
        have e6 : IntKind.i64.wrap ((i : Int) + 1) = (i2 : Int) := by rw [e5]; exact IntWalk.i64_in _ (by omega)
        have HI2 := Lib.hid hi2
        have HC1 := Lib.hid (most_c (mb + 1) mb k (.slice (some ⟨b, off, none⟩) k cv) A (k - i2) w wr _ l i2 u2 ⟨by simp, by simp, HK.out, hk6, HMS.out⟩ (by omega) hu2c HM.out H.g1)
        clear hu2d hi2
        go_wp2_with fail
        refine (HC1.out).mono ?_
        rintro e w3 ⟨l1, rfl, hM1, _, H3⟩
        have HM1 := Lib.hid hM1
        obtain ⟨n1, hn1⟩ : ∃ n, n = pkN A i2 u2 := ⟨_, rfl⟩
        have hn1b : n1 ≤ 1000000 := by
          rw [hn1]
          have := pkN_le (A := A.drop i2) u2
          rw [List.length_drop] at this
          have h2 := HAL.out
          unfold pkN
          omega
        have HN1 := Lib.hid hn1
        rw [← hn1]
        have HC2 := Lib.hid (most_c (mb + 1) mb k (.slice (some ⟨b, off, none⟩) k cv) A (k - i) w w3 _ l1 i u ⟨by simp, by simp, HK.out, hk6, HMS.out⟩ (by omega) hu HM1.out H3)
        clear hM1 hn1 HC1 H H3 hb y0
        go_wp2_with fail
        refine (HC2.out).mono ?_
        rintro e w4 ⟨l2, rfl, hM2, _, H4⟩
        have HM2 := Lib.hid hM2
        obtain ⟨n2, hn2⟩ : ∃ n, n = pkN A i u := ⟨_, rfl⟩
        have HN2 := Lib.hid hn2
        rw [← hn2]
        have H5 := H4.p1
        clear hM2 hn2 HC2 H4
        by_cases he : 1 + n1 = n2
        · have heb : ((1 : Int) + (n1 : Int) == (n2 : Int)) = true := by simp; omega
          have HTK : Hid (pk A 0 = (O ++ [m]) ++ pk (A.drop (i + 1)) u2) := Lib.hid (by
            rw [HO.out, pk_take HMM.out HA1.out.symm (by rw [← HU2.out, ← HI2.out, ← HN1.out, ← HN2.out]; exact he), ← HU2.out, List.append_assoc]; rfl)
          have HNL : Hid (ic (nl (O ++ [m])) = ic (nl O) ++ [.int .i64 (m : Int)]) := Lib.hid (by rw [nlZ, ic_append]; rfl)
          have HN3 : Hid (n + 1 = (O ++ [m]).length) := Lib.hid (by rw [List.length_append, ← HN.out]; rfl)
          clear he
          go_wp2_with (at_builtin; refine wpList_app rfl _ _ 22 rfl 3 j0 _ 1 8 Tryz.underlying22 hj hy0 hy1 hy2 rfl (by decide) _ _ _ rfl (H5.alloc _) _ _ _ [.int .i64 (m : Int)] rfl (Rd.fresh w4 _ #[.int .i64 (m : Int)] 1 1 rfl) oc1 (by unfold maxLen; omega) (by omega) ?_; intro v5 w5 H6; clear H5)
          rw [← HNL.out] at H6
          go_roundw
          case rel => exact ⟨i + 1, u2, n + 1, O ++ [m], l2, _, by omega, by go_num, rfl, rfl, hu2c, by omega, HN3, HTK, HM2, H6⟩
          case measure => simp [intOf]; omega
        · have heb : ((1 : Int) + (n1 : Int) == (n2 : Int)) = false := by simp; omega
          have HTK : Hid (pk A 0 = O ++ pk (A.drop (i + 1)) u) := Lib.hid (by
            rw [HO.out, pk_leave HMM.out (.inr (by rw [← HU2.out, ← HI2.out, ← HN1.out, ← HN2.out]; exact he))])
          clear he
          go_wp2
          go_roundw
          case rel => exact ⟨i + 1, u, n, O, l2, _, by omega, by go_num, rfl, rfl, hu, by omega, HN, HTK, HM2, H5⟩
          case measure => simp [intOf]; omega
      · have hz1 : ((a : Int) == 0) = false := by simp; omega
        have HTK : Hid (pk A 0 = O ++ pk (A.drop (i + 1)) u) := Lib.hid (by
          rw [HO.out, pk_leave HMM.out (.inl (by rw [← HA1.out]; exact hz))])
        clear hz
        go_wp2
        go_roundw
        case rel => exact ⟨i + 1, u, n, O, l, _, by omega, by go_num, rfl, rfl, hu, by omega, HN, HTK, HM, H⟩
        case measure => simp [intOf]; omega
    · obtain rfl : k = i := by omega
      have HTK : Hid (lgP r ps = O) := Lib.hid (by rw [HLG.out, HO.out, HK.out, List.drop_length, show pk [] u = [] from rfl, List.append_nil])
      go_wp2
      go_ret2
      exact LgPost.mk HT.out HTK.out HN.out H
end Go.Proofs.YtfmkmjebkmimkaaGreat
