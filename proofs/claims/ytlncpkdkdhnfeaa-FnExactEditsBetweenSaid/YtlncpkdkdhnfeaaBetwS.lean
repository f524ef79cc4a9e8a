/-
  The walk of the reference's 'EditsBetween'.
-/
import Derived.Test.YtlncpkdkdhnfeaaBetwW
namespace Go.Proofs.Ytlncpkdkdhnfeaa
open Go.RowKit

def sbRow (a b : Reg) (rd y k : Nat) : List Ed := ((List.range k).filter fun x : Nat => (a.has x y == (rd == 0)) && (b.has x y == (rd == 1))).map fun x : Nat => ⟨rd == 1, x, y⟩
def sbTo (a b : Reg) (rd k : Nat) : List Ed := (List.range k).flatMap fun y => sbRow a b rd y a.w.toNat
def sbAll (a b : Reg) (R : Nat) : List Ed := (List.range R).flatMap fun rd => sbTo a b rd a.rows.length
theorem sbRow_succ {a b : Reg} {rd y k : Nat} : sbRow a b rd y (k + 1) = sbRow a b rd y k ++ if ((a.has k y == (rd == 0)) && (b.has k y == (rd == 1))) = true then [⟨rd == 1, k, y⟩] else [] := by
  unfold sbRow
  rw [List.range_succ, List.filter_append, List.map_append]
  congr 1
  cases h : ((a.has k y == (rd == 0)) && (b.has k y == (rd == 1))) <;> simp [h]
theorem sbTo_succ {a b : Reg} {rd k : Nat} : sbTo a b rd (k + 1) = sbTo a b rd k ++ sbRow a b rd k a.w.toNat := by
  unfold sbTo; rw [List.range_succ, List.flatMap_append]; simp
theorem sbAll_succ {a b : Reg} {k : Nat} : sbAll a b (k + 1) = sbAll a b k ++ sbTo a b k a.rows.length := by
  unfold sbAll; rw [List.range_succ, List.flatMap_append]; simp
theorem sbRow_le {a b : Reg} {rd y k : Nat} : (sbRow a b rd y k).length ≤ k := by
  unfold sbRow; rw [List.length_map]; exact Nat.le_trans (List.length_filter_le _ _) (by simp)
theorem sbTo_le {a b : Reg} {rd k : Nat} : (sbTo a b rd k).length ≤ k * a.w.toNat := by
  induction k with
  | zero => simp [sbTo]
  | succ k ih => rw [sbTo_succ, List.length_append, Nat.add_mul]; have := sbRow_le (a := a) (b := b) (rd := rd) (y := k) (k := a.w.toNat); omega
theorem sbAll_le {a b : Reg} (h : a.Valid) {R : Nat} : (sbAll a b R).length ≤ R * 36 := by
  induction R with
  | zero => simp [sbAll]
  | succ k ih =>
    rw [sbAll_succ, List.length_append, Nat.add_mul]
    have h1 := sbTo_le (a := a) (b := b) (rd := k) (k := a.rows.length)
    have h2 : a.rows.length * a.w.toNat ≤ 6 * 6 := Nat.mul_le_mul h.2.2.2.1 (by have := h.2.1; omega)
    omega
theorem betw1_cells {ad : Bool} {r t : Reg} : betw1 ad t r.cells = (List.range r.rows.length).flatMap fun y : Nat => ((List.range r.w.toNat).filter fun x : Nat => r.has x y && !t.has x y).map fun x : Nat => ⟨ad, x, y⟩ := by
  unfold betw1 Reg.cells Reg.cellsTo Reg.rowTo
  rw [List.filter_flatMap, List.map_flatMap]
  congr 1
  funext y
  rw [List.filter_map, List.map_map, List.filter_filter]
  congr 1
  congr 1
  funext x
  simp [Function.comp, Bool.and_comm]
theorem sbAll_eq {a b : Reg} (h : sameGrid a b = true) : sbAll a b 2 = betw a b := by
  unfold betw
  rw [if_pos h]
  simp only [sameGrid, Bool.and_eq_true, decide_eq_true_eq] at h
  rw [sbAll_succ, sbAll_succ, betw1_cells, betw1_cells]
  have e0 : sbAll a b 0 = [] := by simp [sbAll]
  rw [e0, List.nil_append, ← h.1.2, ← h.2]
  unfold sbTo sbRow
  congr 1
  · congr 1
    funext y
    congr 1
    congr 1
    funext x
    simp
  · congr 1
    funext y
    congr 1
    congr 1
    funext x
    simp [Bool.and_comm]

set_option maxHeartbeats 3200000 in
theorem spec_betw_c {v v' : Value} {a b : Reg} (w : World) (h : RegRd w 0 w.heap.size v a) (h' : RegRd w 0 w.heap.size v' b) :
    Calls Try.prog 30 #[v, v'] w fun en w' => ∃ r, en = .returned (.tuple #[r, .bool (sameGrid a b)]) ∧ EdsIn w' w.heap.size w'.heap.size r (betw a b) ∧ Below w.heap.size w w' := by
  obtain ⟨s, rfl, hs1⟩ := h
  obtain ⟨A1, c1, rfl, hm1, _⟩ := id hs1
  obtain ⟨s', rfl, hs3⟩ := h'
  obtain ⟨A3, c3, rfl, hm3, _⟩ := id hs3
  obtain ⟨i0, hi, hz0, hz1, hz2⟩ := info_parts infoEdit
  have hbel : Below w.heap.size w (((w.alloc (.cells #[.int .i64 a.w, .slice A1 a.rows.length c1] 37)).alloc (.cells #[.int .i64 b.w, .slice A3 b.rows.length c3] 37)).alloc (.cells #[] 53)) := (((Below.refl _ _).alloc (Nat.le_refl _) _).alloc (by simp) _).alloc (by simp; omega) _
  have B0 : Blk (((w.alloc (.cells #[.int .i64 a.w, .slice A1 a.rows.length c1] 37)).alloc (.cells #[.int .i64 b.w, .slice A3 b.rows.length c3] 37)).alloc (.cells #[] 53)) w.heap.size 37 #[.int .i64 a.w, .slice A1 a.rows.length c1] := ((Blk.new _ _ _).alloc _).alloc _
  have B1 : Blk (((w.alloc (.cells #[.int .i64 a.w, .slice A1 a.rows.length c1] 37)).alloc (.cells #[.int .i64 b.w, .slice A3 b.rows.length c3] 37)).alloc (.cells #[] 53)) (w.heap.size + 1) 37 #[.int .i64 b.w, .slice A3 b.rows.length c3] := by
    have := (Blk.new (w.alloc (.cells #[.int .i64 a.w, .slice A1 a.rows.length c1] 37)) 37 #[.int .i64 b.w, .slice A3 b.rows.length c3]).alloc (.cells #[] 53)
    simpa using this
  have B2 : Blk (((w.alloc (.cells #[.int .i64 a.w, .slice A1 a.rows.length c1] 37)).alloc (.cells #[.int .i64 b.w, .slice A3 b.rows.length c3] 37)).alloc (.cells #[] 53)) (w.heap.size + 1 + 1) 53 #[] := by
    have := Blk.new ((w.alloc (.cells #[.int .i64 a.w, .slice A1 a.rows.length c1] 37)).alloc (.cells #[.int .i64 b.w, .slice A3 b.rows.length c3] 37)) 53 #[]
    simpa using this
  have hsz : w.heap.size + 3 = (((w.alloc (.cells #[.int .i64 a.w, .slice A1 a.rows.length c1] 37)).alloc (.cells #[.int .i64 b.w, .slice A3 b.rows.length c3] 37)).alloc (.cells #[] 53)).heap.size := by simp
  obtain ⟨R, hR⟩ : ∃ R, R = betw a b := ⟨_, rfl⟩
  obtain ⟨g, hg⟩ : ∃ g, g = sameGrid a b := ⟨_, rfl⟩
  rw [← hR, ← hg]
  have HR := Lib.hid hR
  have HG := Lib.hid hg
  clear hR hg
  go_enter Try.func30, Try.ntmps30
  go_wp2_with fail
  generalize (((w.alloc (.cells #[.int .i64 a.w, .slice A1 a.rows.length c1] 37)).alloc (.cells #[.int .i64 b.w, .slice A3 b.rows.length c3] 37)).alloc (.cells #[] 53)) = W at *
  have HZ : w.heap.size + 3 ≤ W.heap.size := by omega
  clear hsz
  refine (spec_IsRegion_c (r := a) _ ⟨_, rfl, ((hs1.keep (SameIn.of_below hbel (Nat.le_refl _))).more (Nat.le_refl _) (by omega))⟩).mono ?_
  rintro en w1 ⟨rfl, hb1⟩
  replace B0 := B0.below hb1 (by omega)
  replace B1 := B1.below hb1 (by omega)
  replace B2 := B2.below hb1 (by omega)
  replace hbel := hbel.trans (hb1.mono (by omega))
  have sz1 := hb1.size
  have HB0 := Lib.hid B0
  have HB1 := Lib.hid B1
  have HB2 := Lib.hid B2
  have c10 := B1.cell 0
  have c11 := B1.cell 1
  simp at c10 c11
  clear hb1 B0 B1 B2
  cases ha : a.valid
  · obtain rfl : g = false := by rw [HG.out]; simp [sameGrid, ha]
    obtain rfl : R = [] := by rw [HR.out]; simp [betw, ← HG.out]
    clear ha c10 c11
    go_wp2
    go_ret2
    exact ⟨_, rfl, EdsIn.mk (own_zero HB2.out (by omega)) rfl rfl, hbel⟩
  · go_wp2_with fail
    clear c10 c11
    refine (spec_IsRegion_c (r := b) _ ⟨_, rfl, ((hs3.keep (SameIn.of_below hbel (Nat.le_refl _))).more (Nat.le_refl _) (by omega))⟩).mono ?_
    rintro en w2 ⟨rfl, hb2⟩
    have B0 := HB0.out.below hb2 (by omega)
    have B1 := HB1.out.below hb2 (by omega)
    have B2 := HB2.out.below hb2 (by omega)
    replace hbel := hbel.trans (hb2.mono (by omega))
    have sz2 := hb2.size
    clear hb2 HB0 HB1 HB2
    have HB0 := Lib.hid B0
    have HB1 := Lib.hid B1
    have HB2 := Lib.hid B2
    cases hv : b.valid
    · obtain rfl : g = false := by rw [HG.out]; simp [sameGrid, hv]
      obtain rfl : R = [] := by rw [HR.out]; simp [betw, ← HG.out]
      clear ha hv B0 B1 B2
      go_wp2
      go_ret2
      exact ⟨_, rfl, EdsIn.mk (own_zero HB2.out (by omega)) rfl rfl, hbel⟩
    · have c00 := B0.cell 0
      have c01 := B0.cell 1
      have c10 := B1.cell 0
      have c11 := B1.cell 1
      simp at c00 c01 c10 c11
      clear B0 B1 B2
      have hv1 := Reg.valid_iff.1 ha
      have hv2 := Reg.valid_iff.1 hv
      have HVA := Lib.hid hv1
      have HVB := Lib.hid hv2
      by_cases hw : a.w = b.w
      · have e1 : (a.w != b.w) = false := by simp [hw]
        by_cases hl : a.rows.length = b.rows.length
        · have e2 : ((a.rows.length : Int) != (b.rows.length : Int)) = false := by simp [hl]
          obtain rfl : g = true := by rw [HG.out]; simp [sameGrid, ha, hv, hw, hl]
          have hRR : R = sbAll a b 2 := by rw [HR.out, sbAll_eq HG.out.symm]
          have HRR := Lib.hid hRR
          have haw : a.w.toNat ≤ 6 := by have := hv1.2.1; omega
          have hah := hv1.2.2.2.1
          obtain ⟨wn, hwn⟩ : ∃ wn : Nat, a.w = (wn : Int) := ⟨a.w.toNat, by have := hv1.1; omega⟩
          have hwn2 : a.w.toNat = wn := by omega
          have HN := Lib.hid hwn
          have HW := Lib.hid hwn2
          have hw6 : wn ≤ 6 := by omega
          have B0n := HB0.out
          rw [hwn] at c00 e1 B0n ⊢
          clear HB0
          have HB0 := Lib.hid B0n
          clear B0n
          clear hRR HR ha hv hv1 hv2 hw hl haw hwn hwn2
          go_wp2
          clear c00 c01 c10 c11 e1 e2
          go_loopw [6, 7] (fun o i wr => ∃ rd : Nat, rd ≤ 2 ∧ i = .int .i64 rd ∧ wr.ownsRow (w.heap.size + 2) 53 3 o (sbAll a b rd).length (edc (sbAll a b rd)) ∧ Below (w.heap.size + 2) w2 wr) (fun _ i _ => 2 - (intOf i).toNat)
          case atStart => exact ⟨0, Nat.zero_le _, rfl, own_zero HB2.out (by omega), Below.refl _ _⟩
          case round =>
            obtain ⟨rd, hrd, rfl, hown, hbr⟩ := hrel
            obtain ⟨wo, hwo⟩ : ∃ wo : World, wo = wr := ⟨_, rfl⟩
            subst hwo
            have hsz := hbr.size
            have hall := sbAll_le (b := b) HVA.out (R := rd)
            by_cases hlt : rd < 2
            · have hd : decide ((rd : Int) < 2) = true := by simp; omega
              have Hown := Lib.hid hown
              have Hbr := Lib.hid hbr
              clear hown hbr
              go_wp2
              go_loopw [6, 8] (fun o i wr => ∃ k : Nat, k ≤ a.rows.length ∧ i = .int .i64 k ∧ wr.ownsRow (w.heap.size + 2) 53 3 o (sbAll a b rd ++ sbTo a b rd k).length (edc (sbAll a b rd ++ sbTo a b rd k)) ∧ Below (w.heap.size + 2) w2 wr) (fun _ i _ => a.rows.length - (intOf i).toNat)
              case atStart => exact ⟨0, Nat.zero_le _, rfl, by simpa [sbTo] using Hown.out, Hbr.out⟩
              case round =>
                obtain ⟨k, hk, rfl, hown, hbr⟩ := hrel
                obtain ⟨wo2, hwo⟩ : ∃ wo : World, wo = wr := ⟨_, rfl⟩
                subst hwo
                have hsz2 := hbr.size
                have hto := sbTo_le (a := a) (b := b) (rd := rd) (k := k)
                rw [HW.out] at hto
                have hkw : k * wn ≤ 6 * 6 := Nat.mul_le_mul (by omega) hw6
                have BB := HB0.out.below hbr (by omega)
                have c00 := BB.cell 0
                have c01 := BB.cell 1
                simp at c00 c01
                clear BB
                by_cases hlk : k < a.rows.length
                · have hd2 : decide ((k : Int) < (a.rows.length : Int)) = true := by simp; omega
                  have Hown2 := Lib.hid hown
                  have Hbr2 := Lib.hid hbr
                  clear hown hbr
                  go_wp2
                  clear c00 c01
                  go_loopw [6, 9] (fun o i wr => ∃ j : Nat, j ≤ wn ∧ i = .int .i64 j ∧ wr.ownsRow (w.heap.size + 2) 53 3 o (sbAll a b rd ++ sbTo a b rd k ++ sbRow a b rd k j).length (edc (sbAll a b rd ++ sbTo a b rd k ++ sbRow a b rd k j)) ∧ Below (w.heap.size + 2) w2 wr) (fun _ i _ => wn - (intOf i).toNat)
                  case atStart => exact ⟨0, Nat.zero_le _, rfl, by simpa [sbRow] using Hown2.out, Hbr2.out⟩
                  case round =>
                    obtain ⟨j, hj, rfl, hown, hbr⟩ := hrel
                    have hsz3 := hbr.size
                    have hbw := hbel.trans (hbr.mono (by omega))
                    have hrl := sbRow_le (a := a) (b := b) (rd := rd) (y := k) (k := j)
                    have hll : (sbAll a b rd ++ sbTo a b rd k ++ sbRow a b rd k j).length ≤ 200 := by rw [List.length_append, List.length_append]; omega
                    have BB := HB0.out.below hbr (by omega)
                    have c00 := BB.cell 0
                    have c01 := BB.cell 1
                    simp at c00 c01
                    clear BB
                    by_cases hlj : j < wn
                    · have hst := sbRow_succ (a := a) (b := b) (rd := rd) (y := k) (k := j)
                      have z0 : (rd == 0) = ((rd : Int) == 0) := by rw [Bool.eq_iff_iff]; simp
                      have z1 : (rd == 1) = ((rd : Int) == 1) := by rw [Bool.eq_iff_iff]; simp; omega
                      rw [z0, z1] at hst
                      have HST := Lib.hid hst
                      clear hst z0 z1
                      go_wp2_with fail
                      clear c00 c01
                      refine (spec_has_c (r := a) _ _ _ ⟨_, by rw [HN.out], ((hs1.keep (SameIn.of_below hbw (Nat.le_refl _))).more (Nat.le_refl _) (by omega))⟩ HVA.out).mono ?_
                      rintro en w3 ⟨rfl, hb3⟩
                      have hown3 := own_below hown hb3 (Nat.le_refl _)
                      have hbr3 := hbr.trans (hb3.mono (by omega))
                      have hbw3 := hbw.trans (hb3.mono (by omega))
                      have sz3 := hb3.size
                      clear hown hbr hbw hb3
                      cases hc1 : (a.has (j : Int) (k : Int) == ((rd : Int) == 0))
                      · have hst := HST.out
                        rw [hc1] at hst
                        simp only [Bool.false_and, Bool.false_eq_true, if_false, List.append_nil] at hst
                        have HS := Lib.hid hst
                        clear hst
                        go_wp2
                        go_roundw
                        case rel => exact ⟨j + 1, by omega, by go_num, by rw [HS.out]; exact hown3, hbr3⟩
                        case measure => simp [intOf]; omega
                      · have BB := HB1.out.below hbr3 (by omega)
                        have c10 := BB.cell 0
                        have c11 := BB.cell 1
                        simp at c10 c11
                        clear BB
                        go_wp2_with fail
                        clear c10 c11
                        refine (spec_has_c (r := b) _ _ _ ⟨_, rfl, ((hs3.keep (SameIn.of_below hbw3 (Nat.le_refl _))).more (Nat.le_refl _) (by omega))⟩ HVB.out).mono ?_
                        rintro en w4 ⟨rfl, hb4⟩
                        have hown4 := own_below hown3 hb4 (Nat.le_refl _)
                        have hbr4 := hbr3.trans (hb4.mono (by omega))
                        have sz4 := hb4.size
                        clear hown3 hbr3 hbw3 hb4
                        cases hc2 : (b.has (j : Int) (k : Int) == ((rd : Int) == 1))
                        · have hst := HST.out
                          rw [hc1, hc2] at hst
                          simp only [Bool.and_false, Bool.false_eq_true, if_false, List.append_nil] at hst
                          have HS := Lib.hid hst
                          clear hst
                          go_wp2
                          go_roundw
                          case rel => exact ⟨j + 1, by omega, by go_num, by rw [HS.out]; exact hown4, hbr4⟩
                          case measure => simp [intOf]; omega
                        · have hst := HST.out
                          rw [hc1, hc2] at hst
                          simp only [Bool.and_self, if_true] at hst
                          have HS := Lib.hid hst
                          clear hst
                          go_wp2_with (at_builtin; refine wpList_append_own_at _ rfl _ _ 26 rfl (w.heap.size + 2) 53 i0 _ 3 24 Try.underlying26 hi hz0 hz1 hz2 rfl (by decide) _ _ _ rfl (hown4.alloc _) ⟨w4.heap.size, 0, none⟩ 1 1 [.bool ((rd : Int) == 1), .int .i64 j, .int .i64 k] rfl rfl (news_alloc w4 #[.bool ((rd : Int) == 1), .int .i64 j, .int .i64 k] _) (by intro u hu; simp at hu; rcases hu with rfl | rfl | rfl <;> rfl) (by unfold maxLen; omega) (by omega) (by simp; omega) ?_; intro v' w5 hown5 hgrow _ hat)
                          have hbr5 : Below (w.heap.size + 2) w2 w5 := (hbr4.alloc (by omega) _).grown hgrow (by simp; omega) (own_ge hown4)
                          have hown6 : w5.ownsRow (w.heap.size + 2) 53 3 v' (sbAll a b rd ++ sbTo a b rd k ++ sbRow a b rd k (j + 1)).length (edc (sbAll a b rd ++ sbTo a b rd k ++ sbRow a b rd k (j + 1))) := by
                            rw [HS.out, ← List.append_assoc, edc_append, List.length_append]
                            exact hown5
                          clear hown5 hgrow hat hown4
                          go_wp2
                          go_roundw
                          case rel => exact ⟨j + 1, by omega, by go_num, hown6, hbr5⟩
                          case measure => simp [intOf]; omega
                    · have hjw : j = wn := by omega
                      subst hjw
                      have hown6 : wr.ownsRow (w.heap.size + 2) 53 3 u6 (sbAll a b rd ++ sbTo a b rd (k + 1)).length (edc (sbAll a b rd ++ sbTo a b rd (k + 1))) := by
                        rw [sbTo_succ, HW.out, ← List.append_assoc]
                        exact hown
                      clear hown
                      go_wp2
                      go_roundw
                      case rel => exact ⟨k + 1, by omega, by go_num, hown6, hbr⟩
                      case measure => simp [intOf]; omega
                · have hkn : k = a.rows.length := by omega
                  subst hkn
                  have hown6 : wo2.ownsRow (w.heap.size + 2) 53 3 u6 (sbAll a b (rd + 1)).length (edc (sbAll a b (rd + 1))) := by
                    rw [sbAll_succ]
                    exact hown
                  clear hown
                  go_wp2
                  go_roundw
                  case rel => exact ⟨rd + 1, by omega, by go_num, hown6, hbr⟩
                  case measure => simp [intOf]; omega
            · have hkn : rd = 2 := by omega
              subst hkn
              go_wp2
              go_ret2
              exact ⟨_, rfl, EdsIn.mk (own_base hown (by omega)) (by rw [HRR.out]) (by rw [HRR.out]), hbel.trans (hbr.mono (by omega))⟩
        · have e2 : ((a.rows.length : Int) != (b.rows.length : Int)) = true := by simp; omega
          obtain rfl : g = false := by rw [HG.out]; simp [sameGrid, hl]
          obtain rfl : R = [] := by rw [HR.out]; simp [betw, ← HG.out]
          clear ha hv hw hl
          go_wp2
          go_ret2
          exact ⟨_, rfl, EdsIn.mk (own_zero HB2.out (by omega)) rfl rfl, hbel⟩
      · have e1 : (a.w != b.w) = true := by simp [hw]
        obtain rfl : g = false := by rw [HG.out]; simp [sameGrid, hw]
        obtain rfl : R = [] := by rw [HR.out]; simp [betw, ← HG.out]
        clear ha hv hw
        go_wp2
        go_ret2
        exact ⟨_, rfl, EdsIn.mk (own_zero HB2.out (by omega)) rfl rfl, hbel⟩
end Go.Proofs.Ytlncpkdkdhnfeaa
