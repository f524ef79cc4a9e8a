
/-
  FindWeights, the reference's walk.
-/
import Derived.Test.YtldggeldabaodaaGreatFwP
import Derived.Test.YtldggeldabaodaaGreatRedS
import Derived.Test.YtldggeldabaodaaGreatWghX
import Derived.Test.YtldggeldabaodaaGreatPlcSX
namespace Go.Proofs.YtldggeldabaodaaGreat
open Go.RowKit

theorem made_ints3 {n : Nat} : (madeCells (#[.int .i64 0] : Array Value) n).toList = ic (List.replicate n 0) := by rw [toList_madeCells_one]; simp [ic]
set_option maxRecDepth 100000 in
set_option maxHeartbeats 6400000 in
theorem spec_fw_c {v v2 : Value} {r : Reg} {ps : List (List Cell)} {p : Int} (w : World) (h : RegRd w 0 w.heap.size v r) (h2 : CellSSRd w 0 w.heap.size v2 ps) (hn : ps.length ≤ 1048576) (hl : ∀ s ∈ ps, s.length ≤ 1048576) (hp0 : 2 ≤ p) (hp1 : p ≤ 5) :
    Calls Tryz.prog 42 #[v, v2, .int .i64 p] w (FwPost (fwR r ps p) w) := by
  obtain ⟨i0, hi, hz0, hz1, hz2⟩ := info_parts infoIntS
  obtain ⟨j0, hj, hy0, hy1, hy2⟩ := info_parts infoRowR
  have HRD : Hid (∀ w1, Below w.heap.size w w1 → RegRd w1 0 w1.heap.size v r) := Lib.hid fun w1 b1 => (h.keep (SameIn.of_below b1 (Nat.le_refl _))).more (Nat.le_refl _) b1.size
  have HR2 : Hid (∀ w1, Below w.heap.size w w1 → CellSSRd w1 0 w1.heap.size v2 ps) := Lib.hid fun w1 b1 => (h2.keep (SameIn.of_below b1 (Nat.le_refl _))).more (Nat.le_refl _) b1.size
  have HAR : Hid (∀ w1, Below w.heap.size w w1 → Calls Tryz.prog 51 #[v2] w1 fun e w' => e = .returned (.bool (arePcs ps)) ∧ Below w1.heap.size w1 w') := Lib.hid fun w1 b1 => spec_arePcs_c w1 (HR2.out w1 b1) hn hl
  obtain ⟨R, hR⟩ : ∃ R, R = fwR r ps p := ⟨_, rfl⟩
  rw [← hR]
  have HRR := Lib.hid hR
  obtain ⟨sr, rfl, hsr⟩ := h
  obtain ⟨A, c, rfl, _, _⟩ := hsr
  obtain ⟨vs, ⟨A2, c2, rfl, _, _⟩, _⟩ := h2
  have H0 := (Sep.start w).box 28 #[.int .i64 r.w, .slice A r.rows.length c]
  obtain ⟨g, hg⟩ : ∃ g, g = w.heap.size := ⟨_, rfl⟩
  rw [← hg] at H0
  clear hR
  go_enter Tryz.func42, Tryz.ntmps42
  go_upto_region 1 with fail
  rw [← hg]
  generalize (w.alloc (.cells #[.int .i64 r.w, .slice A r.rows.length c] 28)) = W at *
  clear hg
  have c0 : W.cell? ⟨g, 0, none⟩ = some (.int .i64 r.w) := H0.h0.cell 0
  have c1 : W.cell? ⟨g, 1, none⟩ = some (.slice A r.rows.length c) := H0.h0.cell 1
  have HP := Lib.hid (spec_IsRegion_c W (HRD.out W H0.below))
  obtain ⟨K, hK⟩ : ∃ K, K = r.valid := ⟨_, rfl⟩
  rw [← hK] at HP
  have HKK := Lib.hid hK
  clear hK
  cases K
  · have HN : Hid (R = none) := Lib.hid (by rw [HRR.out, fwR, if_neg (fun h => by have := h.1; rw [← HKK.out, Bool.false_and] at this; exact absurd this (by decide))])
    go_wp2_with fail
    refine (HP.out).mono ?_
    rintro e w1 ⟨rfl, b1⟩
    have H1 := (H0.step b1).rowBox 3 #[] 1 0 rfl (by decide)
    clear c0 c1 H0 HP
    go_wp2
    go_ret2
    exact FwPost.empty HN.out H1
  go_wp2_with fail
  refine (HP.out).mono ?_
  rintro e w1 ⟨rfl, b1⟩
  have H1 := H0.step b1
  clear c0 c1 H0 HP b1
  have HP2 := Lib.hid (HAR.out w1 H1.below)
  obtain ⟨K2, hK2⟩ : ∃ K, K = arePcs ps := ⟨_, rfl⟩
  rw [← hK2] at HP2
  have HKK2 := Lib.hid hK2
  clear hK2 HAR
  cases K2
  · have HN : Hid (R = none) := Lib.hid (by rw [HRR.out, fwR, if_neg (fun h => by have := h.1; rw [← HKK2.out, Bool.and_false] at this; exact absurd this (by decide))])
    go_wp2_with fail
    refine (HP2.out).mono ?_
    rintro e w2 ⟨rfl, b2⟩
    have H2 := (H1.step b2).rowBox 3 #[] 1 0 rfl (by decide)
    clear H1 HP2
    go_wp2
    go_ret2
    exact FwPost.empty HN.out H2
  go_wp2_with fail
  refine (HP2.out).mono ?_
  rintro e w2 ⟨rfl, b2⟩
  replace H1 := H1.step b2
  clear HP2 b2
  have HPR := Lib.hid (spec_prime_c p w2)
  obtain ⟨Q, hQ⟩ : ∃ Q, Q = prm p := ⟨_, rfl⟩
  rw [← hQ] at HPR
  have HQ := Lib.hid hQ
  clear hQ
  cases Q
  · have HN : Hid (R = none) := Lib.hid (by rw [HRR.out, fwR, if_neg (fun h => by have := HQ.out; rw [h.2] at this; exact absurd this (by decide))])
    have H2 := H1.rowBox 3 #[] 1 0 rfl (by decide)
    go_wp2_with (go_at_call 62; refine (HPR.out).mono ?_; rintro e w' ⟨rfl, rfl⟩)
    go_ret2
    exact FwPost.empty HN.out H2
  have hv := Reg.valid_iff.1 HKK.out.symm
  have HV := Lib.hid hv
  have HAP : Hid (arePcs ps = true) := Lib.hid HKK2.out.symm
  have HP3 := Lib.hid (prm_is HQ.out.symm)
  obtain ⟨n, hnn⟩ : ∃ n, n = r.size := ⟨_, rfl⟩
  obtain ⟨M0, hM0⟩ : ∃ M0, M0 = (mskA r ps).map (bitR n) := ⟨_, rfl⟩
  have HRF : Hid (R = fwFrom p (gjTo p M0 n) n r.mask 0 (n - 0)) := Lib.hid (by
    rw [HRR.out, fwR, if_pos ⟨by rw [← HKK.out, HAP.out]; rfl, HQ.out.symm⟩, fwM, ← hnn, hM0, Nat.sub_zero])
  have hn1 : 0 < n := by rw [hnn]; exact (Reg.size_le hv).1
  have hn36 : n ≤ 36 := by rw [hnn]; exact (Reg.size_le hv).2
  have HNS := Lib.hid hnn
  have HM0 := Lib.hid hM0
  have HWN : Hid (r.w * (r.rows.length : Int) = (n : Int)) := Lib.hid (by rw [hnn]; exact Reg.size_int hv)
  have hwn : IntKind.i64.wrap (r.w * (r.rows.length : Int)) = (n : Int) := by rw [HWN.out]; exact IntWalk.i64_in _ (by omega)
  clear hv hnn hM0
  have c0 : w2.cell? ⟨g, 0, none⟩ = some (.int .i64 r.w) := H1.h0.cell 0
  have c1 : w2.cell? ⟨g, 1, none⟩ = some (.slice A r.rows.length c) := H1.h0.cell 1
  go_upto_region 4 with (go_at_call 62; refine (HPR.out).mono ?_; rintro e w' ⟨rfl, rfl⟩)
  have H2 := H1.rowBox 22 #[] 1 0 rfl (by decide)
  obtain ⟨h0, hh0⟩ : ∃ h, h = w2.heap.size := ⟨_, rfl⟩
  rw [← hh0] at H2
  clear c0 c1 H1 HPR hwn
  go_upto_region 5 with fail
  rw [← hh0]
  generalize w2.alloc (.cells #[] 22) = W2 at *
  clear hh0
  have c0 : W2.cell? ⟨g, 0, none⟩ = some (.int .i64 r.w) := H2.h1.cell 0
  have c1 : W2.cell? ⟨g, 1, none⟩ = some (.slice A r.rows.length c) := H2.h1.cell 1
  have HALL := Lib.hid (spec_all_c W2 (HRD.out W2 H2.below) (HR2.out W2 H2.below) HV.out HAP.out)
  go_wp2_with fail
  refine (HALL.out).mono ?_
  rintro e w3 ⟨v3, rfl, o3, b3⟩
  obtain ⟨m, hmm⟩ : ∃ m, m = (allP r ps).length := ⟨_, rfl⟩
  have o4 : OI w3 W2.heap.size w3.heap.size 3 1 v3 m (ic (allP r ps)) := by rw [hmm]; exact o3
  obtain ⟨l, hll⟩ : ∃ l, l = allP r ps := ⟨_, rfl⟩
  obtain ⟨q3, d3, rfl, _, _, _⟩ := o4.rd
  have H3 := ((H2.oiNew b3 o4).g1).rowsNil.p1
  have HLM : Hid (m = l.length) := Lib.hid (by rw [hmm, hll])
  have HMM : Hid (m = M0.length) := Lib.hid (by rw [HM0.out, List.length_map, mskA_len, hmm])
  have hm6 : m ≤ 1000000 := by
    have h1 := allP_len HV.out (ps := ps)
    have h2 := (arePcs_on HAP.out).2.2
    have h3 : ps.length * 288 ≤ 5 * 288 := Nat.mul_le_mul_right _ (by omega)
    omega
  have HAT : Hid (∀ i, i < m → ∃ x : Nat, l[i]? = some (x : Int) ∧ M0[i]? = some (bitR n x) ∧ x < 68719476736) := Lib.hid (fun i hi => by
    obtain ⟨x, h1, h2, h3⟩ := mskA_at HV.out (ps := ps) (i := i) (by rw [mskA_len, ← hmm]; exact hi)
    exact ⟨x, by rw [hll]; exact h2, by rw [HM0.out, List.getElem?_map, h1]; rfl, h3⟩)
  rw [← hll] at H3
  have hmk := fun W => run_make_rowN (P := Tryz.prog) 22 3 i0 _ Tryz.underlying22 hi hz0 .i64 .i64 n n (Nat.le_refl _) (by rw [hz2]; omega) (by omega) W
  rw [hz1, Nat.mul_one] at hmk
  change ∀ W : World, _ = Result.ok _ (W.alloc (.cells (madeCells #[.int .i64 0] n) 3)) at hmk
  clear hmm o3 o4 hll b3 H2 c0 c1 HALL
  go_wp2
  go_loopw [9, 11] (fun pv iv wx => ∃ (i : Nat) (us : List Value) (pw : Value), i ≤ m ∧ pv = pw ∧ iv = .int .i64 i ∧ Hid (∃ g cap, pw = .slice (some ⟨g, 0, none⟩) i cap) ∧ Sep w wx (Res.row pw 22 1 i us :: Res.rows us (M0.take i) :: Res.row (.slice q3 m d3) 3 1 m (ic l) :: [Res.box g 28 #[.int .i64 r.w, .slice A r.rows.length c]])) (fun _ iv _ => m - (intOf iv).toNat)
  case atStart => exact ⟨0, [], _, Nat.zero_le _, rfl, rfl, Lib.hid ⟨_, _, rfl⟩, H3⟩
  case round =>
    clear H3
    obtain ⟨i, us, pw, him, rfl, rfl, HPW, H⟩ := hrel
    by_cases hil : i < m
    · have hili : (i : Int) < (m : Int) := by omega
      obtain ⟨x, hx1, hx2, hx3⟩ := HAT.out i hil
      obtain ⟨b5, o5, rfl, hb5, y5⟩ := ints_at (row_rd H.h2 HLM.out) hx1
      have HTK : Hid (M0.take (i + 1) = M0.take i ++ [bitR n x]) := Lib.hid (by rw [List.take_add_one, hx2]; rfl)
      obtain ⟨Ap, cp, rfl, _, _, _⟩ := Res.row_at H.h0
      clear hx1 hx2
      go_wp2_with (first | (go_at_call 64; refine (bits_c hx3 hn36 H).mono ?_; rintro e w4 ⟨vb, rfl, H4⟩; obtain ⟨Ab, cb, rfl, _, _, _⟩ := Res.row_at H4.h0; clear H) | (at_builtin; refine wpList_app rfl _ _ 47 rfl 22 j0 _ 1 24 Tryz.underlying47 hj hy0 hy1 hy2 rfl (by decide) _ _ _ rfl (H4.g1.alloc _) _ _ _ [.slice Ab n cb] rfl (Rd.fresh w4 22 #[.slice Ab n cb] 1 1 rfl) (ocR rfl) (by unfold maxLen; omega) (by omega) ?_; intro v5 w5 H7; clear H4))
      have H8 := (H7.g1.g2.rowsSnoc (r := bitR n x) bitR_len.symm).p1
      rw [← HTK.out] at H8
      have HPW2 : Hid (∃ g cap, v5 = .slice (some ⟨g, 0, none⟩) (i + 1) cap) := Lib.hid (by
        obtain ⟨b, off, c', e, _⟩ := own_shape H8.h0 (by omega)
        have hb := H8.h0
        rw [e] at hb
        obtain ⟨rfl, _⟩ := own_blk hb
        exact ⟨b, c', e⟩)
      clear H7
      go_roundw
      case rel => exact ⟨i + 1, _, _, by omega, rfl, by go_num, HPW2, H8⟩
      case measure => simp [intOf]; omega
    · obtain rfl : m = i := by omega
      have hmt : M0.take m = M0 := by rw [HMM.out, List.take_length]
      rw [hmt] at H
      clear hmt
      obtain ⟨g1, cap1, rfl⟩ := HPW.out
      have hpp : 0 < p := by omega
      have hmok : Mok p n M0 := by rw [HM0.out]; exact bitR_ok hp0
      have HK := Lib.hid (gjTo_ok hpp hmok n)
      have HEC := Lib.hid (reduce_c HP3.out hn36 hn1 hm6 HMM.out hmok H)
      obtain ⟨LL, hLL⟩ : ∃ LL, LL = Res.row (.slice (some ⟨g1, 0, none⟩) m cap1) 22 1 m us :: Res.rows us M0 :: Res.row (.slice q3 m d3) 3 1 m (ic l) :: [Res.box g 28 #[.int .i64 r.w, .slice A r.rows.length c]] := ⟨_, rfl⟩
      rw [← hLL] at HEC
      have HLL := Lib.hid hLL
      have HBX : Hid (∀ (u : World) (a1 a2 a3 a4 : Res), Sep w u (a1 :: a2 :: a3 :: a4 :: LL) → Blk u g 28 #[.int .i64 r.w, .slice A r.rows.length c]) := Lib.hid (by intro u a1 a2 a3 a4 h; rw [HLL.out] at h; exact h.drop.drop.h5)
      obtain ⟨S, hS⟩ : ∃ S, S = gjTo p M0 n := ⟨_, rfl⟩
      unfold RdPost at HEC
      rw [← hS] at HK HEC HRF
      clear hLL hmok H hS
      go_wp2_with (go_at_call 65; refine (HEC.out).mono ?_; rintro e w4 ⟨av, pv, us2, k, rfl, hk, H⟩; obtain ⟨Av, ca, rfl, _, _, _⟩ := Res.row_at H.h0; obtain ⟨Ap, cp, rfl, _, _, _⟩ := Res.row_at H.h2; have HKL := Lib.hid hk; clear hk HEC)
      have hkm : k ≤ m := by rw [HKL.out, HMM.out]; exact HK.out.2.2.1
      have hkn : k ≤ n := by rw [HKL.out]; exact HK.out.2.2.2.1
      go_loopw [14] (fun iv wx => ∃ j : Nat, j ≤ n ∧ iv = .int .i64 j ∧ Hid (R = fwFrom p S n r.mask j (n - j)) ∧ Sep w wx (ecL (.slice Ap k cp) (.slice Av m ca) m us2 S k LL)) (fun iv _ => n - (intOf iv).toNat)
      case atStart => exact ⟨0, Nat.zero_le _, rfl, HRF, H⟩
      case round =>
        clear H
        obtain ⟨j, hjn, rfl, HRJ, H⟩ := hrel
        by_cases hjl : j < n
        · have hjli : (j : Int) < (n : Int) := by omega
          have HHI := Lib.hid (spec_hasI_c (x := (j : Int)) wr (row_rd H.h2 (by rw [List.length_map]; exact HKL.out)) (by rw [List.length_map, ← HKL.out]; omega))
          rw [hasI_nat] at HHI
          by_cases hmem : j ∈ S.2
          · have HN2 : Hid (R = fwFrom p S n r.mask (j + 1) (n - (j + 1))) := Lib.hid (by rw [HRJ.out]; exact fwFrom_skip hjl hmem)
            rw [decide_eq_true hmem] at HHI
            clear hmem
            go_wp2_with (go_at_call 66; refine (HHI.out).mono ?_; rintro e w' ⟨rfl, rfl⟩)
            go_roundw
            case rel => exact ⟨j + 1, by omega, by go_num, HN2, H⟩
            case measure => simp [intOf]; omega
          · rw [decide_eq_false hmem] at HHI
            have HME := Lib.hid hmem
            have H1 := H.rowBox 3 (madeCells #[.int .i64 0] n) 1 n (by rw [size_madeCells, Nat.mul_one]) (by unfold maxLen; omega)
            rw [made_ints3] at H1
            obtain ⟨hh, hhh⟩ : ∃ hh, hh = wr.heap.size := ⟨_, rfl⟩
            rw [← hhh] at H1
            clear hmem H
            go_upto_region 16 with (go_at_call 66; refine (HHI.out).mono ?_; rintro e w' ⟨rfl, rfl⟩)
            rw [← hhh]
            clear HHI
            generalize wr.alloc (.cells (madeCells (#[.int .i64 0] : Array Value) n) 3) = W1 at *
            clear hhh
            have f1 : W1.frozen? ⟨hh, j, none⟩ = false := by have := own_free H1.h0 j; rwa [Nat.zero_add] at this
            have hbh := own_lt H1.h0 hh rfl
            have z1 : W1.cell? ⟨hh, j, none⟩ = some (.int .i64 0) := by
              have := own_cell1 H1.h0 (j := j) (u := 0) (by simp [hjl]); rwa [Nat.zero_add] at this
            have H2 := H1.setRow (j := j) (by simp [ic]; exact hjl) (.int .i64 1)
            rw [Nat.zero_add, ic_set] at H2
            have HH : Hid (Sep w (W1.setCell ⟨hh, j, none⟩ (.int .i64 1)) (Res.row (.slice (some ⟨hh, 0, none⟩) n n) 3 1 n (ic (wgtTo p S n j 0)) :: ecL (.slice Ap k cp) (.slice Av m ca) m us2 S k LL)) := Lib.hid H2
            clear H1 H2
            go_wp2
            clear f1 hbh z1
            go_loopw [16] (fun iv wx => ∃ i : Nat, i ≤ k ∧ iv = .int .i64 i ∧ Sep w wx (Res.row (.slice (some ⟨hh, 0, none⟩) n n) 3 1 n (ic (wgtTo p S n j i)) :: ecL (.slice Ap k cp) (.slice Av m ca) m us2 S k LL)) (fun iv _ => k - (intOf iv).toNat)
            case atStart => exact ⟨0, Nat.zero_le _, rfl, HH.out⟩
            case round =>
              clear HH
              obtain ⟨i, hik, rfl, H⟩ := hrel
              by_cases hil : i < k
              · have hili : (i : Int) < (k : Int) := by omega
                have HDD : Hid (S.2[i]? = some (S.2[i]'(by rw [← HKL.out]; exact hil))) := Lib.hid (List.getElem?_eq_getElem _)
                obtain ⟨d, hd⟩ : ∃ d, d = S.2[i]'(by rw [← HKL.out]; exact hil) := ⟨_, rfl⟩
                have hdn : d < n := by rw [hd]; exact HK.out.2.2.2.2 _ (List.getElem_mem _)
                rw [← hd] at HDD
                obtain ⟨b6, o6, rfl, hb6, y6⟩ := ints_at (row_rd H.h3 (by rw [List.length_map]; exact HKL.out)) (i := i) (y := (d : Int)) (by rw [List.getElem?_map, HDD.out]; rfl)
                obtain ⟨g2, rfl⟩ : ∃ g2, Av = some ⟨g2, 0, none⟩ := by
                  obtain ⟨b, off, c', e, _⟩ := own_shape H.h1 (by omega)
                  injection e with e1
                  subst e1
                  obtain ⟨rfl, _⟩ := own_blk H.h1
                  exact ⟨b, rfl⟩
                obtain ⟨b2, d2, hv2, hb2, x0, x1, _⟩ := rows_at H.drop HK.out.1.len (by rw [HK.out.2.1]; exact HMM.out) (show i < m by omega) hjl
                obtain ⟨a, ha⟩ : ∃ a, a = gel S.1 i j := ⟨_, rfl⟩
                have har := HK.out.1.el (i := i) (c := j) (by rw [HK.out.2.1, ← HMM.out]; omega) hjl
                rw [← ha] at x1 har
                obtain ⟨ha0, ha1⟩ := har
                have hgl : g2 < wr.heap.size := own_lt H.h1 g2 rfl
                obtain ⟨t, ht⟩ : ∃ t, t = p - a := ⟨_, rfl⟩
                have e1 : IntKind.i64.wrap (p - a) = t := by rw [← ht]; exact IntWalk.i64_in _ (by omega)
                obtain ⟨q, hq⟩ : ∃ q, q = t % p := ⟨_, rfl⟩
                have e2 : Int.tmod t p = q := by rw [hq]; exact Int.tmod_eq_emod_of_nonneg (by omega)
                have hq0 : 0 ≤ q := by rw [hq]; exact Int.emod_nonneg _ (by omega)
                have hq5 : q < p := by rw [hq]; exact Int.emod_lt_of_pos _ hpp
                have e3 : IntKind.i64.wrap (Int.tmod t p) = q := by rw [e2]; exact IntWalk.i64_in _ (by omega)
                have hp2 : (p == 0) = false := by simp; omega
                have HQD : Hid ((wgtTo p S n j i).set d q = wgtTo p S n j (i + 1)) := Lib.hid (by
                  rw [wgtTo, hq, ht, ha]
                  congr 1
                  rw [List.getD_eq_getElem?_getD, HDD.out]; rfl)
                have l0 := Later.cell y6 hb6
                have l1 := Later.cell x0 hgl
                have l2 := Later.cell x1 hb2
                have HH := Lib.hid H
                clear hd hv2 ha ht hq H y6 x0 x1
                go_wp2_with fail
                refine wp_region_lqtail 17 (by kernel_rfl) (by kernel_rfl) ?_
                simp only [List.take_succ_cons, List.take_zero, List.drop_succ_cons, List.drop_zero]
                repeat (go_big_quiet_step ((fail)))
                refine wpQuiet_nil ?_
                intro w3 hw3
                obtain ⟨u3, hu3⟩ := hw3
                subst hu3
                have H3 := Sep.later HH.out u3
                clear l0 l1 l2 HH e1 e2 e3
                generalize u3.w = w3 at *
                have f1 : w3.frozen? ⟨hh, d, none⟩ = false := by have := own_free H3.h0 d; rwa [Nat.zero_add] at this
                have hbh := own_lt H3.h0 hh rfl
                obtain ⟨z, hz⟩ : ∃ z, (ic (wgtTo p S n j i))[d]? = some z := ⟨_, List.getElem?_eq_getElem (by rw [ic, List.length_map, wgtTo_len]; exact hdn)⟩
                have z1 : w3.cell? ⟨hh, d, none⟩ = some z := by have := own_cell H3.h0 hz; rwa [Nat.zero_add] at this
                have H2 := H3.setRow (j := d) (by rw [ic, List.length_map, wgtTo_len]; exact hdn) (.int .i64 q)
                rw [Nat.zero_add, ic_set, HQD.out] at H2
                have HH := Lib.hid H2
                clear H3 H2 hz
                go_wp2
                go_roundw
                case rel => exact ⟨i + 1, by omega, by go_num, HH.out⟩
                case measure => simp [intOf]; omega
              · obtain rfl : k = i := by omega
                have hwg : wgtTo p S n j k = wgtOf p S n j := by rw [wgtOf, ← HKL.out]
                rw [hwg] at H
                have HWR := Lib.hid (wgtTo_res hp0 (S := S) (n := n) (c := j) S.2.length)
                have HWL : Hid ((wgtOf p S n j).length = n) := Lib.hid (wgtTo_len _)
                clear hwg
                have c0 : wr.cell? ⟨g, 0, none⟩ = some (.int .i64 r.w) := (HBX.out _ _ _ _ _ H).cell 0
                have c1 : wr.cell? ⟨g, 1, none⟩ = some (.slice A r.rows.length c) := (HBX.out _ _ _ _ _ H).cell 1
                have hgl : g < wr.heap.size := (HBX.out _ _ _ _ _ H).lt
                have HMK : Hid (∀ u : Later wr, Calls Tryz.prog 68 #[.agg #[.int .i64 r.w, .slice A r.rows.length c]] u.w fun e w' => e = .returned (.int .i64 (r.mask : Int)) ∧ Below u.w.heap.size u.w w') := Lib.hid fun u => spec_mask_c u.w (Later.reg (HRD.out wr H.below)) HV.out
                have HWG : Hid (∀ u : Later wr, Calls Tryz.prog 67 #[.agg #[.int .i64 r.w, .slice A r.rows.length c], .int .i64 (r.mask : Int), .slice (some ⟨hh, 0, none⟩) n n, .int .i64 p] u.w fun e w' => e = .returned (.int .i64 (sumW r.mask (wgtOf p S n j) n % p)) ∧ Below u.w.heap.size u.w w') := Lib.hid fun u => by
                  have := spec_sum_c (m := r.mask) u.w (Later.reg (HRD.out wr H.below)) HV.out (Later.ints (row_rd H.h0 HWL.out.symm)) HP3.out (by rw [HWL.out]; exact HWN.out.symm) (by rw [HWL.out]; exact hn36) HWR.out (Reg.mask_lt HV.out) (Nat.and_self _)
                  rw [HWL.out] at this
                  exact this
                obtain ⟨s, hs⟩ : ∃ s, s = sumW r.mask (wgtOf p S n j) n % p := ⟨_, rfl⟩
                rw [← hs] at HWG
                have HS := Lib.hid hs
                have l0 := Later.cell c0 hgl
                have l1 := Later.cell c1 hgl
                have HH := Lib.hid H
                clear hs c0 c1 hgl H
                go_wp2_with fail
                refine wp_region_later (by kernel_rfl) (by kernel_rfl) ?_
                repeat (go_big_quiet_step ((first
                  | (go_at_call 68; exact Later.call (HMK.out _))
                  | (go_at_call 67; exact Later.call (HWG.out _)))))
                refine wpQuiet_nil ?_
                intro w3 hw3
                obtain ⟨u3, hu3⟩ := hw3
                subst hu3
                have H5 := Sep.later HH.out u3
                clear l0 l1 HH HMK HWG
                generalize u3.w = w5 at *
                by_cases hs0 : s = 0
                · have hsb : (s == 0) = true := by simpa using hs0
                  have hsb2 : (s != 0) = false := by simpa using hs0
                  have HN2 : Hid (R = fwFrom p S n r.mask (j + 1) (n - (j + 1))) := Lib.hid (by rw [HRJ.out]; exact fwFrom_not hjl HME.out (by rw [← HS.out]; exact hs0))
                  clear hs0
                  go_wp2
                  go_roundw
                  case rel => exact ⟨j + 1, by omega, by go_num, HN2, H5.drop⟩
                  case measure => simp [intOf]; omega
                · have hsb : (s == 0) = false := by simpa using hs0
                  have hsb2 : (s != 0) = true := by simpa using hs0
                  have HN2 : Hid (R = some (wgtOf p S n j)) := Lib.hid (by rw [HRJ.out]; exact fwFrom_yes hjl HME.out (by rw [← HS.out]; exact hs0))
                  clear hs0
                  go_wp2
                  go_ret2
                  exact FwPost.yes HN2.out HWL.out.symm H5
        · obtain rfl : n = j := by omega
          have H2 := H.rowBox 3 #[] 1 0 rfl (by decide)
          go_wp2
          go_ret2
          exact FwPost.empty (by rw [HRJ.out]; exact fwFrom_end) H2
end Go.Proofs.YtldggeldabaodaaGreat
