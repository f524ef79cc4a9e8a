
/-
  The recurrence of a square matrix: the walk of the reference.
-/
import Derived.Test.YtdbneilhgckhjaaDoorMatG
namespace Go.Proofs.YtdbneilhgckhjaaDoor
open Go.RowKit

theorem idM_take {N i : Nat} (h : i < N) : (idM N).take i ++ [idRow N i] = (idM N).take (i + 1) := by rw [List.take_add_one, idM_at h]; rfl
set_option maxRecDepth 100000 in
set_option maxHeartbeats 3200000 in
theorem spec_char_c {v : Value} {M : List (List Int)} {N : Nat} (w : World) (h : IntSSRd w 0 w.heap.size v M) (hN1 : 1 ≤ N) (hN : N ≤ 8) (hl : M.length = N) (hr : ∀ r ∈ M, r.length = N) (hb : ∀ r ∈ M, ∀ x ∈ r, 0 ≤ x ∧ x ≤ 20) :
    Calls Tryd.prog 60 #[v] w fun e w' => ∃ v', e = .returned (.tuple #[v', .bool true]) ∧ IntsIn w' w.heap.size w'.heap.size v' (charS M N N).2 ∧ Below w.heap.size w w' := by
  obtain ⟨i0, hi, hz0, hz1, hz2⟩ := info_parts infoIntM
  obtain ⟨j0, hj, y0, y1, y2⟩ := info_parts infoIntsM
  have HSQ := Lib.hid (fun (W : World) (h : IntSSRd W 0 W.heap.size v M) => spec_square_c W h hN1 (by omega) hl hr hb)
  have HM := Lib.hid h
  have hmk := fun W => run_make_rowN (P := Tryd.prog) 24 3 i0 _ Tryd.underlying24 hi hz0 .i64 .i64 N N (Nat.le_refl _) (by rw [hz2]; omega) (by omega) W
  rw [hz1, Nat.mul_one] at hmk
  change ∀ W : World, _ = Result.ok _ (W.alloc (.cells (madeCells #[.int .i64 0] N) 3)) at hmk
  obtain ⟨bA, oA, cA, hv, hbA, HA⟩ := h.shape (by omega)
  subst hv
  rw [hl] at HSQ HM ⊢
  have HA := Lib.hid HA
  have Hl := Lib.hid hl
  have Hr := Lib.hid hr
  have Hb := Lib.hid hb
  have H0 := (Sep.start w).rowBox 3 #[] 1 0 rfl (by decide)
  clear h hl hr hb
  go_enter Tryd.func60, Tryd.ntmps60
  go_wp2_with fail
  have HSA := Lib.hid (HSQ.out (w.alloc (.cells #[] 3)) ((HM.out.keep (SameIn.of_below H0.below (Nat.le_refl _))).more (Nat.le_refl _) H0.below.size))
  refine (HSA.out).mono ?_
  rintro e w1 ⟨rfl, b1⟩
  have H1 := H0.step b1
  clear H0 HSQ HSA b1
  have hN8 : ¬ 8 < N := by omega
  go_wp2
  clear hN8
  obtain ⟨g0, hg0⟩ : ∃ g0, g0 = w.heap.size := ⟨_, rfl⟩
  rw [← hg0] at H1 ⊢
  clear hg0
  go_loopw [6] (fun iv wx => ∃ i : Nat, i ≤ N ∧ iv = .int .i64 i ∧ w1 = wx) (fun iv _ => N - (intOf iv).toNat)
  case atStart => exact ⟨0, Nat.zero_le _, rfl, rfl⟩
  case round =>
    obtain ⟨i, hiN, rfl, rfl⟩ := hrel
    by_cases hlt : i < N
    · obtain ⟨r, hri⟩ : ∃ r, M[i]? = some r := ⟨M[i]'(by rw [Hl.out]; exact hlt), List.getElem?_eq_getElem _⟩
      have hmem := List.mem_of_getElem? hri
      have hrl := Hr.out r hmem
      obtain ⟨gr, or, cr, xr, hgr, HR⟩ := HA.out i r hri (by omega)
      rw [hrl] at xr
      replace xr := (H1.below.cell (p := ⟨bA, oA + i, none⟩) hbA).trans xr
      have HR := Lib.hid HR
      have HRL := Lib.hid hrl
      have HRB := Lib.hid (Hb.out r hmem)
      clear hri hmem hrl
      go_wp2
      go_loopw [7] (fun jv wx => ∃ j : Nat, j ≤ N ∧ jv = .int .i64 j ∧ w1 = wx) (fun jv _ => N - (intOf jv).toNat)
      case atStart => exact ⟨0, Nat.zero_le _, rfl, rfl⟩
      case round =>
        obtain ⟨j, hjN, rfl, rfl⟩ := hrel
        by_cases hlj : j < N
        · obtain ⟨x, hx⟩ : ∃ x, r[j]? = some x := ⟨r[j]'(by rw [HRL.out]; exact hlj), List.getElem?_eq_getElem _⟩
          have xx := (H1.below.cell (p := ⟨gr, or + j, none⟩) hgr).trans (HR.out j x hx)
          have hx20 : decide (20 < x) = false := decide_eq_false (by have := HRB.out x (List.mem_of_getElem? hx); omega)
          clear hx
          go_wp2
          go_roundw
          case rel => exact ⟨j + 1, by omega, by go_num, trivial⟩
          case measure => simp [intOf]; omega
        · obtain rfl : j = N := by omega
          go_wp2
          go_roundw
          case rel => exact ⟨i + 1, by omega, by go_num, trivial⟩
          case measure => simp [intOf]; omega
    · obtain rfl : i = N := by omega
      have H2 := (H1.rowBox 24 #[] 1 0 rfl (by decide)).rowsNil.p1
      clear H1
      go_wp2
      generalize w1.alloc (.cells #[] 24) = W1 at *
      go_loopw [8, 9] (fun bv mv wx => ∃ (m : Nat) (us : List Value), m ≤ i ∧ mv = .int .i64 m ∧ Sep w wx [Res.row bv 24 1 m us, Res.rows us ((idM i).take m), Res.row (.slice (some ⟨g0, 0, none⟩) 0 0) 3 1 0 (ic [])]) (fun _ mv _ => i - (intOf mv).toNat)
      case atStart => exact ⟨0, [], Nat.zero_le _, rfl, H2⟩
      case round =>
        clear H2
        obtain ⟨m, us, hmN, rfl, H⟩ := hrel
        by_cases hlm : m < i
        · have q0 : (madeCells (#[.int .i64 0] : Array Value) i)[m]? = some (.int .i64 0) := by
            rw [← Array.getElem?_toList, made_ints]
            exact ic_at (by rw [List.getElem?_replicate, if_pos hlm])
          have e0 : ((madeCells (#[.int .i64 0] : Array Value) i).setIfInBounds m (.int .i64 1)).toList = ic (idRow i m) := by rw [Array.toList_setIfInBounds, made_ints, ic_set]; rfl
          have H3 := H.rowBox 3 ((madeCells (#[.int .i64 0] : Array Value) i).setIfInBounds m (.int .i64 1)) 1 i (by simp [size_madeCells]) (by unfold maxLen; omega)
          rw [e0] at H3
          have HT := Lib.hid (idM_take hlm)
          obtain ⟨gi, hgi⟩ : ∃ gi, gi = wr.heap.size := ⟨_, rfl⟩
          rw [← hgi] at H3
          clear e0 H
          go_upto_region 19 with fail
          rw [← hgi]
          generalize wr.alloc (.cells ((madeCells (#[.int .i64 0] : Array Value) i).setIfInBounds m (.int .i64 1)) 3) = W2 at *
          clear q0 hgi
          go_wp2_with (at_builtin; refine wpList_app rfl _ _ 61 rfl 24 j0 _ 1 24 Tryd.underlying61 hj y0 y1 y2 rfl (by decide) _ _ _ rfl (H3.g1.alloc _) _ _ _ [.slice (some ⟨gi, 0, none⟩) i i] rfl (Rd.fresh W2 _ #[.slice (some ⟨gi, 0, none⟩) i i] 1 1 rfl) (ocv rfl) (by unfold maxLen; omega) (by omega) ?_; intro v2 w2 H4; clear H3)
          have H5 := (H4.g1.g2.rowsSnoc (by rw [idRow_len])).p1
          rw [HT.out] at H5
          clear H4
          go_roundw
          case rel => exact ⟨m + 1, _, by omega, by go_num, H5⟩
          case measure => simp [intOf]; omega
        · obtain rfl : m = i := by omega
          rw [List.take_of_length_le (by rw [idM_len]; exact Nat.le_refl _)] at H
          have H3 := H.g2
          clear H
          go_wp2
          go_loopw [4, 8, 11] (fun ov pv kv wx => ∃ (k j : Nat) (us : List Value), Hid (j = k + 1) ∧ 1 ≤ j ∧ j ≤ m + 1 ∧ kv = .int .i64 j ∧ Sep w wx [Res.row ov 3 1 k (ic (charS M m k).2), Res.row pv 24 1 m us, Res.rows us (charS M m k).1]) (fun _ _ kv _ => m + 1 - (intOf kv).toNat)
          case atStart => exact ⟨0, 1, _, Lib.hid rfl, Nat.le_refl _, by omega, rfl, H3⟩
          case round =>
            clear H3
            obtain ⟨k, j, vs, HJ, hj1, hjN, rfl, H⟩ := hrel
            by_cases hlj : j < m + 1
            · obtain ⟨P, hP⟩ : ∃ P, P = (charS M m k).1 := ⟨_, rfl⟩
              obtain ⟨C, hC⟩ : ∃ C, C = (charS M m k).2 := ⟨_, rfl⟩
              have hcl := charS_len (N := m) Hl.out (k := k)
              have HS1 : Hid ((charS M m (k + 1)).1 = subD (mulM M P) (quoC (trace (mulM M P) m) j) m) := Lib.hid (by rw [hP, HJ.out]; rfl)
              have HS2 : Hid ((charS M m (k + 1)).2 = C ++ [quoC (trace (mulM M P) m) j]) := Lib.hid (by rw [hP, hC, HJ.out]; rfl)
              rw [← hP, ← hC] at H hcl
              have HPR := Lib.hid (spec_times_c wr ((HM.out.keep (SameIn.of_below H.below (Nat.le_refl _))).more (Nat.le_refl _) H.below.size) (H.drop.ssRd hcl.1.symm) hN1 (by omega) Hl.out hcl.1 Hr.out hcl.2.1)
              obtain ⟨X, hX⟩ : ∃ X, X = mulM M P := ⟨_, rfl⟩
              have hXl : X.length = m := by rw [hX, mulM_len]; exact Hl.out
              have hXr : ∀ r ∈ X, r.length = m := by rw [hX]; exact mulM_row hcl.1
              rw [← hX] at HS1 HS2 HPR
              have HXl := Lib.hid hXl
              have HXr := Lib.hid hXr
              clear hP hC hX hcl hXl hXr
              obtain ⟨Ap, cp, rfl, _, _, _⟩ := Res.row_at H.h1
              go_wp2_with fail
              refine (HPR.out).mono ?_
              rintro e w2 ⟨v2, us2, rfl, HP⟩
              have H2 := (Sep.join HP H).g4.drop.g3.drop
              clear HP HPR H
              obtain ⟨g2, o2, c2, rfl, _, _, _⟩ := own_shape H2.h0 (by omega)
              obtain ⟨rfl, _⟩ := own_blk H2.h0
              have HUL : Hid (us2.length = m) := Lib.hid ((RowsAt.len H2.h1).trans HXl.out)
              go_wp2
              go_loopw [13, 14] (fun tv iv wx => ∃ (n : Nat) (t : Int), n ≤ m ∧ iv = .int .i64 n ∧ tv = .int .i64 t ∧ Hid (t = trace X n) ∧ w2 = wx) (fun _ iv _ => m - (intOf iv).toNat)
              case atStart => exact ⟨0, 0, Nat.zero_le _, rfl, rfl, Lib.hid rfl, rfl⟩
              case round =>
                obtain ⟨n, t, hnm, rfl, rfl, HT, rfl⟩ := hrel
                by_cases hln : n < m
                · obtain ⟨r, hr⟩ : ∃ r, X[n]? = some r := ⟨X[n]'(by rw [HXl.out]; exact hln), List.getElem?_eq_getElem _⟩
                  have hrl := HXr.out r (List.mem_of_getElem? hr)
                  obtain ⟨u, hu⟩ : ∃ u, us2[n]? = some u := ⟨us2[n]'(by rw [HUL.out]; exact hln), List.getElem?_eq_getElem _⟩
                  obtain ⟨gu, cu, rfl, _, _, _, hfr, hcu⟩ := RowsAt.shape H2.h1 hu hr (by omega)
                  obtain ⟨x, hx⟩ : ∃ x, r[n]? = some x := ⟨r[n]'(by rw [hrl]; exact hln), List.getElem?_eq_getElem _⟩
                  have x1 := own_cell H2.h0 hu
                  have x2 := hcu n x hx
                  have HX : Hid (trace X (n + 1) = wrap64 (t + x)) := Lib.hid (by rw [trace, ← HT.out, at2_get hr hx]; rfl)
                  rw [Nat.zero_add, hrl] at x1
                  clear hr hu hfr hcu hx hrl
                  go_wp2
                  clear x1 x2
                  go_roundw
                  case rel => exact ⟨n + 1, _, by omega, by go_num, rfl, Lib.hid HX.out.symm, trivial⟩
                  case measure => simp [intOf]; omega
                · obtain rfl : n = m := by omega
                  rw [← HT.out] at HS1 HS2
                  have hqq : quoC t j = wrap64 (t.tdiv (j : Int)) := rfl
                  rw [hqq] at HS1 HS2
                  have hj0 : ((j : Int) == 0) = false := by simp; omega
                  clear hqq HT
                  go_wp2_with (at_builtin; refine wpList_app rfl _ _ 24 rfl 3 i0 _ 1 8 Tryd.underlying24 hi hz0 hz1 hz2 rfl (by decide) _ _ _ rfl (H2.g2.alloc _) _ _ _ [.int .i64 (wrap64 (t.tdiv (j : Int)))] rfl (Rd.fresh w2 _ #[.int .i64 (wrap64 (t.tdiv (j : Int)))] 1 1 rfl) oc1 (by have := HJ.out; unfold maxLen; omega) (by have := HJ.out; omega) ?_; intro v4 w4 H4; clear H2)
                  clear hj0
                  generalize wrap64 (t.tdiv (j : Int)) = q at *
                  have hicq : ic C ++ [Value.int .i64 q] = ic (charS M n (k + 1)).2 := by rw [HS2.out, ic_append]; rfl
                  rw [hicq] at H4
                  rw [← subD_zero (M := X) (c := q)] at H4
                  clear hicq
                  go_loopw [16] (fun iv wx => ∃ m : Nat, m ≤ n ∧ iv = .int .i64 m ∧ Sep w wx [Res.row v4 3 1 (k + 1) (ic (charS M n (k + 1)).2), Res.row (.slice (some ⟨g2, 0, none⟩) n c2) 24 1 n us2, Res.rows us2 (subD X q m)]) (fun iv _ => n - (intOf iv).toNat)
                  case atStart => exact ⟨0, Nat.zero_le _, rfl, H4⟩
                  case round =>
                    clear H4
                    obtain ⟨m, hmi, rfl, H⟩ := hrel
                    by_cases hlm : m < n
                    · obtain ⟨r, hr⟩ : ∃ r, X[m]? = some r := ⟨X[m]'(by rw [HXl.out]; exact hlm), List.getElem?_eq_getElem _⟩
                      have hrl := HXr.out r (List.mem_of_getElem? hr)
                      have hsr : (subD X q m)[m]? = some r := by rw [subD_at hr, if_neg (Nat.lt_irrefl m)]
                      obtain ⟨u, hu⟩ : ∃ u, us2[m]? = some u := ⟨us2[m]'(by rw [HUL.out]; exact hlm), List.getElem?_eq_getElem _⟩
                      obtain ⟨gu, cu, rfl, _, _, _, hfr, hcu⟩ := RowsAt.shape H.h2 hu hsr (by omega)
                      obtain ⟨x, hx⟩ : ∃ x, r[m]? = some x := ⟨r[m]'(by rw [hrl]; exact hlm), List.getElem?_eq_getElem _⟩
                      have x1 := own_cell H.h1 hu
                      have x2 := hcu m x hx
                      have x3 : wr.drew.frozen? ⟨gu, m, none⟩ = false := hfr m
                      have H1 := (H.drew.g2.rowsSet hu hsr (j := m) (wrap64 (x - q))).p2
                      have hst : (subD X q m).set m (r.set m (wrap64 (x - q))) = subD X q (m + 1) := by rw [← subD_put hr, getD_get hx]; rfl
                      rw [hst] at H1
                      rw [Nat.zero_add, hrl] at x1
                      clear H hr hsr hu hfr hcu hx hst hrl
                      go_wp2_with fail
                      refine wp_region_stq 15 (by kernel_rfl) (by kernel_rfl) ?_
                      simp only [List.take_succ_cons, List.take_zero, List.drop_succ_cons, List.drop_zero]
                      repeat (first | go_big_quiet_skip | (go_big_quiet_want; go_big_quiet_op; first | go_big_quiet_on | (apply Exists.intro; refine ⟨?_, ?_⟩; focus (fail); go_big_quiet_on)))
                      refine wpQuiet_nil ?_
                      go_wp2
                      clear x1 x2 x3
                      go_roundw
                      case rel => exact ⟨m + 1, by omega, by go_num, H1⟩
                      case measure => simp [intOf]; omega
                    · obtain rfl : m = n := by omega
                      rw [← HS1.out] at H
                      go_wp2
                      go_roundw
                      case rel => exact ⟨k + 1, j + 1, us2, Lib.hid (by rw [HJ.out]), by omega, by omega, by go_num, H⟩
                      case measure => simp [intOf]; omega
            · have hk := HJ.out
              obtain rfl : k = m := by omega
              have HL : Hid (k = (charS M k k).2.length) := Lib.hid ((charS_len (N := k) Hl.out (k := k)).2.2).symm
              have hd : ¬ j ≤ k := by omega
              clear hk hlj hjN hj1
              go_wp2
              refine bodyPost_ret (results_tmp2 rfl _ _ _) rfl ?_
              have HO : IntsIn wr w.heap.size wr.heap.size u4 (charS M k k).2 := by unfold IntsIn; rw [← HL.out]; exact H.oi
              exact ⟨_, rfl, HO, H.below⟩
end Go.Proofs.YtdbneilhgckhjaaDoor
