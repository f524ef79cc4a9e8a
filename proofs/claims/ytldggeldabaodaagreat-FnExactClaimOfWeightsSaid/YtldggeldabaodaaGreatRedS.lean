
/-
  The reference's reduction of rows modulo a small prime: the copy of the rows.
-/
import Derived.Test.YtldggeldabaodaaGreatGjX
namespace Go.Proofs.YtldggeldabaodaaGreat
open Go.RowKit

theorem ocR {v : Value} (h : v.oneCell' = true) : ∀ u ∈ [v], u.oneCell' = true := by intro u hu; simp at hu; subst hu; exact h
set_option maxRecDepth 100000 in
theorem infoRowR : (Tryz.prog.info? 22).map (fun i => (i.zero, i.size, i.bytes)) = some (some (.slice none 0 0), 1, 24) := by kernel_rfl
def RdPost (p : Int) (n m : Nat) (M : List (List Int)) (w0 : World) (L : List Res) : Ending → World → Prop := fun e w' => ∃ av pv vs' k, e = .returned (.tuple #[av, pv]) ∧ k = (gjTo p M n).2.length ∧ Sep w0 w' (ecL pv av m vs' (gjTo p M n) k L)
theorem RdPost.mk {p : Int} {n m k : Nat} {M : List (List Int)} {w0 w' : World} {L : List Res} {av pv : Value} {vs : List Value} {S : List (List Int) × List Nat} (hS : gjTo p M n = S) (hk : k = S.2.length) (h : Sep w0 w' (ecL pv av m vs S k L)) : RdPost p n m M w0 L (.returned (.tuple #[av, pv])) w' :=
  ⟨av, pv, vs, k, rfl, by rw [hS]; exact hk, by rw [hS]; exact h⟩
set_option maxRecDepth 100000 in
set_option maxHeartbeats 6400000 in
theorem reduce_c {w0 w : World} {p : Int} {n m g cap : Nat} {vs : List Value} {M : List (List Int)} {L : List Res} (hp : p = 2 ∨ p = 3 ∨ p = 5) (hn : n ≤ 36) (hn1 : 0 < n) (hml : m ≤ 1000000) (hm : m = M.length) (hM : Mok p n M)
    (H : Sep w0 w (Res.row (.slice (some ⟨g, 0, none⟩) m cap) 22 1 m vs :: Res.rows vs M :: L)) :
    Calls Tryz.prog 65 #[.slice (some ⟨g, 0, none⟩) m cap, .int .i64 n, .int .i64 p] w (RdPost p n m M w0 (Res.row (.slice (some ⟨g, 0, none⟩) m cap) 22 1 m vs :: Res.rows vs M :: L)) := by
  obtain ⟨i0, hi, hz0, hz1, hz2⟩ := info_parts infoIntS
  obtain ⟨j0, hj, hy0, hy1, hy2⟩ := info_parts infoRowR
  have HP := Lib.hid hp
  have HM := Lib.hid hm
  have HMK := Lib.hid hM
  have HLM := Lib.hid hM.len
  have H0 := H.rowsNil.rowBox 22 #[] 1 0 rfl (by decide)
  clear hp hm hM H
  go_enter Tryz.func65, Tryz.ntmps65
  go_wp2
  go_loopw [8, 9] (fun av iv wx => ∃ (i : Nat) (us : List Value), i ≤ m ∧ iv = .int .i64 i ∧ Sep w0 wx (Res.row av 22 1 i us :: Res.rows us (M.take i) :: Res.row (.slice (some ⟨g, 0, none⟩) m cap) 22 1 m vs :: Res.rows vs M :: L)) (fun _ iv _ => m - (intOf iv).toNat)
  case atStart => exact ⟨0, [], Nat.zero_le _, rfl, H0⟩
  case round =>
    clear H0
    obtain ⟨i, us, him, rfl, H⟩ := hrel
    by_cases hil : i < m
    · have hili : (i : Int) < (m : Int) := by omega
      obtain ⟨r, hr⟩ : ∃ r, M[i]? = some r := ⟨M[i]'(by rw [← HM.out]; exact hil), List.getElem?_eq_getElem _⟩
      have HRN : Hid (r.length = n) := Lib.hid (HLM.out r (List.mem_of_getElem? hr))
      have HTK : Hid (M.take (i + 1) = M.take i ++ [r]) := Lib.hid (by rw [List.take_add_one, hr]; rfl)
      have H5 := H.rowBox 3 #[] 1 0 rfl (by decide)
      have H6 := H5.g4.g4
      obtain ⟨b, c, hv, hb, x0, _, _⟩ := rows_at H6 HLM.out HM.out hil hn1
      have hR : RowsAt _ vs M := H6.h1
      obtain ⟨A1, c1, he1, _, _, hrd⟩ := own_rd (hR.own i _ r hv hr)
      injection he1 with e1 e2 e3
      subst e1
      rw [HRN.out] at hrd
      clear hv hr e2 e3 H hR
      go_wp2_with (first | (at_builtin; refine wpList_app rfl _ _ 22 rfl 3 i0 _ 1 8 Tryz.underlying22 hi hz0 hz1 hz2 rfl (by decide) _ _ _ rfl H5 _ _ _ (ic r) rfl hrd ic_one (by unfold maxLen; omega) (by omega) ?_; intro v4 w4 H4; clear H5 H6 x0 hb hrd; obtain ⟨A4, c4, rfl, _, _, _⟩ := Res.row_at H4.h0) | (at_builtin; refine wpList_app rfl _ _ 47 rfl 22 j0 _ 1 24 Tryz.underlying47 hj hy0 hy1 hy2 rfl (by decide) _ _ _ rfl (H4.g1.alloc _) _ _ _ [.slice A4 n c4] rfl (Rd.fresh w4 22 #[.slice A4 n c4] 1 1 rfl) (ocR rfl) (by unfold maxLen; omega) (by omega) ?_; intro v5 w5 H7; clear H4))
      simp only [Nat.zero_add] at H7
      have H8 := (H7.g1.g2.rowsSnoc (r := r) HRN.out.symm).p1
      rw [← HTK.out] at H8
      clear H7
      go_roundw
      case rel => exact ⟨i + 1, _, by omega, by go_num, H8⟩
      case measure => first | (simp [intOf]; omega) | simp [intOf]
    · obtain rfl : m = i := by omega
      have HTM : Hid (M.take m = M) := Lib.hid (by rw [HM.out, List.take_length])
      rw [HTM.out] at H
      obtain ⟨LL, hLL⟩ : ∃ LL, LL = Res.row (.slice (some ⟨g, 0, none⟩) m cap) 22 1 m vs :: Res.rows vs M :: L := ⟨_, rfl⟩
      have HLL := Lib.hid hLL
      rw [← hLL] at H
      clear hLL
      have hp0 : 0 < p := by have := HP.out; omega
      have hp5 : p ≤ 5 := by have := HP.out; omega
      have HK := Lib.hid (fun c => gjTo_ok (n := n) hp0 HMK.out c)
      obtain ⟨A, ca, rfl, _, _, _⟩ := Res.row_at H.h0
      have H0 : Sep w0 (wr.alloc (.cells #[] 3)) (ecL (.slice (some ⟨wr.heap.size, 0, none⟩) 0 0) (.slice A m ca) m us (M, []) 0 LL) := (H.rowBox 3 #[] 1 0 rfl (by decide)).g2.g2
      have hn1i : (0 : Int) < (n : Int) := by omega
      clear H
      go_wp2
      go_loopw [10, 11] (fun pv cv wx => ∃ (c k : Nat) (S : List (List Int) × List Nat) (vs2 : List Value) (pw : Value), c ≤ n ∧ pv = pw ∧ cv = .int .i64 c ∧ Hid (S = gjTo p M c) ∧ k ≤ m ∧ k ≤ 36 ∧ Hid (k = S.2.length) ∧ Sep w0 wx (ecL pw (.slice A m ca) m vs2 S k LL)) (fun _ cv _ => n - (intOf cv).toNat)
      case atStart => exact ⟨0, 0, (M, []), us, _, Nat.zero_le _, rfl, rfl, Lib.hid rfl, Nat.zero_le _, by omega, Lib.hid rfl, H0⟩
      case round =>
        clear H0
        obtain ⟨c, k, S, vs2, pw, hcn, rfl, rfl, HS, hkm, hk36, HKL, H⟩ := hrel
        obtain ⟨Ap, cp, rfl, _, _, _⟩ := Res.row_at H.h2
        by_cases hc : c < n
        · have hci : (c : Int) < (n : Int) := by omega
          by_cases hkl : k < m
          · have hkli : (k : Int) < (m : Int) := by omega
            have HML : Hid (m = S.1.length) := Lib.hid (by rw [HS.out, (HK.out c).2.1]; exact HM.out)
            have HMK1 : Hid (Mok p n S.1) := Lib.hid (by rw [HS.out]; exact (HK.out c).1)
            obtain ⟨g2, rfl⟩ : ∃ g2, A = some ⟨g2, 0, none⟩ := by
              obtain ⟨b, off, c', e, _⟩ := own_shape H.h0 (by omega)
              injection e with e1
              subst e1
              obtain ⟨rfl, _⟩ := own_blk H.h0
              exact ⟨b, rfl⟩
            obtain ⟨wo, hwo⟩ : ∃ wo, wo = wr := ⟨_, rfl⟩
            subst hwo
            go_wp2
            go_loopw [13, 14] (fun tv zv wx => ∃ (t z : Int), (k : Int) ≤ z + 1 ∧ z < m ∧ tv = .int .i64 t ∧ zv = .int .i64 z ∧ Hid (SrchR S.1 c m z t) ∧ -1 ≤ t ∧ t < m ∧ wo = wx) (fun _ zv _ => (intOf zv + 1).toNat)
            case atStart => exact ⟨-1, (m : Int) - 1, by omega, by omega, rfl, by go_num, Lib.hid SrchR.start, by omega, by omega, rfl⟩
            case round =>
              obtain ⟨t, z, hkz, hzm, rfl, rfl, HQ, ht1, htm, rfl⟩ := hrel
              by_cases hz : (k : Int) ≤ z
              · obtain ⟨q, rfl⟩ : ∃ q : Nat, z = q := ⟨z.toNat, by omega⟩
                have hqm : q < m := by omega
                obtain ⟨b, cb, hvq, hb, x0, x1, _⟩ := rows_at H HMK1.out.len HML.out hqm hc
                by_cases h0 : gel S.1 q c = 0
                · have HQ2 := Lib.hid (SrchR.skip HQ.out h0)
                  rw [h0] at x1
                  clear h0 hvq
                  go_wp2
                  go_roundw
                  case rel => exact ⟨t, (q : Int) - 1, by omega, by omega, rfl, by go_num, HQ2, ht1, htm, trivial⟩
                  case measure => first | (simp [intOf]; omega) | simp [intOf]
                · have HQ2 : Hid (SrchR S.1 c m ((q : Int) - 1) q) := Lib.hid (SrchR.take hqm h0)
                  have hzb : (gel S.1 q c == 0) = false := by simpa using h0
                  have hzb2 : (gel S.1 q c != 0) = true := by simpa using h0
                  clear h0 hvq
                  go_wp2
                  go_roundw
                  case rel => exact ⟨q, (q : Int) - 1, by omega, by omega, rfl, by go_num, HQ2, by omega, by omega, trivial⟩
                  case measure => first | (simp [intOf]; omega) | simp [intOf]
              · by_cases htn : t < 0
                · have HSN : Hid (S = gjTo p M (c + 1)) := Lib.hid (by
                    have hf : fnd S.1 c k = m := SrchR.none HQ.out (by omega) HML.out hkm htn
                    show S = gjS p c (gjTo p M c)
                    rw [← HS.out]
                    unfold gjS
                    rw [← HKL.out, hf, ← HML.out, if_pos hkl, if_neg (Nat.lt_irrefl _)])
                  go_wp2
                  go_roundw
                  case rel => exact ⟨c + 1, k, S, vs2, _, by omega, rfl, by go_num, HSN, hkm, hk36, HKL, H⟩
                  case measure => first | (simp [intOf]; omega) | simp [intOf]
                · obtain ⟨q, rfl, hkq, hq, hz0, hfq⟩ := SrchR.some HQ.out (by omega) hkz HML.out htn
                  have HF : Hid (fnd S.1 c k = q) := Lib.hid hfq
                  have HNZ := Lib.hid hz0
                  obtain ⟨b, cb, hvq, hb, x0, x1, _⟩ := rows_at H HMK1.out.len HML.out hq hc
                  obtain ⟨bk, ck, hvk, hbk, x2, _, _⟩ := rows_at H HMK1.out.len HML.out hkl hc
                  have HVQ := Lib.hid hvq
                  have HVK := Lib.hid hvk
                  have hgl : g2 < wo.heap.size := own_lt H.h0 g2 rfl
                  have f2 : wo.frozen? ⟨g2, k, none⟩ = false := by have := own_free H.h0 k; rwa [Nat.zero_add] at this
                  have f0 : wo.frozen? ⟨g2, q, none⟩ = false := by have := own_free H.h0 q; rwa [Nat.zero_add] at this
                  have HS1 := H.setRow (j := k) (by have := RowsAt.len H.h1; have := HML.out; omega) (.slice (some ⟨b, 0, none⟩) n cb)
                  rw [Nat.zero_add] at HS1
                  obtain ⟨y, hy⟩ : ∃ y, (vs2.set k (.slice (some ⟨b, 0, none⟩) n cb))[q]? = some y := ⟨_, List.getElem?_eq_getElem (by rw [List.length_set]; have := RowsAt.len H.h1; have := HML.out; omega)⟩
                  have z3 : (wo.setCell ⟨g2, k, none⟩ (.slice (some ⟨b, 0, none⟩) n cb)).cell? ⟨g2, q, none⟩ = some y := by have := own_cell HS1.h0 hy; rwa [Nat.zero_add] at this
                  have f3 : (wo.setCell ⟨g2, k, none⟩ (.slice (some ⟨b, 0, none⟩) n cb)).frozen? ⟨g2, q, none⟩ = false := by have := own_free HS1.h0 q; rwa [Nat.zero_add] at this
                  have H3 := H.rowsSwap HML.out hkl hq HVK.out HVQ.out
                  have HH := Lib.hid H3
                  clear H HS1 hy H3 hvq hvk hz0 hfq x1
                  go_upto_region 21 with fail
                  clear hz f0 f2 f3 z3 x0 x2 hkz hzm HQ ht1 htm htn hkq hgl hb hbk
                  obtain ⟨M1, hM1⟩ : ∃ M1, M1 = swp S.1 k q := ⟨_, rfl⟩
                  have H4 := HH.out
                  rw [← hM1] at H4
                  have HM1 := Lib.hid hM1
                  have HML1 : Hid (m = M1.length) := Lib.hid (by rw [hM1, swp_len]; exact HML.out)
                  have HMKX : Hid (Mok p n M1) := Lib.hid (by rw [hM1]; exact HMK1.out.swp (by rw [← HML.out]; exact hkl) (by rw [← HML.out]; exact hq))
                  obtain ⟨x, hx⟩ : ∃ x, x = gel M1 k c := ⟨_, rfl⟩
                  have hxq : x = gel S.1 q c := by rw [hx, hM1]; exact gel_swp (by rw [← HML.out]; exact hkl) (by rw [← HML.out]; exact hq)
                  have hxr := HMKX.out.el (i := k) (c := c) (by rw [← HML1.out]; exact hkl) hc
                  rw [← hx] at hxr
                  have hx1 : 1 ≤ x := by have := HNZ.out; rw [← hxq] at this; omega
                  have hxp := hxr.2
                  have hinv := invP_is HP.out hx1 hxp
                  obtain ⟨y, hy⟩ : ∃ y, y = invP p x := ⟨_, rfl⟩
                  have HX := Lib.hid hx
                  have HY := Lib.hid hy
                  rw [← hy] at hinv
                  have hy1 := hinv.1.1
                  have hyp := hinv.1.2
                  obtain ⟨vs1, hvs1⟩ : ∃ v, v = ((vs2.set k (.slice (some ⟨b, 0, none⟩) n cb)).set q (.slice (some ⟨bk, 0, none⟩) n ck)) := ⟨_, rfl⟩
                  rw [← hvs1] at H4
                  have HQL := Lib.hid hq
                  clear hM1 hx hxq hxr hinv hy hvs1 HH HVQ HVK
                  generalize World.setCell (World.setCell _ _ _) _ _ = w4 at *
                  obtain ⟨b1, d1, hv1, hb1, r0, r1, _⟩ := rows_at H4 HMKX.out.len HML1.out hkl hc
                  rw [← HX.out] at r1
                  obtain ⟨r1', hr1'⟩ : ∃ r, r = M1.getD k [] := ⟨_, rfl⟩
                  have HR1 := Lib.hid hr1'
                  have HRN : Hid (r1'.length = n) := Lib.hid (by rw [hr1']; exact HMKX.out.len _ (getD_mem (by rw [← HML1.out]; exact hkl)))
                  have H5 : Sep w0 w4 (ecL (.slice Ap k cp) (.slice (some ⟨g2, 0, none⟩) m ca) m vs1 (M1.set k (sclTo p y r1' 0), S.2) k LL) := by
                    have e : M1.set k (sclTo p y r1' 0) = M1 := by
                      rw [sclTo, hr1']
                      have := getD_get (M := M1) (t := k) (by rw [← HML1.out]; exact hkl)
                      obtain ⟨h1, h2⟩ := List.getElem?_eq_some_iff.1 this
                      rw [← h2]
                      exact List.set_getElem_self h1
                    rw [e]
                    exact H4
                  clear hr1' H4 hv1
                  go_wp2_with (go_at_call 102; refine (inverse_c HP.out hx1 hxp).mono ?_; rintro e w' ⟨rfl, rfl⟩)
                  rw [← HY.out]
                  clear r0 r1 hb1
                  go_loopw [17] (fun iv wx => ∃ j : Nat, j ≤ n ∧ iv = .int .i64 j ∧ Sep w0 wx (ecL (.slice Ap k cp) (.slice (some ⟨g2, 0, none⟩) m ca) m vs1 (M1.set k (sclTo p y r1' j), S.2) k LL)) (fun iv _ => n - (intOf iv).toNat)
                  case atStart => exact ⟨0, Nat.zero_le _, rfl, H5⟩
                  case round =>
                    clear H5
                    obtain ⟨j, hjn, rfl, H⟩ := hrel
                    by_cases hjl : j < n
                    · have hji : (j : Int) < (n : Int) := by omega
                      have HMS : Hid (∀ r ∈ M1.set k (sclTo p y r1' j), r.length = n) := Lib.hid fun r hr => (set_mem2 hr).elim (fun e => by rw [e, sclTo_len]; exact HRN.out) (HMKX.out.len r)
                      have hmls : m = (M1.set k (sclTo p y r1' j)).length := by rw [List.length_set]; exact HML1.out
                      obtain ⟨b2, d2, hv2, hb2, r0, r1, _⟩ := rows_at H HMS.out hmls hkl hjl
                      have hel : gel (M1.set k (sclTo p y r1' j)) k j = r1'.getD j 0 := by rw [gel_set (by rw [← HML1.out]; exact hkl), if_pos rfl, sclTo_next]
                      rw [hel] at r1
                      obtain ⟨a, ha⟩ : ∃ a, a = r1'.getD j 0 := ⟨_, rfl⟩
                      have har : 0 ≤ a ∧ a < p := by
                        have := HMKX.out.el (i := k) (c := j) (by rw [← HML1.out]; exact hkl) hjl
                        rw [ha, HR1.out]
                        exact this
                      rw [← ha] at r1
                      have hy5 : y < p := hyp
                      have hyx : 0 ≤ a * y ∧ a * y ≤ 16 := by
                        have hy : y = 1 ∨ y = 2 ∨ y = 3 ∨ y = 4 := by omega
                        have hx : a = 0 ∨ a = 1 ∨ a = 2 ∨ a = 3 ∨ a = 4 := by omega
                        rcases hy with rfl | rfl | rfl | rfl <;> rcases hx with rfl | rfl | rfl | rfl | rfl <;> decide
                      obtain ⟨z, hz⟩ : ∃ z, z = a * y := ⟨_, rfl⟩
                      rw [← hz] at hyx
                      obtain ⟨z1, z2⟩ := hyx
                      have e1 : IntKind.i64.wrap (a * y) = z := by rw [← hz]; exact IntWalk.i64_in _ (by omega)
                      have hp2 : (p == 0) = false := by simp; omega
                      obtain ⟨r, hr⟩ : ∃ r, r = z % p := ⟨_, rfl⟩
                      have hr0 : 0 ≤ r := by rw [hr]; exact Int.emod_nonneg _ (by omega)
                      have hr5 : r < p := by rw [hr]; exact Int.emod_lt_of_pos _ hp0
                      have e2 : IntKind.i64.wrap (Int.tmod z p) = r := by rw [hr, Int.tmod_eq_emod_of_nonneg (by omega)]; rw [← hr]; exact IntWalk.i64_in _ (by omega)
                      have e3 : Int.tmod z p = r := by rw [hr]; exact Int.tmod_eq_emod_of_nonneg (by omega)
                      have HRR : Hid (r = r1'.getD j 0 * y % p) := Lib.hid (by rw [hr, hz, ha])
                      have HV2 := Lib.hid hv2
                      have l0 := Later.cell r0 (own_lt H.h0 g2 rfl)
                      have l1 := Later.cell r1 hb2
                      have HH := Lib.hid H
                      clear hv2 hel ha har hz hr H r0 r1 hmls hy5
                      go_wp2_with fail
                      refine wp_region_lqtail 17 (by kernel_rfl) (by kernel_rfl) ?_
                      simp only [List.take_succ_cons, List.take_zero, List.drop_succ_cons, List.drop_zero]
                      repeat (go_big_quiet_step ((fail)))
                      refine wpQuiet_nil ?_
                      intro w3 hw3
                      obtain ⟨u3, hu3⟩ := hw3
                      subst hu3
                      have H3 := Sep.later HH.out u3
                      have q1 := l1 u3
                      clear l0 l1 HH e1 e2 e3
                      generalize u3.w = w3 at *
                      have f1 : w3.frozen? ⟨b2, j, none⟩ = false := by
                        obtain ⟨b3, d3, hv3, _, _, _, f3⟩ := rows_at H3 HMS.out (by rw [List.length_set]; exact HML1.out) hkl hjl
                        rw [HV2.out] at hv3
                        injection hv3 with hv3
                        injection hv3 with e1
                        injection e1 with e1
                        injection e1 with e1
                        rw [e1]; exact f3
                      have hrow : (M1.set k (sclTo p y r1' j))[k]? = some (sclTo p y r1' j) := List.getElem?_set_self (by rw [← HML1.out]; exact hkl)
                      have H4 := (H3.g1.rowsSet (j := j) HV2.out hrow r).g1
                      have hst : (M1.set k (sclTo p y r1' j)).set k ((sclTo p y r1' j).set j r) = M1.set k (sclTo p y r1' (j + 1)) := by rw [List.set_set, sclTo, HRR.out]
                      rw [hst] at H4
                      clear H3 hrow hst
                      go_wp2
                      go_roundw
                      case rel => exact ⟨j + 1, by omega, by go_num, H4⟩
                      case measure => simp [intOf]; omega
                    · obtain rfl : n = j := by omega
                      obtain ⟨M2, hM2⟩ : ∃ M2, M2 = M1.set k (scl p y r1') := ⟨_, rfl⟩
                      have H4 : Sep w0 wr (ecL (.slice Ap k cp) (.slice (some ⟨g2, 0, none⟩) m ca) m vs1 (clrM p c k M2 0, S.2) k LL) := by
                        rw [clrM, hM2, ← sclTo_end, HRN.out]
                        exact H
                      have HML2 : Hid (m = M2.length) := Lib.hid (by rw [hM2, List.length_set]; exact HML1.out)
                      have HMK2 : Hid (Mok p n M2) := Lib.hid (by rw [hM2]; exact HMKX.out.set (by rw [(scl_ok (y := y) hp0).1]; exact HRN.out) (scl_ok (y := y) hp0).2)
                      have HSN : Hid (gjTo p M (c + 1) = (clrM p c k M2 m, S.2 ++ [c])) := Lib.hid (by
                        show gjS p c (gjTo p M c) = _
                        rw [← HS.out]
                        unfold gjS
                        rw [← HKL.out, HF.out, ← HML.out, if_pos hkl, if_pos HQL.out, ← HM1.out, ← HX.out, ← HY.out, ← HR1.out, hM2])
                      clear hM2 H
                      go_wp2
                      go_loopw [18] (fun iv wx => ∃ i : Nat, i ≤ m ∧ iv = .int .i64 i ∧ Sep w0 wx (ecL (.slice Ap k cp) (.slice (some ⟨g2, 0, none⟩) m ca) m vs1 (clrM p c k M2 i, S.2) k LL)) (fun iv _ => m - (intOf iv).toNat)
                      case atStart => exact ⟨0, Nat.zero_le _, rfl, H4⟩
                      case round =>
                        clear H4
                        obtain ⟨i, him, rfl, H⟩ := hrel
                        by_cases hil : i < m
                        · have hili : (i : Int) < (m : Int) := by omega
                          have HMI : Hid (Mok p n (clrM p c k M2 i)) := Lib.hid (clrM_ok hp0 HMK2.out (by rw [← HML2.out]; exact hkl) i (by rw [← HML2.out]; exact him))
                          obtain ⟨bi, di, hvi, hbi, r0, r1, _⟩ := rows_at H HMI.out.len (by rw [clrM_len]; exact HML2.out) hil hc
                          have hel : gel (clrM p c k M2 i) i c = gel M2 i c := clrM_gel (.inl (Nat.le_refl _))
                          rw [hel] at r1
                          obtain ⟨f, hf⟩ : ∃ f, f = gel M2 i c := ⟨_, rfl⟩
                          rw [← hf] at r1
                          have hfr := HMK2.out.el (i := i) (c := c) (by rw [← HML2.out]; exact hil) hc
                          rw [← hf] at hfr
                          have HFF := Lib.hid hf
                          obtain ⟨hf0, hfp⟩ := hfr
                          clear hel hf hvi
                          by_cases hik : i = k
                          · have hik1 : ((i : Int) == (k : Int)) = true := by simp; omega
                            have hik2 : ((i : Int) != (k : Int)) = false := by simp; omega
                            have HCI : Hid (clrM p c k M2 (i + 1) = clrM p c k M2 i) := Lib.hid (by rw [clrM, if_pos (.inl hik)])
                            have HIK := Lib.hid hik
                            clear hik HMI
                            obtain ⟨wo3, hwo3⟩ : ∃ wo, wo = wr := ⟨_, rfl⟩
                            subst hwo3
                            go_wp2
                            clear r0 r1
                            go_loopw [20] (fun dv wx => dv = .int .i64 0 ∧ wo3 = wx) (fun _ _ => 0)
                            case atStart => exact ⟨rfl, rfl⟩
                            case round =>
                              obtain ⟨rfl, rfl⟩ := hrel
                              go_wp2
                              go_roundw
                              case rel => exact ⟨i + 1, by omega, by go_num, by rw [HCI.out]; exact H⟩
                              case measure => simp [intOf]; omega
                          · have hik1 : ((i : Int) == (k : Int)) = false := by simp; omega
                            have hik2 : ((i : Int) != (k : Int)) = true := by simp; omega
                            have HIK := Lib.hid hik
                            have hil2 : i < M2.length := by rw [← HML2.out]; exact hil
                            have hkl2 : k < M2.length := by rw [← HML2.out]; exact hkl
                            obtain ⟨ri, hri⟩ : ∃ r, r = M2.getD i [] := ⟨_, rfl⟩
                            obtain ⟨rk, hrk⟩ : ∃ r, r = M2.getD k [] := ⟨_, rfl⟩
                            have HRI : Hid (ri = M2.getD i [] ∧ rk = M2.getD k [] ∧ ri.length = n ∧ rk.length = n) := Lib.hid ⟨hri, hrk, by rw [hri]; exact HMK2.out.len _ (getD_mem hil2), by rw [hrk]; exact HMK2.out.len _ (getD_mem hkl2)⟩
                            obtain ⟨M3, hM3⟩ : ∃ M3, M3 = clrM p c k M2 i := ⟨_, rfl⟩
                            have HML3 : Hid (m = M3.length) := Lib.hid (by rw [hM3, clrM_len]; exact HML2.out)
                            have HMK3 : Hid (Mok p n M3) := Lib.hid (by rw [hM3]; exact HMI.out)
                            have HG3 : Hid (M3.getD i [] = ri ∧ M3.getD k [] = rk) := Lib.hid ⟨by rw [hM3, clrM_row (.inl (Nat.le_refl _)), hri], by rw [hM3, clrM_row (.inr rfl), hrk]⟩
                            have HCI : Hid (M3.set i (clr p f ri rk) = clrM p c k M2 (i + 1)) := Lib.hid (by
                              rw [hM3, hri, hrk, HFF.out]
                              exact clrM_any HMK2.out hkl2 hil2 hik)
                            have he3 : clrM p c k M2 i = M3.set i (clrTo p f ri rk 0) := by
                              rw [clrTo, ← HG3.out.1, ← hM3]
                              obtain ⟨h1, h2⟩ := List.getElem?_eq_some_iff.1 (getD_get (M := M3) (t := i) (by rw [← HML3.out]; exact hil))
                              rw [← h2]; exact (List.set_getElem_self h1).symm
                            rw [he3] at H
                            clear he3 hM3 hri hrk hil2 hkl2 hik HMI
                            go_wp2
                            clear r0 r1
                            go_loopw [20] (fun dv wx => ∃ d : Nat, d ≤ n ∧ dv = .int .i64 d ∧ Sep w0 wx (ecL (.slice Ap k cp) (.slice (some ⟨g2, 0, none⟩) m ca) m vs1 (M3.set i (clrTo p f ri rk d), S.2) k LL)) (fun dv _ => n - (intOf dv).toNat)
                            case atStart => exact ⟨0, Nat.zero_le _, rfl, H⟩
                            case round =>
                              clear H
                              obtain ⟨d, hdj, rfl, H⟩ := hrel
                              by_cases hdl : d < n
                              · have hdi : (d : Int) < (n : Int) := by omega
                                have HMS : Hid (∀ r ∈ M3.set i (clrTo p f ri rk d), r.length = n) := Lib.hid fun r hr => (set_mem2 hr).elim (fun e => by rw [e, clrTo_len]; exact HRI.out.2.2.1) (HMK3.out.len r)
                                have hmls : m = (M3.set i (clrTo p f ri rk d)).length := by rw [List.length_set]; exact HML3.out
                                obtain ⟨b2, d2, hv2, hb2, s0, s1, _⟩ := rows_at H HMS.out hmls hil hdl
                                obtain ⟨b3, d3, hv3, hb3, t0, t1, _⟩ := rows_at H HMS.out hmls hkl hdl
                                have hel : gel (M3.set i (clrTo p f ri rk d)) i d = ri.getD d 0 := by rw [gel_set (by rw [← HML3.out]; exact hil), if_pos rfl, clrTo_next]
                                have hek : gel (M3.set i (clrTo p f ri rk d)) k d = rk.getD d 0 := by
                                  rw [gel_set (by rw [← HML3.out]; exact hil), if_neg (fun e => HIK.out e.symm), gel, HG3.out.2]
                                rw [hel] at s1
                                rw [hek] at t1
                                obtain ⟨a, ha⟩ : ∃ a, a = ri.getD d 0 := ⟨_, rfl⟩
                                obtain ⟨e, he⟩ : ∃ e, e = rk.getD d 0 := ⟨_, rfl⟩
                                have har : 0 ≤ a ∧ a < p := by
                                  have := HMK2.out.el (i := i) (c := d) (by rw [← HML2.out]; exact hil) hdl
                                  rw [ha, HRI.out.1]
                                  exact this
                                have her : 0 ≤ e ∧ e < p := by
                                  have := HMK2.out.el (i := k) (c := d) (by rw [← HML2.out]; exact hkl) hdl
                                  rw [he, HRI.out.2.1]
                                  exact this
                                rw [← ha] at s1
                                rw [← he] at t1
                                have hctw := clr_two HP.out ⟨hf0, hfp⟩ har her
                                obtain ⟨z, hzz⟩ : ∃ z, z = f * e := ⟨_, rfl⟩
                                have hz0 : 0 ≤ z ∧ z ≤ 16 := by
                                  have hy : f = 0 ∨ f = 1 ∨ f = 2 ∨ f = 3 ∨ f = 4 := by omega
                                  have hx : e = 0 ∨ e = 1 ∨ e = 2 ∨ e = 3 ∨ e = 4 := by omega
                                  rw [hzz]
                                  rcases hy with rfl | rfl | rfl | rfl | rfl <;> rcases hx with rfl | rfl | rfl | rfl | rfl <;> decide
                                rw [← hzz] at hctw
                                obtain ⟨d1, hd1⟩ : ∃ d1, d1 = a - z := ⟨_, rfl⟩
                                rw [← hd1] at hctw
                                obtain ⟨t, ht⟩ : ∃ t, t = Int.tmod d1 p := ⟨_, rfl⟩
                                have ht0 : -p < t := by rw [ht]; exact Int.lt_tmod_of_pos _ hp0
                                have ht1 : t < p := by rw [ht]; exact Int.tmod_lt_of_pos _ hp0
                                rw [← ht] at hctw
                                obtain ⟨s, hs⟩ : ∃ s, s = t + p := ⟨_, rfl⟩
                                rw [← hs] at hctw
                                obtain ⟨r, hr⟩ : ∃ r, r = Int.tmod s p := ⟨_, rfl⟩
                                have hr0 : 0 ≤ r := by rw [hr]; exact Int.tmod_nonneg _ (by omega)
                                have hr5 : r < p := by rw [hr]; exact Int.tmod_lt_of_pos _ hp0
                                rw [← hr] at hctw
                                have e0 : IntKind.i64.wrap (f * e) = z := by rw [← hzz]; exact IntWalk.i64_in _ (by omega)
                                have e1 : IntKind.i64.wrap (a - z) = d1 := by rw [← hd1]; exact IntWalk.i64_in _ (by omega)
                                have e2 : Int.tmod d1 p = t := ht.symm
                                have e2' : IntKind.i64.wrap (Int.tmod d1 p) = t := by rw [e2]; exact IntWalk.i64_in _ (by omega)
                                have e3 : IntKind.i64.wrap (t + p) = s := by rw [← hs]; exact IntWalk.i64_in _ (by omega)
                                have e4 : Int.tmod s p = r := hr.symm
                                have e4' : IntKind.i64.wrap (Int.tmod s p) = r := by rw [e4]; exact IntWalk.i64_in _ (by omega)
                                have hp2 : (p == 0) = false := by simp; omega
                                have HRR : Hid (r = (ri.getD d 0 + (p - f) * rk.getD d 0) % p) := Lib.hid (by rw [hctw, ha, he])
                                have HV2 := Lib.hid hv2
                                have l0 := Later.cell s0 (own_lt H.h0 g2 rfl)
                                have l1 := Later.cell s1 hb2
                                have l2 := Later.cell t0 (own_lt H.h0 g2 rfl)
                                have l3 := Later.cell t1 hb3
                                have HH := Lib.hid H
                                clear hv2 hv3 hel hek ha he har her hctw hzz hd1 ht hs hr H s0 s1 t0 t1 hmls
                                go_wp2_with fail
                                refine wp_region_lqtail 29 (by kernel_rfl) (by kernel_rfl) ?_
                                simp only [List.take_succ_cons, List.take_zero, List.drop_succ_cons, List.drop_zero]
                                repeat (go_big_quiet_step ((fail)))
                                refine wpQuiet_nil ?_
                                intro w3 hw3
                                obtain ⟨u3, hu3⟩ := hw3
                                subst hu3
                                have H3 := Sep.later HH.out u3
                                have qq := l1 u3
                                clear l0 l1 l2 l3 HH e0 e1 e2 e2' e3 e4 e4'
                                generalize u3.w = w3 at *
                                have f1 : w3.frozen? ⟨b2, d, none⟩ = false := by
                                  obtain ⟨b4, d4, hv4, _, _, _, f3⟩ := rows_at H3 HMS.out (by rw [List.length_set]; exact HML3.out) hil hdl
                                  rw [HV2.out] at hv4
                                  injection hv4 with hv4
                                  injection hv4 with e1
                                  injection e1 with e1
                                  injection e1 with e1
                                  rw [e1]; exact f3
                                have hrow : (M3.set i (clrTo p f ri rk d))[i]? = some (clrTo p f ri rk d) := List.getElem?_set_self (by rw [← HML3.out]; exact hil)
                                have H4 := (H3.g1.rowsSet (j := d) HV2.out hrow r).g1
                                have hst : (M3.set i (clrTo p f ri rk d)).set i ((clrTo p f ri rk d).set d r) = M3.set i (clrTo p f ri rk (d + 1)) := by rw [List.set_set, clrTo, HRR.out]
                                rw [hst] at H4
                                clear H3 hrow hst
                                go_wp2
                                go_roundw
                                case rel => exact ⟨d + 1, by omega, by go_num, H4⟩
                                case measure => simp [intOf]; omega
                              · have hdd : d = n := by omega
                                have hnd : ¬ (d : Int) < (n : Int) := by omega
                                have HCE : Hid (clrTo p f ri rk d = clr p f ri rk) := Lib.hid (by
                                  have := clrTo_end (p := p) (f := f) (a := ri) (b := rk) (by rw [HRI.out.2.2.1, HRI.out.2.2.2])
                                  rw [HRI.out.2.2.1] at this
                                  rw [hdd]; exact this)
                                clear hdd
                                go_wp2
                                go_roundw
                                case rel => exact ⟨i + 1, by omega, by go_num, by rw [← HCI.out, ← HCE.out]; exact H⟩
                                case measure => simp [intOf]; omega
                        · obtain rfl : m = i := by omega
                          have HPV : Hid (ic ((S.2 ++ [c]).map fun x : Nat => (x : Int)) = ic (S.2.map fun x : Nat => (x : Int)) ++ [.int .i64 (c : Int)]) := Lib.hid nle_append
                          have HKK : Hid (k + 1 = (clrM p c k M2 m, S.2 ++ [c]).2.length) := Lib.hid (by rw [List.length_append, ← HKL.out]; rfl)
                          have HKB : Hid (k + 1 ≤ 36) := Lib.hid (by
                            have h1 := (HK.out (c + 1)).2.2.2.1
                            rw [HSN.out, ← HKK.out] at h1
                            omega)
                          have hkb := HKB.out
                          go_wp2_with (at_builtin; refine wpList_app rfl _ _ 22 rfl 3 i0 _ 1 8 Tryz.underlying22 hi hz0 hz1 hz2 rfl (by decide) _ _ _ rfl ((Sep.g2 H).alloc _) _ _ _ [.int .i64 (c : Int)] rfl (Rd.fresh _ _ #[.int .i64 (c : Int)] 1 1 rfl) oc1 (by unfold maxLen; omega) (by omega) ?_; intro v9 w9 H9; clear H)
                          rw [← HPV.out] at H9
                          go_roundw
                          case rel => exact ⟨c + 1, k + 1, _, vs1, _, by omega, rfl, by go_num, Lib.hid HSN.out.symm, by omega, by omega, HKK, H9.p2⟩
                          case measure => simp [intOf]; omega
          · have hkli : ¬ (k : Int) < (m : Int) := by omega
            have HE : Hid (gjTo p M n = S) := Lib.hid (by
              have := gjTo_full (p := p) (M := M) (c := c) (by rw [← HS.out, ← HKL.out]; have := (HK.out c).2.1; rw [← HS.out] at this; rw [this, ← HM.out]; omega) (n - c)
              rw [show c + (n - c) = n by omega] at this
              rw [this, HS.out])
            go_wp2
            go_ret2
            exact RdPost.mk HE.out HKL.out (by rw [← HLL.out]; exact H)
        · obtain rfl : c = n := by omega
          go_wp2
          go_ret2
          exact RdPost.mk HS.out.symm HKL.out (by rw [← HLL.out]; exact H)
end Go.Proofs.YtldggeldabaodaaGreat
