
/-
  The recurrence of a square matrix: the walks of both sides.
-/
import Derived.Test.YtdbneilhgckhjaaDoorMatF
namespace Go.Proofs.YtdbneilhgckhjaaDoor
open Go.RowKit

def idRow (N i : Nat) : List Int := (List.replicate N 0).set i 1
def idP (N i : Nat) : List (List Int) := (List.range N).map fun r => if r < i then idRow N r else []
def idM (N : Nat) : List (List Int) := (List.range N).map (idRow N)
theorem idP_zero {N : Nat} : idP N 0 = List.replicate N [] := by
  apply List.ext_getElem?
  intro i
  by_cases h : i < N
  · simp [idP, h]
  · simp [idP, h]
theorem idP_put {N i : Nat} : (idP N i).set i (idRow N i) = idP N (i + 1) := by
  apply List.ext_getElem?
  intro r
  by_cases h : r < N
  · by_cases e : r = i
    · subst e
      rw [List.getElem?_set_self (by simp [idP, h])]
      simp [idP, h]
    · rw [List.getElem?_set_ne (fun h => e h.symm)]
      simp only [idP, List.getElem?_map, List.getElem?_range h, Option.map_some]
      by_cases hr : r < i
      · rw [if_pos hr, if_pos (by omega)]
      · rw [if_neg hr, if_neg (by omega)]
  · rw [List.getElem?_eq_none (by simp [idP]; omega), List.getElem?_eq_none (by simp [idP]; omega)]
theorem idP_full {N : Nat} : idP N N = idM N := by
  unfold idP idM
  apply List.map_congr_left
  intro r hr
  rw [if_pos (List.mem_range.1 hr)]
theorem idP_len {N i : Nat} : (idP N i).length = N := by simp [idP]
theorem idM_at {N i : Nat} (h : i < N) : (idM N)[i]? = some (idRow N i) := by simp [idM, h]
theorem idM_len {N : Nat} : (idM N).length = N := by simp [idM]
theorem idRow_len {N i : Nat} : (idRow N i).length = N := by simp [idRow]
theorem idM_row {N : Nat} : ∀ r ∈ idM N, r.length = N := by
  intro r hr
  obtain ⟨i, _, rfl⟩ := List.mem_map.1 hr
  exact idRow_len
/-- the diagonal's first k numbers less c -/
def subD (M : List (List Int)) (c : Int) (k : Nat) : List (List Int) := M.mapIdx fun i r => if i < k then r.set i (wr (r.getD i 0 - c)) else r
theorem subD_zero {M : List (List Int)} {c : Int} : subD M c 0 = M := by
  apply List.ext_getElem?
  intro i
  simp [subD]
theorem subD_len {M : List (List Int)} {c : Int} {k : Nat} : (subD M c k).length = M.length := by simp [subD]
theorem subD_at {M : List (List Int)} {c : Int} {k i : Nat} {r : List Int} (h : M[i]? = some r) : (subD M c k)[i]? = some (if i < k then r.set i (wr (r.getD i 0 - c)) else r) := by simp [subD, h]
theorem subD_put {M : List (List Int)} {c : Int} {k : Nat} {r : List Int} (h : M[k]? = some r) : (subD M c k).set k (r.set k (wr (r.getD k 0 - c))) = subD M c (k + 1) := by
  apply List.ext_getElem?
  intro i
  by_cases e : i = k
  · subst e
    have hl := (List.getElem?_eq_some_iff.1 h).1
    rw [List.getElem?_set_self (by rw [subD_len]; exact hl), subD_at h, if_pos (by omega)]
  · rw [List.getElem?_set_ne (fun h => e h.symm)]
    cases hr : M[i]? with
    | none => simp [subD, hr]
    | some q =>
      rw [subD_at hr, subD_at hr]
      by_cases hi : i < k
      · rw [if_pos hi, if_pos (by omega)]
      · rw [if_neg hi, if_neg (by omega)]
theorem subD_row {M : List (List Int)} {c : Int} {k N : Nat} (h : ∀ r ∈ M, r.length = N) : ∀ r ∈ subD M c k, r.length = N := by
  intro r hr
  obtain ⟨i, hi⟩ := List.getElem?_of_mem hr
  cases hq : M[i]? with
  | none => simp [subD, hq] at hi
  | some q =>
    rw [subD_at hq] at hi
    have := h q (List.mem_of_getElem? hq)
    injection hi with hi
    subst hi
    split <;> simp [this]
theorem mulM_len {A B : List (List Int)} : (mulM A B).length = A.length := by simp [mulM]
theorem mulM_row {A B : List (List Int)} {N : Nat} (h : B.length = N) : ∀ r ∈ mulM A B, r.length = N := by
  intro r hr
  obtain ⟨q, _, rfl⟩ := List.mem_map.1 hr
  rw [nextV_len, h]
def quoC (t : Int) (k : Nat) : Int := wrap64 (Int.tdiv t k)
/-- the method of Faddeev and Le Verrier: the matrix and the numbers behind k rounds -/
def charS (M : List (List Int)) (N : Nat) : Nat → List (List Int) × List Int
  | 0 => (idM N, [])
  | k + 1 => let X := mulM M (charS M N k).1; let c := quoC (trace X N) (k + 1); (subD X c N, (charS M N k).2 ++ [c])
theorem charS_len {M : List (List Int)} {N : Nat} (hl : M.length = N) : ∀ {k : Nat}, (charS M N k).1.length = N ∧ (∀ r ∈ (charS M N k).1, r.length = N) ∧ (charS M N k).2.length = k
  | 0 => ⟨idM_len, idM_row, rfl⟩
  | k + 1 => by
    have ih := charS_len (N := N) hl (k := k)
    refine ⟨by simp only [charS]; rw [subD_len, mulM_len]; exact hl, ?_, by simp [charS, ih.2.2]⟩
    simp only [charS]
    exact subD_row (mulM_row ih.1)
theorem Sep.rowsNils {w0 w : World} {L : List Res} (h : Sep w0 w L) (N : Nat) : Sep w0 w (Res.rows (List.replicate N (.slice none 0 0)) (List.replicate N []) :: L) :=
  h.new (Below.refl _ _) ⟨by simp, fun i u r hu hr => by
    have hu := List.eq_of_mem_replicate (List.mem_of_getElem? hu)
    have hr := List.eq_of_mem_replicate (List.mem_of_getElem? hr)
    subst hu hr
    exact World.ownsRow_nil _ _ _ _, fun i j u u' _ hu _ b hb => by
    have hu := List.eq_of_mem_replicate (List.mem_of_getElem? hu)
    subst hu
    simp [Value.ownBlock] at hb⟩ (fun b ⟨u, hu, hb⟩ => by
    have hu := List.eq_of_mem_replicate hu
    subst hu
    simp [Value.ownBlock] at hb)
theorem made_nils {n : Nat} : (madeCells (#[.slice none 0 0] : Array Value) n).toList = List.replicate n (.slice none 0 0) := by rw [toList_madeCells_one]

set_option maxRecDepth 100000 in
set_option maxHeartbeats 3200000 in
theorem impl_char_c {v : Value} {M : List (List Int)} {N : Nat} (w : World) (h : IntSSRd w 0 w.heap.size v M) (hN1 : 1 ≤ N) (hN : N ≤ 8) (hl : M.length = N) (hr : ∀ r ∈ M, r.length = N) (hb : ∀ r ∈ M, ∀ x ∈ r, 0 ≤ x ∧ x ≤ 20) :
    Calls Tryd.prog 67 #[v] w fun e w' => ∃ v', e = .returned (.tuple #[v', .bool true]) ∧ IntsIn w' w.heap.size w'.heap.size v' (charS M N N).2 ∧ Below w.heap.size w w' := by
  obtain ⟨i0, hi, hz0, hz1, hz2⟩ := info_parts infoIntM
  obtain ⟨j0, hj, y0, y1, y2⟩ := info_parts infoIntsM
  have HSQ := Lib.hid (impl_square_c 8 20 w h hN1 hN (by decide) hl hr hb)
  have HM := Lib.hid h
  have Hl := Lib.hid hl
  have Hr := Lib.hid hr
  have hmk := fun W => run_make_rowN (P := Tryd.prog) 24 3 i0 _ Tryd.underlying24 hi hz0 .i64 .i64 N N (Nat.le_refl _) (by rw [hz2]; omega) (by omega) W
  rw [hz1, Nat.mul_one] at hmk
  change ∀ W : World, _ = Result.ok _ (W.alloc (.cells (madeCells #[.int .i64 0] N) 3)) at hmk
  have hmk2 := fun W => run_make_rowN (P := Tryd.prog) 61 24 j0 _ Tryd.underlying61 hj y0 .i64 .i64 N N (Nat.le_refl _) (by rw [y2]; omega) (by omega) W
  rw [y1, Nat.mul_one] at hmk2
  change ∀ W : World, _ = Result.ok _ (W.alloc (.cells (madeCells #[.slice none 0 0] N) 24)) at hmk2
  obtain ⟨A, c, hv⟩ : ∃ A c, v = .slice A N c := by
    obtain ⟨vs, ⟨A, c, rfl, _⟩, _⟩ := h
    exact ⟨A, c, by rw [hl]⟩
  subst hv
  clear h hl hr hb
  go_enter Tryd.func67, Tryd.ntmps67
  go_wp2_with fail
  refine (HSQ.out).mono ?_
  rintro e w1 ⟨rfl, b1⟩
  have H0 := ((Sep.start w).step b1).rowsNils N
  have H1 := H0.rowBox 24 (madeCells #[.slice none 0 0] N) 1 N (by rw [size_madeCells, Nat.mul_one]) (by unfold maxLen; omega)
  rw [made_nils, ← idP_zero] at H1
  clear H0 HSQ b1
  obtain ⟨g, hg⟩ : ∃ g, g = w1.heap.size := ⟨_, rfl⟩
  go_wp2_with fail
  rw [← hg] at H1 ⊢
  generalize w1.alloc (.cells (madeCells (#[.slice none 0 0] : Array Value) N) 24) = W at *
  clear hg
  go_loopw [20] (fun iv wx => ∃ (i : Nat) (us : List Value), i ≤ N ∧ iv = .int .i64 i ∧ Sep w wx [Res.row (.slice (some ⟨g, 0, none⟩) N N) 24 1 N us, Res.rows us (idP N i)]) (fun iv _ => N - (intOf iv).toNat)
  case atStart => exact ⟨0, _, Nat.zero_le _, rfl, H1⟩
  case round =>
    clear H1
    obtain ⟨i, us, hiN, rfl, H⟩ := hrel
    have hus : us.length = N := (RowsAt.len H.h1).trans idP_len
    by_cases hlt : i < N
    · obtain ⟨gi, hgi⟩ : ∃ gi, gi = wr.heap.size := ⟨_, rfl⟩
      have H1 := (H.rowBox 3 (madeCells #[.int .i64 0] N) 1 N (by rw [size_madeCells, Nat.mul_one]) (by unfold maxLen; omega)).g1
      rw [made_ints, ← hgi] at H1
      have f1 := own_free H1.h0 i
      obtain ⟨ui, hui0⟩ : ∃ ui, us[i]? = some ui := ⟨us[i]'(by rw [hus]; exact hlt), List.getElem?_eq_getElem _⟩
      have k1 := own_cell H1.h0 hui0
      have H2 := H1.setRow (j := i) (by rw [hus]; exact hlt) (.slice (some ⟨gi, 0, none⟩) N N)
      rw [Nat.zero_add] at f1 k1 H2
      have hui : (us.set i (.slice (some ⟨gi, 0, none⟩) N N))[i]? = some (.slice (some ⟨gi, 0, none⟩) N N) := List.getElem?_set_self (by rw [hus]; exact hlt)
      have hri : ((idP N i).set i (List.replicate N 0))[i]? = some (List.replicate N 0) := List.getElem?_set_self (by rw [idP_len]; exact hlt)
      have HUI := Lib.hid hui
      have HRI := Lib.hid hri
      clear H H1 hui0 hui hri hus
      go_upto_region 9 with fail
      rw [← hgi]
      generalize (wr.alloc (.cells (madeCells #[.int .i64 0] N) 3)).setCell ⟨g, i, none⟩ (.slice (some ⟨gi, 0, none⟩) N N) = W2 at *
      clear f1 k1 hgi
      have k2 := own_cell H2.h0 HUI.out
      have f2 := own_free H2.h1 i
      have k3 := own_cell1 H2.h1 (j := i) (u := 0) (by rw [List.getElem?_replicate, if_pos hlt])
      rw [Nat.zero_add] at k2 f2 k3
      have H3 := (H2.g1.g2.rowsPut (by rw [List.length_replicate]) i).rowsSet HUI.out HRI.out (j := i) 1
      have hst : ((idP N i).set i (List.replicate N 0)).set i ((List.replicate N 0).set i 1) = idP N (i + 1) := by rw [List.set_set]; exact idP_put
      rw [hst] at H3
      have H4 := H3.p1
      clear H2 H3 hst
      go_wp2
      clear k2 k3 f2
      go_roundw
      case rel => exact ⟨i + 1, _, by omega, by go_num, H4⟩
      case measure => simp [intOf]; omega
    · obtain rfl : i = N := by omega
      rw [idP_full] at H
      clear hus
      have H0 := H.nil 3 1
      clear H
      go_wp2
      go_loopw [5, 7, 8] (fun pv ov kv wx => ∃ (k j : Nat) (us : List Value), Hid (j = k + 1) ∧ 1 ≤ j ∧ j ≤ i + 1 ∧ kv = .int .i64 j ∧ Sep w wx [Res.row ov 3 1 k (ic (charS M i k).2), Res.row pv 24 1 i us, Res.rows us (charS M i k).1]) (fun _ _ kv _ => i + 1 - (intOf kv).toNat)
      case atStart => exact ⟨0, 1, _, Lib.hid rfl, Nat.le_refl _, by omega, rfl, H0⟩
      case round =>
        clear H0
        obtain ⟨k, j, vs, HJ, hj1, hjN, rfl, H⟩ := hrel
        by_cases hlt : j < i + 1
        · obtain ⟨P, hP⟩ : ∃ P, P = (charS M i k).1 := ⟨_, rfl⟩
          obtain ⟨C, hC⟩ : ∃ C, C = (charS M i k).2 := ⟨_, rfl⟩
          have hcl := charS_len (N := i) Hl.out (k := k)
          have HS1 : Hid ((charS M i (k + 1)).1 = subD (mulM M P) (quoC (trace (mulM M P) i) j) i) := Lib.hid (by rw [hP, HJ.out]; rfl)
          have HS2 : Hid ((charS M i (k + 1)).2 = C ++ [quoC (trace (mulM M P) i) j]) := Lib.hid (by rw [hP, hC, HJ.out]; rfl)
          rw [← hP, ← hC] at H hcl
          have HPR := Lib.hid (impl_product_c wr ((HM.out.keep (SameIn.of_below H.below (Nat.le_refl _))).more (Nat.le_refl _) H.below.size) (H.drop.ssRd hcl.1.symm) hN1 (by omega) Hl.out hcl.1 Hr.out hcl.2.1)
          obtain ⟨X, hX⟩ : ∃ X, X = mulM M P := ⟨_, rfl⟩
          have hXl : X.length = i := by rw [hX, mulM_len]; exact Hl.out
          have hXr : ∀ r ∈ X, r.length = i := by rw [hX]; exact mulM_row hcl.1
          have HCL : Hid (C.length = k) := Lib.hid hcl.2.2
          rw [← hX] at HS1 HS2 HPR
          have HXl := Lib.hid hXl
          have HXr := Lib.hid hXr
          clear hP hC hX hcl hXl hXr
          obtain ⟨Ap, cp, rfl, _, _, _⟩ := Res.row_at H.h1
          go_wp2_with fail
          refine (HPR.out).mono ?_
          rintro e w2 ⟨v2, us2, rfl, HP⟩
          have H2 := (Sep.join HP H).g4.drop.g3.drop
          clear HP HPR H
          have HDG := Lib.hid (impl_diagonal_c w2 (H2.ssRd HXl.out.symm) hN1 (by omega) HXl.out HXr.out)
          obtain ⟨t, ht⟩ : ∃ t, t = trace X i := ⟨_, rfl⟩
          rw [← ht] at HDG HS1 HS2
          obtain ⟨g2, o2, c2, rfl, _, _, _⟩ := own_shape H2.h0 (by omega)
          obtain ⟨rfl, _⟩ := own_blk H2.h0
          clear ht
          go_wp2_with fail
          refine (HDG.out).mono ?_
          rintro e w3 ⟨rfl, b3⟩
          have H3 := H2.step b3
          clear H2 HDG b3
          have hj0 : ((j : Int) == 0) = false := by simp; omega
          have hqq : quoC t j = wrap64 (t.tdiv (j : Int)) := rfl
          rw [hqq] at HS1 HS2
          go_wp2_with (at_builtin; refine wpList_app rfl _ _ 24 rfl 3 i0 _ 1 8 Tryd.underlying24 hi hz0 hz1 hz2 rfl (by decide) _ _ _ rfl (H3.g2.alloc _) _ _ _ [.int .i64 (wrap64 (t.tdiv (j : Int)))] rfl (Rd.fresh w3 _ #[.int .i64 (wrap64 (t.tdiv (j : Int)))] 1 1 rfl) oc1 (by have := HJ.out; unfold maxLen; omega) (by have := HJ.out; omega) ?_; intro v4 w4 H4; clear H3)
          clear hj0 hqq
          generalize wrap64 (t.tdiv (j : Int)) = q at *
          have hicq : ic C ++ [Value.int .i64 q] = ic (charS M i (k + 1)).2 := by rw [HS2.out, ic_append]; rfl
          rw [hicq] at H4
          rw [← subD_zero (M := X) (c := q)] at H4
          clear hicq
          go_loopw [53] (fun iv wx => ∃ m : Nat, m ≤ i ∧ iv = .int .i64 m ∧ Sep w wx [Res.row v4 3 1 (k + 1) (ic (charS M i (k + 1)).2), Res.row (.slice (some ⟨g2, 0, none⟩) i c2) 24 1 i us2, Res.rows us2 (subD X q m)]) (fun iv _ => i - (intOf iv).toNat)
          case atStart => exact ⟨0, Nat.zero_le _, rfl, H4⟩
          case round =>
            clear H4
            obtain ⟨m, hmi, rfl, H⟩ := hrel
            by_cases hlm : m < i
            · obtain ⟨r, hr⟩ : ∃ r, X[m]? = some r := ⟨X[m]'(by rw [HXl.out]; exact hlm), List.getElem?_eq_getElem _⟩
              have hrl := HXr.out r (List.mem_of_getElem? hr)
              have hsr : (subD X q m)[m]? = some r := by rw [subD_at hr, if_neg (Nat.lt_irrefl m)]
              have hul : us2.length = i := (RowsAt.len H.h2).trans (subD_len.trans HXl.out)
              obtain ⟨u, hu⟩ : ∃ u, us2[m]? = some u := ⟨us2[m]'(by rw [hul]; exact hlm), List.getElem?_eq_getElem _⟩
              obtain ⟨gu, cu, rfl, _, _, _, hfr, hcu⟩ := RowsAt.shape H.h2 hu hsr (by omega)
              obtain ⟨x, hx⟩ : ∃ x, r[m]? = some x := ⟨r[m]'(by rw [hrl]; exact hlm), List.getElem?_eq_getElem _⟩
              have x1 := own_cell H.h1 hu
              have x2 := hcu m x hx
              have x3 := hfr m
              have H1 := (H.g2.rowsSet hu hsr (j := m) (wrap64 (x - q))).p2
              have hst : (subD X q m).set m (r.set m (wrap64 (x - q))) = subD X q (m + 1) := by rw [← subD_put hr, getD_get hx]; rfl
              rw [hst] at H1
              rw [Nat.zero_add, hrl] at x1
              clear H hr hsr hul hu hfr hcu hx hst hrl
              go_wp2
              clear x1 x2 x3
              go_roundw
              case rel => exact ⟨m + 1, by omega, by go_num, H1⟩
              case measure => simp [intOf]; omega
            · obtain rfl : m = i := by omega
              rw [← HS1.out] at H
              go_wp2
              go_roundw
              case rel => exact ⟨k + 1, j + 1, us2, Lib.hid (by rw [HJ.out]), by omega, by omega, by go_num, H⟩
              case measure => simp [intOf]; omega
        · have hk := HJ.out
          obtain rfl : k = i := by omega
          have HL : Hid (k = (charS M k k).2.length) := Lib.hid ((charS_len (N := k) Hl.out (k := k)).2.2).symm
          have hd : ¬ j ≤ k := by omega
          clear hk hlt hjN hj1
          go_wp2
          refine bodyPost_ret (results_tmp2 rfl _ _ _) rfl ?_
          have HO : IntsIn wr w.heap.size wr.heap.size u7 (charS M k k).2 := by unfold IntsIn; rw [← HL.out]; exact H.oi
          exact ⟨_, rfl, HO, H.below⟩
end Go.Proofs.YtdbneilhgckhjaaDoor
