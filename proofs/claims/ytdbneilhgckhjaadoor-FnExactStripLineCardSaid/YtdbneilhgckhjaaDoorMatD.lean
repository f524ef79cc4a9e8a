
/-
  Strips: how many tilings: the walks of both sides.
-/
import Derived.Test.YtdbneilhgckhjaaDoorMatB
namespace Go.Proofs.YtdbneilhgckhjaaDoor
open Go.RowKit

/-- the counts behind k rows -/
def stripV (wd : Nat) : Nat → List Int
  | 0 => (List.replicate (2 ^ wd) 0).set 0 1
  | k + 1 => nextV (domMat wd) (stripV wd k)
def stripN (wd k : Nat) : Int := (stripV wd k).getD 0 0
def stripL (wd n : Nat) : List Int := (List.range (n + 1)).map (stripN wd)
theorem stripV_len {wd : Nat} : ∀ {k : Nat}, (stripV wd k).length = 2 ^ wd
  | 0 => by simp [stripV]
  | k + 1 => by rw [stripV, nextV_len, domMat_len]
theorem stripV_head {wd k : Nat} : (stripV wd k)[0]? = some (stripN wd k) := by
  have : 0 < (stripV wd k).length := by rw [stripV_len]; exact Nat.pow_pos (by decide)
  rw [List.getElem?_eq_getElem this, stripN, List.getD_eq_getElem?_getD, List.getElem?_eq_getElem this]; rfl
theorem stripL_len {wd n : Nat} : (stripL wd n).length = n + 1 := by simp [stripL]
theorem stripL_take {wd n k : Nat} (h : k ≤ n) : ic ((stripL wd n).take k) ++ [Value.int .i64 (stripN wd k)] = ic ((stripL wd n).take (k + 1)) := by
  rw [List.take_add_one, ic_append, stripL, List.getElem?_map, List.getElem?_range (by omega)]; rfl
theorem made_one {N : Nat} : ((madeCells (#[.int .i64 0] : Array Value) N).setIfInBounds 0 (.int .i64 1)).toList = ic ((List.replicate N 0).set 0 1) := by rw [Array.toList_setIfInBounds, made_ints, ic_set]

set_option maxRecDepth 100000 in
set_option maxHeartbeats 1600000 in
theorem spec_strip_c (wd n : Nat) (w : World) (h1 : 1 ≤ wd) (hw : wd ≤ 4) (hn : n ≤ 16) :
    Calls Tryd.prog 17 #[.int .i64 wd, .int .i64 n] w fun e w' => ∃ v, e = .returned v ∧ IntsIn w' w.heap.size w'.heap.size v (stripL wd n) ∧ Below w.heap.size w w' := by
  obtain ⟨i0, hi, hz0, hz1, hz2⟩ := info_parts infoIntM
  have hN16 := pow_small hw
  have hNp : 0 < 2 ^ wd := Nat.pow_pos (by decide)
  have HTR := Lib.hid (spec_trans_c wd w h1 hw)
  have HVL : Hid (∀ k, (stripV wd k).length = 2 ^ wd) := Lib.hid fun k => stripV_len
  obtain ⟨N, hN⟩ : ∃ N, N = 2 ^ wd := ⟨_, rfl⟩
  rw [← hN] at hN16 hNp HTR HVL
  have hMl : (domMat wd).length = N := by rw [domMat_len, hN]
  have HMr : Hid (∀ r ∈ domMat wd, r.length = N) := Lib.hid (by
    intro r hr
    obtain ⟨a, _, rfl⟩ := List.mem_map.1 hr
    rw [domRow_len, hN])
  have HN := Lib.hid hN
  have hmk := fun W => run_make_rowN (P := Tryd.prog) 24 3 i0 _ Tryd.underlying24 hi hz0 .i64 .i64 N N (Nat.le_refl _) (by rw [hz2]; omega) (by omega) W
  rw [hz1, Nat.mul_one] at hmk
  change ∀ W : World, _ = Result.ok _ (W.alloc (.cells (madeCells #[.int .i64 0] N) 3)) at hmk
  have hin : inW (n : Int) 0 16 = true := inW_iff.2 ⟨by omega, by omega⟩
  clear hN
  go_enter Tryd.func17, Tryd.ntmps17
  go_wp2_with fail
  refine (HTR.out).mono ?_
  rintro e w1 ⟨vm, vs, rfl, HM⟩
  obtain ⟨bM, oM, cM, rfl, hbM, HS⟩ := (HM.ssRd hMl.symm).shape (by omega)
  rw [hMl]
  have HS := Lib.hid HS
  have HB := Lib.hid HM.below
  have H0 := (Sep.start w1).rowBox 3 #[] 1 0 rfl (by decide)
  have e0 : ((madeCells (#[.int .i64 0] : Array Value) N).setIfInBounds 0 (.int .i64 1)).toList = ic (stripV wd 0) := by rw [made_one, HN.out]; rfl
  have H1 := H0.rowBox 3 ((madeCells (#[.int .i64 0] : Array Value) N).setIfInBounds 0 (.int .i64 1)) 1 N (by simp [size_madeCells]) (by unfold maxLen; omega)
  rw [e0] at H1
  have q0 : (madeCells (#[.int .i64 0] : Array Value) N)[0]? = some (.int .i64 0) := by
    rw [← Array.getElem?_toList, made_ints]
    exact ic_at (by rw [List.getElem?_replicate, if_pos (by omega)])
  clear HM HTR H0 e0
  go_wp2_with (go_at_call 59; refine (l1In_w _ _ _ _).mono ?_; rintro e w' ⟨rfl, rfl⟩)
  clear hin q0
  simp only [World.size_alloc] at H1
  generalize (w1.alloc (.cells #[] 3)).alloc (.cells ((madeCells (#[.int .i64 0] : Array Value) N).setIfInBounds 0 (.int .i64 1)) 3) = W at *
  go_loopw [7, 8, 9] (fun ov vv kv wx => ∃ k : Nat, k ≤ n + 1 ∧ kv = .int .i64 k ∧ Sep w1 wx [Res.row vv 3 1 N (ic (stripV wd k)), Res.row ov 3 1 k (ic ((stripL wd n).take k))]) (fun _ _ kv _ => n + 1 - (intOf kv).toNat)
  case atStart => exact ⟨0, Nat.zero_le _, rfl, H1⟩
  case round =>
    clear H1
    obtain ⟨k, hkn, rfl, H⟩ := hrel
    by_cases hlt : k < n + 1
    · obtain ⟨v, hv⟩ : ∃ v, v = stripV wd k := ⟨_, rfl⟩
      obtain ⟨x, hx⟩ : ∃ x, x = stripN wd k := ⟨_, rfl⟩
      have hx0 : v[0]? = some x := by rw [hv, hx]; exact stripV_head
      have HT := stripL_take (wd := wd) (n := n) (k := k) (by omega)
      have HX : nextV (domMat wd) v = stripV wd (k + 1) := by rw [hv]; rfl
      have hvl := HVL.out k
      rw [← hx] at HT
      rw [← hv] at H hvl
      have HT := Lib.hid HT
      have HX := Lib.hid HX
      have HVV := Lib.hid hvl
      clear hv hx
      obtain ⟨gv, ov, cv, rfl, hcv, hcm, hgv⟩ := own_shape H.h0 hNp
      obtain ⟨rfl, _⟩ := own_blk H.h0
      have x0 := own_cell1 H.h0 hx0
      clear hx0 hvl
      go_wp2_with (at_builtin; refine wpList_app rfl _ _ 24 rfl 3 i0 _ 1 8 Tryd.underlying24 hi hz0 hz1 hz2 rfl (by decide) _ _ _ rfl (H.g1.alloc _) _ _ _ [.int .i64 x] rfl (Rd.fresh wr _ #[.int .i64 x] 1 1 rfl) oc1 (by unfold maxLen; omega) (by omega) ?_; intro v2 w2 H2; clear H x0)
      rw [HT.out] at H2
      have H3 := H2.rowBox 3 (madeCells #[.int .i64 0] N) 1 N (by rw [size_madeCells, Nat.mul_one]) (by unfold maxLen; omega)
      rw [made_ints, ← dotRow_zero (v := v) (M := domMat wd) (f := fun _ => 0) (fun _ _ => rfl)] at H3
      clear H2 HT
      generalize w2.alloc (.cells (madeCells (#[.int .i64 0] : Array Value) N) 3) = W2 at *
      obtain ⟨g, hg⟩ : ∃ g, g = w2.heap.size := ⟨_, rfl⟩
      rw [← hg] at H3 ⊢
      clear hg
      go_loopw [11] (fun av wx => ∃ a : Nat, a ≤ N ∧ av = .int .i64 a ∧ Sep w1 wx [Res.row (.slice (some ⟨g, 0, none⟩) N N) 3 1 N (ic (dotRow N v (domMat wd) fun _ => a)), Res.row v2 3 1 (k + 1) (ic ((stripL wd n).take (k + 1))), Res.row (.slice (some ⟨gv, 0, none⟩) N cv) 3 1 N (ic v)]) (fun av _ => N - (intOf av).toNat)
      case atStart => exact ⟨0, Nat.zero_le _, rfl, H3⟩
      case round =>
        clear H3
        obtain ⟨a, haN, rfl, H⟩ := hrel
        by_cases hla : a < N
        · obtain ⟨q, hq⟩ : ∃ q, (domMat wd)[a]? = some q := ⟨(domMat wd)[a]'(by rw [hMl]; exact hla), List.getElem?_eq_getElem _⟩
          have hql := HMr.out q (List.mem_of_getElem? hq)
          obtain ⟨gq, oq, cq, xq, hgq, HQ⟩ := HS.out a q hq (by omega)
          rw [hql] at xq
          obtain ⟨y, hy⟩ : ∃ y, v[a]? = some y := ⟨v[a]'(by rw [HVV.out]; exact hla), List.getElem?_eq_getElem _⟩
          have HQ := Lib.hid HQ
          have HQL := Lib.hid hql
          have HQB := Lib.hid hq
          have HAA := Lib.hid hy
          have H1 : Sep w1 wr [Res.row (.slice (some ⟨g, 0, none⟩) N N) 3 1 N (ic (dotRow N v (domMat wd) fun c => if c < 0 then a + 1 else a)), Res.row v2 3 1 (k + 1) (ic ((stripL wd n).take (k + 1))), Res.row (.slice (some ⟨gv, 0, none⟩) N cv) 3 1 N (ic v)] := H
          clear H hq hql hy
          go_wp2
          go_loopw [12] (fun bv wx => ∃ b : Nat, b ≤ N ∧ bv = .int .i64 b ∧ Sep w1 wx [Res.row (.slice (some ⟨g, 0, none⟩) N N) 3 1 N (ic (dotRow N v (domMat wd) fun c => if c < b then a + 1 else a)), Res.row v2 3 1 (k + 1) (ic ((stripL wd n).take (k + 1))), Res.row (.slice (some ⟨gv, 0, none⟩) N cv) 3 1 N (ic v)]) (fun bv _ => N - (intOf bv).toNat)
          case atStart => exact ⟨0, Nat.zero_le _, rfl, H1⟩
          case round =>
            clear H1
            obtain ⟨b, hbN, rfl, H⟩ := hrel
            by_cases hlb : b < N
            · obtain ⟨z, hz⟩ : ∃ z, q[b]? = some z := ⟨q[b]'(by rw [HQL.out]; exact hlb), List.getElem?_eq_getElem _⟩
              have xz := HQ.out b z hz
              have hdj := dotRow_at (v := v) (M := domMat wd) (f := fun c => if c < b then a + 1 else a) hlb
              simp only [Nat.lt_irrefl, if_false] at hdj
              obtain ⟨d, hd⟩ : ∃ d, d = dot v (domMat wd) b a := ⟨_, rfl⟩
              have hbel := H.below
              have x1 := own_cell1 H.h0 hdj
              rw [Nat.zero_add, ← hd] at x1
              have x2 := (hbel.cell (p := ⟨bM, oM + a, none⟩) hbM).trans xq
              have x3 := own_cell1 H.h2 HAA.out
              rw [Nat.zero_add] at x3
              have x5 := (hbel.cell (p := ⟨gq, oq + b, none⟩) hgq).trans xz
              have x6 := own_free H.drew.h0 b
              rw [Nat.zero_add] at x6
              have HD : Hid (dot v (domMat wd) b (a + 1) = wrap64 (d + wrap64 (y * z))) := Lib.hid (by
                rw [hd, dot, getD_get HAA.out, at2_get HQB.out hz]; rfl)
              have H1 := H.drew.setRow (j := b) (by rw [ic_length, dotRow_len]; exact hlb) (.int .i64 (wrap64 (d + wrap64 (y * z))))
              rw [ic_set, ← HD.out, Nat.zero_add] at H1
              rw [dotRow_put (g := fun c => if c < b + 1 then a + 1 else a) (ite_up b a) (by simp)] at H1
              clear H hz hdj hd hbel
              go_wp2_with fail
              refine wp_region_stq 20 (by kernel_rfl) (by kernel_rfl) ?_
              simp only [List.take_succ_cons, List.take_zero, List.drop_succ_cons, List.drop_zero]
              repeat (first | go_big_quiet_skip | (go_big_quiet_want; go_big_quiet_op; first | go_big_quiet_on | (apply Exists.intro; refine ⟨?_, ?_⟩; focus (fail); go_big_quiet_on)))
              refine wpQuiet_nil ?_
              go_wp2
              clear x1 x2 x3 x5 x6 xz
              go_roundw
              case rel => exact ⟨b + 1, by omega, by go_num, by rw [HD.out] at H1; exact H1⟩
              case measure => simp [intOf]; omega
            · obtain rfl : b = N := by omega
              rw [dotRow_congr (f := fun _ => a + 1) (fun d hd => if_pos hd)] at H
              go_wp2
              go_roundw
              case rel => exact ⟨a + 1, by omega, by go_num, H⟩
              case measure => simp [intOf]; omega
        · obtain rfl : a = N := by omega
          have e1 : dotRow a v (domMat wd) (fun _ => a) = stripV wd (k + 1) := by rw [← HX.out]; unfold nextV; rw [hMl]
          rw [e1] at H
          have H4 := H.g2.drop
          clear e1 H
          go_wp2
          go_roundw
          case rel => exact ⟨k + 1, by omega, by go_num, H4⟩
          case measure => simp [intOf]; omega
    · obtain rfl : k = n + 1 := by omega
      rw [List.take_of_length_le (by rw [stripL_len]; exact Nat.le_refl _)] at H
      have HL : n + 1 = (stripL wd n).length := stripL_len.symm
      have H5 := Sep.join H.g1 (L := []) HB.out
      clear H
      go_wp2
      go_ret
      have HO : IntsIn wr w.heap.size wr.heap.size u7 (stripL wd n) := by unfold IntsIn; rw [← HL]; exact H5.oi
      exact ⟨_, rfl, HO, H5.below⟩

set_option maxRecDepth 100000 in
set_option maxHeartbeats 1600000 in
theorem impl_count_c (wd n : Nat) (w : World) (h1 : 1 ≤ wd) (hw : wd ≤ 4) (hn : n ≤ 16) :
    Calls Tryd.prog 63 #[.int .i64 wd, .int .i64 n] w fun e w' => e = .returned (.int .i64 (stripN wd n)) ∧ Below w.heap.size w w' := by
  obtain ⟨i0, hi, hz0, hz1, hz2⟩ := info_parts infoIntM
  have hs1 := shl_small hw
  have hN16 := pow_small hw
  have hNp : 0 < 2 ^ wd := Nat.pow_pos (by decide)
  have HVL : Hid (∀ k, (stripV wd k).length = 2 ^ wd) := Lib.hid fun k => stripV_len
  have HDC : Hid (∀ (a : Nat) (w : World), a < 2 ^ wd → Calls Tryd.prog 84 #[.int .i64 wd, .int .i64 a] w fun e w' => ∃ v', e = .returned v' ∧ IntsIn w' w.heap.size w'.heap.size v' (domRow wd a) ∧ Below w.heap.size w w') := Lib.hid fun a w ha => impl_dom_c wd a w h1 hw ha
  have HMat : Hid (∀ a, a < 2 ^ wd → (domMat wd)[a]? = some (domRow wd a)) := Lib.hid fun a => domMat_at
  obtain ⟨N, hN⟩ : ∃ N, N = 2 ^ wd := ⟨_, rfl⟩
  rw [← hN] at hs1 hN16 hNp HVL HDC HMat
  have hMl : (domMat wd).length = N := by rw [domMat_len, hN]
  have HML := Lib.hid hMl
  have HRL : Hid (∀ a, (domRow wd a).length = N) := Lib.hid fun a => by rw [domRow_len, hN]
  have HN := Lib.hid hN
  have hmk := fun W => run_make_rowN (P := Tryd.prog) 24 3 i0 _ Tryd.underlying24 hi hz0 .i64 .i64 N N (Nat.le_refl _) (by rw [hz2]; omega) (by omega) W
  rw [hz1, Nat.mul_one] at hmk
  change ∀ W : World, _ = Result.ok _ (W.alloc (.cells (madeCells #[.int .i64 0] N) 3)) at hmk
  have e0 : ((madeCells (#[.int .i64 0] : Array Value) N).setIfInBounds 0 (.int .i64 1)).toList = ic (stripV wd 0) := by rw [made_one, HN.out]; rfl
  have H1 := (Sep.start w).rowBox 3 ((madeCells (#[.int .i64 0] : Array Value) N).setIfInBounds 0 (.int .i64 1)) 1 N (by simp [size_madeCells]) (by unfold maxLen; omega)
  rw [e0] at H1
  have q0 : (madeCells (#[.int .i64 0] : Array Value) N)[0]? = some (.int .i64 0) := by
    rw [← Array.getElem?_toList, made_ints]
    exact ic_at (by rw [List.getElem?_replicate, if_pos (by omega)])
  clear hN hMl e0
  go_enter Tryd.func63, Tryd.ntmps63
  go_wp2
  clear q0
  generalize w.alloc (.cells ((madeCells (#[.int .i64 0] : Array Value) N).setIfInBounds 0 (.int .i64 1)) 3) = W at *
  go_loopw [5, 17] (fun vv kv wx => ∃ k : Nat, k ≤ n ∧ kv = .int .i64 k ∧ Sep w wx [Res.row vv 3 1 N (ic (stripV wd k))]) (fun _ kv _ => n - (intOf kv).toNat)
  case atStart => exact ⟨0, Nat.zero_le _, rfl, H1⟩
  case round =>
    clear H1
    obtain ⟨k, hkn, rfl, H⟩ := hrel
    obtain ⟨v, hv⟩ : ∃ v, v = stripV wd k := ⟨_, rfl⟩
    have hvl := HVL.out k
    rw [← hv] at H hvl
    have HVE := Lib.hid hv
    have HVV := Lib.hid hvl
    clear hvl hv
    obtain ⟨gv, ov, cv, rfl, hcv, hcm, hgv⟩ := own_shape H.h0 hNp
    obtain ⟨rfl, _⟩ := own_blk H.h0
    by_cases hlt : k < n
    · have HX : Hid (nextV (domMat wd) v = stripV wd (k + 1)) := Lib.hid (by rw [HVE.out]; rfl)
      have H3 := H.rowBox 3 (madeCells #[.int .i64 0] N) 1 N (by rw [size_madeCells, Nat.mul_one]) (by unfold maxLen; omega)
      rw [made_ints, ← dotRow_zero (v := v) (M := domMat wd) (f := fun _ => 0) (fun _ _ => rfl)] at H3
      clear H
      go_wp2
      generalize wr.alloc (.cells (madeCells (#[.int .i64 0] : Array Value) N) 3) = W2 at *
      obtain ⟨g, hg⟩ : ∃ g, g = wr.heap.size := ⟨_, rfl⟩
      rw [← hg] at H3 ⊢
      clear hg
      go_loopw [24] (fun av wx => ∃ a : Nat, a ≤ N ∧ av = .int .i64 a ∧ Sep w wx [Res.row (.slice (some ⟨g, 0, none⟩) N N) 3 1 N (ic (dotRow N v (domMat wd) fun _ => a)), Res.row (.slice (some ⟨gv, 0, none⟩) N cv) 3 1 N (ic v)]) (fun av _ => N - (intOf av).toNat)
      case atStart => exact ⟨0, Nat.zero_le _, rfl, H3⟩
      case round =>
        clear H3
        obtain ⟨a, haN, rfl, H⟩ := hrel
        by_cases hla : a < N
        · obtain ⟨y, hy⟩ : ∃ y, v[a]? = some y := ⟨v[a]'(by rw [HVV.out]; exact hla), List.getElem?_eq_getElem _⟩
          have HAA := Lib.hid hy
          have x3 := own_cell1 H.h1 hy
          rw [Nat.zero_add] at x3
          have HDA := Lib.hid (HDC.out a wr hla)
          have HRA := Lib.hid (HRL.out a)
          clear hy
          go_wp2_with fail
          refine (HDA.out).mono ?_
          rintro e w2 ⟨vq, rfl, o1, b1⟩
          have H1 := H.oiNew b1 o1
          rw [HRA.out] at H1
          clear H HDA o1 b1 x3
          obtain ⟨gq, oq, cq, rfl, _, _, _⟩ := own_shape H1.h0 hNp
          obtain ⟨rfl, _⟩ := own_blk H1.h0
          replace H1 : Sep w w2 [Res.row (.slice (some ⟨g, 0, none⟩) N N) 3 1 N (ic (dotRow N v (domMat wd) fun c => if c < 0 then a + 1 else a)), Res.row (.slice (some ⟨gq, 0, none⟩) N cq) 3 1 N (ic (domRow wd a)), Res.row (.slice (some ⟨gv, 0, none⟩) N cv) 3 1 N (ic v)] := H1.g1
          go_wp2
          go_loopw [33] (fun bv wx => ∃ b : Nat, b ≤ N ∧ bv = .int .i64 b ∧ Sep w wx [Res.row (.slice (some ⟨g, 0, none⟩) N N) 3 1 N (ic (dotRow N v (domMat wd) fun c => if c < b then a + 1 else a)), Res.row (.slice (some ⟨gq, 0, none⟩) N cq) 3 1 N (ic (domRow wd a)), Res.row (.slice (some ⟨gv, 0, none⟩) N cv) 3 1 N (ic v)]) (fun bv _ => N - (intOf bv).toNat)
          case atStart => exact ⟨0, Nat.zero_le _, rfl, H1⟩
          case round =>
            clear H1
            obtain ⟨b, hbN, rfl, H⟩ := hrel
            by_cases hlb : b < N
            · obtain ⟨z, hz⟩ : ∃ z, (domRow wd a)[b]? = some z := ⟨(domRow wd a)[b]'(by rw [HRA.out]; exact hlb), List.getElem?_eq_getElem _⟩
              have xz := own_cell1 H.h1 hz
              rw [Nat.zero_add] at xz
              have hdj := dotRow_at (v := v) (M := domMat wd) (f := fun c => if c < b then a + 1 else a) hlb
              simp only [Nat.lt_irrefl, if_false] at hdj
              obtain ⟨d, hd⟩ : ∃ d, d = dot v (domMat wd) b a := ⟨_, rfl⟩
              have x1 := own_cell1 H.h0 hdj
              rw [Nat.zero_add, ← hd] at x1
              have x6 := own_free H.h0 b
              rw [Nat.zero_add] at x6
              have HD : Hid (dot v (domMat wd) b (a + 1) = wrap64 (d + wrap64 (y * z))) := Lib.hid (by
                rw [hd, dot, getD_get HAA.out, at2_get (HMat.out a hla) hz]; rfl)
              have H1 := H.setRow (j := b) (by rw [ic_length, dotRow_len]; exact hlb) (.int .i64 (wrap64 (d + wrap64 (y * z))))
              rw [ic_set, ← HD.out, Nat.zero_add] at H1
              rw [dotRow_put (g := fun c => if c < b + 1 then a + 1 else a) (ite_up b a) (by simp)] at H1
              clear H hz hdj hd
              go_wp2
              clear x1 x6 xz
              go_roundw
              case rel => exact ⟨b + 1, by omega, by go_num, by rw [HD.out] at H1; exact H1⟩
              case measure => simp [intOf]; omega
            · obtain rfl : b = N := by omega
              rw [dotRow_congr (f := fun _ => a + 1) (fun d hd => if_pos hd)] at H
              have H4 := H.drop2
              clear H
              go_wp2
              go_roundw
              case rel => exact ⟨a + 1, by omega, by go_num, H4⟩
              case measure => simp [intOf]; omega
        · obtain rfl : a = N := by omega
          have e1 : dotRow a v (domMat wd) (fun _ => a) = stripV wd (k + 1) := by rw [← HX.out]; unfold nextV; rw [HML.out]
          rw [e1] at H
          have H4 := H.drop2
          clear e1 H
          go_wp2
          go_roundw
          case rel => exact ⟨k + 1, by omega, by go_num, H4⟩
          case measure => simp [intOf]; omega
    · obtain rfl : k = n := by omega
      have hx0 : v[0]? = some (stripN wd k) := by rw [HVE.out]; exact stripV_head
      have x0 := own_cell1 H.h0 hx0
      have hbel := H.below
      clear hx0 H
      go_wp2
      go_ret
      exact ⟨rfl, hbel⟩
end Go.Proofs.YtdbneilhgckhjaaDoor
