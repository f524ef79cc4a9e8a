
/-
  Cells put in order: the program's walk.
-/
import Derived.Test.YtdbneilhgckhjaaDoorSortJ
import Derived.Test.YtdbneilhgckhjaaDoorMovI
import Derived.Test.YtdbneilhgckhjaaDoorEqW
namespace Go.Proofs.YtdbneilhgckhjaaDoor
open Go.RowKit

theorem dedup_keep {d : List Cell} {i : Nat} {c : Cell} (hc : d[i]? = some c) (hp : 0 < i ∧ d[i - 1]? = some c) : dedupT d (i + 1) = dedupT d i := by simp only [dedupT, hc, if_pos hp]
theorem dedup_new {d : List Cell} {i : Nat} {c : Cell} (hc : d[i]? = some c) (hp : ¬ (0 < i ∧ d[i - 1]? = some c)) : dedupT d (i + 1) = dedupT d i ++ [c] := by simp only [dedupT, hc, if_neg hp]
set_option maxRecDepth 100000 in
set_option maxHeartbeats 3200000 in
theorem impl_sort_c {v : Value} {s : List Cell} (w : World) (h : CellsRd w 0 w.heap.size v s) (h1 : 1 ≤ s.length) (h12 : s.length ≤ 12) :
    Calls Tryd.prog 149 #[v] w fun e w' => ∃ v', e = .returned v' ∧ CellsIn w' w.heap.size w'.heap.size v' (sortC s) ∧ Below w.heap.size w w' := by
  obtain ⟨i0, hi, hz0, hz1, hz2⟩ := info_parts infoCellI
  obtain ⟨A, c, rfl, hm, hr⟩ := h
  have hmf : ∀ (fn : Fn) (first cap : Array Value) (w : World), (Instr.makeFunc fn first cap).run Tryd.prog w = .ok (.func fn first cap) w := fun _ _ _ _ => rfl
  have H0 := (Sep.start w).nil 73 2
  obtain ⟨n, hn⟩ : ∃ n, n = s.length := ⟨_, rfl⟩
  have HN := Lib.hid hn
  rw [← hn] at hr h1 h12 hm ⊢
  clear hn
  go_enter Tryd.func149, Tryd.ntmps149
  go_wp2_with (at_builtin; refine wpList_app rfl _ _ 53 rfl 73 i0 _ 2 16 Tryd.underlying53 hi hz0 hz1 hz2 rfl (by decide) _ _ _ rfl H0 _ _ _ (cc s) rfl hr cc_onec (by unfold maxLen; omega) (by omega) ?_; intro v1 w1 H1; rw [List.nil_append, Nat.zero_add] at H1; obtain ⟨g, o, cp, rfl, _, _, _⟩ := own_shape H1.h0 h1; obtain ⟨rfl, _⟩ := own_blk H1.h0; clear H0 hr)
  have H2 := (H1.box 53 #[.slice (some ⟨g, 0, none⟩) n cp]).g1
  have z0 : (w1.alloc (.cells #[.slice (some ⟨g, 0, none⟩) n cp] 53)).cell? ⟨w1.heap.size, 0, none⟩ = some (.slice (some ⟨g, 0, none⟩) n cp) := H2.h1.cell 0
  have HSS := Lib.hid (sortSlice_c H2 HN.out h1 h12)
  clear H1 H2
  go_wp2_with fail
  refine (HSS.out).mono ?_
  rintro e w2 ⟨rfl, d, hdl, hdm, hdw, H3⟩
  obtain ⟨Bs, hBs⟩ : ∃ Bs, Bs = w1.heap.size := ⟨_, rfl⟩
  rw [← hBs] at H3 ⊢
  have HDL := Lib.hid hdl
  have HE : Hid (dedupT d n = sortC s) := Lib.hid (by
    have := dedup_sort (d := d) (s := s) (by rw [hdl]; exact hdw) hdm
    rwa [hdl] at this)
  have z1 : w2.cell? ⟨Bs, 0, none⟩ = some (.slice (some ⟨g, 0, none⟩) n cp) := H3.h1.cell 0
  have H4 := H3.nil 73 2
  clear HSS z0 hdl hdm hdw H3 hBs
  go_wp2
  clear z1
  go_loopw [4, 15] (fun ov iv wx => ∃ (i m : Nat), i ≤ n ∧ iv = .int .i64 i ∧ m ≤ i ∧ Hid (m = (dedupT d i).length) ∧ Sep w wx [Res.row ov 73 2 m (cc (dedupT d i)), cellsRow g n cp d, cellsBox Bs g n cp]) (fun _ iv _ => n - (intOf iv).toNat)
  case atStart => exact ⟨0, 0, Nat.zero_le _, rfl, Nat.le_refl _, Lib.hid rfl, H4⟩
  case round =>
    clear H4
    obtain ⟨i, m, hin, rfl, hmi, HM, H⟩ := hrel
    by_cases hlt : i < n
    · obtain ⟨x, hx⟩ : ∃ x, d[i]? = some x := ⟨d[i]'(by rw [HDL.out]; exact hlt), List.getElem?_eq_getElem _⟩
      obtain ⟨x1, x2⟩ := own_cell2 H.h1 hx
      rw [Nat.zero_add] at x1 x2
      have H1 := H.box 73 #[.int .i64 x.x, .int .i64 x.y]
      obtain ⟨gc, hgc⟩ : ∃ gc, gc = wr.heap.size := ⟨_, rfl⟩
      have HX := Lib.hid hx
      clear H hx
      go_upto_region 7 with fail
      rw [← hgc] at H1 ⊢
      generalize wr.alloc (.cells #[.int .i64 x.x, .int .i64 x.y] 73) = W at *
      clear hgc x1 x2
      have c0 : W.cell? ⟨gc, 0, none⟩ = some (.int .i64 x.x) := H1.h0.cell 0
      have c1 : W.cell? ⟨gc, 1, none⟩ = some (.int .i64 x.y) := H1.h0.cell 1
      have b0 : W.cell? ⟨Bs, 0, none⟩ = some (.slice (some ⟨g, 0, none⟩) n cp) := H1.h3.cell 0
      by_cases hi0 : i = 0
      · have e0 : ((i : Int) == 0) = true := by simp; omega
        have HD : Hid (dedupT d (i + 1) = dedupT d i ++ [x]) := Lib.hid (dedup_new HX.out (fun h => by omega))
        go_wp2_with fail
        refine wp_region_quiet_lit (by kernel_rfl) (by kernel_rfl) ?_
        repeat (go_big_quiet_step (fail))
        refine wpQuiet_nil ?_
        intro _ hwq'
        obtain ⟨nq, hwq''⟩ := hwq'
        subst hwq''
        have H2 := H1.drewN nq
        clear H1 c0 c1 b0
        generalize W.drewN nq = W4 at *
        have c0 : W4.cell? ⟨gc, 0, none⟩ = some (.int .i64 x.x) := H2.h0.cell 0
        have c1 : W4.cell? ⟨gc, 1, none⟩ = some (.int .i64 x.y) := H2.h0.cell 1
        have H3 := H2.drop
        clear H2
        go_wp2_with (at_builtin; refine wpList_app rfl _ _ 53 rfl 73 i0 _ 2 16 Tryd.underlying53 hi hz0 hz1 hz2 rfl (by decide) _ _ _ rfl (H3.alloc _) _ _ _ [.int .i64 x.x, .int .i64 x.y] rfl (Rd.fresh W4 _ #[.int .i64 x.x, .int .i64 x.y] 2 1 rfl) oc2 (by unfold maxLen; omega) (by omega) ?_; intro v5 w5 H5; clear H3 c0 c1)
        have hcc : cc (dedupT d i) ++ [Value.int .i64 x.x, .int .i64 x.y] = cc (dedupT d (i + 1)) := by rw [HD.out, cc_append]; rfl
        have HM2 : Hid (m + 1 = (dedupT d (i + 1)).length) := Lib.hid (by rw [HD.out, List.length_append, HM.out]; rfl)
        rw [hcc] at H5
        clear hcc
        go_roundw
        case rel => exact ⟨i + 1, m + 1, by omega, by go_num, by omega, HM2, H5⟩
        case measure => simp [intOf]; omega
      · have e0 : ((i : Int) == 0) = false := by simp; omega
        obtain ⟨p, hp⟩ : ∃ p, p = i - 1 := ⟨_, rfl⟩
        have HP := Lib.hid hp
        have e1 : (i : Int) - 1 = (p : Int) := by omega
        have e2 : IntKind.i64.wrap ((i : Int) - 1) = (p : Int) := by rw [e1]; exact IntWalk.i64_in _ (by omega)
        have e3 : (p : Int) < (n : Int) := by omega
        have e4 : IntKind.i64.wrap (p : Int) = (p : Int) := IntWalk.i64_in _ (by omega)
        obtain ⟨y, hy⟩ : ∃ y, d[p]? = some y := ⟨d[p]'(by rw [HDL.out]; omega), List.getElem?_eq_getElem _⟩
        obtain ⟨y1, y2⟩ := own_cell2 H1.h2 hy
        rw [Nat.zero_add] at y1 y2
        have HY := Lib.hid hy
        clear hp hy
        by_cases hyx : y = x
        · have HD : Hid (dedupT d (i + 1) = dedupT d i) := Lib.hid (dedup_keep HX.out ⟨by omega, by rw [← HP.out, HY.out, hyx]⟩)
          subst hyx
          go_wp2_with fail
          refine wp_region_quiet_lit (by kernel_rfl) (by kernel_rfl) ?_
          repeat (go_big_quiet_step (fail))
          refine wpQuiet_nil ?_
          intro _ hwq'
          obtain ⟨nq, hwq''⟩ := hwq'
          subst hwq''
          have H2 := H1.drewN nq
          clear H1 c0 c1 b0
          generalize W.drewN nq = W4 at *
          have H3 := H2.drop
          clear H2 y1 y2
          rw [← HD.out] at H3
          have HM2 : Hid (m = (dedupT d (i + 1)).length) := Lib.hid (by rw [HD.out]; exact HM.out)
          go_wp2
          go_roundw
          case rel => exact ⟨i + 1, m, by omega, by go_num, by omega, HM2, H3⟩
          case measure => simp [intOf]; omega
        · have HD : Hid (dedupT d (i + 1) = dedupT d i ++ [x]) := Lib.hid (dedup_new HX.out (fun h => by
            have := h.2
            rw [← HP.out, HY.out] at this
            injection this with this
            exact hyx this))
          have HYX := Lib.hid hyx
          clear hyx
          go_wp2_with fail
          refine wp_region_quiet_lit (by kernel_rfl) (by kernel_rfl) ?_
          repeat (go_big_quiet_step (fail))
          go_big_quiet_want
          go_big_quiet_op
          refine ⟨.bool true, fun aa => ?_, ?_⟩
          · by_cases hx : y.x = x.x
            · have hy : ¬ y.y = x.y := fun hy => HYX.out (by cases x; cases y; simp at hx hy; subst hx; subst hy; rfl)
              simp [hx, hy]
            · simp [hx]
          go_big_quiet_on
          repeat (go_big_quiet_step (fail))
          refine wpQuiet_nil ?_
          intro _ hwq'
          obtain ⟨nq, hwq''⟩ := hwq'
          subst hwq''
          have H2 := H1.drewN nq
          clear H1 c0 c1 b0
          generalize W.drewN nq = W4 at *
          clear y1 y2
          have c0 : W4.cell? ⟨gc, 0, none⟩ = some (.int .i64 x.x) := H2.h0.cell 0
          have c1 : W4.cell? ⟨gc, 1, none⟩ = some (.int .i64 x.y) := H2.h0.cell 1
          have H3 := H2.drop
          clear H2
          go_wp2_with (at_builtin; refine wpList_app rfl _ _ 53 rfl 73 i0 _ 2 16 Tryd.underlying53 hi hz0 hz1 hz2 rfl (by decide) _ _ _ rfl (H3.alloc _) _ _ _ [.int .i64 x.x, .int .i64 x.y] rfl (Rd.fresh W4 _ #[.int .i64 x.x, .int .i64 x.y] 2 1 rfl) oc2 (by unfold maxLen; omega) (by omega) ?_; intro v5 w5 H5; clear H3 c0 c1)
          have hcc : cc (dedupT d i) ++ [Value.int .i64 x.x, .int .i64 x.y] = cc (dedupT d (i + 1)) := by rw [HD.out, cc_append]; rfl
          have HM2 : Hid (m + 1 = (dedupT d (i + 1)).length) := Lib.hid (by rw [HD.out, List.length_append, HM.out]; rfl)
          rw [hcc] at H5
          clear hcc
          go_roundw
          case rel => exact ⟨i + 1, m + 1, by omega, by go_num, by omega, HM2, H5⟩
          case measure => simp [intOf]; omega
    · obtain rfl : i = n := by omega
      have HO : Hid (CellsIn wr w.heap.size wr.heap.size u4 (sortC s)) := Lib.hid (by rw [← HE.out]; unfold CellsIn; rw [← HM.out]; exact H.oi)
      have hb := H.below
      clear H
      go_wp2
      go_ret
      exact ⟨_, rfl, HO.out, hb⟩
end Go.Proofs.YtdbneilhgckhjaaDoor
