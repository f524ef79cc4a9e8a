
/-
  Wang tiles: the useful ones: the walk of the program.
-/
import Derived.Test.YtlfeognjnlppkaaDoorWangV
import Derived.Test.YtlfeognjnlppkaaDoorStQ
namespace Go.Proofs.YtlfeognjnlppkaaDoor
open Go.RowKit

theorem useW_fix {l : List Wg} {o : List Nat} (h : stepW l o = o) : ∀ m, useW l m o = o
  | 0 => rfl
  | m + 1 => by rw [useW, h]; exact useW_fix h m
theorem step_fix {l : List Wg} {o : List Nat} (h : (stepW l o).length = o.length) : stepW l o = o := List.filter_eq_self.2 (by
  unfold stepW at h
  exact fun a ha => by
    have := List.length_filter_eq_length_iff.1 h
    exact this a ha)
def Uses (l : List Wg) (o R : List Nat) : Prop := ∃ m, o.length ≤ m ∧ useW l m o = R
theorem Uses.start {l : List Wg} (h : l.length ≤ 6) : Uses l (List.range l.length) (useful l) := ⟨6, by simp; omega, rfl⟩
theorem Uses.next {l : List Wg} {o R : List Nat} (h : Uses l o R) (hne : (stepW l o).length ≠ o.length) : Uses l (stepW l o) R := by
  obtain ⟨m, hm, hu⟩ := h
  have := stepW_len (l := l) (o := o)
  rcases m with _ | m
  · omega
  · exact ⟨m, by omega, hu⟩
theorem Uses.done {l : List Wg} {o R : List Nat} (h : Uses l o R) (he : (stepW l o).length = o.length) : R = stepW l o := by
  obtain ⟨m, _, hu⟩ := h
  rw [← hu, useW_fix (step_fix he), step_fix he]
abbrev quad (f1 f2 f3 f4 : Bool) : Array Value := #[.bool f1, .bool f2, .bool f3, .bool f4]
set_option maxRecDepth 100000 in
theorem run_equal_quad (w : World) (f1 f2 f3 f4 : Bool) : (Op.equalIn 10000 60 (.agg (quad f1 f2 f3 f4)) (.agg #[.bool true, .bool true, .bool true, .bool true])).run Tryd.prog w = .ok (f1 && f2 && f3 && f4) w := by
  cases f1 <;> cases f2 <;> cases f3 <;> cases f4 <;> kernel_rfl

set_option maxRecDepth 100000 in
set_option maxHeartbeats 1600000 in
theorem impl_useful_c {v : Value} {l : List Wg} (w : World) (hl0 : WangsRd w 0 w.heap.size v l) (hA : areW l = true) (hl1 : 1 ≤ l.length) (hl6 : l.length ≤ 6) :
    Calls Tryd.prog 30 #[v] w fun e w' => ∃ v', e = .returned v' ∧ IntsIn w' w.heap.size w'.heap.size v' (fc (useful l)) ∧ Below w.heap.size w w' := by
  obtain ⟨i0, hi, hz0, hz1, hz2⟩ := info_parts infoIntW
  have HL0 := Lib.hid hl0
  have HA := Lib.hid hA
  obtain ⟨A, c, rfl, hm, hr⟩ := id hl0
  obtain ⟨R, hR⟩ : ∃ R, R = useful l := ⟨_, rfl⟩
  rw [← hR]
  have HR := Lib.hid hR
  obtain ⟨b, off, hA', hb, htile⟩ := hr.shapeT (by omega)
  subst hA'
  have HTL := Lib.hid htile
  clear hl0 hA hR hr htile
  go_enter Tryd.func30, Tryd.ntmps30
  go_wp2_with fail
  refine (impl_areW_c (l := l) w HL0.out).mono ?_
  rintro e w1 ⟨rfl, b1⟩
  rw [HA.out]
  have H0 := ((Sep.start w).step b1).nil 3 1
  clear b1
  go_wp2
  go_loopw [3, 16] (fun s i wr => ∃ k : Nat, k ≤ l.length ∧ i = .int .i64 k ∧ Sep w wr [Res.row s 3 1 k (ic (fc (List.range k)))]) (fun _ i _ => l.length - (intOf i).toNat)
  case atStart => exact ⟨0, Nat.zero_le _, rfl, H0⟩
  case round =>
    clear H0
    obtain ⟨k, hk, rfl, H⟩ := hrel
    by_cases hlt : k < l.length
    · go_wp2_with (at_builtin; refine wpList_app rfl _ _ 31 rfl 3 i0 _ 1 8 Tryd.underlying31 hi hz0 hz1 hz2 rfl (by decide) _ _ _ rfl (H.alloc _) _ _ _ [.int .i64 (k : Int)] rfl (Rd.fresh wr _ #[.int .i64 (k : Int)] 1 1 rfl) oc1 (by unfold maxLen; omega) (by omega) ?_; intro v2 w2 H2; clear H)
      rw [fc_range] at H2
      go_roundw
      case rel => exact ⟨k + 1, by omega, by go_num, H2⟩
      case measure => simp [intOf]; omega
    · obtain rfl : k = l.length := by omega
      have H2 : Sep w wr [Res.row u3 3 1 (List.range l.length).length (ic (fc (List.range l.length)))] := by rw [List.length_range]; exact H
      clear H
      go_wp2
      go_loopg [3] 20 (fun gk s wr => ∃ (o : List Nat), o.length ≤ gk ∧ Hid (Uses l o R) ∧ Hid (inT l o) ∧ o.length ≤ 6 ∧ Sep w wr [Res.row s 3 1 o.length (ic (fc o))])
      case atStart => exact ⟨_, by simp; omega, Lib.hid (by rw [HR.out]; exact Uses.start hl6), Lib.hid inT.range, by simp; omega, H2⟩
      case round =>
        clear H2
        obtain ⟨o, hog, HU, HIN, ho6, H⟩ := hrel
        obtain ⟨Ao, co, rfl, _, _, _⟩ := Res.row_at H.h0
        have H2 := H.nil 3 1
        clear H
        obtain ⟨wx, hwx⟩ : ∃ wx : World, wx = wr := ⟨_, rfl⟩
        subst hwx
        go_wp2
        go_loopw [5, 26] (fun s i wr => ∃ (k : Nat) (x : List Nat), k ≤ o.length ∧ i = .int .i64 k ∧ Hid (x = (o.take k).filter (metW l o)) ∧ x.length ≤ k ∧ Sep w wr [Res.row s 3 1 x.length (ic (fc x)), Res.row (.slice Ao o.length co) 3 1 o.length (ic (fc o))]) (fun _ i _ => o.length - (intOf i).toNat)
        case atStart => exact ⟨0, [], Nat.zero_le _, rfl, Lib.hid rfl, Nat.le_refl _, H2⟩
        case round =>
          clear H2
          obtain ⟨k, x, hk, rfl, HX, hxk, H⟩ := hrel
          by_cases hlk : k < o.length
          · obtain ⟨bo, oo, co', he, _, _, hbo⟩ := own_shape H.h1 (by omega)
            injection he with he1 he2 he3
            subst he1 he3
            obtain ⟨i, hik⟩ : ∃ i, o[k]? = some i := ⟨o[k], List.getElem?_eq_getElem hlk⟩
            have hil : i < l.length := HIN.out i (List.mem_of_getElem? hik)
            have q1 := row_at1 H.h1 hik
            have HIK := Lib.hid hik
            have H2 := H.box 60 (quad false false false false)
            clear hik H
            go_wp2
            obtain ⟨ga, hga⟩ : ∃ ga, ga = wr.heap.size := ⟨_, rfl⟩
            rw [← hga] at H2
            generalize hwa : wr.alloc (.cells (quad false false false false) 60) = wa at *
            rw [← hga]
            clear hga hwa q1 hbo
            obtain ⟨ta, hta, _⟩ := HTL.out i hil
            have HTA := Lib.hid hta
            clear hta
            go_loopw [32] (fun i wr => ∃ (j : Nat) (f1 f2 f3 f4 : Bool), j ≤ o.length ∧ i = .int .i64 j ∧
              Hid (f1 = ((o.take j).any fun y => (tileAt l y).bottom == ta.top)) ∧ Hid (f2 = ((o.take j).any fun y => (tileAt l y).left == ta.right)) ∧ Hid (f3 = ((o.take j).any fun y => (tileAt l y).top == ta.bottom)) ∧ Hid (f4 = ((o.take j).any fun y => (tileAt l y).right == ta.left)) ∧
              Sep w wr [Res.box ga 60 (quad f1 f2 f3 f4), Res.row u5 3 1 x.length (ic (fc x)), Res.row (.slice (some ⟨bo, oo, none⟩) o.length co) 3 1 o.length (ic (fc o))]) (fun i _ => o.length - (intOf i).toNat)
            case atStart => exact ⟨0, false, false, false, false, Nat.zero_le _, rfl, Lib.hid rfl, Lib.hid rfl, Lib.hid rfl, Lib.hid rfl, H2⟩
            case round =>
              clear H2
              obtain ⟨j, f1, f2, f3, f4, hj, rfl, HF1, HF2, HF3, HF4, H⟩ := hrel
              by_cases hlj : j < o.length
              · obtain ⟨y, hjy⟩ : ∃ y, o[j]? = some y := ⟨o[j], List.getElem?_eq_getElem hlj⟩
                have hyl : y < l.length := HIN.out y (List.mem_of_getElem? hjy)
                have q1 := row_at1 H.h2 hjy
                obtain ⟨tb, htb, a1, a2, a3, a4⟩ := HTL.out y hyl
                obtain ⟨ta', hta', d1, d2, d3, d4⟩ := HTL.out i hil
                obtain rfl : ta' = ta := by have := HTA.out; rw [hta'] at this; injection this
                have hty : tileAt l y = tb := tileAt_of htb
                have e1 := any_take (p := fun y => (tileAt l y).bottom == ta'.top) hjy
                have e2 := any_take (p := fun y => (tileAt l y).left == ta'.right) hjy
                have e3 := any_take (p := fun y => (tileAt l y).top == ta'.bottom) hjy
                have e4 := any_take (p := fun y => (tileAt l y).right == ta'.left) hjy
                rw [← HF1.out, hty] at e1
                rw [← HF2.out, hty] at e2
                rw [← HF3.out, hty] at e3
                rw [← HF4.out, hty] at e4
                have E1 := Lib.hid e1
                have E2 := Lib.hid e2
                have E3 := Lib.hid e3
                have E4 := Lib.hid e4
                clear hjy htb hta' hty e1 e2 e3 e4 HF1 HF2 HF3 HF4
                go_upto_region 17 with fail
                go_cut [] (fun wx => Sep w wx [Res.box ga 60 (quad (f1 || (tb.bottom == ta'.top)) f2 f3 f4), Res.row u5 3 1 x.length (ic (fc x)), Res.row (.slice (some ⟨bo, oo, none⟩) o.length co) 3 1 o.length (ic (fc o))])
                case first =>
                  have k0 : wr.cell? ⟨ga, 0, none⟩ = some (.bool f1) := H.h0.cell 0
                  have kb := (H.below.cell (p := ⟨b, off + y * 4 + 2, none⟩) hb).trans a3
                  have ka := (H.below.cell (p := ⟨b, off + i * 4, none⟩) hb).trans d1
                  have kf := H.drew.h0.frozen 0
                  cases f1
                  ·
                    refine wp_region_stq 16 (by kernel_rfl) (by kernel_rfl) ?_
                    simp only [List.take_succ_cons, List.take_zero, List.drop_succ_cons, List.drop_zero]
                    repeat (go_big_quiet_step (fail))
                    refine wpQuiet_nil ?_
                    go_wp2_with fail
                    go_meet
                    exact H.drew.set_ 0 _
                  ·
                    refine wp_region_stq 16 (by kernel_rfl) (by kernel_rfl) ?_
                    simp only [List.take_succ_cons, List.take_zero, List.drop_succ_cons, List.drop_zero]
                    repeat (go_big_quiet_step (fail))
                    refine wpQuiet_nil ?_
                    go_wp2_with fail
                    go_meet
                    exact H.drew.set_ 0 _
                case rest =>
                have H2 := hcut
                clear hcut H
                obtain ⟨g1, hg1⟩ : ∃ g1, g1 = (f1 || (tb.bottom == ta'.top)) := ⟨_, rfl⟩
                rw [← hg1] at H2
                have Eg1 := Lib.hid hg1
                clear hg1
                generalize hwc : wc = wb at *
                clear hwc
                go_upto_region 18 with fail
                go_cut [] (fun wx => Sep w wx [Res.box ga 60 (quad g1 (f2 || (tb.left == ta'.right)) f3 f4), Res.row u5 3 1 x.length (ic (fc x)), Res.row (.slice (some ⟨bo, oo, none⟩) o.length co) 3 1 o.length (ic (fc o))])
                case first =>
                  have k0 : wb.cell? ⟨ga, 1, none⟩ = some (.bool f2) := H2.h0.cell 1
                  have kb := (H2.below.cell (p := ⟨b, off + y * 4 + 3, none⟩) hb).trans a4
                  have ka := (H2.below.cell (p := ⟨b, off + i * 4 + 1, none⟩) hb).trans d2
                  have kf := H2.drew.h0.frozen 1
                  cases f2
                  ·
                    refine wp_region_stq 16 (by kernel_rfl) (by kernel_rfl) ?_
                    simp only [List.take_succ_cons, List.take_zero, List.drop_succ_cons, List.drop_zero]
                    repeat (go_big_quiet_step (fail))
                    refine wpQuiet_nil ?_
                    go_wp2_with fail
                    go_meet
                    exact H2.drew.set_ 1 _
                  ·
                    refine wp_region_stq 16 (by kernel_rfl) (by kernel_rfl) ?_
                    simp only [List.take_succ_cons, List.take_zero, List.drop_succ_cons, List.drop_zero]
                    repeat (go_big_quiet_step (fail))
                    refine wpQuiet_nil ?_
                    go_wp2_with fail
                    go_meet
                    exact H2.drew.set_ 1 _
                case rest =>
                have H3 := hcut
                clear hcut H2
                obtain ⟨g2, hg2⟩ : ∃ g2, g2 = (f2 || (tb.left == ta'.right)) := ⟨_, rfl⟩
                rw [← hg2] at H3
                have Eg2 := Lib.hid hg2
                clear hg2
                generalize hwc : wc = wd at *
                clear hwc
                go_upto_region 19 with fail
                go_cut [] (fun wx => Sep w wx [Res.box ga 60 (quad g1 g2 (f3 || (tb.top == ta'.bottom)) f4), Res.row u5 3 1 x.length (ic (fc x)), Res.row (.slice (some ⟨bo, oo, none⟩) o.length co) 3 1 o.length (ic (fc o))])
                case first =>
                  have k0 : wd.cell? ⟨ga, 2, none⟩ = some (.bool f3) := H3.h0.cell 2
                  have kb := (H3.below.cell (p := ⟨b, off + y * 4, none⟩) hb).trans a1
                  have ka := (H3.below.cell (p := ⟨b, off + i * 4 + 2, none⟩) hb).trans d3
                  have kf := H3.drew.h0.frozen 2
                  cases f3
                  ·
                    refine wp_region_stq 16 (by kernel_rfl) (by kernel_rfl) ?_
                    simp only [List.take_succ_cons, List.take_zero, List.drop_succ_cons, List.drop_zero]
                    repeat (go_big_quiet_step (fail))
                    refine wpQuiet_nil ?_
                    go_wp2_with fail
                    go_meet
                    exact H3.drew.set_ 2 _
                  ·
                    refine wp_region_stq 16 (by kernel_rfl) (by kernel_rfl) ?_
                    simp only [List.take_succ_cons, List.take_zero, List.drop_succ_cons, List.drop_zero]
                    repeat (go_big_quiet_step (fail))
                    refine wpQuiet_nil ?_
                    go_wp2_with fail
                    go_meet
                    exact H3.drew.set_ 2 _
                case rest =>
                have H4 := hcut
                clear hcut H3
                obtain ⟨g3, hg3⟩ : ∃ g3, g3 = (f3 || (tb.top == ta'.bottom)) := ⟨_, rfl⟩
                rw [← hg3] at H4
                have Eg3 := Lib.hid hg3
                clear hg3
                generalize hwc : wc = we at *
                clear hwc
                have k0 : we.cell? ⟨ga, 3, none⟩ = some (.bool f4) := H4.h0.cell 3
                have kb := (H4.below.cell (p := ⟨b, off + y * 4 + 1, none⟩) hb).trans a2
                have ka := (H4.below.cell (p := ⟨b, off + i * 4 + 3, none⟩) hb).trans d4
                have kf := H4.drew.h0.frozen 3
                have H5 := H4.drew.set_ 3 (.bool (f4 || (tb.right == ta'.left)))
                clear H4 q1 a1 a2 a3 a4 d1 d2 d3 d4
                cases f4
                all_goals
                  go_wp2_with fail
                  refine wp_region_stq 16 (by kernel_rfl) (by kernel_rfl) ?_
                  simp only [List.take_succ_cons, List.take_zero, List.drop_succ_cons, List.drop_zero]
                  repeat (go_big_quiet_step (fail))
                  refine wpQuiet_nil ?_
                  go_wp2
                  clear k0 kb ka kf
                  go_roundw
                  case rel => exact ⟨j + 1, g1, g2, g3, _, by omega, by go_num, Lib.hid (by rw [Eg1.out, E1.out]), Lib.hid (by rw [Eg2.out, E2.out]), Lib.hid (by rw [Eg3.out, E3.out]), Lib.hid E4.out.symm, H5⟩
                  case measure => simp [intOf]; omega
              · obtain rfl : j = o.length := by omega
                have hmet : metW l o i = (f1 && f2 && f3 && f4) := by
                  rw [HF1.out, HF2.out, HF3.out, HF4.out, List.take_length]
                  unfold metW
                  rw [tileAt_of HTA.out]
                have hflt := filter_take (p := metW l o) HIK.out
                rw [← HX.out, hmet] at hflt
                have HFL := Lib.hid hflt
                have hx6 : x.length ≤ 6 := by omega
                have hq := fun w => run_equal_quad w f1 f2 f3 f4
                clear hmet hflt HF1 HF2 HF3 HF4 HX
                obtain ⟨mm, hmm⟩ : ∃ mm, mm = (f1 && f2 && f3 && f4) := ⟨_, rfl⟩
                rw [← hmm] at hq HFL
                clear hmm
                have H2 := H.drop
                have q1 := row_at1 H2.h1 HIK.out
                cases mm
                · clear q1
                  go_wp2_with (refine wpList_load_row rfl 60 _ rfl ga rfl 60 _ _ _ H.h0 Tryd.underlying60 rfl (by kernel_rfl) ?_)
                  clear H hq
                  go_roundw
                  case rel => exact ⟨k + 1, x, by omega, by go_num, Lib.hid (by rw [HFL.out]; simp), by omega, H2⟩
                  case measure => simp [intOf]; omega
                · go_wp2_with (first
                    | (refine wpList_load_row rfl 60 _ rfl ga rfl 60 _ _ _ H.h0 Tryd.underlying60 rfl (by kernel_rfl) ?_)
                    | (at_builtin; refine wpList_app rfl _ _ 31 rfl 3 i0 _ 1 8 Tryd.underlying31 hi hz0 hz1 hz2 rfl (by decide) _ _ _ rfl (H2.alloc _) _ _ _ [.int .i64 (i : Int)] rfl (Rd.fresh wr _ #[.int .i64 (i : Int)] 1 1 rfl) oc1 (by unfold maxLen; omega) (by omega) ?_; intro v2 w2 H5; clear H2))
                  clear q1 H hq
                  have hx7 : ic (fc x) ++ [Value.int .i64 (i : Int)] = ic (fc (x ++ [i])) := by rw [fc_append, ic_append]; rfl
                  have H6 : Sep w w2 [Res.row v2 3 1 (x ++ [i]).length (ic (fc (x ++ [i]))), Res.row (.slice (some ⟨bo, oo, none⟩) o.length co) 3 1 o.length (ic (fc o))] := by
                    rw [← hx7, List.length_append]; exact H5
                  clear hx7 H5
                  go_roundw
                  case rel => exact ⟨k + 1, x ++ [i], by omega, by go_num, Lib.hid (by rw [HFL.out]; simp), by simp; omega, H6⟩
                  case measure => simp [intOf]; omega
          · obtain rfl : k = o.length := by omega
            have hx2 : x = stepW l o := by rw [HX.out, List.take_length]; rfl
            obtain ⟨Ax, cx, rfl, _, _, _⟩ := Res.row_at H.h0
            have hxo : x.length ≤ o.length := by omega
            by_cases hne : x.length = o.length
            · have hR2 : R = x := by rw [hx2]; exact HU.out.done (by rw [← hx2]; exact hne)
              have HR2 := Lib.hid hR2
              have he : ((x.length : Int) == (o.length : Int)) = true := by simp; omega
              have hi2 : IntsIn wr w.heap.size wr.heap.size (.slice Ax x.length cx) (fc x) := IntsIn.mk H.oi.1 (by rw [fc_length]) rfl
              have hbel := H.below
              clear hx2 hR2 H hne
              go_wp2
              go_ret
              exact ⟨_, rfl, by rw [HR2.out]; exact hi2, hbel⟩
            · have hu2 := HU.out.next (by rw [← hx2]; exact hne)
              rw [← hx2] at hu2
              have HU2 := Lib.hid hu2
              have hin2 : inT l x := by rw [hx2]; exact HIN.out.step
              have HIN2 := Lib.hid hin2
              have H2 := H.drop2
              have he : ((x.length : Int) == (o.length : Int)) = false := by simp; omega
              have hlt2 : x.length < o.length := by omega
              clear hx2 hu2 hin2 H hne
              go_wp2
              go_roundg (gk - 1)
              case rel => exact ⟨x, by omega, HU2, HIN2, by omega, H2⟩
              case measure => omega
end Go.Proofs.YtlfeognjnlppkaaDoor
