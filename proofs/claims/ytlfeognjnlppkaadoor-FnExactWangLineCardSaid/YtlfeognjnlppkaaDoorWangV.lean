
/-
  Wang tiles: the useful ones: the walk of the reference.
-/
import Derived.Test.YtlfeognjnlppkaaDoorWangF
import Derived.Deep.DeepCutAuto
namespace Go.Proofs.YtlfeognjnlppkaaDoor
open Go.RowKit

/-- has a tile on all four sides a neighbour among some -/
def metW (l : List Wg) (o : List Nat) (i : Nat) : Bool :=
  (o.any fun k => (tileAt l k).bottom == (tileAt l i).top) && (o.any fun k => (tileAt l k).left == (tileAt l i).right) && (o.any fun k => (tileAt l k).top == (tileAt l i).bottom) && (o.any fun k => (tileAt l k).right == (tileAt l i).left)
def stepW (l : List Wg) (o : List Nat) : List Nat := o.filter (metW l o)
def useW (l : List Wg) : Nat → List Nat → List Nat
  | 0, o => o
  | n + 1, o => useW l n (stepW l o)
def useful (l : List Wg) : List Nat := useW l 6 (List.range l.length)
theorem any_take {o : List Nat} {k y : Nat} {p : Nat → Bool} (h : o[k]? = some y) : (o.take (k + 1)).any p = ((o.take k).any p || p y) := by
  obtain ⟨hk, rfl⟩ := List.getElem?_eq_some_iff.1 h
  rw [List.take_succ_eq_append_getElem hk, List.any_append]
  simp
theorem filter_take {o : List Nat} {k y : Nat} {p : Nat → Bool} (h : o[k]? = some y) : (o.take (k + 1)).filter p = (o.take k).filter p ++ if p y then [y] else [] := by
  obtain ⟨hk, rfl⟩ := List.getElem?_eq_some_iff.1 h
  rw [List.take_succ_eq_append_getElem hk, List.filter_append]
  congr 1
  rw [List.filter_cons, List.filter_nil]
theorem inT.step {l : List Wg} {o : List Nat} (h : inT l o) : inT l (stepW l o) := fun x hx => h x (List.mem_filter.1 hx).1
theorem stepW_len {l : List Wg} {o : List Nat} : (stepW l o).length ≤ o.length := List.length_filter_le _ _
theorem inT.range {l : List Wg} : inT l (List.range l.length) := fun _ hx => List.mem_range.1 hx
theorem row_at1 {w : World} {e : TypeId} {b off c : Nat} {o : List Nat} {n : Nat} (h : w.ownsRow 0 e 1 (.slice (some ⟨b, off, none⟩) n c) n (ic (fc o))) {k y : Nat} (hk : o[k]? = some y) : w.cell? ⟨b, off + k, none⟩ = some (.int .i64 (y : Int)) := own_cell1 h (fc_at hk)
theorem fc_range {k : Nat} : ic (fc (List.range k)) ++ [Value.int .i64 (k : Int)] = ic (fc (List.range (k + 1))) := by rw [List.range_succ, fc_append, ic_append]; rfl

set_option maxRecDepth 100000 in
set_option maxHeartbeats 6400000 in
theorem spec_useful_c {v : Value} {l : List Wg} (w : World) (hl0 : WangsRd w 0 w.heap.size v l) (hA : areW l = true) (hl1 : 1 ≤ l.length) (hl6 : l.length ≤ 6) :
    Calls Tryd.prog 23 #[v] w fun e w' => ∃ v', e = .returned v' ∧ IntsIn w' w.heap.size w'.heap.size v' (fc (useful l)) ∧ Below w.heap.size w w' := by
  obtain ⟨i0, hi, hz0, hz1, hz2⟩ := info_parts infoIntW
  have HL0 := Lib.hid hl0
  have HA := Lib.hid hA
  obtain ⟨A, c, rfl, hm, hr⟩ := id hl0
  obtain ⟨R, hR⟩ : ∃ R, R = useful l := ⟨_, rfl⟩
  rw [← hR]
  have HR := Lib.hid hR
  obtain ⟨b, off, hA', hb, htile⟩ := hr.shapeT (by omega)
  subst hA'
  have HTL := Lib.hid htile
  have H0 := (Sep.start w).rowBox 3 #[] 1 0 rfl (by decide)
  clear hl0 hA hR hr htile
  go_enter Tryd.func23, Tryd.ntmps23
  go_wp2
  go_loopw [3, 4] (fun s i wr => ∃ k : Nat, k ≤ l.length ∧ i = .int .i64 k ∧ Sep w wr [Res.row s 3 1 k (ic (fc (List.range k)))]) (fun _ i _ => l.length - (intOf i).toNat)
  case atStart => exact ⟨0, Nat.zero_le _, rfl, H0⟩
  case round =>
    clear H0
    obtain ⟨k, hk, rfl, H⟩ := hrel
    by_cases hlt : k < l.length
    · go_wp2_with fail
      refine (spec_areW_c (l := l) wr ((HL0.out.keep (SameIn.of_below H.below (Nat.le_refl _))).more (Nat.le_refl _) H.below.size)).mono ?_
      rintro e w1 ⟨rfl, b1⟩
      rw [HA.out]
      have H1 := H.step b1
      clear H b1
      go_wp2_with (at_builtin; refine wpList_app rfl _ _ 31 rfl 3 i0 _ 1 8 Tryd.underlying31 hi hz0 hz1 hz2 rfl (by decide) _ _ _ rfl (H1.alloc _) _ _ _ [.int .i64 (k : Int)] rfl (Rd.fresh w1 _ #[.int .i64 (k : Int)] 1 1 rfl) oc1 (by unfold maxLen; omega) (by omega) ?_; intro v2 w2 H2; clear H1)
      rw [fc_range] at H2
      go_roundw
      case rel => exact ⟨k + 1, by omega, by go_num, H2⟩
      case measure => simp [intOf]; omega
    · obtain rfl : k = l.length := by omega
      have H2 : Sep w wr [Res.row u3 3 1 (List.range l.length).length (ic (fc (List.range l.length)))] := by rw [List.length_range]; exact H
      clear H
      go_wp2
      go_loopw [3, 5] (fun s i wr => ∃ (n : Nat) (o : List Nat), n ≤ 6 ∧ i = .int .i64 n ∧ Hid (useW l (6 - n) o = R) ∧ Hid (inT l o) ∧ o.length ≤ 6 ∧ Sep w wr [Res.row s 3 1 o.length (ic (fc o))]) (fun _ i _ => 6 - (intOf i).toNat)
      case atStart => exact ⟨0, _, by omega, rfl, Lib.hid HR.out.symm, Lib.hid inT.range, by simp; omega, H2⟩
      case round =>
        clear H2
        obtain ⟨n, o, hn, rfl, HU, HIN, ho6, H⟩ := hrel
        by_cases hlt : n < 6
        · have H2 := H.rowBox 3 #[] 1 0 rfl (by decide)
          obtain ⟨Ao, co, rfl, _, _, _⟩ := Res.row_at H.h0
          clear H
          go_wp2
          generalize hwx : wr.alloc (.cells #[] 3) = wx at *
          clear hwx
          go_loopw [6, 7] (fun s i wr => ∃ (k : Nat) (x : List Nat), k ≤ o.length ∧ i = .int .i64 k ∧ Hid (x = (o.take k).filter (metW l o)) ∧ x.length ≤ k ∧ Sep w wr [Res.row s 3 1 x.length (ic (fc x)), Res.row (.slice Ao o.length co) 3 1 o.length (ic (fc o))]) (fun _ i _ => o.length - (intOf i).toNat)
          case atStart => exact ⟨0, [], Nat.zero_le _, rfl, Lib.hid rfl, Nat.le_refl _, H2⟩
          case round =>
            clear H2
            obtain ⟨k, x, hk, rfl, HX, hxk, H⟩ := hrel
            by_cases hlk : k < o.length
            · obtain ⟨bo, oo, co', he, _, _, hbo⟩ := own_shape H.h1 (by omega)
              injection he with he1 he2 he3
              subst he1 he3
              obtain ⟨i, hik⟩ : ∃ i, o[k]? = some i := ⟨o[k], List.getElem?_eq_getElem hlk⟩
              have hil : i < l.length := HIN.out i (List.mem_of_getElem? hik)
              have q1 := row_at1 H.h1 hik
              obtain ⟨ta, hta, a1, a2, a3, a4⟩ := HTL.out i hil
              have hbw := H.below
              replace a1 := (hbw.cell (p := ⟨b, off + i * 4, none⟩) hb).trans a1
              replace a2 := (hbw.cell (p := ⟨b, off + i * 4 + 1, none⟩) hb).trans a2
              replace a3 := (hbw.cell (p := ⟨b, off + i * 4 + 2, none⟩) hb).trans a3
              replace a4 := (hbw.cell (p := ⟨b, off + i * 4 + 3, none⟩) hb).trans a4
              have HIK := Lib.hid hik
              have HTA := Lib.hid hta
              have H2 := H.box 43 #[.int .i64 ta.top, .int .i64 ta.right, .int .i64 ta.bottom, .int .i64 ta.left]
              clear hik hta H hbw
              go_wp2
              obtain ⟨ga, hga⟩ : ∃ ga, ga = wr.heap.size := ⟨_, rfl⟩
              rw [← hga] at H2
              generalize hwa : wr.alloc (.cells #[.int .i64 ta.top, .int .i64 ta.right, .int .i64 ta.bottom, .int .i64 ta.left] 43) = wa at *
              rw [← hga]
              clear hga hwa q1 a1 a2 a3 a4 hbo
              go_loopw [9, 10, 11, 12, 13] (fun s1 s2 s3 s4 i wr => ∃ (j : Nat) (f1 f2 f3 f4 : Bool), j ≤ o.length ∧ i = .int .i64 j ∧ s1 = .bool f1 ∧ s2 = .bool f2 ∧ s3 = .bool f3 ∧ s4 = .bool f4 ∧
                Hid (f1 = ((o.take j).any fun y => (tileAt l y).bottom == ta.top)) ∧ Hid (f2 = ((o.take j).any fun y => (tileAt l y).left == ta.right)) ∧ Hid (f3 = ((o.take j).any fun y => (tileAt l y).top == ta.bottom)) ∧ Hid (f4 = ((o.take j).any fun y => (tileAt l y).right == ta.left)) ∧
                Sep w wr [Res.box ga 43 #[.int .i64 ta.top, .int .i64 ta.right, .int .i64 ta.bottom, .int .i64 ta.left], Res.row u6 3 1 x.length (ic (fc x)), Res.row (.slice (some ⟨bo, oo, none⟩) o.length co) 3 1 o.length (ic (fc o))]) (fun _ _ _ _ i _ => o.length - (intOf i).toNat)
              case atStart => exact ⟨0, false, false, false, false, Nat.zero_le _, rfl, rfl, rfl, rfl, rfl, Lib.hid rfl, Lib.hid rfl, Lib.hid rfl, Lib.hid rfl, H2⟩
              case round =>
                clear H2
                obtain ⟨j, f1, f2, f3, f4, hj, rfl, rfl, rfl, rfl, rfl, HF1, HF2, HF3, HF4, H⟩ := hrel
                by_cases hlj : j < o.length
                · obtain ⟨y, hjy⟩ : ∃ y, o[j]? = some y := ⟨o[j], List.getElem?_eq_getElem hlj⟩
                  have hyl : y < l.length := HIN.out y (List.mem_of_getElem? hjy)
                  have q1 := row_at1 H.h2 hjy
                  obtain ⟨tb, htb, a1, a2, a3, a4⟩ := HTL.out y hyl
                  have hbw := H.below
                  replace a1 := (hbw.cell (p := ⟨b, off + y * 4, none⟩) hb).trans a1
                  replace a2 := (hbw.cell (p := ⟨b, off + y * 4 + 1, none⟩) hb).trans a2
                  replace a3 := (hbw.cell (p := ⟨b, off + y * 4 + 2, none⟩) hb).trans a3
                  replace a4 := (hbw.cell (p := ⟨b, off + y * 4 + 3, none⟩) hb).trans a4
                  have hty : tileAt l y = tb := tileAt_of htb
                  have e1 := any_take (p := fun y => (tileAt l y).bottom == ta.top) hjy
                  have e2 := any_take (p := fun y => (tileAt l y).left == ta.right) hjy
                  have e3 := any_take (p := fun y => (tileAt l y).top == ta.bottom) hjy
                  have e4 := any_take (p := fun y => (tileAt l y).right == ta.left) hjy
                  rw [← HF1.out, hty] at e1
                  rw [← HF2.out, hty] at e2
                  rw [← HF3.out, hty] at e3
                  rw [← HF4.out, hty] at e4
                  have E1 := Lib.hid e1
                  have E2 := Lib.hid e2
                  have E3 := Lib.hid e3
                  have E4 := Lib.hid e4
                  have H2 := H.box 43 #[.int .i64 tb.top, .int .i64 tb.right, .int .i64 tb.bottom, .int .i64 tb.left]
                  obtain ⟨gb, hgb⟩ : ∃ gb, gb = wr.heap.size := ⟨_, rfl⟩
                  rw [← hgb] at H2
                  have HGB := Lib.hid hgb
                  clear hjy htb H hbw hty e1 e2 e3 e4 HF1 HF2 HF3 HF4 hgb
                  go_upto_region 22 with fail
                  generalize wr.alloc (.cells #[.int .i64 tb.top, .int .i64 tb.right, .int .i64 tb.bottom, .int .i64 tb.left] 43) = wb at *
                  rw [← HGB.out]
                  have k0 : wb.cell? ⟨gb, 0, none⟩ = some (.int .i64 tb.top) := H2.h0.cell 0
                  have k1 : wb.cell? ⟨gb, 1, none⟩ = some (.int .i64 tb.right) := H2.h0.cell 1
                  have k2 : wb.cell? ⟨gb, 2, none⟩ = some (.int .i64 tb.bottom) := H2.h0.cell 2
                  have k3 : wb.cell? ⟨gb, 3, none⟩ = some (.int .i64 tb.left) := H2.h0.cell 3
                  have m0 : wb.cell? ⟨ga, 0, none⟩ = some (.int .i64 ta.top) := H2.h1.cell 0
                  have m1 : wb.cell? ⟨ga, 1, none⟩ = some (.int .i64 ta.right) := H2.h1.cell 1
                  have m2 : wb.cell? ⟨ga, 2, none⟩ = some (.int .i64 ta.bottom) := H2.h1.cell 2
                  have m3 : wb.cell? ⟨ga, 3, none⟩ = some (.int .i64 ta.left) := H2.h1.cell 3
                  have H3 := H2.drop
                  clear q1 a1 a2 a3 a4 H2 HGB
                  go_upto_region 22 with fail
                  go_cut [9] (fun s wx => s = .bool (f1 || (tb.bottom == ta.top)) ∧ wb = wx)
                  case first =>
                    cases f1
                    · go_wp2_with fail
                      go_meet
                      exact ⟨rfl, rfl⟩
                    · go_wp2_with fail
                      go_meet
                      exact ⟨rfl, rfl⟩
                  case rest =>
                  obtain ⟨rfl, rfl⟩ := hcut
                  obtain ⟨g1, hg1⟩ : ∃ g1, g1 = (f1 || (tb.bottom == ta.top)) := ⟨_, rfl⟩
                  rw [← hg1]
                  have Eg1 := Lib.hid hg1
                  clear hg1
                  go_upto_region 23 with fail
                  go_cut [10] (fun s wx => s = .bool (f2 || (tb.left == ta.right)) ∧ wb = wx)
                  case first =>
                    cases f2
                    · go_wp2_with fail
                      go_meet
                      exact ⟨rfl, rfl⟩
                    · go_wp2_with fail
                      go_meet
                      exact ⟨rfl, rfl⟩
                  case rest =>
                  obtain ⟨rfl, rfl⟩ := hcut
                  obtain ⟨g2, hg2⟩ : ∃ g2, g2 = (f2 || (tb.left == ta.right)) := ⟨_, rfl⟩
                  rw [← hg2]
                  have Eg2 := Lib.hid hg2
                  clear hg2
                  go_upto_region 24 with fail
                  go_cut [11] (fun s wx => s = .bool (f3 || (tb.top == ta.bottom)) ∧ wb = wx)
                  case first =>
                    cases f3
                    · go_wp2_with fail
                      go_meet
                      exact ⟨rfl, rfl⟩
                    · go_wp2_with fail
                      go_meet
                      exact ⟨rfl, rfl⟩
                  case rest =>
                  obtain ⟨rfl, rfl⟩ := hcut
                  obtain ⟨g3, hg3⟩ : ∃ g3, g3 = (f3 || (tb.top == ta.bottom)) := ⟨_, rfl⟩
                  rw [← hg3]
                  have Eg3 := Lib.hid hg3
                  clear hg3
                  cases f4
                  all_goals
                    go_wp2
                    clear k0 k1 k2 k3 m0 m1 m2 m3
                    go_roundw
                    case rel => exact ⟨j + 1, g1, g2, g3, _, by omega, by go_num, rfl, rfl, rfl, rfl, Lib.hid (by rw [Eg1.out, E1.out]), Lib.hid (by rw [Eg2.out, E2.out]), Lib.hid (by rw [Eg3.out, E3.out]), Lib.hid E4.out.symm, H3⟩
                    case measure => simp [intOf]; omega
                · obtain rfl : j = o.length := by omega
                  have H2 := H.drop
                  have hmet : metW l o i = (f1 && f2 && f3 && f4) := by
                    rw [HF1.out, HF2.out, HF3.out, HF4.out, List.take_length]
                    unfold metW
                    rw [tileAt_of HTA.out]
                  have hflt := filter_take (p := metW l o) HIK.out
                  rw [← HX.out, hmet] at hflt
                  have HFL := Lib.hid hflt
                  have hx6 : x.length ≤ 6 := by omega
                  clear hmet hflt H HF1 HF2 HF3 HF4 HX
                  have q1 := row_at1 H2.h1 HIK.out
                  cases f1
                  ·
                    clear q1
                    go_wp2
                    go_roundw
                    case rel => exact ⟨k + 1, x, by omega, by go_num, Lib.hid (by rw [HFL.out]; simp), by omega, H2⟩
                    case measure => simp [intOf]; omega
                  cases f2
                  ·
                    clear q1
                    go_wp2
                    go_roundw
                    case rel => exact ⟨k + 1, x, by omega, by go_num, Lib.hid (by rw [HFL.out]; simp), by omega, H2⟩
                    case measure => simp [intOf]; omega
                  cases f3
                  ·
                    clear q1
                    go_wp2
                    go_roundw
                    case rel => exact ⟨k + 1, x, by omega, by go_num, Lib.hid (by rw [HFL.out]; simp), by omega, H2⟩
                    case measure => simp [intOf]; omega
                  cases f4
                  ·
                    clear q1
                    go_wp2
                    go_roundw
                    case rel => exact ⟨k + 1, x, by omega, by go_num, Lib.hid (by rw [HFL.out]; simp), by omega, H2⟩
                    case measure => simp [intOf]; omega
                  go_wp2_with (at_builtin; refine wpList_app rfl _ _ 31 rfl 3 i0 _ 1 8 Tryd.underlying31 hi hz0 hz1 hz2 rfl (by decide) _ _ _ rfl (H2.alloc _) _ _ _ [.int .i64 (i : Int)] rfl (Rd.fresh wr _ #[.int .i64 (i : Int)] 1 1 rfl) oc1 (by unfold maxLen; omega) (by omega) ?_; intro v2 w2 H5; clear H2)
                  clear q1
                  have hx7 : ic (fc x) ++ [Value.int .i64 (i : Int)] = ic (fc (x ++ [i])) := by rw [fc_append, ic_append]; rfl
                  have H6 : Sep w w2 [Res.row v2 3 1 (x ++ [i]).length (ic (fc (x ++ [i]))), Res.row (.slice (some ⟨bo, oo, none⟩) o.length co) 3 1 o.length (ic (fc o))] := by
                    rw [← hx7, List.length_append]; exact H5
                  clear hx7 H5
                  go_roundw
                  case rel => exact ⟨k + 1, x ++ [i], by omega, by go_num, Lib.hid (by rw [HFL.out]; simp), by simp; omega, H6⟩
                  case measure => simp [intOf]; omega
            · obtain rfl : k = o.length := by omega
              have hx2 : x = stepW l o := by rw [HX.out, List.take_length]; rfl
              have hus : useW l (6 - (n + 1)) x = R := by
                rw [hx2, ← HU.out]
                rw [show 6 - n = (6 - (n + 1)) + 1 by omega]
                rfl
              have HUS := Lib.hid hus
              have hin2 : inT l x := by rw [hx2]; exact HIN.out.step
              have HIN2 := Lib.hid hin2
              have H2 := H.drop2
              clear hx2 hus hin2 H
              go_wp2
              go_roundw
              case rel => exact ⟨n + 1, x, by omega, by go_num, HUS, HIN2, by omega, H2⟩
              case measure => simp [intOf]; omega
        · obtain rfl : n = 6 := by omega
          obtain rfl : o = R := HU.out
          obtain ⟨Ao, co, rfl, _, _, _⟩ := Res.row_at H.h0
          go_wp2
          go_ret
          exact ⟨_, rfl, IntsIn.mk H.oi.1 (by rw [fc_length]) rfl, H.below⟩
end Go.Proofs.YtlfeognjnlppkaaDoor
