
/-
  The law's draw of a shape that is grown cell by cell, right or not.
-/
import Derived.Test.YtghpkfihdcjlaaaGreatDoorDrawReg
import Derived.Test.YtghpkfihdcjlaaaGreatDoorCellX
import Derived.Test.YtghpkfihdcjlaaaGreatDoorMotC
namespace Go.Proofs.YtghpkfihdcjlaaaGreatDoor
open Go.RowKit

/-- a thing that holds cells which can be read -/
def CellsBy (R : Res) (v : Value) (s : List Cell) : Prop := ∀ (w : World) (lo : Nat), R.holds w → (∀ b, R.dom b → lo ≤ b) → CellsRd w lo w.heap.size v s
theorem CellsBy.row {v : Value} {s : List Cell} (h : s.length ≤ 1048576) : CellsBy (Res.row v 46 2 s.length (cc s)) v s := fun w lo hw hd => by
  have hw : w.ownsRow 0 46 2 v s.length (cc s) := hw
  have h1 : w.ownsRow lo 46 2 v s.length (cc s) := ⟨hw.1, by
    rcases hw.2 with hn | ⟨g, cap, cur, rfl, hbg, rest⟩
    · exact .inl hn
    · exact .inr ⟨g, cap, cur, rfl, hd g (by simp [Res.row, Value.ownBlock]), rest⟩⟩
  obtain ⟨A, c, rfl, _, _, hr⟩ := own_rd h1
  exact ⟨A, c, rfl, by unfold maxLen; omega, hr⟩
theorem CellsBy.tail {b c : Nat} {s : List Cell} (h : s.length ≤ 1048576) (h1 : 1 ≤ s.length) : CellsBy (Res.row (.slice (some ⟨b, 0, none⟩) s.length c) 46 2 s.length (cc s)) (.slice (some ⟨b, 2, none⟩) (s.length - 1) (c - 1)) (s.drop 1) := fun w lo hw hd => by
  obtain ⟨A, c', e, _, hr⟩ := CellsBy.row h w lo hw hd
  injection e with e1 e2 e3
  subst e1
  obtain ⟨b2, o2, e4, h5, h6, hc⟩ := hr.2 (by omega)
  injection e4 with e4
  injection e4 with e4 e6
  subst e4
  subst e6
  have hd : (cc s).drop 2 = cc (s.drop 1) := by have := cc_drop (l := s) (k := 1) h1; simpa using this
  refine ⟨some ⟨b, 2, none⟩, c - 1, by rw [List.length_drop], by rw [List.length_drop]; unfold maxLen; omega, by rw [cc_length], fun hn => ⟨b, 2, rfl, h5, h6, fun j u hu => ?_⟩⟩
  have := hc (2 + j) u (by rw [← hd, List.getElem?_drop] at hu; exact hu)
  simpa using this
theorem CellsBy.tail1 {A : Option Addr} {s : List Cell} (h1 : s.length = 1) {R : Res} : CellsBy R (.slice A 0 0) (s.drop 1) := fun w lo _ _ =>
  ⟨A, 0, by rw [List.length_drop, h1], by rw [List.length_drop]; unfold maxLen; omega, by rw [cc_length], fun hn => by rw [List.length_drop] at hn; omega⟩
set_option maxRecDepth 100000 in
set_option maxHeartbeats 3200000 in
theorem l2Grow_c {g : Nat} {l : List UInt8} {w0 w : World} {L : List Res} (n : Nat) (hn1 : 1 ≤ n) (hn7 : n ≤ 7) (H : Cur w0 w g l L) :
    Calls Tryz.prog 76 #[.pointer (some ⟨g, 0, none⟩), .int .i64 n] w fun e w' => ∃ v s, e = .returned v ∧ 1 ≤ s.length ∧ s.length ≤ 7 ∧ Cur w0 w' g l (Res.row v 46 2 s.length (cc s) :: L) := by
  obtain ⟨i0, hi, hz0, hz1, hz2⟩ := info_parts infoCell
  have H0 : Cur w0 (w.alloc (.cells #[.int .i64 3, .int .i64 3] 46)) g l (Res.row (.slice (some ⟨w.heap.size, 0, none⟩) 1 1) 46 2 1 (cc [⟨3, 3⟩]) :: L) := H.map (fun X h => (h.rowBox 46 #[.int .i64 3, .int .i64 3] 2 1 rfl (by decide)).g1)
  clear H
  go_enter Tryz.func76, Tryz.ntmps76
  go_wp2
  go_loopw [5, 6] (fun sv iv wr => ∃ (k : Nat) (S : List Cell), 1 ≤ k ∧ iv = .int .i64 k ∧ k ≤ n ∧ S.length ≤ k ∧ 1 ≤ S.length ∧ Hid (∀ c ∈ S, On c) ∧ Cur w0 wr g l (Res.row sv 46 2 S.length (cc S) :: L)) (fun _ iv _ => n - (intOf iv).toNat)
  case atStart => exact ⟨1, [⟨3, 3⟩], Nat.le_refl _, rfl, hn1, Nat.le_refl _, Nat.le_refl _, Lib.hid (fun c hc => by simp at hc; subst hc; unfold On; decide), H0⟩
  case round =>
    clear H0
    obtain ⟨k, S, hk1, rfl, hkn, hSk, hS1, HON, H⟩ := hrel
    by_cases hlt : k < n
    · obtain ⟨b, o, c, rfl, hc1, hc2, hbw⟩ := own_shape H.sep.h0 (by omega)
      obtain ⟨rfl, _⟩ := own_blk H.sep.h0
      go_wp2_with fail
      refine (l1Below_c (S.length : Int) H (by omega)).mono ?_
      rintro e w5 ⟨x, rfl, hx1, hx2, _, H5⟩
      obtain ⟨j, rfl⟩ := Int.eq_ofNat_of_zero_le hx1
      have hj : j < S.length := by have := hx2 (by omega); omega
      have r0 := own_cell2 H5.sep.h0 (List.getElem?_eq_getElem hj)
      generalize S[j] = d at *
      obtain ⟨r0, r1⟩ := r0
      simp only [Nat.zero_add] at r0 r1
      have hj2 : (j : Int) < (S.length : Int) := by omega
      clear hx1 hx2 H
      have H6 := H5.map (fun X h => (h.box 46 #[.int .i64 d.x, .int .i64 d.y]).g1)
      clear H5
      go_wp2_with fail
      generalize w5.alloc (.cells #[.int .i64 d.x, .int .i64 d.y] 46) = w6 at *
      refine (l1Below_c 4 H6 (by omega)).mono ?_
      rintro e w7 ⟨y, rfl, hy1, hy2, _, H7⟩
      have x0 := H7.sep.h0.cell 0
      have x1 := H7.sep.h0.cell 1
      simp at x0 x1
      clear H6
      go_upto_region 8 with fail
      have H8 := H7.map (fun X h => (h.box 46 #[.int .i64 (wrap64 (d.x + (1 - y).tmod 2)), .int .i64 (wrap64 (d.y + (2 - y).tmod 2))]).g1)
      clear H7 x0 x1
      generalize wrap64 (d.x + (1 - y).tmod 2) = X at *
      generalize wrap64 (d.y + (2 - y).tmod 2) = Y at *
      generalize w7.alloc (.cells #[.int .i64 X, .int .i64 Y] 46) = w8 at *
      have z0 := H8.sep.h0.cell 0
      have z1 := H8.sep.h0.cell 1
      simp at z0 z1
      obtain ⟨M, hM⟩ : ∃ M, M = decide ((⟨X, Y⟩ : Cell) ∈ S) := ⟨_, rfl⟩
      have HHC := Lib.hid (spec_has2_c X Y w8 (CellsBy.row (by omega) w8 0 H8.sep.h2 (fun _ _ => Nat.zero_le _)) (by omega))
      rw [← hM] at HHC
      clear hM
      cases hx : inR X 0 7
      · clear HHC
        go_wp2_with (first
          | (go_at_call 41; refine (l1In_r _ _ _ _).mono ?_; rintro e w' ⟨rfl, rfl⟩; (try simp only [hx]); (try simp only [hy]))
          | (go_at_call 57; refine (HHC.out).mono ?_; rintro e w' ⟨rfl, rfl⟩)
          | fail)
        go_roundw
        case rel => exact ⟨k + 1, S, by omega, by go_num, by omega, by omega, hS1, HON, H8.map (fun X h => h.g1.drop.g1.drop)⟩
        case measure => simp [intOf]; omega
      · cases hy : inR Y 0 7
        · clear HHC
          go_wp2_with (first
            | (go_at_call 41; refine (l1In_r _ _ _ _).mono ?_; rintro e w' ⟨rfl, rfl⟩; (try simp only [hx]); (try simp only [hy]))
            | (go_at_call 57; refine (HHC.out).mono ?_; rintro e w' ⟨rfl, rfl⟩)
            | fail)
          go_roundw
          case rel => exact ⟨k + 1, S, by omega, by go_num, by omega, by omega, hS1, HON, H8.map (fun X h => h.g1.drop.g1.drop)⟩
          case measure => simp [intOf]; omega
        · cases M
          · have HX := Lib.hid hx
            have HY := Lib.hid hy
            obtain ⟨B, cb, ci, ch, e1, e2, e3, e4, e5, HS⟩ := H8
            have HS' := HS.g3
            clear HS
            go_wp2_with (first
              | (go_at_call 41; refine (l1In_r _ _ _ _).mono ?_; rintro e w' ⟨rfl, rfl⟩; (try simp only [hx]); (try simp only [hy]))
              | (go_at_call 57; refine (HHC.out).mono ?_; rintro e w' ⟨rfl, rfl⟩)
              | (at_builtin; refine wpList_app rfl _ _ 24 rfl 46 i0 _ 2 16 Tryz.underlying24 hi hz0 hz1 hz2 rfl (by decide) _ _ _ rfl (HS'.alloc _) _ _ _ [.int .i64 X, .int .i64 Y] rfl (Rd.fresh w8 _ #[.int .i64 X, .int .i64 Y] 2 1 rfl) oc2 (by unfold maxLen; omega) (by omega) ?_; intro v9 w9 H9)
              | fail)
            clear HS' HHC
            have hls : (S ++ [(⟨X, Y⟩ : Cell)]).length = S.length + 1 := by simp
            have hcc : cc S ++ [Value.int .i64 X, .int .i64 Y] = cc (S ++ [⟨X, Y⟩]) := by rw [cc_append]; rfl
            rw [hcc, ← hls] at H9
            go_roundw
            case rel => exact ⟨k + 1, S ++ [⟨X, Y⟩], by omega, by go_num, by omega, by omega, by omega, Lib.hid (fun c hc => by
              rcases List.mem_append.1 hc with hc | hc
              · exact HON.out c hc
              · rw [List.mem_singleton.1 hc]
                obtain ⟨q1, q2⟩ := inR_iff.1 HX.out
                obtain ⟨q3, q4⟩ := inR_iff.1 HY.out
                exact ⟨⟨q1, q2⟩, q3, q4⟩), B, cb, ci, ch, e1, e2, e3, e4, e5, H9.g1.g2.drop.g2.drop⟩
            case measure => simp [intOf]; omega
          · skip
            go_wp2_with (first
              | (go_at_call 41; refine (l1In_r _ _ _ _).mono ?_; rintro e w' ⟨rfl, rfl⟩; (try simp only [hx]); (try simp only [hy]))
              | (go_at_call 57; refine (HHC.out).mono ?_; rintro e w' ⟨rfl, rfl⟩)
              | fail)
            go_roundw
            case rel => exact ⟨k + 1, S, by omega, by go_num, by omega, by omega, hS1, HON, H8.map (fun X h => h.g1.drop.g1.drop)⟩
            case measure => simp [intOf]; omega
    · have HSC := Lib.hid (spec_sort_c wr (CellsBy.row (by omega) wr 0 H.sep.h0 (fun _ _ => Nat.zero_le _)) (by omega))
      have HS8 := Lib.hid (sortC_len (s := S))
      obtain ⟨T, hT⟩ : ∃ T, T = sortC S := ⟨_, rfl⟩
      have hT1 : 1 ≤ T.length := by
        obtain ⟨c, hc⟩ := List.exists_mem_of_length_pos (l := S) (by omega)
        have := List.length_pos_of_mem ((mem_sortC (s := S)).2 hc)
        rw [hT]; omega
      have hTl : T.length ≤ 7 := by have := HS8.out; rw [hT]; omega
      have hTs : ∀ c ∈ T, Sml 100 c := fun c hc => by
        rw [hT] at hc
        obtain ⟨⟨p1, p2⟩, p3, p4⟩ := HON.out c (mem_sortC.1 hc)
        exact ⟨⟨by omega, by omega⟩, ⟨by omega, by omega⟩⟩
      rw [← hT] at HSC
      have HTS := Lib.hid hTs
      clear hT hTs HS8
      obtain ⟨b, o, c, rfl, hc1, hc2, hbw⟩ := own_shape H.sep.h0 (by omega)
      go_wp2_with fail
      refine (HSC.out).mono ?_
      rintro e w2 ⟨v2, rfl, o2, b2⟩
      have H2 := H.map (fun X h => (h.oiNew b2 o2).g1)
      have HCC := Lib.hid (l2CornerB_c w2 (CellsBy.row (by omega) w2 0 H2.sep.h0 (fun _ _ => Nat.zero_le _)) hT1 (by omega) HTS.out)
      obtain ⟨U, hU⟩ : ∃ U, U = corner T := ⟨_, rfl⟩
      have hUl : U.length = T.length := by rw [hU]; unfold corner; rw [shift_length]
      rw [← hU] at HCC
      have HUL := Lib.hid hUl
      obtain ⟨A2, c2, rfl, _, _, _⟩ := Res.row_at H2.sep.h0
      clear hU hUl H o2 b2 HSC
      go_wp2_with fail
      refine (HCC.out).mono ?_
      rintro e w3 ⟨v3, rfl, o3, b3⟩
      have H3 := H2.map (fun X h => (h.oiNew b3 o3).g1.g2.drop.g2.drop)
      clear H2 o3 b3
      go_wp2
      go_ret
      exact ⟨_, U, rfl, by rw [HUL.out]; omega, by rw [HUL.out]; omega, H3⟩
set_option maxRecDepth 100000 in
set_option maxHeartbeats 800000 in
theorem l2Shape_c {g : Nat} {l : List UInt8} {w0 w : World} {L : List Res} (H : Cur w0 w g l L) :
    Calls Tryz.prog 67 #[.pointer (some ⟨g, 0, none⟩)] w fun e w' => ∃ v s, e = .returned v ∧ 1 ≤ s.length ∧ s.length ≤ 7 ∧ Cur w0 w' g l (Res.row v 46 2 s.length (cc s) :: L) := by
  go_enter Tryz.func67, Tryz.ntmps67
  go_wp2_with fail
  refine (l1Below_c 7 H (by omega)).mono ?_
  rintro e w1 ⟨x, rfl, hx1, hx2, _, H1⟩
  obtain ⟨n, hn⟩ : ∃ n : Nat, (n : Int) = 1 + x := ⟨(1 + x).toNat, by omega⟩
  have hn7 : 1 ≤ n ∧ n ≤ 7 := by have := hx2 (by omega); omega
  have HN := Lib.hid hn
  clear hx1 hx2 H
  go_wp2_with fail
  rw [← HN.out]
  refine (l2Grow_c n hn7.1 hn7.2 H1).mono ?_
  rintro e w2 ⟨v, s, rfl, h1, h2, H2⟩
  clear H1
  go_wp2
  go_ret
  exact ⟨v, s, rfl, h1, h2, H2⟩
set_option maxRecDepth 100000 in
set_option maxHeartbeats 3200000 in
theorem l2Any_c {g : Nat} {l : List UInt8} {w0 w : World} {L : List Res} (H : Cur w0 w g l L) :
    Calls Tryz.prog 50 #[.pointer (some ⟨g, 0, none⟩)] w fun e w' => ∃ v s R, e = .returned v ∧ s.length ≤ 8 ∧ CellsBy R v s ∧ Cur w0 w' g l (R :: L) := by
  obtain ⟨i0, hi, hz0, hz1, hz2⟩ := info_parts infoCell
  go_enter Tryz.func50, Tryz.ntmps50
  go_wp2_with fail
  refine (l2Shape_c H).mono ?_
  rintro e w1 ⟨v, s, rfl, hs1, hs7, H1⟩
  clear H
  go_wp2_with fail
  refine (l1Below_c 12 H1 (by omega)).mono ?_
  rintro e w2 ⟨q, rfl, hq1, hq2, _, H2⟩
  clear H1 hq2
  obtain ⟨b, o, c, rfl, hc1, hc2, hbw⟩ := own_shape H2.sep.h0 (by omega)
  obtain ⟨rfl, _⟩ := own_blk H2.sep.h0
  by_cases h0 : q = 0
  · subst h0
    go_wp2_with fail
    refine (l1Below_c 9 H2 (by omega)).mono ?_
    rintro e w3 ⟨x, rfl, hx1, hx2, _, H3⟩
    have hx3 := hx2 (by omega)
    clear hx2
    go_wp2_with fail
    refine (l1Below_c 9 H3 (by omega)).mono ?_
    rintro e w4 ⟨y, rfl, hy1, hy2, _, H4⟩
    clear H3 hy2
    obtain ⟨B, cb, ci, ch, e1, e2, e3, e4, e5, HS⟩ := H4
    have HS' := HS.g1
    clear HS
    go_wp2_with (at_builtin; refine wpList_app rfl _ _ 24 rfl 46 i0 _ 2 16 Tryz.underlying24 hi hz0 hz1 hz2 rfl (by decide) _ _ _ rfl (HS'.alloc _) _ _ _ [.int .i64 (x - 1), .int .i64 y] rfl (Rd.fresh w4 _ #[.int .i64 (x - 1), .int .i64 y] 2 1 rfl) oc2 (by unfold maxLen; omega) (by omega) ?_; intro v5 w5 H5)
    clear HS'
    have hls : (s ++ [(⟨(x - 1), y⟩ : Cell)]).length = s.length + 1 := by simp
    have hcc : cc s ++ [Value.int .i64 (x - 1), .int .i64 y] = cc (s ++ [⟨(x - 1), y⟩]) := by rw [cc_append]; rfl
    rw [hcc, ← hls] at H5
    go_wp2
    go_ret
    exact ⟨_, _, _, rfl, by omega, CellsBy.row (by omega), B, cb, ci, ch, e1, e2, e3, e4, e5, H5.g1⟩
  · by_cases h1 : q = 1
    · subst h1
      go_wp2_with fail
      refine (l1Below_c 8 H2 (by omega)).mono ?_
      rintro e w3 ⟨x, rfl, hx1, hx2, _, H3⟩
      have hx3 := hx2 (by omega)
      clear hx2
      go_wp2_with fail
      refine (l1Below_c 8 H3 (by omega)).mono ?_
      rintro e w4 ⟨y, rfl, hy1, hy2, _, H4⟩
      clear H3 hy2
      obtain ⟨B, cb, ci, ch, e1, e2, e3, e4, e5, HS⟩ := H4
      have HS' := HS.g1
      clear HS
      go_wp2_with (at_builtin; refine wpList_app rfl _ _ 24 rfl 46 i0 _ 2 16 Tryz.underlying24 hi hz0 hz1 hz2 rfl (by decide) _ _ _ rfl (HS'.alloc _) _ _ _ [.int .i64 x, .int .i64 y] rfl (Rd.fresh w4 _ #[.int .i64 x, .int .i64 y] 2 1 rfl) oc2 (by unfold maxLen; omega) (by omega) ?_; intro v5 w5 H5)
      clear HS'
      have hls : (s ++ [(⟨x, y⟩ : Cell)]).length = s.length + 1 := by simp
      have hcc : cc s ++ [Value.int .i64 x, .int .i64 y] = cc (s ++ [⟨x, y⟩]) := by rw [cc_append]; rfl
      rw [hcc, ← hls] at H5
      have HSC := Lib.hid (spec_sort_c w5 (CellsBy.row (by omega) w5 0 H5.h0 (fun _ _ => Nat.zero_le _)) (by omega))
      obtain ⟨S, hS⟩ : ∃ S, S = sortC (s ++ [(⟨x, y⟩ : Cell)]) := ⟨_, rfl⟩
      have hSl : S.length ≤ 8 := by rw [hS]; have := sortC_len (s := s ++ [(⟨x, y⟩ : Cell)]); omega
      rw [← hS] at HSC
      clear hS hcc
      obtain ⟨A5, c5, rfl, _, _, _⟩ := Res.row_at H5.h0
      rw [hls] at HSC ⊢
      go_wp2_with fail
      refine (HSC.out).mono ?_
      rintro e w6 ⟨v6, rfl, o6, b6⟩
      have H6 := H5.oiNew b6 o6
      clear H5 o6 b6
      go_wp2
      go_ret
      exact ⟨_, _, _, rfl, by omega, CellsBy.row (by omega), B, cb, ci, ch, e1, e2, e3, e4, e5, H6.g2.onTail (L' := Res.row v6 46 2 S.length (cc S) :: L) (by intro q; simp only [List.mem_cons]; grind) (H6.g1.drop.g1.drop)⟩
    · by_cases h2 : q = 2
      · subst h2
        by_cases hc : c = 1
        · subst hc
          go_wp2
          go_ret
          exact ⟨_, s.drop 1, _, rfl, by rw [List.length_drop]; omega, CellsBy.tail1 (s := s) (by omega), H2⟩
        · go_wp2
          go_ret
          exact ⟨_, s.drop 1, _, rfl, by rw [List.length_drop]; omega, CellsBy.tail (s := s) (by omega) (by omega), H2⟩
      · by_cases h3 : q = 3
        · subst h3
          have H3 := H2.map (fun X h => (h.rowBox 3 #[.int .i64 (-1), .int .i64 8, .int .i64 9223372036854775807] 1 3 rfl (by decide)).g1)
          clear H2
          go_wp2_with fail
          refine (l1Pick_c (n := 3) (b := w2.heap.size) (xs := [-1, 8, 9223372036854775807]) rfl (by omega) (by omega) H3).mono ?_
          rintro e w5 ⟨x, rfl, hx, H5⟩
          have H6 := H5.map (fun X h => h.g1.drop)
          clear H3 H5 hx
          obtain ⟨d, t, rfl⟩ : ∃ d t, s = d :: t := by
            cases s with
            | nil => simp at hs1
            | cons d t => exact ⟨d, t, rfl⟩
          obtain ⟨r0, r1⟩ := own_cell2 (j := 0) (u := d) H6.sep.h0 rfl
          have fr := own_free H6.sep.h0 0
          simp only [Nat.zero_mul, Nat.add_zero, Nat.zero_add] at r0 r1 fr
          have H7 := H6.map (fun X h => (h.g1.setRow (j := 0) (by rw [cc_length]; omega) (.int .i64 x)).g1)
          have hcc : (cc (d :: t)).set 0 (.int .i64 x) = cc (⟨x, d.y⟩ :: t) := rfl
          rw [hcc] at H7
          simp only [Nat.add_zero] at H7
          obtain ⟨n, hn⟩ : ∃ n, n = (d :: t).length := ⟨_, rfl⟩
          have hn2 : (({ x := x, y := d.y } : Cell) :: t).length = n := hn.symm
          rw [← hn] at H7 hs1 hs7 ⊢
          have h0n : (0 : Int) < (n : Int) := by omega
          have HN := Lib.hid hn2
          clear hn hn2 H6 hcc
          go_wp2
          go_ret
          exact ⟨_, ⟨x, d.y⟩ :: t, _, rfl, by rw [HN.out]; omega, CellsBy.row (by rw [HN.out]; omega), by rw [HN.out]; exact H7⟩
        · have b0 : (q == 0) = false := by simp [h0]
          have b1 : (q == 1) = false := by simp [h1]
          have b2 : (q == 2) = false := by simp [h2]
          have b3 : (q == 3) = false := by simp [h3]
          go_wp2
          go_ret
          exact ⟨_, s, _, rfl, by omega, CellsBy.row (by omega), H2⟩
end Go.Proofs.YtghpkfihdcjlaaaGreatDoor
