
/-
  The walk of the program's 'SpanningTable': width 4.
-/
import Derived.Test.YtjmeplchabehfaaSpanTab
import Derived.Test.YtjmeplchabehfaaRegCopy
import Derived.Test.YtjmeplchabehfaaWayS
import Derived.IntWalk
namespace Go.Proofs.Ytjmeplchabehfaa
open Go.RowKit

set_option maxRecDepth 100000 in
set_option maxHeartbeats 400000 in
theorem emptyGrid_4_1 (w : World) :
    Calls Try.prog 104 #[.int .i64 4, .int .i64 1] w fun e w' => ∃ A c, e = .returned (.agg #[.int .i64 4, .slice A 1 c]) ∧ OI w' w.heap.size w'.heap.size 3 1 (.slice A 1 c) 1 (ic (List.replicate 1 0)) ∧ Below w.heap.size w w' := by
  obtain ⟨j0, hj, y0, y1, y2⟩ := info_parts infoIntC
  have hmk : ∀ W, (Instr.makeSlice 22 (.int .i64 1) (.int .i64 1)).run Try.prog W = .ok (.slice (some ⟨W.heap.size, 0, none⟩) 1 1) (W.alloc (.cells (madeCells #[.int .i64 0] 1) 3)) := fun W => by
    have := run_make_rowN (P := Try.prog) 22 3 j0 _ Try.underlying22 hj y0 .i64 .i64 1 1 (Nat.le_refl _) (by rw [y2]; omega) (by omega) W
    rw [y1] at this
    exact this
  have H := ((Sep.start w).box 31 #[.int .i64 4, .slice (some ⟨w.heap.size + 1, 0, none⟩) 1 1]).rowBox 3 (madeCells #[.int .i64 0] 1) 1 1 (by rw [size_madeCells]) (by decide)
  simp only [World.size_alloc] at H
  go_enter Try.func104, Try.ntmps104
  go_wp2
  refine bodyPost_ret (v := .agg #[.int .i64 4, .slice (some ⟨w.heap.size + 1, 0, none⟩) 1 1]) (by simp [results, Try.results104, go_sem]) rfl ⟨_, _, rfl, ?_, H.below⟩
  have := H.oi
  rw [toList_madeCells_one] at this
  exact this

set_option maxRecDepth 100000 in
set_option maxHeartbeats 3200000 in
theorem impl_tab_4_1 (w : World) :
    Calls Try.prog 42 #[.int .i64 4, .int .i64 1] w fun e w' => ∃ v, e = .returned v ∧ IntsIn w' w.heap.size w'.heap.size v (spanTab 4 1) ∧ Below w.heap.size w w' := by
  obtain ⟨j0, hj0, hy0, hy1, hy2⟩ := info_parts infoIntC
  have hmk : ∀ W, (Instr.makeSlice 22 (.int .i64 5) (.int .i64 5)).run Try.prog W = .ok (.slice (some ⟨W.heap.size, 0, none⟩) 5 5) (W.alloc (.cells (madeCells #[.int .i64 0] 5) 3)) := fun W => by
    have := run_make_rowN (P := Try.prog) 22 3 j0 _ Try.underlying22 hj0 hy0 .i64 .i64 5 5 (Nat.le_refl _) (by rw [hy2]; omega) (by omega) W
    rw [hy1] at this
    exact this
  have H := (Sep.start w).rowBox 3 (madeCells #[.int .i64 0] 5) 1 5 (by rw [size_madeCells]) (by decide)
  rw [toList_madeCells_one] at H
  have hr1 : inR 4 1 4 = true := by decide
  have hr2 : inR 1 1 4 = true := by decide
  obtain ⟨R, hR⟩ : ∃ R, R = spanTab 4 1 := ⟨_, rfl⟩
  rw [← hR]
  have HR := Lib.hid hR
  clear hR
  go_enter Try.func42, Try.ntmps42
  go_wp2_with (go_at_call 94; refine (between_r _ _ _ _).mono ?_; rintro e w' ⟨rfl, rfl⟩)
  clear hmk hr1 hr2
  generalize w.alloc (.cells (madeCells #[.int .i64 0] 5) 3) = W at *
  go_loopw [32] (fun i wr => ∃ k : Nat, k ≤ 16 ∧ i = .int .i64 k ∧ Sep w wr [Res.row (.slice (some ⟨w.heap.size, 0, none⟩) 5 5) 3 1 5 (ic (tabTo 4 1 k))]) (fun i _ => 16 - (intOf i).toNat)
  case atStart => exact ⟨0, by omega, rfl, H⟩
  case round =>
    clear H
    obtain ⟨k, hk, rfl, H⟩ := hrel
    by_cases hlt : k < 16
    · go_wp2_with fail
      refine (emptyGrid_4_1 wr).mono ?_
      rintro e w1 ⟨A, c, rfl, o1, b1⟩
      have H1 := (H.oiNew b1 o1).box 31 #[.int .i64 4, .slice A 1 c]
      obtain ⟨bs, os, cs, he, _, _, hbs⟩ := own_shape H1.h1 (by omega)
      injection he with he1 _ he3
      subst he1 he3
      clear b1 o1 H
      go_wp2
      generalize w1.alloc (.cells #[.int .i64 4, .slice (some ⟨bs, os, none⟩) 1 c] 31) = wa at *
      go_loopw [39] (fun i wr => ∃ j : Nat, j ≤ 1 ∧ i = .int .i64 j ∧ Sep w wr [Res.box w1.heap.size 31 #[.int .i64 4, .slice (some ⟨bs, os, none⟩) 1 c], Res.row (.slice (some ⟨bs, os, none⟩) 1 c) 3 1 1 (ic (regTo 4 k j ++ List.replicate (1 - j) 0)), Res.row (.slice (some ⟨w.heap.size, 0, none⟩) 5 5) 3 1 5 (ic (tabTo 4 1 k))]) (fun i _ => 1 - (intOf i).toNat)
      case atStart => exact ⟨0, by omega, rfl, H1⟩
      case round =>
        clear H1
        obtain ⟨j, hj, rfl, H⟩ := hrel
        by_cases hlj : j < 1
        · have x0 := H.h0.cell 0
          have x1 := H.h0.cell 1
          simp at x0 x1
          have hjj : j = 0 := by omega
          rcases hjj with rfl
          · have hval : bits .and .i64 (k : Int) 15 = maskRow 4 k 0 := by
              have := i64_and_nat (k / 1) 15 (by omega) (by decide)
              rw [Nat.div_one] at this
              rw [show (15 : Nat) = 2 ^ 4 - 1 from rfl, Nat.and_two_pow_sub_one_eq_mod] at this
              unfold maskRow
              simpa using this
            have HVAL := Lib.hid hval
            have r0 := own_cell1 (u := 0) (j := 0) H.h1 (by simp [regTo])
            simp only [Nat.add_zero] at r0
            clear hval
            have hw0 : IntKind.i64.wrap 0 = 0 := rfl
            go_wp2_with fail
            go_still_tail 13, (by kernel_rfl)
            clear hw0
            change wpList _ _ _ _ _ wr.drew
            have H6 := H.drew
            clear x0 x1 r0 H
            generalize wr.drew = w5 at *
            have r0 := own_cell1 (u := 0) (j := 0) H6.h1 (by simp [regTo])
            have fr := own_free H6.h1 0
            simp only [Nat.add_zero] at r0 fr
            have H7 := (H6.g1.setRow (j := 0) (by simp [ic, regTo]) (.int .i64 (maskRow 4 k 0))).p1
            have e : (regTo 4 k 0 ++ List.replicate (1 - 0) (0 : Int)).set 0 (maskRow 4 k 0) = regTo 4 k 1 ++ List.replicate (1 - 1) 0 := rfl
            rw [ic_set, e] at H7
            clear e
            simp only [Nat.add_zero] at H7
            go_wp2
            go_roundw
            case rel => exact ⟨1, by omega, rfl, by rw [HVAL.out]; exact H7⟩
            case measure => simp [intOf]
        · obtain rfl : j = 1 := by omega
          have x0 := H.h0.cell 0
          have x1 := H.h0.cell 1
          simp at x0 x1
          have hrd : RegRd wr 0 wr.heap.size (.agg #[.int .i64 4, .slice (some ⟨bs, os, none⟩) 1 c]) (regOf 4 1 k) := by
            have := (H.g1.oi.sr).more (Nat.zero_le _) (Nat.le_refl _)
            exact ⟨_, rfl, this⟩
          go_wp2_with fail
          clear x0 x1
          refine (impl_isspanning_c (r := regOf 4 1 k) wr hrd).mono ?_
          rintro e w4 ⟨rfl, b4⟩
          have H4 := (H.step b4).drop.drop
          clear b4 H hrd
          cases hsp : (regOf 4 1 k).spanWay.isSome
          · have ht : tabTo 4 1 (k + 1) = tabTo 4 1 k := by rw [tabTo, hsp]; rfl
            have HT := Lib.hid ht
            clear ht hsp
            go_wp2
            go_roundw
            case rel => exact ⟨k + 1, by omega, by go_num, by rw [HT.out]; exact H4⟩
            case measure => simp [intOf]; omega
          · have ht : tabTo 4 1 (k + 1) = bump (tabTo 4 1 k) (popc k) := by rw [tabTo, hsp]; rfl
            have HT := Lib.hid ht
            have hpl := popc_lt (w := 4) (h := 1) (m := k) (by decide) hlt
            have hp13 := popc_le k
            have htl := tabTo_length (w := 4) (h := 1) k
            have hcell := List.getElem?_eq_getElem (show popc k < (tabTo 4 1 k).length by omega)
            have hbd := tabTo_bd (w := 4) (h := 1) k _ (List.getElem_mem (show popc k < (tabTo 4 1 k).length by omega))
            obtain ⟨a, ha⟩ : ∃ a, a = (tabTo 4 1 k)[popc k]'(by omega) := ⟨_, rfl⟩
            rw [← ha] at hcell hbd
            have hb : bump (tabTo 4 1 k) (popc k) = (tabTo 4 1 k).set (popc k) (a + 1) := by
              unfold bump
              rw [List.getD, hcell]; rfl
            have HB := Lib.hid hb
            have HCELL := Lib.hid hcell
            obtain ⟨hb1, hb2⟩ := hbd
            have hones := ones_c k
            have HONES := Lib.hid hones
            have HTL := Lib.hid htl
            obtain ⟨p, hp⟩ : ∃ p, p = popc k := ⟨_, rfl⟩
            rw [← hp] at HB HCELL HT HONES hpl hp13
            have hp13i : (p : Int) < 5 := by omega
            have hp0i : (0 : Int) ≤ (p : Int) := Int.natCast_nonneg _
            have hki : (0 : Int) ≤ (k : Int) := Int.natCast_nonneg _
            have hkN : (k : Int) < 4096 := by omega
            clear ht hsp ha hb hcell hones htl hp
            have r0 := own_cell1 H4.h0 HCELL.out
            have fr := own_free H4.h0 p
            simp only [Nat.zero_add] at r0 fr
            go_wp2_with (go_at_call 105; refine (HONES.out _ (by omega)).mono ?_; rintro e w' ⟨rfl, rfl⟩)
            have H7 := H4.setRow (j := p) (by rw [ic_length, HTL.out]; omega) (.int .i64 (a + 1))
            rw [ic_set, ← HB.out, ← HT.out] at H7
            simp only [Nat.zero_add] at H7
            go_roundw
            case rel => exact ⟨k + 1, by omega, by go_num, H7⟩
            case measure => simp [intOf]; omega
    · obtain rfl : k = 16 := by omega
      have hre : R = tabTo 4 1 16 := HR.out
      have HRE := Lib.hid hre
      clear hre
      go_wp2
      go_ret
      rw [HRE.out]
      refine ⟨_, rfl, ?_, H.below⟩
      have := H.oi
      unfold IntsIn
      rw [tabTo_length]
      exact this

set_option maxRecDepth 100000 in
set_option maxHeartbeats 400000 in
theorem emptyGrid_4_2 (w : World) :
    Calls Try.prog 104 #[.int .i64 4, .int .i64 2] w fun e w' => ∃ A c, e = .returned (.agg #[.int .i64 4, .slice A 2 c]) ∧ OI w' w.heap.size w'.heap.size 3 1 (.slice A 2 c) 2 (ic (List.replicate 2 0)) ∧ Below w.heap.size w w' := by
  obtain ⟨j0, hj, y0, y1, y2⟩ := info_parts infoIntC
  have hmk : ∀ W, (Instr.makeSlice 22 (.int .i64 2) (.int .i64 2)).run Try.prog W = .ok (.slice (some ⟨W.heap.size, 0, none⟩) 2 2) (W.alloc (.cells (madeCells #[.int .i64 0] 2) 3)) := fun W => by
    have := run_make_rowN (P := Try.prog) 22 3 j0 _ Try.underlying22 hj y0 .i64 .i64 2 2 (Nat.le_refl _) (by rw [y2]; omega) (by omega) W
    rw [y1] at this
    exact this
  have H := ((Sep.start w).box 31 #[.int .i64 4, .slice (some ⟨w.heap.size + 1, 0, none⟩) 2 2]).rowBox 3 (madeCells #[.int .i64 0] 2) 1 2 (by rw [size_madeCells]) (by decide)
  simp only [World.size_alloc] at H
  go_enter Try.func104, Try.ntmps104
  go_wp2
  refine bodyPost_ret (v := .agg #[.int .i64 4, .slice (some ⟨w.heap.size + 1, 0, none⟩) 2 2]) (by simp [results, Try.results104, go_sem]) rfl ⟨_, _, rfl, ?_, H.below⟩
  have := H.oi
  rw [toList_madeCells_one] at this
  exact this

set_option maxRecDepth 100000 in
set_option maxHeartbeats 3200000 in
theorem impl_tab_4_2 (w : World) :
    Calls Try.prog 42 #[.int .i64 4, .int .i64 2] w fun e w' => ∃ v, e = .returned v ∧ IntsIn w' w.heap.size w'.heap.size v (spanTab 4 2) ∧ Below w.heap.size w w' := by
  obtain ⟨j0, hj0, hy0, hy1, hy2⟩ := info_parts infoIntC
  have hmk : ∀ W, (Instr.makeSlice 22 (.int .i64 9) (.int .i64 9)).run Try.prog W = .ok (.slice (some ⟨W.heap.size, 0, none⟩) 9 9) (W.alloc (.cells (madeCells #[.int .i64 0] 9) 3)) := fun W => by
    have := run_make_rowN (P := Try.prog) 22 3 j0 _ Try.underlying22 hj0 hy0 .i64 .i64 9 9 (Nat.le_refl _) (by rw [hy2]; omega) (by omega) W
    rw [hy1] at this
    exact this
  have H := (Sep.start w).rowBox 3 (madeCells #[.int .i64 0] 9) 1 9 (by rw [size_madeCells]) (by decide)
  rw [toList_madeCells_one] at H
  have hr1 : inR 4 1 4 = true := by decide
  have hr2 : inR 2 1 4 = true := by decide
  obtain ⟨R, hR⟩ : ∃ R, R = spanTab 4 2 := ⟨_, rfl⟩
  rw [← hR]
  have HR := Lib.hid hR
  clear hR
  go_enter Try.func42, Try.ntmps42
  go_wp2_with (go_at_call 94; refine (between_r _ _ _ _).mono ?_; rintro e w' ⟨rfl, rfl⟩)
  clear hmk hr1 hr2
  generalize w.alloc (.cells (madeCells #[.int .i64 0] 9) 3) = W at *
  go_loopw [32] (fun i wr => ∃ k : Nat, k ≤ 256 ∧ i = .int .i64 k ∧ Sep w wr [Res.row (.slice (some ⟨w.heap.size, 0, none⟩) 9 9) 3 1 9 (ic (tabTo 4 2 k))]) (fun i _ => 256 - (intOf i).toNat)
  case atStart => exact ⟨0, by omega, rfl, H⟩
  case round =>
    clear H
    obtain ⟨k, hk, rfl, H⟩ := hrel
    by_cases hlt : k < 256
    · go_wp2_with fail
      refine (emptyGrid_4_2 wr).mono ?_
      rintro e w1 ⟨A, c, rfl, o1, b1⟩
      have H1 := (H.oiNew b1 o1).box 31 #[.int .i64 4, .slice A 2 c]
      obtain ⟨bs, os, cs, he, _, _, hbs⟩ := own_shape H1.h1 (by omega)
      injection he with he1 _ he3
      subst he1 he3
      clear b1 o1 H
      go_wp2
      generalize w1.alloc (.cells #[.int .i64 4, .slice (some ⟨bs, os, none⟩) 2 c] 31) = wa at *
      go_loopw [39] (fun i wr => ∃ j : Nat, j ≤ 2 ∧ i = .int .i64 j ∧ Sep w wr [Res.box w1.heap.size 31 #[.int .i64 4, .slice (some ⟨bs, os, none⟩) 2 c], Res.row (.slice (some ⟨bs, os, none⟩) 2 c) 3 1 2 (ic (regTo 4 k j ++ List.replicate (2 - j) 0)), Res.row (.slice (some ⟨w.heap.size, 0, none⟩) 9 9) 3 1 9 (ic (tabTo 4 2 k))]) (fun i _ => 2 - (intOf i).toNat)
      case atStart => exact ⟨0, by omega, rfl, H1⟩
      case round =>
        clear H1
        obtain ⟨j, hj, rfl, H⟩ := hrel
        by_cases hlj : j < 2
        · have x0 := H.h0.cell 0
          have x1 := H.h0.cell 1
          simp at x0 x1
          have hjj : j = 0 ∨ j = 1 := by omega
          rcases hjj with rfl | rfl
          · have hval : bits .and .i64 (k : Int) 15 = maskRow 4 k 0 := by
              have := i64_and_nat (k / 1) 15 (by omega) (by decide)
              rw [Nat.div_one] at this
              rw [show (15 : Nat) = 2 ^ 4 - 1 from rfl, Nat.and_two_pow_sub_one_eq_mod] at this
              unfold maskRow
              simpa using this
            have HVAL := Lib.hid hval
            have r0 := own_cell1 (u := 0) (j := 0) H.h1 (by simp [regTo])
            simp only [Nat.add_zero] at r0
            clear hval
            have hw0 : IntKind.i64.wrap 0 = 0 := rfl
            go_wp2_with fail
            go_still_tail 13, (by kernel_rfl)
            clear hw0
            change wpList _ _ _ _ _ wr.drew
            have H6 := H.drew
            clear x0 x1 r0 H
            generalize wr.drew = w5 at *
            have r0 := own_cell1 (u := 0) (j := 0) H6.h1 (by simp [regTo])
            have fr := own_free H6.h1 0
            simp only [Nat.add_zero] at r0 fr
            have H7 := (H6.g1.setRow (j := 0) (by simp [ic, regTo]) (.int .i64 (maskRow 4 k 0))).p1
            have e : (regTo 4 k 0 ++ List.replicate (2 - 0) (0 : Int)).set 0 (maskRow 4 k 0) = regTo 4 k 1 ++ List.replicate (2 - 1) 0 := rfl
            rw [ic_set, e] at H7
            clear e
            simp only [Nat.add_zero] at H7
            go_wp2
            go_roundw
            case rel => exact ⟨1, by omega, rfl, by rw [HVAL.out]; exact H7⟩
            case measure => simp [intOf]
          · have hval : bits .and .i64 ((k : Int) / 16) 15 = maskRow 4 k 1 := by
              have := i64_and_nat (k / 16) 15 (by omega) (by decide)
              simp only [Int.natCast_ediv] at this
              rw [show (15 : Nat) = 2 ^ 4 - 1 from rfl, Nat.and_two_pow_sub_one_eq_mod] at this
              unfold maskRow
              simpa using this
            have HVAL := Lib.hid hval
            have r0 := own_cell1 (u := 0) (j := 1) H.h1 (by simp [regTo])
            clear hval
            have hw0 : IntKind.i64.wrap 4 = 4 := rfl
            go_wp2_with fail
            go_still_tail 13, (by kernel_rfl)
            clear hw0
            change wpList _ _ _ _ _ wr.drew
            have H6 := H.drew
            clear x0 x1 r0 H
            generalize wr.drew = w5 at *
            have r0 := own_cell1 (u := 0) (j := 1) H6.h1 (by simp [regTo])
            have fr := own_free H6.h1 1
            have H7 := (H6.g1.setRow (j := 1) (by simp [ic, regTo]) (.int .i64 (maskRow 4 k 1))).p1
            have e : (regTo 4 k 1 ++ List.replicate (2 - 1) (0 : Int)).set 1 (maskRow 4 k 1) = regTo 4 k 2 ++ List.replicate (2 - 2) 0 := rfl
            rw [ic_set, e] at H7
            clear e
            go_wp2
            go_roundw
            case rel => exact ⟨2, by omega, rfl, by rw [HVAL.out]; exact H7⟩
            case measure => simp [intOf]
        · obtain rfl : j = 2 := by omega
          have x0 := H.h0.cell 0
          have x1 := H.h0.cell 1
          simp at x0 x1
          have hrd : RegRd wr 0 wr.heap.size (.agg #[.int .i64 4, .slice (some ⟨bs, os, none⟩) 2 c]) (regOf 4 2 k) := by
            have := (H.g1.oi.sr).more (Nat.zero_le _) (Nat.le_refl _)
            exact ⟨_, rfl, this⟩
          go_wp2_with fail
          clear x0 x1
          refine (impl_isspanning_c (r := regOf 4 2 k) wr hrd).mono ?_
          rintro e w4 ⟨rfl, b4⟩
          have H4 := (H.step b4).drop.drop
          clear b4 H hrd
          cases hsp : (regOf 4 2 k).spanWay.isSome
          · have ht : tabTo 4 2 (k + 1) = tabTo 4 2 k := by rw [tabTo, hsp]; rfl
            have HT := Lib.hid ht
            clear ht hsp
            go_wp2
            go_roundw
            case rel => exact ⟨k + 1, by omega, by go_num, by rw [HT.out]; exact H4⟩
            case measure => simp [intOf]; omega
          · have ht : tabTo 4 2 (k + 1) = bump (tabTo 4 2 k) (popc k) := by rw [tabTo, hsp]; rfl
            have HT := Lib.hid ht
            have hpl := popc_lt (w := 4) (h := 2) (m := k) (by decide) hlt
            have hp13 := popc_le k
            have htl := tabTo_length (w := 4) (h := 2) k
            have hcell := List.getElem?_eq_getElem (show popc k < (tabTo 4 2 k).length by omega)
            have hbd := tabTo_bd (w := 4) (h := 2) k _ (List.getElem_mem (show popc k < (tabTo 4 2 k).length by omega))
            obtain ⟨a, ha⟩ : ∃ a, a = (tabTo 4 2 k)[popc k]'(by omega) := ⟨_, rfl⟩
            rw [← ha] at hcell hbd
            have hb : bump (tabTo 4 2 k) (popc k) = (tabTo 4 2 k).set (popc k) (a + 1) := by
              unfold bump
              rw [List.getD, hcell]; rfl
            have HB := Lib.hid hb
            have HCELL := Lib.hid hcell
            obtain ⟨hb1, hb2⟩ := hbd
            have hones := ones_c k
            have HONES := Lib.hid hones
            have HTL := Lib.hid htl
            obtain ⟨p, hp⟩ : ∃ p, p = popc k := ⟨_, rfl⟩
            rw [← hp] at HB HCELL HT HONES hpl hp13
            have hp13i : (p : Int) < 9 := by omega
            have hp0i : (0 : Int) ≤ (p : Int) := Int.natCast_nonneg _
            have hki : (0 : Int) ≤ (k : Int) := Int.natCast_nonneg _
            have hkN : (k : Int) < 4096 := by omega
            clear ht hsp ha hb hcell hones htl hp
            have r0 := own_cell1 H4.h0 HCELL.out
            have fr := own_free H4.h0 p
            simp only [Nat.zero_add] at r0 fr
            go_wp2_with (go_at_call 105; refine (HONES.out _ (by omega)).mono ?_; rintro e w' ⟨rfl, rfl⟩)
            have H7 := H4.setRow (j := p) (by rw [ic_length, HTL.out]; omega) (.int .i64 (a + 1))
            rw [ic_set, ← HB.out, ← HT.out] at H7
            simp only [Nat.zero_add] at H7
            go_roundw
            case rel => exact ⟨k + 1, by omega, by go_num, H7⟩
            case measure => simp [intOf]; omega
    · obtain rfl : k = 256 := by omega
      have hre : R = tabTo 4 2 256 := HR.out
      have HRE := Lib.hid hre
      clear hre
      go_wp2
      go_ret
      rw [HRE.out]
      refine ⟨_, rfl, ?_, H.below⟩
      have := H.oi
      unfold IntsIn
      rw [tabTo_length]
      exact this

set_option maxRecDepth 100000 in
set_option maxHeartbeats 400000 in
theorem emptyGrid_4_3 (w : World) :
    Calls Try.prog 104 #[.int .i64 4, .int .i64 3] w fun e w' => ∃ A c, e = .returned (.agg #[.int .i64 4, .slice A 3 c]) ∧ OI w' w.heap.size w'.heap.size 3 1 (.slice A 3 c) 3 (ic (List.replicate 3 0)) ∧ Below w.heap.size w w' := by
  obtain ⟨j0, hj, y0, y1, y2⟩ := info_parts infoIntC
  have hmk : ∀ W, (Instr.makeSlice 22 (.int .i64 3) (.int .i64 3)).run Try.prog W = .ok (.slice (some ⟨W.heap.size, 0, none⟩) 3 3) (W.alloc (.cells (madeCells #[.int .i64 0] 3) 3)) := fun W => by
    have := run_make_rowN (P := Try.prog) 22 3 j0 _ Try.underlying22 hj y0 .i64 .i64 3 3 (Nat.le_refl _) (by rw [y2]; omega) (by omega) W
    rw [y1] at this
    exact this
  have H := ((Sep.start w).box 31 #[.int .i64 4, .slice (some ⟨w.heap.size + 1, 0, none⟩) 3 3]).rowBox 3 (madeCells #[.int .i64 0] 3) 1 3 (by rw [size_madeCells]) (by decide)
  simp only [World.size_alloc] at H
  go_enter Try.func104, Try.ntmps104
  go_wp2
  refine bodyPost_ret (v := .agg #[.int .i64 4, .slice (some ⟨w.heap.size + 1, 0, none⟩) 3 3]) (by simp [results, Try.results104, go_sem]) rfl ⟨_, _, rfl, ?_, H.below⟩
  have := H.oi
  rw [toList_madeCells_one] at this
  exact this

set_option maxRecDepth 100000 in
set_option maxHeartbeats 3200000 in
theorem impl_tab_4_3 (w : World) :
    Calls Try.prog 42 #[.int .i64 4, .int .i64 3] w fun e w' => ∃ v, e = .returned v ∧ IntsIn w' w.heap.size w'.heap.size v (spanTab 4 3) ∧ Below w.heap.size w w' := by
  obtain ⟨j0, hj0, hy0, hy1, hy2⟩ := info_parts infoIntC
  have hmk : ∀ W, (Instr.makeSlice 22 (.int .i64 13) (.int .i64 13)).run Try.prog W = .ok (.slice (some ⟨W.heap.size, 0, none⟩) 13 13) (W.alloc (.cells (madeCells #[.int .i64 0] 13) 3)) := fun W => by
    have := run_make_rowN (P := Try.prog) 22 3 j0 _ Try.underlying22 hj0 hy0 .i64 .i64 13 13 (Nat.le_refl _) (by rw [hy2]; omega) (by omega) W
    rw [hy1] at this
    exact this
  have H := (Sep.start w).rowBox 3 (madeCells #[.int .i64 0] 13) 1 13 (by rw [size_madeCells]) (by decide)
  rw [toList_madeCells_one] at H
  have hr1 : inR 4 1 4 = true := by decide
  have hr2 : inR 3 1 4 = true := by decide
  obtain ⟨R, hR⟩ : ∃ R, R = spanTab 4 3 := ⟨_, rfl⟩
  rw [← hR]
  have HR := Lib.hid hR
  clear hR
  go_enter Try.func42, Try.ntmps42
  go_wp2_with (go_at_call 94; refine (between_r _ _ _ _).mono ?_; rintro e w' ⟨rfl, rfl⟩)
  clear hmk hr1 hr2
  generalize w.alloc (.cells (madeCells #[.int .i64 0] 13) 3) = W at *
  go_loopw [32] (fun i wr => ∃ k : Nat, k ≤ 4096 ∧ i = .int .i64 k ∧ Sep w wr [Res.row (.slice (some ⟨w.heap.size, 0, none⟩) 13 13) 3 1 13 (ic (tabTo 4 3 k))]) (fun i _ => 4096 - (intOf i).toNat)
  case atStart => exact ⟨0, by omega, rfl, H⟩
  case round =>
    clear H
    obtain ⟨k, hk, rfl, H⟩ := hrel
    by_cases hlt : k < 4096
    · go_wp2_with fail
      refine (emptyGrid_4_3 wr).mono ?_
      rintro e w1 ⟨A, c, rfl, o1, b1⟩
      have H1 := (H.oiNew b1 o1).box 31 #[.int .i64 4, .slice A 3 c]
      obtain ⟨bs, os, cs, he, _, _, hbs⟩ := own_shape H1.h1 (by omega)
      injection he with he1 _ he3
      subst he1 he3
      clear b1 o1 H
      go_wp2
      generalize w1.alloc (.cells #[.int .i64 4, .slice (some ⟨bs, os, none⟩) 3 c] 31) = wa at *
      go_loopw [39] (fun i wr => ∃ j : Nat, j ≤ 3 ∧ i = .int .i64 j ∧ Sep w wr [Res.box w1.heap.size 31 #[.int .i64 4, .slice (some ⟨bs, os, none⟩) 3 c], Res.row (.slice (some ⟨bs, os, none⟩) 3 c) 3 1 3 (ic (regTo 4 k j ++ List.replicate (3 - j) 0)), Res.row (.slice (some ⟨w.heap.size, 0, none⟩) 13 13) 3 1 13 (ic (tabTo 4 3 k))]) (fun i _ => 3 - (intOf i).toNat)
      case atStart => exact ⟨0, by omega, rfl, H1⟩
      case round =>
        clear H1
        obtain ⟨j, hj, rfl, H⟩ := hrel
        by_cases hlj : j < 3
        · have x0 := H.h0.cell 0
          have x1 := H.h0.cell 1
          simp at x0 x1
          have hjj : j = 0 ∨ j = 1 ∨ j = 2 := by omega
          rcases hjj with rfl | rfl | rfl
          · have hval : bits .and .i64 (k : Int) 15 = maskRow 4 k 0 := by
              have := i64_and_nat (k / 1) 15 (by omega) (by decide)
              rw [Nat.div_one] at this
              rw [show (15 : Nat) = 2 ^ 4 - 1 from rfl, Nat.and_two_pow_sub_one_eq_mod] at this
              unfold maskRow
              simpa using this
            have HVAL := Lib.hid hval
            have r0 := own_cell1 (u := 0) (j := 0) H.h1 (by simp [regTo])
            simp only [Nat.add_zero] at r0
            clear hval
            have hw0 : IntKind.i64.wrap 0 = 0 := rfl
            go_wp2_with fail
            go_still_tail 13, (by kernel_rfl)
            clear hw0
            change wpList _ _ _ _ _ wr.drew
            have H6 := H.drew
            clear x0 x1 r0 H
            generalize wr.drew = w5 at *
            have r0 := own_cell1 (u := 0) (j := 0) H6.h1 (by simp [regTo])
            have fr := own_free H6.h1 0
            simp only [Nat.add_zero] at r0 fr
            have H7 := (H6.g1.setRow (j := 0) (by simp [ic, regTo]) (.int .i64 (maskRow 4 k 0))).p1
            have e : (regTo 4 k 0 ++ List.replicate (3 - 0) (0 : Int)).set 0 (maskRow 4 k 0) = regTo 4 k 1 ++ List.replicate (3 - 1) 0 := rfl
            rw [ic_set, e] at H7
            clear e
            simp only [Nat.add_zero] at H7
            go_wp2
            go_roundw
            case rel => exact ⟨1, by omega, rfl, by rw [HVAL.out]; exact H7⟩
            case measure => simp [intOf]
          · have hval : bits .and .i64 ((k : Int) / 16) 15 = maskRow 4 k 1 := by
              have := i64_and_nat (k / 16) 15 (by omega) (by decide)
              simp only [Int.natCast_ediv] at this
              rw [show (15 : Nat) = 2 ^ 4 - 1 from rfl, Nat.and_two_pow_sub_one_eq_mod] at this
              unfold maskRow
              simpa using this
            have HVAL := Lib.hid hval
            have r0 := own_cell1 (u := 0) (j := 1) H.h1 (by simp [regTo])
            clear hval
            have hw0 : IntKind.i64.wrap 4 = 4 := rfl
            go_wp2_with fail
            go_still_tail 13, (by kernel_rfl)
            clear hw0
            change wpList _ _ _ _ _ wr.drew
            have H6 := H.drew
            clear x0 x1 r0 H
            generalize wr.drew = w5 at *
            have r0 := own_cell1 (u := 0) (j := 1) H6.h1 (by simp [regTo])
            have fr := own_free H6.h1 1
            have H7 := (H6.g1.setRow (j := 1) (by simp [ic, regTo]) (.int .i64 (maskRow 4 k 1))).p1
            have e : (regTo 4 k 1 ++ List.replicate (3 - 1) (0 : Int)).set 1 (maskRow 4 k 1) = regTo 4 k 2 ++ List.replicate (3 - 2) 0 := rfl
            rw [ic_set, e] at H7
            clear e
            go_wp2
            go_roundw
            case rel => exact ⟨2, by omega, rfl, by rw [HVAL.out]; exact H7⟩
            case measure => simp [intOf]
          · have hval : bits .and .i64 ((k : Int) / 256) 15 = maskRow 4 k 2 := by
              have := i64_and_nat (k / 256) 15 (by omega) (by decide)
              simp only [Int.natCast_ediv] at this
              rw [show (15 : Nat) = 2 ^ 4 - 1 from rfl, Nat.and_two_pow_sub_one_eq_mod] at this
              unfold maskRow
              simpa using this
            have HVAL := Lib.hid hval
            have r0 := own_cell1 (u := 0) (j := 2) H.h1 (by simp [regTo])
            clear hval
            have hw0 : IntKind.i64.wrap 8 = 8 := rfl
            go_wp2_with fail
            go_still_tail 13, (by kernel_rfl)
            clear hw0
            change wpList _ _ _ _ _ wr.drew
            have H6 := H.drew
            clear x0 x1 r0 H
            generalize wr.drew = w5 at *
            have r0 := own_cell1 (u := 0) (j := 2) H6.h1 (by simp [regTo])
            have fr := own_free H6.h1 2
            have H7 := (H6.g1.setRow (j := 2) (by simp [ic, regTo]) (.int .i64 (maskRow 4 k 2))).p1
            have e : (regTo 4 k 2 ++ List.replicate (3 - 2) (0 : Int)).set 2 (maskRow 4 k 2) = regTo 4 k 3 ++ List.replicate (3 - 3) 0 := rfl
            rw [ic_set, e] at H7
            clear e
            go_wp2
            go_roundw
            case rel => exact ⟨3, by omega, rfl, by rw [HVAL.out]; exact H7⟩
            case measure => simp [intOf]
        · obtain rfl : j = 3 := by omega
          have x0 := H.h0.cell 0
          have x1 := H.h0.cell 1
          simp at x0 x1
          have hrd : RegRd wr 0 wr.heap.size (.agg #[.int .i64 4, .slice (some ⟨bs, os, none⟩) 3 c]) (regOf 4 3 k) := by
            have := (H.g1.oi.sr).more (Nat.zero_le _) (Nat.le_refl _)
            exact ⟨_, rfl, this⟩
          go_wp2_with fail
          clear x0 x1
          refine (impl_isspanning_c (r := regOf 4 3 k) wr hrd).mono ?_
          rintro e w4 ⟨rfl, b4⟩
          have H4 := (H.step b4).drop.drop
          clear b4 H hrd
          cases hsp : (regOf 4 3 k).spanWay.isSome
          · have ht : tabTo 4 3 (k + 1) = tabTo 4 3 k := by rw [tabTo, hsp]; rfl
            have HT := Lib.hid ht
            clear ht hsp
            go_wp2
            go_roundw
            case rel => exact ⟨k + 1, by omega, by go_num, by rw [HT.out]; exact H4⟩
            case measure => simp [intOf]; omega
          · have ht : tabTo 4 3 (k + 1) = bump (tabTo 4 3 k) (popc k) := by rw [tabTo, hsp]; rfl
            have HT := Lib.hid ht
            have hpl := popc_lt (w := 4) (h := 3) (m := k) (by decide) hlt
            have hp13 := popc_le k
            have htl := tabTo_length (w := 4) (h := 3) k
            have hcell := List.getElem?_eq_getElem (show popc k < (tabTo 4 3 k).length by omega)
            have hbd := tabTo_bd (w := 4) (h := 3) k _ (List.getElem_mem (show popc k < (tabTo 4 3 k).length by omega))
            obtain ⟨a, ha⟩ : ∃ a, a = (tabTo 4 3 k)[popc k]'(by omega) := ⟨_, rfl⟩
            rw [← ha] at hcell hbd
            have hb : bump (tabTo 4 3 k) (popc k) = (tabTo 4 3 k).set (popc k) (a + 1) := by
              unfold bump
              rw [List.getD, hcell]; rfl
            have HB := Lib.hid hb
            have HCELL := Lib.hid hcell
            obtain ⟨hb1, hb2⟩ := hbd
            have hones := ones_c k
            have HONES := Lib.hid hones
            have HTL := Lib.hid htl
            obtain ⟨p, hp⟩ : ∃ p, p = popc k := ⟨_, rfl⟩
            rw [← hp] at HB HCELL HT HONES hpl hp13
            have hp13i : (p : Int) < 13 := by omega
            have hp0i : (0 : Int) ≤ (p : Int) := Int.natCast_nonneg _
            have hki : (0 : Int) ≤ (k : Int) := Int.natCast_nonneg _
            have hkN : (k : Int) < 4096 := by omega
            clear ht hsp ha hb hcell hones htl hp
            have r0 := own_cell1 H4.h0 HCELL.out
            have fr := own_free H4.h0 p
            simp only [Nat.zero_add] at r0 fr
            go_wp2_with (go_at_call 105; refine (HONES.out _ (by omega)).mono ?_; rintro e w' ⟨rfl, rfl⟩)
            have H7 := H4.setRow (j := p) (by rw [ic_length, HTL.out]; omega) (.int .i64 (a + 1))
            rw [ic_set, ← HB.out, ← HT.out] at H7
            simp only [Nat.zero_add] at H7
            go_roundw
            case rel => exact ⟨k + 1, by omega, by go_num, H7⟩
            case measure => simp [intOf]; omega
    · obtain rfl : k = 4096 := by omega
      have hre : R = tabTo 4 3 4096 := HR.out
      have HRE := Lib.hid hre
      clear hre
      go_wp2
      go_ret
      rw [HRE.out]
      refine ⟨_, rfl, ?_, H.below⟩
      have := H.oi
      unfold IntsIn
      rw [tabTo_length]
      exact this

end Go.Proofs.Ytjmeplchabehfaa
