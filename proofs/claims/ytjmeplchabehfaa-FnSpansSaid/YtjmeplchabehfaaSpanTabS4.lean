
/-
  The walk of the reference's 'SpanningTable': width 4.
-/
import Derived.Test.YtjmeplchabehfaaSpanTab
import Derived.Test.YtjmeplchabehfaaRegCopy
import Derived.Test.YtjmeplchabehfaaWayP
import Derived.IntWalk
namespace Go.Proofs.Ytjmeplchabehfaa
open Go.RowKit

set_option maxRecDepth 100000 in
set_option maxHeartbeats 3200000 in
theorem spec_tab_4_1 (w : World) :
    Calls Try.prog 44 #[.int .i64 4, .int .i64 1] w fun e w' => ∃ v, e = .returned v ∧ IntsIn w' w.heap.size w'.heap.size v (spanTab 4 1) ∧ Below w.heap.size w w' := by
  obtain ⟨j0, hj0, hy0, hy1, hy2⟩ := info_parts infoIntC
  have hmk : ∀ W, (Instr.makeSlice 22 (.int .i64 5) (.int .i64 5)).run Try.prog W = .ok (.slice (some ⟨W.heap.size, 0, none⟩) 5 5) (W.alloc (.cells (madeCells #[.int .i64 0] 5) 3)) := fun W => by
    have := run_make_rowN (P := Try.prog) 22 3 j0 _ Try.underlying22 hj0 hy0 .i64 .i64 5 5 (Nat.le_refl _) (by rw [hy2]; omega) (by omega) W
    rw [hy1] at this
    exact this
  have H := (Sep.start w).rowBox 3 (madeCells #[.int .i64 0] 5) 1 5 (by rw [size_madeCells]) (by decide)
  rw [toList_madeCells_one] at H
  have hr1 : inR 4 1 4 = true := by decide
  have hr2 : inR 1 1 4 = true := by decide
  obtain ⟨R, hR⟩ : ∃ R, R = spanTab 4 1 := ⟨_, rfl⟩
  rw [← hR]
  have HR := Lib.hid hR
  clear hR
  go_enter Try.func44, Try.ntmps44
  go_wp2_with (go_at_call 97; refine (l1In_r _ _ _ _).mono ?_; rintro e w' ⟨rfl, rfl⟩)
  clear hmk hr1 hr2
  generalize w.alloc (.cells (madeCells #[.int .i64 0] 5) 3) = W at *
  go_loopw [6] (fun i wr => ∃ k : Nat, k ≤ 16 ∧ i = .int .i64 k ∧ Sep w wr [Res.row (.slice (some ⟨w.heap.size, 0, none⟩) 5 5) 3 1 5 (ic (tabTo 4 1 k))]) (fun i _ => 16 - (intOf i).toNat)
  case atStart => exact ⟨0, by omega, rfl, H⟩
  case round =>
    clear H
    obtain ⟨k, hk, rfl, H⟩ := hrel
    by_cases hlt : k < 16
    · obtain ⟨wg, hwg⟩ : ∃ wg : World, wg = wr := ⟨_, rfl⟩
      subst hwg
      have hdk : decide ((k : Int) < 16) = true := by simp; omega
      have H1 := (H.nil 3 1).box 31 #[.int .i64 4, .slice none 0 0]
      clear H
      go_wp2
      generalize wg.alloc (.cells #[.int .i64 4, .slice none 0 0] 31) = wa at *
      go_loopw [9] (fun i wr2 => ∃ (j : Nat) (v : Value), j ≤ 1 ∧ i = .int .i64 j ∧ Sep w wr2 [Res.box wg.heap.size 31 #[.int .i64 4, v], Res.row v 3 1 j (ic (regTo 4 k j)), Res.row (.slice (some ⟨w.heap.size, 0, none⟩) 5 5) 3 1 5 (ic (tabTo 4 1 k))]) (fun i _ => 1 - (intOf i).toNat)
      case atStart => exact ⟨0, _, by omega, rfl, H1⟩
      case round =>
        clear H1
        obtain ⟨j, v, hj, rfl, H⟩ := hrel
        by_cases hlj : j < 1
        · obtain ⟨A, cv, rfl, _, _, _⟩ := Res.row_at H.h1
          have x0 := H.h0.cell 0
          have x1 := H.h0.cell 1
          simp at x0 x1
          have hjj : j = 0 := by omega
          rcases hjj with rfl
          · have hval : bits .and .i64 (k : Int) 15 = maskRow 4 k 0 := by
              have := i64_and_nat (k / 1) 15 (by omega) (by decide)
              rw [Nat.div_one] at this
              rw [show (15 : Nat) = 2 ^ 4 - 1 from rfl, Nat.and_two_pow_sub_one_eq_mod] at this
              unfold maskRow
              simpa using this
            have HVAL := Lib.hid hval
            clear hval
            have hw0 : IntKind.i64.wrap 0 = 0 := rfl
            have hw1 : IntKind.i64.wrap 16 = 16 := rfl
            have hw2 : IntKind.i64.wrap 15 = 15 := rfl
            have hgb : wg.heap.size < wr.heap.size := H.h0.lt
            go_wp2_with fail
            go_region_law (refine step_app rfl (.tmp 47) (.tmp 57) 22 rfl 3 j0 _ 1 8 Try.underlying22 hj0 hy0 hy1 hy2 rfl (by decide) (.slice A 0 cv) 0 _ (by simp [Act.eval]) ((H.alloc _).drew.g1) (some ⟨wr.heap.size, 0, none⟩) 1 1 [.int .i64 (bits .and .i64 (k : Int) 15)] (by simp [Act.eval]) (Rd.fresh wr 3 #[.int .i64 (bits .and .i64 (k : Int) 15)] 1 1 rfl) oc1 (by unfold maxLen; omega) (by omega) ?_; intro v' w5 H5; obtain ⟨A5, cv5, rfl, _, _, _⟩ := Res.row_at H5.h0; have y1 := H5.h1.cell 1; have f1 := H5.h1.frozen 1; simp at y1)
            all_goals
              have H6 := H5.g1.set_ 1 (.slice A5 (0 + 1) cv5)
              have e : ic (regTo 4 k 1) = ic (regTo 4 k 0) ++ [.int .i64 (maskRow 4 k 0)] := by rw [show 1 = 0 + 1 from rfl, regTo_succ, ic_append]; rfl
              rw [← HVAL.out] at e
              have HE := Lib.hid e
              clear e hw0 hw1 hw2 f1 y1 x0 x1 H5
              go_wp2
              go_roundw
              case rel => exact ⟨1, .slice A5 1 cv5, by omega, rfl, by rw [HE.out]; exact H6⟩
              case measure => simp [intOf]
        · obtain rfl : j = 1 := by omega
          obtain ⟨A, cv, rfl, _, _, _⟩ := Res.row_at H.h1
          have hol := onesLoop_popc (m := k) (by omega)
          have HOL := Lib.hid hol
          clear hol
          obtain ⟨wq, hwq⟩ : ∃ wq : World, wq = wr := ⟨_, rfl⟩
          subst hwq
          go_wp2
          go_loop [8, 10] (fun nv xv => ∃ t x n : Nat, nv = .int .i64 n ∧ xv = .int .i64 x ∧ x < 4096 ∧ t + n ≤ 12 ∧ Hid (x < 2 ^ t) ∧ Hid (n + onesLoop t x = popc k)) (fun _ xv => (intOf xv).toNat)
          case atStart => exact ⟨12, k, 0, rfl, rfl, by omega, by omega, Lib.hid (by omega), Lib.hid (by rw [Nat.zero_add]; exact HOL.out)⟩
          case round =>
            obtain ⟨t, x, n, rfl, rfl, hx, htn, HX, HN⟩ := hrel
            by_cases hx0 : 0 < x
            · obtain ⟨t', rfl⟩ : ∃ t', t = t' + 1 := by
                rcases t with _ | t'
                · have := HX.out; omega
                · exact ⟨t', rfl⟩
              obtain ⟨c, hc⟩ : ∃ c, c = x % 2 := ⟨_, rfl⟩
              have hb := and_one (x := x) (by omega)
              rw [← hc] at hb
              have hc1 : c ≤ 1 := by omega
              have hn2 : n + c + onesLoop t' (x / 2) = popc k := by have := HN.out; unfold onesLoop at this; rw [← hc] at this; omega
              have HN2 := Lib.hid hn2
              have hx2 : x / 2 < 2 ^ t' := by have := HX.out; rw [Nat.pow_succ] at this; omega
              have HX2 := Lib.hid hx2
              clear hn2 hx2 hc
              go_wp2
              go_round
              case rel => exact ⟨t', x / 2, n + c, by go_num, by simp, by omega, by omega, HX2, HN2⟩
              case measure => simp [intOf]; omega
            · obtain rfl : x = 0 := by omega
              have hnp : popc k = n := by have := HN.out; rw [onesLoop_zero] at this; omega
              have x0 := H.h0.cell 0
              have x1 := H.h0.cell 1
              simp at x0 x1
              have hrd : RegRd wq 0 wq.heap.size (.agg #[.int .i64 4, .slice A 1 cv]) (regOf 4 1 k) := by
                have := (H.g1.oi.sr).more (Nat.zero_le _) (Nat.le_refl _)
                exact ⟨_, rfl, this⟩
              have HNP := Lib.hid hnp
              clear hnp
              go_wp2_with fail
              clear x0 x1
              refine (spec_isspanning_c (r := regOf 4 1 k) wq hrd).mono ?_
              rintro e w4 ⟨rfl, b4⟩
              have H4 := (H.step b4).drop.drop
              clear b4 H hrd
              cases hsp : (regOf 4 1 k).spanWay.isSome
              · have ht : tabTo 4 1 (k + 1) = tabTo 4 1 k := by rw [tabTo, hsp]; rfl
                have HT := Lib.hid ht
                clear ht hsp
                go_wp2
                go_roundw
                case rel => exact ⟨k + 1, by omega, by go_num, by rw [HT.out]; exact H4⟩
                case measure => simp [intOf]; omega
              · have ht : tabTo 4 1 (k + 1) = bump (tabTo 4 1 k) (popc k) := by rw [tabTo, hsp]; rfl
                rw [HNP.out] at ht
                have HT := Lib.hid ht
                have hpl := popc_lt (w := 4) (h := 1) (m := k) (by decide) hlt
                rw [HNP.out] at hpl
                have htl := tabTo_length (w := 4) (h := 1) k
                have hcell := List.getElem?_eq_getElem (show n < (tabTo 4 1 k).length by omega)
                have hbd := tabTo_bd (w := 4) (h := 1) k _ (List.getElem_mem (show n < (tabTo 4 1 k).length by omega))
                obtain ⟨a, ha⟩ : ∃ a, a = (tabTo 4 1 k)[n]'(by omega) := ⟨_, rfl⟩
                rw [← ha] at hcell hbd
                have hb : bump (tabTo 4 1 k) n = (tabTo 4 1 k).set n (a + 1) := by
                  unfold bump
                  rw [List.getD, hcell]; rfl
                have HB := Lib.hid hb
                have HCELL := Lib.hid hcell
                obtain ⟨hb1, hb2⟩ := hbd
                have HTL := Lib.hid htl
                have hp13i : (n : Int) < 5 := by omega
                have hp0i : (0 : Int) ≤ (n : Int) := Int.natCast_nonneg _
                clear ht hsp ha hb hcell htl
                have r0 := own_cell1 H4.h0 HCELL.out
                have fr := own_free H4.h0 n
                simp only [Nat.zero_add] at r0 fr
                go_wp2
                have H7 := H4.setRow (j := n) (by rw [ic_length, HTL.out]; omega) (.int .i64 (a + 1))
                rw [ic_set, ← HB.out, ← HT.out] at H7
                simp only [Nat.zero_add] at H7
                go_roundw
                case rel => exact ⟨k + 1, by omega, by go_num, H7⟩
                case measure => simp [intOf]; omega
    · obtain rfl : k = 16 := by omega
      have hre : R = tabTo 4 1 16 := HR.out
      have HRE := Lib.hid hre
      clear hre
      go_wp2
      go_ret
      rw [HRE.out]
      refine ⟨_, rfl, ?_, H.below⟩
      have := H.oi
      unfold IntsIn
      rw [tabTo_length]
      exact this

set_option maxRecDepth 100000 in
set_option maxHeartbeats 3200000 in
theorem spec_tab_4_2 (w : World) :
    Calls Try.prog 44 #[.int .i64 4, .int .i64 2] w fun e w' => ∃ v, e = .returned v ∧ IntsIn w' w.heap.size w'.heap.size v (spanTab 4 2) ∧ Below w.heap.size w w' := by
  obtain ⟨j0, hj0, hy0, hy1, hy2⟩ := info_parts infoIntC
  have hmk : ∀ W, (Instr.makeSlice 22 (.int .i64 9) (.int .i64 9)).run Try.prog W = .ok (.slice (some ⟨W.heap.size, 0, none⟩) 9 9) (W.alloc (.cells (madeCells #[.int .i64 0] 9) 3)) := fun W => by
    have := run_make_rowN (P := Try.prog) 22 3 j0 _ Try.underlying22 hj0 hy0 .i64 .i64 9 9 (Nat.le_refl _) (by rw [hy2]; omega) (by omega) W
    rw [hy1] at this
    exact this
  have H := (Sep.start w).rowBox 3 (madeCells #[.int .i64 0] 9) 1 9 (by rw [size_madeCells]) (by decide)
  rw [toList_madeCells_one] at H
  have hr1 : inR 4 1 4 = true := by decide
  have hr2 : inR 2 1 4 = true := by decide
  obtain ⟨R, hR⟩ : ∃ R, R = spanTab 4 2 := ⟨_, rfl⟩
  rw [← hR]
  have HR := Lib.hid hR
  clear hR
  go_enter Try.func44, Try.ntmps44
  go_wp2_with (go_at_call 97; refine (l1In_r _ _ _ _).mono ?_; rintro e w' ⟨rfl, rfl⟩)
  clear hmk hr1 hr2
  generalize w.alloc (.cells (madeCells #[.int .i64 0] 9) 3) = W at *
  go_loopw [6] (fun i wr => ∃ k : Nat, k ≤ 256 ∧ i = .int .i64 k ∧ Sep w wr [Res.row (.slice (some ⟨w.heap.size, 0, none⟩) 9 9) 3 1 9 (ic (tabTo 4 2 k))]) (fun i _ => 256 - (intOf i).toNat)
  case atStart => exact ⟨0, by omega, rfl, H⟩
  case round =>
    clear H
    obtain ⟨k, hk, rfl, H⟩ := hrel
    by_cases hlt : k < 256
    · obtain ⟨wg, hwg⟩ : ∃ wg : World, wg = wr := ⟨_, rfl⟩
      subst hwg
      have hdk : decide ((k : Int) < 256) = true := by simp; omega
      have H1 := (H.nil 3 1).box 31 #[.int .i64 4, .slice none 0 0]
      clear H
      go_wp2
      generalize wg.alloc (.cells #[.int .i64 4, .slice none 0 0] 31) = wa at *
      go_loopw [9] (fun i wr2 => ∃ (j : Nat) (v : Value), j ≤ 2 ∧ i = .int .i64 j ∧ Sep w wr2 [Res.box wg.heap.size 31 #[.int .i64 4, v], Res.row v 3 1 j (ic (regTo 4 k j)), Res.row (.slice (some ⟨w.heap.size, 0, none⟩) 9 9) 3 1 9 (ic (tabTo 4 2 k))]) (fun i _ => 2 - (intOf i).toNat)
      case atStart => exact ⟨0, _, by omega, rfl, H1⟩
      case round =>
        clear H1
        obtain ⟨j, v, hj, rfl, H⟩ := hrel
        by_cases hlj : j < 2
        · obtain ⟨A, cv, rfl, _, _, _⟩ := Res.row_at H.h1
          have x0 := H.h0.cell 0
          have x1 := H.h0.cell 1
          simp at x0 x1
          have hjj : j = 0 ∨ j = 1 := by omega
          rcases hjj with rfl | rfl
          · have hval : bits .and .i64 (k : Int) 15 = maskRow 4 k 0 := by
              have := i64_and_nat (k / 1) 15 (by omega) (by decide)
              rw [Nat.div_one] at this
              rw [show (15 : Nat) = 2 ^ 4 - 1 from rfl, Nat.and_two_pow_sub_one_eq_mod] at this
              unfold maskRow
              simpa using this
            have HVAL := Lib.hid hval
            clear hval
            have hw0 : IntKind.i64.wrap 0 = 0 := rfl
            have hw1 : IntKind.i64.wrap 16 = 16 := rfl
            have hw2 : IntKind.i64.wrap 15 = 15 := rfl
            have hgb : wg.heap.size < wr.heap.size := H.h0.lt
            go_wp2_with fail
            go_region_law (refine step_app rfl (.tmp 47) (.tmp 57) 22 rfl 3 j0 _ 1 8 Try.underlying22 hj0 hy0 hy1 hy2 rfl (by decide) (.slice A 0 cv) 0 _ (by simp [Act.eval]) ((H.alloc _).drew.g1) (some ⟨wr.heap.size, 0, none⟩) 1 1 [.int .i64 (bits .and .i64 (k : Int) 15)] (by simp [Act.eval]) (Rd.fresh wr 3 #[.int .i64 (bits .and .i64 (k : Int) 15)] 1 1 rfl) oc1 (by unfold maxLen; omega) (by omega) ?_; intro v' w5 H5; obtain ⟨A5, cv5, rfl, _, _, _⟩ := Res.row_at H5.h0; have y1 := H5.h1.cell 1; have f1 := H5.h1.frozen 1; simp at y1)
            all_goals
              have H6 := H5.g1.set_ 1 (.slice A5 (0 + 1) cv5)
              have e : ic (regTo 4 k 1) = ic (regTo 4 k 0) ++ [.int .i64 (maskRow 4 k 0)] := by rw [show 1 = 0 + 1 from rfl, regTo_succ, ic_append]; rfl
              rw [← HVAL.out] at e
              have HE := Lib.hid e
              clear e hw0 hw1 hw2 f1 y1 x0 x1 H5
              go_wp2
              go_roundw
              case rel => exact ⟨1, .slice A5 1 cv5, by omega, rfl, by rw [HE.out]; exact H6⟩
              case measure => simp [intOf]
          · have hval : bits .and .i64 ((k : Int) / 16) 15 = maskRow 4 k 1 := by
              have := i64_and_nat (k / 16) 15 (by omega) (by decide)
              simp only [Int.natCast_ediv] at this
              rw [show (15 : Nat) = 2 ^ 4 - 1 from rfl, Nat.and_two_pow_sub_one_eq_mod] at this
              unfold maskRow
              simpa using this
            have HVAL := Lib.hid hval
            clear hval
            have hw0 : IntKind.i64.wrap 4 = 4 := rfl
            have hw1 : IntKind.i64.wrap 16 = 16 := rfl
            have hw2 : IntKind.i64.wrap 15 = 15 := rfl
            have hgb : wg.heap.size < wr.heap.size := H.h0.lt
            go_wp2_with fail
            go_region_law (refine step_app rfl (.tmp 47) (.tmp 57) 22 rfl 3 j0 _ 1 8 Try.underlying22 hj0 hy0 hy1 hy2 rfl (by decide) (.slice A 1 cv) 1 _ (by simp [Act.eval]) ((H.alloc _).drew.g1) (some ⟨wr.heap.size, 0, none⟩) 1 1 [.int .i64 (bits .and .i64 ((k : Int) / 16) 15)] (by simp [Act.eval]) (Rd.fresh wr 3 #[.int .i64 (bits .and .i64 ((k : Int) / 16) 15)] 1 1 rfl) oc1 (by unfold maxLen; omega) (by omega) ?_; intro v' w5 H5; obtain ⟨A5, cv5, rfl, _, _, _⟩ := Res.row_at H5.h0; have y1 := H5.h1.cell 1; have f1 := H5.h1.frozen 1; simp at y1)
            all_goals
              have H6 := H5.g1.set_ 1 (.slice A5 (1 + 1) cv5)
              have e : ic (regTo 4 k 2) = ic (regTo 4 k 1) ++ [.int .i64 (maskRow 4 k 1)] := by rw [show 2 = 1 + 1 from rfl, regTo_succ, ic_append]; rfl
              rw [← HVAL.out] at e
              have HE := Lib.hid e
              clear e hw0 hw1 hw2 f1 y1 x0 x1 H5
              go_wp2
              go_roundw
              case rel => exact ⟨2, .slice A5 2 cv5, by omega, rfl, by rw [HE.out]; exact H6⟩
              case measure => simp [intOf]
        · obtain rfl : j = 2 := by omega
          obtain ⟨A, cv, rfl, _, _, _⟩ := Res.row_at H.h1
          have hol := onesLoop_popc (m := k) (by omega)
          have HOL := Lib.hid hol
          clear hol
          obtain ⟨wq, hwq⟩ : ∃ wq : World, wq = wr := ⟨_, rfl⟩
          subst hwq
          go_wp2
          go_loop [8, 10] (fun nv xv => ∃ t x n : Nat, nv = .int .i64 n ∧ xv = .int .i64 x ∧ x < 4096 ∧ t + n ≤ 12 ∧ Hid (x < 2 ^ t) ∧ Hid (n + onesLoop t x = popc k)) (fun _ xv => (intOf xv).toNat)
          case atStart => exact ⟨12, k, 0, rfl, rfl, by omega, by omega, Lib.hid (by omega), Lib.hid (by rw [Nat.zero_add]; exact HOL.out)⟩
          case round =>
            obtain ⟨t, x, n, rfl, rfl, hx, htn, HX, HN⟩ := hrel
            by_cases hx0 : 0 < x
            · obtain ⟨t', rfl⟩ : ∃ t', t = t' + 1 := by
                rcases t with _ | t'
                · have := HX.out; omega
                · exact ⟨t', rfl⟩
              obtain ⟨c, hc⟩ : ∃ c, c = x % 2 := ⟨_, rfl⟩
              have hb := and_one (x := x) (by omega)
              rw [← hc] at hb
              have hc1 : c ≤ 1 := by omega
              have hn2 : n + c + onesLoop t' (x / 2) = popc k := by have := HN.out; unfold onesLoop at this; rw [← hc] at this; omega
              have HN2 := Lib.hid hn2
              have hx2 : x / 2 < 2 ^ t' := by have := HX.out; rw [Nat.pow_succ] at this; omega
              have HX2 := Lib.hid hx2
              clear hn2 hx2 hc
              go_wp2
              go_round
              case rel => exact ⟨t', x / 2, n + c, by go_num, by simp, by omega, by omega, HX2, HN2⟩
              case measure => simp [intOf]; omega
            · obtain rfl : x = 0 := by omega
              have hnp : popc k = n := by have := HN.out; rw [onesLoop_zero] at this; omega
              have x0 := H.h0.cell 0
              have x1 := H.h0.cell 1
              simp at x0 x1
              have hrd : RegRd wq 0 wq.heap.size (.agg #[.int .i64 4, .slice A 2 cv]) (regOf 4 2 k) := by
                have := (H.g1.oi.sr).more (Nat.zero_le _) (Nat.le_refl _)
                exact ⟨_, rfl, this⟩
              have HNP := Lib.hid hnp
              clear hnp
              go_wp2_with fail
              clear x0 x1
              refine (spec_isspanning_c (r := regOf 4 2 k) wq hrd).mono ?_
              rintro e w4 ⟨rfl, b4⟩
              have H4 := (H.step b4).drop.drop
              clear b4 H hrd
              cases hsp : (regOf 4 2 k).spanWay.isSome
              · have ht : tabTo 4 2 (k + 1) = tabTo 4 2 k := by rw [tabTo, hsp]; rfl
                have HT := Lib.hid ht
                clear ht hsp
                go_wp2
                go_roundw
                case rel => exact ⟨k + 1, by omega, by go_num, by rw [HT.out]; exact H4⟩
                case measure => simp [intOf]; omega
              · have ht : tabTo 4 2 (k + 1) = bump (tabTo 4 2 k) (popc k) := by rw [tabTo, hsp]; rfl
                rw [HNP.out] at ht
                have HT := Lib.hid ht
                have hpl := popc_lt (w := 4) (h := 2) (m := k) (by decide) hlt
                rw [HNP.out] at hpl
                have htl := tabTo_length (w := 4) (h := 2) k
                have hcell := List.getElem?_eq_getElem (show n < (tabTo 4 2 k).length by omega)
                have hbd := tabTo_bd (w := 4) (h := 2) k _ (List.getElem_mem (show n < (tabTo 4 2 k).length by omega))
                obtain ⟨a, ha⟩ : ∃ a, a = (tabTo 4 2 k)[n]'(by omega) := ⟨_, rfl⟩
                rw [← ha] at hcell hbd
                have hb : bump (tabTo 4 2 k) n = (tabTo 4 2 k).set n (a + 1) := by
                  unfold bump
                  rw [List.getD, hcell]; rfl
                have HB := Lib.hid hb
                have HCELL := Lib.hid hcell
                obtain ⟨hb1, hb2⟩ := hbd
                have HTL := Lib.hid htl
                have hp13i : (n : Int) < 9 := by omega
                have hp0i : (0 : Int) ≤ (n : Int) := Int.natCast_nonneg _
                clear ht hsp ha hb hcell htl
                have r0 := own_cell1 H4.h0 HCELL.out
                have fr := own_free H4.h0 n
                simp only [Nat.zero_add] at r0 fr
                go_wp2
                have H7 := H4.setRow (j := n) (by rw [ic_length, HTL.out]; omega) (.int .i64 (a + 1))
                rw [ic_set, ← HB.out, ← HT.out] at H7
                simp only [Nat.zero_add] at H7
                go_roundw
                case rel => exact ⟨k + 1, by omega, by go_num, H7⟩
                case measure => simp [intOf]; omega
    · obtain rfl : k = 256 := by omega
      have hre : R = tabTo 4 2 256 := HR.out
      have HRE := Lib.hid hre
      clear hre
      go_wp2
      go_ret
      rw [HRE.out]
      refine ⟨_, rfl, ?_, H.below⟩
      have := H.oi
      unfold IntsIn
      rw [tabTo_length]
      exact this

set_option maxRecDepth 100000 in
set_option maxHeartbeats 3200000 in
theorem spec_tab_4_3 (w : World) :
    Calls Try.prog 44 #[.int .i64 4, .int .i64 3] w fun e w' => ∃ v, e = .returned v ∧ IntsIn w' w.heap.size w'.heap.size v (spanTab 4 3) ∧ Below w.heap.size w w' := by
  obtain ⟨j0, hj0, hy0, hy1, hy2⟩ := info_parts infoIntC
  have hmk : ∀ W, (Instr.makeSlice 22 (.int .i64 13) (.int .i64 13)).run Try.prog W = .ok (.slice (some ⟨W.heap.size, 0, none⟩) 13 13) (W.alloc (.cells (madeCells #[.int .i64 0] 13) 3)) := fun W => by
    have := run_make_rowN (P := Try.prog) 22 3 j0 _ Try.underlying22 hj0 hy0 .i64 .i64 13 13 (Nat.le_refl _) (by rw [hy2]; omega) (by omega) W
    rw [hy1] at this
    exact this
  have H := (Sep.start w).rowBox 3 (madeCells #[.int .i64 0] 13) 1 13 (by rw [size_madeCells]) (by decide)
  rw [toList_madeCells_one] at H
  have hr1 : inR 4 1 4 = true := by decide
  have hr2 : inR 3 1 4 = true := by decide
  obtain ⟨R, hR⟩ : ∃ R, R = spanTab 4 3 := ⟨_, rfl⟩
  rw [← hR]
  have HR := Lib.hid hR
  clear hR
  go_enter Try.func44, Try.ntmps44
  go_wp2_with (go_at_call 97; refine (l1In_r _ _ _ _).mono ?_; rintro e w' ⟨rfl, rfl⟩)
  clear hmk hr1 hr2
  generalize w.alloc (.cells (madeCells #[.int .i64 0] 13) 3) = W at *
  go_loopw [6] (fun i wr => ∃ k : Nat, k ≤ 4096 ∧ i = .int .i64 k ∧ Sep w wr [Res.row (.slice (some ⟨w.heap.size, 0, none⟩) 13 13) 3 1 13 (ic (tabTo 4 3 k))]) (fun i _ => 4096 - (intOf i).toNat)
  case atStart => exact ⟨0, by omega, rfl, H⟩
  case round =>
    clear H
    obtain ⟨k, hk, rfl, H⟩ := hrel
    by_cases hlt : k < 4096
    · obtain ⟨wg, hwg⟩ : ∃ wg : World, wg = wr := ⟨_, rfl⟩
      subst hwg
      have hdk : decide ((k : Int) < 4096) = true := by simp; omega
      have H1 := (H.nil 3 1).box 31 #[.int .i64 4, .slice none 0 0]
      clear H
      go_wp2
      generalize wg.alloc (.cells #[.int .i64 4, .slice none 0 0] 31) = wa at *
      go_loopw [9] (fun i wr2 => ∃ (j : Nat) (v : Value), j ≤ 3 ∧ i = .int .i64 j ∧ Sep w wr2 [Res.box wg.heap.size 31 #[.int .i64 4, v], Res.row v 3 1 j (ic (regTo 4 k j)), Res.row (.slice (some ⟨w.heap.size, 0, none⟩) 13 13) 3 1 13 (ic (tabTo 4 3 k))]) (fun i _ => 3 - (intOf i).toNat)
      case atStart => exact ⟨0, _, by omega, rfl, H1⟩
      case round =>
        clear H1
        obtain ⟨j, v, hj, rfl, H⟩ := hrel
        by_cases hlj : j < 3
        · obtain ⟨A, cv, rfl, _, _, _⟩ := Res.row_at H.h1
          have x0 := H.h0.cell 0
          have x1 := H.h0.cell 1
          simp at x0 x1
          have hjj : j = 0 ∨ j = 1 ∨ j = 2 := by omega
          rcases hjj with rfl | rfl | rfl
          · have hval : bits .and .i64 (k : Int) 15 = maskRow 4 k 0 := by
              have := i64_and_nat (k / 1) 15 (by omega) (by decide)
              rw [Nat.div_one] at this
              rw [show (15 : Nat) = 2 ^ 4 - 1 from rfl, Nat.and_two_pow_sub_one_eq_mod] at this
              unfold maskRow
              simpa using this
            have HVAL := Lib.hid hval
            clear hval
            have hw0 : IntKind.i64.wrap 0 = 0 := rfl
            have hw1 : IntKind.i64.wrap 16 = 16 := rfl
            have hw2 : IntKind.i64.wrap 15 = 15 := rfl
            have hgb : wg.heap.size < wr.heap.size := H.h0.lt
            go_wp2_with fail
            go_region_law (refine step_app rfl (.tmp 47) (.tmp 57) 22 rfl 3 j0 _ 1 8 Try.underlying22 hj0 hy0 hy1 hy2 rfl (by decide) (.slice A 0 cv) 0 _ (by simp [Act.eval]) ((H.alloc _).drew.g1) (some ⟨wr.heap.size, 0, none⟩) 1 1 [.int .i64 (bits .and .i64 (k : Int) 15)] (by simp [Act.eval]) (Rd.fresh wr 3 #[.int .i64 (bits .and .i64 (k : Int) 15)] 1 1 rfl) oc1 (by unfold maxLen; omega) (by omega) ?_; intro v' w5 H5; obtain ⟨A5, cv5, rfl, _, _, _⟩ := Res.row_at H5.h0; have y1 := H5.h1.cell 1; have f1 := H5.h1.frozen 1; simp at y1)
            all_goals
              have H6 := H5.g1.set_ 1 (.slice A5 (0 + 1) cv5)
              have e : ic (regTo 4 k 1) = ic (regTo 4 k 0) ++ [.int .i64 (maskRow 4 k 0)] := by rw [show 1 = 0 + 1 from rfl, regTo_succ, ic_append]; rfl
              rw [← HVAL.out] at e
              have HE := Lib.hid e
              clear e hw0 hw1 hw2 f1 y1 x0 x1 H5
              go_wp2
              go_roundw
              case rel => exact ⟨1, .slice A5 1 cv5, by omega, rfl, by rw [HE.out]; exact H6⟩
              case measure => simp [intOf]
          · have hval : bits .and .i64 ((k : Int) / 16) 15 = maskRow 4 k 1 := by
              have := i64_and_nat (k / 16) 15 (by omega) (by decide)
              simp only [Int.natCast_ediv] at this
              rw [show (15 : Nat) = 2 ^ 4 - 1 from rfl, Nat.and_two_pow_sub_one_eq_mod] at this
              unfold maskRow
              simpa using this
            have HVAL := Lib.hid hval
            clear hval
            have hw0 : IntKind.i64.wrap 4 = 4 := rfl
            have hw1 : IntKind.i64.wrap 16 = 16 := rfl
            have hw2 : IntKind.i64.wrap 15 = 15 := rfl
            have hgb : wg.heap.size < wr.heap.size := H.h0.lt
            go_wp2_with fail
            go_region_law (refine step_app rfl (.tmp 47) (.tmp 57) 22 rfl 3 j0 _ 1 8 Try.underlying22 hj0 hy0 hy1 hy2 rfl (by decide) (.slice A 1 cv) 1 _ (by simp [Act.eval]) ((H.alloc _).drew.g1) (some ⟨wr.heap.size, 0, none⟩) 1 1 [.int .i64 (bits .and .i64 ((k : Int) / 16) 15)] (by simp [Act.eval]) (Rd.fresh wr 3 #[.int .i64 (bits .and .i64 ((k : Int) / 16) 15)] 1 1 rfl) oc1 (by unfold maxLen; omega) (by omega) ?_; intro v' w5 H5; obtain ⟨A5, cv5, rfl, _, _, _⟩ := Res.row_at H5.h0; have y1 := H5.h1.cell 1; have f1 := H5.h1.frozen 1; simp at y1)
            all_goals
              have H6 := H5.g1.set_ 1 (.slice A5 (1 + 1) cv5)
              have e : ic (regTo 4 k 2) = ic (regTo 4 k 1) ++ [.int .i64 (maskRow 4 k 1)] := by rw [show 2 = 1 + 1 from rfl, regTo_succ, ic_append]; rfl
              rw [← HVAL.out] at e
              have HE := Lib.hid e
              clear e hw0 hw1 hw2 f1 y1 x0 x1 H5
              go_wp2
              go_roundw
              case rel => exact ⟨2, .slice A5 2 cv5, by omega, rfl, by rw [HE.out]; exact H6⟩
              case measure => simp [intOf]
          · have hval : bits .and .i64 ((k : Int) / 256) 15 = maskRow 4 k 2 := by
              have := i64_and_nat (k / 256) 15 (by omega) (by decide)
              simp only [Int.natCast_ediv] at this
              rw [show (15 : Nat) = 2 ^ 4 - 1 from rfl, Nat.and_two_pow_sub_one_eq_mod] at this
              unfold maskRow
              simpa using this
            have HVAL := Lib.hid hval
            clear hval
            have hw0 : IntKind.i64.wrap 8 = 8 := rfl
            have hw1 : IntKind.i64.wrap 16 = 16 := rfl
            have hw2 : IntKind.i64.wrap 15 = 15 := rfl
            have hgb : wg.heap.size < wr.heap.size := H.h0.lt
            go_wp2_with fail
            go_region_law (refine step_app rfl (.tmp 47) (.tmp 57) 22 rfl 3 j0 _ 1 8 Try.underlying22 hj0 hy0 hy1 hy2 rfl (by decide) (.slice A 2 cv) 2 _ (by simp [Act.eval]) ((H.alloc _).drew.g1) (some ⟨wr.heap.size, 0, none⟩) 1 1 [.int .i64 (bits .and .i64 ((k : Int) / 256) 15)] (by simp [Act.eval]) (Rd.fresh wr 3 #[.int .i64 (bits .and .i64 ((k : Int) / 256) 15)] 1 1 rfl) oc1 (by unfold maxLen; omega) (by omega) ?_; intro v' w5 H5; obtain ⟨A5, cv5, rfl, _, _, _⟩ := Res.row_at H5.h0; have y1 := H5.h1.cell 1; have f1 := H5.h1.frozen 1; simp at y1)
            all_goals
              have H6 := H5.g1.set_ 1 (.slice A5 (2 + 1) cv5)
              have e : ic (regTo 4 k 3) = ic (regTo 4 k 2) ++ [.int .i64 (maskRow 4 k 2)] := by rw [show 3 = 2 + 1 from rfl, regTo_succ, ic_append]; rfl
              rw [← HVAL.out] at e
              have HE := Lib.hid e
              clear e hw0 hw1 hw2 f1 y1 x0 x1 H5
              go_wp2
              go_roundw
              case rel => exact ⟨3, .slice A5 3 cv5, by omega, rfl, by rw [HE.out]; exact H6⟩
              case measure => simp [intOf]
        · obtain rfl : j = 3 := by omega
          obtain ⟨A, cv, rfl, _, _, _⟩ := Res.row_at H.h1
          have hol := onesLoop_popc (m := k) (by omega)
          have HOL := Lib.hid hol
          clear hol
          obtain ⟨wq, hwq⟩ : ∃ wq : World, wq = wr := ⟨_, rfl⟩
          subst hwq
          go_wp2
          go_loop [8, 10] (fun nv xv => ∃ t x n : Nat, nv = .int .i64 n ∧ xv = .int .i64 x ∧ x < 4096 ∧ t + n ≤ 12 ∧ Hid (x < 2 ^ t) ∧ Hid (n + onesLoop t x = popc k)) (fun _ xv => (intOf xv).toNat)
          case atStart => exact ⟨12, k, 0, rfl, rfl, by omega, by omega, Lib.hid (by omega), Lib.hid (by rw [Nat.zero_add]; exact HOL.out)⟩
          case round =>
            obtain ⟨t, x, n, rfl, rfl, hx, htn, HX, HN⟩ := hrel
            by_cases hx0 : 0 < x
            · obtain ⟨t', rfl⟩ : ∃ t', t = t' + 1 := by
                rcases t with _ | t'
                · have := HX.out; omega
                · exact ⟨t', rfl⟩
              obtain ⟨c, hc⟩ : ∃ c, c = x % 2 := ⟨_, rfl⟩
              have hb := and_one (x := x) (by omega)
              rw [← hc] at hb
              have hc1 : c ≤ 1 := by omega
              have hn2 : n + c + onesLoop t' (x / 2) = popc k := by have := HN.out; unfold onesLoop at this; rw [← hc] at this; omega
              have HN2 := Lib.hid hn2
              have hx2 : x / 2 < 2 ^ t' := by have := HX.out; rw [Nat.pow_succ] at this; omega
              have HX2 := Lib.hid hx2
              clear hn2 hx2 hc
              go_wp2
              go_round
              case rel => exact ⟨t', x / 2, n + c, by go_num, by simp, by omega, by omega, HX2, HN2⟩
              case measure => simp [intOf]; omega
            · obtain rfl : x = 0 := by omega
              have hnp : popc k = n := by have := HN.out; rw [onesLoop_zero] at this; omega
              have x0 := H.h0.cell 0
              have x1 := H.h0.cell 1
              simp at x0 x1
              have hrd : RegRd wq 0 wq.heap.size (.agg #[.int .i64 4, .slice A 3 cv]) (regOf 4 3 k) := by
                have := (H.g1.oi.sr).more (Nat.zero_le _) (Nat.le_refl _)
                exact ⟨_, rfl, this⟩
              have HNP := Lib.hid hnp
              clear hnp
              go_wp2_with fail
              clear x0 x1
              refine (spec_isspanning_c (r := regOf 4 3 k) wq hrd).mono ?_
              rintro e w4 ⟨rfl, b4⟩
              have H4 := (H.step b4).drop.drop
              clear b4 H hrd
              cases hsp : (regOf 4 3 k).spanWay.isSome
              · have ht : tabTo 4 3 (k + 1) = tabTo 4 3 k := by rw [tabTo, hsp]; rfl
                have HT := Lib.hid ht
                clear ht hsp
                go_wp2
                go_roundw
                case rel => exact ⟨k + 1, by omega, by go_num, by rw [HT.out]; exact H4⟩
                case measure => simp [intOf]; omega
              · have ht : tabTo 4 3 (k + 1) = bump (tabTo 4 3 k) (popc k) := by rw [tabTo, hsp]; rfl
                rw [HNP.out] at ht
                have HT := Lib.hid ht
                have hpl := popc_lt (w := 4) (h := 3) (m := k) (by decide) hlt
                rw [HNP.out] at hpl
                have htl := tabTo_length (w := 4) (h := 3) k
                have hcell := List.getElem?_eq_getElem (show n < (tabTo 4 3 k).length by omega)
                have hbd := tabTo_bd (w := 4) (h := 3) k _ (List.getElem_mem (show n < (tabTo 4 3 k).length by omega))
                obtain ⟨a, ha⟩ : ∃ a, a = (tabTo 4 3 k)[n]'(by omega) := ⟨_, rfl⟩
                rw [← ha] at hcell hbd
                have hb : bump (tabTo 4 3 k) n = (tabTo 4 3 k).set n (a + 1) := by
                  unfold bump
                  rw [List.getD, hcell]; rfl
                have HB := Lib.hid hb
                have HCELL := Lib.hid hcell
                obtain ⟨hb1, hb2⟩ := hbd
                have HTL := Lib.hid htl
                have hp13i : (n : Int) < 13 := by omega
                have hp0i : (0 : Int) ≤ (n : Int) := Int.natCast_nonneg _
                clear ht hsp ha hb hcell htl
                have r0 := own_cell1 H4.h0 HCELL.out
                have fr := own_free H4.h0 n
                simp only [Nat.zero_add] at r0 fr
                go_wp2
                have H7 := H4.setRow (j := n) (by rw [ic_length, HTL.out]; omega) (.int .i64 (a + 1))
                rw [ic_set, ← HB.out, ← HT.out] at H7
                simp only [Nat.zero_add] at H7
                go_roundw
                case rel => exact ⟨k + 1, by omega, by go_num, H7⟩
                case measure => simp [intOf]; omega
    · obtain rfl : k = 4096 := by omega
      have hre : R = tabTo 4 3 4096 := HR.out
      have HRE := Lib.hid hre
      clear hre
      go_wp2
      go_ret
      rw [HRE.out]
      refine ⟨_, rfl, ?_, H.below⟩
      have := H.oi
      unfold IntsIn
      rw [tabTo_length]
      exact this

end Go.Proofs.Ytjmeplchabehfaa
