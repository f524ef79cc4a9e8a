
/-
  The shape inside a word: the reference's walk.
-/
import Derived.Test.YtghpkfihdcjlaaaGreatDoorBdI
import Derived.Test.YtghpkfihdcjlaaaGreatDoorBdB
namespace Go.Proofs.YtghpkfihdcjlaaaGreatDoor
open Go.RowKit

theorem wstr_beq {a b : List UInt8} : ((wstr a).toList == (wstr b).toList) = decide (a = b) := by
  rw [Lib.toList_data, Lib.toList_data, Bool.eq_iff_iff, beq_iff_eq, decide_eq_true_iff]
theorem sumB_at {F : Cell → Nat → Int} {w : List UInt8} {i : Nat} {u : UInt8} (h : w[i]? = some u) : sumB F w (i + 1) = sumB F w i + F (wayW w i) (dirN u) := by rw [sumB, h]
theorem wndR_hor (x y : Int) (p : Cell) {d : Nat} (h1 : ¬ d = 1) (h3 : ¬ d = 3) : wndR x y p d = 0 := by simp [wndR, h1, h3, bI]
theorem wndR_dn (x y : Int) (p : Cell) : wndR x y p 1 = if p.y = y ∧ x < p.x then 1 else 0 := by
  by_cases h1 : p.y = y <;> by_cases h2 : x < p.x <;> simp [wndR, bI, h1, h2]
theorem wndR_up (x y : Int) (p : Cell) : wndR x y p 3 = if p.y = y + 1 ∧ x < p.x then -1 else 0 := by
  by_cases h1 : p.y = y + 1 <;> by_cases h2 : x < p.x
  · simp [wndR, bI, h1, h2, show y + 1 - 1 = y by omega]
  · simp [wndR, bI, h2]
  · simp [wndR, bI, h1, show ¬ p.y - 1 = y by omega]
  · simp [wndR, bI, h2]
theorem wndR_le (x y : Int) (p : Cell) (d : Nat) : -1 ≤ wndR x y p d ∧ wndR x y p d ≤ 1 := by
  unfold wndR
  rcases bI_two (decide (d = 1) && (decide (p.y = y) && decide (x < p.x))) with e | e <;> rcases bI_two (decide (d = 3) && (decide (p.y - 1 = y) && decide (x < p.x))) with e' | e' <;> rw [e, e'] <;> decide
theorem sumR_bd (x y : Int) (w : List UInt8) : ∀ i : Nat, -(i : Int) ≤ sumB (wndR x y) w i ∧ sumB (wndR x y) w i ≤ i
  | 0 => by simp [sumB]
  | i + 1 => by
    have ih := sumR_bd x y w i
    rw [sumB]
    cases w[i]? with
    | none => simp only; omega
    | some u =>
      have := wndR_le x y (wayW w i) (dirN u)
      simp only
      omega
set_option maxRecDepth 100000 in
set_option maxHeartbeats 800000 in
theorem l2Corner_nil {v : Value} (w : World) (h : CellsRd w 0 w.heap.size v []) :
    Calls Tryz.prog 39 #[v] w fun e w' => ∃ v', e = .returned v' ∧ CellsIn w' w.heap.size w'.heap.size v' [] ∧ Below w.heap.size w w' := by
  obtain ⟨A, c, rfl, _, _⟩ := h
  have H0 := (Sep.start w).rowBox 46 #[] 2 0 rfl (by decide)
  go_enter Tryz.func39, Tryz.ntmps39
  go_wp2
  generalize w.alloc (.cells #[] 46) = W at *
  go_loopw [6] (fun i wr => i = .int .i64 0 ∧ W = wr) (fun _ _ => 0)
  case atStart => exact ⟨rfl, rfl⟩
  case round =>
    obtain ⟨rfl, rfl⟩ := hrel
    go_wp2
    go_loopw [3, 7] (fun sv i wr => sv = .slice (some ⟨w.heap.size, 0, none⟩) 0 0 ∧ i = .int .i64 0 ∧ W = wr) (fun _ _ _ => 0)
    case atStart => exact ⟨rfl, rfl, rfl⟩
    case round =>
      obtain ⟨rfl, rfl, rfl⟩ := hrel
      go_wp2
      go_ret
      exact ⟨_, rfl, CellsIn.mk H0.oi.1 rfl rfl, H0.below⟩
set_option maxRecDepth 100000 in
set_option maxHeartbeats 6400000 in
theorem spec_inside_c {W : List UInt8} (w : World) (hF : clB W = true → (filTo W 40).length ≤ 64) :
    Calls Tryz.prog 15 #[.string (wstr W)] w fun e w' => ∃ v, e = .returned (.tuple #[v, .bool (okI W)]) ∧ CellsIn w' w.heap.size w'.heap.size v (insL W) ∧ Below w.heap.size w w' := by
  obtain ⟨i0, hi, hz0, hz1, hz2⟩ := info_parts infoCellW
  have HAR := Lib.hid (spec_area_c (W := W) w)
  have hsz : (wstr W).size = W.length := wstr_size
  obtain ⟨B, hB⟩ : ∃ B, B = wstr W := ⟨_, rfl⟩
  rw [← hB] at hsz HAR ⊢
  have HB := Lib.hid hB
  obtain ⟨C, hC⟩ : ∃ C, C = clB W := ⟨_, rfl⟩
  obtain ⟨Z, hZ⟩ : ∃ Z, Z = arZ W := ⟨_, rfl⟩
  obtain ⟨R, hR⟩ : ∃ R, R = okI W := ⟨_, rfl⟩
  obtain ⟨RL, hRL⟩ : ∃ R, R = insL W := ⟨_, rfl⟩
  rw [← hR, ← hRL]
  rw [← hC, ← hZ] at HAR
  have HC := Lib.hid hC
  have HZ := Lib.hid hZ
  have HR := Lib.hid hR
  have HRL := Lib.hid hRL
  have HF := Lib.hid hF
  clear hB hC hZ hR hRL hF
  go_enter Tryz.func15, Tryz.ntmps15
  go_wp2_with fail
  refine (HAR.out).mono ?_
  rintro e w1 ⟨rfl, b1⟩
  clear HAR
  cases C
  case false =>
    have HRF : Hid (R = false) := Lib.hid (by
      rw [HR.out]
      cases hh : okI W
      · rfl
      · have := (okI_closed hh).1; rw [← HC.out] at this; cases this)
    obtain rfl : R = false := HRF.out
    obtain rfl : RL = [] := by rw [HRL.out]; exact okI_no HR.out.symm
    have H0 := ((Sep.start w).step b1).rowBox 46 #[] 2 0 rfl (by decide)
    clear HRF b1
    go_wp2
    refine bodyPost_ret (results_tmp2 rfl _ _ _) rfl ?_
    exact ⟨_, rfl, CellsIn.mk H0.oi.1 rfl rfl, H0.below⟩
  obtain ⟨hn40, hokl, _⟩ := clB_iff.1 HC.out.symm
  have HOK := Lib.hid hokl
  obtain ⟨n, hn⟩ : ∃ n, n = W.length := ⟨_, rfl⟩
  have HN := Lib.hid hn
  rw [← hn] at hsz hn40
  clear hn hokl
  obtain ⟨g, hg⟩ : ∃ g, g = inR Z 1 8 := ⟨_, rfl⟩
  have HLI : Hid (∀ w' : World, Calls Tryz.prog 41 #[.int .i64 Z, .int .i64 1, .int .i64 8] w' fun e w'' => e = .returned (.bool g) ∧ w' = w'') := Lib.hid fun w' => by rw [hg]; exact l1In_r _ _ _ _
  have HG := Lib.hid hg
  clear hg
  go_wp2_with fail
  refine (HLI.out _).mono ?_
  rintro e w2 ⟨rfl, rfl⟩
  clear HLI
  cases g
  case false =>
    have HRF : Hid (R = false) := Lib.hid (by
      rw [HR.out]
      cases hh : okI W
      · rfl
      · have h2 := (okI_closed hh).2
        rw [← HZ.out] at h2
        have h3 := HG.out
        rw [inR_t h2.1 h2.2] at h3
        cases h3)
    obtain rfl : R = false := HRF.out
    obtain rfl : RL = [] := by rw [HRL.out]; exact okI_no HR.out.symm
    have H0 := ((Sep.start w).step b1).rowBox 46 #[] 2 0 rfl (by decide)
    clear HRF b1
    go_wp2
    refine bodyPost_ret (results_tmp2 rfl _ _ _) rfl ?_
    exact ⟨_, rfl, CellsIn.mk H0.oi.1 rfl rfl, H0.below⟩
  have H0 := ((Sep.start w).step b1).rowBox 46 #[] 2 0 rfl (by decide)
  clear b1
  go_wp2
  generalize w1.alloc (.cells #[] 46) = W0 at *
  go_loopw [6, 7] (fun sv yv wr => ∃ (r : Nat) (L : List Cell), r ≤ 40 ∧ yv = .int .i64 ((r : Int) - 20) ∧ Hid (L = filTo W r) ∧ L.length ≤ 40 * r ∧ Sep w wr [Res.row sv 46 2 L.length (cc L)]) (fun _ yv _ => 40 - (intOf yv + 20).toNat)
  case atStart => exact ⟨0, [], by omega, rfl, Lib.hid rfl, by simp, H0⟩
  case round =>
    clear H0
    obtain ⟨r, L, hr, rfl, HL, hLl, H⟩ := hrel
    by_cases hr40 : r < 40
    · obtain ⟨y, hy⟩ : ∃ y : Int, y = (r : Int) - 20 := ⟨_, rfl⟩
      rw [← hy]
      have hy1 : -20 ≤ y := by omega
      have hy2 : y < 20 := by omega
      have HY := Lib.hid hy
      obtain ⟨L0, hL0⟩ : ∃ L0, L0 = L := ⟨_, rfl⟩
      have HL0 : Hid (L0 = filTo W r) := Lib.hid (by rw [hL0]; exact HL.out)
      have HLS : Hid (L = L0 ++ rowTo W y 0) := Lib.hid (by rw [hL0]; simp [rowTo])
      clear hy hL0 HL
      go_wp2
      go_loopw [6, 8] (fun sv xv wr => ∃ (k : Nat) (L : List Cell), k ≤ 40 ∧ xv = .int .i64 ((k : Int) - 20) ∧ Hid (L = L0 ++ rowTo W y k) ∧ L.length ≤ 40 * r + k ∧ Sep w wr [Res.row sv 46 2 L.length (cc L)]) (fun _ xv _ => 40 - (intOf xv + 20).toNat)
      case atStart => exact ⟨0, L, by omega, rfl, HLS, by omega, H⟩
      case round =>
        clear H HLS hLl
        obtain ⟨k, L, hk, rfl, HLS, hLl, H⟩ := hrel
        by_cases hk40 : k < 40
        · obtain ⟨x, hx⟩ : ∃ x : Int, x = (k : Int) - 20 := ⟨_, rfl⟩
          rw [← hx]
          have hx1 : -20 ≤ x := by omega
          have hx2 : x < 20 := by omega
          have HX := Lib.hid hx
          obtain ⟨As, cs, rfl, _, _, _⟩ := Res.row_at H.h0
          have H1 := H.box 46 #[.int .i64 0, .int .i64 0]
          obtain ⟨ga, hga⟩ : ∃ ga, ga = wr.heap.size := ⟨_, rfl⟩
          rw [← hga] at H1
          clear hx H
          go_upto_region 13 with fail
          rw [← hga]
          generalize wr.alloc (.cells #[.int .i64 0, .int .i64 0] 46) = W2 at *
          clear hga
          go_wp2
          go_loopw [9, 11] (fun nv iv wr => ∃ (i : Nat) (m : Int) (p : Cell), i ≤ n ∧ iv = .int .i64 i ∧ nv = .int .i64 m ∧ Hid (m = sumB (wndR x y) W i) ∧ Hid (p = wayW W i) ∧ Sep w wr [Res.box ga 46 #[.int .i64 p.x, .int .i64 p.y], Res.row (.slice As L.length cs) 46 2 L.length (cc L)]) (fun _ iv _ => n - (intOf iv).toNat)
          case atStart => exact ⟨0, 0, ⟨0, 0⟩, Nat.zero_le _, rfl, rfl, Lib.hid rfl, Lib.hid rfl, H1⟩
          case round =>
            clear H1
            obtain ⟨i, m, p, hin, rfl, rfl, HM, HP, H⟩ := hrel
            by_cases hlt : i < n
            · have hlti : (i : Int) < (n : Int) := by omega
              obtain ⟨u, hu⟩ : ∃ u, W[i]? = some u := ⟨W[i]'(by rw [← HN.out]; exact hlt), List.getElem?_eq_getElem _⟩
              obtain ⟨hk2, hbk⟩ := wstr_at HB.out hu
              obtain ⟨q, hq⟩ : ∃ q, q = wayW W (i + 1) := ⟨_, rfl⟩
              have hbd := wayW_bd W i
              rw [← HP.out] at hbd
              have hmb := sumR_bd x y W i
              rw [← HM.out] at hmb
              have hd4 := okL_at hu HOK.out
              have HU := Lib.hid hu
              clear hu
              rcases dir_cases u with ⟨rfl, hd⟩ | ⟨rfl, hd⟩ | ⟨rfl, hd⟩ | ⟨rfl, hd⟩ | ⟨_, _, _, _, hd⟩
              · clear hd hd4
                have HM2 : Hid (m = sumB (wndR x y) W (i + 1)) := Lib.hid (by rw [sumB_at HU.out, ← HM.out, ← HP.out]; exact (by rw [wndR_hor x y p (d := dirN 114) (by decide) (by decide), Int.add_zero]))
                have HQ : Hid (q = stepC p 0) := Lib.hid (by rw [hq, wayW_at HU.out, ← HP.out]; rfl)
                have HST : Hid (∀ w', Calls Tryz.prog 33 #[.agg #[.int .i64 p.x, .int .i64 p.y], .int .u8 114] w' fun e w'' => e = .returned (.tuple #[.agg #[.int .i64 q.x, .int .i64 q.y], .bool true]) ∧ Below w'.heap.size w' w'') := Lib.hid fun w' => by
                  rw [HQ.out]
                  exact spec_step_c p 0 w' (by decide) (by omega) (by omega)
                have HQW := Lib.hid hq
                have hbn : ((B[i]'hk2).toNat : Int) = 114 := by rw [hbk]; rfl
                clear hbk hq
                have k0 : wr.cell? ⟨ga, 0, none⟩ = some (.int .i64 p.x) := H.h0.cell 0
                have k1 : wr.cell? ⟨ga, 1, none⟩ = some (.int .i64 p.y) := H.h0.cell 1
                go_upto_region 20 with fail
                skip
                replace H := H.drew
                go_region_with ((go_at_call 33; refine (HST.out _).mono ?_; rintro e w5 ⟨rfl, b5⟩; have H5 := H.step b5; have f0 := H5.h0.frozen 0; have f1 := H5.h0.frozen 1; have k0' : w5.cell? ⟨ga, 0, none⟩ = some (.int .i64 p.x) := H5.h0.cell 0; have k1' : w5.cell? ⟨ga, 1, none⟩ = some (.int .i64 p.y) := H5.h0.cell 1))
                all_goals
                  have H6 := (H5.set_ 0 (.int .i64 q.x)).set_ 1 (.int .i64 q.y)
                  clear f0 f1 k0 k1 k0' k1' H H5 b5 HST hbn
                  go_wp2
                  go_roundw
                  case rel => exact ⟨i + 1, m, q, by omega, by go_num, rfl, HM2, HQW, H6⟩
                  case measure => simp [intOf]; omega
              · clear hd hd4
                by_cases hy' : p.y = y
                · have eY : (p.y == y) = true := beq_iff_eq.2 hy'
                  by_cases hx' : x < p.x
                  · have eX : decide (x < p.x) = true := decide_eq_true hx'
                    have HC2 := Lib.hid (And.intro hy' hx')
                    have y1 : wrap64 (m + 1) = m + 1 := IntWalk.wrap64_in _ (by omega)
                    clear hy'
                    have HM2 : Hid (m + 1 = sumB (wndR x y) W (i + 1)) := Lib.hid (by rw [sumB_at HU.out, ← HM.out, ← HP.out]; exact (by rw [show dirN 100 = 1 from rfl, wndR_dn, if_pos HC2.out]))
                    have HQ : Hid (q = stepC p 1) := Lib.hid (by rw [hq, wayW_at HU.out, ← HP.out]; rfl)
                    have HST : Hid (∀ w', Calls Tryz.prog 33 #[.agg #[.int .i64 p.x, .int .i64 p.y], .int .u8 100] w' fun e w'' => e = .returned (.tuple #[.agg #[.int .i64 q.x, .int .i64 q.y], .bool true]) ∧ Below w'.heap.size w' w'') := Lib.hid fun w' => by
                      rw [HQ.out]
                      exact spec_step_c p 1 w' (by decide) (by omega) (by omega)
                    have HQW := Lib.hid hq
                    have hbn : ((B[i]'hk2).toNat : Int) = 100 := by rw [hbk]; rfl
                    clear hbk hq
                    have k0 : wr.cell? ⟨ga, 0, none⟩ = some (.int .i64 p.x) := H.h0.cell 0
                    have k1 : wr.cell? ⟨ga, 1, none⟩ = some (.int .i64 p.y) := H.h0.cell 1
                    go_upto_region 20 with fail
                    clear eY eX y1
                    replace H := H.drew
                    go_region_with ((go_at_call 33; refine (HST.out _).mono ?_; rintro e w5 ⟨rfl, b5⟩; have H5 := H.step b5; have f0 := H5.h0.frozen 0; have f1 := H5.h0.frozen 1; have k0' : w5.cell? ⟨ga, 0, none⟩ = some (.int .i64 p.x) := H5.h0.cell 0; have k1' : w5.cell? ⟨ga, 1, none⟩ = some (.int .i64 p.y) := H5.h0.cell 1))
                    all_goals
                      have H6 := (H5.set_ 0 (.int .i64 q.x)).set_ 1 (.int .i64 q.y)
                      clear f0 f1 k0 k1 k0' k1' H H5 b5 HST hbn
                      go_wp2
                      go_roundw
                      case rel => exact ⟨i + 1, m + 1, q, by omega, by go_num, rfl, HM2, HQW, H6⟩
                      case measure => simp [intOf]; omega
                  · have eX : decide (x < p.x) = false := decide_eq_false hx'
                    have HC2 : Hid (¬ (p.y = y ∧ x < p.x)) := Lib.hid (fun h => hx' h.2)
                    clear hy'
                    have HM2 : Hid (m = sumB (wndR x y) W (i + 1)) := Lib.hid (by rw [sumB_at HU.out, ← HM.out, ← HP.out]; exact (by rw [show dirN 100 = 1 from rfl, wndR_dn, if_neg HC2.out, Int.add_zero]))
                    have HQ : Hid (q = stepC p 1) := Lib.hid (by rw [hq, wayW_at HU.out, ← HP.out]; rfl)
                    have HST : Hid (∀ w', Calls Tryz.prog 33 #[.agg #[.int .i64 p.x, .int .i64 p.y], .int .u8 100] w' fun e w'' => e = .returned (.tuple #[.agg #[.int .i64 q.x, .int .i64 q.y], .bool true]) ∧ Below w'.heap.size w' w'') := Lib.hid fun w' => by
                      rw [HQ.out]
                      exact spec_step_c p 1 w' (by decide) (by omega) (by omega)
                    have HQW := Lib.hid hq
                    have hbn : ((B[i]'hk2).toNat : Int) = 100 := by rw [hbk]; rfl
                    clear hbk hq
                    have k0 : wr.cell? ⟨ga, 0, none⟩ = some (.int .i64 p.x) := H.h0.cell 0
                    have k1 : wr.cell? ⟨ga, 1, none⟩ = some (.int .i64 p.y) := H.h0.cell 1
                    go_upto_region 20 with fail
                    clear eY eX
                    replace H := H.drew
                    go_region_with ((go_at_call 33; refine (HST.out _).mono ?_; rintro e w5 ⟨rfl, b5⟩; have H5 := H.step b5; have f0 := H5.h0.frozen 0; have f1 := H5.h0.frozen 1; have k0' : w5.cell? ⟨ga, 0, none⟩ = some (.int .i64 p.x) := H5.h0.cell 0; have k1' : w5.cell? ⟨ga, 1, none⟩ = some (.int .i64 p.y) := H5.h0.cell 1))
                    all_goals
                      have H6 := (H5.set_ 0 (.int .i64 q.x)).set_ 1 (.int .i64 q.y)
                      clear f0 f1 k0 k1 k0' k1' H H5 b5 HST hbn
                      go_wp2
                      go_roundw
                      case rel => exact ⟨i + 1, m, q, by omega, by go_num, rfl, HM2, HQW, H6⟩
                      case measure => simp [intOf]; omega
                · have eY : (p.y == y) = false := beq_eq_false_iff_ne.2 hy'
                  have HC2 : Hid (¬ (p.y = y ∧ x < p.x)) := Lib.hid (fun h => hy' h.1)
                  clear hy'
                  have HM2 : Hid (m = sumB (wndR x y) W (i + 1)) := Lib.hid (by rw [sumB_at HU.out, ← HM.out, ← HP.out]; exact (by rw [show dirN 100 = 1 from rfl, wndR_dn, if_neg HC2.out, Int.add_zero]))
                  have HQ : Hid (q = stepC p 1) := Lib.hid (by rw [hq, wayW_at HU.out, ← HP.out]; rfl)
                  have HST : Hid (∀ w', Calls Tryz.prog 33 #[.agg #[.int .i64 p.x, .int .i64 p.y], .int .u8 100] w' fun e w'' => e = .returned (.tuple #[.agg #[.int .i64 q.x, .int .i64 q.y], .bool true]) ∧ Below w'.heap.size w' w'') := Lib.hid fun w' => by
                    rw [HQ.out]
                    exact spec_step_c p 1 w' (by decide) (by omega) (by omega)
                  have HQW := Lib.hid hq
                  have hbn : ((B[i]'hk2).toNat : Int) = 100 := by rw [hbk]; rfl
                  clear hbk hq
                  have k0 : wr.cell? ⟨ga, 0, none⟩ = some (.int .i64 p.x) := H.h0.cell 0
                  have k1 : wr.cell? ⟨ga, 1, none⟩ = some (.int .i64 p.y) := H.h0.cell 1
                  go_upto_region 20 with fail
                  clear eY
                  replace H := H.drew
                  go_region_with ((go_at_call 33; refine (HST.out _).mono ?_; rintro e w5 ⟨rfl, b5⟩; have H5 := H.step b5; have f0 := H5.h0.frozen 0; have f1 := H5.h0.frozen 1; have k0' : w5.cell? ⟨ga, 0, none⟩ = some (.int .i64 p.x) := H5.h0.cell 0; have k1' : w5.cell? ⟨ga, 1, none⟩ = some (.int .i64 p.y) := H5.h0.cell 1))
                  all_goals
                    have H6 := (H5.set_ 0 (.int .i64 q.x)).set_ 1 (.int .i64 q.y)
                    clear f0 f1 k0 k1 k0' k1' H H5 b5 HST hbn
                    go_wp2
                    go_roundw
                    case rel => exact ⟨i + 1, m, q, by omega, by go_num, rfl, HM2, HQW, H6⟩
                    case measure => simp [intOf]; omega
              · clear hd hd4
                have HM2 : Hid (m = sumB (wndR x y) W (i + 1)) := Lib.hid (by rw [sumB_at HU.out, ← HM.out, ← HP.out]; exact (by rw [wndR_hor x y p (d := dirN 108) (by decide) (by decide), Int.add_zero]))
                have HQ : Hid (q = stepC p 2) := Lib.hid (by rw [hq, wayW_at HU.out, ← HP.out]; rfl)
                have HST : Hid (∀ w', Calls Tryz.prog 33 #[.agg #[.int .i64 p.x, .int .i64 p.y], .int .u8 108] w' fun e w'' => e = .returned (.tuple #[.agg #[.int .i64 q.x, .int .i64 q.y], .bool true]) ∧ Below w'.heap.size w' w'') := Lib.hid fun w' => by
                  rw [HQ.out]
                  exact spec_step_c p 2 w' (by decide) (by omega) (by omega)
                have HQW := Lib.hid hq
                have hbn : ((B[i]'hk2).toNat : Int) = 108 := by rw [hbk]; rfl
                clear hbk hq
                have k0 : wr.cell? ⟨ga, 0, none⟩ = some (.int .i64 p.x) := H.h0.cell 0
                have k1 : wr.cell? ⟨ga, 1, none⟩ = some (.int .i64 p.y) := H.h0.cell 1
                go_upto_region 20 with fail
                skip
                replace H := H.drew
                go_region_with ((go_at_call 33; refine (HST.out _).mono ?_; rintro e w5 ⟨rfl, b5⟩; have H5 := H.step b5; have f0 := H5.h0.frozen 0; have f1 := H5.h0.frozen 1; have k0' : w5.cell? ⟨ga, 0, none⟩ = some (.int .i64 p.x) := H5.h0.cell 0; have k1' : w5.cell? ⟨ga, 1, none⟩ = some (.int .i64 p.y) := H5.h0.cell 1))
                all_goals
                  have H6 := (H5.set_ 0 (.int .i64 q.x)).set_ 1 (.int .i64 q.y)
                  clear f0 f1 k0 k1 k0' k1' H H5 b5 HST hbn
                  go_wp2
                  go_roundw
                  case rel => exact ⟨i + 1, m, q, by omega, by go_num, rfl, HM2, HQW, H6⟩
                  case measure => simp [intOf]; omega
              · clear hd hd4
                by_cases hy' : p.y = y + 1
                · have eY : (p.y == y + 1) = true := beq_iff_eq.2 hy'
                  by_cases hx' : x < p.x
                  · have eX : decide (x < p.x) = true := decide_eq_true hx'
                    have HC2 := Lib.hid (And.intro hy' hx')
                    have y1 : wrap64 (m - 1) = m - 1 := IntWalk.wrap64_in _ (by omega)
                    clear hy'
                    have HM2 : Hid (m - 1 = sumB (wndR x y) W (i + 1)) := Lib.hid (by rw [sumB_at HU.out, ← HM.out, ← HP.out]; exact (by rw [show dirN 117 = 3 from rfl, wndR_up, if_pos HC2.out]; rfl))
                    have HQ : Hid (q = stepC p 3) := Lib.hid (by rw [hq, wayW_at HU.out, ← HP.out]; rfl)
                    have HST : Hid (∀ w', Calls Tryz.prog 33 #[.agg #[.int .i64 p.x, .int .i64 p.y], .int .u8 117] w' fun e w'' => e = .returned (.tuple #[.agg #[.int .i64 q.x, .int .i64 q.y], .bool true]) ∧ Below w'.heap.size w' w'') := Lib.hid fun w' => by
                      rw [HQ.out]
                      exact spec_step_c p 3 w' (by decide) (by omega) (by omega)
                    have HQW := Lib.hid hq
                    have hbn : ((B[i]'hk2).toNat : Int) = 117 := by rw [hbk]; rfl
                    clear hbk hq
                    have k0 : wr.cell? ⟨ga, 0, none⟩ = some (.int .i64 p.x) := H.h0.cell 0
                    have k1 : wr.cell? ⟨ga, 1, none⟩ = some (.int .i64 p.y) := H.h0.cell 1
                    go_upto_region 20 with fail
                    clear eY eX y1
                    replace H := H.drew
                    go_region_with ((go_at_call 33; refine (HST.out _).mono ?_; rintro e w5 ⟨rfl, b5⟩; have H5 := H.step b5; have f0 := H5.h0.frozen 0; have f1 := H5.h0.frozen 1; have k0' : w5.cell? ⟨ga, 0, none⟩ = some (.int .i64 p.x) := H5.h0.cell 0; have k1' : w5.cell? ⟨ga, 1, none⟩ = some (.int .i64 p.y) := H5.h0.cell 1))
                    all_goals
                      have H6 := (H5.set_ 0 (.int .i64 q.x)).set_ 1 (.int .i64 q.y)
                      clear f0 f1 k0 k1 k0' k1' H H5 b5 HST hbn
                      go_wp2
                      go_roundw
                      case rel => exact ⟨i + 1, m - 1, q, by omega, by go_num, rfl, HM2, HQW, H6⟩
                      case measure => simp [intOf]; omega
                  · have eX : decide (x < p.x) = false := decide_eq_false hx'
                    have HC2 : Hid (¬ (p.y = y + 1 ∧ x < p.x)) := Lib.hid (fun h => hx' h.2)
                    clear hy'
                    have HM2 : Hid (m = sumB (wndR x y) W (i + 1)) := Lib.hid (by rw [sumB_at HU.out, ← HM.out, ← HP.out]; exact (by rw [show dirN 117 = 3 from rfl, wndR_up, if_neg HC2.out, Int.add_zero]))
                    have HQ : Hid (q = stepC p 3) := Lib.hid (by rw [hq, wayW_at HU.out, ← HP.out]; rfl)
                    have HST : Hid (∀ w', Calls Tryz.prog 33 #[.agg #[.int .i64 p.x, .int .i64 p.y], .int .u8 117] w' fun e w'' => e = .returned (.tuple #[.agg #[.int .i64 q.x, .int .i64 q.y], .bool true]) ∧ Below w'.heap.size w' w'') := Lib.hid fun w' => by
                      rw [HQ.out]
                      exact spec_step_c p 3 w' (by decide) (by omega) (by omega)
                    have HQW := Lib.hid hq
                    have hbn : ((B[i]'hk2).toNat : Int) = 117 := by rw [hbk]; rfl
                    clear hbk hq
                    have k0 : wr.cell? ⟨ga, 0, none⟩ = some (.int .i64 p.x) := H.h0.cell 0
                    have k1 : wr.cell? ⟨ga, 1, none⟩ = some (.int .i64 p.y) := H.h0.cell 1
                    go_upto_region 20 with fail
                    clear eY eX
                    replace H := H.drew
                    go_region_with ((go_at_call 33; refine (HST.out _).mono ?_; rintro e w5 ⟨rfl, b5⟩; have H5 := H.step b5; have f0 := H5.h0.frozen 0; have f1 := H5.h0.frozen 1; have k0' : w5.cell? ⟨ga, 0, none⟩ = some (.int .i64 p.x) := H5.h0.cell 0; have k1' : w5.cell? ⟨ga, 1, none⟩ = some (.int .i64 p.y) := H5.h0.cell 1))
                    all_goals
                      have H6 := (H5.set_ 0 (.int .i64 q.x)).set_ 1 (.int .i64 q.y)
                      clear f0 f1 k0 k1 k0' k1' H H5 b5 HST hbn
                      go_wp2
                      go_roundw
                      case rel => exact ⟨i + 1, m, q, by omega, by go_num, rfl, HM2, HQW, H6⟩
                      case measure => simp [intOf]; omega
                · have eY : (p.y == y + 1) = false := beq_eq_false_iff_ne.2 hy'
                  have HC2 : Hid (¬ (p.y = y + 1 ∧ x < p.x)) := Lib.hid (fun h => hy' h.1)
                  clear hy'
                  have HM2 : Hid (m = sumB (wndR x y) W (i + 1)) := Lib.hid (by rw [sumB_at HU.out, ← HM.out, ← HP.out]; exact (by rw [show dirN 117 = 3 from rfl, wndR_up, if_neg HC2.out, Int.add_zero]))
                  have HQ : Hid (q = stepC p 3) := Lib.hid (by rw [hq, wayW_at HU.out, ← HP.out]; rfl)
                  have HST : Hid (∀ w', Calls Tryz.prog 33 #[.agg #[.int .i64 p.x, .int .i64 p.y], .int .u8 117] w' fun e w'' => e = .returned (.tuple #[.agg #[.int .i64 q.x, .int .i64 q.y], .bool true]) ∧ Below w'.heap.size w' w'') := Lib.hid fun w' => by
                    rw [HQ.out]
                    exact spec_step_c p 3 w' (by decide) (by omega) (by omega)
                  have HQW := Lib.hid hq
                  have hbn : ((B[i]'hk2).toNat : Int) = 117 := by rw [hbk]; rfl
                  clear hbk hq
                  have k0 : wr.cell? ⟨ga, 0, none⟩ = some (.int .i64 p.x) := H.h0.cell 0
                  have k1 : wr.cell? ⟨ga, 1, none⟩ = some (.int .i64 p.y) := H.h0.cell 1
                  go_upto_region 20 with fail
                  clear eY
                  replace H := H.drew
                  go_region_with ((go_at_call 33; refine (HST.out _).mono ?_; rintro e w5 ⟨rfl, b5⟩; have H5 := H.step b5; have f0 := H5.h0.frozen 0; have f1 := H5.h0.frozen 1; have k0' : w5.cell? ⟨ga, 0, none⟩ = some (.int .i64 p.x) := H5.h0.cell 0; have k1' : w5.cell? ⟨ga, 1, none⟩ = some (.int .i64 p.y) := H5.h0.cell 1))
                  all_goals
                    have H6 := (H5.set_ 0 (.int .i64 q.x)).set_ 1 (.int .i64 q.y)
                    clear f0 f1 k0 k1 k0' k1' H H5 b5 HST hbn
                    go_wp2
                    go_roundw
                    case rel => exact ⟨i + 1, m, q, by omega, by go_num, rfl, HM2, HQW, H6⟩
                    case measure => simp [intOf]; omega
              · omega
            · obtain rfl : i = n := by omega
              have HMC : Hid (m = cntR W ⟨(k : Int) - 20, y⟩) := Lib.hid (by rw [HM.out, cntR, HN.out, HX.out])
              have H2 := H.drop
              clear H
              by_cases hm1 : m = 1
              · subst hm1
                have HLS2 : Hid (L ++ [⟨x, y⟩] = L0 ++ rowTo W y (k + 1)) := Lib.hid (by
                  rw [rowTo, ← HMC.out, if_pos rfl, HLS.out, HX.out, List.append_assoc])
                go_wp2_with (at_builtin; refine wpList_app rfl _ _ 24 rfl 46 i0 _ 2 16 Tryz.underlying24 hi hz0 hz1 hz2 rfl (by decide) _ _ _ rfl (H2.alloc _) _ _ _ [.int .i64 x, .int .i64 y] rfl (Rd.fresh wr _ #[.int .i64 x, .int .i64 y] 2 1 rfl) oc2 (by unfold maxLen; omega) (by omega) ?_; intro v3 w3' H3; clear H2)
                have H4 : Sep w w3' [Res.row v3 46 2 (L ++ [(⟨x, y⟩ : Cell)]).length (cc (L ++ [(⟨x, y⟩ : Cell)]))] := by rw [cc_append, List.length_append]; exact H3
                clear H3
                go_roundw
                case rel => exact ⟨k + 1, L ++ [⟨x, y⟩], by omega, by rw [HX.out]; go_num, HLS2, by rw [List.length_append]; simp; omega, H4⟩
                case measure => simp [intOf]; omega
              · have e1 : (m == 1) = false := beq_eq_false_iff_ne.2 hm1
                have HLS2 : Hid (L = L0 ++ rowTo W y (k + 1)) := Lib.hid (by
                  rw [rowTo, ← HMC.out, if_neg hm1, HLS.out, List.append_nil])
                clear hm1
                go_wp2
                clear e1
                go_roundw
                case rel => exact ⟨k + 1, L, by omega, by rw [HX.out]; go_num, HLS2, by omega, H2⟩
                case measure => simp [intOf]; omega
        · obtain rfl : k = 40 := by omega
          have HL2 : Hid (L = filTo W (r + 1)) := Lib.hid (by rw [filTo, HLS.out, HL0.out, HY.out])
          go_wp2
          go_roundw
          case rel => exact ⟨r + 1, L, by omega, by rw [HY.out]; go_num, HL2, by omega, H⟩
          case measure => simp [intOf]; omega
    · obtain rfl : r = 40 := by omega
      have hL64 : L.length ≤ 64 := by rw [HL.out]; exact HF.out HC.out.symm
      have hsp := okI_spec (w := W)
      rw [← HL.out, ← HR.out, ← HRL.out] at hsp
      have HSP := Lib.hid hsp
      have HSM : Hid (∀ c ∈ L, Sml 100 c) := Lib.hid fun c hc => by
        rw [HL.out, filTo_mem] at hc
        exact ⟨⟨by omega, by omega⟩, ⟨by omega, by omega⟩⟩
      have HCO : Hid (∀ (u : Value) w1, CellsRd w1 0 w1.heap.size u L → Calls Tryz.prog 39 #[u] w1 fun e w' => ∃ v', e = .returned v' ∧ CellsIn w' w1.heap.size w'.heap.size v' (corner L) ∧ Below w1.heap.size w1 w') := Lib.hid fun u w1 hu => by
        by_cases h1 : 1 ≤ L.length
        · exact l2CornerB_c w1 hu h1 hL64 HSM.out
        · have h0 : L = [] := List.eq_nil_of_length_eq_zero (by omega)
          rw [h0] at hu ⊢
          exact l2Corner_nil w1 hu
      obtain ⟨As, cs, rfl, _, _, _⟩ := Res.row_at H.h0
      have hoi : CellsIn wr w.heap.size wr.heap.size (.slice As L.length cs) L := H.oi
      have HC1 := Lib.hid (HCO.out _ wr (hoi.rd.more (Nat.zero_le _) (Nat.le_refl _)))
      clear hoi
      clear hsp hLl hr40 hr
      go_wp2_with fail
      refine (HC1.out).mono ?_
      rintro e w4 ⟨v4, rfl, o4, b4⟩
      obtain ⟨T, hT⟩ : ∃ T, T = corner L := ⟨_, rfl⟩
      have hTl : T.length ≤ 64 := by rw [hT]; unfold corner; rw [shift_length]; exact hL64
      rw [← hT] at o4 HSP
      have H4 := H.oiNew b4 o4
      have HIS := Lib.hid (spec_isShape_c w4 (o4.rd.more (Nat.zero_le _) (Nat.le_refl _)) (by omega))
      have HBW : Hid (∀ w5, Below w4.heap.size w4 w5 → Calls Tryz.prog 7 #[v4] w5 fun e w' => e = .returned (.tuple #[.string (wstr (bordW T)), .bool (bordOk T)]) ∧ Below w5.heap.size w5 w') := Lib.hid fun w5 b5 => spec_bord_c w5 ((o4.rd.more (Nat.zero_le _) (Nat.le_refl _)).keep (SameIn.of_below b5 (Nat.le_refl _)) |>.more (Nat.le_refl _) b5.size) (by omega)
      obtain ⟨A4, c4, rfl, _, _⟩ := o4.rd
      obtain ⟨sb, hsb⟩ : ∃ b, b = isShape T := ⟨_, rfl⟩
      rw [← hsb] at HIS
      have HSB := Lib.hid hsb
      obtain ⟨ok, hok⟩ : ∃ b, b = bordOk T := ⟨_, rfl⟩
      obtain ⟨BT, hBT⟩ : ∃ b, b = wstr (bordW T) := ⟨_, rfl⟩
      obtain ⟨ew, hew⟩ : ∃ b, b = decide (bordW T = W) := ⟨_, rfl⟩
      rw [← hok, ← hBT] at HBW
      rw [← hok, ← hew] at HSP
      have HEW : Hid ((BT.toList == B.toList) = ew) := Lib.hid (by rw [hBT, hew, HB.out]; exact wstr_beq)
      have HOKT := Lib.hid hok
      clear HC1 HCO HSM o4 b4 hT hsb hok hBT hew H
      go_wp2_with fail
      refine (HIS.out).mono ?_
      rintro e w5 ⟨rfl, b5⟩
      have H5 := H4.step b5
      have HB5 := Lib.hid (HBW.out _ b5)
      clear HIS H4
      cases sb
      case false =>
        have HOF : Hid (ok = false) := Lib.hid (by rw [HOKT.out]; unfold bordOk connS; rw [← HSB.out, Bool.false_and, Bool.false_and, Bool.false_and])
        have HRF : Hid (R = false) := Lib.hid (by rw [HSP.out.1, HOF.out, Bool.false_and])
        obtain rfl : R = false := HRF.out
        obtain rfl : RL = [] := by rw [HRL.out]; exact okI_no HR.out.symm
        have H6 := H5.rowBox 46 #[] 2 0 rfl (by decide)
        clear HRF HOF H5 b5
        go_wp2
        refine bodyPost_ret (results_tmp2 rfl _ _ _) rfl ?_
        exact ⟨_, rfl, CellsIn.mk H6.oi.1 rfl rfl, H6.below⟩
      go_wp2_with fail
      refine (HB5.out).mono ?_
      rintro e w6 ⟨rfl, b6⟩
      have H6 := H5.step b6
      clear HB5 HBW H5 b5 b6
      have hew := HEW.out
      cases ok
      case false =>
        have HRF : Hid (R = false) := Lib.hid (by rw [HSP.out.1, Bool.false_and])
        obtain rfl : R = false := HRF.out
        obtain rfl : RL = [] := by rw [HRL.out]; exact okI_no HR.out.symm
        have H7 := H6.rowBox 46 #[] 2 0 rfl (by decide)
        clear HRF H6
        go_wp2
        refine bodyPost_ret (results_tmp2 rfl _ _ _) rfl ?_
        exact ⟨_, rfl, CellsIn.mk H7.oi.1 rfl rfl, H7.below⟩
      cases ew
      case false =>
        have HRF : Hid (R = false) := Lib.hid (by rw [HSP.out.1, Bool.and_false])
        obtain rfl : R = false := HRF.out
        obtain rfl : RL = [] := by rw [HRL.out]; exact okI_no HR.out.symm
        have H7 := H6.rowBox 46 #[] 2 0 rfl (by decide)
        clear HRF H6
        go_wp2
        refine bodyPost_ret (results_tmp2 rfl _ _ _) rfl ?_
        exact ⟨_, rfl, CellsIn.mk H7.oi.1 rfl rfl, H7.below⟩
      case true =>
        have HRF : Hid (R = true) := Lib.hid HSP.out.1
        obtain rfl : R = true := HRF.out
        obtain rfl : RL = T := HSP.out.2 rfl
        clear HRF
        go_wp2
        refine bodyPost_ret (results_tmp2 rfl _ _ _) rfl ?_
        exact ⟨_, rfl, H6.oi, H6.below⟩
end Go.Proofs.YtghpkfihdcjlaaaGreatDoor
