
/-
  The walk of the reference's 'EqualRegions'. The helpers of the laws over bytes: too many bytes, lists compared. The reference's 'IsDivision', walked. The program's 'IsDivision', walked, under the library's table.
-/
import Derived.Test.YtppbkiajcpdkiaaGreatDoorEqV
import Derived.Test.YtppbkiajcpdkiaaGreatDoorDraw
import Derived.Test.YtppbkiajcpdkiaaGreatDoorCwWalks
import Derived.Test.YtppbkiajcpdkiaaGreatDoorEqW
import Derived.Test.YtppbkiajcpdkiaaGreatDoorDivPX
import Derived.Test.YtppbkiajcpdkiaaGreatDoorSepX
namespace Go.Proofs.YtppbkiajcpdkiaaGreatDoor
open Go.RowKit

set_option maxRecDepth 100000 in
set_option maxHeartbeats 3200000 in
theorem spec_eqReg_c {v v' : Value} {a b : Reg} (w : World) (h : RegRd w 0 w.heap.size v a) (h' : RegRd w 0 w.heap.size v' b) :
    Calls Tryz.prog 11 #[v, v'] w fun e w' => e = .returned (.bool (same a b)) ∧ Below w.heap.size w w' := by
  obtain ⟨s, rfl, hs⟩ := h
  obtain ⟨s', rfl, hs'⟩ := h'
  obtain ⟨aw, ar⟩ := a
  obtain ⟨bw, br⟩ := b
  dsimp only at hs hs'
  obtain ⟨A, c, rfl, hm, hr⟩ := hs
  obtain ⟨A', c', rfl, hm', hr'⟩ := hs'
  unfold maxLen at hm hm'
  have H := ((Sep.start w).box 29 #[.int .i64 aw, .slice A ar.length c]).box 29 #[.int .i64 bw, .slice A' br.length c']
  simp only [World.size_alloc] at H
  obtain ⟨R, hR⟩ : ∃ R, R = same (⟨aw, ar⟩ : Reg) ⟨bw, br⟩ := ⟨_, rfl⟩
  rw [← hR]
  rw [same_reg] at hR
  dsimp only at hR
  have HR := Lib.hid hR
  clear hR
  have c0 : ((w.alloc (.cells #[.int .i64 aw, .slice A ar.length c] 29)).alloc (.cells #[.int .i64 bw, .slice A' br.length c'] 29)).cell? ⟨w.heap.size, 0, none⟩ = some (.int .i64 aw) := H.h1.cell 0
  have c1 : ((w.alloc (.cells #[.int .i64 aw, .slice A ar.length c] 29)).alloc (.cells #[.int .i64 bw, .slice A' br.length c'] 29)).cell? ⟨w.heap.size, 1, none⟩ = some (.slice A ar.length c) := H.h1.cell 1
  have d0 : ((w.alloc (.cells #[.int .i64 aw, .slice A ar.length c] 29)).alloc (.cells #[.int .i64 bw, .slice A' br.length c'] 29)).cell? ⟨w.heap.size + 1, 0, none⟩ = some (.int .i64 bw) := H.h0.cell 0
  have d1 : ((w.alloc (.cells #[.int .i64 aw, .slice A ar.length c] 29)).alloc (.cells #[.int .i64 bw, .slice A' br.length c'] 29)).cell? ⟨w.heap.size + 1, 1, none⟩ = some (.slice A' br.length c') := H.h0.cell 1
  by_cases hw : aw = bw
  rotate_left
  · have hRe : R = false := by rw [HR.out, decide_eq_false hw, Bool.false_and]
    subst hRe
    have e1 : (aw == bw) = false := by simpa using hw
    clear hw
    go_enter Tryz.func11, Tryz.ntmps11
    go_wp2
    go_ret
    exact ⟨rfl, H.below⟩
  subst hw
  by_cases hl : ar.length = br.length
  rotate_left
  · have hRe : R = false := by rw [HR.out, same_far hl, Bool.and_false]
    subst hRe
    have e1 : ((ar.length : Int) == (br.length : Int)) = false := by simp; omega
    clear hl
    go_enter Tryz.func11, Tryz.ntmps11
    go_wp2
    go_ret
    exact ⟨rfl, H.below⟩
  have HL := Lib.hid hl
  obtain ⟨n, hn⟩ : ∃ n, n = ar.length := ⟨_, rfl⟩
  rw [← hl, ← hn] at hr' d1 H c1 c0 d0
  rw [← hn] at hr hm
  rw [← hl, ← hn]
  have HN := Lib.hid hn
  clear hl hn
  go_enter Tryz.func11, Tryz.ntmps11
  go_wp2
  clear c0 c1 d0 d1
  generalize (w.alloc (.cells #[.int .i64 aw, .slice A n c] 29)).alloc (.cells #[.int .i64 aw, .slice A' n c'] 29) = W at *
  go_loopw [5] (fun i wr => ∃ k : Nat, k ≤ n ∧ i = .int .i64 k ∧ Hid (∀ (j : Nat) (x y : _), j < k → ar[j]? = some x → br[j]? = some y → x = y) ∧ Sep w wr [Res.box (w.heap.size + 1) 29 #[.int .i64 aw, .slice A' n c'], Res.box w.heap.size 29 #[.int .i64 aw, .slice A n c]]) (fun i _ => n - (intOf i).toNat)
  case atStart => exact ⟨0, Nat.zero_le _, rfl, Lib.hid (fun j _ _ h => absurd h (by omega)), H⟩
  case round =>
    clear H
    obtain ⟨k, hk, rfl, HK, H⟩ := hrel
    have c1 : wr.cell? ⟨w.heap.size, 1, none⟩ = some (.slice A n c) := H.h1.cell 1
    have d1 : wr.cell? ⟨w.heap.size + 1, 1, none⟩ = some (.slice A' n c') := H.h0.cell 1
    by_cases hlt : k < n
    · obtain ⟨bb, off, x, rfl, _, hb, hla, q1⟩ := Rd.at1 (f := fun n : Int => .int .i64 n) (hr.below H.below (Nat.le_refl _)) hlt
      obtain ⟨bb', off', y, rfl, _, hb', hla', q1'⟩ := Rd.at1 (f := fun n : Int => .int .i64 n) (hr'.below H.below (Nat.le_refl _)) hlt
      by_cases hxy : x = y
      · subst hxy
        have hk2 := alike_succ HK.out hla hla'
        have HK2 := Lib.hid hk2
        clear hr hr' hla hla' hk2
        go_wp2_with fail
        go_quiet (fail)
        have H2 := H.drewN nq
        clear H c1 d1 q1 q1'
        generalize wr.drewN nq = w2 at *
        go_wp2
        go_roundw
        case rel => exact ⟨k + 1, by omega, by go_num, HK2, H2⟩
        case measure => simp [intOf]; omega
      · have hRe : R = false := by rw [HR.out, same_at hla hla' hxy, Bool.and_false]
        subst hRe
        have e1 : (x == y) = false := by simpa using hxy
        clear hr hr' hla hla' hxy
        go_wp2_with fail
        go_quiet (fail)
        have H2 := H.drewN nq
        clear H c1 d1 q1 q1'
        generalize wr.drewN nq = w2 at *
        go_wp2
        go_ret
        exact ⟨rfl, H2.below⟩
    · obtain rfl : k = n := by omega
      have hRe : R = true := by rw [HR.out, same_all HL.out (by rw [← HN.out]; exact HK.out)]; simp
      subst hRe
      go_wp2
      go_ret
      exact ⟨rfl, H.below⟩

end Go.Proofs.YtppbkiajcpdkiaaGreatDoor

namespace Go.Proofs.YtppbkiajcpdkiaaGreatDoor
open Go.RowKit

set_option maxRecDepth 100000 in
theorem big_no {v : Value} {l : List UInt8} (w : World) (h : BytesRd w 0 w.heap.size v l) (hl : l.length ≤ 1048576) :
    Calls Tryz.prog 5 #[v] w fun e w' => e = .returned (.bool false) ∧ w = w' := by
  obtain ⟨A, c, rfl, hm, hr⟩ := h
  have hd : decide ((1048576 : Int) < (l.length : Int)) = false := by simp; omega
  clear hr
  go_enter Tryz.func5, Tryz.ntmps5
  go_wp2
  go_ret
  exact ⟨rfl, rfl⟩
set_option maxRecDepth 100000 in
theorem big_yes {v : Value} {l : List UInt8} (w : World) (h : BytesRd w 0 w.heap.size v l) (hl : 1048576 < l.length) :
    Calls Tryz.prog 5 #[v] w fun e w' => e = .returned (.bool true) ∧ w = w' := by
  obtain ⟨A, c, rfl, hm, hr⟩ := h
  have hd : decide ((1048576 : Int) < (l.length : Int)) = true := by simp; omega
  clear hr
  go_enter Tryz.func5, Tryz.ntmps5
  go_wp2
  go_ret
  exact ⟨rfl, rfl⟩

set_option maxRecDepth 100000 in
set_option maxHeartbeats 800000 in
theorem spec_eqShapes_same {v v' : Value} {l : List Cell} (w : World) (h : CellsRd w 0 w.heap.size v l) (h' : CellsRd w 0 w.heap.size v' l) :
    Calls Tryz.prog 124 #[v, v'] w fun e w' => e = .returned (.bool true) ∧ Below w.heap.size w w' := by
  obtain ⟨A, c, rfl, hm, hr⟩ := h
  obtain ⟨A', c', rfl, hm', hr'⟩ := h'
  unfold maxLen at hm
  clear hm'
  go_enter Tryz.func124, Tryz.ntmps124
  go_wp2
  go_loopw [5] (fun i wr => ∃ k : Nat, k ≤ l.length ∧ i = .int .i64 k ∧ Below w.heap.size w wr) (fun i _ => l.length - (intOf i).toNat)
  case atStart => exact ⟨0, Nat.zero_le _, rfl, Below.refl _ _⟩
  case round =>
    obtain ⟨k, hk, rfl, hbel⟩ := hrel
    by_cases hlt : k < l.length
    · obtain ⟨b, off, a, rfl, _, hb, hla, q1, q2⟩ := (hr.below hbel (Nat.le_refl _)).at2 hlt
      obtain ⟨b', off', a', rfl, _, hb', hla', q1', q2'⟩ := (hr'.below hbel (Nat.le_refl _)).at2 hlt
      obtain rfl : a = a' := by rw [hla] at hla'; injection hla'
      have heq : ∀ n, (Op.equal 65 (.agg #[.int .i64 a.x, .int .i64 a.y]) (.agg #[.int .i64 a.x, .int .i64 a.y])).run Tryz.prog (wr.drewN n) = .ok true (wr.drewN n) := fun n => by have := run_equal_cell (wr.drewN n) a a; rw [decide_eq_true rfl] at this; exact this
      clear hr hr' hla hla'
      go_wp2_with fail
      go_quiet (fail)
      have hbel2 := below_drewN hbel nq
      generalize wr.drewN nq = w2 at *
      clear heq q1 q2 q1' q2'
      go_wp2
      go_roundw
      case rel => exact ⟨k + 1, by omega, by go_num, hbel2⟩
      case measure => simp [intOf]; omega
    · go_wp2
      go_ret
      exact ⟨rfl, hbel⟩

set_option maxRecDepth 100000 in
set_option maxHeartbeats 800000 in
theorem laws_sameInts_same {v v' : Value} {l : List Int} (w : World) (h : IntsRd w 0 w.heap.size v l) (h' : IntsRd w 0 w.heap.size v' l) :
    Calls Tryz.prog 13 #[v, v'] w fun e w' => e = .returned (.bool true) ∧ Below w.heap.size w w' := by
  obtain ⟨A, c, rfl, hm, hr⟩ := h
  obtain ⟨A', c', rfl, hm', hr'⟩ := h'
  unfold maxLen at hm
  clear hm'
  go_enter Tryz.func13, Tryz.ntmps13
  go_wp2
  go_loopw [5] (fun i wr => ∃ k : Nat, k ≤ l.length ∧ i = .int .i64 k ∧ Below w.heap.size w wr) (fun i _ => l.length - (intOf i).toNat)
  case atStart => exact ⟨0, Nat.zero_le _, rfl, Below.refl _ _⟩
  case round =>
    obtain ⟨k, hk, rfl, hbel⟩ := hrel
    by_cases hlt : k < l.length
    · obtain ⟨b, off, a, rfl, _, hb, hla, q1⟩ := Rd.at1 (f := fun n : Int => .int .i64 n) (hr.below hbel (Nat.le_refl _)) hlt
      obtain ⟨b', off', a', rfl, _, hb', hla', q1'⟩ := Rd.at1 (f := fun n : Int => .int .i64 n) (hr'.below hbel (Nat.le_refl _)) hlt
      obtain rfl : a = a' := by rw [hla] at hla'; injection hla'
      clear hr hr' hla hla'
      go_wp2_with fail
      go_quiet (fail)
      have hbel2 := below_drewN hbel nq
      generalize wr.drewN nq = w2 at *
      clear q1 q1'
      go_wp2
      go_roundw
      case rel => exact ⟨k + 1, by omega, by go_num, hbel2⟩
      case measure => simp [intOf]; omega
    · go_wp2
      go_ret
      exact ⟨rfl, hbel⟩

end Go.Proofs.YtppbkiajcpdkiaaGreatDoor

namespace Go.Proofs.YtppbkiajcpdkiaaGreatDoor
open Go.RowKit

theorem cellsOf_len {r : Reg} {n : Int} (_ : r.Valid) : (r.cellsOf n).length ≤ 1048576 := by
  unfold Reg.cellsOf cellsM
  split
  · exact Nat.le_trans (cellsTo_le 36) (by decide)
  · exact Nat.zero_le _
end Go.Proofs.YtppbkiajcpdkiaaGreatDoor

namespace Go.Proofs.YtppbkiajcpdkiaaGreatDoor
open Go.RowKit

set_option maxRecDepth 100000 in
set_option maxHeartbeats 3200000 in
theorem impl_isDivision_c {v v2 : Value} {r : Reg} {t : List Int} (w : World) (h : RegRd w 0 w.heap.size v r) (h2 : IntsRd w 0 w.heap.size v2 t) (hi64 : ∀ a ∈ t, I64 a) (hn : t.length ≤ 1048576) (ht : Tab64 w) :
    Calls Tryz.prog 22 #[v, v2] w fun e w' => e = .returned (.bool (isDiv r t)) ∧ Below w.heap.size w w' := by
  have HRD : Hid (∀ w1, Below w.heap.size w w1 → RegRd w1 0 w1.heap.size v r) := Lib.hid fun w1 b1 => (h.keep (SameIn.of_below b1 (Nat.le_refl _))).more (Nat.le_refl _) b1.size
  have HTB : Hid (∀ w1, Below w.heap.size w w1 → Tab64 w1) := Lib.hid fun w1 b1 => tab64_on ht b1
  obtain ⟨R, hR⟩ : ∃ R, R = isDiv r t := ⟨_, rfl⟩
  rw [← hR]
  have HR := Lib.hid hR
  have HI64 := Lib.hid hi64
  obtain ⟨s, rfl, hs⟩ := h
  obtain ⟨A, c, rfl, hm, hr⟩ := id hs
  obtain ⟨A2, c2, rfl, hm2, hr2⟩ := id h2
  have HR2 := Lib.hid hr2
  have H0 := ((Sep.start w).box 29 #[.int .i64 r.w, .slice A r.rows.length c])
  obtain ⟨bR, hbR⟩ : ∃ bR, bR = w.heap.size := ⟨_, rfl⟩
  rw [← hbR] at H0
  clear hr hs hR hr2 h2 hi64 ht
  go_enter Tryz.func22, Tryz.ntmps22
  go_upto_region 1 with fail
  rw [← hbR]
  generalize (w.alloc (.cells #[.int .i64 r.w, .slice A r.rows.length c] 29)) = W at *
  clear hbR
  have c0 : W.cell? ⟨bR, 0, none⟩ = some (.int .i64 r.w) := H0.h0.cell 0
  have c1 : W.cell? ⟨bR, 1, none⟩ = some (.slice A r.rows.length c) := H0.h0.cell 1
  have HI := Lib.hid (impl_IsRegion_c W (HRD.out W H0.below))
  go_wp2_with fail
  refine (HI.out).mono ?_
  rintro e w1 ⟨rfl, b1⟩
  have H1 := H0.step b1
  clear H0 HI b1 c0 c1
  cases hv : r.valid
  · obtain rfl : R = false := by rw [HR.out]; unfold isDiv; rw [hv]; rfl
    clear hv
    go_wp2
    go_ret
    exact ⟨rfl, H1.below⟩
  have HV := Lib.hid (Reg.valid_iff.1 hv)
  have HVV := Lib.hid hv
  clear hv
  by_cases hl0 : t.length = 0
  · obtain rfl : R = false := by rw [HR.out]; unfold isDiv; rw [List.isEmpty_iff_length_eq_zero.2 hl0]; simp
    have hz : ((t.length : Int) == 0) = true := by simp [hl0]
    go_wp2
    go_ret
    exact ⟨rfl, H1.below⟩
  have hz : ((t.length : Int) == 0) = false := by simpa using hl0
  have hpos : 0 < t.length := by omega
  obtain ⟨b2, o2, hA2, _, hb2, hc2⟩ := HR2.out.2 (by omega)
  subst hA2
  have HC2 : Hid (∀ (j : Nat) (n : Int), t[j]? = some n → w.cell? ⟨b2, o2 + j, none⟩ = some (.int .i64 n)) := Lib.hid fun j n hj => hc2 j _ (by simp [ic, hj])
  have HB0 : Hid (Below w.heap.size w w1) := Lib.hid H1.below
  have HCR : Hid (w1.cell? ⟨bR, 0, none⟩ = some (.int .i64 r.w) ∧ w1.cell? ⟨bR, 1, none⟩ = some (.slice A r.rows.length c) ∧ bR < w1.heap.size) := Lib.hid ⟨H1.h0.cell 0, H1.h0.cell 1, Blk.lt H1.h0⟩
  clear hc2 H1
  go_wp2
  go_loopw [5, 6, 20] (fun uv fv iv wx => ∃ i : Nat, i ≤ t.length ∧ iv = .int .i64 i ∧ uv = .int .i64 ((usedTo t i : Nat) : Int) ∧ Hid (0 < i → CellsRd wx 0 wx.heap.size fv (r.cellsOf (t.getD 0 0))) ∧ Hid (∀ j < i, okDiv r t j = true) ∧ Below w1.heap.size w1 wx) (fun _ _ iv _ => t.length - (intOf iv).toNat)
  case atStart => exact ⟨0, Nat.zero_le _, rfl, rfl, Lib.hid (fun h => absurd h (Nat.lt_irrefl 0)), Lib.hid (fun j hj => absurd hj (Nat.not_lt_zero j)), Below.refl _ _⟩
  case round =>
    obtain ⟨i, hi, rfl, rfl, HF, HOK, hbel⟩ := hrel
    have HUL : Hid (usedTo t i < 2 ^ 36) := Lib.hid (usedTo_lt HV.out i hi HOK.out)
    obtain ⟨U, hU⟩ : ∃ U, U = usedTo t i := ⟨_, rfl⟩
    rw [← hU] at HUL ⊢
    have HU := Lib.hid hU
    clear hU
    by_cases hlt : i < t.length
    · have hlti : (i : Int) < (t.length : Int) := by omega
      obtain ⟨n, hn1⟩ : ∃ n, t[i]? = some n := ⟨t[i], List.getElem?_eq_getElem hlt⟩
      have HN1 := Lib.hid hn1
      have hbw := HB0.out.trans (hbel.mono HB0.out.size)
      have x1 : wr.cell? ⟨b2, o2 + i, none⟩ = some (.int .i64 n) := (hbw.cell (p := ⟨b2, o2 + i, none⟩) hb2).trans (HC2.out i n hn1)
      have c0 : wr.cell? ⟨bR, 0, none⟩ = some (.int .i64 r.w) := (hbel.cell (p := ⟨bR, 0, none⟩) HCR.out.2.2).trans HCR.out.1
      have c1 : wr.cell? ⟨bR, 1, none⟩ = some (.slice A r.rows.length c) := (hbel.cell (p := ⟨bR, 1, none⟩) HCR.out.2.2).trans HCR.out.2.1
      have HM := Lib.hid (isMask_c n wr (HRD.out wr hbw) HV.out (HI64.out n (List.mem_of_getElem? hn1)).2)
      clear hn1 hbw
      go_wp2_with fail
      refine (HM.out).mono ?_
      rintro e w5 ⟨rfl, b5⟩
      have hb5 := hbel.trans (b5.mono hbel.size)
      have HF5 : Hid (0 < i → CellsRd w5 0 w5.heap.size u6 (r.cellsOf (t.getD 0 0))) := Lib.hid fun h => ((HF.out h).keep (SameIn.of_below b5 (Nat.le_refl _))).more (Nat.le_refl _) b5.size
      clear c0 c1 x1 b5 HM hbel HF
      cases hm : r.isMask n
      · have HNO : Hid (okDiv r t i = false) := Lib.hid (by rw [okDiv_at HN1.out, hm]; rfl)
        clear hm
        obtain rfl : R = false := by rw [HR.out]; exact isDiv_no hlt HNO.out
        go_wp2
        go_ret
        exact ⟨rfl, HB0.out.trans (hb5.mono HB0.out.size)⟩
      obtain ⟨m, rfl⟩ := Int.eq_ofNat_of_zero_le (isMask_lt hm HV.out).2
      have HMK := Lib.hid hm
      have HM36 : Hid (m < 2 ^ 36) := Lib.hid (by have := mask_lt36 hm HV.out; simpa using this)
      obtain ⟨C, hC⟩ : ∃ C, C = cellsM r.w.toNat m := ⟨_, rfl⟩
      obtain ⟨F, hF⟩ : ∃ F, F = r.cellsOf (t.getD 0 0) := ⟨_, rfl⟩
      have HCC := Lib.hid hC
      have HFD := Lib.hid hF
      have HCO : Hid (r.cellsOf (m : Int) = C) := Lib.hid (by unfold Reg.cellsOf; rw [hm, hC]; rfl)
      have HOA : Hid (okDiv r t i = ((U &&& m == 0) && connS C && congr C (r.cellsOf (t.getD 0 0)) && (decide (i = 0) || decide (lowB (t.getD (i - 1) 0).toNat < lowB m)))) := Lib.hid (by rw [okDiv_at HN1.out, hm, HCO.out, HU.out]; rfl)
      have HML := Lib.hid (isMask_lt hm HV.out).1
      have HCON : Hid (connS C = (decide (C.length ≤ 8) && hangs C)) := Lib.hid (by
        rw [hC]
        exact cellsM_conn (h := r.rows.length) (by have := HV.out.1; omega) (by have := HV.out.2.1; omega) HV.out.2.2.2.1 (by have := HML.out; simpa using this))
      have HND : Hid C.Nodup := Lib.hid (by rw [hC]; exact srt_nodup (srt_cellsTo 36))
      have HON : Hid (∀ d ∈ C, On d) := Lib.hid (by
        rw [hC]
        exact cellsM_on (h := r.rows.length) (by have := HV.out.1; omega) (by have := HV.out.2.1; omega) HV.out.2.2.2.1 (by have := HML.out; simpa using this))
      have HCL : Hid (C.length ≤ 36) := Lib.hid (by rw [hC]; exact cellsTo_le 36)
      have HFC : Hid (i = 0 → r.cellsOf (t.getD 0 0) = C) := Lib.hid (fun h => by
        have := HN1.out
        rw [h] at this
        rw [show t.getD 0 0 = (m : Int) by simp [List.getD, this], HCO.out])
      have hand := i64_and_nat U m (by have := HUL.out; omega) (by have := HM36.out; omega)
      clear hm hC hF
      by_cases hz : U &&& m = 0
      · have HDJ : Hid ((U &&& m == 0) = true) := Lib.hid (beq_iff_eq.2 hz)
        have hz2 : (bits .and .i64 (U : Int) (m : Int) != 0) = false := by rw [hand, hz]; rfl
        clear hand hz
        by_cases hi0 : i = 0
        · have hdi : decide ((0 : Int) < (i : Int)) = false := by simp; omega
          have hdi2 : decide ((i : Int) > 0) = false := by simp; omega
          have hdn : decide (0 < i) = false := by simp; omega
          have hdl : ¬ (0 : Int) < (i : Int) := by omega
          have hde : ((i : Int) == 0) = true := by simp; omega
          have HI0 := Lib.hid hi0
          clear hi0
          have c0 : w5.cell? ⟨bR, 0, none⟩ = some (.int .i64 r.w) := (hb5.cell (p := ⟨bR, 0, none⟩) HCR.out.2.2).trans HCR.out.1
          have HPL : Hid (Calls Tryz.prog 53 #[.int .i64 r.w, .int .i64 m] w5 fun e w' => ∃ v', e = .returned v' ∧ CellsIn w' w5.heap.size w'.heap.size v' C ∧ Below w5.heap.size w5 w') := Lib.hid (by
            have h1 := impl_places_c (wn := r.w.toNat) (m := m) w5 (by have := HV.out.1; omega) (by have := HV.out.2.1; omega) HM36.out
            rw [Int.toNat_of_nonneg (show 0 ≤ r.w by have := HV.out.1; omega), ← HCC.out] at h1
            exact h1)
          go_wp2_with fail
          refine (HPL.out).mono ?_
          rintro e w6 ⟨vc, rfl, o6, b6⟩
          have hb6 := hb5.trans (b6.mono hb5.size)
          have B56 := Lib.hid b6
          have HO6 : Hid (CellsRd w6 0 w6.heap.size vc C) := Lib.hid (o6.rd.more (Nat.zero_le _) (Nat.le_refl _))
          obtain ⟨Ac, cvc, rfl, _, _⟩ := o6.rd
          clear c0 HPL o6 b6
          by_cases hl8 : C.length ≤ 8
          · have hd8 : decide ((C.length : Int) > 8) = false := by simp; omega
            have hd8b : decide ((8 : Int) < (C.length : Int)) = false := by simp; omega
            have hd8c : ¬ (8 : Int) < (C.length : Int) := by omega
            have HH := Lib.hid (hangs_c w6 HO6.out (by omega) HND.out HON.out)
            go_wp2_with fail
            refine (HH.out).mono ?_
            rintro e w7 ⟨rfl, b7⟩
            have hb7 := hb6.trans (b7.mono hb6.size)
            have B57 := Lib.hid (B56.out.trans (b7.mono B56.out.size))
            have HO7 : Hid (CellsRd w7 0 w7.heap.size (.slice Ac C.length cvc) C) := Lib.hid ((HO6.out.keep (SameIn.of_below b7 (Nat.le_refl _))).more (Nat.le_refl _) b7.size)
            clear HH b7
            cases hh : hangs C
            · have HNO : Hid (okDiv r t i = false) := Lib.hid (by rw [HOA.out, HCON.out, hh]; simp)
              clear hh
              obtain rfl : R = false := by rw [HR.out]; exact isDiv_no hlt HNO.out
              go_wp2
              go_ret
              exact ⟨rfl, HB0.out.trans (hb7.mono HB0.out.size)⟩
            have HCN : Hid (connS C = true) := Lib.hid (by rw [HCON.out, hh, decide_eq_true hl8]; rfl)
            clear hh hl8
            have HYES : Hid (okDiv r t i = true) := Lib.hid (by rw [HOA.out, HDJ.out, HCN.out, HFC.out HI0.out, congr_self (connS_shape HCN.out), HI0.out]; rfl)
            have HF2 : Hid (0 < i + 1 → CellsRd w7 0 w7.heap.size (.slice Ac C.length cvc) (r.cellsOf (t.getD 0 0))) := Lib.hid (fun _ => by rw [HFC.out HI0.out]; exact HO7.out)
            have hor : bits .or .i64 (U : Int) (m : Int) = ((usedTo t (i + 1) : Nat) : Int) := by
              rw [usedTo_succ HN1.out, i64_or_nat _ _ (by have := HUL.out; omega) (by have := HM36.out; omega), HU.out]; rfl
            have HOK2 : Hid (∀ j < i + 1, okDiv r t j = true) := Lib.hid fun j hj => by
              rcases Nat.lt_or_ge j i with h | h
              · exact HOK.out j h
              · obtain rfl : j = i := by omega
                exact HYES.out
            go_wp2
            go_roundw
            case rel => exact ⟨i + 1, by omega, by go_num, rfl, HF2, HOK2, hb7⟩
            case measure => simp [intOf]; omega
          · have hd8 : decide ((C.length : Int) > 8) = true := by simp; omega
            have hd8b : decide ((8 : Int) < (C.length : Int)) = true := by simp; omega
            have hd8c : (8 : Int) < (C.length : Int) := by omega
            have HNO : Hid (okDiv r t i = false) := Lib.hid (by rw [HOA.out, HCON.out, decide_eq_false hl8]; simp)
            obtain rfl : R = false := by rw [HR.out]; exact isDiv_no hlt HNO.out
            go_wp2
            go_ret
            exact ⟨rfl, HB0.out.trans (hb6.mono HB0.out.size)⟩
        · have hdi : decide ((0 : Int) < (i : Int)) = true := by simp; omega
          have hdi2 : decide ((i : Int) > 0) = true := by simp; omega
          have hdn : decide (0 < i) = true := by simp; omega
          have hdl : (0 : Int) < (i : Int) := by omega
          have hde : ((i : Int) == 0) = false := by simp; omega
          have HI0 : Hid (0 < i) := Lib.hid (by omega)
          obtain ⟨p, hp⟩ : ∃ p, p = i - 1 := ⟨_, rfl⟩
          have HPI : Hid (i = p + 1) := Lib.hid (by omega)
          have e1 : (i : Int) - 1 = (p : Int) := by omega
          have e2 : IntKind.i64.wrap ((i : Int) - 1) = (p : Int) := by rw [e1]; exact IntWalk.i64_in _ (by omega)
          have e3 : (p : Int) < (t.length : Int) := by omega
          have e4 : p < t.length := by omega
          obtain ⟨a, ha⟩ : ∃ a, t[p]? = some a := ⟨t[p], List.getElem?_eq_getElem e4⟩
          have hga : t.getD (i - 1) 0 = a := by rw [← hp]; simp [List.getD, ha]
          have hokp := okDiv_mask (HOK.out p (by omega)) ha
          obtain ⟨q, rfl⟩ := Int.eq_ofNat_of_zero_le (isMask_lt hokp.1 HV.out).2
          have HPM := Lib.hid hokp.1
          have HP0 : Hid (q ≠ 0) := Lib.hid (by have := conn_pos hokp.2; simpa using this)
          have HPA := Lib.hid ha
          have HQ36 : Hid (q < 2 ^ 36) := Lib.hid (by have := mask_lt36 hokp.1 HV.out; simpa using this)
          rw [hga, Int.toNat_natCast] at HOA
          have y3 : w5.cell? ⟨b2, o2 + p, none⟩ = some (.int .i64 (q : Int)) := ((HB0.out.trans (hb5.mono HB0.out.size)).cell (p := ⟨b2, o2 + p, none⟩) hb2).trans (HC2.out p _ ha)
          have HLN := Lib.hid (impl_low_c w5 HM36.out (HTB.out w5 (HB0.out.trans (hb5.mono HB0.out.size))))
          have HLA := Lib.hid (impl_low_c w5 HQ36.out (HTB.out w5 (HB0.out.trans (hb5.mono HB0.out.size))))
          obtain ⟨x, hx⟩ : ∃ x, x = lowB m := ⟨_, rfl⟩
          obtain ⟨y, hy⟩ : ∃ y, y = lowB q := ⟨_, rfl⟩
          rw [← hx] at HLN HOA
          rw [← hy] at HLA HOA
          have HX := Lib.hid hx
          have HY := Lib.hid hy
          clear hp ha hga hokp hi0 hx hy
          go_wp2_with fail
          refine (HLA.out).mono ?_
          rintro e w' ⟨rfl, rfl⟩
          go_wp2_with fail
          refine (HLN.out).mono ?_
          rintro e w' ⟨rfl, rfl⟩
          clear y3
          by_cases hxy : y < x
          · have hdx : decide ((y : Int) ≥ (x : Int)) = false := by simp; omega
            have hdx2 : decide ((x : Int) ≤ (y : Int)) = false := by simp; omega
            have hdx3 : decide (x ≤ y) = false := by simp; omega
            have HLOW : Hid (decide (y < x) = true) := Lib.hid (decide_eq_true hxy)
            clear hxy
            have c0 : w5.cell? ⟨bR, 0, none⟩ = some (.int .i64 r.w) := (hb5.cell (p := ⟨bR, 0, none⟩) HCR.out.2.2).trans HCR.out.1
            have HPL : Hid (Calls Tryz.prog 53 #[.int .i64 r.w, .int .i64 m] w5 fun e w' => ∃ v', e = .returned v' ∧ CellsIn w' w5.heap.size w'.heap.size v' C ∧ Below w5.heap.size w5 w') := Lib.hid (by
              have h1 := impl_places_c (wn := r.w.toNat) (m := m) w5 (by have := HV.out.1; omega) (by have := HV.out.2.1; omega) HM36.out
              rw [Int.toNat_of_nonneg (show 0 ≤ r.w by have := HV.out.1; omega), ← HCC.out] at h1
              exact h1)
            go_wp2_with fail
            refine (HPL.out).mono ?_
            rintro e w6 ⟨vc, rfl, o6, b6⟩
            have hb6 := hb5.trans (b6.mono hb5.size)
            have B56 := Lib.hid b6
            have HO6 : Hid (CellsRd w6 0 w6.heap.size vc C) := Lib.hid (o6.rd.more (Nat.zero_le _) (Nat.le_refl _))
            obtain ⟨Ac, cvc, rfl, _, _⟩ := o6.rd
            clear c0 HPL o6 b6
            by_cases hl8 : C.length ≤ 8
            · have hd8 : decide ((C.length : Int) > 8) = false := by simp; omega
              have hd8b : decide ((8 : Int) < (C.length : Int)) = false := by simp; omega
              have hd8c : ¬ (8 : Int) < (C.length : Int) := by omega
              have HH := Lib.hid (hangs_c w6 HO6.out (by omega) HND.out HON.out)
              go_wp2_with fail
              refine (HH.out).mono ?_
              rintro e w7 ⟨rfl, b7⟩
              have hb7 := hb6.trans (b7.mono hb6.size)
              have B57 := Lib.hid (B56.out.trans (b7.mono B56.out.size))
              have HO7 : Hid (CellsRd w7 0 w7.heap.size (.slice Ac C.length cvc) C) := Lib.hid ((HO6.out.keep (SameIn.of_below b7 (Nat.le_refl _))).more (Nat.le_refl _) b7.size)
              clear HH b7
              cases hh : hangs C
              · have HNO : Hid (okDiv r t i = false) := Lib.hid (by rw [HOA.out, HCON.out, hh]; simp)
                clear hh
                obtain rfl : R = false := by rw [HR.out]; exact isDiv_no hlt HNO.out
                go_wp2
                go_ret
                exact ⟨rfl, HB0.out.trans (hb7.mono HB0.out.size)⟩
              have HCN : Hid (connS C = true) := Lib.hid (by rw [HCON.out, hh, decide_eq_true hl8]; rfl)
              clear hh hl8
              have HG := Lib.hid (impl_congr_c w7 (((HF5.out HI0.out).keep (SameIn.of_below B57.out (Nat.le_refl _))).more (Nat.le_refl _) B57.out.size) HO7.out (cellsOf_len HV.out) (by have := HCL.out; omega))
              rw [← HFD.out] at HG
              go_wp2_with fail
              refine (HG.out).mono ?_
              rintro e w8 ⟨rfl, b8⟩
              have hb8 := hb7.trans (b8.mono hb7.size)
              have HF8 : Hid (0 < i + 1 → CellsRd w8 0 w8.heap.size u6 (r.cellsOf (t.getD 0 0))) := Lib.hid fun _ => ((HF5.out HI0.out).keep (SameIn.of_below (B57.out.trans (b8.mono B57.out.size)) (Nat.le_refl _))).more (Nat.le_refl _) (B57.out.trans (b8.mono B57.out.size)).size
              clear HG b8 hb7
              cases hcg : congr F C
              · have HNO : Hid (okDiv r t i = false) := Lib.hid (by rw [HOA.out, HFD.out.symm, congr_comm C F, hcg, Bool.and_false]; rfl)
                clear hcg
                obtain rfl : R = false := by rw [HR.out]; exact isDiv_no hlt HNO.out
                go_wp2
                go_ret
                exact ⟨rfl, HB0.out.trans (hb8.mono HB0.out.size)⟩
              have HYES : Hid (okDiv r t i = true) := Lib.hid (by rw [HOA.out, HDJ.out, HCN.out, HFD.out.symm, congr_comm C F, hcg, HLOW.out]; simp)
              clear hcg
              have hor : bits .or .i64 (U : Int) (m : Int) = ((usedTo t (i + 1) : Nat) : Int) := by
                rw [usedTo_succ HN1.out, i64_or_nat _ _ (by have := HUL.out; omega) (by have := HM36.out; omega), HU.out]; rfl
              have HOK2 : Hid (∀ j < i + 1, okDiv r t j = true) := Lib.hid fun j hj => by
                rcases Nat.lt_or_ge j i with h | h
                · exact HOK.out j h
                · obtain rfl : j = i := by omega
                  exact HYES.out
              go_wp2
              go_roundw
              case rel => exact ⟨i + 1, by omega, by go_num, rfl, HF8, HOK2, hb8⟩
              case measure => simp [intOf]; omega
            · have hd8 : decide ((C.length : Int) > 8) = true := by simp; omega
              have hd8b : decide ((8 : Int) < (C.length : Int)) = true := by simp; omega
              have hd8c : (8 : Int) < (C.length : Int) := by omega
              have HNO : Hid (okDiv r t i = false) := Lib.hid (by rw [HOA.out, HCON.out, decide_eq_false hl8]; simp)
              obtain rfl : R = false := by rw [HR.out]; exact isDiv_no hlt HNO.out
              go_wp2
              go_ret
              exact ⟨rfl, HB0.out.trans (hb6.mono HB0.out.size)⟩
          · have hdx : decide ((y : Int) ≥ (x : Int)) = true := by simp; omega
            have hdx2 : decide ((x : Int) ≤ (y : Int)) = true := by simp; omega
            have hdx3 : decide (x ≤ y) = true := by simp; omega
            have HNO : Hid (okDiv r t i = false) := Lib.hid (by rw [HOA.out, decide_eq_false hxy, decide_eq_false (show ¬ i = 0 by have := HI0.out; omega)]; simp)
            clear hxy
            obtain rfl : R = false := by rw [HR.out]; exact isDiv_no hlt HNO.out
            go_wp2
            go_ret
            exact ⟨rfl, HB0.out.trans (hb5.mono HB0.out.size)⟩
      · have hz2 : (bits .and .i64 (U : Int) (m : Int) != 0) = true := by rw [hand]; simp; omega
        have HNO : Hid (okDiv r t i = false) := Lib.hid (by rw [HOA.out, beq_false_of_ne hz]; rfl)
        clear hand hz
        obtain rfl : R = false := by rw [HR.out]; exact isDiv_no hlt HNO.out
        go_wp2
        go_ret
        exact ⟨rfl, HB0.out.trans (hb5.mono HB0.out.size)⟩
    · obtain rfl : i = t.length := by omega
      have hlti : ¬ (t.length : Int) < (t.length : Int) := by omega
      have hbw := HB0.out.trans (hbel.mono HB0.out.size)
      have HI := Lib.hid (impl_mask_c wr (HRD.out wr hbw) HV.out)
      have c0 : wr.cell? ⟨bR, 0, none⟩ = some (.int .i64 r.w) := (hbel.cell (p := ⟨bR, 0, none⟩) HCR.out.2.2).trans HCR.out.1
      have c1 : wr.cell? ⟨bR, 1, none⟩ = some (.slice A r.rows.length c) := (hbel.cell (p := ⟨bR, 1, none⟩) HCR.out.2.2).trans HCR.out.2.1
      have HE : Hid (R = (U == r.mask)) := Lib.hid (by rw [HR.out, isDiv_end HVV.out hpos HOK.out, HU.out])
      go_wp2_with fail
      refine (HI.out).mono ?_
      rintro e w6 ⟨rfl, b6⟩
      have hq : ((U : Int) == (r.mask : Int)) = R := by rw [HE.out, Bool.eq_iff_iff]; simp only [beq_iff_eq]; omega
      go_wp2
      go_ret
      exact ⟨rfl, hbw.trans (b6.mono hbw.size)⟩
end Go.Proofs.YtppbkiajcpdkiaaGreatDoor
