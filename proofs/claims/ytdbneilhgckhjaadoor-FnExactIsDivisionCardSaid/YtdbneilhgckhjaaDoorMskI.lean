
/-
  The cells of a mask: the program's walk. The cells of a mask: the reference's walk.
-/
import Derived.Test.YtdbneilhgckhjaaDoorMskP
import Derived.Test.YtdbneilhgckhjaaDoorMskC
import Derived.Test.YtdbneilhgckhjaaDoorMovI
namespace Go.Proofs.YtdbneilhgckhjaaDoor
open Go.RowKit

theorem shr_zero {m k : Nat} : ((m : Int) / 2 ^ k = 0) ↔ m < 2 ^ k := by
  have e1 : ((m : Int) / 2 ^ k) = ((m / 2 ^ k : Nat) : Int) := by simp
  rw [e1]
  have hp : 0 < 2 ^ k := Nat.pow_pos (by decide)
  constructor
  · intro h
    have h : m / 2 ^ k = 0 := by exact_mod_cast h
    rcases (Nat.div_eq_zero_iff).1 h with h | h
    · omega
    · exact h
  · intro h
    have : m / 2 ^ k = 0 := Nat.div_eq_of_lt h
    rw [this]; rfl
theorem bitCell_wrap {w k : Nat} (hk : k ≤ 1000000) : IntKind.i64.wrap (bitCell w k).y = (bitCell w k).y := by
  have h := Nat.div_le_self k w
  have e : (bitCell w k).y = ((k / w : Nat) : Int) := rfl
  rw [e]
  generalize k / w = q at *
  exact IntWalk.i64_in _ (by omega)
set_option maxRecDepth 100000 in
set_option maxHeartbeats 1600000 in
theorem impl_places_c {wn m : Nat} (w : World) (hw : 1 ≤ wn) (hw6 : wn ≤ 6) (hm : m < 2 ^ 36) :
    Calls Tryd.prog 54 #[.int .i64 wn, .int .i64 m] w fun e w' => ∃ v', e = .returned v' ∧ CellsIn w' w.heap.size w'.heap.size v' (cellsM wn m) ∧ Below w.heap.size w w' := by
  obtain ⟨i0, hi, hz0, hz1, hz2⟩ := info_parts infoCellI
  have H0 := (Sep.start w).nil 73 2
  have HM := Lib.hid hm
  clear hm
  go_enter Tryd.func54, Tryd.ntmps54
  go_wp2
  go_loopw [5, 6] (fun ov kv wx => ∃ (k n : Nat), k ≤ 36 ∧ kv = .int .i64 k ∧ n ≤ k ∧ Hid (n = (cellsTo wn m k).length) ∧ Sep w wx [Res.row ov 73 2 n (cc (cellsTo wn m k))]) (fun _ kv _ => 37 - (intOf kv).toNat)
  case atStart => exact ⟨0, 0, by omega, rfl, Nat.le_refl _, Lib.hid rfl, H0⟩
  case round =>
    clear H0
    obtain ⟨k, n, hk, rfl, hnk, HN, H⟩ := hrel
    by_cases hz : (m : Int) / 2 ^ k = 0
    · have hzd : ((m : Int) / 2 ^ k == 0) = true := by rw [hz]; rfl
      have HE : Hid (cellsTo wn m k = cellsM wn m) := Lib.hid (cellsM_at (shr_zero.1 hz) hk)
      clear hz
      go_wp2
      go_ret
      refine ⟨_, rfl, ?_, H.below⟩
      rw [← HE.out]
      unfold CellsIn
      rw [← HN.out]
      exact H.oi
    · have hzd : ((m : Int) / 2 ^ k == 0) = false := by simpa using hz
      have hk35 : k < 36 := by
        rcases Nat.lt_or_ge k 36 with h | h
        · exact h
        · obtain rfl : k = 36 := by omega
          exact absurd (shr_zero.2 HM.out) hz
      have hbit := bit_test (m := m) (x := k) (by have := HM.out; omega)
      clear hz
      have hwz : ¬ wn = 0 := by omega
      cases hb : m.testBit k
      · rw [hb] at hbit
        have HC : Hid (cellsTo wn m (k + 1) = cellsTo wn m k) := Lib.hid (cellsTo_f hb)
        clear hb
        go_wp2
        go_roundw
        case rel => exact ⟨k + 1, n, by omega, by go_num, by omega, by rw [HC.out]; exact HN, by rw [HC.out]; exact H⟩
        case measure => simp [intOf]; omega
      · rw [hb] at hbit
        have HC : Hid (cellsTo wn m (k + 1) = cellsTo wn m k ++ [bitCell wn k]) := Lib.hid (cellsTo_t hb)
        clear hb
        have q1 : (k : Int).tmod (wn : Int) = (bitCell wn k).x := by show _ = ((k % wn : Nat) : Int); rw [Int.ofNat_tmod]
        have q2 : (k : Int).tdiv (wn : Int) = (bitCell wn k).y := by show _ = ((k / wn : Nat) : Int); rw [Int.ofNat_tdiv]
        have q3 : IntKind.i64.wrap (bitCell wn k).y = (bitCell wn k).y := bitCell_wrap (by omega)
        have HA := (H.rowBox 73 #[.int .i64 (bitCell wn k).x, .int .i64 (bitCell wn k).y] 2 1 rfl (by decide)).g1.drew
        have HT := own_take (k := 1) HA.h1 (Nat.le_refl _)
        go_wp2_with fail
        go_region_law (first
          | (refine step_app rfl (.tmp 18) (.tmp 26) 53 (by rfl) 73 i0 _ 2 16 Tryd.underlying53 hi hz0 hz1 hz2 rfl (by decide) _ _ _ (by rfl) HA _ _ _ [.int .i64 (bitCell wn k).x, .int .i64 (bitCell wn k).y] (by rfl) HT oc2 (by unfold maxLen; omega) (by omega) ?_; intro v2 w2 H2))
        have H3 : Sep w w2 [Res.row v2 73 2 (n + 1) (cc (cellsTo wn m (k + 1)))] := by rw [HC.out, cc_append]; exact H2.drop2
        have HN2 : Hid (n + 1 = (cellsTo wn m (k + 1)).length) := Lib.hid (by rw [HC.out, List.length_append, HN.out]; rfl)
        clear H2
        go_wp2
        go_roundw
        case rel => exact ⟨k + 1, n + 1, by omega, by go_num, by omega, HN2, H3⟩
        case measure => simp [intOf]; omega
end Go.Proofs.YtdbneilhgckhjaaDoor

namespace Go.Proofs.YtdbneilhgckhjaaDoor
open Go.RowKit

/-- a mask's cells on a region -/
def Reg.cellsOf (r : Reg) (n : Int) : List Cell := if r.isMask n then cellsM r.w.toNat n.toNat else []
theorem isMask_lt {r : Reg} {n : Int} (h : r.isMask n = true) (hv : r.Valid) : n.toNat < 2 ^ (r.w.toNat * r.rows.length) ∧ 0 ≤ n := by
  unfold Reg.isMask at h
  rw [Bool.and_eq_true, decide_eq_true_eq, beq_iff_eq] at h
  have h1 : n.toNat ≤ r.mask := by rw [← h.2]; exact Nat.and_le_right
  have h2 := Reg.maskTo_lt hv r.rows.length
  rw [Nat.mul_comm] at h2
  exact ⟨Nat.lt_of_le_of_lt h1 h2, h.1⟩
set_option maxRecDepth 100000 in
set_option maxHeartbeats 1600000 in
theorem spec_cellsOf_c {v : Value} {r : Reg} (n : Int) (w : World) (h : RegRd w 0 w.heap.size v r) (hv : r.Valid) (hn : -9223372036854775808 ≤ n ∧ n ≤ 9223372036854775807) :
    Calls Tryd.prog 47 #[v, .int .i64 n] w fun e w' => ∃ v', e = .returned v' ∧ CellsIn w' w.heap.size w'.heap.size v' (r.cellsOf n) ∧ Below w.heap.size w w' := by
  obtain ⟨i0, hi, hz0, hz1, hz2⟩ := info_parts infoCellS
  have HSR : Hid (∀ w1, Below w.heap.size w w1 → Calls Tryd.prog 27 #[v] w1 fun e w' => e = .returned (.bool true) ∧ Below w1.heap.size w1 w') := Lib.hid fun w1 b1 => by
    rw [← Reg.valid_iff.2 hv]
    exact spec_IsRegion_c w1 ((h.keep (SameIn.of_below b1 (Nat.le_refl _))).more (Nat.le_refl _) b1.size)
  have HMK : Hid (∀ w1, Below w.heap.size w w1 → Calls Tryd.prog 51 #[v] w1 fun e w' => e = .returned (.int .i64 (r.mask : Int)) ∧ Below w1.heap.size w1 w') := Lib.hid fun w1 b1 =>
    spec_mask_c w1 ((h.keep (SameIn.of_below b1 (Nat.le_refl _))).more (Nat.le_refl _) b1.size) hv
  obtain ⟨s, rfl, hs⟩ := h
  obtain ⟨A, c, rfl, hm, hr⟩ := id hs
  have H0 := ((Sep.start w).box 29 #[.int .i64 r.w, .slice A r.rows.length c]).rowBox 73 #[] 2 0 rfl (by decide)
  simp only [World.size_alloc] at H0
  obtain ⟨bR, hbR⟩ : ∃ bR, bR = w.heap.size := ⟨_, rfl⟩
  rw [← hbR] at H0
  obtain ⟨R, hR⟩ : ∃ R, R = r.cellsOf n := ⟨_, rfl⟩
  rw [← hR]
  have HR := Lib.hid hR
  have HV := Lib.hid hv
  clear hr hs hR
  go_enter Tryd.func47, Tryd.ntmps47
  go_upto_region 2 with fail
  rw [← hbR]
  generalize (w.alloc (.cells #[.int .i64 r.w, .slice A r.rows.length c] 29)).alloc (.cells #[] 73) = W at *
  clear hbR
  have c0 : W.cell? ⟨bR, 0, none⟩ = some (.int .i64 r.w) := H0.h1.cell 0
  have c1 : W.cell? ⟨bR, 1, none⟩ = some (.slice A r.rows.length c) := H0.h1.cell 1
  have HI := Lib.hid (HSR.out W H0.below)
  go_wp2_with fail
  refine (HI.out).mono ?_
  rintro e w1 ⟨rfl, b1⟩
  have H1 := H0.step b1
  clear H0 HI b1 c0 c1
  by_cases hneg : n < 0
  · obtain rfl : R = [] := by rw [HR.out]; unfold Reg.cellsOf Reg.isMask; rw [decide_eq_false (by omega)]; rfl
    have hd : decide (n < 0) = true := decide_eq_true hneg
    go_wp2
    go_ret
    exact ⟨_, rfl, CellsIn.mk H1.oi.1 rfl rfl, H1.below⟩
  · have hd : decide (n < 0) = false := decide_eq_false hneg
    obtain ⟨m, rfl⟩ := Int.eq_ofNat_of_zero_le (show 0 ≤ n by omega)
    have hml := Reg.mask_lt HV.out
    have c0 : w1.cell? ⟨bR, 0, none⟩ = some (.int .i64 r.w) := H1.h1.cell 0
    have c1 : w1.cell? ⟨bR, 1, none⟩ = some (.slice A r.rows.length c) := H1.h1.cell 1
    have HI := Lib.hid (HMK.out w1 H1.below)
    go_wp2_with fail
    refine (HI.out).mono ?_
    rintro e w2 ⟨rfl, b2⟩
    have H2 := H1.step b2
    clear H1 HI b2 c0 c1
    have hand := i64_and_nat m r.mask (by omega) (by omega)
    have hma : r.isMask (m : Int) = (m &&& r.mask == m) := by simp [Reg.isMask]
    by_cases hmm : m &&& r.mask = m
    · have hmt : r.isMask (m : Int) = true := by rw [hma, hmm]; simp
      have hlt := (isMask_lt hmt HV.out).1
      have HL : Hid (m < 2 ^ (r.w.toNat * r.rows.length)) := Lib.hid hlt
      have HRC : Hid (R = cellsM r.w.toNat m) := Lib.hid (by rw [HR.out]; unfold Reg.cellsOf; rw [hmt]; rfl)
      rw [hmm] at hand
      obtain ⟨hv1, hv2, hv3, hv4, _⟩ := HV.out
      obtain ⟨wn, hwn⟩ : ∃ wn : Nat, wn = r.w.toNat := ⟨_, rfl⟩
      have hwr : r.w = (wn : Int) := by omega
      rw [← hwn] at HL HRC
      have hw1 : 1 ≤ wn := by omega
      have hw6 : wn ≤ 6 := by omega
      have hwl : wn * r.rows.length ≤ 36 := by calc wn * r.rows.length ≤ 6 * 6 := Nat.mul_le_mul hw6 hv4
        _ = 36 := rfl
      obtain ⟨T, hT⟩ : ∃ T, T = wn * r.rows.length := ⟨_, rfl⟩
      have hTi : (wn : Int) * (r.rows.length : Int) = (T : Int) := by rw [hT]; simp
      have hTw : IntKind.i64.wrap (T : Int) = (T : Int) := IntWalk.i64_in _ (by omega)
      rw [← hT] at hwl HL
      rw [hwr] at H2
      have hwz : ¬ wn = 0 := by omega
      clear hma hmm hmt hlt hwn hwr hT hv1 hv2 hv3 hv4 hwz hneg
      go_wp2
      clear hd hand
      go_loopw [5, 6] (fun ov kv wx => ∃ (k n : Nat), k ≤ T ∧ kv = .int .i64 k ∧ n ≤ k ∧ Hid (n = (cellsTo wn m k).length) ∧ Sep w wx [Res.row ov 73 2 n (cc (cellsTo wn m k)), Res.box bR 29 #[.int .i64 wn, .slice A r.rows.length c]]) (fun _ kv _ => T - (intOf kv).toNat)
      case atStart => exact ⟨0, 0, by omega, rfl, Nat.le_refl _, Lib.hid rfl, H2⟩
      case round =>
        clear H2
        obtain ⟨k, n, hk, rfl, hnk, HN, H⟩ := hrel
        have c0 : wr.cell? ⟨bR, 0, none⟩ = some (.int .i64 wn) := H.h1.cell 0
        have c1 : wr.cell? ⟨bR, 1, none⟩ = some (.slice A r.rows.length c) := H.h1.cell 1
        by_cases hkT : k < T
        · have hkd : decide ((k : Int) < (T : Int)) = true := decide_eq_true (by omega)
          have hbit := bit_test (m := m) (x := k) (by omega)
          have hwz : ¬ wn = 0 := by omega
          cases hb : m.testBit k
          · rw [hb] at hbit
            have HC : Hid (cellsTo wn m (k + 1) = cellsTo wn m k) := Lib.hid (cellsTo_f hb)
            clear hb
            go_wp2
            go_roundw
            case rel => exact ⟨k + 1, n, by omega, by go_num, by omega, by rw [HC.out]; exact HN, by rw [HC.out]; exact H⟩
            case measure => simp [intOf]; omega
          · rw [hb] at hbit
            have HC : Hid (cellsTo wn m (k + 1) = cellsTo wn m k ++ [bitCell wn k]) := Lib.hid (cellsTo_t hb)
            clear hb
            have q1 : (k : Int).tmod (wn : Int) = (bitCell wn k).x := by show _ = ((k % wn : Nat) : Int); rw [Int.ofNat_tmod]
            have q2 : (k : Int).tdiv (wn : Int) = (bitCell wn k).y := by show _ = ((k / wn : Nat) : Int); rw [Int.ofNat_tdiv]
            have q3 : IntKind.i64.wrap (bitCell wn k).y = (bitCell wn k).y := bitCell_wrap (by omega)
            have HA := (H.rowBox 73 #[.int .i64 (bitCell wn k).x, .int .i64 (bitCell wn k).y] 2 1 rfl (by decide)).g1.drew
            have HT := own_take (k := 1) HA.h1 (Nat.le_refl _)
            have d0 : wr.drew.cell? ⟨bR, 0, none⟩ = some (.int .i64 wn) := H.drew.h1.cell 0
            have d1 : (wr.alloc (.cells #[.int .i64 (bitCell wn k).x, .int .i64 (bitCell wn k).y] 73)).drew.cell? ⟨bR, 0, none⟩ = some (.int .i64 wn) := HA.h2.cell 0
            go_wp2_with fail
            go_region_law (first
              | (refine step_app rfl (.tmp 39) (.tmp 49) 53 (by rfl) 73 i0 _ 2 16 Tryd.underlying53 hi hz0 hz1 hz2 rfl (by decide) _ _ _ (by rfl) HA _ _ _ [.int .i64 (bitCell wn k).x, .int .i64 (bitCell wn k).y] (by rfl) HT oc2 (by unfold maxLen; omega) (by omega) ?_; intro v2 w2 H2))
            all_goals
              have H3 : Sep w w2 [Res.row v2 73 2 (n + 1) (cc (cellsTo wn m (k + 1))), Res.box bR 29 #[.int .i64 wn, .slice A r.rows.length c]] := by rw [HC.out, cc_append]; exact H2.drop2
              have HN2 : Hid (n + 1 = (cellsTo wn m (k + 1)).length) := Lib.hid (by rw [HC.out, List.length_append, HN.out]; rfl)
              clear H2 HA HT H c0 c1 d0 d1
              go_wp2
              go_roundw
              case rel => exact ⟨k + 1, n + 1, by omega, by go_num, by omega, HN2, H3⟩
              case measure => simp [intOf]; omega
        · obtain rfl : k = T := by omega
          have hkd : decide ((k : Int) < (k : Int)) = false := by simp
          have HE : Hid (R = cellsTo wn m k) := Lib.hid (by rw [HRC.out, cellsM_at HL.out hwl])
          go_wp2
          go_ret
          refine ⟨_, rfl, ?_, H.below⟩
          rw [HE.out]
          unfold CellsIn
          rw [← HN.out]
          exact H.oi
    · obtain rfl : R = [] := by rw [HR.out]; unfold Reg.cellsOf; rw [hma, beq_false_of_ne hmm]; rfl
      have hne : (((m &&& r.mask : Nat) : Int) == (m : Int)) = false := by simpa using fun h => hmm (by exact_mod_cast h)
      clear hma hmm
      go_wp2
      go_ret
      exact ⟨_, rfl, CellsIn.mk H2.oi.1 rfl rfl, H2.below⟩
end Go.Proofs.YtdbneilhgckhjaaDoor
