
/-
  l23Turn: the reference's walk.
-/
import Derived.Test.YtoccedebiacbiaaDoorRmoF
import Derived.Test.YtoccedebiacbiaaDoorRmoB
namespace Go.Proofs.YtoccedebiacbiaaDoor
open Go.RowKit

set_option maxRecDepth 100000 in
set_option maxHeartbeats 1600000 in
theorem l23Turn_c {v : Value} {r : Reg} {mk m : Nat} (w : World) (h : RegRd w 0 w.heap.size v r) (hv : r.Valid) (hmk : mk < 2 ^ (r.w.toNat * r.rows.length)) (hm : m < 8) (hok : m % 2 = 0 ∨ r.w.toNat = r.rows.length) (hin : ∀ d ∈ cellsM r.w.toNat mk, inG r.w.toNat r.rows.length d) :
    Calls Tryd.prog 41 #[v, .int .i64 mk, .int .i64 m] w fun e w' => e = .returned (.tuple #[.int .i64 (carN r.w.toNat r.rows.length m (cellsM r.w.toNat mk)), .bool true]) ∧ Below w.heap.size w w' := by
  obtain ⟨s, rfl, hs⟩ := h
  obtain ⟨A, c, rfl, _, _⟩ := hs
  have v1 := hv.1
  have v2 := hv.2.1
  have v3 := hv.2.2.2.1
  have hw0 : r.w = (r.w.toNat : Int) := by omega
  generalize r.w.toNat = wn at *
  generalize r.rows.length = hn at *
  rw [hw0]
  have hwn6 : wn ≤ 6 := by omega
  have hhn6 : hn ≤ 6 := by omega
  have hwn1 : 1 ≤ wn := by omega
  have hN : wn * hn ≤ 36 := Nat.mul_le_mul hwn6 hhn6
  obtain ⟨N, hN'⟩ : ∃ N, N = wn * hn := ⟨_, rfl⟩
  rw [← hN'] at hN hmk
  have HN := Lib.hid hN'
  have HIN := Lib.hid hin
  have HOK := Lib.hid hok
  have HMK := Lib.hid hmk
  have H0 := (Sep.start w).box 27 #[.int .i64 wn, .slice A hn c]
  obtain ⟨g, hg⟩ : ∃ g, g = w.heap.size := ⟨_, rfl⟩
  rw [← hg] at H0
  clear hv v1 v2 v3 hw0 hmk hin hok hN'
  go_enter Tryd.func41, Tryd.ntmps41
  go_upto_region 1 with fail
  rw [← hg]
  generalize (w.alloc (.cells #[.int .i64 wn, .slice A hn c] 27)) = W at *
  clear hg
  go_wp2
  go_loopw [8, 9] (fun av iv wx => ∃ i : Nat, i ≤ N ∧ iv = .int .i64 i ∧ av = .int .i64 (carN wn hn m (cellsTo wn mk i) : Nat) ∧ Sep w wx [Res.box g 27 #[.int .i64 wn, .slice A hn c]]) (fun _ iv _ => N - (intOf iv).toNat)
  case atStart => exact ⟨0, Nat.zero_le _, rfl, rfl, H0⟩
  case round =>
    clear H0
    obtain ⟨i, hi, rfl, rfl, H⟩ := hrel
    have c0 : wr.cell? ⟨g, 0, none⟩ = some (.int .i64 wn) := H.h0.cell 0
    have c1 : wr.cell? ⟨g, 1, none⟩ = some (.slice A hn c) := H.h0.cell 1
    have w1 : wrap64 ((wn : Int) * (hn : Int)) = (N : Int) := by rw [HN.out, ← Int.natCast_mul]; exact IntWalk.wrap64_in _ (by rw [← HN.out]; omega)
    go_upto_if 20 with fail
    clear w1
    by_cases hlt : i < N
    · have hd : decide (i < N) = true := decide_eq_true hlt
      go_upto_region 5 with fail
      have l0 := Later.cell c0 (by have := H.h0.lt; simpa using this)
      have l1 := Later.cell c1 (by have := H.h0.lt; simpa using this)
      obtain ⟨x, hx⟩ : ∃ x, x = i % wn := ⟨_, rfl⟩
      obtain ⟨y, hy⟩ : ∃ y, y = i / wn := ⟨_, rfl⟩
      have hx1 : x < wn := by rw [hx]; exact Nat.mod_lt _ (by omega)
      have hy1 : y < hn := by rw [hy]; exact Nat.div_lt_of_lt_mul (by rw [← HN.out]; exact hlt)
      obtain ⟨P, hP⟩ : ∃ P, P = mvC wn hn m x y := ⟨_, rfl⟩
      obtain ⟨pw, ph, px, py⟩ := P
      have HCP : Hid (∀ u : Later wr, Calls Tryd.prog 58 #[.int .i64 wn, .int .i64 hn, .int .i64 ((i : Int) % (wn : Int)), .int .i64 ((i : Int) / (wn : Int)), .int .i64 m] u.w fun e w' => e = .returned (.tuple #[.int .i64 px, .int .i64 py, .bool true]) ∧ Below u.w.heap.size u.w w') := Lib.hid (fun u : Later wr => by
        have e0 := l23Place_c wn hn x y m u.w ⟨by simp only; omega, by simp only; omega, by simp only; omega, by simp only; omega, by simp only; omega, by simp only; omega⟩ hm (HOK.out.imp id (fun e => by omega))
        rw [← hP, hx, hy] at e0
        rw [← Int.natCast_emod, ← Int.natCast_ediv]
        exact e0)
      clear c0 c1 hd
      refine wp_region_later (by kernel_rfl) (by kernel_rfl) ?_
      repeat (go_big_quiet_step ((go_at_call 58; exact Later.call (HCP.out _))))
      refine wpQuiet_nil ?_
      intro w3 hw3
      obtain ⟨u3, hu3⟩ := hw3
      subst hu3
      have H3 := H.step u3.h
      have HPC := Lib.hid (mvC_place (m := m) (show GPl.ok ⟨(wn : Int), hn, x, y⟩ from ⟨by simp only; omega, by simp only; omega, by simp only; omega, by simp only; omega, by simp only; omega, by simp only; omega⟩) (HOK.out.imp id (fun e => by omega)))
      have hbc : bitCell wn i = ⟨(x : Int), (y : Int)⟩ := by rw [hx, hy]; rfl
      have HBG : Hid (inG wn hn ⟨(x : Int), (y : Int)⟩) := Lib.hid ⟨by simp only; omega, by simp only; omega, by simp only; omega, by simp only; omega⟩
      have HMV : Hid (mvI wn hn m ⟨(x : Int), (y : Int)⟩ = ((mvC wn hn m x y).y * wn + (mvC wn hn m x y).x).toNat) := Lib.hid rfl
      have HLT := Lib.hid (Nat.lt_of_lt_of_le (mvI_lt (m := m) hwn6 hhn6 HOK.out HBG.out) (show wn * hn ≤ 36 by rw [← HN.out]; exact hN))
      have HCI : Hid (∀ d ∈ cellsTo wn mk i, inG wn hn d) := Lib.hid fun d hd => by
        obtain ⟨q, hq1, hq2, hq3⟩ := mem_cellsTo.1 hd
        exact HIN.out d (mem_cellsTo.2 ⟨q, by omega, hq2, hq3⟩)
      have HFR := Lib.hid (carN_free (m := m) hwn6 hhn6 HOK.out HCI.out HBG.out (fun hd => by
        rw [← hbc] at hd
        obtain ⟨q, hq1, hq2, hq3⟩ := mem_cellsTo.1 hd
        have := bitCell_lt (w := wn) hq1
        rw [← hq3] at this
        exact absurd this (by rw [bef_asym this]; decide)))
      have HAL : Hid (carN wn hn m (cellsTo wn mk i) < 2 ^ 36) := Lib.hid (Nat.lt_of_lt_of_le (carN_lt hwn6 hhn6 HOK.out HCI.out) (Nat.pow_le_pow_right (by omega) (by rw [← HN.out]; exact hN)))
      have HT : Hid (mk.testBit i = true → carN wn hn m (cellsTo wn mk (i + 1)) = carN wn hn m (cellsTo wn mk i) + 2 ^ mvI wn hn m ⟨(x : Int), (y : Int)⟩) := Lib.hid fun hb => by rw [cellsTo_t hb, hbc, carN_snoc, or_free HFR.out]
      have HF : Hid (mk.testBit i = false → carN wn hn m (cellsTo wn mk (i + 1)) = carN wn hn m (cellsTo wn mk i)) := Lib.hid fun hb => by rw [cellsTo_f hb]
      have y1 := bit_test (m := mk) (x := i) (Nat.lt_of_lt_of_le HMK.out (Nat.le_trans (Nat.pow_le_pow_right (by omega) hN) (by decide)))
      obtain ⟨a, ha⟩ : ∃ a, a = carN wn hn m (cellsTo wn mk i) := ⟨_, rfl⟩
      obtain ⟨k, hk⟩ : ∃ k, k = mvI wn hn m ⟨(x : Int), (y : Int)⟩ := ⟨_, rfl⟩
      rw [← ha] at HT HF HAL ⊢
      rw [← hk] at HT HMV HLT
      rw [← hP] at HPC HMV
      simp only at HPC HMV
      have c0 : u3.w.cell? ⟨g, 0, none⟩ = some (.int .i64 wn) := H3.h0.cell 0
      generalize u3.w = W3 at *
      clear l0 l1 hbc HBG HFR HCI HCP ha hk hP hx hy hx1 hy1 H
      cases hb : mk.testBit i
      · rw [hb] at y1
        go_wp2
        clear y1 c0
        go_roundw
        case rel => exact ⟨i + 1, by omega, by go_num, by rw [HF.out hb], H3⟩
        case measure => simp [intOf]; omega
      · rw [hb] at y1
        obtain ⟨p1, p2, p3, p4⟩ := HPC.out
        have n1 := Int.mul_nonneg p3 (Int.natCast_nonneg wn)
        have n2 : py * (wn : Int) ≤ 6 * 6 := Int.mul_le_mul (by omega) (by omega) (by omega) (by omega)
        have n3 : py * (wn : Int) + px = (k : Int) := by rw [HMV.out]; omega
        have w1 : wrap64 (py * (wn : Int)) = py * (wn : Int) := IntWalk.wrap64_in _ (by omega)
        have k36 := HLT.out
        have w2 : wrap64 (py * (wn : Int) + px) = (k : Int) := by rw [n3]; exact IntWalk.wrap64_in _ (by omega)
        have h2k : 2 ^ k < 68719476736 := Nat.pow_lt_pow_right (n := 36) (by decide) k36
        have hal := HAL.out
        have w3 : wrap64 ((a : Int) + wrap64 (2 ^ k)) = ((a + 2 ^ k : Nat) : Int) := by
          have e2 : ((2 : Int) ^ k) = ((2 ^ k : Nat) : Int) := by simp
          rw [e2]
          generalize 2 ^ k = p at *
          rw [IntWalk.wrap64_in (p : Int) (by omega), ← Int.natCast_add]
          exact IntWalk.wrap64_in _ (by omega)
        have WW := Lib.hid w3
        clear p1 p2 p3 p4 n1 n2 n3 h2k hal w3
        go_wp2
        clear y1 c0 w1 w2
        go_roundw
        case rel => exact ⟨i + 1, by omega, by go_num, by rw [HT.out hb, ← WW.out], H3⟩
        case measure => simp [intOf]; omega
    · have hd : decide (i < N) = false := decide_eq_false hlt
      obtain rfl : i = N := by omega
      have hT : cellsTo wn mk i = cellsM wn mk := cellsM_at HMK.out hN
      have HT := Lib.hid hT
      have hb := H.below
      clear H hT HIN HOK HMK hwn6 hhn6 hwn1 hN HN
      go_wp2
      refine bodyPost_ret (v := .tuple #[.int .i64 (carN wn hn m (cellsTo wn mk i) : Nat), .bool true]) (by simp [results, Tryd.results41, go_sem]) rfl ?_
      exact ⟨by rw [HT.out], hb⟩
end Go.Proofs.YtoccedebiacbiaaDoor
