
/-
  Strips: the sequences, valid or not.
-/
import Derived.Test.YtdbneilhgckhjaaDoorMatD
namespace Go.Proofs.YtdbneilhgckhjaaDoor
open Go.RowKit

theorem strip_small : ∀ wd, wd < 5 → ∀ k, k < 17 → 0 ≤ stripN wd k ∧ stripN wd k ≤ 1000000000000 := by decide +kernel
set_option maxRecDepth 100000 in
set_option maxHeartbeats 1600000 in
theorem impl_seq_c (wd n : Nat) (w : World) (h1 : 1 ≤ wd) (hw : wd ≤ 4) (hn : n ≤ 16) :
    Calls Tryd.prog 21 #[.int .i64 wd, .int .i64 n] w fun e w' => ∃ v, e = .returned v ∧ IntsIn w' w.heap.size w'.heap.size v (stripL wd n) ∧ Below w.heap.size w w' := by
  obtain ⟨i0, hi, hz0, hz1, hz2⟩ := info_parts infoIntM
  have hSC : ∀ w : World, Calls Tryd.prog 62 #[.int .i64 wd, .int .i64 n] w fun e w' => e = .returned (.int .i64 (stripN wd n)) ∧ Below w.heap.size w w' := by
    intro w
    have h1' : inW (wd : Int) 1 4 = true := inW_iff.2 ⟨by omega, by omega⟩
    have h2' : inW (n : Int) 0 16 = true := inW_iff.2 ⟨by omega, by omega⟩
    have HC := Lib.hid (impl_count_c wd n w h1 hw hn)
    go_enter Tryd.func62, Tryd.ntmps62
    go_wp2_with (go_at_call 65; refine (between_w _ _ _ _).mono ?_; rintro e w' ⟨rfl, rfl⟩)
    refine (HC.out).mono ?_
    rintro e w1 ⟨rfl, b1⟩
    go_wp2
    go_ret
    exact ⟨rfl, b1⟩
  have HSC := Lib.hid hSC
  have HCT : Hid (∀ (k : Nat) (w : World), k ≤ n → Calls Tryd.prog 63 #[.int .i64 wd, .int .i64 k] w fun e w' => e = .returned (.int .i64 (stripN wd k)) ∧ Below w.heap.size w w') := Lib.hid fun k w hk => impl_count_c wd k w h1 hw (by omega)
  obtain ⟨x, hx⟩ : ∃ x, x = stripN wd n := ⟨_, rfl⟩
  have hx0 : decide (x < 0) = false := by
    have := (strip_small wd (by omega) n (by omega)).1
    rw [← hx] at this
    exact decide_eq_false (by omega)
  rw [← hx] at HSC
  clear hSC hx
  go_enter Tryd.func21, Tryd.ntmps21
  go_wp2_with fail
  refine (HSC.out w).mono ?_
  rintro e w1 ⟨rfl, b1⟩
  have H0 := ((Sep.start w).step b1).nil 3 1
  clear b1
  go_wp2
  clear hx0
  go_loopw [5, 6] (fun ov kv wx => ∃ k : Nat, k ≤ n + 1 ∧ kv = .int .i64 k ∧ Sep w wx [Res.row ov 3 1 k (ic ((stripL wd n).take k))]) (fun _ kv _ => n + 1 - (intOf kv).toNat)
  case atStart => exact ⟨0, Nat.zero_le _, rfl, H0⟩
  case round =>
    clear H0
    obtain ⟨k, hkn, rfl, H⟩ := hrel
    by_cases hlt : k < n + 1
    · have HT := Lib.hid (stripL_take (wd := wd) (n := n) (k := k) (by omega))
      have HK := Lib.hid (HCT.out k wr (by omega))
      go_wp2_with fail
      refine (HK.out).mono ?_
      rintro e w2 ⟨rfl, b2⟩
      have H1 := H.step b2
      clear H HK b2
      obtain ⟨y, hy⟩ : ∃ y, y = stripN wd k := ⟨_, rfl⟩
      rw [← hy] at HT ⊢
      clear hy
      go_wp2_with (at_builtin; refine wpList_app rfl _ _ 24 rfl 3 i0 _ 1 8 Tryd.underlying24 hi hz0 hz1 hz2 rfl (by decide) _ _ _ rfl (H1.alloc _) _ _ _ [.int .i64 y] rfl (Rd.fresh w2 _ #[.int .i64 y] 1 1 rfl) oc1 (by unfold maxLen; omega) (by omega) ?_; intro v3 w3 H3; clear H1)
      rw [HT.out] at H3
      go_roundw
      case rel => exact ⟨k + 1, by omega, by go_num, H3⟩
      case measure => simp [intOf]; omega
    · obtain rfl : k = n + 1 := by omega
      rw [List.take_of_length_le (by rw [stripL_len]; exact Nat.le_refl _)] at H
      have HL : n + 1 = (stripL wd n).length := stripL_len.symm
      go_wp2
      go_ret
      have HO : IntsIn wr w.heap.size wr.heap.size u5 (stripL wd n) := by unfold IntsIn; rw [← HL]; exact H.oi
      exact ⟨_, rfl, HO, H.below⟩
set_option maxRecDepth 100000 in
theorem impl_seq0_c (W n : Int) (w : World) (h : (inW W 1 4 && inW n 0 16) = false) :
    Calls Tryd.prog 21 #[.int .i64 W, .int .i64 n] w fun e w' => ∃ v, e = .returned v ∧ IntsIn w' w.heap.size w'.heap.size v [] ∧ Below w.heap.size w w' := by
  have hSC : ∀ w : World, Calls Tryd.prog 62 #[.int .i64 W, .int .i64 n] w fun e w' => e = .returned (.int .i64 (-1)) ∧ Below w.heap.size w w' := by
    intro w
    cases h1 : inW W 1 4
    · clear h
      go_enter Tryd.func62, Tryd.ntmps62
      go_wp2_with (go_at_call 65; refine (between_w _ _ _ _).mono ?_; rintro e w' ⟨rfl, rfl⟩)
      go_ret
      exact ⟨rfl, Below.refl _ _⟩
    · rw [h1, Bool.true_and] at h
      go_enter Tryd.func62, Tryd.ntmps62
      go_wp2_with (go_at_call 65; refine (between_w _ _ _ _).mono ?_; rintro e w' ⟨rfl, rfl⟩)
      go_ret
      exact ⟨rfl, Below.refl _ _⟩
  have HSC := Lib.hid hSC
  clear hSC h
  go_enter Tryd.func21, Tryd.ntmps21
  go_wp2_with fail
  refine (HSC.out w).mono ?_
  rintro e w1 ⟨rfl, b1⟩
  go_wp2
  go_ret
  exact ⟨_, rfl, IntsIn.nil, b1⟩
set_option maxRecDepth 100000 in
theorem spec_seq0_c (W n : Int) (w : World) (h : (inW W 1 4 && inW n 0 16) = false) :
    Calls Tryd.prog 17 #[.int .i64 W, .int .i64 n] w fun e w' => ∃ v, e = .returned v ∧ IntsIn w' w.heap.size w'.heap.size v [] ∧ Below w.heap.size w w' := by
  cases h1 : inW W 1 4
  · have HT := Lib.hid (spec_trans0_c W w h1)
    clear h h1
    go_enter Tryd.func17, Tryd.ntmps17
    go_wp2_with fail
    refine (HT.out).mono ?_
    rintro e w1 ⟨v1, rfl, b1⟩
    have H := ((Sep.start w).step b1).rowBox 3 #[] 1 0 rfl (by decide)
    clear b1
    go_wp2
    go_ret
    exact ⟨_, rfl, H.oi, H.below⟩
  · rw [h1, Bool.true_and] at h
    have hb := inW_iff.1 h1
    obtain ⟨wd, rfl⟩ := Int.eq_ofNat_of_zero_le (show 0 ≤ W by omega)
    have HT := Lib.hid (spec_trans_c wd w (by omega) (by omega))
    clear h1 hb
    go_enter Tryd.func17, Tryd.ntmps17
    go_wp2_with fail
    refine (HT.out).mono ?_
    rintro e w1 ⟨v1, vs, rfl, HM⟩
    have H := ((Sep.start w).step HM.below).rowBox 3 #[] 1 0 rfl (by decide)
    obtain ⟨A1, c1, rfl, _, _, _⟩ := Res.row_at HM.h0
    clear HM
    go_wp2_with (go_at_call 59; refine (l1In_w _ _ _ _).mono ?_; rintro e w' ⟨rfl, rfl⟩)
    go_ret
    exact ⟨_, rfl, H.oi, H.below⟩
end Go.Proofs.YtdbneilhgckhjaaDoor
