
/-
  RegionMotions: the reference's walk.
-/
import Derived.Test.YtoccedebiacbiaaDoorRmoG
import Derived.Test.YtoccedebiacbiaaDoorCelN
namespace Go.Proofs.YtoccedebiacbiaaDoor
open Go.RowKit

set_option maxRecDepth 100000 in
set_option maxHeartbeats 1600000 in
theorem l23Place_no (wd h x y : Int) (m : Nat) (w : World) (hm : m < 8) (h1 : m % 2 = 1) (h2 : wd ≠ h) :
    Calls Tryd.prog 58 #[.int .i64 wd, .int .i64 h, .int .i64 x, .int .i64 y, .int .i64 (m : Int)] w fun e w' => e = .returned (.tuple #[.int .i64 0, .int .i64 0, .bool false]) ∧ Below w.heap.size w w' := by
  have e0 : ((m : Int) % 2 == 1) = true := by simp; omega
  have e1 : (wd != h) = true := by simpa using h2
  clear h1 h2
  go_enter Tryd.func58, Tryd.ntmps58
  go_wp2
  refine bodyPost_ret (v := .tuple #[.int .i64 0, .int .i64 0, .bool false]) (by simp [results, Tryd.results58, go_sem]) rfl ?_
  exact ⟨rfl, Below.refl _ _⟩
set_option maxRecDepth 100000 in
set_option maxHeartbeats 1600000 in
theorem l23Turn_no {v : Value} {r : Reg} {mk m : Nat} (w : World) (h : RegRd w 0 w.heap.size v r) (hv : r.Valid) (hm : m < 8) (h1 : m % 2 = 1) (h2 : r.w.toNat ≠ r.rows.length) :
    Calls Tryd.prog 41 #[v, .int .i64 mk, .int .i64 m] w fun e w' => e = .returned (.tuple #[.int .i64 0, .bool false]) ∧ Below w.heap.size w w' := by
  obtain ⟨s, rfl, hs⟩ := h
  obtain ⟨A, c, rfl, _, _⟩ := hs
  have v1 := hv.1
  have v2 := hv.2.1
  have v3 := hv.2.2.1
  have v4 := hv.2.2.2.1
  have hw0 : r.w = (r.w.toNat : Int) := by omega
  generalize r.w.toNat = wn at *
  generalize r.rows.length = hn at *
  rw [hw0]
  have hwn6 : wn ≤ 6 := by omega
  have hhn6 : hn ≤ 6 := by omega
  have hwn1 : 1 ≤ wn := by omega
  have hN : wn * hn ≤ 36 := Nat.mul_le_mul hwn6 hhn6
  have hN1 : 1 ≤ wn * hn := Nat.mul_le_mul hwn1 v3
  obtain ⟨N, hN'⟩ : ∃ N, N = wn * hn := ⟨_, rfl⟩
  rw [← hN'] at hN hN1
  have HPN := Lib.hid (fun (x y : Int) (W : World) => l23Place_no wn hn x y m W hm h1 (by omega))
  have w1 : wrap64 ((wn : Int) * (hn : Int)) = (N : Int) := by rw [hN', ← Int.natCast_mul]; exact IntWalk.wrap64_in _ (by rw [← hN']; omega)
  have hd : decide (0 < N) = true := decide_eq_true hN1
  have hwnz : ¬ (wn : Int) = 0 := by omega
  have H0 := (Sep.start w).box 27 #[.int .i64 wn, .slice A hn c]
  obtain ⟨g, hg⟩ : ∃ g, g = w.heap.size := ⟨_, rfl⟩
  rw [← hg] at H0
  clear hv v1 v2 v3 v4 hw0 hN' h1 h2
  go_enter Tryd.func41, Tryd.ntmps41
  go_upto_region 1 with fail
  rw [← hg]
  generalize (w.alloc (.cells #[.int .i64 wn, .slice A hn c] 27)) = W at *
  clear hg
  go_wp2
  go_loopw [8, 9] (fun av iv wx => av = .int .i64 0 ∧ iv = .int .i64 0 ∧ Sep w wx [Res.box g 27 #[.int .i64 wn, .slice A hn c]]) (fun _ iv _ => 0)
  case atStart => exact ⟨rfl, rfl, H0⟩
  case round =>
    clear H0
    obtain ⟨rfl, rfl, H⟩ := hrel
    have c0 : wr.cell? ⟨g, 0, none⟩ = some (.int .i64 wn) := H.h0.cell 0
    have c1 : wr.cell? ⟨g, 1, none⟩ = some (.slice A hn c) := H.h0.cell 1
    go_upto_region 5 with fail
    have l0 := Later.cell c0 (by have := H.h0.lt; simpa using this)
    have l1 := Later.cell c1 (by have := H.h0.lt; simpa using this)
    clear w1 hd c0 c1
    refine wp_region_later (by kernel_rfl) (by kernel_rfl) ?_
    repeat (go_big_quiet_step ((go_at_call 58; exact Later.call (HPN.out _ _ _))))
    refine wpQuiet_nil ?_
    intro w3 hw3
    obtain ⟨u3, hu3⟩ := hw3
    subst hu3
    have hb := (H.step u3.h).below
    clear l0 l1 H
    generalize u3.w = W3 at *
    go_wp2
    refine bodyPost_ret (v := .tuple #[.int .i64 0, .bool false]) (by simp [results, Tryd.results41, go_sem]) rfl ?_
    exact ⟨rfl, hb⟩
set_option maxRecDepth 100000 in
set_option maxHeartbeats 1600000 in
theorem spec_motions_c {v : Value} {r : Reg} (w : World) (h : RegRd w 0 w.heap.size v r) (hv : r.Valid) :
    Calls Tryd.prog 18 #[v] w fun e w' => ∃ v', e = .returned v' ∧ IntsIn w' w.heap.size w'.heap.size v' (motZ r 8) ∧ Below w.heap.size w w' := by
  obtain ⟨i0, hi, hz0, hz1, hz2⟩ := info_parts (show (Tryd.prog.info? 3).map (fun i => (i.zero, i.size, i.bytes)) = some (some (.int .i64 0), 1, 8) by kernel_rfl)
  obtain ⟨s, rfl, hs⟩ := h
  have hs0 := hs
  obtain ⟨A, c, rfl, _, _⟩ := hs
  have HIR := Lib.hid (fun (W : World) (hb : Below w.heap.size w W) (hsz : w.heap.size ≤ W.heap.size) => spec_IsRegion_c (r := r) W ⟨_, rfl, ((hs0.keep (SameIn.of_below hb (Nat.le_refl _))).more (Nat.le_refl _) hsz)⟩)
  rw [show r.valid = true from decide_eq_true hv] at HIR
  have HMK := Lib.hid (fun (W : World) (hb : Below w.heap.size w W) (hsz : w.heap.size ≤ W.heap.size) => spec_mask_c (r := r) W ⟨_, rfl, ((hs0.keep (SameIn.of_below hb (Nat.le_refl _))).more (Nat.le_refl _) hsz)⟩ hv)
  have HCM := Lib.hid (fun (m : Nat) (hm : m < 8) (hok : m % 2 = 0 ∨ r.w.toNat = r.rows.length) (W : World) (hb : Below w.heap.size w W) (hsz : w.heap.size ≤ W.heap.size) => l23Turn_c (r := r) W ⟨_, rfl, ((hs0.keep (SameIn.of_below hb (Nat.le_refl _))).more (Nat.le_refl _) hsz)⟩ hv (mask_ltN hv) hm hok (mask_inG hv))
  have HCN := Lib.hid (fun (m : Nat) (hm : m < 8) (h1 : m % 2 = 1) (h2 : r.w.toNat ≠ r.rows.length) (W : World) (hb : Below w.heap.size w W) (hsz : w.heap.size ≤ W.heap.size) => l23Turn_no (r := r) (mk := r.mask) W ⟨_, rfl, ((hs0.keep (SameIn.of_below hb (Nat.le_refl _))).more (Nat.le_refl _) hsz)⟩ hv hm h1 h2)
  rw [cells_maskN hv] at HCM
  have HW0 : Hid (r.w = (r.w.toNat : Int)) := Lib.hid (by have := hv.1; omega)
  have H0 := (Sep.start w).box 27 #[.int .i64 r.w, .slice A r.rows.length c]
  obtain ⟨g, hg⟩ : ∃ g, g = w.heap.size := ⟨_, rfl⟩
  rw [← hg] at H0
  clear hs0 hv
  go_enter Tryd.func18, Tryd.ntmps18
  go_upto_region 1 with fail
  rw [← hg]
  generalize (w.alloc (.cells #[.int .i64 r.w, .slice A r.rows.length c] 27)) = W at *
  clear hg
  have H1 := H0.rowBox 3 #[] 1 0 rfl (by decide)
  go_upto_region 2 with fail
  obtain ⟨gr, hgr⟩ : ∃ k, k = W.heap.size := ⟨_, rfl⟩
  rw [← hgr] at H1 ⊢
  generalize W.alloc (.cells #[] 3) = W1 at *
  clear hgr H0
  go_wp2
  go_loopw [3, 4] (fun ov iv wx => ∃ (i q : Nat), i ≤ 8 ∧ iv = .int .i64 i ∧ Hid (q = (motZ r i).length) ∧ q ≤ i ∧ Sep w wx [Res.row ov 3 1 q (ic (motZ r i)), Res.box g 27 #[.int .i64 r.w, .slice A r.rows.length c]]) (fun _ iv _ => 8 - (intOf iv).toNat)
  case atStart => exact ⟨0, 0, by omega, rfl, Lib.hid rfl, Nat.le_refl _, H1⟩
  case round =>
    clear H1
    obtain ⟨i, q, hi8, rfl, HQ, hq, H⟩ := hrel
    by_cases hlt : i < 8
    · have hlti : (i : Int) < 8 := by omega
      have hlts : decide ((i : Int) < 8) = true := decide_eq_true hlti
      have c0 : wr.cell? ⟨g, 0, none⟩ = some (.int .i64 r.w) := H.h1.cell 0
      have c1 : wr.cell? ⟨g, 1, none⟩ = some (.slice A r.rows.length c) := H.h1.cell 1
      go_wp2_with fail
      refine ((HIR.out) _ H.below H.below.size).mono ?_
      rintro e wa ⟨rfl, b1⟩
      have H := H.step b1
      clear b1 c0 c1
      have c0 : wa.cell? ⟨g, 0, none⟩ = some (.int .i64 r.w) := H.h1.cell 0
      have c1 : wa.cell? ⟨g, 1, none⟩ = some (.slice A r.rows.length c) := H.h1.cell 1
      go_upto_region 5 with fail
      have l0 := Later.cell c0 (by have := H.h1.lt; simpa using this)
      have l1 := Later.cell c1 (by have := H.h1.lt; simpa using this)
      have HM : Hid (∀ u : Later wa, Calls Tryd.prog 42 #[.agg #[.int .i64 r.w, .slice A r.rows.length c]] u.w fun e w' => e = .returned (.int .i64 (r.mask : Int)) ∧ Below u.w.heap.size u.w w') := Lib.hid fun u => HMK.out u.w (H.step u.h).below (H.step u.h).below.size
      clear c0 c1
      refine wp_region_later (by kernel_rfl) (by kernel_rfl) ?_
      have HMB : Hid (motB r i = ((decide (i % 2 = 0) || decide (r.w.toNat = r.rows.length)) && decide (carN r.w.toNat r.rows.length i r.cells = r.mask))) := Lib.hid rfl
      by_cases hok : i % 2 = 0 ∨ r.w.toNat = r.rows.length
      · obtain ⟨K, hK⟩ : ∃ K, K = carN r.w.toNat r.rows.length i r.cells := ⟨_, rfl⟩
        have HC : Hid (∀ u : Later wa, Calls Tryd.prog 41 #[.agg #[.int .i64 r.w, .slice A r.rows.length c], .int .i64 (r.mask : Int), .int .i64 i] u.w fun e w' => e = .returned (.tuple #[.int .i64 (K : Int), .bool true]) ∧ Below u.w.heap.size u.w w') := Lib.hid fun u => by
          rw [hK]
          exact HCM.out i hlt hok u.w (H.step u.h).below (H.step u.h).below.size
        have HMB2 : Hid (motB r i = decide (K = r.mask)) := Lib.hid (by rw [HMB.out, hK]; rcases hok with h | h <;> simp [h])
        have e2 : ((K : Int) == (r.mask : Int)) = decide (K = r.mask) := by rw [Bool.eq_iff_iff]; simp; omega
        clear hK hok
        generalize r.mask = mk at *
        repeat (go_big_quiet_step (first | (go_at_call 42; exact Later.call (HM.out _)) | (go_at_call 41; exact Later.call (HC.out _))))
        refine wpQuiet_nil ?_
        intro w3 hw3
        obtain ⟨u3, hu3⟩ := hw3
        subst hu3
        have H3 := H.step u3.h
        clear l0 l1 HM H
        generalize u3.w = W3 at *
        have c0 : W3.cell? ⟨g, 0, none⟩ = some (.int .i64 r.w) := H3.h1.cell 0
        have c1 : W3.cell? ⟨g, 1, none⟩ = some (.slice A r.rows.length c) := H3.h1.cell 1
        go_wp2_with fail
        refine ((HMK.out) _ H3.below H3.below.size).mono ?_
        rintro e w4 ⟨rfl, b4⟩
        have H4 := H3.step b4
        clear b4 c0 c1 H3
        by_cases hk : K = mk
        · have hb : motB r i = true := by rw [HMB2.out]; exact decide_eq_true hk
          rw [decide_eq_true hk] at e2
          clear hk
          have HZ := Lib.hid (motZ_yes hb)
          go_wp2_with (at_builtin; refine wpList_app rfl _ _ 22 rfl 3 i0 _ 1 8 Tryd.underlying22 hi hz0 hz1 hz2 rfl (by decide) _ _ _ rfl (H4.alloc _) _ _ _ [.int .i64 (i : Int)] rfl (Rd.fresh _ 3 #[.int .i64 (i : Int)] 1 1 rfl) oc1 (by unfold maxLen; omega) (by omega) ?_; intro v5 w5 H5; clear H4)
          have HQ2 : Hid (q + 1 = (motZ r (i + 1)).length) := Lib.hid (by rw [HZ.out, List.length_append, ← HQ.out]; rfl)
          have H6 : Sep w w5 [Res.row v5 3 1 (q + 1) (ic (motZ r (i + 1))), Res.box g 27 #[.int .i64 r.w, .slice A r.rows.length c]] := by
            rw [HZ.out, ic_append]; exact H5
          clear H5
          go_wp2
          go_roundw
          case rel => exact ⟨i + 1, q + 1, by omega, by go_num, HQ2, by omega, H6⟩
          case measure => simp [intOf]; omega
        · have hb : motB r i = false := by rw [HMB2.out]; exact decide_eq_false hk
          rw [decide_eq_false hk] at e2
          clear hk
          have HZ := Lib.hid (motZ_no hb)
          go_wp2
          go_roundw
          case rel => exact ⟨i + 1, q, by omega, by go_num, by rw [HZ.out]; exact HQ, by omega, by rw [HZ.out]; exact H4⟩
          case measure => simp [intOf]; omega
      · have h2 : ¬ i % 2 = 0 := fun h => hok (.inl h)
        have h3 : ¬ r.w.toNat = r.rows.length := fun h => hok (.inr h)
        have hb : motB r i = false := by rw [HMB.out, decide_eq_false h2, decide_eq_false h3]; rfl
        have HC : Hid (∀ u : Later wa, Calls Tryd.prog 41 #[.agg #[.int .i64 r.w, .slice A r.rows.length c], .int .i64 (r.mask : Int), .int .i64 i] u.w fun e w' => e = .returned (.tuple #[.int .i64 0, .bool false]) ∧ Below u.w.heap.size u.w w') := Lib.hid fun u => HCN.out i hlt (by omega) h3 u.w (H.step u.h).below (H.step u.h).below.size
        have HB := Lib.hid hb
        clear h2 h3 hok hb
        repeat (go_big_quiet_step (first | (go_at_call 42; exact Later.call (HM.out _)) | (go_at_call 41; exact Later.call (HC.out _))))
        refine wpQuiet_nil ?_
        intro w3 hw3
        obtain ⟨u3, hu3⟩ := hw3
        subst hu3
        have H3 := H.step u3.h
        clear l0 l1 HM H
        generalize u3.w = W3 at *
        have hb := HB.out
        have H4 := H3
        clear H3
        have HZ := Lib.hid (motZ_no hb)
        go_wp2
        go_roundw
        case rel => exact ⟨i + 1, q, by omega, by go_num, by rw [HZ.out]; exact HQ, by omega, by rw [HZ.out]; exact H4⟩
        case measure => simp [intOf]; omega
    · obtain rfl : i = 8 := by omega
      have hq := HQ.out
      have H5 := H.oi
      have hbl := H.below
      clear H
      go_wp2
      go_ret
      exact ⟨_, rfl, by rw [hq] at H5; exact H5, hbl⟩
end Go.Proofs.YtoccedebiacbiaaDoor
