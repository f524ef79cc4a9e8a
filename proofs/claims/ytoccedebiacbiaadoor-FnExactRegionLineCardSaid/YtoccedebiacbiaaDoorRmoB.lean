
/-
  Motions of a grid: the reference's walk of 'l23Place'.
-/
import Derived.Test.YtoccedebiacbiaaDoorRmoA
namespace Go.Proofs.YtoccedebiacbiaaDoor
open Go.RowKit

set_option maxRecDepth 100000 in
set_option maxHeartbeats 3200000 in
theorem l23Place_c (wd h x y : Int) (m : Nat) (w : World) (hg : GPl.ok ⟨wd, h, x, y⟩) (hm : m < 8) (hok : m % 2 = 0 ∨ wd = h) :
    Calls Tryd.prog 58 #[.int .i64 wd, .int .i64 h, .int .i64 x, .int .i64 y, .int .i64 (m : Int)] w fun e w' => e = .returned (.tuple #[.int .i64 (mvC wd h m x y).x, .int .i64 (mvC wd h m x y).y, .bool true]) ∧ Below w.heap.size w w' := by
  have HF := Lib.hid (mvF_ok (m := m) hg)
  obtain ⟨g1, g2, g3, g4, g5, g6⟩ := hg
  simp only at g1 g2 g3 g4 g5 g6
  have htm2 : (m : Int).tmod 2 = ((m % 2 : Nat) : Int) := by rw [Int.tmod_eq_emod_of_nonneg (Int.natCast_nonneg _)]; rfl
  obtain ⟨G, hG⟩ : ∃ G, G = mvF wd h m x y := ⟨_, rfl⟩
  have hC : mvC wd h m x y = mvK G (m % 4) := by rw [hG]; rfl
  rw [hC]
  rw [← hG] at HF
  have HG := Lib.hid hG
  obtain ⟨n, hn⟩ : ∃ n, n = m % 4 := ⟨_, rfl⟩
  have hn4 : n < 4 := by omega
  rw [← hn]
  have HTM : Hid ((m : Int).tmod 4 = (n : Int)) := Lib.hid (by rw [tmod4, hn])
  have HW0 : Hid (wrap64 (n : Int) = (n : Int)) := Lib.hid (IntWalk.wrap64_in _ (by omega))
  clear hG hn hC
  by_cases he : m % 2 = 0
  · rw [he] at htm2
    have htm2 : (m : Int).tmod 2 = 0 := htm2
    clear he hok
    go_enter Tryd.func58, Tryd.ntmps58
    go_upto_region 3 with fail
    clear htm2
    go_upto_if 25 with fail
    go_cut [2] (fun xv wx => xv = .int .i64 G.x ∧ w = wx)
    case first =>
      by_cases h4 : 4 ≤ m
      · have e1 : (4 : Int) ≤ (m : Int) := by omega
        have hd : decide ((4 : Int) ≤ (m : Int)) = true := decide_eq_true e1
        have HGX : Hid (G.x = wd - 1 - x) := Lib.hid (by rw [HG.out, mvF]; simp only; rw [if_pos h4])
        have w1 : wrap64 (wd - 1) = wd - 1 := IntWalk.wrap64_in _ (by omega)
        have w2 : wrap64 (wd - 1 - x) = wd - 1 - x := IntWalk.wrap64_in _ (by omega)
        clear h4
        go_wp2_with fail
        go_meet
        exact ⟨by rw [HGX.out], rfl⟩
      · have e1 : ¬ (4 : Int) ≤ (m : Int) := by omega
        have hd : decide ((4 : Int) ≤ (m : Int)) = false := decide_eq_false e1
        have HGX : Hid (G.x = x) := Lib.hid (by rw [HG.out, mvF]; simp only; rw [if_neg h4])
        clear h4
        go_wp2_with fail
        go_meet
        exact ⟨by rw [HGX.out], rfl⟩
    case rest =>
    obtain ⟨rfl, rfl⟩ := hcut
    have HWD : Hid (wd = (mvK G 0).w) := Lib.hid (by rw [HG.out]; rfl)
    have HHH : Hid (h = (mvK G 0).h) := Lib.hid (by rw [HG.out]; rfl)
    have HXX : Hid (G.x = (mvK G 0).x) := Lib.hid rfl
    have HYY : Hid (y = (mvK G 0).y) := Lib.hid (by rw [HG.out]; rfl)
    go_wp2
    go_loopw [0, 1, 2, 3, 13] (fun wv hv xv yv kv wx => ∃ k : Nat, k ≤ n ∧ kv = .int .i64 k ∧ wv = .int .i64 (mvK G k).w ∧ hv = .int .i64 (mvK G k).h ∧ xv = .int .i64 (mvK G k).x ∧ yv = .int .i64 (mvK G k).y ∧ w = wx) (fun _ _ _ _ kv _ => n - (intOf kv).toNat)
    case atStart => exact ⟨0, Nat.zero_le _, rfl, by rw [← HWD.out], by rw [← HHH.out], by rw [← HXX.out], by rw [← HYY.out], rfl⟩
    case round =>
      obtain ⟨k, hk, rfl, rfl, rfl, rfl, rfl, rfl⟩ := hrel
      obtain ⟨o1, o2, o3, o4, o5, o6⟩ := mvK_ok HF.out k
      have HS : Hid (mvK G (k + 1) = ⟨(mvK G k).h, (mvK G k).w, (mvK G k).h - 1 - (mvK G k).y, (mvK G k).x⟩) := Lib.hid rfl
      obtain ⟨P, hP⟩ : ∃ P, P = mvK G k := ⟨_, rfl⟩
      rw [← hP] at o1 o2 o3 o4 o5 o6 HS ⊢
      have HP := Lib.hid hP
      clear hP
      obtain ⟨pw, ph, px, py⟩ := P
      simp only at o1 o2 o3 o4 o5 o6 HS
      have htm := HTM.out
      go_upto_if 33 with fail
      clear htm
      by_cases hlt : k < n
      · have hd : decide (k < n) = true := decide_eq_true hlt
        have w1 : wrap64 (ph - 1) = ph - 1 := IntWalk.wrap64_in _ (by omega)
        have w2 : wrap64 (ph - 1 - py) = ph - 1 - py := IntWalk.wrap64_in _ (by omega)
        go_wp2
        clear w1 w2
        go_roundw
        case rel => exact ⟨k + 1, by omega, by go_num, by rw [HS.out], by rw [HS.out], by rw [HS.out], by rw [HS.out], trivial⟩
        case measure => simp [intOf]; omega
      · have hd : decide (k < n) = false := decide_eq_false hlt
        obtain rfl : k = n := by omega
        go_wp2
        refine bodyPost_ret (v := .tuple #[.int .i64 px, .int .i64 py, .bool true]) (by simp [results, Tryd.results58, go_sem]) rfl ?_
        exact ⟨by rw [← HP.out], Below.refl _ _⟩
  · obtain rfl : wd = h := hok.resolve_left he
    have he1 : m % 2 = 1 := by omega
    rw [he1] at htm2
    have htm2 : (m : Int).tmod 2 = 1 := htm2
    clear he hok he1
    go_enter Tryd.func58, Tryd.ntmps58
    go_upto_region 3 with fail
    clear htm2
    go_upto_if 25 with fail
    go_cut [2] (fun xv wx => xv = .int .i64 G.x ∧ w = wx)
    case first =>
      by_cases h4 : 4 ≤ m
      · have e1 : (4 : Int) ≤ (m : Int) := by omega
        have hd : decide ((4 : Int) ≤ (m : Int)) = true := decide_eq_true e1
        have HGX : Hid (G.x = wd - 1 - x) := Lib.hid (by rw [HG.out, mvF]; simp only; rw [if_pos h4])
        have w1 : wrap64 (wd - 1) = wd - 1 := IntWalk.wrap64_in _ (by omega)
        have w2 : wrap64 (wd - 1 - x) = wd - 1 - x := IntWalk.wrap64_in _ (by omega)
        clear h4
        go_wp2_with fail
        go_meet
        exact ⟨by rw [HGX.out], rfl⟩
      · have e1 : ¬ (4 : Int) ≤ (m : Int) := by omega
        have hd : decide ((4 : Int) ≤ (m : Int)) = false := decide_eq_false e1
        have HGX : Hid (G.x = x) := Lib.hid (by rw [HG.out, mvF]; simp only; rw [if_neg h4])
        clear h4
        go_wp2_with fail
        go_meet
        exact ⟨by rw [HGX.out], rfl⟩
    case rest =>
    obtain ⟨rfl, rfl⟩ := hcut
    have HWD : Hid (wd = (mvK G 0).w) := Lib.hid (by rw [HG.out]; rfl)
    have HHH : Hid (wd = (mvK G 0).h) := Lib.hid (by rw [HG.out]; rfl)
    have HXX : Hid (G.x = (mvK G 0).x) := Lib.hid rfl
    have HYY : Hid (y = (mvK G 0).y) := Lib.hid (by rw [HG.out]; rfl)
    go_wp2
    go_loopw [0, 1, 2, 3, 13] (fun wv hv xv yv kv wx => ∃ k : Nat, k ≤ n ∧ kv = .int .i64 k ∧ wv = .int .i64 (mvK G k).w ∧ hv = .int .i64 (mvK G k).h ∧ xv = .int .i64 (mvK G k).x ∧ yv = .int .i64 (mvK G k).y ∧ w = wx) (fun _ _ _ _ kv _ => n - (intOf kv).toNat)
    case atStart => exact ⟨0, Nat.zero_le _, rfl, by rw [← HWD.out], by rw [← HHH.out], by rw [← HXX.out], by rw [← HYY.out], rfl⟩
    case round =>
      obtain ⟨k, hk, rfl, rfl, rfl, rfl, rfl, rfl⟩ := hrel
      obtain ⟨o1, o2, o3, o4, o5, o6⟩ := mvK_ok HF.out k
      have HS : Hid (mvK G (k + 1) = ⟨(mvK G k).h, (mvK G k).w, (mvK G k).h - 1 - (mvK G k).y, (mvK G k).x⟩) := Lib.hid rfl
      obtain ⟨P, hP⟩ : ∃ P, P = mvK G k := ⟨_, rfl⟩
      rw [← hP] at o1 o2 o3 o4 o5 o6 HS ⊢
      have HP := Lib.hid hP
      clear hP
      obtain ⟨pw, ph, px, py⟩ := P
      simp only at o1 o2 o3 o4 o5 o6 HS
      have htm := HTM.out
      go_upto_if 33 with fail
      clear htm
      by_cases hlt : k < n
      · have hd : decide (k < n) = true := decide_eq_true hlt
        have w1 : wrap64 (ph - 1) = ph - 1 := IntWalk.wrap64_in _ (by omega)
        have w2 : wrap64 (ph - 1 - py) = ph - 1 - py := IntWalk.wrap64_in _ (by omega)
        go_wp2
        clear w1 w2
        go_roundw
        case rel => exact ⟨k + 1, by omega, by go_num, by rw [HS.out], by rw [HS.out], by rw [HS.out], by rw [HS.out], trivial⟩
        case measure => simp [intOf]; omega
      · have hd : decide (k < n) = false := decide_eq_false hlt
        obtain rfl : k = n := by omega
        go_wp2
        refine bodyPost_ret (v := .tuple #[.int .i64 px, .int .i64 py, .bool true]) (by simp [results, Tryd.results58, go_sem]) rfl ?_
        exact ⟨by rw [← HP.out], Below.refl _ _⟩
end Go.Proofs.YtoccedebiacbiaaDoor
