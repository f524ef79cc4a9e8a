
/-
  Motions of a grid: a place carried, both walks.
-/
import Derived.Test.YtoccedebiacbiaaDoorCellX
import Derived.Test.YtoccedebiacbiaaDoorCwWalks
import Derived.Deep.DeepCutAuto
namespace Go.Proofs.YtoccedebiacbiaaDoor
open Go.RowKit

/-- a grid of w columns and h rows, and a place in it, turned k times -/
structure GPl where
  w : Int
  h : Int
  x : Int
  y : Int
def mvK (g : GPl) : Nat → GPl
  | 0 => g
  | k + 1 => ⟨(mvK g k).h, (mvK g k).w, (mvK g k).h - 1 - (mvK g k).y, (mvK g k).x⟩
def GPl.ok (g : GPl) : Prop := 0 ≤ g.x ∧ g.x < g.w ∧ 0 ≤ g.y ∧ g.y < g.h ∧ g.w ≤ 6 ∧ g.h ≤ 6
theorem mvK_ok {g : GPl} (h : g.ok) : ∀ k, (mvK g k).ok
  | 0 => h
  | k + 1 => by
    obtain ⟨h1, h2, h3, h4, h5, h6⟩ := mvK_ok h k
    refine ⟨?_, ?_, ?_, ?_, ?_, ?_⟩ <;> simp only [mvK] <;> omega
def mvF (w h : Int) (m : Nat) (x y : Int) : GPl := ⟨w, h, if 4 ≤ m then w - 1 - x else x, y⟩
/-- a place carried by motion m -/
def mvC (w h : Int) (m : Nat) (x y : Int) : GPl := mvK (mvF w h m x y) (m % 4)
theorem mvF_ok {w h x y : Int} {m : Nat} (hh : GPl.ok ⟨w, h, x, y⟩) : (mvF w h m x y).ok := by
  obtain ⟨h1, h2, h3, h4, h5, h6⟩ := hh
  simp only at h1 h2 h3 h4 h5 h6
  unfold mvF
  split
  · refine ⟨?_, ?_, ?_, ?_, ?_, ?_⟩ <;> simp only <;> omega
  · exact ⟨h1, h2, h3, h4, h5, h6⟩
theorem mvC_ok {w h x y : Int} {m : Nat} (hh : GPl.ok ⟨w, h, x, y⟩) : (mvC w h m x y).ok := mvK_ok (mvF_ok hh) _
theorem tmod4 (m : Nat) : (m : Int).tmod 4 = ((m % 4 : Nat) : Int) := by
  rw [Int.tmod_eq_emod_of_nonneg (Int.natCast_nonneg _)]
  rfl
set_option maxRecDepth 100000 in
set_option maxHeartbeats 3200000 in
theorem carryPlace_c (wd h x y : Int) (m : Nat) (w : World) (hg : GPl.ok ⟨wd, h, x, y⟩) (hm : m < 8) :
    Calls Tryd.prog 69 #[.int .i64 wd, .int .i64 h, .agg #[.int .i64 x, .int .i64 y], .int .i64 (m : Int)] w fun e w' => e = .returned (.agg #[.int .i64 (mvC wd h m x y).x, .int .i64 (mvC wd h m x y).y]) ∧ Below w.heap.size w w' := by
  have HF := Lib.hid (mvF_ok (m := m) hg)
  obtain ⟨g1, g2, g3, g4, g5, g6⟩ := hg
  simp only at g1 g2 g3 g4 g5 g6
  obtain ⟨G, hG⟩ : ∃ G, G = mvF wd h m x y := ⟨_, rfl⟩
  have hC : mvC wd h m x y = mvK G (m % 4) := by rw [hG]; rfl
  rw [hC]
  rw [← hG] at HF
  have HG := Lib.hid hG
  obtain ⟨n, hn⟩ : ∃ n, n = m % 4 := ⟨_, rfl⟩
  have hn4 : n < 4 := by omega
  have htm : (m : Int).tmod 4 = (n : Int) := by rw [tmod4, hn]
  have hw0 : wrap64 (n : Int) = (n : Int) := IntWalk.wrap64_in _ (by omega)
  rw [← hn]
  have H0 := ((Sep.start w).box 52 #[.int .i64 x, .int .i64 y]).box 52 #[.int .i64 0, .int .i64 0]
  simp only [World.size_alloc] at H0
  obtain ⟨g, hg⟩ : ∃ g, g = w.heap.size := ⟨_, rfl⟩
  rw [← hg] at H0
  have HTM := Lib.hid htm
  have HW0 := Lib.hid hw0
  clear hG hn htm hw0 hC
  go_enter Tryd.func69, Tryd.ntmps69
  go_upto_region 1 with fail
  rw [← hg]
  generalize ((w.alloc (.cells #[.int .i64 x, .int .i64 y] 52)).alloc (.cells #[.int .i64 0, .int .i64 0] 52)) = W at *
  clear hg
  go_upto_if 10 with fail
  go_cut [] (fun wx => Sep w wx [Res.box g 52 #[.int .i64 G.x, .int .i64 G.y], Res.box (g + 1) 52 #[.int .i64 0, .int .i64 0]])
  case first =>
    have x0 : W.cell? ⟨g, 0, none⟩ = some (.int .i64 x) := H0.h1.cell 0
    have f0 := H0.h1.frozen 0
    by_cases h4 : 4 ≤ m
    · have e1 : (4 : Int) ≤ (m : Int) := by omega
      have hd : decide ((4 : Int) ≤ (m : Int)) = true := decide_eq_true e1
      have HGX : Hid (G = ⟨wd, h, wd - 1 - x, y⟩) := Lib.hid (by rw [HG.out, mvF, if_pos h4])
      have w1 : wrap64 (wd - 1) = wd - 1 := IntWalk.wrap64_in _ (by omega)
      have w2 : wrap64 (wd - 1 - x) = wd - 1 - x := IntWalk.wrap64_in _ (by omega)
      have H1 := H0.g1.set_ 0 (.int .i64 (wd - 1 - x))
      clear H0 h4
      go_wp2_with fail
      go_meet
      rw [HGX.out]
      exact H1
    · have e1 : ¬ (4 : Int) ≤ (m : Int) := by omega
      have hd : decide ((4 : Int) ≤ (m : Int)) = false := decide_eq_false e1
      have HGX : Hid (G = ⟨wd, h, x, y⟩) := Lib.hid (by rw [HG.out, mvF, if_neg h4])
      have H1 := H0.g1
      clear H0 h4 f0 x0
      go_wp2_with fail
      go_meet
      rw [HGX.out]
      exact H1
  case rest =>
  generalize hwc : wc = W2 at *
  clear hwc H0
  have hwd : wd = (mvK G 0).w := by rw [HG.out]; rfl
  have hhh : h = (mvK G 0).h := by rw [HG.out]; rfl
  have HWD := Lib.hid hwd
  have HHH := Lib.hid hhh
  have hc0 := Lib.hid hcut
  clear hwd hhh hcut
  have htm := HTM.out
  have hw0 := HW0.out
  go_wp2
  clear htm hw0
  go_loopw [0, 1, 19] (fun wv hv kv wx => ∃ k : Nat, k ≤ n ∧ kv = .int .i64 k ∧ wv = .int .i64 (mvK G k).w ∧ hv = .int .i64 (mvK G k).h ∧ Sep w wx [Res.box g 52 #[.int .i64 (mvK G k).x, .int .i64 (mvK G k).y], Res.box (g + 1) 52 #[.int .i64 0, .int .i64 0]]) (fun _ _ kv _ => n - (intOf kv).toNat)
  case atStart => exact ⟨0, Nat.zero_le _, rfl, by rw [← HWD.out], by rw [← HHH.out], hc0.out⟩
  case round =>
    clear hc0
    obtain ⟨k, hk, rfl, rfl, rfl, H⟩ := hrel
    obtain ⟨o1, o2, o3, o4, o5, o6⟩ := mvK_ok HF.out k
    have HS : Hid (mvK G (k + 1) = ⟨(mvK G k).h, (mvK G k).w, (mvK G k).h - 1 - (mvK G k).y, (mvK G k).x⟩) := Lib.hid rfl
    obtain ⟨P, hP⟩ : ∃ P, P = mvK G k := ⟨_, rfl⟩
    rw [← hP] at o1 o2 o3 o4 o5 o6 H HS ⊢
    have HP := Lib.hid hP
    clear hP
    obtain ⟨pw, ph, px, py⟩ := P
    simp only at o1 o2 o3 o4 o5 o6 H HS
    by_cases hlt : k < n
    · have hlti : (k : Int) < (n : Int) := by omega
      have x0 := H.h0.cell 0
      have x1 := H.h0.cell 1
      have f0 := H.h0.frozen 0
      have f1 := H.h0.frozen 1
      simp at x0 x1
      have w1 : wrap64 (ph - 1) = ph - 1 := IntWalk.wrap64_in _ (by omega)
      have w2 : wrap64 (ph - 1 - py) = ph - 1 - py := IntWalk.wrap64_in _ (by omega)
      have H1 := (H.set_ 0 (.int .i64 (ph - 1 - py))).set_ 1 (.int .i64 px)
      clear H
      go_wp2
      clear x0 x1 f0 f1 w1 w2
      go_roundw
      case rel => exact ⟨k + 1, by omega, by go_num, by rw [HS.out], by rw [HS.out], by rw [HS.out]; exact H1⟩
      case measure => simp [intOf]; omega
    · obtain rfl : k = n := by omega
      have x0 := H.h0.cell 0
      have x1 := H.h0.cell 1
      have y0 := H.h1.cell 0
      have y1 := H.h1.cell 1
      have f0 := H.h1.frozen 0
      have f1 := H.h1.frozen 1
      simp at x0 x1 y0 y1
      have H1 := (H.g1.set_ 0 (.int .i64 px)).set_ 1 (.int .i64 py)
      have u0 := H1.h0.cell 0
      have u1 := H1.h0.cell 1
      simp at u0 u1
      go_wp2
      exact bodyPost_ret (v := .agg #[.int .i64 px, .int .i64 py]) (by simp [results, Tryd.results69, go_sem, u0, u1]) rfl ⟨by rw [← HP.out], H1.below⟩
end Go.Proofs.YtoccedebiacbiaaDoor
