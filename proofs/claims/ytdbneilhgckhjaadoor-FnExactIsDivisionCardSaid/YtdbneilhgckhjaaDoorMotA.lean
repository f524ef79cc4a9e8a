
/-
  Motions: a cell carried by one: the walks of both sides.
-/
import Derived.Test.YtdbneilhgckhjaaDoorShpH
import Derived.Deep.DeepCutAuto
namespace Go.Proofs.YtdbneilhgckhjaaDoor
open Go.RowKit

def rotC : Nat → Cell → Cell
  | 0, c => c
  | k + 1, c => ⟨-(rotC k c).y, (rotC k c).x⟩
def flipC (m : Nat) (c : Cell) : Cell := if 4 ≤ m then ⟨-c.x, c.y⟩ else c
def carryC (m : Nat) (c : Cell) : Cell := rotC (m % 4) (flipC m c)
theorem rotC_sml {b : Int} {c : Cell} (h : Sml b c) : ∀ k, Sml b (rotC k c)
  | 0 => h
  | k + 1 => by
    obtain ⟨⟨h1, h2⟩, h3, h4⟩ := rotC_sml h k
    exact ⟨⟨by simp only [rotC]; omega, by simp only [rotC]; omega⟩, ⟨by simp only [rotC]; omega, by simp only [rotC]; omega⟩⟩
theorem flipC_sml {b : Int} {c : Cell} {m : Nat} (h : Sml b c) : Sml b (flipC m c) := by
  obtain ⟨⟨h1, h2⟩, h3, h4⟩ := h
  unfold flipC
  split
  · exact ⟨⟨by simp only; omega, by simp only; omega⟩, h3, h4⟩
  · exact ⟨⟨h1, h2⟩, h3, h4⟩
theorem carryC_sml {b : Int} {c : Cell} {m : Nat} (h : Sml b c) : Sml b (carryC m c) := rotC_sml (flipC_sml h) _

set_option maxRecDepth 100000 in
set_option maxHeartbeats 1600000 in
theorem spec_apply_c (c : Cell) (m : Nat) (w : World) (hm : m < 8) (hc : Sml 100 c) :
    Calls Tryd.prog 137 #[.agg #[.int .i64 c.x, .int .i64 c.y], .int .i64 m] w fun e w' => e = .returned (.agg #[.int .i64 (carryC m c).x, .int .i64 (carryC m c).y]) ∧ Below w.heap.size w w' := by
  have HF := Lib.hid (flipC_sml (m := m) hc)
  obtain ⟨r, hr⟩ : ∃ r, r = m % 4 := ⟨_, rfl⟩
  have hr4 : r < 4 := by omega
  have d1 : Int.tmod (m : Int) 4 = (r : Int) := by rw [Int.tmod_eq_emod_of_nonneg (by omega)]; omega
  have d2 : (m : Int) % 4 = (r : Int) := by omega
  have H := (((Sep.start w).box 73 #[.int .i64 c.x, .int .i64 c.y]).box 73 #[.int .i64 0, .int .i64 0])
  simp only [World.size_alloc] at H
  have HR : Hid (carryC m c = rotC r (flipC m c)) := Lib.hid (by rw [hr]; rfl)
  obtain ⟨⟨b1, b2⟩, b3, b4⟩ := hc
  obtain ⟨g0, hg0⟩ : ∃ g, g = w.heap.size := ⟨_, rfl⟩
  obtain ⟨g1, hg1⟩ : ∃ g, g = g0 + 1 := ⟨_, rfl⟩
  rw [← hg0, ← hg1] at H
  obtain ⟨d, hd⟩ : ∃ d, d = flipC m c := ⟨_, rfl⟩
  rw [← hd] at HF HR
  have HF2 := HF
  clear hr
  by_cases h4 : 4 ≤ m
  · have HFL : Hid (d = ⟨-c.x, c.y⟩) := Lib.hid (hd.trans (if_pos h4))
    clear hd
    go_enter Tryd.func137, Tryd.ntmps137
    go_upto_region 2 with fail
    rw [← hg0, ← hg1]
    generalize (w.alloc (.cells #[.int .i64 c.x, .int .i64 c.y] 73)).alloc (.cells #[.int .i64 0, .int .i64 0] 73) = W at *
    clear hg0 hg1
    have k0 : W.cell? ⟨g0, 0, none⟩ = some (.int .i64 c.x) := H.h1.cell 0
    have f0 := H.h1.frozen 0
    have y1 : IntKind.i64.wrap (-c.x) = -c.x := IntWalk.i64_in _ (by omega)
    replace H := (H.g1.set_ 0 (.int .i64 (-c.x))).p1
    replace H : Sep w (W.setCell ⟨g0, 0, none⟩ (.int .i64 (-c.x))) [Res.box g1 73 #[.int .i64 0, .int .i64 0], Res.box g0 73 #[.int .i64 (rotC 0 d).x, .int .i64 (rotC 0 d).y]] := by rw [rotC, HFL.out]; exact H
    clear b1 b2 b3 b4
    go_wp2
    clear k0 f0 y1
    clear HF2
    go_loopw [5] (fun iv wx => ∃ i : Nat, i ≤ r ∧ iv = .int .i64 i ∧ Sep w wx [Res.box g1 73 #[.int .i64 0, .int .i64 0], Res.box g0 73 #[.int .i64 (rotC i d).x, .int .i64 (rotC i d).y]]) (fun iv _ => r - (intOf iv).toNat)
    case atStart => exact ⟨0, Nat.zero_le _, rfl, H⟩
    case round =>
      clear H
      obtain ⟨i, hir, rfl, H⟩ := hrel
      obtain ⟨e, he⟩ : ∃ e, e = rotC i d := ⟨_, rfl⟩
      rw [← he] at H
      have HE := Lib.hid he
      have hes : Sml 100 e := by rw [he]; exact rotC_sml HF.out i
      obtain ⟨⟨a1, a2⟩, a3, a4⟩ := hes
      have k0 : wr.cell? ⟨g0, 0, none⟩ = some (.int .i64 e.x) := H.h1.cell 0
      have k1 : wr.cell? ⟨g0, 1, none⟩ = some (.int .i64 e.y) := H.h1.cell 1
      clear he
      by_cases hlt : i < r
      · have f0 := H.h1.frozen 0
        have f1 := H.h1.frozen 1
        have y1 : IntKind.i64.wrap (-e.y) = -e.y := IntWalk.i64_in _ (by omega)
        have H1 := ((H.g1.set_ 0 (.int .i64 (-e.y))).set_ 1 (.int .i64 e.x)).p1
        have HN : Hid (rotC (i + 1) d = ⟨-e.y, e.x⟩) := Lib.hid (by rw [HE.out]; rfl)
        clear H
        go_wp2
        clear k0 k1 f0 f1 y1
        go_roundw
        case rel => exact ⟨i + 1, by omega, by go_num, by rw [HN.out]; exact H1⟩
        case measure => simp [intOf]; omega
      · obtain rfl : i = r := by omega
        have f0 := H.h0.frozen 0
        have f1 := H.h0.frozen 1
        have q0 : wr.cell? ⟨g1, 0, none⟩ = some (.int .i64 0) := H.h0.cell 0
        have q1 : wr.cell? ⟨g1, 1, none⟩ = some (.int .i64 0) := H.h0.cell 1
        have H1 := (H.set_ 0 (.int .i64 e.x)).set_ 1 (.int .i64 e.y)
        have hbel := H1.below
        have u0 := H1.h0.cell 0
        have u1 := H1.h0.cell 1
        have HO : Hid (carryC m c = e) := Lib.hid (by rw [HR.out, HE.out])
        clear H H1
        go_wp2
        refine bodyPost_ret (v := .agg #[.int .i64 e.x, .int .i64 e.y]) (by simp [results, Tryd.results137, go_sem, u0, u1]) rfl ⟨by rw [HO.out], hbel⟩
  · have HFL : Hid (d = c) := Lib.hid (hd.trans (if_neg h4))
    clear hd
    go_enter Tryd.func137, Tryd.ntmps137
    go_upto_region 3 with fail
    rw [← hg0, ← hg1]
    generalize (w.alloc (.cells #[.int .i64 c.x, .int .i64 c.y] 73)).alloc (.cells #[.int .i64 0, .int .i64 0] 73) = W at *
    clear hg0 hg1
    replace H : Sep w W [Res.box g1 73 #[.int .i64 0, .int .i64 0], Res.box g0 73 #[.int .i64 (rotC 0 d).x, .int .i64 (rotC 0 d).y]] := by rw [rotC, HFL.out]; exact H
    clear b1 b2 b3 b4
    go_wp2
    clear HF2
    go_loopw [5] (fun iv wx => ∃ i : Nat, i ≤ r ∧ iv = .int .i64 i ∧ Sep w wx [Res.box g1 73 #[.int .i64 0, .int .i64 0], Res.box g0 73 #[.int .i64 (rotC i d).x, .int .i64 (rotC i d).y]]) (fun iv _ => r - (intOf iv).toNat)
    case atStart => exact ⟨0, Nat.zero_le _, rfl, H⟩
    case round =>
      clear H
      obtain ⟨i, hir, rfl, H⟩ := hrel
      obtain ⟨e, he⟩ : ∃ e, e = rotC i d := ⟨_, rfl⟩
      rw [← he] at H
      have HE := Lib.hid he
      have hes : Sml 100 e := by rw [he]; exact rotC_sml HF.out i
      obtain ⟨⟨a1, a2⟩, a3, a4⟩ := hes
      have k0 : wr.cell? ⟨g0, 0, none⟩ = some (.int .i64 e.x) := H.h1.cell 0
      have k1 : wr.cell? ⟨g0, 1, none⟩ = some (.int .i64 e.y) := H.h1.cell 1
      clear he
      by_cases hlt : i < r
      · have f0 := H.h1.frozen 0
        have f1 := H.h1.frozen 1
        have y1 : IntKind.i64.wrap (-e.y) = -e.y := IntWalk.i64_in _ (by omega)
        have H1 := ((H.g1.set_ 0 (.int .i64 (-e.y))).set_ 1 (.int .i64 e.x)).p1
        have HN : Hid (rotC (i + 1) d = ⟨-e.y, e.x⟩) := Lib.hid (by rw [HE.out]; rfl)
        clear H
        go_wp2
        clear k0 k1 f0 f1 y1
        go_roundw
        case rel => exact ⟨i + 1, by omega, by go_num, by rw [HN.out]; exact H1⟩
        case measure => simp [intOf]; omega
      · obtain rfl : i = r := by omega
        have f0 := H.h0.frozen 0
        have f1 := H.h0.frozen 1
        have q0 : wr.cell? ⟨g1, 0, none⟩ = some (.int .i64 0) := H.h0.cell 0
        have q1 : wr.cell? ⟨g1, 1, none⟩ = some (.int .i64 0) := H.h0.cell 1
        have H1 := (H.set_ 0 (.int .i64 e.x)).set_ 1 (.int .i64 e.y)
        have hbel := H1.below
        have u0 := H1.h0.cell 0
        have u1 := H1.h0.cell 1
        have HO : Hid (carryC m c = e) := Lib.hid (by rw [HR.out, HE.out])
        clear H H1
        go_wp2
        refine bodyPost_ret (v := .agg #[.int .i64 e.x, .int .i64 e.y]) (by simp [results, Tryd.results137, go_sem, u0, u1]) rfl ⟨by rw [HO.out], hbel⟩
set_option maxRecDepth 100000 in
set_option maxHeartbeats 1600000 in
theorem impl_carry_c (c : Cell) (m : Nat) (w : World) (hm : m < 8) (hc : Sml 100 c) :
    Calls Tryd.prog 143 #[.agg #[.int .i64 c.x, .int .i64 c.y], .int .i64 m] w fun e w' => e = .returned (.agg #[.int .i64 (carryC m c).x, .int .i64 (carryC m c).y]) ∧ Below w.heap.size w w' := by
  have HF := Lib.hid (flipC_sml (m := m) hc)
  obtain ⟨r, hr⟩ : ∃ r, r = m % 4 := ⟨_, rfl⟩
  have hr4 : r < 4 := by omega
  have d1 : Int.tmod (m : Int) 4 = (r : Int) := by rw [Int.tmod_eq_emod_of_nonneg (by omega)]; omega
  have d2 : (m : Int) % 4 = (r : Int) := by omega
  have H := (((Sep.start w).box 73 #[.int .i64 c.x, .int .i64 c.y]).box 73 #[.int .i64 0, .int .i64 0])
  simp only [World.size_alloc] at H
  have HR : Hid (carryC m c = rotC r (flipC m c)) := Lib.hid (by rw [hr]; rfl)
  obtain ⟨⟨b1, b2⟩, b3, b4⟩ := hc
  obtain ⟨g0, hg0⟩ : ∃ g, g = w.heap.size := ⟨_, rfl⟩
  obtain ⟨g1, hg1⟩ : ∃ g, g = g0 + 1 := ⟨_, rfl⟩
  rw [← hg0, ← hg1] at H
  obtain ⟨d, hd⟩ : ∃ d, d = flipC m c := ⟨_, rfl⟩
  rw [← hd] at HF HR
  have HF2 := HF
  clear hr
  by_cases h4 : 4 ≤ m
  · have HFL : Hid (d = ⟨-c.x, c.y⟩) := Lib.hid (hd.trans (if_pos h4))
    clear hd
    go_enter Tryd.func143, Tryd.ntmps143
    go_upto_region 2 with fail
    rw [← hg0, ← hg1]
    generalize (w.alloc (.cells #[.int .i64 c.x, .int .i64 c.y] 73)).alloc (.cells #[.int .i64 0, .int .i64 0] 73) = W at *
    clear hg0 hg1
    have k0 : W.cell? ⟨g0, 0, none⟩ = some (.int .i64 c.x) := H.h1.cell 0
    have f0 := H.h1.frozen 0
    have y1 : IntKind.i64.wrap (-c.x) = -c.x := IntWalk.i64_in _ (by omega)
    replace H := (H.g1.set_ 0 (.int .i64 (-c.x))).p1
    replace H : Sep w (W.setCell ⟨g0, 0, none⟩ (.int .i64 (-c.x))) [Res.box g1 73 #[.int .i64 0, .int .i64 0], Res.box g0 73 #[.int .i64 (rotC 0 d).x, .int .i64 (rotC 0 d).y]] := by rw [rotC, HFL.out]; exact H
    clear b1 b2 b3 b4
    go_wp2
    clear k0 f0 y1
    clear HF2
    go_loopw [13] (fun iv wx => ∃ i : Nat, i ≤ r ∧ iv = .int .i64 i ∧ Sep w wx [Res.box g1 73 #[.int .i64 0, .int .i64 0], Res.box g0 73 #[.int .i64 (rotC i d).x, .int .i64 (rotC i d).y]]) (fun iv _ => r - (intOf iv).toNat)
    case atStart => exact ⟨0, Nat.zero_le _, rfl, H⟩
    case round =>
      clear H
      obtain ⟨i, hir, rfl, H⟩ := hrel
      obtain ⟨e, he⟩ : ∃ e, e = rotC i d := ⟨_, rfl⟩
      rw [← he] at H
      have HE := Lib.hid he
      have hes : Sml 100 e := by rw [he]; exact rotC_sml HF.out i
      obtain ⟨⟨a1, a2⟩, a3, a4⟩ := hes
      have k0 : wr.cell? ⟨g0, 0, none⟩ = some (.int .i64 e.x) := H.h1.cell 0
      have k1 : wr.cell? ⟨g0, 1, none⟩ = some (.int .i64 e.y) := H.h1.cell 1
      clear he
      by_cases hlt : i < r
      · have f0 := H.h1.frozen 0
        have f1 := H.h1.frozen 1
        have y1 : IntKind.i64.wrap (-e.y) = -e.y := IntWalk.i64_in _ (by omega)
        have H1 := ((H.g1.set_ 0 (.int .i64 (-e.y))).set_ 1 (.int .i64 e.x)).p1
        have HN : Hid (rotC (i + 1) d = ⟨-e.y, e.x⟩) := Lib.hid (by rw [HE.out]; rfl)
        clear H
        go_wp2
        clear k0 k1 f0 f1 y1
        go_roundw
        case rel => exact ⟨i + 1, by omega, by go_num, by rw [HN.out]; exact H1⟩
        case measure => simp [intOf]; omega
      · obtain rfl : i = r := by omega
        have f0 := H.h0.frozen 0
        have f1 := H.h0.frozen 1
        have q0 : wr.cell? ⟨g1, 0, none⟩ = some (.int .i64 0) := H.h0.cell 0
        have q1 : wr.cell? ⟨g1, 1, none⟩ = some (.int .i64 0) := H.h0.cell 1
        have H1 := (H.set_ 0 (.int .i64 e.x)).set_ 1 (.int .i64 e.y)
        have hbel := H1.below
        have u0 := H1.h0.cell 0
        have u1 := H1.h0.cell 1
        have HO : Hid (carryC m c = e) := Lib.hid (by rw [HR.out, HE.out])
        clear H H1
        go_wp2
        refine bodyPost_ret (v := .agg #[.int .i64 e.x, .int .i64 e.y]) (by simp [results, Tryd.results143, go_sem, u0, u1]) rfl ⟨by rw [HO.out], hbel⟩
  · have HFL : Hid (d = c) := Lib.hid (hd.trans (if_neg h4))
    clear hd
    go_enter Tryd.func143, Tryd.ntmps143
    go_upto_region 3 with fail
    rw [← hg0, ← hg1]
    generalize (w.alloc (.cells #[.int .i64 c.x, .int .i64 c.y] 73)).alloc (.cells #[.int .i64 0, .int .i64 0] 73) = W at *
    clear hg0 hg1
    replace H : Sep w W [Res.box g1 73 #[.int .i64 0, .int .i64 0], Res.box g0 73 #[.int .i64 (rotC 0 d).x, .int .i64 (rotC 0 d).y]] := by rw [rotC, HFL.out]; exact H
    clear b1 b2 b3 b4
    go_wp2
    clear HF2
    go_loopw [13] (fun iv wx => ∃ i : Nat, i ≤ r ∧ iv = .int .i64 i ∧ Sep w wx [Res.box g1 73 #[.int .i64 0, .int .i64 0], Res.box g0 73 #[.int .i64 (rotC i d).x, .int .i64 (rotC i d).y]]) (fun iv _ => r - (intOf iv).toNat)
    case atStart => exact ⟨0, Nat.zero_le _, rfl, H⟩
    case round =>
      clear H
      obtain ⟨i, hir, rfl, H⟩ := hrel
      obtain ⟨e, he⟩ : ∃ e, e = rotC i d := ⟨_, rfl⟩
      rw [← he] at H
      have HE := Lib.hid he
      have hes : Sml 100 e := by rw [he]; exact rotC_sml HF.out i
      obtain ⟨⟨a1, a2⟩, a3, a4⟩ := hes
      have k0 : wr.cell? ⟨g0, 0, none⟩ = some (.int .i64 e.x) := H.h1.cell 0
      have k1 : wr.cell? ⟨g0, 1, none⟩ = some (.int .i64 e.y) := H.h1.cell 1
      clear he
      by_cases hlt : i < r
      · have f0 := H.h1.frozen 0
        have f1 := H.h1.frozen 1
        have y1 : IntKind.i64.wrap (-e.y) = -e.y := IntWalk.i64_in _ (by omega)
        have H1 := ((H.g1.set_ 0 (.int .i64 (-e.y))).set_ 1 (.int .i64 e.x)).p1
        have HN : Hid (rotC (i + 1) d = ⟨-e.y, e.x⟩) := Lib.hid (by rw [HE.out]; rfl)
        clear H
        go_wp2
        clear k0 k1 f0 f1 y1
        go_roundw
        case rel => exact ⟨i + 1, by omega, by go_num, by rw [HN.out]; exact H1⟩
        case measure => simp [intOf]; omega
      · obtain rfl : i = r := by omega
        have f0 := H.h0.frozen 0
        have f1 := H.h0.frozen 1
        have q0 : wr.cell? ⟨g1, 0, none⟩ = some (.int .i64 0) := H.h0.cell 0
        have q1 : wr.cell? ⟨g1, 1, none⟩ = some (.int .i64 0) := H.h0.cell 1
        have H1 := (H.set_ 0 (.int .i64 e.x)).set_ 1 (.int .i64 e.y)
        have hbel := H1.below
        have u0 := H1.h0.cell 0
        have u1 := H1.h0.cell 1
        have HO : Hid (carryC m c = e) := Lib.hid (by rw [HR.out, HE.out])
        clear H H1
        go_wp2
        refine bodyPost_ret (v := .agg #[.int .i64 e.x, .int .i64 e.y]) (by simp [results, Tryd.results143, go_sem, u0, u1]) rfl ⟨by rw [HO.out], hbel⟩
end Go.Proofs.YtdbneilhgckhjaaDoor
