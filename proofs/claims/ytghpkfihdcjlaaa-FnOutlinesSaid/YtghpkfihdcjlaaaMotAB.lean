
/-
  Motions: a cell carried by one: the walks of both sides. Cells put in order, each once. Plain.
-/
import Derived.Test.YtghpkfihdcjlaaaShpX
import Derived.Deep.DeepCutAuto
namespace Go.Proofs.Ytghpkfihdcjlaaa
open Go.RowKit

def rotC : Nat → Cell → Cell
  | 0, c => c
  | k + 1, c => ⟨-(rotC k c).y, (rotC k c).x⟩
def flipC (m : Nat) (c : Cell) : Cell := if 4 ≤ m then ⟨-c.x, c.y⟩ else c
def carryC (m : Nat) (c : Cell) : Cell := rotC (m % 4) (flipC m c)
theorem rotC_sml {b : Int} {c : Cell} (h : Sml b c) : ∀ k, Sml b (rotC k c)
  | 0 => h
  | k + 1 => by
    obtain ⟨⟨h1, h2⟩, h3, h4⟩ := rotC_sml h k
    exact ⟨⟨by simp only [rotC]; omega, by simp only [rotC]; omega⟩, ⟨by simp only [rotC]; omega, by simp only [rotC]; omega⟩⟩
theorem flipC_sml {b : Int} {c : Cell} {m : Nat} (h : Sml b c) : Sml b (flipC m c) := by
  obtain ⟨⟨h1, h2⟩, h3, h4⟩ := h
  unfold flipC
  split
  · exact ⟨⟨by simp only; omega, by simp only; omega⟩, h3, h4⟩
  · exact ⟨⟨h1, h2⟩, h3, h4⟩
theorem carryC_sml {b : Int} {c : Cell} {m : Nat} (h : Sml b c) : Sml b (carryC m c) := rotC_sml (flipC_sml h) _

set_option maxRecDepth 100000 in
set_option maxHeartbeats 1600000 in
theorem spec_apply_c (c : Cell) (m : Nat) (w : World) (hm : m < 8) (hc : Sml 100 c) :
    Calls Try.prog 66 #[.agg #[.int .i64 c.x, .int .i64 c.y], .int .i64 m] w fun e w' => e = .returned (.agg #[.int .i64 (carryC m c).x, .int .i64 (carryC m c).y]) ∧ Below w.heap.size w w' := by
  have HF := Lib.hid (flipC_sml (m := m) hc)
  obtain ⟨r, hr⟩ : ∃ r, r = m % 4 := ⟨_, rfl⟩
  have hr4 : r < 4 := by omega
  have d1 : Int.tmod (m : Int) 4 = (r : Int) := by rw [Int.tmod_eq_emod_of_nonneg (by omega)]; omega
  have d2 : (m : Int) % 4 = (r : Int) := by omega
  have H := (((Sep.start w).box 41 #[.int .i64 c.x, .int .i64 c.y]).box 41 #[.int .i64 0, .int .i64 0])
  simp only [World.size_alloc] at H
  have HR : Hid (carryC m c = rotC r (flipC m c)) := Lib.hid (by rw [hr]; rfl)
  obtain ⟨⟨b1, b2⟩, b3, b4⟩ := hc
  obtain ⟨g0, hg0⟩ : ∃ g, g = w.heap.size := ⟨_, rfl⟩
  obtain ⟨g1, hg1⟩ : ∃ g, g = g0 + 1 := ⟨_, rfl⟩
  rw [← hg0, ← hg1] at H
  obtain ⟨d, hd⟩ : ∃ d, d = flipC m c := ⟨_, rfl⟩
  rw [← hd] at HF HR
  have HF2 := HF
  clear hr
  by_cases h4 : 4 ≤ m
  · have HFL : Hid (d = ⟨-c.x, c.y⟩) := Lib.hid (hd.trans (if_pos h4))
    clear hd
    go_enter Try.func66, Try.ntmps66
    go_upto_region 2 with fail
    rw [← hg0, ← hg1]
    generalize (w.alloc (.cells #[.int .i64 c.x, .int .i64 c.y] 41)).alloc (.cells #[.int .i64 0, .int .i64 0] 41) = W at *
    clear hg0 hg1
    have k0 : W.cell? ⟨g0, 0, none⟩ = some (.int .i64 c.x) := H.h1.cell 0
    have f0 := H.h1.frozen 0
    have y1 : IntKind.i64.wrap (-c.x) = -c.x := IntWalk.i64_in _ (by omega)
    replace H := (H.g1.set_ 0 (.int .i64 (-c.x))).p1
    replace H : Sep w (W.setCell ⟨g0, 0, none⟩ (.int .i64 (-c.x))) [Res.box g1 41 #[.int .i64 0, .int .i64 0], Res.box g0 41 #[.int .i64 (rotC 0 d).x, .int .i64 (rotC 0 d).y]] := by rw [rotC, HFL.out]; exact H
    clear b1 b2 b3 b4
    go_wp2
    clear k0 f0 y1
    clear HF2
    go_loopw [5] (fun iv wx => ∃ i : Nat, i ≤ r ∧ iv = .int .i64 i ∧ Sep w wx [Res.box g1 41 #[.int .i64 0, .int .i64 0], Res.box g0 41 #[.int .i64 (rotC i d).x, .int .i64 (rotC i d).y]]) (fun iv _ => r - (intOf iv).toNat)
    case atStart => exact ⟨0, Nat.zero_le _, rfl, H⟩
    case round =>
      clear H
      obtain ⟨i, hir, rfl, H⟩ := hrel
      obtain ⟨e, he⟩ : ∃ e, e = rotC i d := ⟨_, rfl⟩
      rw [← he] at H
      have HE := Lib.hid he
      have hes : Sml 100 e := by rw [he]; exact rotC_sml HF.out i
      obtain ⟨⟨a1, a2⟩, a3, a4⟩ := hes
      have k0 : wr.cell? ⟨g0, 0, none⟩ = some (.int .i64 e.x) := H.h1.cell 0
      have k1 : wr.cell? ⟨g0, 1, none⟩ = some (.int .i64 e.y) := H.h1.cell 1
      clear he
      by_cases hlt : i < r
      · have f0 := H.h1.frozen 0
        have f1 := H.h1.frozen 1
        have y1 : IntKind.i64.wrap (-e.y) = -e.y := IntWalk.i64_in _ (by omega)
        have H1 := ((H.g1.set_ 0 (.int .i64 (-e.y))).set_ 1 (.int .i64 e.x)).p1
        have HN : Hid (rotC (i + 1) d = ⟨-e.y, e.x⟩) := Lib.hid (by rw [HE.out]; rfl)
        clear H
        go_wp2
        clear k0 k1 f0 f1 y1
        go_roundw
        case rel => exact ⟨i + 1, by omega, by go_num, by rw [HN.out]; exact H1⟩
        case measure => simp [intOf]; omega
      · obtain rfl : i = r := by omega
        have f0 := H.h0.frozen 0
        have f1 := H.h0.frozen 1
        have q0 : wr.cell? ⟨g1, 0, none⟩ = some (.int .i64 0) := H.h0.cell 0
        have q1 : wr.cell? ⟨g1, 1, none⟩ = some (.int .i64 0) := H.h0.cell 1
        have H1 := (H.set_ 0 (.int .i64 e.x)).set_ 1 (.int .i64 e.y)
        have hbel := H1.below
        have u0 := H1.h0.cell 0
        have u1 := H1.h0.cell 1
        have HO : Hid (carryC m c = e) := Lib.hid (by rw [HR.out, HE.out])
        clear H H1
        go_wp2
        refine bodyPost_ret (v := .agg #[.int .i64 e.x, .int .i64 e.y]) (by simp [results, Try.results66, go_sem, u0, u1]) rfl ⟨by rw [HO.out], hbel⟩
  · have HFL : Hid (d = c) := Lib.hid (hd.trans (if_neg h4))
    clear hd
    go_enter Try.func66, Try.ntmps66
    go_upto_region 3 with fail
    rw [← hg0, ← hg1]
    generalize (w.alloc (.cells #[.int .i64 c.x, .int .i64 c.y] 41)).alloc (.cells #[.int .i64 0, .int .i64 0] 41) = W at *
    clear hg0 hg1
    replace H : Sep w W [Res.box g1 41 #[.int .i64 0, .int .i64 0], Res.box g0 41 #[.int .i64 (rotC 0 d).x, .int .i64 (rotC 0 d).y]] := by rw [rotC, HFL.out]; exact H
    clear b1 b2 b3 b4
    go_wp2
    clear HF2
    go_loopw [5] (fun iv wx => ∃ i : Nat, i ≤ r ∧ iv = .int .i64 i ∧ Sep w wx [Res.box g1 41 #[.int .i64 0, .int .i64 0], Res.box g0 41 #[.int .i64 (rotC i d).x, .int .i64 (rotC i d).y]]) (fun iv _ => r - (intOf iv).toNat)
    case atStart => exact ⟨0, Nat.zero_le _, rfl, H⟩
    case round =>
      clear H
      obtain ⟨i, hir, rfl, H⟩ := hrel
      obtain ⟨e, he⟩ : ∃ e, e = rotC i d := ⟨_, rfl⟩
      rw [← he] at H
      have HE := Lib.hid he
      have hes : Sml 100 e := by rw [he]; exact rotC_sml HF.out i
      obtain ⟨⟨a1, a2⟩, a3, a4⟩ := hes
      have k0 : wr.cell? ⟨g0, 0, none⟩ = some (.int .i64 e.x) := H.h1.cell 0
      have k1 : wr.cell? ⟨g0, 1, none⟩ = some (.int .i64 e.y) := H.h1.cell 1
      clear he
      by_cases hlt : i < r
      · have f0 := H.h1.frozen 0
        have f1 := H.h1.frozen 1
        have y1 : IntKind.i64.wrap (-e.y) = -e.y := IntWalk.i64_in _ (by omega)
        have H1 := ((H.g1.set_ 0 (.int .i64 (-e.y))).set_ 1 (.int .i64 e.x)).p1
        have HN : Hid (rotC (i + 1) d = ⟨-e.y, e.x⟩) := Lib.hid (by rw [HE.out]; rfl)
        clear H
        go_wp2
        clear k0 k1 f0 f1 y1
        go_roundw
        case rel => exact ⟨i + 1, by omega, by go_num, by rw [HN.out]; exact H1⟩
        case measure => simp [intOf]; omega
      · obtain rfl : i = r := by omega
        have f0 := H.h0.frozen 0
        have f1 := H.h0.frozen 1
        have q0 : wr.cell? ⟨g1, 0, none⟩ = some (.int .i64 0) := H.h0.cell 0
        have q1 : wr.cell? ⟨g1, 1, none⟩ = some (.int .i64 0) := H.h0.cell 1
        have H1 := (H.set_ 0 (.int .i64 e.x)).set_ 1 (.int .i64 e.y)
        have hbel := H1.below
        have u0 := H1.h0.cell 0
        have u1 := H1.h0.cell 1
        have HO : Hid (carryC m c = e) := Lib.hid (by rw [HR.out, HE.out])
        clear H H1
        go_wp2
        refine bodyPost_ret (v := .agg #[.int .i64 e.x, .int .i64 e.y]) (by simp [results, Try.results66, go_sem, u0, u1]) rfl ⟨by rw [HO.out], hbel⟩
set_option maxRecDepth 100000 in
set_option maxHeartbeats 1600000 in
theorem impl_carry_c (c : Cell) (m : Nat) (w : World) (hm : m < 8) (hc : Sml 100 c) :
    Calls Try.prog 65 #[.agg #[.int .i64 c.x, .int .i64 c.y], .int .i64 m] w fun e w' => e = .returned (.agg #[.int .i64 (carryC m c).x, .int .i64 (carryC m c).y]) ∧ Below w.heap.size w w' := by
  have HF := Lib.hid (flipC_sml (m := m) hc)
  obtain ⟨r, hr⟩ : ∃ r, r = m % 4 := ⟨_, rfl⟩
  have hr4 : r < 4 := by omega
  have d1 : Int.tmod (m : Int) 4 = (r : Int) := by rw [Int.tmod_eq_emod_of_nonneg (by omega)]; omega
  have d2 : (m : Int) % 4 = (r : Int) := by omega
  have H := (((Sep.start w).box 41 #[.int .i64 c.x, .int .i64 c.y]).box 41 #[.int .i64 0, .int .i64 0])
  simp only [World.size_alloc] at H
  have HR : Hid (carryC m c = rotC r (flipC m c)) := Lib.hid (by rw [hr]; rfl)
  obtain ⟨⟨b1, b2⟩, b3, b4⟩ := hc
  obtain ⟨g0, hg0⟩ : ∃ g, g = w.heap.size := ⟨_, rfl⟩
  obtain ⟨g1, hg1⟩ : ∃ g, g = g0 + 1 := ⟨_, rfl⟩
  rw [← hg0, ← hg1] at H
  obtain ⟨d, hd⟩ : ∃ d, d = flipC m c := ⟨_, rfl⟩
  rw [← hd] at HF HR
  have HF2 := HF
  clear hr
  by_cases h4 : 4 ≤ m
  · have HFL : Hid (d = ⟨-c.x, c.y⟩) := Lib.hid (hd.trans (if_pos h4))
    clear hd
    go_enter Try.func65, Try.ntmps65
    go_upto_region 2 with fail
    rw [← hg0, ← hg1]
    generalize (w.alloc (.cells #[.int .i64 c.x, .int .i64 c.y] 41)).alloc (.cells #[.int .i64 0, .int .i64 0] 41) = W at *
    clear hg0 hg1
    have k0 : W.cell? ⟨g0, 0, none⟩ = some (.int .i64 c.x) := H.h1.cell 0
    have f0 := H.h1.frozen 0
    have y1 : IntKind.i64.wrap (-c.x) = -c.x := IntWalk.i64_in _ (by omega)
    replace H := (H.g1.set_ 0 (.int .i64 (-c.x))).p1
    replace H : Sep w (W.setCell ⟨g0, 0, none⟩ (.int .i64 (-c.x))) [Res.box g1 41 #[.int .i64 0, .int .i64 0], Res.box g0 41 #[.int .i64 (rotC 0 d).x, .int .i64 (rotC 0 d).y]] := by rw [rotC, HFL.out]; exact H
    clear b1 b2 b3 b4
    go_wp2
    clear k0 f0 y1
    clear HF2
    go_loopw [13] (fun iv wx => ∃ i : Nat, i ≤ r ∧ iv = .int .i64 i ∧ Sep w wx [Res.box g1 41 #[.int .i64 0, .int .i64 0], Res.box g0 41 #[.int .i64 (rotC i d).x, .int .i64 (rotC i d).y]]) (fun iv _ => r - (intOf iv).toNat)
    case atStart => exact ⟨0, Nat.zero_le _, rfl, H⟩
    case round =>
      clear H
      obtain ⟨i, hir, rfl, H⟩ := hrel
      obtain ⟨e, he⟩ : ∃ e, e = rotC i d := ⟨_, rfl⟩
      rw [← he] at H
      have HE := Lib.hid he
      have hes : Sml 100 e := by rw [he]; exact rotC_sml HF.out i
      obtain ⟨⟨a1, a2⟩, a3, a4⟩ := hes
      have k0 : wr.cell? ⟨g0, 0, none⟩ = some (.int .i64 e.x) := H.h1.cell 0
      have k1 : wr.cell? ⟨g0, 1, none⟩ = some (.int .i64 e.y) := H.h1.cell 1
      clear he
      by_cases hlt : i < r
      · have f0 := H.h1.frozen 0
        have f1 := H.h1.frozen 1
        have y1 : IntKind.i64.wrap (-e.y) = -e.y := IntWalk.i64_in _ (by omega)
        have H1 := ((H.g1.set_ 0 (.int .i64 (-e.y))).set_ 1 (.int .i64 e.x)).p1
        have HN : Hid (rotC (i + 1) d = ⟨-e.y, e.x⟩) := Lib.hid (by rw [HE.out]; rfl)
        clear H
        go_wp2
        clear k0 k1 f0 f1 y1
        go_roundw
        case rel => exact ⟨i + 1, by omega, by go_num, by rw [HN.out]; exact H1⟩
        case measure => simp [intOf]; omega
      · obtain rfl : i = r := by omega
        have f0 := H.h0.frozen 0
        have f1 := H.h0.frozen 1
        have q0 : wr.cell? ⟨g1, 0, none⟩ = some (.int .i64 0) := H.h0.cell 0
        have q1 : wr.cell? ⟨g1, 1, none⟩ = some (.int .i64 0) := H.h0.cell 1
        have H1 := (H.set_ 0 (.int .i64 e.x)).set_ 1 (.int .i64 e.y)
        have hbel := H1.below
        have u0 := H1.h0.cell 0
        have u1 := H1.h0.cell 1
        have HO : Hid (carryC m c = e) := Lib.hid (by rw [HR.out, HE.out])
        clear H H1
        go_wp2
        refine bodyPost_ret (v := .agg #[.int .i64 e.x, .int .i64 e.y]) (by simp [results, Try.results65, go_sem, u0, u1]) rfl ⟨by rw [HO.out], hbel⟩
  · have HFL : Hid (d = c) := Lib.hid (hd.trans (if_neg h4))
    clear hd
    go_enter Try.func65, Try.ntmps65
    go_upto_region 3 with fail
    rw [← hg0, ← hg1]
    generalize (w.alloc (.cells #[.int .i64 c.x, .int .i64 c.y] 41)).alloc (.cells #[.int .i64 0, .int .i64 0] 41) = W at *
    clear hg0 hg1
    replace H : Sep w W [Res.box g1 41 #[.int .i64 0, .int .i64 0], Res.box g0 41 #[.int .i64 (rotC 0 d).x, .int .i64 (rotC 0 d).y]] := by rw [rotC, HFL.out]; exact H
    clear b1 b2 b3 b4
    go_wp2
    clear HF2
    go_loopw [13] (fun iv wx => ∃ i : Nat, i ≤ r ∧ iv = .int .i64 i ∧ Sep w wx [Res.box g1 41 #[.int .i64 0, .int .i64 0], Res.box g0 41 #[.int .i64 (rotC i d).x, .int .i64 (rotC i d).y]]) (fun iv _ => r - (intOf iv).toNat)
    case atStart => exact ⟨0, Nat.zero_le _, rfl, H⟩
    case round =>
      clear H
      obtain ⟨i, hir, rfl, H⟩ := hrel
      obtain ⟨e, he⟩ : ∃ e, e = rotC i d := ⟨_, rfl⟩
      rw [← he] at H
      have HE := Lib.hid he
      have hes : Sml 100 e := by rw [he]; exact rotC_sml HF.out i
      obtain ⟨⟨a1, a2⟩, a3, a4⟩ := hes
      have k0 : wr.cell? ⟨g0, 0, none⟩ = some (.int .i64 e.x) := H.h1.cell 0
      have k1 : wr.cell? ⟨g0, 1, none⟩ = some (.int .i64 e.y) := H.h1.cell 1
      clear he
      by_cases hlt : i < r
      · have f0 := H.h1.frozen 0
        have f1 := H.h1.frozen 1
        have y1 : IntKind.i64.wrap (-e.y) = -e.y := IntWalk.i64_in _ (by omega)
        have H1 := ((H.g1.set_ 0 (.int .i64 (-e.y))).set_ 1 (.int .i64 e.x)).p1
        have HN : Hid (rotC (i + 1) d = ⟨-e.y, e.x⟩) := Lib.hid (by rw [HE.out]; rfl)
        clear H
        go_wp2
        clear k0 k1 f0 f1 y1
        go_roundw
        case rel => exact ⟨i + 1, by omega, by go_num, by rw [HN.out]; exact H1⟩
        case measure => simp [intOf]; omega
      · obtain rfl : i = r := by omega
        have f0 := H.h0.frozen 0
        have f1 := H.h0.frozen 1
        have q0 : wr.cell? ⟨g1, 0, none⟩ = some (.int .i64 0) := H.h0.cell 0
        have q1 : wr.cell? ⟨g1, 1, none⟩ = some (.int .i64 0) := H.h0.cell 1
        have H1 := (H.set_ 0 (.int .i64 e.x)).set_ 1 (.int .i64 e.y)
        have hbel := H1.below
        have u0 := H1.h0.cell 0
        have u1 := H1.h0.cell 1
        have HO : Hid (carryC m c = e) := Lib.hid (by rw [HR.out, HE.out])
        clear H H1
        go_wp2
        refine bodyPost_ret (v := .agg #[.int .i64 e.x, .int .i64 e.y]) (by simp [results, Try.results65, go_sem, u0, u1]) rfl ⟨by rw [HO.out], hbel⟩
end Go.Proofs.Ytghpkfihdcjlaaa

namespace Go.Proofs.Ytghpkfihdcjlaaa
open Go.RowKit

def Srt (l : List Cell) : Prop := l.Pairwise fun a b => befB a b = true
theorem bef_iff {a b : Cell} : befB a b = true ↔ a.y < b.y ∨ (a.y = b.y ∧ a.x < b.x) := by simp [befB]
theorem bef_tri (a b : Cell) : befB a b = true ∨ a = b ∨ befB b a = true := by
  rw [bef_iff, bef_iff]
  by_cases h : a = b
  · exact .inr (.inl h)
  · obtain ⟨ax, ay⟩ := a
    obtain ⟨bx, by'⟩ := b
    simp only [Cell.mk.injEq] at h
    simp only
    omega
theorem bef_asym {a b : Cell} (h : befB a b = true) : befB b a = false := by
  cases hb : befB b a
  · rfl
  · rw [bef_iff] at h hb; omega
theorem srt_ext : ∀ {a b : List Cell}, Srt a → Srt b → (∀ c, c ∈ a ↔ c ∈ b) → a = b
  | [], [], _, _, _ => rfl
  | [], y :: b, _, _, h => by have := (h y).2 List.mem_cons_self; simp at this
  | x :: a, [], _, _, h => by have := (h x).1 List.mem_cons_self; simp at this
  | x :: a, y :: b, ha, hb, h => by
    have ha' := List.pairwise_cons.1 ha
    have hb' := List.pairwise_cons.1 hb
    have hxy : x = y := by
      rcases List.mem_cons.1 ((h x).1 List.mem_cons_self) with e | hx
      · exact e
      · rcases List.mem_cons.1 ((h y).2 List.mem_cons_self) with e | hy
        · exact e.symm
        · have h1 := hb'.1 x hx
          rw [bef_asym (ha'.1 y hy)] at h1
          cases h1
    subst hxy
    congr 1
    refine srt_ext ha'.2 hb'.2 fun c => ?_
    have hc := h c
    rw [List.mem_cons, List.mem_cons] at hc
    constructor
    · intro hm
      rcases hc.1 (.inr hm) with rfl | hm'
      · have := ha'.1 c hm; rw [bef_irr] at this; cases this
      · exact hm'
    · intro hm
      rcases hc.2 (.inr hm) with rfl | hm'
      · have := hb'.1 c hm; rw [bef_irr] at this; cases this
      · exact hm'
def insC (c : Cell) (l : List Cell) : List Cell := l.filter (fun d => befB d c) ++ c :: l.filter (fun d => befB c d)
theorem mem_insC {c d : Cell} {l : List Cell} : d ∈ insC c l ↔ d = c ∨ d ∈ l := by
  unfold insC
  rw [List.mem_append, List.mem_cons, List.mem_filter, List.mem_filter]
  constructor
  · rintro (h | h | h)
    · exact .inr h.1
    · exact .inl h
    · exact .inr h.1
  · rintro (h | h)
    · exact .inr (.inl h)
    · rcases bef_tri d c with hb | rfl | hb
      · exact .inl ⟨h, hb⟩
      · exact .inr (.inl rfl)
      · exact .inr (.inr ⟨h, hb⟩)
theorem srt_insC {c : Cell} {l : List Cell} (h : Srt l) : Srt (insC c l) := by
  unfold insC Srt
  rw [List.pairwise_append, List.pairwise_cons]
  refine ⟨h.filter _, ⟨fun d hd => (List.mem_filter.1 hd).2, h.filter _⟩, fun a ha b hb => ?_⟩
  have h1 := (List.mem_filter.1 ha).2
  rcases List.mem_cons.1 hb with rfl | hb
  · exact h1
  · exact bef_trans h1 (List.mem_filter.1 hb).2
def sortC (s : List Cell) : List Cell := s.foldl (fun l c => insC c l) []
theorem sortC_snoc {s : List Cell} {c : Cell} : sortC (s ++ [c]) = insC c (sortC s) := by simp [sortC]
theorem fold_srt : ∀ (s l : List Cell), Srt l → Srt (s.foldl (fun l c => insC c l) l) ∧ ∀ d, d ∈ s.foldl (fun l c => insC c l) l ↔ d ∈ s ∨ d ∈ l
  | [], l, h => ⟨h, fun d => by simp⟩
  | c :: s, l, h => by
    have ih := fold_srt s (insC c l) (srt_insC h)
    refine ⟨ih.1, fun d => (ih.2 d).trans ?_⟩
    rw [mem_insC, List.mem_cons]
    constructor
    · rintro (h | h | h)
      · exact .inl (.inr h)
      · exact .inl (.inl h)
      · exact .inr h
    · rintro ((h | h) | h)
      · exact .inr (.inl h)
      · exact .inl h
      · exact .inr (.inr h)
theorem srt_sortC {s : List Cell} : Srt (sortC s) := (fold_srt s [] List.Pairwise.nil).1
theorem mem_sortC {s : List Cell} {d : Cell} : d ∈ sortC s ↔ d ∈ s := by
  have := (fold_srt s [] List.Pairwise.nil).2 d
  simpa [sortC] using this
theorem sortC_is {s l : List Cell} (h : Srt l) (hm : ∀ c, c ∈ l ↔ c ∈ s) : sortC s = l := srt_ext srt_sortC h fun c => mem_sortC.trans (hm c).symm
theorem insC_has {c : Cell} {l : List Cell} (h : Srt l) (hc : c ∈ l) : insC c l = l := srt_ext (srt_insC h) h fun d => by
  rw [mem_insC]
  constructor
  · rintro (rfl | h)
    · exact hc
    · exact h
  · exact .inr
theorem srt_nodup {l : List Cell} (h : Srt l) : l.Nodup := h.imp fun {a b} hab e => by subst e; rw [bef_irr] at hab; cases hab
theorem srt_lt {l : List Cell} (h : Srt l) {i j : Nat} {a b : Cell} (hij : i < j) (ha : l[i]? = some a) (hb : l[j]? = some b) : befB a b = true := by
  obtain ⟨hi, rfl⟩ := List.getElem?_eq_some_iff.1 ha
  obtain ⟨hj, rfl⟩ := List.getElem?_eq_some_iff.1 hb
  exact List.pairwise_iff_getElem.1 h i j hi hj hij
/-- where the walk puts c -/
theorem insC_at {c : Cell} {l : List Cell} {k : Nat} (h : Srt l) (h1 : ∀ (j : Nat) (d : Cell), k ≤ j → l[j]? = some d → befB c d = true) (h2 : ∀ (j : Nat) (d : Cell), j < k → l[j]? = some d → befB d c = true) : insC c l = l.take k ++ c :: l.drop k := by
  have hd : ∀ d ∈ l.drop k, befB c d = true := fun d hd => by
    obtain ⟨j, hj⟩ := List.getElem?_of_mem hd
    rw [List.getElem?_drop] at hj
    exact h1 (k + j) d (by omega) hj
  have ht : ∀ d ∈ l.take k, befB d c = true := fun d hd => by
    obtain ⟨j, hj⟩ := List.getElem?_of_mem hd
    rw [List.getElem?_take] at hj
    split at hj
    · exact h2 j d (by assumption) hj
    · cases hj
  refine srt_ext (srt_insC h) ?_ fun d => ?_
  · unfold Srt
    rw [List.pairwise_append, List.pairwise_cons]
    refine ⟨h.take, ⟨hd, h.drop⟩, fun a ha b hb => ?_⟩
    rcases List.mem_cons.1 hb with rfl | hb
    · exact ht a ha
    · exact bef_trans (ht a ha) (hd b hb)
  · rw [mem_insC, List.mem_append, List.mem_cons]
    constructor
    · rintro (rfl | hm)
      · exact .inr (.inl rfl)
      · rw [← List.take_append_drop k l, List.mem_append] at hm
        rcases hm with hm | hm
        · exact .inl hm
        · exact .inr (.inr hm)
    · rintro (hm | rfl | hm)
      · exact .inr (List.mem_of_mem_take hm)
      · exact .inl rfl
      · exact .inr (List.mem_of_mem_drop hm)
theorem sortC_len {s : List Cell} : (sortC s).length ≤ s.length := nodup_len (srt_nodup srt_sortC) fun _ h => mem_sortC.1 h
end Go.Proofs.Ytghpkfihdcjlaaa
