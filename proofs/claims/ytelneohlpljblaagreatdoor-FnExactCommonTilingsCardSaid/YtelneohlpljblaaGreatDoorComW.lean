
/-
  Do two shapes tile a region? Both walks.
-/
import Derived.Test.YtelneohlpljblaaGreatDoorFtS
namespace Go.Proofs.YtelneohlpljblaaGreatDoor
open Go.RowKit

theorem one_ssRd {w : World} {g : Nat} {x : Value} {s : List Cell} (hb : Blk w g 29 #[x]) (hx : CellsRd w 0 w.heap.size x s) : CellSSRd w 0 w.heap.size (.slice (some ⟨g, 0, none⟩) 1 1) [s] := by
  refine ⟨[x], ⟨_, _, rfl, by show 1 ≤ maxLen; decide, rfl, fun _ => ⟨g, 0, rfl, Nat.zero_le _, hb.lt, fun j u hu => ?_⟩⟩, rfl, fun i u hu => ?_⟩
  · rw [hb.cell]
    simpa using hu
  · match i, hu with
    | 0, hu => simp at hu; subst hu; exact ⟨x, rfl, hx⟩
def comR (a b : List Cell) (r : Reg) : Bool := findB r [a] && findB r [b]
theorem comR_no {a b : List Cell} {r : Reg} (h : findB r [a] = false) : comR a b r = false := by unfold comR; rw [h]; rfl
theorem comR_yes {a b : List Cell} {r : Reg} (h : findB r [a] = true) : comR a b r = findB r [b] := by unfold comR; rw [h]; rfl
set_option maxRecDepth 100000 in
set_option maxHeartbeats 400000 in
theorem spec_comR_c {va vb v : Value} {a b : List Cell} {r : Reg} (w : World) (ha : CellsRd w 0 w.heap.size va a) (hb : CellsRd w 0 w.heap.size vb b) (h : RegRd w 0 w.heap.size v r) (hla : a.length ≤ 1048576) (hlb : b.length ≤ 1048576)  :
    Calls Tryz.prog 12 #[va, vb, v] w fun e w' => e = .returned (.bool (comR a b r)) ∧ Below w.heap.size w w' := by
  have HT : Hid (∀ w1 g x s, Below w.heap.size w w1 → s.length ≤ 1048576 → CellsRd w 0 w.heap.size x s → Blk w1 g 29 #[x] → Calls Tryz.prog 42 #[v, .slice (some ⟨g, 0, none⟩) 1 1] w1 fun e w' => e = .returned (.bool (findB r [s])) ∧ Below w1.heap.size w1 w') := Lib.hid fun w1 g x s b1 hs hx hbk =>
    spec_hasT_c (ps := [s]) w1 ((h.keep (SameIn.of_below b1 (Nat.le_refl _))).more (Nat.le_refl _) b1.size) (one_ssRd hbk ((hx.keep (SameIn.of_below b1 (Nat.le_refl _))).more (Nat.le_refl _) b1.size)) (by show 1 ≤ 1048576; omega) (fun t ht => by rw [List.mem_singleton] at ht; rw [ht]; exact hs) 
  have HA := Lib.hid ha
  have HB := Lib.hid hb
  obtain ⟨R, hR⟩ : ∃ R, R = comR a b r := ⟨_, rfl⟩
  rw [← hR]
  have HR := Lib.hid hR
  obtain ⟨sr, rfl, hsr⟩ := h
  obtain ⟨A, c, rfl, _, _⟩ := hsr
  obtain ⟨A1, c1, rfl, _, _⟩ := ha
  obtain ⟨A2, c2, rfl, _, _⟩ := hb
  have H0 := ((Sep.start w).box 31 #[.int .i64 r.w, .slice A r.rows.length c]).box 29 #[.slice A1 a.length c1]
  simp only [World.size_alloc] at H0
  have HC1 := Lib.hid (HT.out _ _ _ a H0.below hla HA.out H0.h0)
  clear hR
  go_enter Tryz.func12, Tryz.ntmps12
  go_wp2_with fail
  refine (HC1.out).mono ?_
  rintro e w1 ⟨rfl, b1⟩
  have H1 := H0.step b1
  clear H0 b1 HC1
  cases hf : findB r [a]
  · obtain rfl : R = false := by rw [HR.out, comR_no hf]
    have hB := H1.below
    clear hf
    go_wp2
    go_ret
    exact ⟨rfl, hB⟩
  · obtain rfl : R = findB r [b] := by rw [HR.out, comR_yes hf]
    have H2 := H1.box 29 #[.slice A2 b.length c2]
    have HC2 := Lib.hid (HT.out _ _ _ b H2.below hlb HB.out H2.h0)
    have c0 : w1.cell? ⟨w.heap.size, 0, none⟩ = some (.int .i64 r.w) := H1.h1.cell 0
    have c1' : w1.cell? ⟨w.heap.size, 1, none⟩ = some (.slice A r.rows.length c) := H1.h1.cell 1
    clear hf
    go_wp2_with fail
    refine (HC2.out).mono ?_
    rintro e w2 ⟨rfl, b2⟩
    have hB := H2.below.trans (b2.mono H2.size)
    clear H1 H2 b2 HC2 c0 c1'
    go_wp2
    go_ret
    exact ⟨rfl, hB⟩
set_option maxRecDepth 100000 in
set_option maxHeartbeats 400000 in
theorem impl_comR_c {va vb v : Value} {a b : List Cell} {r : Reg} (w : World) (ha : CellsRd w 0 w.heap.size va a) (hb : CellsRd w 0 w.heap.size vb b) (h : RegRd w 0 w.heap.size v r) (hla : a.length ≤ 1048576) (hlb : b.length ≤ 1048576) (htab : Tab64 w) :
    Calls Tryz.prog 15 #[va, vb, v] w fun e w' => e = .returned (.bool (comR a b r)) ∧ Below w.heap.size w w' := by
  have HT : Hid (∀ w1 g x s, Below w.heap.size w w1 → s.length ≤ 1048576 → CellsRd w 0 w.heap.size x s → Blk w1 g 29 #[x] → Calls Tryz.prog 44 #[v, .slice (some ⟨g, 0, none⟩) 1 1] w1 fun e w' => e = .returned (.bool (findB r [s])) ∧ Below w1.heap.size w1 w') := Lib.hid fun w1 g x s b1 hs hx hbk =>
    impl_hasT_c (ps := [s]) w1 ((h.keep (SameIn.of_below b1 (Nat.le_refl _))).more (Nat.le_refl _) b1.size) (one_ssRd hbk ((hx.keep (SameIn.of_below b1 (Nat.le_refl _))).more (Nat.le_refl _) b1.size)) (by show 1 ≤ 1048576; omega) (fun t ht => by rw [List.mem_singleton] at ht; rw [ht]; exact hs) (tab64_on htab b1)
  have HA := Lib.hid ha
  have HB := Lib.hid hb
  obtain ⟨R, hR⟩ : ∃ R, R = comR a b r := ⟨_, rfl⟩
  rw [← hR]
  have HR := Lib.hid hR
  obtain ⟨sr, rfl, hsr⟩ := h
  obtain ⟨A, c, rfl, _, _⟩ := hsr
  obtain ⟨A1, c1, rfl, _, _⟩ := ha
  obtain ⟨A2, c2, rfl, _, _⟩ := hb
  have H0 := ((Sep.start w).box 31 #[.int .i64 r.w, .slice A r.rows.length c]).box 29 #[.slice A1 a.length c1]
  simp only [World.size_alloc] at H0
  have HC1 := Lib.hid (HT.out _ _ _ a H0.below hla HA.out H0.h0)
  clear hR
  go_enter Tryz.func15, Tryz.ntmps15
  go_wp2_with fail
  refine (HC1.out).mono ?_
  rintro e w1 ⟨rfl, b1⟩
  have H1 := H0.step b1
  clear H0 b1 HC1
  cases hf : findB r [a]
  · obtain rfl : R = false := by rw [HR.out, comR_no hf]
    have hB := H1.below
    clear hf
    go_wp2
    go_ret
    exact ⟨rfl, hB⟩
  · obtain rfl : R = findB r [b] := by rw [HR.out, comR_yes hf]
    have H2 := H1.box 29 #[.slice A2 b.length c2]
    have HC2 := Lib.hid (HT.out _ _ _ b H2.below hlb HB.out H2.h0)
    have c0 : w1.cell? ⟨w.heap.size, 0, none⟩ = some (.int .i64 r.w) := H1.h1.cell 0
    have c1' : w1.cell? ⟨w.heap.size, 1, none⟩ = some (.slice A r.rows.length c) := H1.h1.cell 1
    clear hf
    go_wp2_with fail
    refine (HC2.out).mono ?_
    rintro e w2 ⟨rfl, b2⟩
    have hB := H2.below.trans (b2.mono H2.size)
    clear H1 H2 b2 HC2 c0 c1'
    go_wp2
    go_ret
    exact ⟨rfl, hB⟩
end Go.Proofs.YtelneohlpljblaaGreatDoor
