
/-
  The walks over claims: the law's helpers. The walk over claims: a claim's copy.
-/
import Derived.Test.YtjoglffhdoneoaaGreatDoorEqC
import Derived.Test.YtjoglffhdoneoaaGreatDoorLawWangX
import Derived.Test.YtjoglffhdoneoaaGreatDoorSepX
import Derived.Test.YtjoglffhdoneoaaGreatDoorPlcX
import Derived.Deep.DeepCutAuto
namespace Go.Proofs.YtjoglffhdoneoaaGreatDoor
open Go.RowKit

theorem Sep.setAll {w0 w : World} {g : Nat} {t : TypeId} {cs : Array Value} {L : List Res} (h : Sep w0 w (Res.box g t cs :: L)) (cs' : Array Value) : Sep w0 (w.setRow g cs') (Res.box g t cs' :: L) :=
  h.turn ⟨rfl, rfl, rfl, by simp, fun b _ hd => setRow_other w g b cs' hd⟩ (setRow_heap w g cs cs' t (0, 0) h.1) fun _ hb => .inl hb
theorem Sep.p3' {w0 w : World} {a b c d : Res} {L : List Res} (h : Sep w0 w (d :: a :: b :: c :: L)) : Sep w0 w (a :: b :: c :: d :: L) := h.p3

def SzOk (a : Clm) : Prop := a.reg.rows.length ≤ 1048576 ∧ a.pieces.length ≤ 1048576 ∧ (∀ u ∈ a.pieces, u.length ≤ 1048576) ∧ a.masks.length ≤ 1048576 ∧ a.weights.length ≤ 1048576 ∧ a.wang.length ≤ 1048576
def SzPost (a : Clm) (l : Int) (w : World) (e : Ending) (w' : World) : Prop := ∃ m : Int, e = .returned (.int .i64 m) ∧ -1 ≤ m ∧ m ≤ l ∧ (0 ≤ m → SzOk a) ∧ Below w.heap.size w w'

set_option maxRecDepth 100000 in
set_option maxHeartbeats 3200000 in
theorem szClaim_c {v : Value} {a : Clm} (l : Int) (w : World) (h : ClmRd w 0 w.heap.size v a) (ht : a.text.size ≤ maxLen) (h1 : 0 ≤ l) (h2 : l ≤ 1048576) :
    Calls Tryz.prog 18 #[v, .int .i64 l] w (SzPost a l w) := by
  obtain ⟨s1, s2, s3, s4, s5, rfl, g1, g2, g3, g4, g5⟩ := h
  unfold clmV
  unfold maxLen at ht
  have H := (Sep.start w).box 46 #[.int .i64 a.kind, .int .i64 a.reg.w, s1, s2, s3, .string a.text, .int .i64 a.prime, s4, .int .i64 a.mask, s5, .int .i64 a.width, .int .i64 a.height]
  have c1 : (w.alloc (.cells #[.int .i64 a.kind, .int .i64 a.reg.w, s1, s2, s3, .string a.text, .int .i64 a.prime, s4, .int .i64 a.mask, s5, .int .i64 a.width, .int .i64 a.height] 46)).cell? ⟨w.heap.size, 1, none⟩ = some (.int .i64 a.reg.w) := H.h0.cell 1
  have c2 : (w.alloc (.cells #[.int .i64 a.kind, .int .i64 a.reg.w, s1, s2, s3, .string a.text, .int .i64 a.prime, s4, .int .i64 a.mask, s5, .int .i64 a.width, .int .i64 a.height] 46)).cell? ⟨w.heap.size, 2, none⟩ = some (s1) := H.h0.cell 2
  go_enter Tryz.func18, Tryz.ntmps18
  go_wp2_with fail
  clear c1 c2
  generalize (w.alloc (.cells #[.int .i64 a.kind, .int .i64 a.reg.w, s1, s2, s3, .string a.text, .int .i64 a.prime, s4, .int .i64 a.mask, s5, .int .i64 a.width, .int .i64 a.height] 46)) = W at *
  refine (szRegion_c (x := a.reg) l W ⟨s1, rfl, ((g1.keep (SameIn.of_below H.below (Nat.le_refl _))).more (Nat.le_refl _) H.size)⟩ h1 h2).mono ?_
  rintro e w1 ⟨rfl, b1⟩
  have H1 := H.step b1
  clear b1 H
  by_cases k1 : l < a.reg.rows.length
  · rw [if_pos k1]
    go_wp2
    go_ret
    exact ⟨-1, rfl, by omega, by omega, fun h => absurd h (by omega), H1.below⟩
  rw [if_neg k1]
  obtain ⟨m1, hm1⟩ : ∃ m1 : Int, m1 = l - a.reg.rows.length := ⟨_, rfl⟩
  rw [← hm1]
  have j1 : 0 ≤ m1 := by omega
  have i1 : m1 ≤ l := by omega
  have r1 : a.reg.rows.length ≤ 1048576 := by omega
  clear hm1 k1
  have c3 : w1.cell? ⟨w.heap.size, 3, none⟩ = some (s2) := H1.h0.cell 3
  go_wp2_with fail
  clear c3
  refine (szCellSSW_c (x := a.pieces) m1 w1 ((g2.keep (SameIn.of_below H1.below (Nat.le_refl _))).more (Nat.le_refl _) H1.size) j1 (by omega)).mono ?_
  rintro e w2 ⟨m2, rfl, j2, i2, r2, rfl⟩
  by_cases k2 : m2 < 0
  · go_wp2
    go_ret
    exact ⟨-1, rfl, by omega, by omega, fun h => absurd h (by omega), H1.below⟩
  have j2' : 0 ≤ m2 := by omega
  replace r2 := r2 j2'
  have R2 := Lib.hid r2.2
  replace r2 := r2.1
  clear k2
  have c4 : w1.cell? ⟨w.heap.size, 4, none⟩ = some (s3) := H1.h0.cell 4
  go_wp2_with fail
  clear c4
  refine (szIntS_c (x := a.masks) m2 w1 ((g3.keep (SameIn.of_below H1.below (Nat.le_refl _))).more (Nat.le_refl _) H1.size) (by omega) (by omega)).mono ?_
  rintro e w' ⟨rfl, rfl⟩
  by_cases k3 : m2 < a.masks.length
  · rw [if_pos k3]
    go_wp2
    go_ret
    exact ⟨-1, rfl, by omega, by omega, fun h => absurd h (by omega), H1.below⟩
  rw [if_neg k3]
  obtain ⟨m3, hm3⟩ : ∃ m3 : Int, m3 = m2 - a.masks.length := ⟨_, rfl⟩
  rw [← hm3]
  have j3 : 0 ≤ m3 := by omega
  have i3 : m3 ≤ l := by omega
  have r3 : a.masks.length ≤ 1048576 := by omega
  clear hm3 k3
  have c5 : w1.cell? ⟨w.heap.size, 5, none⟩ = some (.string a.text) := H1.h0.cell 5
  have c7 : w1.cell? ⟨w.heap.size, 7, none⟩ = some (s4) := H1.h0.cell 7
  by_cases k4 : m3 - (a.text.size : Int) < 0
  · go_wp2
    go_ret
    exact ⟨-1, rfl, by omega, by omega, fun h => absurd h (by omega), H1.below⟩
  go_wp2_with fail
  clear c5 c7
  obtain ⟨m4, hm4⟩ : ∃ m4 : Int, m4 = m3 - a.text.size := ⟨_, rfl⟩
  rw [← hm4]
  have j4 : 0 ≤ m4 := by omega
  have i4 : m4 ≤ l := by omega
  clear hm4 k4
  refine (szIntS_c (x := a.weights) m4 w1 ((g4.keep (SameIn.of_below H1.below (Nat.le_refl _))).more (Nat.le_refl _) H1.size) (by omega) (by omega)).mono ?_
  rintro e w' ⟨rfl, rfl⟩
  by_cases k5 : m4 < a.weights.length
  · rw [if_pos k5]
    go_wp2
    go_ret
    exact ⟨-1, rfl, by omega, by omega, fun h => absurd h (by omega), H1.below⟩
  rw [if_neg k5]
  obtain ⟨m5, hm5⟩ : ∃ m5 : Int, m5 = m4 - a.weights.length := ⟨_, rfl⟩
  rw [← hm5]
  have j5 : 0 ≤ m5 := by omega
  have i5 : m5 ≤ l := by omega
  have r5 : a.weights.length ≤ 1048576 := by omega
  clear hm5 k5
  have c9 : w1.cell? ⟨w.heap.size, 9, none⟩ = some (s5) := H1.h0.cell 9
  go_wp2_with fail
  clear c9
  refine (szWangS_c (x := a.wang) m5 w1 ((g5.keep (SameIn.of_below H1.below (Nat.le_refl _))).more (Nat.le_refl _) H1.size) (by omega) (by omega)).mono ?_
  rintro e w' ⟨rfl, rfl⟩
  by_cases k6 : m5 < a.wang.length
  · rw [if_pos k6]
    go_wp2
    go_ret
    exact ⟨-1, rfl, by omega, by omega, fun h => absurd h (by omega), H1.below⟩
  rw [if_neg k6]
  obtain ⟨m6, hm6⟩ : ∃ m6 : Int, m6 = m5 - a.wang.length := ⟨_, rfl⟩
  rw [← hm6]
  have j6 : 0 ≤ m6 := by omega
  have i6 : m6 ≤ l := by omega
  have r6 : a.wang.length ≤ 1048576 := by omega
  clear hm6 k6
  go_wp2
  go_ret
  exact ⟨m6, rfl, by omega, by omega, fun _ => ⟨r1, r2, R2.out, r3, r5, r6⟩, H1.below⟩

set_option maxRecDepth 100000 in
set_option maxHeartbeats 3200000 in
theorem eqClaim_c {v v' : Value} {a : Clm} (w : World) (h : ClmRd w 0 w.heap.size v a) (h' : ClmRd w 0 w.heap.size v' a) :
    Calls Tryz.prog 11 #[v, v'] w fun e w' => e = .returned (.bool true) ∧ Below w.heap.size w w' := by
  obtain ⟨s1, s2, s3, s4, s5, rfl, g1, g2, g3, g4, g5⟩ := h
  obtain ⟨t1, t2, t3, t4, t5, rfl, k1, k2, k3, k4, k5⟩ := h'
  unfold clmV
  have H := ((Sep.start w).box 32 #[.int .i64 a.kind, .int .i64 a.reg.w, s1, s2, s3, .string a.text, .int .i64 a.prime, s4, .int .i64 a.mask, s5, .int .i64 a.width, .int .i64 a.height]).box 32 #[.int .i64 a.kind, .int .i64 a.reg.w, t1, t2, t3, .string a.text, .int .i64 a.prime, t4, .int .i64 a.mask, t5, .int .i64 a.width, .int .i64 a.height]
  simp only [World.size_alloc] at H
  have c0 : ((w.alloc (.cells #[.int .i64 a.kind, .int .i64 a.reg.w, s1, s2, s3, .string a.text, .int .i64 a.prime, s4, .int .i64 a.mask, s5, .int .i64 a.width, .int .i64 a.height] 32)).alloc (.cells #[.int .i64 a.kind, .int .i64 a.reg.w, t1, t2, t3, .string a.text, .int .i64 a.prime, t4, .int .i64 a.mask, t5, .int .i64 a.width, .int .i64 a.height] 32)).cell? ⟨w.heap.size, 0, none⟩ = some (.int .i64 a.kind) := H.h1.cell 0
  have d0 : ((w.alloc (.cells #[.int .i64 a.kind, .int .i64 a.reg.w, s1, s2, s3, .string a.text, .int .i64 a.prime, s4, .int .i64 a.mask, s5, .int .i64 a.width, .int .i64 a.height] 32)).alloc (.cells #[.int .i64 a.kind, .int .i64 a.reg.w, t1, t2, t3, .string a.text, .int .i64 a.prime, t4, .int .i64 a.mask, t5, .int .i64 a.width, .int .i64 a.height] 32)).cell? ⟨w.heap.size + 1, 0, none⟩ = some (.int .i64 a.kind) := H.h0.cell 0
  have c1 : ((w.alloc (.cells #[.int .i64 a.kind, .int .i64 a.reg.w, s1, s2, s3, .string a.text, .int .i64 a.prime, s4, .int .i64 a.mask, s5, .int .i64 a.width, .int .i64 a.height] 32)).alloc (.cells #[.int .i64 a.kind, .int .i64 a.reg.w, t1, t2, t3, .string a.text, .int .i64 a.prime, t4, .int .i64 a.mask, t5, .int .i64 a.width, .int .i64 a.height] 32)).cell? ⟨w.heap.size, 1, none⟩ = some (.int .i64 a.reg.w) := H.h1.cell 1
  have d1 : ((w.alloc (.cells #[.int .i64 a.kind, .int .i64 a.reg.w, s1, s2, s3, .string a.text, .int .i64 a.prime, s4, .int .i64 a.mask, s5, .int .i64 a.width, .int .i64 a.height] 32)).alloc (.cells #[.int .i64 a.kind, .int .i64 a.reg.w, t1, t2, t3, .string a.text, .int .i64 a.prime, t4, .int .i64 a.mask, t5, .int .i64 a.width, .int .i64 a.height] 32)).cell? ⟨w.heap.size + 1, 1, none⟩ = some (.int .i64 a.reg.w) := H.h0.cell 1
  have c2 : ((w.alloc (.cells #[.int .i64 a.kind, .int .i64 a.reg.w, s1, s2, s3, .string a.text, .int .i64 a.prime, s4, .int .i64 a.mask, s5, .int .i64 a.width, .int .i64 a.height] 32)).alloc (.cells #[.int .i64 a.kind, .int .i64 a.reg.w, t1, t2, t3, .string a.text, .int .i64 a.prime, t4, .int .i64 a.mask, t5, .int .i64 a.width, .int .i64 a.height] 32)).cell? ⟨w.heap.size, 2, none⟩ = some (s1) := H.h1.cell 2
  have d2 : ((w.alloc (.cells #[.int .i64 a.kind, .int .i64 a.reg.w, s1, s2, s3, .string a.text, .int .i64 a.prime, s4, .int .i64 a.mask, s5, .int .i64 a.width, .int .i64 a.height] 32)).alloc (.cells #[.int .i64 a.kind, .int .i64 a.reg.w, t1, t2, t3, .string a.text, .int .i64 a.prime, t4, .int .i64 a.mask, t5, .int .i64 a.width, .int .i64 a.height] 32)).cell? ⟨w.heap.size + 1, 2, none⟩ = some (t1) := H.h0.cell 2
  go_enter Tryz.func11, Tryz.ntmps11
  go_wp2_with fail
  clear c0 d0 c1 d1 c2 d2
  generalize ((w.alloc (.cells #[.int .i64 a.kind, .int .i64 a.reg.w, s1, s2, s3, .string a.text, .int .i64 a.prime, s4, .int .i64 a.mask, s5, .int .i64 a.width, .int .i64 a.height] 32)).alloc (.cells #[.int .i64 a.kind, .int .i64 a.reg.w, t1, t2, t3, .string a.text, .int .i64 a.prime, t4, .int .i64 a.mask, t5, .int .i64 a.width, .int .i64 a.height] 32)) = W at *
  refine (eqRegion_c (x := a.reg) W ⟨s1, rfl, ((g1.keep (SameIn.of_below H.below (Nat.le_refl _))).more (Nat.le_refl _) H.size)⟩ ⟨t1, rfl, ((k1.keep (SameIn.of_below H.below (Nat.le_refl _))).more (Nat.le_refl _) H.size)⟩).mono ?_
  rintro e w1 ⟨rfl, b1⟩
  have H1 := H.step b1
  clear b1 H
  have c3 : w1.cell? ⟨w.heap.size, 3, none⟩ = some (s2) := H1.h1.cell 3
  have d3 : w1.cell? ⟨w.heap.size + 1, 3, none⟩ = some (t2) := H1.h0.cell 3
  go_wp2_with fail
  clear c3 d3
  refine (eqCellSSW_c (a := a.pieces) w1 ((g2.keep (SameIn.of_below H1.below (Nat.le_refl _))).more (Nat.le_refl _) H1.size) ((k2.keep (SameIn.of_below H1.below (Nat.le_refl _))).more (Nat.le_refl _) H1.size)).mono ?_
  rintro e w2 ⟨rfl, b2⟩
  have H2 := H1.step b2
  clear b2 H1
  have c4 : w2.cell? ⟨w.heap.size, 4, none⟩ = some (s3) := H2.h1.cell 4
  have d4 : w2.cell? ⟨w.heap.size + 1, 4, none⟩ = some (t3) := H2.h0.cell 4
  go_wp2_with fail
  clear c4 d4
  refine (eqIntS_c (x := a.masks) w2 ((g3.keep (SameIn.of_below H2.below (Nat.le_refl _))).more (Nat.le_refl _) H2.size) ((k3.keep (SameIn.of_below H2.below (Nat.le_refl _))).more (Nat.le_refl _) H2.size)).mono ?_
  rintro e w3 ⟨rfl, b3⟩
  have H3 := H2.step b3
  clear b3 H2
  have c5 : w3.cell? ⟨w.heap.size, 5, none⟩ = some (.string a.text) := H3.h1.cell 5
  have d5 : w3.cell? ⟨w.heap.size + 1, 5, none⟩ = some (.string a.text) := H3.h0.cell 5
  have c6 : w3.cell? ⟨w.heap.size, 6, none⟩ = some (.int .i64 a.prime) := H3.h1.cell 6
  have d6 : w3.cell? ⟨w.heap.size + 1, 6, none⟩ = some (.int .i64 a.prime) := H3.h0.cell 6
  have c7 : w3.cell? ⟨w.heap.size, 7, none⟩ = some (s4) := H3.h1.cell 7
  have d7 : w3.cell? ⟨w.heap.size + 1, 7, none⟩ = some (t4) := H3.h0.cell 7
  go_wp2_with fail
  clear c5 d5 c6 d6 c7 d7
  refine (eqIntS_c (x := a.weights) w3 ((g4.keep (SameIn.of_below H3.below (Nat.le_refl _))).more (Nat.le_refl _) H3.size) ((k4.keep (SameIn.of_below H3.below (Nat.le_refl _))).more (Nat.le_refl _) H3.size)).mono ?_
  rintro e w4 ⟨rfl, b4⟩
  have H4 := H3.step b4
  clear b4 H3
  have c8 : w4.cell? ⟨w.heap.size, 8, none⟩ = some (.int .i64 a.mask) := H4.h1.cell 8
  have d8 : w4.cell? ⟨w.heap.size + 1, 8, none⟩ = some (.int .i64 a.mask) := H4.h0.cell 8
  have c9 : w4.cell? ⟨w.heap.size, 9, none⟩ = some (s5) := H4.h1.cell 9
  have d9 : w4.cell? ⟨w.heap.size + 1, 9, none⟩ = some (t5) := H4.h0.cell 9
  go_wp2_with fail
  clear c8 d8 c9 d9
  refine (eqWangS_c (l := a.wang) w4 ((g5.keep (SameIn.of_below H4.below (Nat.le_refl _))).more (Nat.le_refl _) H4.size) ((k5.keep (SameIn.of_below H4.below (Nat.le_refl _))).more (Nat.le_refl _) H4.size)).mono ?_
  rintro e w5 ⟨rfl, b5⟩
  have H5 := H4.step b5
  clear b5 H4
  have c10 : w5.cell? ⟨w.heap.size, 10, none⟩ = some (.int .i64 a.width) := H5.h1.cell 10
  have d10 : w5.cell? ⟨w.heap.size + 1, 10, none⟩ = some (.int .i64 a.width) := H5.h0.cell 10
  have c11 : w5.cell? ⟨w.heap.size, 11, none⟩ = some (.int .i64 a.height) := H5.h1.cell 11
  have d11 : w5.cell? ⟨w.heap.size + 1, 11, none⟩ = some (.int .i64 a.height) := H5.h0.cell 11
  go_wp2
  go_ret
  exact ⟨rfl, H5.below⟩

end Go.Proofs.YtjoglffhdoneoaaGreatDoor

namespace Go.Proofs.YtjoglffhdoneoaaGreatDoor
open Go.RowKit
set_option maxRecDepth 100000 in
set_option maxHeartbeats 6400000 in
theorem toClaim_c {v : Value} {a : Clm} (w : World) (h : ClmRd w 0 w.heap.size v a) (hz : SzOk a) :
    Calls Tryz.prog 20 #[v] w fun e w' => ∃ v', e = .returned v' ∧ ClmRd w' w.heap.size w'.heap.size v' a ∧ Below w.heap.size w w' := by
  obtain ⟨s1, s2, s3, s4, s5, rfl, g1, g2, g3, g4, g5⟩ := h
  obtain ⟨z1, z2, z3, z4, z5, z6⟩ := hz
  have Z3 := Lib.hid z3
  clear z3
  unfold clmV
  have H := (((Sep.start w).box 46 #[.int .i64 a.kind, .int .i64 a.reg.w, s1, s2, s3, .string a.text, .int .i64 a.prime, s4, .int .i64 a.mask, s5, .int .i64 a.width, .int .i64 a.height]).box 32 #[.int .i64 0, .int .i64 0, .slice none 0 0, .slice none 0 0, .slice none 0 0, .string ⟨#[]⟩, .int .i64 0, .slice none 0 0, .int .i64 0, .slice none 0 0, .int .i64 0, .int .i64 0]).box 32 #[.int .i64 a.kind, .int .i64 0, .slice none 0 0, .slice none 0 0, .slice none 0 0, .string ⟨#[]⟩, .int .i64 0, .slice none 0 0, .int .i64 0, .slice none 0 0, .int .i64 0, .int .i64 0]
  simp only [World.size_alloc] at H
  go_enter Tryz.func20, Tryz.ntmps20
  go_wp2_with fail
  have hw : w.heap.size ≤ (((w.alloc (.cells #[.int .i64 a.kind, .int .i64 a.reg.w, s1, s2, s3, .string a.text, .int .i64 a.prime, s4, .int .i64 a.mask, s5, .int .i64 a.width, .int .i64 a.height] 46)).alloc (.cells #[.int .i64 0, .int .i64 0, .slice none 0 0, .slice none 0 0, .slice none 0 0, .string ⟨#[]⟩, .int .i64 0, .slice none 0 0, .int .i64 0, .slice none 0 0, .int .i64 0, .int .i64 0] 32)).alloc (.cells #[.int .i64 a.kind, .int .i64 0, .slice none 0 0, .slice none 0 0, .slice none 0 0, .string ⟨#[]⟩, .int .i64 0, .slice none 0 0, .int .i64 0, .slice none 0 0, .int .i64 0, .int .i64 0] 32)).heap.size := H.size
  generalize (((w.alloc (.cells #[.int .i64 a.kind, .int .i64 a.reg.w, s1, s2, s3, .string a.text, .int .i64 a.prime, s4, .int .i64 a.mask, s5, .int .i64 a.width, .int .i64 a.height] 46)).alloc (.cells #[.int .i64 0, .int .i64 0, .slice none 0 0, .slice none 0 0, .slice none 0 0, .string ⟨#[]⟩, .int .i64 0, .slice none 0 0, .int .i64 0, .slice none 0 0, .int .i64 0, .int .i64 0] 32)).alloc (.cells #[.int .i64 a.kind, .int .i64 0, .slice none 0 0, .slice none 0 0, .slice none 0 0, .string ⟨#[]⟩, .int .i64 0, .slice none 0 0, .int .i64 0, .slice none 0 0, .int .i64 0, .int .i64 0] 32)) = W at *
  refine (toRegion_c (x := a.reg) W ⟨s1, rfl, ((g1.keep (SameIn.of_below H.below (Nat.le_refl _))).more (Nat.le_refl _) H.size)⟩ z1).mono ?_
  rintro e w1 ⟨v1, rfl, o1, b1⟩
  obtain ⟨t1, rfl, o1⟩ := o1
  obtain ⟨A1, q1, rfl, _, _⟩ := o1.rd
  have H1 := (H.area b1 (P := fun u => IntsRd u W.heap.size w1.heap.size (.slice A1 a.reg.rows.length q1) a.reg.rows) (fun u u' hs hp => hp.keep hs) o1.rd).p3'
  have t1 : W.heap.size ≤ w1.heap.size := b1.size
  clear b1 o1 H
  have f1 := H1.h0.frozen 1
  have y1 : w1.cell? ⟨w.heap.size + 1 + 1, 1, none⟩ = some (.int .i64 0) := H1.h0.cell 1
  have f2 := H1.h0.frozen 2
  have y2 : w1.cell? ⟨w.heap.size + 1 + 1, 2, none⟩ = some (.slice none 0 0) := H1.h0.cell 2
  have c3 : w1.cell? ⟨w.heap.size, 3, none⟩ = some (s2) := H1.h2.cell 3
  go_wp2_with fail
  clear f1 y1 f2 y2 c3
  have K1 : Sep w ((w1.setCell ⟨w.heap.size + 1 + 1, 1, none⟩ (.int .i64 a.reg.w)).setCell ⟨w.heap.size + 1 + 1, 2, none⟩ (.slice A1 a.reg.rows.length q1)) (Res.box (w.heap.size + 1 + 1) 32 #[.int .i64 a.kind, .int .i64 a.reg.w, .slice A1 a.reg.rows.length q1, .slice none 0 0, .slice none 0 0, .string ⟨#[]⟩, .int .i64 0, .slice none 0 0, .int .i64 0, .slice none 0 0, .int .i64 0, .int .i64 0] :: _) := ((H1.set_ 1 (.int .i64 a.reg.w)).set_ 2 (.slice A1 a.reg.rows.length q1))
  have l1 : w1.heap.size ≤ ((w1.setCell ⟨w.heap.size + 1 + 1, 1, none⟩ (.int .i64 a.reg.w)).setCell ⟨w.heap.size + 1 + 1, 2, none⟩ (.slice A1 a.reg.rows.length q1)).heap.size := by simp [World.setCell]
  clear H1
  generalize ((w1.setCell ⟨w.heap.size + 1 + 1, 1, none⟩ (.int .i64 a.reg.w)).setCell ⟨w.heap.size + 1 + 1, 2, none⟩ (.slice A1 a.reg.rows.length q1)) = x1 at *
  refine (toCellSSW_c (l := a.pieces) x1 ((g2.keep (SameIn.of_below K1.below (Nat.le_refl _))).more (Nat.le_refl _) K1.size) z2 Z3.out).mono ?_
  rintro e w2 ⟨v2, rfl, o2, b2⟩
  obtain ⟨us2, ⟨A2, q2, rfl, m2, d2⟩, e2⟩ := o2
  replace d2 := (⟨us2, ⟨A2, q2, rfl, m2, d2⟩, e2⟩ : CellSSRd w2 _ _ (.slice A2 a.pieces.length q2) a.pieces)
  have o2 := d2
  clear d2 e2 m2
  have H2 := (K1.area b2 (P := fun u => CellSSRd u x1.heap.size w2.heap.size (.slice A2 a.pieces.length q2) a.pieces) (fun u u' hs hp => hp.keep hs) o2).p3'
  have t2 : x1.heap.size ≤ w2.heap.size := b2.size
  clear b2 o2 K1
  have f3 := H2.h0.frozen 3
  have y3 : w2.cell? ⟨w.heap.size + 1 + 1, 3, none⟩ = some (.slice none 0 0) := H2.h0.cell 3
  have c4 : w2.cell? ⟨w.heap.size, 4, none⟩ = some (s3) := H2.h2.cell 4
  go_wp2_with fail
  clear f3 y3 c4
  have K2 : Sep w (w2.setCell ⟨w.heap.size + 1 + 1, 3, none⟩ (.slice A2 a.pieces.length q2)) (Res.box (w.heap.size + 1 + 1) 32 #[.int .i64 a.kind, .int .i64 a.reg.w, .slice A1 a.reg.rows.length q1, .slice A2 a.pieces.length q2, .slice none 0 0, .string ⟨#[]⟩, .int .i64 0, .slice none 0 0, .int .i64 0, .slice none 0 0, .int .i64 0, .int .i64 0] :: _) := (H2.set_ 3 (.slice A2 a.pieces.length q2))
  have l2 : w2.heap.size ≤ (w2.setCell ⟨w.heap.size + 1 + 1, 3, none⟩ (.slice A2 a.pieces.length q2)).heap.size := by simp [World.setCell]
  clear H2
  generalize (w2.setCell ⟨w.heap.size + 1 + 1, 3, none⟩ (.slice A2 a.pieces.length q2)) = x2 at *
  refine (toIntS_c (x := a.masks) x2 ((g3.keep (SameIn.of_below K2.below (Nat.le_refl _))).more (Nat.le_refl _) K2.size) z4).mono ?_
  rintro e w3 ⟨v3, rfl, o3, b3⟩
  obtain ⟨A3, q3, rfl, _, _⟩ := o3.rd
  have H3 := (K2.area b3 (P := fun u => IntsRd u x2.heap.size w3.heap.size (.slice A3 a.masks.length q3) a.masks) (fun u u' hs hp => hp.keep hs) o3.rd).p3'
  have t3 : x2.heap.size ≤ w3.heap.size := b3.size
  clear b3 o3 K2
  have f4 := H3.h0.frozen 4
  have y4 : w3.cell? ⟨w.heap.size + 1 + 1, 4, none⟩ = some (.slice none 0 0) := H3.h0.cell 4
  have f5 := H3.h0.frozen 5
  have y5 : w3.cell? ⟨w.heap.size + 1 + 1, 5, none⟩ = some (.string ⟨#[]⟩) := H3.h0.cell 5
  have f6 := H3.h0.frozen 6
  have y6 : w3.cell? ⟨w.heap.size + 1 + 1, 6, none⟩ = some (.int .i64 0) := H3.h0.cell 6
  have c5 : w3.cell? ⟨w.heap.size, 5, none⟩ = some (.string a.text) := H3.h2.cell 5
  have c6 : w3.cell? ⟨w.heap.size, 6, none⟩ = some (.int .i64 a.prime) := H3.h2.cell 6
  have c7 : w3.cell? ⟨w.heap.size, 7, none⟩ = some (s4) := H3.h2.cell 7
  go_wp2_with fail
  clear f4 y4 f5 y5 f6 y6 c5 c6 c7
  have K3 : Sep w (((w3.setCell ⟨w.heap.size + 1 + 1, 4, none⟩ (.slice A3 a.masks.length q3)).setCell ⟨w.heap.size + 1 + 1, 5, none⟩ (.string a.text)).setCell ⟨w.heap.size + 1 + 1, 6, none⟩ (.int .i64 a.prime)) (Res.box (w.heap.size + 1 + 1) 32 #[.int .i64 a.kind, .int .i64 a.reg.w, .slice A1 a.reg.rows.length q1, .slice A2 a.pieces.length q2, .slice A3 a.masks.length q3, .string a.text, .int .i64 a.prime, .slice none 0 0, .int .i64 0, .slice none 0 0, .int .i64 0, .int .i64 0] :: _) := (((H3.set_ 4 (.slice A3 a.masks.length q3)).set_ 5 (.string a.text)).set_ 6 (.int .i64 a.prime))
  have l3 : w3.heap.size ≤ (((w3.setCell ⟨w.heap.size + 1 + 1, 4, none⟩ (.slice A3 a.masks.length q3)).setCell ⟨w.heap.size + 1 + 1, 5, none⟩ (.string a.text)).setCell ⟨w.heap.size + 1 + 1, 6, none⟩ (.int .i64 a.prime)).heap.size := by simp [World.setCell]
  clear H3
  generalize (((w3.setCell ⟨w.heap.size + 1 + 1, 4, none⟩ (.slice A3 a.masks.length q3)).setCell ⟨w.heap.size + 1 + 1, 5, none⟩ (.string a.text)).setCell ⟨w.heap.size + 1 + 1, 6, none⟩ (.int .i64 a.prime)) = x3 at *
  refine (toIntS_c (x := a.weights) x3 ((g4.keep (SameIn.of_below K3.below (Nat.le_refl _))).more (Nat.le_refl _) K3.size) z5).mono ?_
  rintro e w4 ⟨v4, rfl, o4, b4⟩
  obtain ⟨A4, q4, rfl, _, _⟩ := o4.rd
  have H4 := (K3.area b4 (P := fun u => IntsRd u x3.heap.size w4.heap.size (.slice A4 a.weights.length q4) a.weights) (fun u u' hs hp => hp.keep hs) o4.rd).p3'
  have t4 : x3.heap.size ≤ w4.heap.size := b4.size
  clear b4 o4 K3
  have f7 := H4.h0.frozen 7
  have y7 : w4.cell? ⟨w.heap.size + 1 + 1, 7, none⟩ = some (.slice none 0 0) := H4.h0.cell 7
  have f8 := H4.h0.frozen 8
  have y8 : w4.cell? ⟨w.heap.size + 1 + 1, 8, none⟩ = some (.int .i64 0) := H4.h0.cell 8
  have c8 : w4.cell? ⟨w.heap.size, 8, none⟩ = some (.int .i64 a.mask) := H4.h2.cell 8
  have c9 : w4.cell? ⟨w.heap.size, 9, none⟩ = some (s5) := H4.h2.cell 9
  go_wp2_with fail
  clear f7 y7 f8 y8 c8 c9
  have K4 : Sep w ((w4.setCell ⟨w.heap.size + 1 + 1, 7, none⟩ (.slice A4 a.weights.length q4)).setCell ⟨w.heap.size + 1 + 1, 8, none⟩ (.int .i64 a.mask)) (Res.box (w.heap.size + 1 + 1) 32 #[.int .i64 a.kind, .int .i64 a.reg.w, .slice A1 a.reg.rows.length q1, .slice A2 a.pieces.length q2, .slice A3 a.masks.length q3, .string a.text, .int .i64 a.prime, .slice A4 a.weights.length q4, .int .i64 a.mask, .slice none 0 0, .int .i64 0, .int .i64 0] :: _) := ((H4.set_ 7 (.slice A4 a.weights.length q4)).set_ 8 (.int .i64 a.mask))
  have l4 : w4.heap.size ≤ ((w4.setCell ⟨w.heap.size + 1 + 1, 7, none⟩ (.slice A4 a.weights.length q4)).setCell ⟨w.heap.size + 1 + 1, 8, none⟩ (.int .i64 a.mask)).heap.size := by simp [World.setCell]
  clear H4
  generalize ((w4.setCell ⟨w.heap.size + 1 + 1, 7, none⟩ (.slice A4 a.weights.length q4)).setCell ⟨w.heap.size + 1 + 1, 8, none⟩ (.int .i64 a.mask)) = x4 at *
  refine (toWangS_c (l := a.wang) x4 ((g5.keep (SameIn.of_below K4.below (Nat.le_refl _))).more (Nat.le_refl _) K4.size) z6).mono ?_
  rintro e w5 ⟨v5, rfl, o5, b5⟩
  obtain ⟨A5, q5, rfl, _, _⟩ := o5.rd
  have H5 := (K4.area b5 (P := fun u => WangsRd u x4.heap.size w5.heap.size (.slice A5 a.wang.length q5) a.wang) (fun u u' hs hp => hp.keep hs) o5.rd).p3'
  have t5 : x4.heap.size ≤ w5.heap.size := b5.size
  clear b5 o5 K4
  have f9 := H5.h0.frozen 9
  have y9 : w5.cell? ⟨w.heap.size + 1 + 1, 9, none⟩ = some (.slice none 0 0) := H5.h0.cell 9
  have f10 := H5.h0.frozen 10
  have y10 : w5.cell? ⟨w.heap.size + 1 + 1, 10, none⟩ = some (.int .i64 0) := H5.h0.cell 10
  have f11 := H5.h0.frozen 11
  have y11 : w5.cell? ⟨w.heap.size + 1 + 1, 11, none⟩ = some (.int .i64 0) := H5.h0.cell 11
  have c10 : w5.cell? ⟨w.heap.size, 10, none⟩ = some (.int .i64 a.width) := H5.h2.cell 10
  have c11 : w5.cell? ⟨w.heap.size, 11, none⟩ = some (.int .i64 a.height) := H5.h2.cell 11
  go_upto_region 13 with fail
  clear f9 y9 f10 y10 f11 y11 c10 c11
  have K5 : Sep w (((w5.setCell ⟨w.heap.size + 1 + 1, 9, none⟩ (.slice A5 a.wang.length q5)).setCell ⟨w.heap.size + 1 + 1, 10, none⟩ (.int .i64 a.width)).setCell ⟨w.heap.size + 1 + 1, 11, none⟩ (.int .i64 a.height)) (Res.box (w.heap.size + 1 + 1) 32 #[.int .i64 a.kind, .int .i64 a.reg.w, .slice A1 a.reg.rows.length q1, .slice A2 a.pieces.length q2, .slice A3 a.masks.length q3, .string a.text, .int .i64 a.prime, .slice A4 a.weights.length q4, .int .i64 a.mask, .slice A5 a.wang.length q5, .int .i64 a.width, .int .i64 a.height] :: _) := (((H5.set_ 9 (.slice A5 a.wang.length q5)).set_ 10 (.int .i64 a.width)).set_ 11 (.int .i64 a.height))
  have l5 : w5.heap.size ≤ (((w5.setCell ⟨w.heap.size + 1 + 1, 9, none⟩ (.slice A5 a.wang.length q5)).setCell ⟨w.heap.size + 1 + 1, 10, none⟩ (.int .i64 a.width)).setCell ⟨w.heap.size + 1 + 1, 11, none⟩ (.int .i64 a.height)).heap.size := by simp [World.setCell]
  clear H5
  generalize (((w5.setCell ⟨w.heap.size + 1 + 1, 9, none⟩ (.slice A5 a.wang.length q5)).setCell ⟨w.heap.size + 1 + 1, 10, none⟩ (.int .i64 a.width)).setCell ⟨w.heap.size + 1 + 1, 11, none⟩ (.int .i64 a.height)) = x5 at *
  have HALL : ((#[.int .i64 a.kind, .int .i64 a.reg.w, .slice A1 a.reg.rows.length q1, .slice A2 a.pieces.length q2, .slice A3 a.masks.length q3, .string a.text, .int .i64 a.prime, .slice A4 a.weights.length q4, .int .i64 a.mask, .slice A5 a.wang.length q5, .int .i64 a.width, .int .i64 a.height] : Array Value).all (·.oneCell')) = true := by simp [Value.oneCell']
  go_wp2_with (first
    | (refine wpList_load_row rfl 32 _ rfl (w.heap.size + 1 + 1) rfl 32 _ _ _ K5.h0 Tryz.underlying32 rfl (by kernel_rfl) ?_)
    | (refine wpList_store_row rfl 32 _ _ rfl (w.heap.size + 1) #[.int .i64 a.kind, .int .i64 a.reg.w, .slice A1 a.reg.rows.length q1, .slice A2 a.pieces.length q2, .slice A3 a.masks.length q3, .string a.text, .int .i64 a.prime, .slice A4 a.weights.length q4, .int .i64 a.mask, .slice A5 a.wang.length q5, .int .i64 a.width, .int .i64 a.height] rfl rfl 32 _ K5.h1 (by kernel_rfl) rfl HALL ?_))
  have M := K5.g1.setAll #[.int .i64 a.kind, .int .i64 a.reg.w, .slice A1 a.reg.rows.length q1, .slice A2 a.pieces.length q2, .slice A3 a.masks.length q3, .string a.text, .int .i64 a.prime, .slice A4 a.weights.length q4, .int .i64 a.mask, .slice A5 a.wang.length q5, .int .i64 a.width, .int .i64 a.height]
  refine bodyPost_ret (v := .agg #[.int .i64 a.kind, .int .i64 a.reg.w, .slice A1 a.reg.rows.length q1, .slice A2 a.pieces.length q2, .slice A3 a.masks.length q3, .string a.text, .int .i64 a.prime, .slice A4 a.weights.length q4, .int .i64 a.mask, .slice A5 a.wang.length q5, .int .i64 a.width, .int .i64 a.height]) (results_cell_row Tryz.results20 _ _ (w.heap.size + 1) 32 _ _ _ rfl M.h0 Tryz.underlying32 rfl (by kernel_rfl)) rfl ?_
  refine ⟨_, rfl, ?_, M.below⟩
  refine ⟨_, _, _, _, _, rfl, ?_, ?_, ?_, ?_, ?_⟩
  · have z : IntsRd _ W.heap.size w1.heap.size (.slice A1 a.reg.rows.length q1) a.reg.rows := M.drop.drop.drop.drop.drop.drop.drop.h0.1
    exact z.more (by omega) (by simp; omega)
  · have z : CellSSRd _ x1.heap.size w2.heap.size (.slice A2 a.pieces.length q2) a.pieces := M.drop.drop.drop.drop.drop.drop.h0.1
    exact z.more (by omega) (by simp; omega)
  · have z : IntsRd _ x2.heap.size w3.heap.size (.slice A3 a.masks.length q3) a.masks := M.drop.drop.drop.drop.drop.h0.1
    exact z.more (by omega) (by simp; omega)
  · have z : IntsRd _ x3.heap.size w4.heap.size (.slice A4 a.weights.length q4) a.weights := M.drop.drop.drop.drop.h0.1
    exact z.more (by omega) (by simp; omega)
  · have z : WangsRd _ x4.heap.size w5.heap.size (.slice A5 a.wang.length q5) a.wang := M.drop.drop.drop.h0.1
    exact z.more (by omega) (by simp; omega)

end Go.Proofs.YtjoglffhdoneoaaGreatDoor
