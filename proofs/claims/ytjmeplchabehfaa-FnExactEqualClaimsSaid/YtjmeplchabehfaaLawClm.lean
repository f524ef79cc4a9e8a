
/-
  The walks over claims: the law's helpers.
-/
import Derived.Test.YtjmeplchabehfaaEqC
import Derived.Test.YtjmeplchabehfaaLawWangs
import Derived.Test.YtjmeplchabehfaaSep
namespace Go.Proofs.Ytjmeplchabehfaa
open Go.RowKit

/-- what lies in an area of memory, read only -/
def Res.area (lo hi : Nat) (P : World → Prop) (hk : ∀ w w', SameIn lo hi w w' → P w → P w') : Res :=
  ⟨fun b => lo ≤ b ∧ b < hi, fun w => P w ∧ (lo < hi → hi ≤ w.heap.size), fun {w w'} hs h => ⟨hk w w' (fun b h1 h2 => hs b ⟨h1, h2⟩) h.1, fun hlt => by
    have := hs (hi - 1) ⟨by omega, by omega⟩
    have h1 : w.heap[hi - 1]? = some (w.heap[hi - 1]'(by have := h.2 hlt; omega)) := Array.getElem?_eq_getElem _
    rw [h1] at this
    have := (Array.getElem?_eq_some_iff.1 this).1
    omega⟩, fun {w b} h hb => by
    obtain ⟨h1, h2⟩ : lo ≤ b ∧ b < hi := hb
    have := h.2 (by omega)
    omega⟩
theorem Sep.area {w0 w w' : World} {L : List Res} (H : Sep w0 w L) (hb : Below w.heap.size w w') {P : World → Prop} (hk : ∀ u u', SameIn w.heap.size w'.heap.size u u' → P u → P u') (hp : P w') : Sep w0 w' (Res.area w.heap.size w'.heap.size P hk :: L) :=
  H.new hb ⟨hp, fun _ => Nat.le_refl _⟩ fun _ hb => hb.1
theorem Sep.setAll {w0 w : World} {g : Nat} {t : TypeId} {cs : Array Value} {L : List Res} (h : Sep w0 w (Res.box g t cs :: L)) (cs' : Array Value) : Sep w0 (w.setRow g cs') (Res.box g t cs' :: L) :=
  h.turn ⟨rfl, rfl, rfl, by simp, fun b _ hd => setRow_other w g b cs' hd⟩ (setRow_heap w g cs cs' t (0, 0) h.1) fun _ hb => .inl hb
theorem Sep.p3' {w0 w : World} {a b c d : Res} {L : List Res} (h : Sep w0 w (d :: a :: b :: c :: L)) : Sep w0 w (a :: b :: c :: d :: L) := h.p3

def SzOk (a : Clm) : Prop := a.reg.rows.length ≤ 1048576 ∧ a.pieces.length ≤ 1048576 ∧ (∀ u ∈ a.pieces, u.length ≤ 1048576) ∧ a.masks.length ≤ 1048576 ∧ a.weights.length ≤ 1048576 ∧ a.wang.length ≤ 1048576
def SzPost (a : Clm) (l : Int) (w : World) (e : Ending) (w' : World) : Prop := ∃ m : Int, e = .returned (.int .i64 m) ∧ -1 ≤ m ∧ m ≤ l ∧ (0 ≤ m → SzOk a) ∧ Below w.heap.size w w'

set_option maxRecDepth 100000 in
set_option maxHeartbeats 3200000 in
theorem szClaim_c {v : Value} {a : Clm} (l : Int) (w : World) (h : ClmRd w 0 w.heap.size v a) (ht : a.text.size ≤ maxLen) (h1 : 0 ≤ l) (h2 : l ≤ 1048576) :
    Calls Try.prog 7 #[v, .int .i64 l] w (SzPost a l w) := by
  obtain ⟨s1, s2, s3, s4, s5, rfl, g1, g2, g3, g4, g5⟩ := h
  unfold clmV
  unfold maxLen at ht
  have H := (Sep.start w).box 28 #[.int .i64 a.kind, .int .i64 a.reg.w, s1, s2, s3, .string a.text, .int .i64 a.prime, s4, .int .i64 a.mask, s5, .int .i64 a.width, .int .i64 a.height]
  have c1 : (w.alloc (.cells #[.int .i64 a.kind, .int .i64 a.reg.w, s1, s2, s3, .string a.text, .int .i64 a.prime, s4, .int .i64 a.mask, s5, .int .i64 a.width, .int .i64 a.height] 28)).cell? ⟨w.heap.size, 1, none⟩ = some (.int .i64 a.reg.w) := H.h0.cell 1
  have c2 : (w.alloc (.cells #[.int .i64 a.kind, .int .i64 a.reg.w, s1, s2, s3, .string a.text, .int .i64 a.prime, s4, .int .i64 a.mask, s5, .int .i64 a.width, .int .i64 a.height] 28)).cell? ⟨w.heap.size, 2, none⟩ = some (s1) := H.h0.cell 2
  go_enter Try.func7, Try.ntmps7
  go_wp2_with fail
  clear c1 c2
  generalize (w.alloc (.cells #[.int .i64 a.kind, .int .i64 a.reg.w, s1, s2, s3, .string a.text, .int .i64 a.prime, s4, .int .i64 a.mask, s5, .int .i64 a.width, .int .i64 a.height] 28)) = W at *
  refine (szRegion_c (x := a.reg) l W ⟨s1, rfl, ((g1.keep (SameIn.of_below H.below (Nat.le_refl _))).more (Nat.le_refl _) H.size)⟩ h1 h2).mono ?_
  rintro e w1 ⟨rfl, b1⟩
  have H1 := H.step b1
  clear b1 H
  by_cases k1 : l < a.reg.rows.length
  · rw [if_pos k1]
    go_wp2
    go_ret
    exact ⟨-1, rfl, by omega, by omega, fun h => absurd h (by omega), H1.below⟩
  rw [if_neg k1]
  obtain ⟨m1, hm1⟩ : ∃ m1 : Int, m1 = l - a.reg.rows.length := ⟨_, rfl⟩
  rw [← hm1]
  have j1 : 0 ≤ m1 := by omega
  have i1 : m1 ≤ l := by omega
  have r1 : a.reg.rows.length ≤ 1048576 := by omega
  clear hm1 k1
  have c3 : w1.cell? ⟨w.heap.size, 3, none⟩ = some (s2) := H1.h0.cell 3
  go_wp2_with fail
  clear c3
  refine (szCellSS_c (x := a.pieces) m1 w1 ((g2.keep (SameIn.of_below H1.below (Nat.le_refl _))).more (Nat.le_refl _) H1.size) j1 (by omega)).mono ?_
  rintro e w2 ⟨m2, rfl, j2, i2, r2, rfl⟩
  by_cases k2 : m2 < 0
  · go_wp2
    go_ret
    exact ⟨-1, rfl, by omega, by omega, fun h => absurd h (by omega), H1.below⟩
  have j2' : 0 ≤ m2 := by omega
  replace r2 := r2 j2'
  have R2 := Lib.hid r2.2
  replace r2 := r2.1
  clear k2
  have c4 : w1.cell? ⟨w.heap.size, 4, none⟩ = some (s3) := H1.h0.cell 4
  go_wp2_with fail
  clear c4
  refine (szIntS_c (x := a.masks) m2 w1 ((g3.keep (SameIn.of_below H1.below (Nat.le_refl _))).more (Nat.le_refl _) H1.size) (by omega) (by omega)).mono ?_
  rintro e w' ⟨rfl, rfl⟩
  by_cases k3 : m2 < a.masks.length
  · rw [if_pos k3]
    go_wp2
    go_ret
    exact ⟨-1, rfl, by omega, by omega, fun h => absurd h (by omega), H1.below⟩
  rw [if_neg k3]
  obtain ⟨m3, hm3⟩ : ∃ m3 : Int, m3 = m2 - a.masks.length := ⟨_, rfl⟩
  rw [← hm3]
  have j3 : 0 ≤ m3 := by omega
  have i3 : m3 ≤ l := by omega
  have r3 : a.masks.length ≤ 1048576 := by omega
  clear hm3 k3
  have c5 : w1.cell? ⟨w.heap.size, 5, none⟩ = some (.string a.text) := H1.h0.cell 5
  have c7 : w1.cell? ⟨w.heap.size, 7, none⟩ = some (s4) := H1.h0.cell 7
  by_cases k4 : m3 - (a.text.size : Int) < 0
  · go_wp2
    go_ret
    exact ⟨-1, rfl, by omega, by omega, fun h => absurd h (by omega), H1.below⟩
  go_wp2_with fail
  clear c5 c7
  obtain ⟨m4, hm4⟩ : ∃ m4 : Int, m4 = m3 - a.text.size := ⟨_, rfl⟩
  rw [← hm4]
  have j4 : 0 ≤ m4 := by omega
  have i4 : m4 ≤ l := by omega
  clear hm4 k4
  refine (szIntS_c (x := a.weights) m4 w1 ((g4.keep (SameIn.of_below H1.below (Nat.le_refl _))).more (Nat.le_refl _) H1.size) (by omega) (by omega)).mono ?_
  rintro e w' ⟨rfl, rfl⟩
  by_cases k5 : m4 < a.weights.length
  · rw [if_pos k5]
    go_wp2
    go_ret
    exact ⟨-1, rfl, by omega, by omega, fun h => absurd h (by omega), H1.below⟩
  rw [if_neg k5]
  obtain ⟨m5, hm5⟩ : ∃ m5 : Int, m5 = m4 - a.weights.length := ⟨_, rfl⟩
  rw [← hm5]
  have j5 : 0 ≤ m5 := by omega
  have i5 : m5 ≤ l := by omega
  have r5 : a.weights.length ≤ 1048576 := by omega
  clear hm5 k5
  have c9 : w1.cell? ⟨w.heap.size, 9, none⟩ = some (s5) := H1.h0.cell 9
  go_wp2_with fail
  clear c9
  refine (szWangS_c (x := a.wang) m5 w1 ((g5.keep (SameIn.of_below H1.below (Nat.le_refl _))).more (Nat.le_refl _) H1.size) (by omega) (by omega)).mono ?_
  rintro e w' ⟨rfl, rfl⟩
  by_cases k6 : m5 < a.wang.length
  · rw [if_pos k6]
    go_wp2
    go_ret
    exact ⟨-1, rfl, by omega, by omega, fun h => absurd h (by omega), H1.below⟩
  rw [if_neg k6]
  obtain ⟨m6, hm6⟩ : ∃ m6 : Int, m6 = m5 - a.wang.length := ⟨_, rfl⟩
  rw [← hm6]
  have j6 : 0 ≤ m6 := by omega
  have i6 : m6 ≤ l := by omega
  have r6 : a.wang.length ≤ 1048576 := by omega
  clear hm6 k6
  go_wp2
  go_ret
  exact ⟨m6, rfl, by omega, by omega, fun _ => ⟨r1, r2, R2.out, r3, r5, r6⟩, H1.below⟩

set_option maxRecDepth 100000 in
set_option maxHeartbeats 3200000 in
theorem eqClaim_c {v v' : Value} {a : Clm} (w : World) (h : ClmRd w 0 w.heap.size v a) (h' : ClmRd w 0 w.heap.size v' a) :
    Calls Try.prog 11 #[v, v'] w fun e w' => e = .returned (.bool true) ∧ Below w.heap.size w w' := by
  obtain ⟨s1, s2, s3, s4, s5, rfl, g1, g2, g3, g4, g5⟩ := h
  obtain ⟨t1, t2, t3, t4, t5, rfl, k1, k2, k3, k4, k5⟩ := h'
  unfold clmV
  have H := ((Sep.start w).box 35 #[.int .i64 a.kind, .int .i64 a.reg.w, s1, s2, s3, .string a.text, .int .i64 a.prime, s4, .int .i64 a.mask, s5, .int .i64 a.width, .int .i64 a.height]).box 35 #[.int .i64 a.kind, .int .i64 a.reg.w, t1, t2, t3, .string a.text, .int .i64 a.prime, t4, .int .i64 a.mask, t5, .int .i64 a.width, .int .i64 a.height]
  simp only [World.size_alloc] at H
  have c0 : ((w.alloc (.cells #[.int .i64 a.kind, .int .i64 a.reg.w, s1, s2, s3, .string a.text, .int .i64 a.prime, s4, .int .i64 a.mask, s5, .int .i64 a.width, .int .i64 a.height] 35)).alloc (.cells #[.int .i64 a.kind, .int .i64 a.reg.w, t1, t2, t3, .string a.text, .int .i64 a.prime, t4, .int .i64 a.mask, t5, .int .i64 a.width, .int .i64 a.height] 35)).cell? ⟨w.heap.size, 0, none⟩ = some (.int .i64 a.kind) := H.h1.cell 0
  have d0 : ((w.alloc (.cells #[.int .i64 a.kind, .int .i64 a.reg.w, s1, s2, s3, .string a.text, .int .i64 a.prime, s4, .int .i64 a.mask, s5, .int .i64 a.width, .int .i64 a.height] 35)).alloc (.cells #[.int .i64 a.kind, .int .i64 a.reg.w, t1, t2, t3, .string a.text, .int .i64 a.prime, t4, .int .i64 a.mask, t5, .int .i64 a.width, .int .i64 a.height] 35)).cell? ⟨w.heap.size + 1, 0, none⟩ = some (.int .i64 a.kind) := H.h0.cell 0
  have c1 : ((w.alloc (.cells #[.int .i64 a.kind, .int .i64 a.reg.w, s1, s2, s3, .string a.text, .int .i64 a.prime, s4, .int .i64 a.mask, s5, .int .i64 a.width, .int .i64 a.height] 35)).alloc (.cells #[.int .i64 a.kind, .int .i64 a.reg.w, t1, t2, t3, .string a.text, .int .i64 a.prime, t4, .int .i64 a.mask, t5, .int .i64 a.width, .int .i64 a.height] 35)).cell? ⟨w.heap.size, 1, none⟩ = some (.int .i64 a.reg.w) := H.h1.cell 1
  have d1 : ((w.alloc (.cells #[.int .i64 a.kind, .int .i64 a.reg.w, s1, s2, s3, .string a.text, .int .i64 a.prime, s4, .int .i64 a.mask, s5, .int .i64 a.width, .int .i64 a.height] 35)).alloc (.cells #[.int .i64 a.kind, .int .i64 a.reg.w, t1, t2, t3, .string a.text, .int .i64 a.prime, t4, .int .i64 a.mask, t5, .int .i64 a.width, .int .i64 a.height] 35)).cell? ⟨w.heap.size + 1, 1, none⟩ = some (.int .i64 a.reg.w) := H.h0.cell 1
  have c2 : ((w.alloc (.cells #[.int .i64 a.kind, .int .i64 a.reg.w, s1, s2, s3, .string a.text, .int .i64 a.prime, s4, .int .i64 a.mask, s5, .int .i64 a.width, .int .i64 a.height] 35)).alloc (.cells #[.int .i64 a.kind, .int .i64 a.reg.w, t1, t2, t3, .string a.text, .int .i64 a.prime, t4, .int .i64 a.mask, t5, .int .i64 a.width, .int .i64 a.height] 35)).cell? ⟨w.heap.size, 2, none⟩ = some (s1) := H.h1.cell 2
  have d2 : ((w.alloc (.cells #[.int .i64 a.kind, .int .i64 a.reg.w, s1, s2, s3, .string a.text, .int .i64 a.prime, s4, .int .i64 a.mask, s5, .int .i64 a.width, .int .i64 a.height] 35)).alloc (.cells #[.int .i64 a.kind, .int .i64 a.reg.w, t1, t2, t3, .string a.text, .int .i64 a.prime, t4, .int .i64 a.mask, t5, .int .i64 a.width, .int .i64 a.height] 35)).cell? ⟨w.heap.size + 1, 2, none⟩ = some (t1) := H.h0.cell 2
  go_enter Try.func11, Try.ntmps11
  go_wp2_with fail
  clear c0 d0 c1 d1 c2 d2
  generalize ((w.alloc (.cells #[.int .i64 a.kind, .int .i64 a.reg.w, s1, s2, s3, .string a.text, .int .i64 a.prime, s4, .int .i64 a.mask, s5, .int .i64 a.width, .int .i64 a.height] 35)).alloc (.cells #[.int .i64 a.kind, .int .i64 a.reg.w, t1, t2, t3, .string a.text, .int .i64 a.prime, t4, .int .i64 a.mask, t5, .int .i64 a.width, .int .i64 a.height] 35)) = W at *
  refine (eqRegion_c (x := a.reg) W ⟨s1, rfl, ((g1.keep (SameIn.of_below H.below (Nat.le_refl _))).more (Nat.le_refl _) H.size)⟩ ⟨t1, rfl, ((k1.keep (SameIn.of_below H.below (Nat.le_refl _))).more (Nat.le_refl _) H.size)⟩).mono ?_
  rintro e w1 ⟨rfl, b1⟩
  have H1 := H.step b1
  clear b1 H
  have c3 : w1.cell? ⟨w.heap.size, 3, none⟩ = some (s2) := H1.h1.cell 3
  have d3 : w1.cell? ⟨w.heap.size + 1, 3, none⟩ = some (t2) := H1.h0.cell 3
  go_wp2_with fail
  clear c3 d3
  refine (eqCellSS_c (a := a.pieces) w1 ((g2.keep (SameIn.of_below H1.below (Nat.le_refl _))).more (Nat.le_refl _) H1.size) ((k2.keep (SameIn.of_below H1.below (Nat.le_refl _))).more (Nat.le_refl _) H1.size)).mono ?_
  rintro e w2 ⟨rfl, b2⟩
  have H2 := H1.step b2
  clear b2 H1
  have c4 : w2.cell? ⟨w.heap.size, 4, none⟩ = some (s3) := H2.h1.cell 4
  have d4 : w2.cell? ⟨w.heap.size + 1, 4, none⟩ = some (t3) := H2.h0.cell 4
  go_wp2_with fail
  clear c4 d4
  refine (eqIntS_c (x := a.masks) w2 ((g3.keep (SameIn.of_below H2.below (Nat.le_refl _))).more (Nat.le_refl _) H2.size) ((k3.keep (SameIn.of_below H2.below (Nat.le_refl _))).more (Nat.le_refl _) H2.size)).mono ?_
  rintro e w3 ⟨rfl, b3⟩
  have H3 := H2.step b3
  clear b3 H2
  have c5 : w3.cell? ⟨w.heap.size, 5, none⟩ = some (.string a.text) := H3.h1.cell 5
  have d5 : w3.cell? ⟨w.heap.size + 1, 5, none⟩ = some (.string a.text) := H3.h0.cell 5
  have c6 : w3.cell? ⟨w.heap.size, 6, none⟩ = some (.int .i64 a.prime) := H3.h1.cell 6
  have d6 : w3.cell? ⟨w.heap.size + 1, 6, none⟩ = some (.int .i64 a.prime) := H3.h0.cell 6
  have c7 : w3.cell? ⟨w.heap.size, 7, none⟩ = some (s4) := H3.h1.cell 7
  have d7 : w3.cell? ⟨w.heap.size + 1, 7, none⟩ = some (t4) := H3.h0.cell 7
  go_wp2_with fail
  clear c5 d5 c6 d6 c7 d7
  refine (eqIntS_c (x := a.weights) w3 ((g4.keep (SameIn.of_below H3.below (Nat.le_refl _))).more (Nat.le_refl _) H3.size) ((k4.keep (SameIn.of_below H3.below (Nat.le_refl _))).more (Nat.le_refl _) H3.size)).mono ?_
  rintro e w4 ⟨rfl, b4⟩
  have H4 := H3.step b4
  clear b4 H3
  have c8 : w4.cell? ⟨w.heap.size, 8, none⟩ = some (.int .i64 a.mask) := H4.h1.cell 8
  have d8 : w4.cell? ⟨w.heap.size + 1, 8, none⟩ = some (.int .i64 a.mask) := H4.h0.cell 8
  have c9 : w4.cell? ⟨w.heap.size, 9, none⟩ = some (s5) := H4.h1.cell 9
  have d9 : w4.cell? ⟨w.heap.size + 1, 9, none⟩ = some (t5) := H4.h0.cell 9
  go_wp2_with fail
  clear c8 d8 c9 d9
  refine (eqWangS_c (l := a.wang) w4 ((g5.keep (SameIn.of_below H4.below (Nat.le_refl _))).more (Nat.le_refl _) H4.size) ((k5.keep (SameIn.of_below H4.below (Nat.le_refl _))).more (Nat.le_refl _) H4.size)).mono ?_
  rintro e w5 ⟨rfl, b5⟩
  have H5 := H4.step b5
  clear b5 H4
  have c10 : w5.cell? ⟨w.heap.size, 10, none⟩ = some (.int .i64 a.width) := H5.h1.cell 10
  have d10 : w5.cell? ⟨w.heap.size + 1, 10, none⟩ = some (.int .i64 a.width) := H5.h0.cell 10
  have c11 : w5.cell? ⟨w.heap.size, 11, none⟩ = some (.int .i64 a.height) := H5.h1.cell 11
  have d11 : w5.cell? ⟨w.heap.size + 1, 11, none⟩ = some (.int .i64 a.height) := H5.h0.cell 11
  go_wp2
  go_ret
  exact ⟨rfl, H5.below⟩

end Go.Proofs.Ytjmeplchabehfaa
