
/-
  The walks over claims: the law's helpers. The walk over claims: a claim's copy.
-/
import Derived.Test.YtfmkmjebkmimkaaGreatEqC
import Derived.Test.YtfmkmjebkmimkaaGreatLawWangX
import Derived.Test.YtfmkmjebkmimkaaGreatSepX
import Derived.Test.YtfmkmjebkmimkaaGreatPlcX
import Derived.Deep.DeepCutAuto
namespace Go.Proofs.YtfmkmjebkmimkaaGreat
open Go.RowKit

theorem Sep.setAll {w0 w : World} {g : Nat} {t : TypeId} {cs : Array Value} {L : List Res} (h : Sep w0 w (Res.box g t cs :: L)) (cs' : Array Value) : Sep w0 (w.setRow g cs') (Res.box g t cs' :: L) :=
  h.turn ⟨rfl, rfl, rfl, by simp, fun b _ hd => setRow_other w g b cs' hd⟩ (setRow_heap w g cs cs' t (0, 0) h.1) fun _ hb => .inl hb
theorem Sep.p3' {w0 w : World} {a b c d : Res} {L : List Res} (h : Sep w0 w (d :: a :: b :: c :: L)) : Sep w0 w (a :: b :: c :: d :: L) := h.p3

def SzOk (a : Clm) : Prop := a.reg.rows.length ≤ 1048576 ∧ a.pieces.length ≤ 1048576 ∧ (∀ u ∈ a.pieces, u.length ≤ 1048576) ∧ a.masks.length ≤ 1048576 ∧ a.weights.length ≤ 1048576 ∧ a.wang.length ≤ 1048576
def SzPost (a : Clm) (l : Int) (w : World) (e : Ending) (w' : World) : Prop := ∃ m : Int, e = .returned (.int .i64 m) ∧ -1 ≤ m ∧ m ≤ l ∧ (0 ≤ m → SzOk a) ∧ Below w.heap.size w w'

set_option maxRecDepth 100000 in
set_option maxHeartbeats 3200000 in
theorem eqClaim_c {v v' : Value} {a : Clm} (w : World) (h : ClmRd w 0 w.heap.size v a) (h' : ClmRd w 0 w.heap.size v' a) :
    Calls Tryz.prog 10 #[v, v'] w fun e w' => e = .returned (.bool true) ∧ Below w.heap.size w w' := by
  obtain ⟨s1, s2, s3, s4, s5, rfl, g1, g2, g3, g4, g5⟩ := h
  obtain ⟨t1, t2, t3, t4, t5, rfl, k1, k2, k3, k4, k5⟩ := h'
  unfold clmV
  have H := ((Sep.start w).box 32 #[.int .i64 a.kind, .int .i64 a.reg.w, s1, s2, s3, .string a.text, .int .i64 a.prime, s4, .int .i64 a.mask, s5, .int .i64 a.width, .int .i64 a.height]).box 32 #[.int .i64 a.kind, .int .i64 a.reg.w, t1, t2, t3, .string a.text, .int .i64 a.prime, t4, .int .i64 a.mask, t5, .int .i64 a.width, .int .i64 a.height]
  simp only [World.size_alloc] at H
  have c0 : ((w.alloc (.cells #[.int .i64 a.kind, .int .i64 a.reg.w, s1, s2, s3, .string a.text, .int .i64 a.prime, s4, .int .i64 a.mask, s5, .int .i64 a.width, .int .i64 a.height] 32)).alloc (.cells #[.int .i64 a.kind, .int .i64 a.reg.w, t1, t2, t3, .string a.text, .int .i64 a.prime, t4, .int .i64 a.mask, t5, .int .i64 a.width, .int .i64 a.height] 32)).cell? ⟨w.heap.size, 0, none⟩ = some (.int .i64 a.kind) := H.h1.cell 0
  have d0 : ((w.alloc (.cells #[.int .i64 a.kind, .int .i64 a.reg.w, s1, s2, s3, .string a.text, .int .i64 a.prime, s4, .int .i64 a.mask, s5, .int .i64 a.width, .int .i64 a.height] 32)).alloc (.cells #[.int .i64 a.kind, .int .i64 a.reg.w, t1, t2, t3, .string a.text, .int .i64 a.prime, t4, .int .i64 a.mask, t5, .int .i64 a.width, .int .i64 a.height] 32)).cell? ⟨w.heap.size + 1, 0, none⟩ = some (.int .i64 a.kind) := H.h0.cell 0
  have c1 : ((w.alloc (.cells #[.int .i64 a.kind, .int .i64 a.reg.w, s1, s2, s3, .string a.text, .int .i64 a.prime, s4, .int .i64 a.mask, s5, .int .i64 a.width, .int .i64 a.height] 32)).alloc (.cells #[.int .i64 a.kind, .int .i64 a.reg.w, t1, t2, t3, .string a.text, .int .i64 a.prime, t4, .int .i64 a.mask, t5, .int .i64 a.width, .int .i64 a.height] 32)).cell? ⟨w.heap.size, 1, none⟩ = some (.int .i64 a.reg.w) := H.h1.cell 1
  have d1 : ((w.alloc (.cells #[.int .i64 a.kind, .int .i64 a.reg.w, s1, s2, s3, .string a.text, .int .i64 a.prime, s4, .int .i64 a.mask, s5, .int .i64 a.width, .int .i64 a.height] 32)).alloc (.cells #[.int .i64 a.kind, .int .i64 a.reg.w, t1, t2, t3, .string a.text, .int .i64 a.prime, t4, .int .i64 a.mask, t5, .int .i64 a.width, .int .i64 a.height] 32)).cell? ⟨w.heap.size + 1, 1, none⟩ = some (.int .i64 a.reg.w) := H.h0.cell 1
  have c2 : ((w.alloc (.cells #[.int .i64 a.kind, .int .i64 a.reg.w, s1, s2, s3, .string a.text, .int .i64 a.prime, s4, .int .i64 a.mask, s5, .int .i64 a.width, .int .i64 a.height] 32)).alloc (.cells #[.int .i64 a.kind, .int .i64 a.reg.w, t1, t2, t3, .string a.text, .int .i64 a.prime, t4, .int .i64 a.mask, t5, .int .i64 a.width, .int .i64 a.height] 32)).cell? ⟨w.heap.size, 2, none⟩ = some (s1) := H.h1.cell 2
  have d2 : ((w.alloc (.cells #[.int .i64 a.kind, .int .i64 a.reg.w, s1, s2, s3, .string a.text, .int .i64 a.prime, s4, .int .i64 a.mask, s5, .int .i64 a.width, .int .i64 a.height] 32)).alloc (.cells #[.int .i64 a.kind, .int .i64 a.reg.w, t1, t2, t3, .string a.text, .int .i64 a.prime, t4, .int .i64 a.mask, t5, .int .i64 a.width, .int .i64 a.height] 32)).cell? ⟨w.heap.size + 1, 2, none⟩ = some (t1) := H.h0.cell 2
  go_enter Tryz.func10, Tryz.ntmps10
  go_wp2_with fail
  clear c0 d0 c1 d1 c2 d2
  generalize ((w.alloc (.cells #[.int .i64 a.kind, .int .i64 a.reg.w, s1, s2, s3, .string a.text, .int .i64 a.prime, s4, .int .i64 a.mask, s5, .int .i64 a.width, .int .i64 a.height] 32)).alloc (.cells #[.int .i64 a.kind, .int .i64 a.reg.w, t1, t2, t3, .string a.text, .int .i64 a.prime, t4, .int .i64 a.mask, t5, .int .i64 a.width, .int .i64 a.height] 32)) = W at *
  refine (eqRegion_c (x := a.reg) W ⟨s1, rfl, ((g1.keep (SameIn.of_below H.below (Nat.le_refl _))).more (Nat.le_refl _) H.size)⟩ ⟨t1, rfl, ((k1.keep (SameIn.of_below H.below (Nat.le_refl _))).more (Nat.le_refl _) H.size)⟩).mono ?_
  rintro e w1 ⟨rfl, b1⟩
  have H1 := H.step b1
  clear b1 H
  have c3 : w1.cell? ⟨w.heap.size, 3, none⟩ = some (s2) := H1.h1.cell 3
  have d3 : w1.cell? ⟨w.heap.size + 1, 3, none⟩ = some (t2) := H1.h0.cell 3
  go_wp2_with fail
  clear c3 d3
  refine (eqCellSSW_c (a := a.pieces) w1 ((g2.keep (SameIn.of_below H1.below (Nat.le_refl _))).more (Nat.le_refl _) H1.size) ((k2.keep (SameIn.of_below H1.below (Nat.le_refl _))).more (Nat.le_refl _) H1.size)).mono ?_
  rintro e w2 ⟨rfl, b2⟩
  have H2 := H1.step b2
  clear b2 H1
  have c4 : w2.cell? ⟨w.heap.size, 4, none⟩ = some (s3) := H2.h1.cell 4
  have d4 : w2.cell? ⟨w.heap.size + 1, 4, none⟩ = some (t3) := H2.h0.cell 4
  go_wp2_with fail
  clear c4 d4
  refine (eqIntS_c (x := a.masks) w2 ((g3.keep (SameIn.of_below H2.below (Nat.le_refl _))).more (Nat.le_refl _) H2.size) ((k3.keep (SameIn.of_below H2.below (Nat.le_refl _))).more (Nat.le_refl _) H2.size)).mono ?_
  rintro e w3 ⟨rfl, b3⟩
  have H3 := H2.step b3
  clear b3 H2
  have c5 : w3.cell? ⟨w.heap.size, 5, none⟩ = some (.string a.text) := H3.h1.cell 5
  have d5 : w3.cell? ⟨w.heap.size + 1, 5, none⟩ = some (.string a.text) := H3.h0.cell 5
  have c6 : w3.cell? ⟨w.heap.size, 6, none⟩ = some (.int .i64 a.prime) := H3.h1.cell 6
  have d6 : w3.cell? ⟨w.heap.size + 1, 6, none⟩ = some (.int .i64 a.prime) := H3.h0.cell 6
  have c7 : w3.cell? ⟨w.heap.size, 7, none⟩ = some (s4) := H3.h1.cell 7
  have d7 : w3.cell? ⟨w.heap.size + 1, 7, none⟩ = some (t4) := H3.h0.cell 7
  go_wp2_with fail
  clear c5 d5 c6 d6 c7 d7
  refine (eqIntS_c (x := a.weights) w3 ((g4.keep (SameIn.of_below H3.below (Nat.le_refl _))).more (Nat.le_refl _) H3.size) ((k4.keep (SameIn.of_below H3.below (Nat.le_refl _))).more (Nat.le_refl _) H3.size)).mono ?_
  rintro e w4 ⟨rfl, b4⟩
  have H4 := H3.step b4
  clear b4 H3
  have c8 : w4.cell? ⟨w.heap.size, 8, none⟩ = some (.int .i64 a.mask) := H4.h1.cell 8
  have d8 : w4.cell? ⟨w.heap.size + 1, 8, none⟩ = some (.int .i64 a.mask) := H4.h0.cell 8
  have c9 : w4.cell? ⟨w.heap.size, 9, none⟩ = some (s5) := H4.h1.cell 9
  have d9 : w4.cell? ⟨w.heap.size + 1, 9, none⟩ = some (t5) := H4.h0.cell 9
  go_wp2_with fail
  clear c8 d8 c9 d9
  refine (eqWangS_c (l := a.wang) w4 ((g5.keep (SameIn.of_below H4.below (Nat.le_refl _))).more (Nat.le_refl _) H4.size) ((k5.keep (SameIn.of_below H4.below (Nat.le_refl _))).more (Nat.le_refl _) H4.size)).mono ?_
  rintro e w5 ⟨rfl, b5⟩
  have H5 := H4.step b5
  clear b5 H4
  have c10 : w5.cell? ⟨w.heap.size, 10, none⟩ = some (.int .i64 a.width) := H5.h1.cell 10
  have d10 : w5.cell? ⟨w.heap.size + 1, 10, none⟩ = some (.int .i64 a.width) := H5.h0.cell 10
  have c11 : w5.cell? ⟨w.heap.size, 11, none⟩ = some (.int .i64 a.height) := H5.h1.cell 11
  have d11 : w5.cell? ⟨w.heap.size + 1, 11, none⟩ = some (.int .i64 a.height) := H5.h0.cell 11
  go_wp2
  go_ret
  exact ⟨rfl, H5.below⟩

end Go.Proofs.YtfmkmjebkmimkaaGreat

namespace Go.Proofs.YtfmkmjebkmimkaaGreat
open Go.RowKit
end Go.Proofs.YtfmkmjebkmimkaaGreat
