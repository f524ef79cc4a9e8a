/-
  The law FnExactEditsBetween, walked by contracts.
-/
import Derived.Test.YtlncpkdkdhnfeaaBetwS
import Derived.Test.YtlncpkdkdhnfeaaLawInts
namespace Go.Proofs.Ytlncpkdkdhnfeaa
open Go.RowKit

set_option maxRecDepth 100000 in
set_option maxHeartbeats 8000000 in
theorem law_EditsBetween (va : Value) (a : Reg) (vb : Value) (b : Reg) (w : World) (ha : RegRd w 0 w.heap.size va a) (hb : RegRd w 0 w.heap.size vb b) :
    Calls Try.prog 7 #[va, vb] w fun e w' => e = .returned (.bool true) ∧ Below w.heap.size w w' := by
  obtain ⟨sa, rfl, hsa⟩ := id ha
  obtain ⟨sb, rfl, hsb⟩ := id hb
  have B : Below w.heap.size w ((w.alloc (.cells #[.int .i64 a.w, sa] 34)).alloc (.cells #[.int .i64 b.w, sb] 34)) := (((Below.refl w.heap.size w).alloc (by first | exact Nat.le_refl _ | (simp; done) | (simp; omega)) _).alloc (by first | exact Nat.le_refl _ | (simp; done) | (simp; omega)) _)
  have s0 : w.heap.size + 2 ≤ ((w.alloc (.cells #[.int .i64 a.w, sa] 34)).alloc (.cells #[.int .i64 b.w, sb] 34)).heap.size := by simp
  have xa : BoxIn ((w.alloc (.cells #[.int .i64 a.w, sa] 34)).alloc (.cells #[.int .i64 b.w, sb] 34)) w.heap.size (w.heap.size + 2) (w.heap.size) 34 #[.int .i64 a.w, sa] := ⟨by have := (Blk.new w 34 #[.int .i64 a.w, sa]).alloc (.cells #[.int .i64 b.w, sb] 34); simpa using this, by omega, by omega⟩
  have xb : BoxIn ((w.alloc (.cells #[.int .i64 a.w, sa] 34)).alloc (.cells #[.int .i64 b.w, sb] 34)) w.heap.size (w.heap.size + 2) (w.heap.size + 1) 34 #[.int .i64 b.w, sb] := ⟨by have := Blk.new (w.alloc (.cells #[.int .i64 a.w, sa] 34)) 34 #[.int .i64 b.w, sb]; simpa using this, by omega, by omega⟩
  have oa := ha.keep (SameIn.of_below B (Nat.le_refl _))
  have ob := hb.keep (SameIn.of_below B (Nat.le_refl _))
  by_cases q0 : 1048576 < (a.rows.length : Int)
  · skip
    go_enter Try.func7, Try.ntmps7
    go_wp2_with fail
    generalize ((w.alloc (.cells #[.int .i64 a.w, sa] 34)).alloc (.cells #[.int .i64 b.w, sb] 34)) = W0 at *
    refine (szRegion_c _ _ (oa.more (Nat.zero_le _) (by omega)) (by omega) (by omega)).mono ?_
    rintro e w1 ⟨rfl, b1⟩
    have s1 := b1.size
    replace xa := xa.keep (SameIn.of_below b1 (by omega))
    replace xb := xb.keep (SameIn.of_below b1 (by omega))
    replace oa := oa.keep (SameIn.of_below b1 (by omega))
    replace ob := ob.keep (SameIn.of_below b1 (by omega))
    replace B := B.trans (b1.mono (by omega))
    clear b1
    rw [if_pos (by omega)]
    go_wp2
    go_ret
    exact ⟨rfl, B⟩
  by_cases q1 : 1048576 < (a.rows.length : Int) + (b.rows.length : Int)
  · skip
    go_enter Try.func7, Try.ntmps7
    go_wp2_with fail
    generalize ((w.alloc (.cells #[.int .i64 a.w, sa] 34)).alloc (.cells #[.int .i64 b.w, sb] 34)) = W0 at *
    refine (szRegion_c _ _ (oa.more (Nat.zero_le _) (by omega)) (by omega) (by omega)).mono ?_
    rintro e w1 ⟨rfl, b1⟩
    have s1 := b1.size
    replace xa := xa.keep (SameIn.of_below b1 (by omega))
    replace xb := xb.keep (SameIn.of_below b1 (by omega))
    replace oa := oa.keep (SameIn.of_below b1 (by omega))
    replace ob := ob.keep (SameIn.of_below b1 (by omega))
    replace B := B.trans (b1.mono (by omega))
    clear b1
    rw [if_neg (by omega)]
    have yb0 : w1.cell? ⟨w.heap.size + 1, 0, none⟩ = some (.int .i64 b.w) := (by first | exact xb.cell 0)
    have yb1 : w1.cell? ⟨w.heap.size + 1, 1, none⟩ = some (sb) := (by first | exact xb.cell 1)
    go_wp2_with fail
    clear yb0 yb1
    refine (szRegion_c _ _ (ob.more (Nat.zero_le _) (by omega)) (by omega) (by omega)).mono ?_
    rintro e w2 ⟨rfl, b2⟩
    have s2 := b2.size
    replace xa := xa.keep (SameIn.of_below b2 (by omega))
    replace xb := xb.keep (SameIn.of_below b2 (by omega))
    replace oa := oa.keep (SameIn.of_below b2 (by omega))
    replace ob := ob.keep (SameIn.of_below b2 (by omega))
    replace B := B.trans (b2.mono (by omega))
    clear b2
    rw [if_pos (by omega)]
    go_wp2
    go_ret
    exact ⟨rfl, B⟩
  go_enter Try.func7, Try.ntmps7
  go_wp2_with fail
  generalize ((w.alloc (.cells #[.int .i64 a.w, sa] 34)).alloc (.cells #[.int .i64 b.w, sb] 34)) = W0 at *
  refine (szRegion_c _ _ (oa.more (Nat.zero_le _) (by omega)) (by omega) (by omega)).mono ?_
  rintro e w1 ⟨rfl, b1⟩
  have s1 := b1.size
  replace xa := xa.keep (SameIn.of_below b1 (by omega))
  replace xb := xb.keep (SameIn.of_below b1 (by omega))
  replace oa := oa.keep (SameIn.of_below b1 (by omega))
  replace ob := ob.keep (SameIn.of_below b1 (by omega))
  replace B := B.trans (b1.mono (by omega))
  clear b1
  rw [if_neg (by omega)]
  have yb0 : w1.cell? ⟨w.heap.size + 1, 0, none⟩ = some (.int .i64 b.w) := (by first | exact xb.cell 0)
  have yb1 : w1.cell? ⟨w.heap.size + 1, 1, none⟩ = some (sb) := (by first | exact xb.cell 1)
  go_wp2_with fail
  clear yb0 yb1
  refine (szRegion_c _ _ (ob.more (Nat.zero_le _) (by omega)) (by omega) (by omega)).mono ?_
  rintro e w2 ⟨rfl, b2⟩
  have s2 := b2.size
  replace xa := xa.keep (SameIn.of_below b2 (by omega))
  replace xb := xb.keep (SameIn.of_below b2 (by omega))
  replace oa := oa.keep (SameIn.of_below b2 (by omega))
  replace ob := ob.keep (SameIn.of_below b2 (by omega))
  replace B := B.trans (b2.mono (by omega))
  clear b2
  rw [if_neg (by omega)]
  have ya0 : w2.cell? ⟨w.heap.size, 0, none⟩ = some (.int .i64 a.w) := (by first | exact xa.cell 0)
  have ya1 : w2.cell? ⟨w.heap.size, 1, none⟩ = some (sa) := (by first | exact xa.cell 1)
  have yb0 : w2.cell? ⟨w.heap.size + 1, 0, none⟩ = some (.int .i64 b.w) := (by first | exact xb.cell 0)
  have yb1 : w2.cell? ⟨w.heap.size + 1, 1, none⟩ = some (sb) := (by first | exact xb.cell 1)
  go_wp2_with fail
  go_region_held3 (fun w' => w'.cell? ⟨w.heap.size, 0, none⟩ = some (.int .i64 a.w) ∧ w'.cell? ⟨w.heap.size, 1, none⟩ = some (sa) ∧ w'.cell? ⟨w.heap.size + 1, 0, none⟩ = some (.int .i64 b.w) ∧ w'.cell? ⟨w.heap.size + 1, 1, none⟩ = some (sb))
    (first | ((try dsimp only); refine ⟨?_, ?_, ?_, ?_⟩ <;> assumption) | go_keep)
    ((first | (go_at_call 20; (with_reducible refine (toRegion_c (v := (.agg #[.int .i64 a.w, sa])) (x := a) _ (by exact ((oa.keep (SameIn.drew)).more (Nat.zero_le _) (le_drew (show w.heap.size ≤ w2.heap.size by omega)))) (by omega)).mono ?_); rintro e w3 ⟨usa, rfl, osa, b3⟩; replace b3 := below_undrew b3; have s3 := b3.size; replace xa := xa.keep (SameIn.of_below b3 (by omega)); replace xb := xb.keep (SameIn.of_below b3 (by omega)); replace oa := oa.keep (SameIn.of_below b3 (by omega)); replace ob := ob.keep (SameIn.of_below b3 (by omega)); replace B := B.trans (b3.mono (by omega)); clear b3; have ya0_3 : w3.cell? ⟨w.heap.size, 0, none⟩ = some (.int .i64 a.w) := (by first | exact xa.cell 0); have ya1_3 : w3.cell? ⟨w.heap.size, 1, none⟩ = some (sa) := (by first | exact xa.cell 1); have yb0_3 : w3.cell? ⟨w.heap.size + 1, 0, none⟩ = some (.int .i64 b.w) := (by first | exact xb.cell 0); have yb1_3 : w3.cell? ⟨w.heap.size + 1, 1, none⟩ = some (sb) := (by first | exact xb.cell 1)) | (go_at_call 20; (with_reducible refine (toRegion_c (v := (.agg #[.int .i64 b.w, sb])) (x := b) _ (by exact (ob.more (Nat.zero_le _) (show w.heap.size ≤ w3.heap.size by omega))) (by omega)).mono ?_); rintro e w4 ⟨usb, rfl, osb, b4⟩; have s4 := b4.size; replace xa := xa.keep (SameIn.of_below b4 (by omega)); replace xb := xb.keep (SameIn.of_below b4 (by omega)); replace oa := oa.keep (SameIn.of_below b4 (by omega)); replace ob := ob.keep (SameIn.of_below b4 (by omega)); replace osa := osa.keep (SameIn.of_below b4 (by omega)); replace B := B.trans (b4.mono (by omega)); clear b4; have ya0_4 : w4.cell? ⟨w.heap.size, 0, none⟩ = some (.int .i64 a.w) := (by first | exact xa.cell 0); have ya1_4 : w4.cell? ⟨w.heap.size, 1, none⟩ = some (sa) := (by first | exact xa.cell 1); have yb0_4 : w4.cell? ⟨w.heap.size + 1, 0, none⟩ = some (.int .i64 b.w) := (by first | exact xb.cell 0); have yb1_4 : w4.cell? ⟨w.heap.size + 1, 1, none⟩ = some (sb) := (by first | exact xb.cell 1)) | (go_at_call 30; (with_reducible refine (spec_betw_c _ (osa.rd.more (Nat.zero_le _) (by omega)) (osb.rd.more (Nat.zero_le _) (by omega))).mono ?_); rintro e w5 ⟨rw0, rfl, orw0, b5⟩; have s5 := b5.size; replace xa := xa.keep (SameIn.of_below b5 (by omega)); replace xb := xb.keep (SameIn.of_below b5 (by omega)); replace oa := oa.keep (SameIn.of_below b5 (by omega)); replace ob := ob.keep (SameIn.of_below b5 (by omega)); replace osa := osa.keep (SameIn.of_below b5 (by omega)); replace osb := osb.keep (SameIn.of_below b5 (by omega)); replace B := B.trans (b5.mono (by omega)); clear b5; have ya0_5 : w5.cell? ⟨w.heap.size, 0, none⟩ = some (.int .i64 a.w) := (by first | exact xa.cell 0); have ya1_5 : w5.cell? ⟨w.heap.size, 1, none⟩ = some (sa) := (by first | exact xa.cell 1); have yb0_5 : w5.cell? ⟨w.heap.size + 1, 0, none⟩ = some (.int .i64 b.w) := (by first | exact xb.cell 0); have yb1_5 : w5.cell? ⟨w.heap.size + 1, 1, none⟩ = some (sb) := (by first | exact xb.cell 1))))
  clear ya0_3 ya1_3 yb0_3 yb1_3 ya0_4 ya1_4 yb0_4 yb1_4 ya0_5 ya1_5 yb0_5 yb1_5
  clear ya0 ya1 yb0 yb1
  clear osa
  clear osb
  have ya0 : w5.cell? ⟨w.heap.size, 0, none⟩ = some (.int .i64 a.w) := (by first | exact xa.cell 0)
  have ya1 : w5.cell? ⟨w.heap.size, 1, none⟩ = some (sa) := (by first | exact xa.cell 1)
  go_wp2_with fail
  clear ya0 ya1
  refine (toRegion_c _ (oa.more (Nat.zero_le _) (by omega)) (by omega)).mono ?_
  rintro e w6 ⟨uxa, rfl, oxa, b6⟩
  have s6 := b6.size
  replace xa := xa.keep (SameIn.of_below b6 (by omega))
  replace xb := xb.keep (SameIn.of_below b6 (by omega))
  replace oa := oa.keep (SameIn.of_below b6 (by omega))
  replace ob := ob.keep (SameIn.of_below b6 (by omega))
  replace orw0 := orw0.keep (SameIn.of_below b6 (by omega))
  replace B := B.trans (b6.mono (by omega))
  clear b6
  obtain ⟨tuxa, rfl, guxa⟩ := id oxa
  obtain ⟨Auxa, cuxa, rfl, _, _⟩ := guxa.rd
  clear guxa
  have bb : Below w6.heap.size w6 (w6.alloc (.cells #[.int .i64 a.w, .slice Auxa a.rows.length cuxa] 37)) := (Below.refl _ _).alloc (Nat.le_refl _) _
  have s7 : w6.heap.size + 1 ≤ (w6.alloc (.cells #[.int .i64 a.w, .slice Auxa a.rows.length cuxa] 37)).heap.size := by simp
  replace xa := xa.keep (SameIn.of_below bb (by omega))
  replace xb := xb.keep (SameIn.of_below bb (by omega))
  replace oa := oa.keep (SameIn.of_below bb (by omega))
  replace ob := ob.keep (SameIn.of_below bb (by omega))
  replace orw0 := orw0.keep (SameIn.of_below bb (by omega))
  replace oxa := oxa.keep (SameIn.of_below bb (by omega))
  replace B := B.trans (bb.mono (by omega))
  clear bb
  have xuxa : BoxIn (w6.alloc (.cells #[.int .i64 a.w, .slice Auxa a.rows.length cuxa] 37)) w6.heap.size (w6.heap.size + 1) w6.heap.size 37 #[.int .i64 a.w, .slice Auxa a.rows.length cuxa] := ⟨Blk.new _ _ _, Nat.le_refl _, Nat.lt_succ_self _⟩
  have yb0 : (w6.alloc (.cells #[.int .i64 a.w, .slice Auxa a.rows.length cuxa] 37)).cell? ⟨w.heap.size + 1, 0, none⟩ = some (.int .i64 b.w) := (by first | exact xb.cell 0)
  have yb1 : (w6.alloc (.cells #[.int .i64 a.w, .slice Auxa a.rows.length cuxa] 37)).cell? ⟨w.heap.size + 1, 1, none⟩ = some (sb) := (by first | exact xb.cell 1)
  go_wp2_with fail
  generalize w6.alloc (.cells #[.int .i64 a.w, .slice Auxa a.rows.length cuxa] 37) = w7 at *
  clear yb0 yb1
  refine (toRegion_c _ (ob.more (Nat.zero_le _) (by omega)) (by omega)).mono ?_
  rintro e w8 ⟨uxb, rfl, oxb, b8⟩
  have s8 := b8.size
  replace xa := xa.keep (SameIn.of_below b8 (by omega))
  replace xb := xb.keep (SameIn.of_below b8 (by omega))
  replace oa := oa.keep (SameIn.of_below b8 (by omega))
  replace ob := ob.keep (SameIn.of_below b8 (by omega))
  replace orw0 := orw0.keep (SameIn.of_below b8 (by omega))
  replace oxa := oxa.keep (SameIn.of_below b8 (by omega))
  replace xuxa := xuxa.keep (SameIn.of_below b8 (by omega))
  replace B := B.trans (b8.mono (by omega))
  clear b8
  obtain ⟨tuxb, rfl, guxb⟩ := id oxb
  obtain ⟨Auxb, cuxb, rfl, _, _⟩ := guxb.rd
  clear guxb
  have bb : Below w8.heap.size w8 (w8.alloc (.cells #[.int .i64 b.w, .slice Auxb b.rows.length cuxb] 37)) := (Below.refl _ _).alloc (Nat.le_refl _) _
  have s9 : w8.heap.size + 1 ≤ (w8.alloc (.cells #[.int .i64 b.w, .slice Auxb b.rows.length cuxb] 37)).heap.size := by simp
  replace xa := xa.keep (SameIn.of_below bb (by omega))
  replace xb := xb.keep (SameIn.of_below bb (by omega))
  replace oa := oa.keep (SameIn.of_below bb (by omega))
  replace ob := ob.keep (SameIn.of_below bb (by omega))
  replace orw0 := orw0.keep (SameIn.of_below bb (by omega))
  replace oxa := oxa.keep (SameIn.of_below bb (by omega))
  replace xuxa := xuxa.keep (SameIn.of_below bb (by omega))
  replace oxb := oxb.keep (SameIn.of_below bb (by omega))
  replace B := B.trans (bb.mono (by omega))
  clear bb
  have xuxb : BoxIn (w8.alloc (.cells #[.int .i64 b.w, .slice Auxb b.rows.length cuxb] 37)) w8.heap.size (w8.heap.size + 1) w8.heap.size 37 #[.int .i64 b.w, .slice Auxb b.rows.length cuxb] := ⟨Blk.new _ _ _, Nat.le_refl _, Nat.lt_succ_self _⟩
  have yuxa0 : (w8.alloc (.cells #[.int .i64 b.w, .slice Auxb b.rows.length cuxb] 37)).cell? ⟨w6.heap.size, 0, none⟩ = some (.int .i64 a.w) := (by first | exact xuxa.cell 0)
  have yuxa1 : (w8.alloc (.cells #[.int .i64 b.w, .slice Auxb b.rows.length cuxb] 37)).cell? ⟨w6.heap.size, 1, none⟩ = some (.slice Auxa a.rows.length cuxa) := (by first | exact xuxa.cell 1)
  have yuxb0 : (w8.alloc (.cells #[.int .i64 b.w, .slice Auxb b.rows.length cuxb] 37)).cell? ⟨w8.heap.size, 0, none⟩ = some (.int .i64 b.w) := (by first | exact xuxb.cell 0)
  have yuxb1 : (w8.alloc (.cells #[.int .i64 b.w, .slice Auxb b.rows.length cuxb] 37)).cell? ⟨w8.heap.size, 1, none⟩ = some (.slice Auxb b.rows.length cuxb) := (by first | exact xuxb.cell 1)
  go_wp2_with fail
  generalize w8.alloc (.cells #[.int .i64 b.w, .slice Auxb b.rows.length cuxb] 37) = w9 at *
  clear yuxa0 yuxa1 yuxb0 yuxb1
  refine (impl_betw_c _ (oxa.rd.more (Nat.zero_le _) (by omega)) (oxb.rd.more (Nat.zero_le _) (by omega))).mono ?_
  rintro e w10 ⟨rg0, rfl, org0, b10⟩
  have s10 := b10.size
  replace xa := xa.keep (SameIn.of_below b10 (by omega))
  replace xb := xb.keep (SameIn.of_below b10 (by omega))
  replace oa := oa.keep (SameIn.of_below b10 (by omega))
  replace ob := ob.keep (SameIn.of_below b10 (by omega))
  replace orw0 := orw0.keep (SameIn.of_below b10 (by omega))
  replace oxa := oxa.keep (SameIn.of_below b10 (by omega))
  replace xuxa := xuxa.keep (SameIn.of_below b10 (by omega))
  replace oxb := oxb.keep (SameIn.of_below b10 (by omega))
  replace xuxb := xuxb.keep (SameIn.of_below b10 (by omega))
  replace B := B.trans (b10.mono (by omega))
  clear b10
  go_wp2_with fail
  refine (eqEditS_c _ (org0.rd.more (Nat.zero_le _) (by omega)) (orw0.rd.more (Nat.zero_le _) (by omega))).mono ?_
  rintro e w11 ⟨rfl, b11⟩
  have s11 := b11.size
  replace xa := xa.keep (SameIn.of_below b11 (by omega))
  replace xb := xb.keep (SameIn.of_below b11 (by omega))
  replace oa := oa.keep (SameIn.of_below b11 (by omega))
  replace ob := ob.keep (SameIn.of_below b11 (by omega))
  replace orw0 := orw0.keep (SameIn.of_below b11 (by omega))
  replace oxa := oxa.keep (SameIn.of_below b11 (by omega))
  replace xuxa := xuxa.keep (SameIn.of_below b11 (by omega))
  replace oxb := oxb.keep (SameIn.of_below b11 (by omega))
  replace xuxb := xuxb.keep (SameIn.of_below b11 (by omega))
  replace org0 := org0.keep (SameIn.of_below b11 (by omega))
  replace B := B.trans (b11.mono (by omega))
  clear b11
  have yuxa0 : w11.cell? ⟨w6.heap.size, 0, none⟩ = some (.int .i64 a.w) := (by first | exact xuxa.cell 0)
  have yuxa1 : w11.cell? ⟨w6.heap.size, 1, none⟩ = some (.slice Auxa a.rows.length cuxa) := (by first | exact xuxa.cell 1)
  have ya0 : w11.cell? ⟨w.heap.size, 0, none⟩ = some (.int .i64 a.w) := (by first | exact xa.cell 0)
  have ya1 : w11.cell? ⟨w.heap.size, 1, none⟩ = some (sa) := (by first | exact xa.cell 1)
  go_wp2_with fail
  go_region_held3 (fun w' => w'.cell? ⟨w6.heap.size, 0, none⟩ = some (.int .i64 a.w) ∧ w'.cell? ⟨w6.heap.size, 1, none⟩ = some (.slice Auxa a.rows.length cuxa) ∧ w'.cell? ⟨w.heap.size, 0, none⟩ = some (.int .i64 a.w) ∧ w'.cell? ⟨w.heap.size, 1, none⟩ = some (sa))
    (first | ((try dsimp only); refine ⟨?_, ?_, ?_, ?_⟩ <;> assumption) | go_keep)
    ((first | (go_at_call 20; (with_reducible refine (toRegion_c (v := (.agg #[.int .i64 a.w, sa])) (x := a) _ (by exact ((oa.keep (SameIn.drew)).more (Nat.zero_le _) (le_drew (show w.heap.size ≤ w11.heap.size by omega)))) (by omega)).mono ?_); rintro e w12 ⟨uta, rfl, ota, b12⟩; replace b12 := below_undrew b12; have s12 := b12.size; replace xa := xa.keep (SameIn.of_below b12 (by omega)); replace xb := xb.keep (SameIn.of_below b12 (by omega)); replace oa := oa.keep (SameIn.of_below b12 (by omega)); replace ob := ob.keep (SameIn.of_below b12 (by omega)); replace orw0 := orw0.keep (SameIn.of_below b12 (by omega)); replace oxa := oxa.keep (SameIn.of_below b12 (by omega)); replace xuxa := xuxa.keep (SameIn.of_below b12 (by omega)); replace oxb := oxb.keep (SameIn.of_below b12 (by omega)); replace xuxb := xuxb.keep (SameIn.of_below b12 (by omega)); replace org0 := org0.keep (SameIn.of_below b12 (by omega)); replace B := B.trans (b12.mono (by omega)); clear b12; have yuxa0_12 : w12.cell? ⟨w6.heap.size, 0, none⟩ = some (.int .i64 a.w) := (by first | exact xuxa.cell 0); have yuxa1_12 : w12.cell? ⟨w6.heap.size, 1, none⟩ = some (.slice Auxa a.rows.length cuxa) := (by first | exact xuxa.cell 1); have ya0_12 : w12.cell? ⟨w.heap.size, 0, none⟩ = some (.int .i64 a.w) := (by first | exact xa.cell 0); have ya1_12 : w12.cell? ⟨w.heap.size, 1, none⟩ = some (sa) := (by first | exact xa.cell 1)) | (go_at_call 24; (with_reducible refine (eqRegion_c (x := a) _ (oxa.rd.more (Nat.zero_le _) (by omega)) (ota.rd.more (Nat.zero_le _) (by omega))).mono ?_); rintro e w13 ⟨rfl, b13⟩; have s13 := b13.size; replace xa := xa.keep (SameIn.of_below b13 (by omega)); replace xb := xb.keep (SameIn.of_below b13 (by omega)); replace oa := oa.keep (SameIn.of_below b13 (by omega)); replace ob := ob.keep (SameIn.of_below b13 (by omega)); replace orw0 := orw0.keep (SameIn.of_below b13 (by omega)); replace oxa := oxa.keep (SameIn.of_below b13 (by omega)); replace xuxa := xuxa.keep (SameIn.of_below b13 (by omega)); replace oxb := oxb.keep (SameIn.of_below b13 (by omega)); replace xuxb := xuxb.keep (SameIn.of_below b13 (by omega)); replace org0 := org0.keep (SameIn.of_below b13 (by omega)); replace ota := ota.keep (SameIn.of_below b13 (by omega)); replace B := B.trans (b13.mono (by omega)); clear b13; have yuxa0_13 : w13.cell? ⟨w6.heap.size, 0, none⟩ = some (.int .i64 a.w) := (by first | exact xuxa.cell 0); have yuxa1_13 : w13.cell? ⟨w6.heap.size, 1, none⟩ = some (.slice Auxa a.rows.length cuxa) := (by first | exact xuxa.cell 1); have ya0_13 : w13.cell? ⟨w.heap.size, 0, none⟩ = some (.int .i64 a.w) := (by first | exact xa.cell 0); have ya1_13 : w13.cell? ⟨w.heap.size, 1, none⟩ = some (sa) := (by first | exact xa.cell 1))))
  clear yuxa0_12 yuxa1_12 ya0_12 ya1_12 yuxa0_13 yuxa1_13 ya0_13 ya1_13
  clear yuxa0 yuxa1 ya0 ya1
  clear ota
  have yuxb0 : w13.cell? ⟨w8.heap.size, 0, none⟩ = some (.int .i64 b.w) := (by first | exact xuxb.cell 0)
  have yuxb1 : w13.cell? ⟨w8.heap.size, 1, none⟩ = some (.slice Auxb b.rows.length cuxb) := (by first | exact xuxb.cell 1)
  have yb0 : w13.cell? ⟨w.heap.size + 1, 0, none⟩ = some (.int .i64 b.w) := (by first | exact xb.cell 0)
  have yb1 : w13.cell? ⟨w.heap.size + 1, 1, none⟩ = some (sb) := (by first | exact xb.cell 1)
  go_wp2_with fail
  go_region_held3 (fun w' => w'.cell? ⟨w8.heap.size, 0, none⟩ = some (.int .i64 b.w) ∧ w'.cell? ⟨w8.heap.size, 1, none⟩ = some (.slice Auxb b.rows.length cuxb) ∧ w'.cell? ⟨w.heap.size + 1, 0, none⟩ = some (.int .i64 b.w) ∧ w'.cell? ⟨w.heap.size + 1, 1, none⟩ = some (sb))
    (first | ((try dsimp only); refine ⟨?_, ?_, ?_, ?_⟩ <;> assumption) | go_keep)
    ((first | (go_at_call 20; (with_reducible refine (toRegion_c (v := (.agg #[.int .i64 b.w, sb])) (x := b) _ (by exact ((ob.keep (SameIn.drew)).more (Nat.zero_le _) (le_drew (show w.heap.size ≤ w13.heap.size by omega)))) (by omega)).mono ?_); rintro e w14 ⟨utb, rfl, otb, b14⟩; replace b14 := below_undrew b14; have s14 := b14.size; replace xa := xa.keep (SameIn.of_below b14 (by omega)); replace xb := xb.keep (SameIn.of_below b14 (by omega)); replace oa := oa.keep (SameIn.of_below b14 (by omega)); replace ob := ob.keep (SameIn.of_below b14 (by omega)); replace orw0 := orw0.keep (SameIn.of_below b14 (by omega)); replace oxa := oxa.keep (SameIn.of_below b14 (by omega)); replace xuxa := xuxa.keep (SameIn.of_below b14 (by omega)); replace oxb := oxb.keep (SameIn.of_below b14 (by omega)); replace xuxb := xuxb.keep (SameIn.of_below b14 (by omega)); replace org0 := org0.keep (SameIn.of_below b14 (by omega)); replace B := B.trans (b14.mono (by omega)); clear b14; have yuxb0_14 : w14.cell? ⟨w8.heap.size, 0, none⟩ = some (.int .i64 b.w) := (by first | exact xuxb.cell 0); have yuxb1_14 : w14.cell? ⟨w8.heap.size, 1, none⟩ = some (.slice Auxb b.rows.length cuxb) := (by first | exact xuxb.cell 1); have yb0_14 : w14.cell? ⟨w.heap.size + 1, 0, none⟩ = some (.int .i64 b.w) := (by first | exact xb.cell 0); have yb1_14 : w14.cell? ⟨w.heap.size + 1, 1, none⟩ = some (sb) := (by first | exact xb.cell 1)) | (go_at_call 24; (with_reducible refine (eqRegion_c (x := b) _ (oxb.rd.more (Nat.zero_le _) (by omega)) (otb.rd.more (Nat.zero_le _) (by omega))).mono ?_); rintro e w15 ⟨rfl, b15⟩; have s15 := b15.size; replace xa := xa.keep (SameIn.of_below b15 (by omega)); replace xb := xb.keep (SameIn.of_below b15 (by omega)); replace oa := oa.keep (SameIn.of_below b15 (by omega)); replace ob := ob.keep (SameIn.of_below b15 (by omega)); replace orw0 := orw0.keep (SameIn.of_below b15 (by omega)); replace oxa := oxa.keep (SameIn.of_below b15 (by omega)); replace xuxa := xuxa.keep (SameIn.of_below b15 (by omega)); replace oxb := oxb.keep (SameIn.of_below b15 (by omega)); replace xuxb := xuxb.keep (SameIn.of_below b15 (by omega)); replace org0 := org0.keep (SameIn.of_below b15 (by omega)); replace otb := otb.keep (SameIn.of_below b15 (by omega)); replace B := B.trans (b15.mono (by omega)); clear b15; have yuxb0_15 : w15.cell? ⟨w8.heap.size, 0, none⟩ = some (.int .i64 b.w) := (by first | exact xuxb.cell 0); have yuxb1_15 : w15.cell? ⟨w8.heap.size, 1, none⟩ = some (.slice Auxb b.rows.length cuxb) := (by first | exact xuxb.cell 1); have yb0_15 : w15.cell? ⟨w.heap.size + 1, 0, none⟩ = some (.int .i64 b.w) := (by first | exact xb.cell 0); have yb1_15 : w15.cell? ⟨w.heap.size + 1, 1, none⟩ = some (sb) := (by first | exact xb.cell 1))))
  clear yuxb0_14 yuxb1_14 yb0_14 yb1_14 yuxb0_15 yuxb1_15 yb0_15 yb1_15
  clear yuxb0 yuxb1 yb0 yb1
  clear otb
  have yuxa0 : w15.cell? ⟨w6.heap.size, 0, none⟩ = some (.int .i64 a.w) := (by first | exact xuxa.cell 0)
  have yuxa1 : w15.cell? ⟨w6.heap.size, 1, none⟩ = some (.slice Auxa a.rows.length cuxa) := (by first | exact xuxa.cell 1)
  go_wp2_with fail
  clear yuxa0 yuxa1
  refine (markRegion_c _ _ (by omega) (by omega) (by omega) (by omega) oxa).mono ?_
  rintro e w16 ⟨rfl, oxa', b16⟩
  have s16 := b16.size
  replace xa := xa.keep (SameIn.of_out b16 (by omega) (by omega))
  replace xb := xb.keep (SameIn.of_out b16 (by omega) (by omega))
  replace oa := oa.keep (SameIn.of_out b16 (by omega) (by omega))
  replace ob := ob.keep (SameIn.of_out b16 (by omega) (by omega))
  replace orw0 := orw0.keep (SameIn.of_out b16 (by omega) (by omega))
  replace xuxa := xuxa.keep (SameIn.of_out b16 (by omega) (by omega))
  replace oxb := oxb.keep (SameIn.of_out b16 (by omega) (by omega))
  replace xuxb := xuxb.keep (SameIn.of_out b16 (by omega) (by omega))
  replace org0 := org0.keep (SameIn.of_out b16 (by omega) (by omega))
  clear oxa
  have oxa := oxa'
  clear oxa'
  replace B := B.trans (b16.below (by omega) (by omega))
  clear b16
  have yuxb0 : w16.cell? ⟨w8.heap.size, 0, none⟩ = some (.int .i64 b.w) := (by first | exact xuxb.cell 0)
  have yuxb1 : w16.cell? ⟨w8.heap.size, 1, none⟩ = some (.slice Auxb b.rows.length cuxb) := (by first | exact xuxb.cell 1)
  go_wp2_with fail
  clear yuxb0 yuxb1
  refine (markRegion_c _ _ (by omega) (by omega) (by omega) (by omega) oxb).mono ?_
  rintro e w17 ⟨rfl, oxb', b17⟩
  have s17 := b17.size
  replace xa := xa.keep (SameIn.of_out b17 (by omega) (by omega))
  replace xb := xb.keep (SameIn.of_out b17 (by omega) (by omega))
  replace oa := oa.keep (SameIn.of_out b17 (by omega) (by omega))
  replace ob := ob.keep (SameIn.of_out b17 (by omega) (by omega))
  replace orw0 := orw0.keep (SameIn.of_out b17 (by omega) (by omega))
  replace oxa := oxa.keep (SameIn.of_out b17 (by omega) (by omega))
  replace xuxa := xuxa.keep (SameIn.of_out b17 (by omega) (by omega))
  replace xuxb := xuxb.keep (SameIn.of_out b17 (by omega) (by omega))
  replace org0 := org0.keep (SameIn.of_out b17 (by omega) (by omega))
  clear oxb
  have oxb := oxb'
  clear oxb'
  replace B := B.trans (b17.below (by omega) (by omega))
  clear b17
  go_wp2_with fail
  refine (eqEditS_c _ (org0.rd.more (Nat.zero_le _) (by omega)) (orw0.rd.more (Nat.zero_le _) (by omega))).mono ?_
  rintro e w18 ⟨rfl, b18⟩
  have s18 := b18.size
  replace xa := xa.keep (SameIn.of_below b18 (by omega))
  replace xb := xb.keep (SameIn.of_below b18 (by omega))
  replace oa := oa.keep (SameIn.of_below b18 (by omega))
  replace ob := ob.keep (SameIn.of_below b18 (by omega))
  replace orw0 := orw0.keep (SameIn.of_below b18 (by omega))
  replace oxa := oxa.keep (SameIn.of_below b18 (by omega))
  replace xuxa := xuxa.keep (SameIn.of_below b18 (by omega))
  replace oxb := oxb.keep (SameIn.of_below b18 (by omega))
  replace xuxb := xuxb.keep (SameIn.of_below b18 (by omega))
  replace org0 := org0.keep (SameIn.of_below b18 (by omega))
  replace B := B.trans (b18.mono (by omega))
  clear b18
  have hl0 : (betw a b).length ≤ 1048576 := (by have := @betw_length a b; omega)
  go_wp2_with fail
  refine (markEditS_c _ _ hl0 (by omega) (by omega) org0).mono ?_
  rintro e w19 ⟨rfl, org0', b19⟩
  have s19 := b19.size
  replace xa := xa.keep (SameIn.of_out b19 (by omega) (by omega))
  replace xb := xb.keep (SameIn.of_out b19 (by omega) (by omega))
  replace oa := oa.keep (SameIn.of_out b19 (by omega) (by omega))
  replace ob := ob.keep (SameIn.of_out b19 (by omega) (by omega))
  replace orw0 := orw0.keep (SameIn.of_out b19 (by omega) (by omega))
  replace oxa := oxa.keep (SameIn.of_out b19 (by omega) (by omega))
  replace xuxa := xuxa.keep (SameIn.of_out b19 (by omega) (by omega))
  replace oxb := oxb.keep (SameIn.of_out b19 (by omega) (by omega))
  replace xuxb := xuxb.keep (SameIn.of_out b19 (by omega) (by omega))
  clear org0
  have org0 := org0'
  clear org0'
  replace B := B.trans (b19.below (by omega) (by omega))
  clear b19
  go_wp2_with fail
  refine (heldEditS_c _ _ hl0 (by omega) (by omega) org0.rd).mono ?_
  rintro e w20 ⟨rfl, rfl⟩
  have ya0 : w19.cell? ⟨w.heap.size, 0, none⟩ = some (.int .i64 a.w) := (by first | exact xa.cell 0)
  have ya1 : w19.cell? ⟨w.heap.size, 1, none⟩ = some (sa) := (by first | exact xa.cell 1)
  have yb0 : w19.cell? ⟨w.heap.size + 1, 0, none⟩ = some (.int .i64 b.w) := (by first | exact xb.cell 0)
  have yb1 : w19.cell? ⟨w.heap.size + 1, 1, none⟩ = some (sb) := (by first | exact xb.cell 1)
  go_wp2_with fail
  go_region_held3 (fun w' => w'.cell? ⟨w.heap.size, 0, none⟩ = some (.int .i64 a.w) ∧ w'.cell? ⟨w.heap.size, 1, none⟩ = some (sa) ∧ w'.cell? ⟨w.heap.size + 1, 0, none⟩ = some (.int .i64 b.w) ∧ w'.cell? ⟨w.heap.size + 1, 1, none⟩ = some (sb))
    (first | ((try dsimp only); refine ⟨?_, ?_, ?_, ?_⟩ <;> assumption) | go_keep)
    ((first | (go_at_call 20; (with_reducible refine (toRegion_c (v := (.agg #[.int .i64 a.w, sa])) (x := a) _ (by exact ((oa.keep (SameIn.drew)).more (Nat.zero_le _) (le_drew (show w.heap.size ≤ w19.heap.size by omega)))) (by omega)).mono ?_); rintro e w21 ⟨uya, rfl, oya, b21⟩; replace b21 := below_undrew b21; have s21 := b21.size; replace xa := xa.keep (SameIn.of_below b21 (by omega)); replace xb := xb.keep (SameIn.of_below b21 (by omega)); replace oa := oa.keep (SameIn.of_below b21 (by omega)); replace ob := ob.keep (SameIn.of_below b21 (by omega)); replace orw0 := orw0.keep (SameIn.of_below b21 (by omega)); replace oxa := oxa.keep (SameIn.of_below b21 (by omega)); replace xuxa := xuxa.keep (SameIn.of_below b21 (by omega)); replace oxb := oxb.keep (SameIn.of_below b21 (by omega)); replace xuxb := xuxb.keep (SameIn.of_below b21 (by omega)); replace org0 := org0.keep (SameIn.of_below b21 (by omega)); replace B := B.trans (b21.mono (by omega)); clear b21; have ya0_21 : w21.cell? ⟨w.heap.size, 0, none⟩ = some (.int .i64 a.w) := (by first | exact xa.cell 0); have ya1_21 : w21.cell? ⟨w.heap.size, 1, none⟩ = some (sa) := (by first | exact xa.cell 1); have yb0_21 : w21.cell? ⟨w.heap.size + 1, 0, none⟩ = some (.int .i64 b.w) := (by first | exact xb.cell 0); have yb1_21 : w21.cell? ⟨w.heap.size + 1, 1, none⟩ = some (sb) := (by first | exact xb.cell 1)) | (go_at_call 20; (with_reducible refine (toRegion_c (v := (.agg #[.int .i64 b.w, sb])) (x := b) _ (by exact (ob.more (Nat.zero_le _) (show w.heap.size ≤ w21.heap.size by omega))) (by omega)).mono ?_); rintro e w22 ⟨uyb, rfl, oyb, b22⟩; have s22 := b22.size; replace xa := xa.keep (SameIn.of_below b22 (by omega)); replace xb := xb.keep (SameIn.of_below b22 (by omega)); replace oa := oa.keep (SameIn.of_below b22 (by omega)); replace ob := ob.keep (SameIn.of_below b22 (by omega)); replace orw0 := orw0.keep (SameIn.of_below b22 (by omega)); replace oxa := oxa.keep (SameIn.of_below b22 (by omega)); replace xuxa := xuxa.keep (SameIn.of_below b22 (by omega)); replace oxb := oxb.keep (SameIn.of_below b22 (by omega)); replace xuxb := xuxb.keep (SameIn.of_below b22 (by omega)); replace org0 := org0.keep (SameIn.of_below b22 (by omega)); replace oya := oya.keep (SameIn.of_below b22 (by omega)); replace B := B.trans (b22.mono (by omega)); clear b22; have ya0_22 : w22.cell? ⟨w.heap.size, 0, none⟩ = some (.int .i64 a.w) := (by first | exact xa.cell 0); have ya1_22 : w22.cell? ⟨w.heap.size, 1, none⟩ = some (sa) := (by first | exact xa.cell 1); have yb0_22 : w22.cell? ⟨w.heap.size + 1, 0, none⟩ = some (.int .i64 b.w) := (by first | exact xb.cell 0); have yb1_22 : w22.cell? ⟨w.heap.size + 1, 1, none⟩ = some (sb) := (by first | exact xb.cell 1)) | (go_at_call 31; (with_reducible refine (impl_betw_c _ (oya.rd.more (Nat.zero_le _) (by omega)) (oyb.rd.more (Nat.zero_le _) (by omega))).mono ?_); rintro e w23 ⟨rh0, rfl, orh0, b23⟩; have s23 := b23.size; replace xa := xa.keep (SameIn.of_below b23 (by omega)); replace xb := xb.keep (SameIn.of_below b23 (by omega)); replace oa := oa.keep (SameIn.of_below b23 (by omega)); replace ob := ob.keep (SameIn.of_below b23 (by omega)); replace orw0 := orw0.keep (SameIn.of_below b23 (by omega)); replace oxa := oxa.keep (SameIn.of_below b23 (by omega)); replace xuxa := xuxa.keep (SameIn.of_below b23 (by omega)); replace oxb := oxb.keep (SameIn.of_below b23 (by omega)); replace xuxb := xuxb.keep (SameIn.of_below b23 (by omega)); replace org0 := org0.keep (SameIn.of_below b23 (by omega)); replace oya := oya.keep (SameIn.of_below b23 (by omega)); replace oyb := oyb.keep (SameIn.of_below b23 (by omega)); replace B := B.trans (b23.mono (by omega)); clear b23; have ya0_23 : w23.cell? ⟨w.heap.size, 0, none⟩ = some (.int .i64 a.w) := (by first | exact xa.cell 0); have ya1_23 : w23.cell? ⟨w.heap.size, 1, none⟩ = some (sa) := (by first | exact xa.cell 1); have yb0_23 : w23.cell? ⟨w.heap.size + 1, 0, none⟩ = some (.int .i64 b.w) := (by first | exact xb.cell 0); have yb1_23 : w23.cell? ⟨w.heap.size + 1, 1, none⟩ = some (sb) := (by first | exact xb.cell 1))))
  clear ya0_21 ya1_21 yb0_21 yb1_21 ya0_22 ya1_22 yb0_22 yb1_22 ya0_23 ya1_23 yb0_23 yb1_23
  clear ya0 ya1 yb0 yb1
  clear oya
  clear oyb
  go_wp2_with fail
  refine (eqEditS_c _ (orh0.rd.more (Nat.zero_le _) (by omega)) (orw0.rd.more (Nat.zero_le _) (by omega))).mono ?_
  rintro e w24 ⟨rfl, b24⟩
  have s24 := b24.size
  replace xa := xa.keep (SameIn.of_below b24 (by omega))
  replace xb := xb.keep (SameIn.of_below b24 (by omega))
  replace oa := oa.keep (SameIn.of_below b24 (by omega))
  replace ob := ob.keep (SameIn.of_below b24 (by omega))
  replace orw0 := orw0.keep (SameIn.of_below b24 (by omega))
  replace oxa := oxa.keep (SameIn.of_below b24 (by omega))
  replace xuxa := xuxa.keep (SameIn.of_below b24 (by omega))
  replace oxb := oxb.keep (SameIn.of_below b24 (by omega))
  replace xuxb := xuxb.keep (SameIn.of_below b24 (by omega))
  replace org0 := org0.keep (SameIn.of_below b24 (by omega))
  replace orh0 := orh0.keep (SameIn.of_below b24 (by omega))
  replace B := B.trans (b24.mono (by omega))
  clear b24
  go_wp2_with fail
  refine (heldEditS_c _ _ hl0 (by omega) (by omega) org0.rd).mono ?_
  rintro e w25 ⟨rfl, rfl⟩
  go_wp2
  go_ret
  exact ⟨rfl, B⟩

end Go.Proofs.Ytlncpkdkdhnfeaa
