
/-
  The law FnExactCommonRegion, walked by contracts, under the library's table.
-/
import Derived.Test.YtelneohlpljblaaGreatDoorComW
import Derived.Test.YtelneohlpljblaaGreatDoorLawCells
import Derived.Test.YtelneohlpljblaaGreatDoorLawInts
import Derived.Test.YtelneohlpljblaaGreatDoorTabOf
namespace Go.Proofs.YtelneohlpljblaaGreatDoor
open Go.RowKit

set_option maxRecDepth 100000 in
set_option maxHeartbeats 8000000 in
theorem law_CommonRegion (va : Value) (a : List Cell) (vb : Value) (b : List Cell) (vr : Value) (r : Reg) (w : World) (ha : CellsRd w 0 w.heap.size va a) (hb : CellsRd w 0 w.heap.size vb b) (hr : RegRd w 0 w.heap.size vr r) (htab : Tab64 w) :
    Calls Tryz.prog 3 #[va, vb, vr] w fun e w' => e = .returned (.bool true) ∧ Below w.heap.size w w' := by
  obtain ⟨sr, rfl, hsr⟩ := id hr
  have B : Below w.heap.size w (w.alloc (.cells #[.int .i64 r.w, sr] 25)) := ((Below.refl w.heap.size w).alloc (by first | exact Nat.le_refl _ | (simp; done) | (simp; omega)) _)
  have s0 : w.heap.size + 1 ≤ (w.alloc (.cells #[.int .i64 r.w, sr] 25)).heap.size := by simp
  have xr : BoxIn (w.alloc (.cells #[.int .i64 r.w, sr] 25)) w.heap.size (w.heap.size + 1) (w.heap.size) 25 #[.int .i64 r.w, sr] := ⟨by have := Blk.new w 25 #[.int .i64 r.w, sr]; simpa using this, by omega, by omega⟩
  have oa := ha.keep (SameIn.of_below B (Nat.le_refl _))
  have ob := hb.keep (SameIn.of_below B (Nat.le_refl _))
  have or := hr.keep (SameIn.of_below B (Nat.le_refl _))
  by_cases q0 : 1048576 < (a.length : Int)
  · skip
    go_enter Tryz.func3, Tryz.ntmps3
    go_wp2_with fail
    generalize (w.alloc (.cells #[.int .i64 r.w, sr] 25)) = W0 at *
    refine (szCellS_c _ _ (oa.more (Nat.zero_le _) (by omega)) (by omega) (by omega)).mono ?_
    rintro e w1 ⟨rfl, rfl⟩
    rw [if_pos (by omega)]
    go_wp2
    go_ret
    exact ⟨rfl, B⟩
  by_cases q1 : 1048576 < (a.length : Int) + (b.length : Int)
  · skip
    go_enter Tryz.func3, Tryz.ntmps3
    go_wp2_with fail
    generalize (w.alloc (.cells #[.int .i64 r.w, sr] 25)) = W0 at *
    refine (szCellS_c _ _ (oa.more (Nat.zero_le _) (by omega)) (by omega) (by omega)).mono ?_
    rintro e w1 ⟨rfl, rfl⟩
    rw [if_neg (by omega)]
    go_wp2_with fail
    refine (szCellS_c _ _ (ob.more (Nat.zero_le _) (by omega)) (by omega) (by omega)).mono ?_
    rintro e w2 ⟨rfl, rfl⟩
    rw [if_pos (by omega)]
    go_wp2
    go_ret
    exact ⟨rfl, B⟩
  by_cases q2 : 1048576 < (a.length : Int) + (b.length : Int) + (r.rows.length : Int)
  · skip
    go_enter Tryz.func3, Tryz.ntmps3
    go_wp2_with fail
    generalize (w.alloc (.cells #[.int .i64 r.w, sr] 25)) = W0 at *
    refine (szCellS_c _ _ (oa.more (Nat.zero_le _) (by omega)) (by omega) (by omega)).mono ?_
    rintro e w1 ⟨rfl, rfl⟩
    rw [if_neg (by omega)]
    go_wp2_with fail
    refine (szCellS_c _ _ (ob.more (Nat.zero_le _) (by omega)) (by omega) (by omega)).mono ?_
    rintro e w2 ⟨rfl, rfl⟩
    rw [if_neg (by omega)]
    have yr0 : W0.cell? ⟨w.heap.size, 0, none⟩ = some (.int .i64 r.w) := (by first | exact xr.cell 0)
    have yr1 : W0.cell? ⟨w.heap.size, 1, none⟩ = some (sr) := (by first | exact xr.cell 1)
    go_wp2_with fail
    clear yr0 yr1
    refine (szRegion_c _ _ (or.more (Nat.zero_le _) (by omega)) (by omega) (by omega)).mono ?_
    rintro e w3 ⟨rfl, b3⟩
    have s3 := b3.size
    replace xr := xr.keep (SameIn.of_below b3 (by omega))
    replace oa := oa.keep (SameIn.of_below b3 (by omega))
    replace ob := ob.keep (SameIn.of_below b3 (by omega))
    replace or := or.keep (SameIn.of_below b3 (by omega))
    replace B := B.trans (b3.mono (by omega))
    clear b3
    rw [if_pos (by omega)]
    go_wp2
    go_ret
    exact ⟨rfl, B⟩
  go_enter Tryz.func3, Tryz.ntmps3
  go_wp2_with fail
  generalize (w.alloc (.cells #[.int .i64 r.w, sr] 25)) = W0 at *
  refine (szCellS_c _ _ (oa.more (Nat.zero_le _) (by omega)) (by omega) (by omega)).mono ?_
  rintro e w1 ⟨rfl, rfl⟩
  rw [if_neg (by omega)]
  go_wp2_with fail
  refine (szCellS_c _ _ (ob.more (Nat.zero_le _) (by omega)) (by omega) (by omega)).mono ?_
  rintro e w2 ⟨rfl, rfl⟩
  rw [if_neg (by omega)]
  have yr0 : W0.cell? ⟨w.heap.size, 0, none⟩ = some (.int .i64 r.w) := (by first | exact xr.cell 0)
  have yr1 : W0.cell? ⟨w.heap.size, 1, none⟩ = some (sr) := (by first | exact xr.cell 1)
  go_wp2_with fail
  clear yr0 yr1
  refine (szRegion_c _ _ (or.more (Nat.zero_le _) (by omega)) (by omega) (by omega)).mono ?_
  rintro e w3 ⟨rfl, b3⟩
  have s3 := b3.size
  replace xr := xr.keep (SameIn.of_below b3 (by omega))
  replace oa := oa.keep (SameIn.of_below b3 (by omega))
  replace ob := ob.keep (SameIn.of_below b3 (by omega))
  replace or := or.keep (SameIn.of_below b3 (by omega))
  replace B := B.trans (b3.mono (by omega))
  clear b3
  rw [if_neg (by omega)]
  have yr0 : w3.cell? ⟨w.heap.size, 0, none⟩ = some (.int .i64 r.w) := (by first | exact xr.cell 0)
  have yr1 : w3.cell? ⟨w.heap.size, 1, none⟩ = some (sr) := (by first | exact xr.cell 1)
  go_wp2_with fail
  go_region_held3 (fun w' => w'.cell? ⟨w.heap.size, 0, none⟩ = some (.int .i64 r.w) ∧ w'.cell? ⟨w.heap.size, 1, none⟩ = some (sr))
    (first | ((try dsimp only); refine ⟨?_, ?_⟩ <;> assumption) | go_keep)
    ((first | (go_at_call 13; (with_reducible refine (toCellS_c (v := va) (x := a) _ (by exact ((oa.keep (SameIn.drew)).more (Nat.zero_le _) (le_drew (show w.heap.size ≤ w3.heap.size by omega)))) (by omega)).mono ?_); rintro e w4 ⟨usa, rfl, osa, b4⟩; replace b4 := below_undrew b4; have s4 := b4.size; replace xr := xr.keep (SameIn.of_below b4 (by omega)); replace oa := oa.keep (SameIn.of_below b4 (by omega)); replace ob := ob.keep (SameIn.of_below b4 (by omega)); replace or := or.keep (SameIn.of_below b4 (by omega)); replace B := B.trans (b4.mono (by omega)); clear b4; have yr0_4 : w4.cell? ⟨w.heap.size, 0, none⟩ = some (.int .i64 r.w) := (by first | exact xr.cell 0); have yr1_4 : w4.cell? ⟨w.heap.size, 1, none⟩ = some (sr) := (by first | exact xr.cell 1)) | (go_at_call 13; (with_reducible refine (toCellS_c (v := vb) (x := b) _ (by exact (ob.more (Nat.zero_le _) (show w.heap.size ≤ w4.heap.size by omega))) (by omega)).mono ?_); rintro e w5 ⟨usb, rfl, osb, b5⟩; have s5 := b5.size; replace xr := xr.keep (SameIn.of_below b5 (by omega)); replace oa := oa.keep (SameIn.of_below b5 (by omega)); replace ob := ob.keep (SameIn.of_below b5 (by omega)); replace or := or.keep (SameIn.of_below b5 (by omega)); replace osa := osa.keep (SameIn.of_below b5 (by omega)); replace B := B.trans (b5.mono (by omega)); clear b5; have yr0_5 : w5.cell? ⟨w.heap.size, 0, none⟩ = some (.int .i64 r.w) := (by first | exact xr.cell 0); have yr1_5 : w5.cell? ⟨w.heap.size, 1, none⟩ = some (sr) := (by first | exact xr.cell 1)) | (go_at_call 14; (with_reducible refine (toRegion_c (v := (.agg #[.int .i64 r.w, sr])) (x := r) _ (by exact (or.more (Nat.zero_le _) (show w.heap.size ≤ w5.heap.size by omega))) (by omega)).mono ?_); rintro e w6 ⟨usr, rfl, osr, b6⟩; have s6 := b6.size; replace xr := xr.keep (SameIn.of_below b6 (by omega)); replace oa := oa.keep (SameIn.of_below b6 (by omega)); replace ob := ob.keep (SameIn.of_below b6 (by omega)); replace or := or.keep (SameIn.of_below b6 (by omega)); replace osa := osa.keep (SameIn.of_below b6 (by omega)); replace osb := osb.keep (SameIn.of_below b6 (by omega)); replace B := B.trans (b6.mono (by omega)); clear b6; have yr0_6 : w6.cell? ⟨w.heap.size, 0, none⟩ = some (.int .i64 r.w) := (by first | exact xr.cell 0); have yr1_6 : w6.cell? ⟨w.heap.size, 1, none⟩ = some (sr) := (by first | exact xr.cell 1)) | (go_at_call 12; (with_reducible refine (spec_comR_c _ (osa.rd.more (Nat.zero_le _) (by omega)) (osb.rd.more (Nat.zero_le _) (by omega)) (osr.rd.more (Nat.zero_le _) (by omega)) (by omega) (by omega)).mono ?_); rintro e w7 ⟨rfl, b7⟩; have s7 := b7.size; replace xr := xr.keep (SameIn.of_below b7 (by omega)); replace oa := oa.keep (SameIn.of_below b7 (by omega)); replace ob := ob.keep (SameIn.of_below b7 (by omega)); replace or := or.keep (SameIn.of_below b7 (by omega)); replace osa := osa.keep (SameIn.of_below b7 (by omega)); replace osb := osb.keep (SameIn.of_below b7 (by omega)); replace osr := osr.keep (SameIn.of_below b7 (by omega)); replace B := B.trans (b7.mono (by omega)); clear b7; have yr0_7 : w7.cell? ⟨w.heap.size, 0, none⟩ = some (.int .i64 r.w) := (by first | exact xr.cell 0); have yr1_7 : w7.cell? ⟨w.heap.size, 1, none⟩ = some (sr) := (by first | exact xr.cell 1))))
  clear yr0_4 yr1_4 yr0_5 yr1_5 yr0_6 yr1_6 yr0_7 yr1_7
  clear yr0 yr1
  clear osa
  clear osb
  clear osr
  go_wp2_with fail
  refine (toCellS_c _ (oa.more (Nat.zero_le _) (by omega)) (by omega)).mono ?_
  rintro e w8 ⟨uxa, rfl, oxa, b8⟩
  have s8 := b8.size
  replace xr := xr.keep (SameIn.of_below b8 (by omega))
  replace oa := oa.keep (SameIn.of_below b8 (by omega))
  replace ob := ob.keep (SameIn.of_below b8 (by omega))
  replace or := or.keep (SameIn.of_below b8 (by omega))
  replace B := B.trans (b8.mono (by omega))
  clear b8
  go_wp2_with fail
  refine (toCellS_c _ (ob.more (Nat.zero_le _) (by omega)) (by omega)).mono ?_
  rintro e w9 ⟨uxb, rfl, oxb, b9⟩
  have s9 := b9.size
  replace xr := xr.keep (SameIn.of_below b9 (by omega))
  replace oa := oa.keep (SameIn.of_below b9 (by omega))
  replace ob := ob.keep (SameIn.of_below b9 (by omega))
  replace or := or.keep (SameIn.of_below b9 (by omega))
  replace oxa := oxa.keep (SameIn.of_below b9 (by omega))
  replace B := B.trans (b9.mono (by omega))
  clear b9
  have yr0 : w9.cell? ⟨w.heap.size, 0, none⟩ = some (.int .i64 r.w) := (by first | exact xr.cell 0)
  have yr1 : w9.cell? ⟨w.heap.size, 1, none⟩ = some (sr) := (by first | exact xr.cell 1)
  go_wp2_with fail
  clear yr0 yr1
  refine (toRegion_c _ (or.more (Nat.zero_le _) (by omega)) (by omega)).mono ?_
  rintro e w10 ⟨uxr, rfl, oxr, b10⟩
  have s10 := b10.size
  replace xr := xr.keep (SameIn.of_below b10 (by omega))
  replace oa := oa.keep (SameIn.of_below b10 (by omega))
  replace ob := ob.keep (SameIn.of_below b10 (by omega))
  replace or := or.keep (SameIn.of_below b10 (by omega))
  replace oxa := oxa.keep (SameIn.of_below b10 (by omega))
  replace oxb := oxb.keep (SameIn.of_below b10 (by omega))
  replace B := B.trans (b10.mono (by omega))
  clear b10
  obtain ⟨tuxr, rfl, guxr⟩ := id oxr
  obtain ⟨Auxr, cuxr, rfl, _, _⟩ := guxr.rd
  clear guxr
  have bb : Below w10.heap.size w10 (w10.alloc (.cells #[.int .i64 r.w, .slice Auxr r.rows.length cuxr] 31)) := (Below.refl _ _).alloc (Nat.le_refl _) _
  have s11 : w10.heap.size + 1 ≤ (w10.alloc (.cells #[.int .i64 r.w, .slice Auxr r.rows.length cuxr] 31)).heap.size := by simp
  replace xr := xr.keep (SameIn.of_below bb (by omega))
  replace oa := oa.keep (SameIn.of_below bb (by omega))
  replace ob := ob.keep (SameIn.of_below bb (by omega))
  replace or := or.keep (SameIn.of_below bb (by omega))
  replace oxa := oxa.keep (SameIn.of_below bb (by omega))
  replace oxb := oxb.keep (SameIn.of_below bb (by omega))
  replace oxr := oxr.keep (SameIn.of_below bb (by omega))
  replace B := B.trans (bb.mono (by omega))
  clear bb
  have xuxr : BoxIn (w10.alloc (.cells #[.int .i64 r.w, .slice Auxr r.rows.length cuxr] 31)) w10.heap.size (w10.heap.size + 1) w10.heap.size 31 #[.int .i64 r.w, .slice Auxr r.rows.length cuxr] := ⟨Blk.new _ _ _, Nat.le_refl _, Nat.lt_succ_self _⟩
  have yuxr0 : (w10.alloc (.cells #[.int .i64 r.w, .slice Auxr r.rows.length cuxr] 31)).cell? ⟨w10.heap.size, 0, none⟩ = some (.int .i64 r.w) := (by first | exact xuxr.cell 0)
  have yuxr1 : (w10.alloc (.cells #[.int .i64 r.w, .slice Auxr r.rows.length cuxr] 31)).cell? ⟨w10.heap.size, 1, none⟩ = some (.slice Auxr r.rows.length cuxr) := (by first | exact xuxr.cell 1)
  go_wp2_with fail
  generalize w10.alloc (.cells #[.int .i64 r.w, .slice Auxr r.rows.length cuxr] 31) = w11 at *
  clear yuxr0 yuxr1
  refine (impl_comR_c _ (oxa.rd.more (Nat.zero_le _) (by omega)) (oxb.rd.more (Nat.zero_le _) (by omega)) (oxr.rd.more (Nat.zero_le _) (by omega)) (by omega) (by omega) (tab64_on htab B)).mono ?_
  rintro e w12 ⟨rfl, b12⟩
  have s12 := b12.size
  replace xr := xr.keep (SameIn.of_below b12 (by omega))
  replace oa := oa.keep (SameIn.of_below b12 (by omega))
  replace ob := ob.keep (SameIn.of_below b12 (by omega))
  replace or := or.keep (SameIn.of_below b12 (by omega))
  replace oxa := oxa.keep (SameIn.of_below b12 (by omega))
  replace oxb := oxb.keep (SameIn.of_below b12 (by omega))
  replace oxr := oxr.keep (SameIn.of_below b12 (by omega))
  replace xuxr := xuxr.keep (SameIn.of_below b12 (by omega))
  replace B := B.trans (b12.mono (by omega))
  clear b12
  go_wp2_with fail
  refine (toCellS_c _ (oa.more (Nat.zero_le _) (by omega)) (by omega)).mono ?_
  rintro e w13 ⟨uta, rfl, ota, b13⟩
  have s13 := b13.size
  replace xr := xr.keep (SameIn.of_below b13 (by omega))
  replace oa := oa.keep (SameIn.of_below b13 (by omega))
  replace ob := ob.keep (SameIn.of_below b13 (by omega))
  replace or := or.keep (SameIn.of_below b13 (by omega))
  replace oxa := oxa.keep (SameIn.of_below b13 (by omega))
  replace oxb := oxb.keep (SameIn.of_below b13 (by omega))
  replace oxr := oxr.keep (SameIn.of_below b13 (by omega))
  replace xuxr := xuxr.keep (SameIn.of_below b13 (by omega))
  replace B := B.trans (b13.mono (by omega))
  clear b13
  go_wp2_with fail
  refine (eqCellS_c _ (oxa.rd.more (Nat.zero_le _) (by omega)) (ota.rd.more (Nat.zero_le _) (by omega))).mono ?_
  rintro e w14 ⟨rfl, b14⟩
  have s14 := b14.size
  replace xr := xr.keep (SameIn.of_below b14 (by omega))
  replace oa := oa.keep (SameIn.of_below b14 (by omega))
  replace ob := ob.keep (SameIn.of_below b14 (by omega))
  replace or := or.keep (SameIn.of_below b14 (by omega))
  replace oxa := oxa.keep (SameIn.of_below b14 (by omega))
  replace oxb := oxb.keep (SameIn.of_below b14 (by omega))
  replace oxr := oxr.keep (SameIn.of_below b14 (by omega))
  replace xuxr := xuxr.keep (SameIn.of_below b14 (by omega))
  replace ota := ota.keep (SameIn.of_below b14 (by omega))
  replace B := B.trans (b14.mono (by omega))
  clear b14
  clear ota
  go_wp2_with fail
  refine (toCellS_c _ (ob.more (Nat.zero_le _) (by omega)) (by omega)).mono ?_
  rintro e w15 ⟨utb, rfl, otb, b15⟩
  have s15 := b15.size
  replace xr := xr.keep (SameIn.of_below b15 (by omega))
  replace oa := oa.keep (SameIn.of_below b15 (by omega))
  replace ob := ob.keep (SameIn.of_below b15 (by omega))
  replace or := or.keep (SameIn.of_below b15 (by omega))
  replace oxa := oxa.keep (SameIn.of_below b15 (by omega))
  replace oxb := oxb.keep (SameIn.of_below b15 (by omega))
  replace oxr := oxr.keep (SameIn.of_below b15 (by omega))
  replace xuxr := xuxr.keep (SameIn.of_below b15 (by omega))
  replace B := B.trans (b15.mono (by omega))
  clear b15
  go_wp2_with fail
  refine (eqCellS_c _ (oxb.rd.more (Nat.zero_le _) (by omega)) (otb.rd.more (Nat.zero_le _) (by omega))).mono ?_
  rintro e w16 ⟨rfl, b16⟩
  have s16 := b16.size
  replace xr := xr.keep (SameIn.of_below b16 (by omega))
  replace oa := oa.keep (SameIn.of_below b16 (by omega))
  replace ob := ob.keep (SameIn.of_below b16 (by omega))
  replace or := or.keep (SameIn.of_below b16 (by omega))
  replace oxa := oxa.keep (SameIn.of_below b16 (by omega))
  replace oxb := oxb.keep (SameIn.of_below b16 (by omega))
  replace oxr := oxr.keep (SameIn.of_below b16 (by omega))
  replace xuxr := xuxr.keep (SameIn.of_below b16 (by omega))
  replace otb := otb.keep (SameIn.of_below b16 (by omega))
  replace B := B.trans (b16.mono (by omega))
  clear b16
  clear otb
  have yuxr0 : w16.cell? ⟨w10.heap.size, 0, none⟩ = some (.int .i64 r.w) := (by first | exact xuxr.cell 0)
  have yuxr1 : w16.cell? ⟨w10.heap.size, 1, none⟩ = some (.slice Auxr r.rows.length cuxr) := (by first | exact xuxr.cell 1)
  have yr0 : w16.cell? ⟨w.heap.size, 0, none⟩ = some (.int .i64 r.w) := (by first | exact xr.cell 0)
  have yr1 : w16.cell? ⟨w.heap.size, 1, none⟩ = some (sr) := (by first | exact xr.cell 1)
  go_wp2_with fail
  go_region_held3 (fun w' => w'.cell? ⟨w10.heap.size, 0, none⟩ = some (.int .i64 r.w) ∧ w'.cell? ⟨w10.heap.size, 1, none⟩ = some (.slice Auxr r.rows.length cuxr) ∧ w'.cell? ⟨w.heap.size, 0, none⟩ = some (.int .i64 r.w) ∧ w'.cell? ⟨w.heap.size, 1, none⟩ = some (sr))
    (first | ((try dsimp only); refine ⟨?_, ?_, ?_, ?_⟩ <;> assumption) | go_keep)
    ((first | (go_at_call 14; (with_reducible refine (toRegion_c (v := (.agg #[.int .i64 r.w, sr])) (x := r) _ (by exact ((or.keep (SameIn.drew)).more (Nat.zero_le _) (le_drew (show w.heap.size ≤ w16.heap.size by omega)))) (by omega)).mono ?_); rintro e w17 ⟨utr, rfl, otr, b17⟩; replace b17 := below_undrew b17; have s17 := b17.size; replace xr := xr.keep (SameIn.of_below b17 (by omega)); replace oa := oa.keep (SameIn.of_below b17 (by omega)); replace ob := ob.keep (SameIn.of_below b17 (by omega)); replace or := or.keep (SameIn.of_below b17 (by omega)); replace oxa := oxa.keep (SameIn.of_below b17 (by omega)); replace oxb := oxb.keep (SameIn.of_below b17 (by omega)); replace oxr := oxr.keep (SameIn.of_below b17 (by omega)); replace xuxr := xuxr.keep (SameIn.of_below b17 (by omega)); replace B := B.trans (b17.mono (by omega)); clear b17; have yuxr0_17 : w17.cell? ⟨w10.heap.size, 0, none⟩ = some (.int .i64 r.w) := (by first | exact xuxr.cell 0); have yuxr1_17 : w17.cell? ⟨w10.heap.size, 1, none⟩ = some (.slice Auxr r.rows.length cuxr) := (by first | exact xuxr.cell 1); have yr0_17 : w17.cell? ⟨w.heap.size, 0, none⟩ = some (.int .i64 r.w) := (by first | exact xr.cell 0); have yr1_17 : w17.cell? ⟨w.heap.size, 1, none⟩ = some (sr) := (by first | exact xr.cell 1)) | (go_at_call 17; (with_reducible refine (eqRegion_c (x := r) _ (oxr.rd.more (Nat.zero_le _) (by omega)) (otr.rd.more (Nat.zero_le _) (by omega))).mono ?_); rintro e w18 ⟨rfl, b18⟩; have s18 := b18.size; replace xr := xr.keep (SameIn.of_below b18 (by omega)); replace oa := oa.keep (SameIn.of_below b18 (by omega)); replace ob := ob.keep (SameIn.of_below b18 (by omega)); replace or := or.keep (SameIn.of_below b18 (by omega)); replace oxa := oxa.keep (SameIn.of_below b18 (by omega)); replace oxb := oxb.keep (SameIn.of_below b18 (by omega)); replace oxr := oxr.keep (SameIn.of_below b18 (by omega)); replace xuxr := xuxr.keep (SameIn.of_below b18 (by omega)); replace otr := otr.keep (SameIn.of_below b18 (by omega)); replace B := B.trans (b18.mono (by omega)); clear b18; have yuxr0_18 : w18.cell? ⟨w10.heap.size, 0, none⟩ = some (.int .i64 r.w) := (by first | exact xuxr.cell 0); have yuxr1_18 : w18.cell? ⟨w10.heap.size, 1, none⟩ = some (.slice Auxr r.rows.length cuxr) := (by first | exact xuxr.cell 1); have yr0_18 : w18.cell? ⟨w.heap.size, 0, none⟩ = some (.int .i64 r.w) := (by first | exact xr.cell 0); have yr1_18 : w18.cell? ⟨w.heap.size, 1, none⟩ = some (sr) := (by first | exact xr.cell 1))))
  clear yuxr0_17 yuxr1_17 yr0_17 yr1_17 yuxr0_18 yuxr1_18 yr0_18 yr1_18
  clear yuxr0 yuxr1 yr0 yr1
  clear otr
  go_wp2
  go_ret
  exact ⟨rfl, B⟩

end Go.Proofs.YtelneohlpljblaaGreatDoor
