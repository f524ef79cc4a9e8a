
/-
  The law FnExactSafeRemovals, walked by contracts, under the library's table.
-/
import Derived.Test.YtelneohlpljblaaGreatDoorSafeS
import Derived.Test.YtelneohlpljblaaGreatDoorLawPcs
import Derived.Test.YtelneohlpljblaaGreatDoorTabOf
namespace Go.Proofs.YtelneohlpljblaaGreatDoor
open Go.RowKit

theorem safes_len (r : Reg) (ps : List (List Cell)) : (r.safes ps).length ≤ 1048576 := by
  cases h : r.valid && arePcs ps
  · rw [safes_no h]; simp
  · rw [safes_yes h]
    have hv := Reg.valid_iff.1 (Bool.and_eq_true_iff.1 h).1
    exact Nat.le_trans (List.length_filter_le _ _) (Nat.le_trans (Reg.cells_le hv) (by decide))
set_option maxRecDepth 100000 in
set_option maxHeartbeats 8000000 in
theorem law_SafeRemovals (vr : Value) (r : Reg) (vp : Value) (p : List (List Cell)) (w : World) (hr : RegRd w 0 w.heap.size vr r) (hp : CellSSRd w 0 w.heap.size vp p) (htab : Tab64 w) :
    Calls Tryz.prog 9 #[vr, vp] w fun e w' => e = .returned (.bool true) ∧ Below w.heap.size w w' := by
  obtain ⟨sr, rfl, hsr⟩ := id hr
  have B : Below w.heap.size w (w.alloc (.cells #[.int .i64 r.w, sr] 25)) := ((Below.refl w.heap.size w).alloc (by first | exact Nat.le_refl _ | (simp; done) | (simp; omega)) _)
  have s0 : w.heap.size + 1 ≤ (w.alloc (.cells #[.int .i64 r.w, sr] 25)).heap.size := by simp
  have xr : BoxIn (w.alloc (.cells #[.int .i64 r.w, sr] 25)) w.heap.size (w.heap.size + 1) (w.heap.size) 25 #[.int .i64 r.w, sr] := ⟨by have := Blk.new w 25 #[.int .i64 r.w, sr]; simpa using this, by omega, by omega⟩
  have or := hr.keep (SameIn.of_below B (Nat.le_refl _))
  have op := hp.keep (SameIn.of_below B (Nat.le_refl _))
  by_cases q0 : 1048576 < (r.rows.length : Int)
  · skip
    go_enter Tryz.func9, Tryz.ntmps9
    go_wp2_with fail
    generalize (w.alloc (.cells #[.int .i64 r.w, sr] 25)) = W0 at *
    refine (szRegion_c _ _ (or.more (Nat.zero_le _) (by omega)) (by omega) (by omega)).mono ?_
    rintro e w1 ⟨rfl, b1⟩
    have s1 := b1.size
    replace xr := xr.keep (SameIn.of_below b1 (by omega))
    replace or := or.keep (SameIn.of_below b1 (by omega))
    replace op := op.keep (SameIn.of_below b1 (by omega))
    replace B := B.trans (b1.mono (by omega))
    clear b1
    rw [if_pos (by omega)]
    go_wp2
    go_ret
    exact ⟨rfl, B⟩
  by_cases q1 : 1048576 < (r.rows.length : Int) + (CellSS.tot p : Int)
  · skip
    go_enter Tryz.func9, Tryz.ntmps9
    go_wp2_with fail
    generalize (w.alloc (.cells #[.int .i64 r.w, sr] 25)) = W0 at *
    refine (szRegion_c _ _ (or.more (Nat.zero_le _) (by omega)) (by omega) (by omega)).mono ?_
    rintro e w1 ⟨rfl, b1⟩
    have s1 := b1.size
    replace xr := xr.keep (SameIn.of_below b1 (by omega))
    replace or := or.keep (SameIn.of_below b1 (by omega))
    replace op := op.keep (SameIn.of_below b1 (by omega))
    replace B := B.trans (b1.mono (by omega))
    clear b1
    rw [if_neg (by omega)]
    go_wp2_with fail
    refine (szCellSS_c _ _ (op.more (Nat.zero_le _) (by omega)) (by omega) (by omega)).mono ?_
    rintro e w2 ⟨rfl, rfl⟩
    rw [if_pos (by omega)]
    go_wp2
    go_ret
    exact ⟨rfl, B⟩
  go_enter Tryz.func9, Tryz.ntmps9
  go_wp2_with fail
  generalize (w.alloc (.cells #[.int .i64 r.w, sr] 25)) = W0 at *
  refine (szRegion_c _ _ (or.more (Nat.zero_le _) (by omega)) (by omega) (by omega)).mono ?_
  rintro e w1 ⟨rfl, b1⟩
  have s1 := b1.size
  replace xr := xr.keep (SameIn.of_below b1 (by omega))
  replace or := or.keep (SameIn.of_below b1 (by omega))
  replace op := op.keep (SameIn.of_below b1 (by omega))
  replace B := B.trans (b1.mono (by omega))
  clear b1
  rw [if_neg (by omega)]
  go_wp2_with fail
  refine (szCellSS_c _ _ (op.more (Nat.zero_le _) (by omega)) (by omega) (by omega)).mono ?_
  rintro e w2 ⟨rfl, rfl⟩
  rw [if_neg (by omega)]
  have yr0 : w1.cell? ⟨w.heap.size, 0, none⟩ = some (.int .i64 r.w) := (by first | exact xr.cell 0)
  have yr1 : w1.cell? ⟨w.heap.size, 1, none⟩ = some (sr) := (by first | exact xr.cell 1)
  go_wp2_with fail
  clear yr0 yr1
  refine (toRegion_c _ (or.more (Nat.zero_le _) (by omega)) (by omega)).mono ?_
  rintro e w3 ⟨usr, rfl, osr, b3⟩
  have s3 := b3.size
  replace xr := xr.keep (SameIn.of_below b3 (by omega))
  replace or := or.keep (SameIn.of_below b3 (by omega))
  replace op := op.keep (SameIn.of_below b3 (by omega))
  replace B := B.trans (b3.mono (by omega))
  clear b3
  go_wp2_with fail
  refine (toCellSS_c _ (op.more (Nat.zero_le _) (by omega)) (by omega)).mono ?_
  rintro e w4 ⟨usp, rfl, osp, b4⟩
  have s4 := b4.size
  replace xr := xr.keep (SameIn.of_below b4 (by omega))
  replace or := or.keep (SameIn.of_below b4 (by omega))
  replace op := op.keep (SameIn.of_below b4 (by omega))
  replace osr := osr.keep (SameIn.of_below b4 (by omega))
  replace B := B.trans (b4.mono (by omega))
  clear b4
  go_wp2_with fail
  refine (spec_safes_c _ (osr.rd.more (Nat.zero_le _) (by omega)) (osp.rd.more (Nat.zero_le _) (by omega)) (by omega) (CellSS.tot_le (l := p) (n := 1048576) (by omega)).1 (CellSS.tot_le (l := p) (n := 1048576) (by omega)).2).mono ?_
  rintro e w5 ⟨rw0, rfl, orw0, b5⟩
  have s5 := b5.size
  replace xr := xr.keep (SameIn.of_below b5 (by omega))
  replace or := or.keep (SameIn.of_below b5 (by omega))
  replace op := op.keep (SameIn.of_below b5 (by omega))
  replace osr := osr.keep (SameIn.of_below b5 (by omega))
  replace osp := osp.keep (SameIn.of_below b5 (by omega))
  replace B := B.trans (b5.mono (by omega))
  clear b5
  clear osr
  clear osp
  have yr0 : w5.cell? ⟨w.heap.size, 0, none⟩ = some (.int .i64 r.w) := (by first | exact xr.cell 0)
  have yr1 : w5.cell? ⟨w.heap.size, 1, none⟩ = some (sr) := (by first | exact xr.cell 1)
  go_wp2_with fail
  clear yr0 yr1
  refine (toRegion_c _ (or.more (Nat.zero_le _) (by omega)) (by omega)).mono ?_
  rintro e w6 ⟨uxr, rfl, oxr, b6⟩
  have s6 := b6.size
  replace xr := xr.keep (SameIn.of_below b6 (by omega))
  replace or := or.keep (SameIn.of_below b6 (by omega))
  replace op := op.keep (SameIn.of_below b6 (by omega))
  replace orw0 := orw0.keep (SameIn.of_below b6 (by omega))
  replace B := B.trans (b6.mono (by omega))
  clear b6
  obtain ⟨tuxr, rfl, guxr⟩ := id oxr
  obtain ⟨Auxr, cuxr, rfl, _, _⟩ := guxr.rd
  clear guxr
  have bb : Below w6.heap.size w6 (w6.alloc (.cells #[.int .i64 r.w, .slice Auxr r.rows.length cuxr] 31)) := (Below.refl _ _).alloc (Nat.le_refl _) _
  have s7 : w6.heap.size + 1 ≤ (w6.alloc (.cells #[.int .i64 r.w, .slice Auxr r.rows.length cuxr] 31)).heap.size := by simp
  replace xr := xr.keep (SameIn.of_below bb (by omega))
  replace or := or.keep (SameIn.of_below bb (by omega))
  replace op := op.keep (SameIn.of_below bb (by omega))
  replace orw0 := orw0.keep (SameIn.of_below bb (by omega))
  replace oxr := oxr.keep (SameIn.of_below bb (by omega))
  replace B := B.trans (bb.mono (by omega))
  clear bb
  have xuxr : BoxIn (w6.alloc (.cells #[.int .i64 r.w, .slice Auxr r.rows.length cuxr] 31)) w6.heap.size (w6.heap.size + 1) w6.heap.size 31 #[.int .i64 r.w, .slice Auxr r.rows.length cuxr] := ⟨Blk.new _ _ _, Nat.le_refl _, Nat.lt_succ_self _⟩
  go_wp2_with fail
  generalize w6.alloc (.cells #[.int .i64 r.w, .slice Auxr r.rows.length cuxr] 31) = w7 at *
  refine (toCellSS_c _ (op.more (Nat.zero_le _) (by omega)) (by omega)).mono ?_
  rintro e w8 ⟨uxp, rfl, oxp, b8⟩
  have s8 := b8.size
  replace xr := xr.keep (SameIn.of_below b8 (by omega))
  replace or := or.keep (SameIn.of_below b8 (by omega))
  replace op := op.keep (SameIn.of_below b8 (by omega))
  replace orw0 := orw0.keep (SameIn.of_below b8 (by omega))
  replace oxr := oxr.keep (SameIn.of_below b8 (by omega))
  replace xuxr := xuxr.keep (SameIn.of_below b8 (by omega))
  replace B := B.trans (b8.mono (by omega))
  clear b8
  have yuxr0 : w8.cell? ⟨w6.heap.size, 0, none⟩ = some (.int .i64 r.w) := (by first | exact xuxr.cell 0)
  have yuxr1 : w8.cell? ⟨w6.heap.size, 1, none⟩ = some (.slice Auxr r.rows.length cuxr) := (by first | exact xuxr.cell 1)
  go_wp2_with fail
  clear yuxr0 yuxr1
  refine (impl_safes_c _ (oxr.rd.more (Nat.zero_le _) (by omega)) (oxp.rd.more (Nat.zero_le _) (by omega)) (by omega) (CellSS.tot_le (l := p) (n := 1048576) (by omega)).1 (CellSS.tot_le (l := p) (n := 1048576) (by omega)).2 (tab64_on htab B)).mono ?_
  rintro e w9 ⟨rg0, rfl, org0, b9⟩
  have s9 := b9.size
  replace xr := xr.keep (SameIn.of_below b9 (by omega))
  replace or := or.keep (SameIn.of_below b9 (by omega))
  replace op := op.keep (SameIn.of_below b9 (by omega))
  replace orw0 := orw0.keep (SameIn.of_below b9 (by omega))
  replace oxr := oxr.keep (SameIn.of_below b9 (by omega))
  replace xuxr := xuxr.keep (SameIn.of_below b9 (by omega))
  replace oxp := oxp.keep (SameIn.of_below b9 (by omega))
  replace B := B.trans (b9.mono (by omega))
  clear b9
  go_wp2_with fail
  refine (eqCellS_c _ (org0.rd.more (Nat.zero_le _) (by omega)) (orw0.rd.more (Nat.zero_le _) (by omega))).mono ?_
  rintro e w10 ⟨rfl, b10⟩
  have s10 := b10.size
  replace xr := xr.keep (SameIn.of_below b10 (by omega))
  replace or := or.keep (SameIn.of_below b10 (by omega))
  replace op := op.keep (SameIn.of_below b10 (by omega))
  replace orw0 := orw0.keep (SameIn.of_below b10 (by omega))
  replace oxr := oxr.keep (SameIn.of_below b10 (by omega))
  replace xuxr := xuxr.keep (SameIn.of_below b10 (by omega))
  replace oxp := oxp.keep (SameIn.of_below b10 (by omega))
  replace org0 := org0.keep (SameIn.of_below b10 (by omega))
  replace B := B.trans (b10.mono (by omega))
  clear b10
  have yuxr0 : w10.cell? ⟨w6.heap.size, 0, none⟩ = some (.int .i64 r.w) := (by first | exact xuxr.cell 0)
  have yuxr1 : w10.cell? ⟨w6.heap.size, 1, none⟩ = some (.slice Auxr r.rows.length cuxr) := (by first | exact xuxr.cell 1)
  have yr0 : w10.cell? ⟨w.heap.size, 0, none⟩ = some (.int .i64 r.w) := (by first | exact xr.cell 0)
  have yr1 : w10.cell? ⟨w.heap.size, 1, none⟩ = some (sr) := (by first | exact xr.cell 1)
  go_wp2_with fail
  go_region_held3 (fun w' => w'.cell? ⟨w6.heap.size, 0, none⟩ = some (.int .i64 r.w) ∧ w'.cell? ⟨w6.heap.size, 1, none⟩ = some (.slice Auxr r.rows.length cuxr) ∧ w'.cell? ⟨w.heap.size, 0, none⟩ = some (.int .i64 r.w) ∧ w'.cell? ⟨w.heap.size, 1, none⟩ = some (sr))
    (first | ((try dsimp only); refine ⟨?_, ?_, ?_, ?_⟩ <;> assumption) | go_keep)
    ((first | (go_at_call 14; (with_reducible refine (toRegion_c (v := (.agg #[.int .i64 r.w, sr])) (x := r) _ (by exact ((or.keep (SameIn.drew)).more (Nat.zero_le _) (le_drew (show w.heap.size ≤ w10.heap.size by omega)))) (by omega)).mono ?_); rintro e w11 ⟨utr, rfl, otr, b11⟩; replace b11 := below_undrew b11; have s11 := b11.size; replace xr := xr.keep (SameIn.of_below b11 (by omega)); replace or := or.keep (SameIn.of_below b11 (by omega)); replace op := op.keep (SameIn.of_below b11 (by omega)); replace orw0 := orw0.keep (SameIn.of_below b11 (by omega)); replace oxr := oxr.keep (SameIn.of_below b11 (by omega)); replace xuxr := xuxr.keep (SameIn.of_below b11 (by omega)); replace oxp := oxp.keep (SameIn.of_below b11 (by omega)); replace org0 := org0.keep (SameIn.of_below b11 (by omega)); replace B := B.trans (b11.mono (by omega)); clear b11; have yuxr0_11 : w11.cell? ⟨w6.heap.size, 0, none⟩ = some (.int .i64 r.w) := (by first | exact xuxr.cell 0); have yuxr1_11 : w11.cell? ⟨w6.heap.size, 1, none⟩ = some (.slice Auxr r.rows.length cuxr) := (by first | exact xuxr.cell 1); have yr0_11 : w11.cell? ⟨w.heap.size, 0, none⟩ = some (.int .i64 r.w) := (by first | exact xr.cell 0); have yr1_11 : w11.cell? ⟨w.heap.size, 1, none⟩ = some (sr) := (by first | exact xr.cell 1)) | (go_at_call 17; (with_reducible refine (eqRegion_c (x := r) _ (oxr.rd.more (Nat.zero_le _) (by omega)) (otr.rd.more (Nat.zero_le _) (by omega))).mono ?_); rintro e w12 ⟨rfl, b12⟩; have s12 := b12.size; replace xr := xr.keep (SameIn.of_below b12 (by omega)); replace or := or.keep (SameIn.of_below b12 (by omega)); replace op := op.keep (SameIn.of_below b12 (by omega)); replace orw0 := orw0.keep (SameIn.of_below b12 (by omega)); replace oxr := oxr.keep (SameIn.of_below b12 (by omega)); replace xuxr := xuxr.keep (SameIn.of_below b12 (by omega)); replace oxp := oxp.keep (SameIn.of_below b12 (by omega)); replace org0 := org0.keep (SameIn.of_below b12 (by omega)); replace otr := otr.keep (SameIn.of_below b12 (by omega)); replace B := B.trans (b12.mono (by omega)); clear b12; have yuxr0_12 : w12.cell? ⟨w6.heap.size, 0, none⟩ = some (.int .i64 r.w) := (by first | exact xuxr.cell 0); have yuxr1_12 : w12.cell? ⟨w6.heap.size, 1, none⟩ = some (.slice Auxr r.rows.length cuxr) := (by first | exact xuxr.cell 1); have yr0_12 : w12.cell? ⟨w.heap.size, 0, none⟩ = some (.int .i64 r.w) := (by first | exact xr.cell 0); have yr1_12 : w12.cell? ⟨w.heap.size, 1, none⟩ = some (sr) := (by first | exact xr.cell 1))))
  clear yuxr0_11 yuxr1_11 yr0_11 yr1_11 yuxr0_12 yuxr1_12 yr0_12 yr1_12
  clear yuxr0 yuxr1 yr0 yr1
  clear otr
  go_wp2_with fail
  refine (toCellSS_c _ (op.more (Nat.zero_le _) (by omega)) (by omega)).mono ?_
  rintro e w13 ⟨utp, rfl, otp, b13⟩
  have s13 := b13.size
  replace xr := xr.keep (SameIn.of_below b13 (by omega))
  replace or := or.keep (SameIn.of_below b13 (by omega))
  replace op := op.keep (SameIn.of_below b13 (by omega))
  replace orw0 := orw0.keep (SameIn.of_below b13 (by omega))
  replace oxr := oxr.keep (SameIn.of_below b13 (by omega))
  replace xuxr := xuxr.keep (SameIn.of_below b13 (by omega))
  replace oxp := oxp.keep (SameIn.of_below b13 (by omega))
  replace org0 := org0.keep (SameIn.of_below b13 (by omega))
  replace B := B.trans (b13.mono (by omega))
  clear b13
  go_wp2_with fail
  refine (eqCellSS_c _ (oxp.rd.more (Nat.zero_le _) (by omega)) (otp.rd.more (Nat.zero_le _) (by omega))).mono ?_
  rintro e w14 ⟨rfl, b14⟩
  have s14 := b14.size
  replace xr := xr.keep (SameIn.of_below b14 (by omega))
  replace or := or.keep (SameIn.of_below b14 (by omega))
  replace op := op.keep (SameIn.of_below b14 (by omega))
  replace orw0 := orw0.keep (SameIn.of_below b14 (by omega))
  replace oxr := oxr.keep (SameIn.of_below b14 (by omega))
  replace xuxr := xuxr.keep (SameIn.of_below b14 (by omega))
  replace oxp := oxp.keep (SameIn.of_below b14 (by omega))
  replace org0 := org0.keep (SameIn.of_below b14 (by omega))
  replace otp := otp.keep (SameIn.of_below b14 (by omega))
  replace B := B.trans (b14.mono (by omega))
  clear b14
  clear otp
  have yuxr0 : w14.cell? ⟨w6.heap.size, 0, none⟩ = some (.int .i64 r.w) := (by first | exact xuxr.cell 0)
  have yuxr1 : w14.cell? ⟨w6.heap.size, 1, none⟩ = some (.slice Auxr r.rows.length cuxr) := (by first | exact xuxr.cell 1)
  go_wp2_with fail
  clear yuxr0 yuxr1
  refine (markRegion_c _ _ (by omega) (by omega) (by omega) (by omega) oxr).mono ?_
  rintro e w15 ⟨rfl, oxr', b15⟩
  have s15 := b15.size
  replace xr := xr.keep (SameIn.of_out b15 (by omega) (by omega))
  replace or := or.keep (SameIn.of_out b15 (by omega) (by omega))
  replace op := op.keep (SameIn.of_out b15 (by omega) (by omega))
  replace orw0 := orw0.keep (SameIn.of_out b15 (by omega) (by omega))
  replace xuxr := xuxr.keep (SameIn.of_out b15 (by omega) (by omega))
  replace oxp := oxp.keep (SameIn.of_out b15 (by omega) (by omega))
  replace org0 := org0.keep (SameIn.of_out b15 (by omega) (by omega))
  clear oxr
  have oxr := oxr'
  clear oxr'
  replace B := B.trans (b15.below (by omega) (by omega))
  clear b15
  go_wp2_with fail
  refine (markCellSS_c _ _ (by omega) (by omega) (by omega) (by omega) oxp).mono ?_
  rintro e w16 ⟨rfl, oxp', b16⟩
  have s16 := b16.size
  replace xr := xr.keep (SameIn.of_out b16 (by omega) (by omega))
  replace or := or.keep (SameIn.of_out b16 (by omega) (by omega))
  replace op := op.keep (SameIn.of_out b16 (by omega) (by omega))
  replace orw0 := orw0.keep (SameIn.of_out b16 (by omega) (by omega))
  replace oxr := oxr.keep (SameIn.of_out b16 (by omega) (by omega))
  replace xuxr := xuxr.keep (SameIn.of_out b16 (by omega) (by omega))
  replace org0 := org0.keep (SameIn.of_out b16 (by omega) (by omega))
  clear oxp
  have oxp := oxp'
  clear oxp'
  replace B := B.trans (b16.below (by omega) (by omega))
  clear b16
  go_wp2_with fail
  refine (eqCellS_c _ (org0.rd.more (Nat.zero_le _) (by omega)) (orw0.rd.more (Nat.zero_le _) (by omega))).mono ?_
  rintro e w17 ⟨rfl, b17⟩
  have s17 := b17.size
  replace xr := xr.keep (SameIn.of_below b17 (by omega))
  replace or := or.keep (SameIn.of_below b17 (by omega))
  replace op := op.keep (SameIn.of_below b17 (by omega))
  replace orw0 := orw0.keep (SameIn.of_below b17 (by omega))
  replace oxr := oxr.keep (SameIn.of_below b17 (by omega))
  replace xuxr := xuxr.keep (SameIn.of_below b17 (by omega))
  replace oxp := oxp.keep (SameIn.of_below b17 (by omega))
  replace org0 := org0.keep (SameIn.of_below b17 (by omega))
  replace B := B.trans (b17.mono (by omega))
  clear b17
  have hl0 : (r.safes p).length ≤ 1048576 := (safes_len r p)
  go_wp2_with fail
  refine (markCellS_c _ _ hl0 (by omega) (by omega) org0).mono ?_
  rintro e w18 ⟨rfl, org0', b18⟩
  have s18 := b18.size
  replace xr := xr.keep (SameIn.of_out b18 (by omega) (by omega))
  replace or := or.keep (SameIn.of_out b18 (by omega) (by omega))
  replace op := op.keep (SameIn.of_out b18 (by omega) (by omega))
  replace orw0 := orw0.keep (SameIn.of_out b18 (by omega) (by omega))
  replace oxr := oxr.keep (SameIn.of_out b18 (by omega) (by omega))
  replace xuxr := xuxr.keep (SameIn.of_out b18 (by omega) (by omega))
  replace oxp := oxp.keep (SameIn.of_out b18 (by omega) (by omega))
  clear org0
  have org0 := org0'
  clear org0'
  replace B := B.trans (b18.below (by omega) (by omega))
  clear b18
  go_wp2_with fail
  refine (heldCellS_c _ _ hl0 (by omega) (by omega) org0.rd).mono ?_
  rintro e w19 ⟨rfl, rfl⟩
  have yr0 : w18.cell? ⟨w.heap.size, 0, none⟩ = some (.int .i64 r.w) := (by first | exact xr.cell 0)
  have yr1 : w18.cell? ⟨w.heap.size, 1, none⟩ = some (sr) := (by first | exact xr.cell 1)
  go_wp2_with fail
  clear yr0 yr1
  refine (toRegion_c _ (or.more (Nat.zero_le _) (by omega)) (by omega)).mono ?_
  rintro e w20 ⟨uyr, rfl, oyr, b20⟩
  have s20 := b20.size
  replace xr := xr.keep (SameIn.of_below b20 (by omega))
  replace or := or.keep (SameIn.of_below b20 (by omega))
  replace op := op.keep (SameIn.of_below b20 (by omega))
  replace orw0 := orw0.keep (SameIn.of_below b20 (by omega))
  replace oxr := oxr.keep (SameIn.of_below b20 (by omega))
  replace xuxr := xuxr.keep (SameIn.of_below b20 (by omega))
  replace oxp := oxp.keep (SameIn.of_below b20 (by omega))
  replace org0 := org0.keep (SameIn.of_below b20 (by omega))
  replace B := B.trans (b20.mono (by omega))
  clear b20
  go_wp2_with fail
  refine (toCellSS_c _ (op.more (Nat.zero_le _) (by omega)) (by omega)).mono ?_
  rintro e w21 ⟨uyp, rfl, oyp, b21⟩
  have s21 := b21.size
  replace xr := xr.keep (SameIn.of_below b21 (by omega))
  replace or := or.keep (SameIn.of_below b21 (by omega))
  replace op := op.keep (SameIn.of_below b21 (by omega))
  replace orw0 := orw0.keep (SameIn.of_below b21 (by omega))
  replace oxr := oxr.keep (SameIn.of_below b21 (by omega))
  replace xuxr := xuxr.keep (SameIn.of_below b21 (by omega))
  replace oxp := oxp.keep (SameIn.of_below b21 (by omega))
  replace org0 := org0.keep (SameIn.of_below b21 (by omega))
  replace oyr := oyr.keep (SameIn.of_below b21 (by omega))
  replace B := B.trans (b21.mono (by omega))
  clear b21
  go_wp2_with fail
  refine (impl_safes_c _ (oyr.rd.more (Nat.zero_le _) (by omega)) (oyp.rd.more (Nat.zero_le _) (by omega)) (by omega) (CellSS.tot_le (l := p) (n := 1048576) (by omega)).1 (CellSS.tot_le (l := p) (n := 1048576) (by omega)).2 (tab64_on htab B)).mono ?_
  rintro e w22 ⟨rh0, rfl, orh0, b22⟩
  have s22 := b22.size
  replace xr := xr.keep (SameIn.of_below b22 (by omega))
  replace or := or.keep (SameIn.of_below b22 (by omega))
  replace op := op.keep (SameIn.of_below b22 (by omega))
  replace orw0 := orw0.keep (SameIn.of_below b22 (by omega))
  replace oxr := oxr.keep (SameIn.of_below b22 (by omega))
  replace xuxr := xuxr.keep (SameIn.of_below b22 (by omega))
  replace oxp := oxp.keep (SameIn.of_below b22 (by omega))
  replace org0 := org0.keep (SameIn.of_below b22 (by omega))
  replace oyr := oyr.keep (SameIn.of_below b22 (by omega))
  replace oyp := oyp.keep (SameIn.of_below b22 (by omega))
  replace B := B.trans (b22.mono (by omega))
  clear b22
  clear oyr
  clear oyp
  go_wp2_with fail
  refine (eqCellS_c _ (orh0.rd.more (Nat.zero_le _) (by omega)) (orw0.rd.more (Nat.zero_le _) (by omega))).mono ?_
  rintro e w23 ⟨rfl, b23⟩
  have s23 := b23.size
  replace xr := xr.keep (SameIn.of_below b23 (by omega))
  replace or := or.keep (SameIn.of_below b23 (by omega))
  replace op := op.keep (SameIn.of_below b23 (by omega))
  replace orw0 := orw0.keep (SameIn.of_below b23 (by omega))
  replace oxr := oxr.keep (SameIn.of_below b23 (by omega))
  replace xuxr := xuxr.keep (SameIn.of_below b23 (by omega))
  replace oxp := oxp.keep (SameIn.of_below b23 (by omega))
  replace org0 := org0.keep (SameIn.of_below b23 (by omega))
  replace orh0 := orh0.keep (SameIn.of_below b23 (by omega))
  replace B := B.trans (b23.mono (by omega))
  clear b23
  go_wp2_with fail
  refine (heldCellS_c _ _ hl0 (by omega) (by omega) org0.rd).mono ?_
  rintro e w24 ⟨rfl, rfl⟩
  go_wp2
  go_ret
  exact ⟨rfl, B⟩

end Go.Proofs.YtelneohlpljblaaGreatDoor
