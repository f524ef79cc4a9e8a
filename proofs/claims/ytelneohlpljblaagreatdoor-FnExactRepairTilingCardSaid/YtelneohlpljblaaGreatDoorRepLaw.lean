
/-
  The law FnExactRepairTiling, walked by contracts, under the library's table.
-/
import Derived.Test.YtelneohlpljblaaGreatDoorRepV
import Derived.Test.YtelneohlpljblaaGreatDoorRepIX
import Derived.Test.YtelneohlpljblaaGreatDoorLawPcs
import Derived.Test.YtelneohlpljblaaGreatDoorLawInts
import Derived.Test.YtelneohlpljblaaGreatDoorDivPX
namespace Go.Proofs.YtelneohlpljblaaGreatDoor
open Go.RowKit

theorem rep_len (r : Reg) (ps : List (List Cell)) (k : List Int) : (repL r ps k).length ≤ 1048576 := by
  cases h : r.valid && arePcs ps
  · rw [(rep_bad h).2]; simp
  · have hv := Reg.valid_iff.1 (Bool.and_eq_true_iff.1 h).1
    have hp := (Bool.and_eq_true_iff.1 h).2
    cases hk : keptU (allN r ps) 0 k with
    | none => rw [(rep_out hk).2]; simp
    | some u =>
      have hM : r.mask < 2 ^ 36 := by have := Reg.mask_lt hv; omega
      have hparts := rep_parts hM (allN_sub hv hp) hk
      cases ho : ordB (allN r ps) (r.mask - u) 0
      · rw [(rep_no hk ho).2]; simp
      · rw [(rep_yes h hk ho).2]
        have h1 := srtL_len hparts.2.1 (k ++ nl (ordR (allN r ps) (r.mask - u) 0)).length
        rw [List.take_length] at h1
        have h2 := difL_len hparts.2.1 hparts.2.2
        omega
set_option maxRecDepth 100000 in
set_option maxHeartbeats 8000000 in
theorem law_RepairTiling (vr : Value) (r : Reg) (vp : Value) (p : List (List Cell)) (vk : Value) (k : List Int) (w : World) (hr : RegRd w 0 w.heap.size vr r) (hp : CellSSRd w 0 w.heap.size vp p) (hk : IntsRd w 0 w.heap.size vk k) (htab : Tab64 w) :
    Calls Tryz.prog 8 #[vr, vp, vk] w fun e w' => e = .returned (.bool true) ∧ Below w.heap.size w w' := by
  obtain ⟨sr, rfl, hsr⟩ := id hr
  have B : Below w.heap.size w (w.alloc (.cells #[.int .i64 r.w, sr] 25)) := ((Below.refl w.heap.size w).alloc (by first | exact Nat.le_refl _ | (simp; done) | (simp; omega)) _)
  have s0 : w.heap.size + 1 ≤ (w.alloc (.cells #[.int .i64 r.w, sr] 25)).heap.size := by simp
  have xr : BoxIn (w.alloc (.cells #[.int .i64 r.w, sr] 25)) w.heap.size (w.heap.size + 1) (w.heap.size) 25 #[.int .i64 r.w, sr] := ⟨by have := Blk.new w 25 #[.int .i64 r.w, sr]; simpa using this, by omega, by omega⟩
  have or := hr.keep (SameIn.of_below B (Nat.le_refl _))
  have op := hp.keep (SameIn.of_below B (Nat.le_refl _))
  have ok := hk.keep (SameIn.of_below B (Nat.le_refl _))
  have hmk : k.length ≤ 9223372036854775807 := by obtain ⟨_, _, _, hm, _⟩ := id hk; unfold maxLen at hm; omega
  obtain ⟨Ak, ck, rfl, _, _⟩ := id hk
  by_cases q0 : 1048576 < (k.length : Int)
  · skip
    go_enter Tryz.func8, Tryz.ntmps8
    go_wp2
    go_ret
    exact ⟨rfl, B⟩
  by_cases q1 : 1048576 < (r.rows.length : Int)
  · skip
    go_enter Tryz.func8, Tryz.ntmps8
    go_wp2_with fail
    generalize (w.alloc (.cells #[.int .i64 r.w, sr] 25)) = W0 at *
    refine (szRegion_c _ _ (or.more (Nat.zero_le _) (by omega)) (by omega) (by omega)).mono ?_
    rintro e w1 ⟨rfl, b1⟩
    have s1 := b1.size
    replace xr := xr.keep (SameIn.of_below b1 (by omega))
    replace or := or.keep (SameIn.of_below b1 (by omega))
    replace op := op.keep (SameIn.of_below b1 (by omega))
    replace ok := ok.keep (SameIn.of_below b1 (by omega))
    replace B := B.trans (b1.mono (by omega))
    clear b1
    rw [if_pos (by omega)]
    go_wp2
    go_ret
    exact ⟨rfl, B⟩
  by_cases q2 : 1048576 < (r.rows.length : Int) + (CellSS.tot p : Int)
  · skip
    go_enter Tryz.func8, Tryz.ntmps8
    go_wp2_with fail
    generalize (w.alloc (.cells #[.int .i64 r.w, sr] 25)) = W0 at *
    refine (szRegion_c _ _ (or.more (Nat.zero_le _) (by omega)) (by omega) (by omega)).mono ?_
    rintro e w1 ⟨rfl, b1⟩
    have s1 := b1.size
    replace xr := xr.keep (SameIn.of_below b1 (by omega))
    replace or := or.keep (SameIn.of_below b1 (by omega))
    replace op := op.keep (SameIn.of_below b1 (by omega))
    replace ok := ok.keep (SameIn.of_below b1 (by omega))
    replace B := B.trans (b1.mono (by omega))
    clear b1
    rw [if_neg (by omega)]
    go_wp2_with fail
    refine (szCellSS_c _ _ (op.more (Nat.zero_le _) (by omega)) (by omega) (by omega)).mono ?_
    rintro e w2 ⟨rfl, rfl⟩
    rw [if_pos (by omega)]
    go_wp2
    go_ret
    exact ⟨rfl, B⟩
  go_enter Tryz.func8, Tryz.ntmps8
  go_wp2_with fail
  generalize (w.alloc (.cells #[.int .i64 r.w, sr] 25)) = W0 at *
  refine (szRegion_c _ _ (or.more (Nat.zero_le _) (by omega)) (by omega) (by omega)).mono ?_
  rintro e w1 ⟨rfl, b1⟩
  have s1 := b1.size
  replace xr := xr.keep (SameIn.of_below b1 (by omega))
  replace or := or.keep (SameIn.of_below b1 (by omega))
  replace op := op.keep (SameIn.of_below b1 (by omega))
  replace ok := ok.keep (SameIn.of_below b1 (by omega))
  replace B := B.trans (b1.mono (by omega))
  clear b1
  rw [if_neg (by omega)]
  go_wp2_with fail
  refine (szCellSS_c _ _ (op.more (Nat.zero_le _) (by omega)) (by omega) (by omega)).mono ?_
  rintro e w2 ⟨rfl, rfl⟩
  rw [if_neg (by omega)]
  have yr0 : w1.cell? ⟨w.heap.size, 0, none⟩ = some (.int .i64 r.w) := (by first | exact xr.cell 0)
  have yr1 : w1.cell? ⟨w.heap.size, 1, none⟩ = some (sr) := (by first | exact xr.cell 1)
  go_wp2_with fail
  clear yr0 yr1
  refine (toRegion_c _ (or.more (Nat.zero_le _) (by omega)) (by omega)).mono ?_
  rintro e w3 ⟨usr, rfl, osr, b3⟩
  have s3 := b3.size
  replace xr := xr.keep (SameIn.of_below b3 (by omega))
  replace or := or.keep (SameIn.of_below b3 (by omega))
  replace op := op.keep (SameIn.of_below b3 (by omega))
  replace ok := ok.keep (SameIn.of_below b3 (by omega))
  replace B := B.trans (b3.mono (by omega))
  clear b3
  go_wp2_with fail
  refine (toCellSS_c _ (op.more (Nat.zero_le _) (by omega)) (by omega)).mono ?_
  rintro e w4 ⟨usp, rfl, osp, b4⟩
  have s4 := b4.size
  replace xr := xr.keep (SameIn.of_below b4 (by omega))
  replace or := or.keep (SameIn.of_below b4 (by omega))
  replace op := op.keep (SameIn.of_below b4 (by omega))
  replace ok := ok.keep (SameIn.of_below b4 (by omega))
  replace osr := osr.keep (SameIn.of_below b4 (by omega))
  replace B := B.trans (b4.mono (by omega))
  clear b4
  go_wp2_with fail
  refine (toIntS_c _ (ok.more (Nat.zero_le _) (by omega)) (by omega)).mono ?_
  rintro e w5 ⟨usk, rfl, osk, b5⟩
  have s5 := b5.size
  replace xr := xr.keep (SameIn.of_below b5 (by omega))
  replace or := or.keep (SameIn.of_below b5 (by omega))
  replace op := op.keep (SameIn.of_below b5 (by omega))
  replace ok := ok.keep (SameIn.of_below b5 (by omega))
  replace osr := osr.keep (SameIn.of_below b5 (by omega))
  replace osp := osp.keep (SameIn.of_below b5 (by omega))
  replace B := B.trans (b5.mono (by omega))
  clear b5
  go_wp2_with fail
  refine (spec_repair_c _ (osr.rd.more (Nat.zero_le _) (by omega)) (osp.rd.more (Nat.zero_le _) (by omega)) (osk.rd.more (Nat.zero_le _) (by omega)) (CellSS.tot_le (l := p) (n := 1048576) (by omega)).1 (CellSS.tot_le (l := p) (n := 1048576) (by omega)).2 (by omega)).mono ?_
  rintro e w6 ⟨rw0, rfl, orw0, b6⟩
  have s6 := b6.size
  replace xr := xr.keep (SameIn.of_below b6 (by omega))
  replace or := or.keep (SameIn.of_below b6 (by omega))
  replace op := op.keep (SameIn.of_below b6 (by omega))
  replace ok := ok.keep (SameIn.of_below b6 (by omega))
  replace osr := osr.keep (SameIn.of_below b6 (by omega))
  replace osp := osp.keep (SameIn.of_below b6 (by omega))
  replace osk := osk.keep (SameIn.of_below b6 (by omega))
  replace B := B.trans (b6.mono (by omega))
  clear b6
  clear osr
  clear osp
  clear osk
  have yr0 : w6.cell? ⟨w.heap.size, 0, none⟩ = some (.int .i64 r.w) := (by first | exact xr.cell 0)
  have yr1 : w6.cell? ⟨w.heap.size, 1, none⟩ = some (sr) := (by first | exact xr.cell 1)
  go_wp2_with fail
  clear yr0 yr1
  refine (toRegion_c _ (or.more (Nat.zero_le _) (by omega)) (by omega)).mono ?_
  rintro e w7 ⟨uxr, rfl, oxr, b7⟩
  have s7 := b7.size
  replace xr := xr.keep (SameIn.of_below b7 (by omega))
  replace or := or.keep (SameIn.of_below b7 (by omega))
  replace op := op.keep (SameIn.of_below b7 (by omega))
  replace ok := ok.keep (SameIn.of_below b7 (by omega))
  replace orw0 := orw0.keep (SameIn.of_below b7 (by omega))
  replace B := B.trans (b7.mono (by omega))
  clear b7
  obtain ⟨tuxr, rfl, guxr⟩ := id oxr
  obtain ⟨Auxr, cuxr, rfl, _, _⟩ := guxr.rd
  clear guxr
  have bb : Below w7.heap.size w7 (w7.alloc (.cells #[.int .i64 r.w, .slice Auxr r.rows.length cuxr] 31)) := (Below.refl _ _).alloc (Nat.le_refl _) _
  have s8 : w7.heap.size + 1 ≤ (w7.alloc (.cells #[.int .i64 r.w, .slice Auxr r.rows.length cuxr] 31)).heap.size := by simp
  replace xr := xr.keep (SameIn.of_below bb (by omega))
  replace or := or.keep (SameIn.of_below bb (by omega))
  replace op := op.keep (SameIn.of_below bb (by omega))
  replace ok := ok.keep (SameIn.of_below bb (by omega))
  replace orw0 := orw0.keep (SameIn.of_below bb (by omega))
  replace oxr := oxr.keep (SameIn.of_below bb (by omega))
  replace B := B.trans (bb.mono (by omega))
  clear bb
  have xuxr : BoxIn (w7.alloc (.cells #[.int .i64 r.w, .slice Auxr r.rows.length cuxr] 31)) w7.heap.size (w7.heap.size + 1) w7.heap.size 31 #[.int .i64 r.w, .slice Auxr r.rows.length cuxr] := ⟨Blk.new _ _ _, Nat.le_refl _, Nat.lt_succ_self _⟩
  go_wp2_with fail
  generalize w7.alloc (.cells #[.int .i64 r.w, .slice Auxr r.rows.length cuxr] 31) = w8 at *
  refine (toCellSS_c _ (op.more (Nat.zero_le _) (by omega)) (by omega)).mono ?_
  rintro e w9 ⟨uxp, rfl, oxp, b9⟩
  have s9 := b9.size
  replace xr := xr.keep (SameIn.of_below b9 (by omega))
  replace or := or.keep (SameIn.of_below b9 (by omega))
  replace op := op.keep (SameIn.of_below b9 (by omega))
  replace ok := ok.keep (SameIn.of_below b9 (by omega))
  replace orw0 := orw0.keep (SameIn.of_below b9 (by omega))
  replace oxr := oxr.keep (SameIn.of_below b9 (by omega))
  replace xuxr := xuxr.keep (SameIn.of_below b9 (by omega))
  replace B := B.trans (b9.mono (by omega))
  clear b9
  go_wp2_with fail
  refine (toIntS_c _ (ok.more (Nat.zero_le _) (by omega)) (by omega)).mono ?_
  rintro e w10 ⟨uxk, rfl, oxk, b10⟩
  have s10 := b10.size
  replace xr := xr.keep (SameIn.of_below b10 (by omega))
  replace or := or.keep (SameIn.of_below b10 (by omega))
  replace op := op.keep (SameIn.of_below b10 (by omega))
  replace ok := ok.keep (SameIn.of_below b10 (by omega))
  replace orw0 := orw0.keep (SameIn.of_below b10 (by omega))
  replace oxr := oxr.keep (SameIn.of_below b10 (by omega))
  replace xuxr := xuxr.keep (SameIn.of_below b10 (by omega))
  replace oxp := oxp.keep (SameIn.of_below b10 (by omega))
  replace B := B.trans (b10.mono (by omega))
  clear b10
  have yuxr0 : w10.cell? ⟨w7.heap.size, 0, none⟩ = some (.int .i64 r.w) := (by first | exact xuxr.cell 0)
  have yuxr1 : w10.cell? ⟨w7.heap.size, 1, none⟩ = some (.slice Auxr r.rows.length cuxr) := (by first | exact xuxr.cell 1)
  go_wp2_with fail
  clear yuxr0 yuxr1
  refine (impl_repair_c _ (oxr.rd.more (Nat.zero_le _) (by omega)) (oxp.rd.more (Nat.zero_le _) (by omega)) (oxk.rd.more (Nat.zero_le _) (by omega)) (CellSS.tot_le (l := p) (n := 1048576) (by omega)).1 (CellSS.tot_le (l := p) (n := 1048576) (by omega)).2 (by omega) (tab64_on htab B)).mono ?_
  rintro e w11 ⟨rg0, rfl, org0, b11⟩
  have s11 := b11.size
  replace xr := xr.keep (SameIn.of_below b11 (by omega))
  replace or := or.keep (SameIn.of_below b11 (by omega))
  replace op := op.keep (SameIn.of_below b11 (by omega))
  replace ok := ok.keep (SameIn.of_below b11 (by omega))
  replace orw0 := orw0.keep (SameIn.of_below b11 (by omega))
  replace oxr := oxr.keep (SameIn.of_below b11 (by omega))
  replace xuxr := xuxr.keep (SameIn.of_below b11 (by omega))
  replace oxp := oxp.keep (SameIn.of_below b11 (by omega))
  replace oxk := oxk.keep (SameIn.of_below b11 (by omega))
  replace B := B.trans (b11.mono (by omega))
  clear b11
  go_wp2_with fail
  refine (eqIntS_c _ (org0.rd.more (Nat.zero_le _) (by omega)) (orw0.rd.more (Nat.zero_le _) (by omega))).mono ?_
  rintro e w12 ⟨rfl, b12⟩
  have s12 := b12.size
  replace xr := xr.keep (SameIn.of_below b12 (by omega))
  replace or := or.keep (SameIn.of_below b12 (by omega))
  replace op := op.keep (SameIn.of_below b12 (by omega))
  replace ok := ok.keep (SameIn.of_below b12 (by omega))
  replace orw0 := orw0.keep (SameIn.of_below b12 (by omega))
  replace oxr := oxr.keep (SameIn.of_below b12 (by omega))
  replace xuxr := xuxr.keep (SameIn.of_below b12 (by omega))
  replace oxp := oxp.keep (SameIn.of_below b12 (by omega))
  replace oxk := oxk.keep (SameIn.of_below b12 (by omega))
  replace org0 := org0.keep (SameIn.of_below b12 (by omega))
  replace B := B.trans (b12.mono (by omega))
  clear b12
  have yuxr0 : w12.cell? ⟨w7.heap.size, 0, none⟩ = some (.int .i64 r.w) := (by first | exact xuxr.cell 0)
  have yuxr1 : w12.cell? ⟨w7.heap.size, 1, none⟩ = some (.slice Auxr r.rows.length cuxr) := (by first | exact xuxr.cell 1)
  have yr0 : w12.cell? ⟨w.heap.size, 0, none⟩ = some (.int .i64 r.w) := (by first | exact xr.cell 0)
  have yr1 : w12.cell? ⟨w.heap.size, 1, none⟩ = some (sr) := (by first | exact xr.cell 1)
  go_wp2_with fail
  go_region_held3 (fun w' => w'.cell? ⟨w7.heap.size, 0, none⟩ = some (.int .i64 r.w) ∧ w'.cell? ⟨w7.heap.size, 1, none⟩ = some (.slice Auxr r.rows.length cuxr) ∧ w'.cell? ⟨w.heap.size, 0, none⟩ = some (.int .i64 r.w) ∧ w'.cell? ⟨w.heap.size, 1, none⟩ = some (sr))
    (first | ((try dsimp only); refine ⟨?_, ?_, ?_, ?_⟩ <;> assumption) | go_keep)
    ((first | (go_at_call 14; (with_reducible refine (toRegion_c (v := (.agg #[.int .i64 r.w, sr])) (x := r) _ (by exact ((or.keep (SameIn.drew)).more (Nat.zero_le _) (le_drew (show w.heap.size ≤ w12.heap.size by omega)))) (by omega)).mono ?_); rintro e w13 ⟨utr, rfl, otr, b13⟩; replace b13 := below_undrew b13; have s13 := b13.size; replace xr := xr.keep (SameIn.of_below b13 (by omega)); replace or := or.keep (SameIn.of_below b13 (by omega)); replace op := op.keep (SameIn.of_below b13 (by omega)); replace ok := ok.keep (SameIn.of_below b13 (by omega)); replace orw0 := orw0.keep (SameIn.of_below b13 (by omega)); replace oxr := oxr.keep (SameIn.of_below b13 (by omega)); replace xuxr := xuxr.keep (SameIn.of_below b13 (by omega)); replace oxp := oxp.keep (SameIn.of_below b13 (by omega)); replace oxk := oxk.keep (SameIn.of_below b13 (by omega)); replace org0 := org0.keep (SameIn.of_below b13 (by omega)); replace B := B.trans (b13.mono (by omega)); clear b13; have yuxr0_13 : w13.cell? ⟨w7.heap.size, 0, none⟩ = some (.int .i64 r.w) := (by first | exact xuxr.cell 0); have yuxr1_13 : w13.cell? ⟨w7.heap.size, 1, none⟩ = some (.slice Auxr r.rows.length cuxr) := (by first | exact xuxr.cell 1); have yr0_13 : w13.cell? ⟨w.heap.size, 0, none⟩ = some (.int .i64 r.w) := (by first | exact xr.cell 0); have yr1_13 : w13.cell? ⟨w.heap.size, 1, none⟩ = some (sr) := (by first | exact xr.cell 1)) | (go_at_call 17; (with_reducible refine (eqRegion_c (x := r) _ (oxr.rd.more (Nat.zero_le _) (by omega)) (otr.rd.more (Nat.zero_le _) (by omega))).mono ?_); rintro e w14 ⟨rfl, b14⟩; have s14 := b14.size; replace xr := xr.keep (SameIn.of_below b14 (by omega)); replace or := or.keep (SameIn.of_below b14 (by omega)); replace op := op.keep (SameIn.of_below b14 (by omega)); replace ok := ok.keep (SameIn.of_below b14 (by omega)); replace orw0 := orw0.keep (SameIn.of_below b14 (by omega)); replace oxr := oxr.keep (SameIn.of_below b14 (by omega)); replace xuxr := xuxr.keep (SameIn.of_below b14 (by omega)); replace oxp := oxp.keep (SameIn.of_below b14 (by omega)); replace oxk := oxk.keep (SameIn.of_below b14 (by omega)); replace org0 := org0.keep (SameIn.of_below b14 (by omega)); replace otr := otr.keep (SameIn.of_below b14 (by omega)); replace B := B.trans (b14.mono (by omega)); clear b14; have yuxr0_14 : w14.cell? ⟨w7.heap.size, 0, none⟩ = some (.int .i64 r.w) := (by first | exact xuxr.cell 0); have yuxr1_14 : w14.cell? ⟨w7.heap.size, 1, none⟩ = some (.slice Auxr r.rows.length cuxr) := (by first | exact xuxr.cell 1); have yr0_14 : w14.cell? ⟨w.heap.size, 0, none⟩ = some (.int .i64 r.w) := (by first | exact xr.cell 0); have yr1_14 : w14.cell? ⟨w.heap.size, 1, none⟩ = some (sr) := (by first | exact xr.cell 1))))
  clear yuxr0_13 yuxr1_13 yr0_13 yr1_13 yuxr0_14 yuxr1_14 yr0_14 yr1_14
  clear yuxr0 yuxr1 yr0 yr1
  clear otr
  go_wp2_with fail
  refine (toCellSS_c _ (op.more (Nat.zero_le _) (by omega)) (by omega)).mono ?_
  rintro e w15 ⟨utp, rfl, otp, b15⟩
  have s15 := b15.size
  replace xr := xr.keep (SameIn.of_below b15 (by omega))
  replace or := or.keep (SameIn.of_below b15 (by omega))
  replace op := op.keep (SameIn.of_below b15 (by omega))
  replace ok := ok.keep (SameIn.of_below b15 (by omega))
  replace orw0 := orw0.keep (SameIn.of_below b15 (by omega))
  replace oxr := oxr.keep (SameIn.of_below b15 (by omega))
  replace xuxr := xuxr.keep (SameIn.of_below b15 (by omega))
  replace oxp := oxp.keep (SameIn.of_below b15 (by omega))
  replace oxk := oxk.keep (SameIn.of_below b15 (by omega))
  replace org0 := org0.keep (SameIn.of_below b15 (by omega))
  replace B := B.trans (b15.mono (by omega))
  clear b15
  go_wp2_with fail
  refine (eqCellSS_c _ (oxp.rd.more (Nat.zero_le _) (by omega)) (otp.rd.more (Nat.zero_le _) (by omega))).mono ?_
  rintro e w16 ⟨rfl, b16⟩
  have s16 := b16.size
  replace xr := xr.keep (SameIn.of_below b16 (by omega))
  replace or := or.keep (SameIn.of_below b16 (by omega))
  replace op := op.keep (SameIn.of_below b16 (by omega))
  replace ok := ok.keep (SameIn.of_below b16 (by omega))
  replace orw0 := orw0.keep (SameIn.of_below b16 (by omega))
  replace oxr := oxr.keep (SameIn.of_below b16 (by omega))
  replace xuxr := xuxr.keep (SameIn.of_below b16 (by omega))
  replace oxp := oxp.keep (SameIn.of_below b16 (by omega))
  replace oxk := oxk.keep (SameIn.of_below b16 (by omega))
  replace org0 := org0.keep (SameIn.of_below b16 (by omega))
  replace otp := otp.keep (SameIn.of_below b16 (by omega))
  replace B := B.trans (b16.mono (by omega))
  clear b16
  clear otp
  go_wp2_with fail
  refine (toIntS_c _ (ok.more (Nat.zero_le _) (by omega)) (by omega)).mono ?_
  rintro e w17 ⟨utk, rfl, otk, b17⟩
  have s17 := b17.size
  replace xr := xr.keep (SameIn.of_below b17 (by omega))
  replace or := or.keep (SameIn.of_below b17 (by omega))
  replace op := op.keep (SameIn.of_below b17 (by omega))
  replace ok := ok.keep (SameIn.of_below b17 (by omega))
  replace orw0 := orw0.keep (SameIn.of_below b17 (by omega))
  replace oxr := oxr.keep (SameIn.of_below b17 (by omega))
  replace xuxr := xuxr.keep (SameIn.of_below b17 (by omega))
  replace oxp := oxp.keep (SameIn.of_below b17 (by omega))
  replace oxk := oxk.keep (SameIn.of_below b17 (by omega))
  replace org0 := org0.keep (SameIn.of_below b17 (by omega))
  replace B := B.trans (b17.mono (by omega))
  clear b17
  go_wp2_with fail
  refine (eqIntS_c _ (oxk.rd.more (Nat.zero_le _) (by omega)) (otk.rd.more (Nat.zero_le _) (by omega))).mono ?_
  rintro e w18 ⟨rfl, b18⟩
  have s18 := b18.size
  replace xr := xr.keep (SameIn.of_below b18 (by omega))
  replace or := or.keep (SameIn.of_below b18 (by omega))
  replace op := op.keep (SameIn.of_below b18 (by omega))
  replace ok := ok.keep (SameIn.of_below b18 (by omega))
  replace orw0 := orw0.keep (SameIn.of_below b18 (by omega))
  replace oxr := oxr.keep (SameIn.of_below b18 (by omega))
  replace xuxr := xuxr.keep (SameIn.of_below b18 (by omega))
  replace oxp := oxp.keep (SameIn.of_below b18 (by omega))
  replace oxk := oxk.keep (SameIn.of_below b18 (by omega))
  replace org0 := org0.keep (SameIn.of_below b18 (by omega))
  replace otk := otk.keep (SameIn.of_below b18 (by omega))
  replace B := B.trans (b18.mono (by omega))
  clear b18
  clear otk
  have yuxr0 : w18.cell? ⟨w7.heap.size, 0, none⟩ = some (.int .i64 r.w) := (by first | exact xuxr.cell 0)
  have yuxr1 : w18.cell? ⟨w7.heap.size, 1, none⟩ = some (.slice Auxr r.rows.length cuxr) := (by first | exact xuxr.cell 1)
  go_wp2_with fail
  clear yuxr0 yuxr1
  refine (markRegion_c _ _ (by omega) (by omega) (by omega) (by omega) oxr).mono ?_
  rintro e w19 ⟨rfl, oxr', b19⟩
  have s19 := b19.size
  replace xr := xr.keep (SameIn.of_out b19 (by omega) (by omega))
  replace or := or.keep (SameIn.of_out b19 (by omega) (by omega))
  replace op := op.keep (SameIn.of_out b19 (by omega) (by omega))
  replace ok := ok.keep (SameIn.of_out b19 (by omega) (by omega))
  replace orw0 := orw0.keep (SameIn.of_out b19 (by omega) (by omega))
  replace xuxr := xuxr.keep (SameIn.of_out b19 (by omega) (by omega))
  replace oxp := oxp.keep (SameIn.of_out b19 (by omega) (by omega))
  replace oxk := oxk.keep (SameIn.of_out b19 (by omega) (by omega))
  replace org0 := org0.keep (SameIn.of_out b19 (by omega) (by omega))
  clear oxr
  have oxr := oxr'
  clear oxr'
  replace B := B.trans (b19.below (by omega) (by omega))
  clear b19
  go_wp2_with fail
  refine (markCellSS_c _ _ (by omega) (by omega) (by omega) (by omega) oxp).mono ?_
  rintro e w20 ⟨rfl, oxp', b20⟩
  have s20 := b20.size
  replace xr := xr.keep (SameIn.of_out b20 (by omega) (by omega))
  replace or := or.keep (SameIn.of_out b20 (by omega) (by omega))
  replace op := op.keep (SameIn.of_out b20 (by omega) (by omega))
  replace ok := ok.keep (SameIn.of_out b20 (by omega) (by omega))
  replace orw0 := orw0.keep (SameIn.of_out b20 (by omega) (by omega))
  replace oxr := oxr.keep (SameIn.of_out b20 (by omega) (by omega))
  replace xuxr := xuxr.keep (SameIn.of_out b20 (by omega) (by omega))
  replace oxk := oxk.keep (SameIn.of_out b20 (by omega) (by omega))
  replace org0 := org0.keep (SameIn.of_out b20 (by omega) (by omega))
  clear oxp
  have oxp := oxp'
  clear oxp'
  replace B := B.trans (b20.below (by omega) (by omega))
  clear b20
  go_wp2_with fail
  have hnum : CellSS.num p ≤ CellSS.tot p := Nat.le_add_left _ _
  refine (markIntS_c _ _ (by omega) (by omega) (by omega) oxk).mono ?_
  rintro e w21 ⟨rfl, oxk', b21⟩
  have s21 := b21.size
  replace xr := xr.keep (SameIn.of_out b21 (by omega) (by omega))
  replace or := or.keep (SameIn.of_out b21 (by omega) (by omega))
  replace op := op.keep (SameIn.of_out b21 (by omega) (by omega))
  replace ok := ok.keep (SameIn.of_out b21 (by omega) (by omega))
  replace orw0 := orw0.keep (SameIn.of_out b21 (by omega) (by omega))
  replace oxr := oxr.keep (SameIn.of_out b21 (by omega) (by omega))
  replace xuxr := xuxr.keep (SameIn.of_out b21 (by omega) (by omega))
  replace oxp := oxp.keep (SameIn.of_out b21 (by omega) (by omega))
  replace org0 := org0.keep (SameIn.of_out b21 (by omega) (by omega))
  clear oxk
  have oxk := oxk'
  clear oxk'
  replace B := B.trans (b21.below (by omega) (by omega))
  clear b21
  go_wp2_with fail
  refine (eqIntS_c _ (org0.rd.more (Nat.zero_le _) (by omega)) (orw0.rd.more (Nat.zero_le _) (by omega))).mono ?_
  rintro e w22 ⟨rfl, b22⟩
  have s22 := b22.size
  replace xr := xr.keep (SameIn.of_below b22 (by omega))
  replace or := or.keep (SameIn.of_below b22 (by omega))
  replace op := op.keep (SameIn.of_below b22 (by omega))
  replace ok := ok.keep (SameIn.of_below b22 (by omega))
  replace orw0 := orw0.keep (SameIn.of_below b22 (by omega))
  replace oxr := oxr.keep (SameIn.of_below b22 (by omega))
  replace xuxr := xuxr.keep (SameIn.of_below b22 (by omega))
  replace oxp := oxp.keep (SameIn.of_below b22 (by omega))
  replace oxk := oxk.keep (SameIn.of_below b22 (by omega))
  replace org0 := org0.keep (SameIn.of_below b22 (by omega))
  replace B := B.trans (b22.mono (by omega))
  clear b22
  have hl0 : (repL r p k).length ≤ 1048576 := (rep_len r p k)
  go_wp2_with fail
  refine (markIntS_c _ _ hl0 (by omega) (by omega) org0).mono ?_
  rintro e w23 ⟨rfl, org0', b23⟩
  have s23 := b23.size
  replace xr := xr.keep (SameIn.of_out b23 (by omega) (by omega))
  replace or := or.keep (SameIn.of_out b23 (by omega) (by omega))
  replace op := op.keep (SameIn.of_out b23 (by omega) (by omega))
  replace ok := ok.keep (SameIn.of_out b23 (by omega) (by omega))
  replace orw0 := orw0.keep (SameIn.of_out b23 (by omega) (by omega))
  replace oxr := oxr.keep (SameIn.of_out b23 (by omega) (by omega))
  replace xuxr := xuxr.keep (SameIn.of_out b23 (by omega) (by omega))
  replace oxp := oxp.keep (SameIn.of_out b23 (by omega) (by omega))
  replace oxk := oxk.keep (SameIn.of_out b23 (by omega) (by omega))
  clear org0
  have org0 := org0'
  clear org0'
  replace B := B.trans (b23.below (by omega) (by omega))
  clear b23
  go_wp2_with fail
  refine (heldIntS_c _ _ hl0 (by omega) (by omega) org0.rd).mono ?_
  rintro e w24 ⟨rfl, rfl⟩
  have yr0 : w23.cell? ⟨w.heap.size, 0, none⟩ = some (.int .i64 r.w) := (by first | exact xr.cell 0)
  have yr1 : w23.cell? ⟨w.heap.size, 1, none⟩ = some (sr) := (by first | exact xr.cell 1)
  go_wp2_with fail
  clear yr0 yr1
  refine (toRegion_c _ (or.more (Nat.zero_le _) (by omega)) (by omega)).mono ?_
  rintro e w25 ⟨uyr, rfl, oyr, b25⟩
  have s25 := b25.size
  replace xr := xr.keep (SameIn.of_below b25 (by omega))
  replace or := or.keep (SameIn.of_below b25 (by omega))
  replace op := op.keep (SameIn.of_below b25 (by omega))
  replace ok := ok.keep (SameIn.of_below b25 (by omega))
  replace orw0 := orw0.keep (SameIn.of_below b25 (by omega))
  replace oxr := oxr.keep (SameIn.of_below b25 (by omega))
  replace xuxr := xuxr.keep (SameIn.of_below b25 (by omega))
  replace oxp := oxp.keep (SameIn.of_below b25 (by omega))
  replace oxk := oxk.keep (SameIn.of_below b25 (by omega))
  replace org0 := org0.keep (SameIn.of_below b25 (by omega))
  replace B := B.trans (b25.mono (by omega))
  clear b25
  go_wp2_with fail
  refine (toCellSS_c _ (op.more (Nat.zero_le _) (by omega)) (by omega)).mono ?_
  rintro e w26 ⟨uyp, rfl, oyp, b26⟩
  have s26 := b26.size
  replace xr := xr.keep (SameIn.of_below b26 (by omega))
  replace or := or.keep (SameIn.of_below b26 (by omega))
  replace op := op.keep (SameIn.of_below b26 (by omega))
  replace ok := ok.keep (SameIn.of_below b26 (by omega))
  replace orw0 := orw0.keep (SameIn.of_below b26 (by omega))
  replace oxr := oxr.keep (SameIn.of_below b26 (by omega))
  replace xuxr := xuxr.keep (SameIn.of_below b26 (by omega))
  replace oxp := oxp.keep (SameIn.of_below b26 (by omega))
  replace oxk := oxk.keep (SameIn.of_below b26 (by omega))
  replace org0 := org0.keep (SameIn.of_below b26 (by omega))
  replace oyr := oyr.keep (SameIn.of_below b26 (by omega))
  replace B := B.trans (b26.mono (by omega))
  clear b26
  go_wp2_with fail
  refine (toIntS_c _ (ok.more (Nat.zero_le _) (by omega)) (by omega)).mono ?_
  rintro e w27 ⟨uyk, rfl, oyk, b27⟩
  have s27 := b27.size
  replace xr := xr.keep (SameIn.of_below b27 (by omega))
  replace or := or.keep (SameIn.of_below b27 (by omega))
  replace op := op.keep (SameIn.of_below b27 (by omega))
  replace ok := ok.keep (SameIn.of_below b27 (by omega))
  replace orw0 := orw0.keep (SameIn.of_below b27 (by omega))
  replace oxr := oxr.keep (SameIn.of_below b27 (by omega))
  replace xuxr := xuxr.keep (SameIn.of_below b27 (by omega))
  replace oxp := oxp.keep (SameIn.of_below b27 (by omega))
  replace oxk := oxk.keep (SameIn.of_below b27 (by omega))
  replace org0 := org0.keep (SameIn.of_below b27 (by omega))
  replace oyr := oyr.keep (SameIn.of_below b27 (by omega))
  replace oyp := oyp.keep (SameIn.of_below b27 (by omega))
  replace B := B.trans (b27.mono (by omega))
  clear b27
  go_wp2_with fail
  refine (impl_repair_c _ (oyr.rd.more (Nat.zero_le _) (by omega)) (oyp.rd.more (Nat.zero_le _) (by omega)) (oyk.rd.more (Nat.zero_le _) (by omega)) (CellSS.tot_le (l := p) (n := 1048576) (by omega)).1 (CellSS.tot_le (l := p) (n := 1048576) (by omega)).2 (by omega) (tab64_on htab B)).mono ?_
  rintro e w28 ⟨rh0, rfl, orh0, b28⟩
  have s28 := b28.size
  replace xr := xr.keep (SameIn.of_below b28 (by omega))
  replace or := or.keep (SameIn.of_below b28 (by omega))
  replace op := op.keep (SameIn.of_below b28 (by omega))
  replace ok := ok.keep (SameIn.of_below b28 (by omega))
  replace orw0 := orw0.keep (SameIn.of_below b28 (by omega))
  replace oxr := oxr.keep (SameIn.of_below b28 (by omega))
  replace xuxr := xuxr.keep (SameIn.of_below b28 (by omega))
  replace oxp := oxp.keep (SameIn.of_below b28 (by omega))
  replace oxk := oxk.keep (SameIn.of_below b28 (by omega))
  replace org0 := org0.keep (SameIn.of_below b28 (by omega))
  replace oyr := oyr.keep (SameIn.of_below b28 (by omega))
  replace oyp := oyp.keep (SameIn.of_below b28 (by omega))
  replace oyk := oyk.keep (SameIn.of_below b28 (by omega))
  replace B := B.trans (b28.mono (by omega))
  clear b28
  clear oyr
  clear oyp
  clear oyk
  go_wp2_with fail
  refine (eqIntS_c _ (orh0.rd.more (Nat.zero_le _) (by omega)) (orw0.rd.more (Nat.zero_le _) (by omega))).mono ?_
  rintro e w29 ⟨rfl, b29⟩
  have s29 := b29.size
  replace xr := xr.keep (SameIn.of_below b29 (by omega))
  replace or := or.keep (SameIn.of_below b29 (by omega))
  replace op := op.keep (SameIn.of_below b29 (by omega))
  replace ok := ok.keep (SameIn.of_below b29 (by omega))
  replace orw0 := orw0.keep (SameIn.of_below b29 (by omega))
  replace oxr := oxr.keep (SameIn.of_below b29 (by omega))
  replace xuxr := xuxr.keep (SameIn.of_below b29 (by omega))
  replace oxp := oxp.keep (SameIn.of_below b29 (by omega))
  replace oxk := oxk.keep (SameIn.of_below b29 (by omega))
  replace org0 := org0.keep (SameIn.of_below b29 (by omega))
  replace orh0 := orh0.keep (SameIn.of_below b29 (by omega))
  replace B := B.trans (b29.mono (by omega))
  clear b29
  go_wp2_with fail
  refine (heldIntS_c _ _ hl0 (by omega) (by omega) org0.rd).mono ?_
  rintro e w30 ⟨rfl, rfl⟩
  go_wp2
  go_ret
  exact ⟨rfl, B⟩

end Go.Proofs.YtelneohlpljblaaGreatDoor
