
/-
  The law FnExactApplyEdits, walked by contracts.
-/
import Derived.Test.YthdacnlkonheaaaApplyW
import Derived.Test.YthdacnlkonheaaaApplyT
import Derived.Test.YthdacnlkonheaaaLawInts
import Derived.Test.YthdacnlkonheaaaLawEds
namespace Go.Proofs.Ythdacnlkonheaaa
open Go.RowKit

theorem applyTo_len : ∀ (l : List Ed) (r : Reg) (o : Reg), r.applyTo l = some o → o.rows.length = r.rows.length
  | [], r, o, h => by injection h with h; rw [h]
  | e :: l, r, o, h => by
    unfold Reg.applyTo at h
    rw [List.foldlM_cons] at h
    cases ha : r.apply1 e with
    | none => rw [ha] at h; cases h
    | some r' =>
      rw [ha] at h
      have h1 := applyTo_len l r' o h
      unfold Reg.apply1 at ha
      split at ha
      · injection ha with ha
        rw [h1, ← ha, Reg.flip_len]
      · cases ha
theorem applyEds_len {r : Reg} {l : List Ed} (h : r.rows.length ≤ 1048576) : ((r.applyEds l).getD ⟨0, []⟩).rows.length ≤ 1048576 := by
  unfold Reg.applyEds
  split
  · cases ha : r.applyTo l with
    | none => simp
    | some o => simp only [Option.getD_some]; rw [applyTo_len l r o ha]; exact h
  · simp
set_option maxRecDepth 100000 in
set_option maxHeartbeats 8000000 in
theorem law_ApplyEdits (vr : Value) (r : Reg) (vl : Value) (l : List Ed) (w : World) (hr : RegRd w 0 w.heap.size vr r) (hl : EdsRd w 0 w.heap.size vl l) :
    Calls Try.prog 3 #[vr, vl] w fun e w' => e = .returned (.bool true) ∧ Below w.heap.size w w' := by
  obtain ⟨D0, hD0⟩ : ∃ D, D = (r.applyEds l).getD ⟨0, []⟩ := ⟨_, rfl⟩
  have HD0 := Lib.hid hD0
  clear hD0
  obtain ⟨sr, rfl, hsr⟩ := id hr
  have B : Below w.heap.size w (w.alloc (.cells #[.int .i64 r.w, sr] 24)) := ((Below.refl w.heap.size w).alloc (by first | exact Nat.le_refl _ | (simp; done) | (simp; omega)) _)
  have s0 : w.heap.size + 1 ≤ (w.alloc (.cells #[.int .i64 r.w, sr] 24)).heap.size := by simp
  have xr : BoxIn (w.alloc (.cells #[.int .i64 r.w, sr] 24)) w.heap.size (w.heap.size + 1) (w.heap.size) 24 #[.int .i64 r.w, sr] := ⟨by have := Blk.new w 24 #[.int .i64 r.w, sr]; simpa using this, by omega, by omega⟩
  have or := hr.keep (SameIn.of_below B (Nat.le_refl _))
  have ol := hl.keep (SameIn.of_below B (Nat.le_refl _))
  by_cases q0 : 1048576 < (r.rows.length : Int)
  · skip
    go_enter Try.func3, Try.ntmps3
    go_wp2_with fail
    generalize (w.alloc (.cells #[.int .i64 r.w, sr] 24)) = W0 at *
    refine (szRegion_c _ _ (or.more (Nat.zero_le _) (by omega)) (by omega) (by omega)).mono ?_
    rintro e w1 ⟨rfl, b1⟩
    have s1 := b1.size
    replace xr := xr.keep (SameIn.of_below b1 (by omega))
    replace or := or.keep (SameIn.of_below b1 (by omega))
    replace ol := ol.keep (SameIn.of_below b1 (by omega))
    replace B := B.trans (b1.mono (by omega))
    clear b1
    rw [if_pos (by omega)]
    go_wp2
    go_ret
    exact ⟨rfl, B⟩
  by_cases q1 : 1048576 < (r.rows.length : Int) + (l.length : Int)
  · skip
    go_enter Try.func3, Try.ntmps3
    go_wp2_with fail
    generalize (w.alloc (.cells #[.int .i64 r.w, sr] 24)) = W0 at *
    refine (szRegion_c _ _ (or.more (Nat.zero_le _) (by omega)) (by omega) (by omega)).mono ?_
    rintro e w1 ⟨rfl, b1⟩
    have s1 := b1.size
    replace xr := xr.keep (SameIn.of_below b1 (by omega))
    replace or := or.keep (SameIn.of_below b1 (by omega))
    replace ol := ol.keep (SameIn.of_below b1 (by omega))
    replace B := B.trans (b1.mono (by omega))
    clear b1
    rw [if_neg (by omega)]
    go_wp2_with fail
    refine (szEditS_c _ _ (ol.more (Nat.zero_le _) (by omega)) (by omega) (by omega)).mono ?_
    rintro e w2 ⟨rfl, rfl⟩
    rw [if_pos (by omega)]
    go_wp2
    go_ret
    exact ⟨rfl, B⟩
  go_enter Try.func3, Try.ntmps3
  go_wp2_with fail
  generalize (w.alloc (.cells #[.int .i64 r.w, sr] 24)) = W0 at *
  refine (szRegion_c _ _ (or.more (Nat.zero_le _) (by omega)) (by omega) (by omega)).mono ?_
  rintro e w1 ⟨rfl, b1⟩
  have s1 := b1.size
  replace xr := xr.keep (SameIn.of_below b1 (by omega))
  replace or := or.keep (SameIn.of_below b1 (by omega))
  replace ol := ol.keep (SameIn.of_below b1 (by omega))
  replace B := B.trans (b1.mono (by omega))
  clear b1
  rw [if_neg (by omega)]
  go_wp2_with fail
  refine (szEditS_c _ _ (ol.more (Nat.zero_le _) (by omega)) (by omega) (by omega)).mono ?_
  rintro e w2 ⟨rfl, rfl⟩
  rw [if_neg (by omega)]
  have yr0 : w1.cell? ⟨w.heap.size, 0, none⟩ = some (.int .i64 r.w) := (by first | exact xr.cell 0)
  have yr1 : w1.cell? ⟨w.heap.size, 1, none⟩ = some (sr) := (by first | exact xr.cell 1)
  go_wp2_with fail
  clear yr0 yr1
  refine (toRegion_c _ (or.more (Nat.zero_le _) (by omega)) (by omega)).mono ?_
  rintro e w3 ⟨usr, rfl, osr, b3⟩
  have s3 := b3.size
  replace xr := xr.keep (SameIn.of_below b3 (by omega))
  replace or := or.keep (SameIn.of_below b3 (by omega))
  replace ol := ol.keep (SameIn.of_below b3 (by omega))
  replace B := B.trans (b3.mono (by omega))
  clear b3
  go_wp2_with fail
  refine (toEditS_c _ (ol.more (Nat.zero_le _) (by omega)) (by omega)).mono ?_
  rintro e w4 ⟨usl, rfl, osl, b4⟩
  have s4 := b4.size
  replace xr := xr.keep (SameIn.of_below b4 (by omega))
  replace or := or.keep (SameIn.of_below b4 (by omega))
  replace ol := ol.keep (SameIn.of_below b4 (by omega))
  replace osr := osr.keep (SameIn.of_below b4 (by omega))
  replace B := B.trans (b4.mono (by omega))
  clear b4
  go_wp2_with fail
  refine (spec_apply_c _ (osr.rd.more (Nat.zero_le _) (by omega)) (osl.rd.more (Nat.zero_le _) (by omega)) (by omega)).mono ?_
  rintro e w5 ⟨rw0, rfl, orw0, b5⟩
  have s5 := b5.size
  replace xr := xr.keep (SameIn.of_below b5 (by omega))
  replace or := or.keep (SameIn.of_below b5 (by omega))
  replace ol := ol.keep (SameIn.of_below b5 (by omega))
  replace osr := osr.keep (SameIn.of_below b5 (by omega))
  replace osl := osl.keep (SameIn.of_below b5 (by omega))
  replace B := B.trans (b5.mono (by omega))
  clear b5
  clear osr
  clear osl
  rw [← HD0.out] at orw0
  obtain ⟨trw0, rfl, grw0⟩ := id orw0
  obtain ⟨Arw0, crw0, rfl, _, _⟩ := grw0.rd
  clear grw0
  have bb : Below w5.heap.size w5 (w5.alloc (.cells #[.int .i64 D0.w, .slice Arw0 D0.rows.length crw0] 28)) := (Below.refl _ _).alloc (Nat.le_refl _) _
  have s6 : w5.heap.size + 1 ≤ (w5.alloc (.cells #[.int .i64 D0.w, .slice Arw0 D0.rows.length crw0] 28)).heap.size := by simp
  replace xr := xr.keep (SameIn.of_below bb (by omega))
  replace or := or.keep (SameIn.of_below bb (by omega))
  replace ol := ol.keep (SameIn.of_below bb (by omega))
  replace orw0 := orw0.keep (SameIn.of_below bb (by omega))
  replace B := B.trans (bb.mono (by omega))
  clear bb
  have xrw0 : BoxIn (w5.alloc (.cells #[.int .i64 D0.w, .slice Arw0 D0.rows.length crw0] 28)) w5.heap.size (w5.heap.size + 1) w5.heap.size 28 #[.int .i64 D0.w, .slice Arw0 D0.rows.length crw0] := ⟨Blk.new _ _ _, Nat.le_refl _, Nat.lt_succ_self _⟩
  have yr0 : (w5.alloc (.cells #[.int .i64 D0.w, .slice Arw0 D0.rows.length crw0] 28)).cell? ⟨w.heap.size, 0, none⟩ = some (.int .i64 r.w) := (by first | exact xr.cell 0)
  have yr1 : (w5.alloc (.cells #[.int .i64 D0.w, .slice Arw0 D0.rows.length crw0] 28)).cell? ⟨w.heap.size, 1, none⟩ = some (sr) := (by first | exact xr.cell 1)
  go_wp2_with fail
  generalize w5.alloc (.cells #[.int .i64 D0.w, .slice Arw0 D0.rows.length crw0] 28) = w6 at *
  clear yr0 yr1
  refine (toRegion_c _ (or.more (Nat.zero_le _) (by omega)) (by omega)).mono ?_
  rintro e w7 ⟨uxr, rfl, oxr, b7⟩
  have s7 := b7.size
  replace xr := xr.keep (SameIn.of_below b7 (by omega))
  replace or := or.keep (SameIn.of_below b7 (by omega))
  replace ol := ol.keep (SameIn.of_below b7 (by omega))
  replace orw0 := orw0.keep (SameIn.of_below b7 (by omega))
  replace xrw0 := xrw0.keep (SameIn.of_below b7 (by omega))
  replace B := B.trans (b7.mono (by omega))
  clear b7
  obtain ⟨tuxr, rfl, guxr⟩ := id oxr
  obtain ⟨Auxr, cuxr, rfl, _, _⟩ := guxr.rd
  clear guxr
  have bb : Below w7.heap.size w7 (w7.alloc (.cells #[.int .i64 r.w, .slice Auxr r.rows.length cuxr] 28)) := (Below.refl _ _).alloc (Nat.le_refl _) _
  have s8 : w7.heap.size + 1 ≤ (w7.alloc (.cells #[.int .i64 r.w, .slice Auxr r.rows.length cuxr] 28)).heap.size := by simp
  replace xr := xr.keep (SameIn.of_below bb (by omega))
  replace or := or.keep (SameIn.of_below bb (by omega))
  replace ol := ol.keep (SameIn.of_below bb (by omega))
  replace orw0 := orw0.keep (SameIn.of_below bb (by omega))
  replace xrw0 := xrw0.keep (SameIn.of_below bb (by omega))
  replace oxr := oxr.keep (SameIn.of_below bb (by omega))
  replace B := B.trans (bb.mono (by omega))
  clear bb
  have xuxr : BoxIn (w7.alloc (.cells #[.int .i64 r.w, .slice Auxr r.rows.length cuxr] 28)) w7.heap.size (w7.heap.size + 1) w7.heap.size 28 #[.int .i64 r.w, .slice Auxr r.rows.length cuxr] := ⟨Blk.new _ _ _, Nat.le_refl _, Nat.lt_succ_self _⟩
  go_wp2_with fail
  generalize w7.alloc (.cells #[.int .i64 r.w, .slice Auxr r.rows.length cuxr] 28) = w8 at *
  refine (toEditS_c _ (ol.more (Nat.zero_le _) (by omega)) (by omega)).mono ?_
  rintro e w9 ⟨uxl, rfl, oxl, b9⟩
  have s9 := b9.size
  replace xr := xr.keep (SameIn.of_below b9 (by omega))
  replace or := or.keep (SameIn.of_below b9 (by omega))
  replace ol := ol.keep (SameIn.of_below b9 (by omega))
  replace orw0 := orw0.keep (SameIn.of_below b9 (by omega))
  replace xrw0 := xrw0.keep (SameIn.of_below b9 (by omega))
  replace oxr := oxr.keep (SameIn.of_below b9 (by omega))
  replace xuxr := xuxr.keep (SameIn.of_below b9 (by omega))
  replace B := B.trans (b9.mono (by omega))
  clear b9
  have yuxr0 : w9.cell? ⟨w7.heap.size, 0, none⟩ = some (.int .i64 r.w) := (by first | exact xuxr.cell 0)
  have yuxr1 : w9.cell? ⟨w7.heap.size, 1, none⟩ = some (.slice Auxr r.rows.length cuxr) := (by first | exact xuxr.cell 1)
  go_wp2_with fail
  clear yuxr0 yuxr1
  refine (impl_apply_c _ (oxr.rd.more (Nat.zero_le _) (by omega)) (oxl.rd.more (Nat.zero_le _) (by omega)) (by omega)).mono ?_
  rintro e w10 ⟨rg0, rfl, org0, b10⟩
  have s10 := b10.size
  replace xr := xr.keep (SameIn.of_below b10 (by omega))
  replace or := or.keep (SameIn.of_below b10 (by omega))
  replace ol := ol.keep (SameIn.of_below b10 (by omega))
  replace orw0 := orw0.keep (SameIn.of_below b10 (by omega))
  replace xrw0 := xrw0.keep (SameIn.of_below b10 (by omega))
  replace oxr := oxr.keep (SameIn.of_below b10 (by omega))
  replace xuxr := xuxr.keep (SameIn.of_below b10 (by omega))
  replace oxl := oxl.keep (SameIn.of_below b10 (by omega))
  replace B := B.trans (b10.mono (by omega))
  clear b10
  rw [← HD0.out] at org0
  obtain ⟨trg0, rfl, grg0⟩ := id org0
  obtain ⟨Arg0, crg0, rfl, _, _⟩ := grg0.rd
  clear grg0
  have bb : Below w10.heap.size w10 (w10.alloc (.cells #[.int .i64 D0.w, .slice Arg0 D0.rows.length crg0] 28)) := (Below.refl _ _).alloc (Nat.le_refl _) _
  have s11 : w10.heap.size + 1 ≤ (w10.alloc (.cells #[.int .i64 D0.w, .slice Arg0 D0.rows.length crg0] 28)).heap.size := by simp
  replace xr := xr.keep (SameIn.of_below bb (by omega))
  replace or := or.keep (SameIn.of_below bb (by omega))
  replace ol := ol.keep (SameIn.of_below bb (by omega))
  replace orw0 := orw0.keep (SameIn.of_below bb (by omega))
  replace xrw0 := xrw0.keep (SameIn.of_below bb (by omega))
  replace oxr := oxr.keep (SameIn.of_below bb (by omega))
  replace xuxr := xuxr.keep (SameIn.of_below bb (by omega))
  replace oxl := oxl.keep (SameIn.of_below bb (by omega))
  replace org0 := org0.keep (SameIn.of_below bb (by omega))
  replace B := B.trans (bb.mono (by omega))
  clear bb
  have xrg0 : BoxIn (w10.alloc (.cells #[.int .i64 D0.w, .slice Arg0 D0.rows.length crg0] 28)) w10.heap.size (w10.heap.size + 1) w10.heap.size 28 #[.int .i64 D0.w, .slice Arg0 D0.rows.length crg0] := ⟨Blk.new _ _ _, Nat.le_refl _, Nat.lt_succ_self _⟩
  have yrg00 : (w10.alloc (.cells #[.int .i64 D0.w, .slice Arg0 D0.rows.length crg0] 28)).cell? ⟨w10.heap.size, 0, none⟩ = some (.int .i64 D0.w) := (by first | exact xrg0.cell 0)
  have yrg01 : (w10.alloc (.cells #[.int .i64 D0.w, .slice Arg0 D0.rows.length crg0] 28)).cell? ⟨w10.heap.size, 1, none⟩ = some (.slice Arg0 D0.rows.length crg0) := (by first | exact xrg0.cell 1)
  have yrw00 : (w10.alloc (.cells #[.int .i64 D0.w, .slice Arg0 D0.rows.length crg0] 28)).cell? ⟨w5.heap.size, 0, none⟩ = some (.int .i64 D0.w) := (by first | exact xrw0.cell 0)
  have yrw01 : (w10.alloc (.cells #[.int .i64 D0.w, .slice Arg0 D0.rows.length crg0] 28)).cell? ⟨w5.heap.size, 1, none⟩ = some (.slice Arw0 D0.rows.length crw0) := (by first | exact xrw0.cell 1)
  go_wp2_with fail
  generalize w10.alloc (.cells #[.int .i64 D0.w, .slice Arg0 D0.rows.length crg0] 28) = w11 at *
  clear yrg00 yrg01 yrw00 yrw01
  refine (eqRegion_c _ (org0.rd.more (Nat.zero_le _) (by omega)) (orw0.rd.more (Nat.zero_le _) (by omega))).mono ?_
  rintro e w12 ⟨rfl, b12⟩
  have s12 := b12.size
  replace xr := xr.keep (SameIn.of_below b12 (by omega))
  replace or := or.keep (SameIn.of_below b12 (by omega))
  replace ol := ol.keep (SameIn.of_below b12 (by omega))
  replace orw0 := orw0.keep (SameIn.of_below b12 (by omega))
  replace xrw0 := xrw0.keep (SameIn.of_below b12 (by omega))
  replace oxr := oxr.keep (SameIn.of_below b12 (by omega))
  replace xuxr := xuxr.keep (SameIn.of_below b12 (by omega))
  replace oxl := oxl.keep (SameIn.of_below b12 (by omega))
  replace org0 := org0.keep (SameIn.of_below b12 (by omega))
  replace xrg0 := xrg0.keep (SameIn.of_below b12 (by omega))
  replace B := B.trans (b12.mono (by omega))
  clear b12
  have yuxr0 : w12.cell? ⟨w7.heap.size, 0, none⟩ = some (.int .i64 r.w) := (by first | exact xuxr.cell 0)
  have yuxr1 : w12.cell? ⟨w7.heap.size, 1, none⟩ = some (.slice Auxr r.rows.length cuxr) := (by first | exact xuxr.cell 1)
  have yr0 : w12.cell? ⟨w.heap.size, 0, none⟩ = some (.int .i64 r.w) := (by first | exact xr.cell 0)
  have yr1 : w12.cell? ⟨w.heap.size, 1, none⟩ = some (sr) := (by first | exact xr.cell 1)
  go_wp2_with fail
  go_region_held3 (fun w' => w'.cell? ⟨w7.heap.size, 0, none⟩ = some (.int .i64 r.w) ∧ w'.cell? ⟨w7.heap.size, 1, none⟩ = some (.slice Auxr r.rows.length cuxr) ∧ w'.cell? ⟨w.heap.size, 0, none⟩ = some (.int .i64 r.w) ∧ w'.cell? ⟨w.heap.size, 1, none⟩ = some (sr))
    (first | ((try dsimp only); refine ⟨?_, ?_, ?_, ?_⟩ <;> assumption) | go_keep)
    ((first | (go_at_call 15; (with_reducible refine (toRegion_c (v := (.agg #[.int .i64 r.w, sr])) (x := r) _ (by exact ((or.keep (SameIn.drew)).more (Nat.zero_le _) (le_drew (show w.heap.size ≤ w12.heap.size by omega)))) (by omega)).mono ?_); rintro e w13 ⟨utr, rfl, otr, b13⟩; replace b13 := below_undrew b13; have s13 := b13.size; replace xr := xr.keep (SameIn.of_below b13 (by omega)); replace or := or.keep (SameIn.of_below b13 (by omega)); replace ol := ol.keep (SameIn.of_below b13 (by omega)); replace orw0 := orw0.keep (SameIn.of_below b13 (by omega)); replace xrw0 := xrw0.keep (SameIn.of_below b13 (by omega)); replace oxr := oxr.keep (SameIn.of_below b13 (by omega)); replace xuxr := xuxr.keep (SameIn.of_below b13 (by omega)); replace oxl := oxl.keep (SameIn.of_below b13 (by omega)); replace org0 := org0.keep (SameIn.of_below b13 (by omega)); replace xrg0 := xrg0.keep (SameIn.of_below b13 (by omega)); replace B := B.trans (b13.mono (by omega)); clear b13; have yuxr0_13 : w13.cell? ⟨w7.heap.size, 0, none⟩ = some (.int .i64 r.w) := (by first | exact xuxr.cell 0); have yuxr1_13 : w13.cell? ⟨w7.heap.size, 1, none⟩ = some (.slice Auxr r.rows.length cuxr) := (by first | exact xuxr.cell 1); have yr0_13 : w13.cell? ⟨w.heap.size, 0, none⟩ = some (.int .i64 r.w) := (by first | exact xr.cell 0); have yr1_13 : w13.cell? ⟨w.heap.size, 1, none⟩ = some (sr) := (by first | exact xr.cell 1)) | (go_at_call 18; (with_reducible refine (eqRegion_c (x := r) _ (oxr.rd.more (Nat.zero_le _) (by omega)) (otr.rd.more (Nat.zero_le _) (by omega))).mono ?_); rintro e w14 ⟨rfl, b14⟩; have s14 := b14.size; replace xr := xr.keep (SameIn.of_below b14 (by omega)); replace or := or.keep (SameIn.of_below b14 (by omega)); replace ol := ol.keep (SameIn.of_below b14 (by omega)); replace orw0 := orw0.keep (SameIn.of_below b14 (by omega)); replace xrw0 := xrw0.keep (SameIn.of_below b14 (by omega)); replace oxr := oxr.keep (SameIn.of_below b14 (by omega)); replace xuxr := xuxr.keep (SameIn.of_below b14 (by omega)); replace oxl := oxl.keep (SameIn.of_below b14 (by omega)); replace org0 := org0.keep (SameIn.of_below b14 (by omega)); replace xrg0 := xrg0.keep (SameIn.of_below b14 (by omega)); replace otr := otr.keep (SameIn.of_below b14 (by omega)); replace B := B.trans (b14.mono (by omega)); clear b14; have yuxr0_14 : w14.cell? ⟨w7.heap.size, 0, none⟩ = some (.int .i64 r.w) := (by first | exact xuxr.cell 0); have yuxr1_14 : w14.cell? ⟨w7.heap.size, 1, none⟩ = some (.slice Auxr r.rows.length cuxr) := (by first | exact xuxr.cell 1); have yr0_14 : w14.cell? ⟨w.heap.size, 0, none⟩ = some (.int .i64 r.w) := (by first | exact xr.cell 0); have yr1_14 : w14.cell? ⟨w.heap.size, 1, none⟩ = some (sr) := (by first | exact xr.cell 1))))
  clear yuxr0_13 yuxr1_13 yr0_13 yr1_13 yuxr0_14 yuxr1_14 yr0_14 yr1_14
  clear yuxr0 yuxr1 yr0 yr1
  clear otr
  go_wp2_with fail
  refine (toEditS_c _ (ol.more (Nat.zero_le _) (by omega)) (by omega)).mono ?_
  rintro e w15 ⟨utl, rfl, otl, b15⟩
  have s15 := b15.size
  replace xr := xr.keep (SameIn.of_below b15 (by omega))
  replace or := or.keep (SameIn.of_below b15 (by omega))
  replace ol := ol.keep (SameIn.of_below b15 (by omega))
  replace orw0 := orw0.keep (SameIn.of_below b15 (by omega))
  replace xrw0 := xrw0.keep (SameIn.of_below b15 (by omega))
  replace oxr := oxr.keep (SameIn.of_below b15 (by omega))
  replace xuxr := xuxr.keep (SameIn.of_below b15 (by omega))
  replace oxl := oxl.keep (SameIn.of_below b15 (by omega))
  replace org0 := org0.keep (SameIn.of_below b15 (by omega))
  replace xrg0 := xrg0.keep (SameIn.of_below b15 (by omega))
  replace B := B.trans (b15.mono (by omega))
  clear b15
  go_wp2_with fail
  refine (eqEditS_c _ (oxl.rd.more (Nat.zero_le _) (by omega)) (otl.rd.more (Nat.zero_le _) (by omega))).mono ?_
  rintro e w16 ⟨rfl, b16⟩
  have s16 := b16.size
  replace xr := xr.keep (SameIn.of_below b16 (by omega))
  replace or := or.keep (SameIn.of_below b16 (by omega))
  replace ol := ol.keep (SameIn.of_below b16 (by omega))
  replace orw0 := orw0.keep (SameIn.of_below b16 (by omega))
  replace xrw0 := xrw0.keep (SameIn.of_below b16 (by omega))
  replace oxr := oxr.keep (SameIn.of_below b16 (by omega))
  replace xuxr := xuxr.keep (SameIn.of_below b16 (by omega))
  replace oxl := oxl.keep (SameIn.of_below b16 (by omega))
  replace org0 := org0.keep (SameIn.of_below b16 (by omega))
  replace xrg0 := xrg0.keep (SameIn.of_below b16 (by omega))
  replace otl := otl.keep (SameIn.of_below b16 (by omega))
  replace B := B.trans (b16.mono (by omega))
  clear b16
  clear otl
  have yuxr0 : w16.cell? ⟨w7.heap.size, 0, none⟩ = some (.int .i64 r.w) := (by first | exact xuxr.cell 0)
  have yuxr1 : w16.cell? ⟨w7.heap.size, 1, none⟩ = some (.slice Auxr r.rows.length cuxr) := (by first | exact xuxr.cell 1)
  go_wp2_with fail
  clear yuxr0 yuxr1
  refine (markRegion_c _ _ (by omega) (by omega) (by omega) (by omega) oxr).mono ?_
  rintro e w17 ⟨rfl, oxr', b17⟩
  have s17 := b17.size
  replace xr := xr.keep (SameIn.of_out b17 (by omega) (by omega))
  replace or := or.keep (SameIn.of_out b17 (by omega) (by omega))
  replace ol := ol.keep (SameIn.of_out b17 (by omega) (by omega))
  replace orw0 := orw0.keep (SameIn.of_out b17 (by omega) (by omega))
  replace xrw0 := xrw0.keep (SameIn.of_out b17 (by omega) (by omega))
  replace xuxr := xuxr.keep (SameIn.of_out b17 (by omega) (by omega))
  replace oxl := oxl.keep (SameIn.of_out b17 (by omega) (by omega))
  replace org0 := org0.keep (SameIn.of_out b17 (by omega) (by omega))
  replace xrg0 := xrg0.keep (SameIn.of_out b17 (by omega) (by omega))
  clear oxr
  have oxr := oxr'
  clear oxr'
  replace B := B.trans (b17.below (by omega) (by omega))
  clear b17
  go_wp2_with fail
  refine (markEditS_c _ _ (by omega) (by omega) (by omega) oxl).mono ?_
  rintro e w18 ⟨rfl, oxl', b18⟩
  have s18 := b18.size
  replace xr := xr.keep (SameIn.of_out b18 (by omega) (by omega))
  replace or := or.keep (SameIn.of_out b18 (by omega) (by omega))
  replace ol := ol.keep (SameIn.of_out b18 (by omega) (by omega))
  replace orw0 := orw0.keep (SameIn.of_out b18 (by omega) (by omega))
  replace xrw0 := xrw0.keep (SameIn.of_out b18 (by omega) (by omega))
  replace oxr := oxr.keep (SameIn.of_out b18 (by omega) (by omega))
  replace xuxr := xuxr.keep (SameIn.of_out b18 (by omega) (by omega))
  replace org0 := org0.keep (SameIn.of_out b18 (by omega) (by omega))
  replace xrg0 := xrg0.keep (SameIn.of_out b18 (by omega) (by omega))
  clear oxl
  have oxl := oxl'
  clear oxl'
  replace B := B.trans (b18.below (by omega) (by omega))
  clear b18
  have yrg00 : w18.cell? ⟨w10.heap.size, 0, none⟩ = some (.int .i64 D0.w) := (by first | exact xrg0.cell 0)
  have yrg01 : w18.cell? ⟨w10.heap.size, 1, none⟩ = some (.slice Arg0 D0.rows.length crg0) := (by first | exact xrg0.cell 1)
  have yrw00 : w18.cell? ⟨w5.heap.size, 0, none⟩ = some (.int .i64 D0.w) := (by first | exact xrw0.cell 0)
  have yrw01 : w18.cell? ⟨w5.heap.size, 1, none⟩ = some (.slice Arw0 D0.rows.length crw0) := (by first | exact xrw0.cell 1)
  go_wp2_with fail
  clear yrg00 yrg01 yrw00 yrw01
  refine (eqRegion_c _ (org0.rd.more (Nat.zero_le _) (by omega)) (orw0.rd.more (Nat.zero_le _) (by omega))).mono ?_
  rintro e w19 ⟨rfl, b19⟩
  have s19 := b19.size
  replace xr := xr.keep (SameIn.of_below b19 (by omega))
  replace or := or.keep (SameIn.of_below b19 (by omega))
  replace ol := ol.keep (SameIn.of_below b19 (by omega))
  replace orw0 := orw0.keep (SameIn.of_below b19 (by omega))
  replace xrw0 := xrw0.keep (SameIn.of_below b19 (by omega))
  replace oxr := oxr.keep (SameIn.of_below b19 (by omega))
  replace xuxr := xuxr.keep (SameIn.of_below b19 (by omega))
  replace oxl := oxl.keep (SameIn.of_below b19 (by omega))
  replace org0 := org0.keep (SameIn.of_below b19 (by omega))
  replace xrg0 := xrg0.keep (SameIn.of_below b19 (by omega))
  replace B := B.trans (b19.mono (by omega))
  clear b19
  have hl0 : D0.rows.length ≤ 1048576 := by rw [HD0.out]; exact applyEds_len (by omega)
  have yrg00 : w19.cell? ⟨w10.heap.size, 0, none⟩ = some (.int .i64 D0.w) := (by first | exact xrg0.cell 0)
  have yrg01 : w19.cell? ⟨w10.heap.size, 1, none⟩ = some (.slice Arg0 D0.rows.length crg0) := (by first | exact xrg0.cell 1)
  go_wp2_with fail
  clear yrg00 yrg01
  refine (markRegion_c _ _ hl0 (by omega) (by omega) (by omega) org0).mono ?_
  rintro e w20 ⟨rfl, org0', b20⟩
  have s20 := b20.size
  replace xr := xr.keep (SameIn.of_out b20 (by omega) (by omega))
  replace or := or.keep (SameIn.of_out b20 (by omega) (by omega))
  replace ol := ol.keep (SameIn.of_out b20 (by omega) (by omega))
  replace orw0 := orw0.keep (SameIn.of_out b20 (by omega) (by omega))
  replace xrw0 := xrw0.keep (SameIn.of_out b20 (by omega) (by omega))
  replace oxr := oxr.keep (SameIn.of_out b20 (by omega) (by omega))
  replace xuxr := xuxr.keep (SameIn.of_out b20 (by omega) (by omega))
  replace oxl := oxl.keep (SameIn.of_out b20 (by omega) (by omega))
  replace xrg0 := xrg0.keep (SameIn.of_out b20 (by omega) (by omega))
  clear org0
  have org0 := org0'
  clear org0'
  replace B := B.trans (b20.below (by omega) (by omega))
  clear b20
  have yrg00 : w20.cell? ⟨w10.heap.size, 0, none⟩ = some (.int .i64 D0.w) := (by first | exact xrg0.cell 0)
  have yrg01 : w20.cell? ⟨w10.heap.size, 1, none⟩ = some (.slice Arg0 D0.rows.length crg0) := (by first | exact xrg0.cell 1)
  go_wp2_with fail
  clear yrg00 yrg01
  refine (heldRegion_c _ _ hl0 (by omega) (by omega) (org0.rd.more (Nat.zero_le _) (by omega))).mono ?_
  rintro e w21 ⟨rfl, b21⟩
  have s21 := b21.size
  replace xr := xr.keep (SameIn.of_below b21 (by omega))
  replace or := or.keep (SameIn.of_below b21 (by omega))
  replace ol := ol.keep (SameIn.of_below b21 (by omega))
  replace orw0 := orw0.keep (SameIn.of_below b21 (by omega))
  replace xrw0 := xrw0.keep (SameIn.of_below b21 (by omega))
  replace oxr := oxr.keep (SameIn.of_below b21 (by omega))
  replace xuxr := xuxr.keep (SameIn.of_below b21 (by omega))
  replace oxl := oxl.keep (SameIn.of_below b21 (by omega))
  replace org0 := org0.keep (SameIn.of_below b21 (by omega))
  replace xrg0 := xrg0.keep (SameIn.of_below b21 (by omega))
  replace B := B.trans (b21.mono (by omega))
  clear b21
  have yr0 : w21.cell? ⟨w.heap.size, 0, none⟩ = some (.int .i64 r.w) := (by first | exact xr.cell 0)
  have yr1 : w21.cell? ⟨w.heap.size, 1, none⟩ = some (sr) := (by first | exact xr.cell 1)
  go_wp2_with fail
  clear yr0 yr1
  refine (toRegion_c _ (or.more (Nat.zero_le _) (by omega)) (by omega)).mono ?_
  rintro e w22 ⟨uyr, rfl, oyr, b22⟩
  have s22 := b22.size
  replace xr := xr.keep (SameIn.of_below b22 (by omega))
  replace or := or.keep (SameIn.of_below b22 (by omega))
  replace ol := ol.keep (SameIn.of_below b22 (by omega))
  replace orw0 := orw0.keep (SameIn.of_below b22 (by omega))
  replace xrw0 := xrw0.keep (SameIn.of_below b22 (by omega))
  replace oxr := oxr.keep (SameIn.of_below b22 (by omega))
  replace xuxr := xuxr.keep (SameIn.of_below b22 (by omega))
  replace oxl := oxl.keep (SameIn.of_below b22 (by omega))
  replace org0 := org0.keep (SameIn.of_below b22 (by omega))
  replace xrg0 := xrg0.keep (SameIn.of_below b22 (by omega))
  replace B := B.trans (b22.mono (by omega))
  clear b22
  go_wp2_with fail
  refine (toEditS_c _ (ol.more (Nat.zero_le _) (by omega)) (by omega)).mono ?_
  rintro e w23 ⟨uyl, rfl, oyl, b23⟩
  have s23 := b23.size
  replace xr := xr.keep (SameIn.of_below b23 (by omega))
  replace or := or.keep (SameIn.of_below b23 (by omega))
  replace ol := ol.keep (SameIn.of_below b23 (by omega))
  replace orw0 := orw0.keep (SameIn.of_below b23 (by omega))
  replace xrw0 := xrw0.keep (SameIn.of_below b23 (by omega))
  replace oxr := oxr.keep (SameIn.of_below b23 (by omega))
  replace xuxr := xuxr.keep (SameIn.of_below b23 (by omega))
  replace oxl := oxl.keep (SameIn.of_below b23 (by omega))
  replace org0 := org0.keep (SameIn.of_below b23 (by omega))
  replace xrg0 := xrg0.keep (SameIn.of_below b23 (by omega))
  replace oyr := oyr.keep (SameIn.of_below b23 (by omega))
  replace B := B.trans (b23.mono (by omega))
  clear b23
  go_wp2_with fail
  refine (impl_apply_c _ (oyr.rd.more (Nat.zero_le _) (by omega)) (oyl.rd.more (Nat.zero_le _) (by omega)) (by omega)).mono ?_
  rintro e w24 ⟨rh0, rfl, orh0, b24⟩
  have s24 := b24.size
  replace xr := xr.keep (SameIn.of_below b24 (by omega))
  replace or := or.keep (SameIn.of_below b24 (by omega))
  replace ol := ol.keep (SameIn.of_below b24 (by omega))
  replace orw0 := orw0.keep (SameIn.of_below b24 (by omega))
  replace xrw0 := xrw0.keep (SameIn.of_below b24 (by omega))
  replace oxr := oxr.keep (SameIn.of_below b24 (by omega))
  replace xuxr := xuxr.keep (SameIn.of_below b24 (by omega))
  replace oxl := oxl.keep (SameIn.of_below b24 (by omega))
  replace org0 := org0.keep (SameIn.of_below b24 (by omega))
  replace xrg0 := xrg0.keep (SameIn.of_below b24 (by omega))
  replace oyr := oyr.keep (SameIn.of_below b24 (by omega))
  replace oyl := oyl.keep (SameIn.of_below b24 (by omega))
  replace B := B.trans (b24.mono (by omega))
  clear b24
  clear oyr
  clear oyl
  rw [← HD0.out] at orh0
  obtain ⟨trh0, rfl, grh0⟩ := id orh0
  obtain ⟨Arh0, crh0, rfl, _, _⟩ := grh0.rd
  clear grh0
  have bb : Below w24.heap.size w24 (w24.alloc (.cells #[.int .i64 D0.w, .slice Arh0 D0.rows.length crh0] 28)) := (Below.refl _ _).alloc (Nat.le_refl _) _
  have s25 : w24.heap.size + 1 ≤ (w24.alloc (.cells #[.int .i64 D0.w, .slice Arh0 D0.rows.length crh0] 28)).heap.size := by simp
  replace xr := xr.keep (SameIn.of_below bb (by omega))
  replace or := or.keep (SameIn.of_below bb (by omega))
  replace ol := ol.keep (SameIn.of_below bb (by omega))
  replace orw0 := orw0.keep (SameIn.of_below bb (by omega))
  replace xrw0 := xrw0.keep (SameIn.of_below bb (by omega))
  replace oxr := oxr.keep (SameIn.of_below bb (by omega))
  replace xuxr := xuxr.keep (SameIn.of_below bb (by omega))
  replace oxl := oxl.keep (SameIn.of_below bb (by omega))
  replace org0 := org0.keep (SameIn.of_below bb (by omega))
  replace xrg0 := xrg0.keep (SameIn.of_below bb (by omega))
  replace orh0 := orh0.keep (SameIn.of_below bb (by omega))
  replace B := B.trans (bb.mono (by omega))
  clear bb
  have xrh0 : BoxIn (w24.alloc (.cells #[.int .i64 D0.w, .slice Arh0 D0.rows.length crh0] 28)) w24.heap.size (w24.heap.size + 1) w24.heap.size 28 #[.int .i64 D0.w, .slice Arh0 D0.rows.length crh0] := ⟨Blk.new _ _ _, Nat.le_refl _, Nat.lt_succ_self _⟩
  have yrh00 : (w24.alloc (.cells #[.int .i64 D0.w, .slice Arh0 D0.rows.length crh0] 28)).cell? ⟨w24.heap.size, 0, none⟩ = some (.int .i64 D0.w) := (by first | exact xrh0.cell 0)
  have yrh01 : (w24.alloc (.cells #[.int .i64 D0.w, .slice Arh0 D0.rows.length crh0] 28)).cell? ⟨w24.heap.size, 1, none⟩ = some (.slice Arh0 D0.rows.length crh0) := (by first | exact xrh0.cell 1)
  have yrw00 : (w24.alloc (.cells #[.int .i64 D0.w, .slice Arh0 D0.rows.length crh0] 28)).cell? ⟨w5.heap.size, 0, none⟩ = some (.int .i64 D0.w) := (by first | exact xrw0.cell 0)
  have yrw01 : (w24.alloc (.cells #[.int .i64 D0.w, .slice Arh0 D0.rows.length crh0] 28)).cell? ⟨w5.heap.size, 1, none⟩ = some (.slice Arw0 D0.rows.length crw0) := (by first | exact xrw0.cell 1)
  go_wp2_with fail
  generalize w24.alloc (.cells #[.int .i64 D0.w, .slice Arh0 D0.rows.length crh0] 28) = w25 at *
  clear yrh00 yrh01 yrw00 yrw01
  refine (eqRegion_c _ (orh0.rd.more (Nat.zero_le _) (by omega)) (orw0.rd.more (Nat.zero_le _) (by omega))).mono ?_
  rintro e w26 ⟨rfl, b26⟩
  have s26 := b26.size
  replace xr := xr.keep (SameIn.of_below b26 (by omega))
  replace or := or.keep (SameIn.of_below b26 (by omega))
  replace ol := ol.keep (SameIn.of_below b26 (by omega))
  replace orw0 := orw0.keep (SameIn.of_below b26 (by omega))
  replace xrw0 := xrw0.keep (SameIn.of_below b26 (by omega))
  replace oxr := oxr.keep (SameIn.of_below b26 (by omega))
  replace xuxr := xuxr.keep (SameIn.of_below b26 (by omega))
  replace oxl := oxl.keep (SameIn.of_below b26 (by omega))
  replace org0 := org0.keep (SameIn.of_below b26 (by omega))
  replace xrg0 := xrg0.keep (SameIn.of_below b26 (by omega))
  replace orh0 := orh0.keep (SameIn.of_below b26 (by omega))
  replace xrh0 := xrh0.keep (SameIn.of_below b26 (by omega))
  replace B := B.trans (b26.mono (by omega))
  clear b26
  have yrg00 : w26.cell? ⟨w10.heap.size, 0, none⟩ = some (.int .i64 D0.w) := (by first | exact xrg0.cell 0)
  have yrg01 : w26.cell? ⟨w10.heap.size, 1, none⟩ = some (.slice Arg0 D0.rows.length crg0) := (by first | exact xrg0.cell 1)
  go_wp2_with fail
  clear yrg00 yrg01
  refine (heldRegion_c _ _ hl0 (by omega) (by omega) (org0.rd.more (Nat.zero_le _) (by omega))).mono ?_
  rintro e w27 ⟨rfl, b27⟩
  have s27 := b27.size
  replace xr := xr.keep (SameIn.of_below b27 (by omega))
  replace or := or.keep (SameIn.of_below b27 (by omega))
  replace ol := ol.keep (SameIn.of_below b27 (by omega))
  replace orw0 := orw0.keep (SameIn.of_below b27 (by omega))
  replace xrw0 := xrw0.keep (SameIn.of_below b27 (by omega))
  replace oxr := oxr.keep (SameIn.of_below b27 (by omega))
  replace xuxr := xuxr.keep (SameIn.of_below b27 (by omega))
  replace oxl := oxl.keep (SameIn.of_below b27 (by omega))
  replace org0 := org0.keep (SameIn.of_below b27 (by omega))
  replace xrg0 := xrg0.keep (SameIn.of_below b27 (by omega))
  replace orh0 := orh0.keep (SameIn.of_below b27 (by omega))
  replace xrh0 := xrh0.keep (SameIn.of_below b27 (by omega))
  replace B := B.trans (b27.mono (by omega))
  clear b27
  go_wp2
  go_ret
  exact ⟨rfl, B⟩

end Go.Proofs.Ythdacnlkonheaaa
