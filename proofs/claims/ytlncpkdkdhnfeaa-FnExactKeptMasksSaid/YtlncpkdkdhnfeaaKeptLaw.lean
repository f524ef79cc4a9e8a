/-
  The law FnExactKeptMasks, walked by contracts.
-/
import Derived.Test.YtlncpkdkdhnfeaaKeptW
namespace Go.Proofs.Ytlncpkdkdhnfeaa
open Go.RowKit

set_option maxRecDepth 100000 in
set_option maxHeartbeats 8000000 in
theorem law_KeptMasks (vr : Value) (r : Reg) (vt : Value) (t : List Int) (ve : Value) (e : Reg) (w : World) (hr : RegRd w 0 w.heap.size vr r) (ht : IntsRd w 0 w.heap.size vt t) (it : ∀ a ∈ t, I64 a) (he : RegRd w 0 w.heap.size ve e) :
    Calls Try.prog 5 #[vr, vt, ve] w fun e w' => e = .returned (.bool true) ∧ Below w.heap.size w w' := by
  obtain ⟨sr, rfl, hsr⟩ := id hr
  obtain ⟨se, rfl, hse⟩ := id he
  have B : Below w.heap.size w ((w.alloc (.cells #[.int .i64 r.w, sr] 34)).alloc (.cells #[.int .i64 e.w, se] 34)) := (((Below.refl w.heap.size w).alloc (by first | exact Nat.le_refl _ | (simp; done) | (simp; omega)) _).alloc (by first | exact Nat.le_refl _ | (simp; done) | (simp; omega)) _)
  have s0 : w.heap.size + 2 ≤ ((w.alloc (.cells #[.int .i64 r.w, sr] 34)).alloc (.cells #[.int .i64 e.w, se] 34)).heap.size := by simp
  have xr : BoxIn ((w.alloc (.cells #[.int .i64 r.w, sr] 34)).alloc (.cells #[.int .i64 e.w, se] 34)) w.heap.size (w.heap.size + 2) (w.heap.size) 34 #[.int .i64 r.w, sr] := ⟨by have := (Blk.new w 34 #[.int .i64 r.w, sr]).alloc (.cells #[.int .i64 e.w, se] 34); simpa using this, by omega, by omega⟩
  have xe : BoxIn ((w.alloc (.cells #[.int .i64 r.w, sr] 34)).alloc (.cells #[.int .i64 e.w, se] 34)) w.heap.size (w.heap.size + 2) (w.heap.size + 1) 34 #[.int .i64 e.w, se] := ⟨by have := Blk.new (w.alloc (.cells #[.int .i64 r.w, sr] 34)) 34 #[.int .i64 e.w, se]; simpa using this, by omega, by omega⟩
  have or := hr.keep (SameIn.of_below B (Nat.le_refl _))
  have ot := ht.keep (SameIn.of_below B (Nat.le_refl _))
  have oe := he.keep (SameIn.of_below B (Nat.le_refl _))
  have hmt : t.length ≤ 9223372036854775807 := by obtain ⟨_, _, _, hm, _⟩ := id ht; unfold maxLen at hm; omega
  obtain ⟨At, ct, rfl, _, _⟩ := id ht
  by_cases q0 : 1048576 < (t.length : Int)
  · skip
    go_enter Try.func5, Try.ntmps5
    go_wp2
    go_ret
    exact ⟨rfl, B⟩
  by_cases q1 : 1048576 < (r.rows.length : Int)
  · skip
    go_enter Try.func5, Try.ntmps5
    go_wp2_with fail
    generalize ((w.alloc (.cells #[.int .i64 r.w, sr] 34)).alloc (.cells #[.int .i64 e.w, se] 34)) = W0 at *
    refine (szRegion_c _ _ (or.more (Nat.zero_le _) (by omega)) (by omega) (by omega)).mono ?_
    rintro e w1 ⟨rfl, b1⟩
    have s1 := b1.size
    replace xr := xr.keep (SameIn.of_below b1 (by omega))
    replace xe := xe.keep (SameIn.of_below b1 (by omega))
    replace or := or.keep (SameIn.of_below b1 (by omega))
    replace ot := ot.keep (SameIn.of_below b1 (by omega))
    replace oe := oe.keep (SameIn.of_below b1 (by omega))
    replace B := B.trans (b1.mono (by omega))
    clear b1
    rw [if_pos (by omega)]
    go_wp2
    go_ret
    exact ⟨rfl, B⟩
  by_cases q2 : 1048576 < (r.rows.length : Int) + (e.rows.length : Int)
  · skip
    go_enter Try.func5, Try.ntmps5
    go_wp2_with fail
    generalize ((w.alloc (.cells #[.int .i64 r.w, sr] 34)).alloc (.cells #[.int .i64 e.w, se] 34)) = W0 at *
    refine (szRegion_c _ _ (or.more (Nat.zero_le _) (by omega)) (by omega) (by omega)).mono ?_
    rintro e w1 ⟨rfl, b1⟩
    have s1 := b1.size
    replace xr := xr.keep (SameIn.of_below b1 (by omega))
    replace xe := xe.keep (SameIn.of_below b1 (by omega))
    replace or := or.keep (SameIn.of_below b1 (by omega))
    replace ot := ot.keep (SameIn.of_below b1 (by omega))
    replace oe := oe.keep (SameIn.of_below b1 (by omega))
    replace B := B.trans (b1.mono (by omega))
    clear b1
    rw [if_neg (by omega)]
    have ye0 : w1.cell? ⟨w.heap.size + 1, 0, none⟩ = some (.int .i64 e.w) := (by first | exact xe.cell 0)
    have ye1 : w1.cell? ⟨w.heap.size + 1, 1, none⟩ = some (se) := (by first | exact xe.cell 1)
    go_wp2_with fail
    clear ye0 ye1
    refine (szRegion_c _ _ (oe.more (Nat.zero_le _) (by omega)) (by omega) (by omega)).mono ?_
    rintro e w2 ⟨rfl, b2⟩
    have s2 := b2.size
    replace xr := xr.keep (SameIn.of_below b2 (by omega))
    replace xe := xe.keep (SameIn.of_below b2 (by omega))
    replace or := or.keep (SameIn.of_below b2 (by omega))
    replace ot := ot.keep (SameIn.of_below b2 (by omega))
    replace oe := oe.keep (SameIn.of_below b2 (by omega))
    replace B := B.trans (b2.mono (by omega))
    clear b2
    rw [if_pos (by omega)]
    go_wp2
    go_ret
    exact ⟨rfl, B⟩
  go_enter Try.func5, Try.ntmps5
  go_wp2_with fail
  generalize ((w.alloc (.cells #[.int .i64 r.w, sr] 34)).alloc (.cells #[.int .i64 e.w, se] 34)) = W0 at *
  refine (szRegion_c _ _ (or.more (Nat.zero_le _) (by omega)) (by omega) (by omega)).mono ?_
  rintro e w1 ⟨rfl, b1⟩
  have s1 := b1.size
  replace xr := xr.keep (SameIn.of_below b1 (by omega))
  replace xe := xe.keep (SameIn.of_below b1 (by omega))
  replace or := or.keep (SameIn.of_below b1 (by omega))
  replace ot := ot.keep (SameIn.of_below b1 (by omega))
  replace oe := oe.keep (SameIn.of_below b1 (by omega))
  replace B := B.trans (b1.mono (by omega))
  clear b1
  rw [if_neg (by omega)]
  have ye0 : w1.cell? ⟨w.heap.size + 1, 0, none⟩ = some (.int .i64 e.w) := (by first | exact xe.cell 0)
  have ye1 : w1.cell? ⟨w.heap.size + 1, 1, none⟩ = some (se) := (by first | exact xe.cell 1)
  go_wp2_with fail
  clear ye0 ye1
  refine (szRegion_c _ _ (oe.more (Nat.zero_le _) (by omega)) (by omega) (by omega)).mono ?_
  rintro e w2 ⟨rfl, b2⟩
  have s2 := b2.size
  replace xr := xr.keep (SameIn.of_below b2 (by omega))
  replace xe := xe.keep (SameIn.of_below b2 (by omega))
  replace or := or.keep (SameIn.of_below b2 (by omega))
  replace ot := ot.keep (SameIn.of_below b2 (by omega))
  replace oe := oe.keep (SameIn.of_below b2 (by omega))
  replace B := B.trans (b2.mono (by omega))
  clear b2
  rw [if_neg (by omega)]
  have yr0 : w2.cell? ⟨w.heap.size, 0, none⟩ = some (.int .i64 r.w) := (by first | exact xr.cell 0)
  have yr1 : w2.cell? ⟨w.heap.size, 1, none⟩ = some (sr) := (by first | exact xr.cell 1)
  have ye0 : w2.cell? ⟨w.heap.size + 1, 0, none⟩ = some (.int .i64 e.w) := (by first | exact xe.cell 0)
  have ye1 : w2.cell? ⟨w.heap.size + 1, 1, none⟩ = some (se) := (by first | exact xe.cell 1)
  go_wp2_with fail
  go_region_held3 (fun w' => w'.cell? ⟨w.heap.size, 0, none⟩ = some (.int .i64 r.w) ∧ w'.cell? ⟨w.heap.size, 1, none⟩ = some (sr) ∧ w'.cell? ⟨w.heap.size + 1, 0, none⟩ = some (.int .i64 e.w) ∧ w'.cell? ⟨w.heap.size + 1, 1, none⟩ = some (se))
    (first | ((try dsimp only); refine ⟨?_, ?_, ?_, ?_⟩ <;> assumption) | go_keep)
    ((first | (go_at_call 20; (with_reducible refine (toRegion_c (v := (.agg #[.int .i64 r.w, sr])) (x := r) _ (by exact ((or.keep (SameIn.drew)).more (Nat.zero_le _) (le_drew (show w.heap.size ≤ w2.heap.size by omega)))) (by omega)).mono ?_); rintro e w3 ⟨usr, rfl, osr, b3⟩; replace b3 := below_undrew b3; have s3 := b3.size; replace xr := xr.keep (SameIn.of_below b3 (by omega)); replace xe := xe.keep (SameIn.of_below b3 (by omega)); replace or := or.keep (SameIn.of_below b3 (by omega)); replace ot := ot.keep (SameIn.of_below b3 (by omega)); replace oe := oe.keep (SameIn.of_below b3 (by omega)); replace B := B.trans (b3.mono (by omega)); clear b3; have yr0_3 : w3.cell? ⟨w.heap.size, 0, none⟩ = some (.int .i64 r.w) := (by first | exact xr.cell 0); have yr1_3 : w3.cell? ⟨w.heap.size, 1, none⟩ = some (sr) := (by first | exact xr.cell 1); have ye0_3 : w3.cell? ⟨w.heap.size + 1, 0, none⟩ = some (.int .i64 e.w) := (by first | exact xe.cell 0); have ye1_3 : w3.cell? ⟨w.heap.size + 1, 1, none⟩ = some (se) := (by first | exact xe.cell 1)) | (go_at_call 21; (with_reducible refine (toIntS_c (v := (.slice At t.length ct)) (x := t) _ (by exact (ot.more (Nat.zero_le _) (show w.heap.size ≤ w3.heap.size by omega))) (by omega)).mono ?_); rintro e w4 ⟨ust, rfl, ost, b4⟩; have s4 := b4.size; replace xr := xr.keep (SameIn.of_below b4 (by omega)); replace xe := xe.keep (SameIn.of_below b4 (by omega)); replace or := or.keep (SameIn.of_below b4 (by omega)); replace ot := ot.keep (SameIn.of_below b4 (by omega)); replace oe := oe.keep (SameIn.of_below b4 (by omega)); replace osr := osr.keep (SameIn.of_below b4 (by omega)); replace B := B.trans (b4.mono (by omega)); clear b4; have yr0_4 : w4.cell? ⟨w.heap.size, 0, none⟩ = some (.int .i64 r.w) := (by first | exact xr.cell 0); have yr1_4 : w4.cell? ⟨w.heap.size, 1, none⟩ = some (sr) := (by first | exact xr.cell 1); have ye0_4 : w4.cell? ⟨w.heap.size + 1, 0, none⟩ = some (.int .i64 e.w) := (by first | exact xe.cell 0); have ye1_4 : w4.cell? ⟨w.heap.size + 1, 1, none⟩ = some (se) := (by first | exact xe.cell 1)) | (go_at_call 20; (with_reducible refine (toRegion_c (v := (.agg #[.int .i64 e.w, se])) (x := e) _ (by exact (oe.more (Nat.zero_le _) (show w.heap.size ≤ w4.heap.size by omega))) (by omega)).mono ?_); rintro e w5 ⟨use, rfl, ose, b5⟩; have s5 := b5.size; replace xr := xr.keep (SameIn.of_below b5 (by omega)); replace xe := xe.keep (SameIn.of_below b5 (by omega)); replace or := or.keep (SameIn.of_below b5 (by omega)); replace ot := ot.keep (SameIn.of_below b5 (by omega)); replace oe := oe.keep (SameIn.of_below b5 (by omega)); replace osr := osr.keep (SameIn.of_below b5 (by omega)); replace ost := ost.keep (SameIn.of_below b5 (by omega)); replace B := B.trans (b5.mono (by omega)); clear b5; have yr0_5 : w5.cell? ⟨w.heap.size, 0, none⟩ = some (.int .i64 r.w) := (by first | exact xr.cell 0); have yr1_5 : w5.cell? ⟨w.heap.size, 1, none⟩ = some (sr) := (by first | exact xr.cell 1); have ye0_5 : w5.cell? ⟨w.heap.size + 1, 0, none⟩ = some (.int .i64 e.w) := (by first | exact xe.cell 0); have ye1_5 : w5.cell? ⟨w.heap.size + 1, 1, none⟩ = some (se) := (by first | exact xe.cell 1)) | (go_at_call 19; (with_reducible refine (spec_KeptMasks_c _ (osr.rd.more (Nat.zero_le _) (by omega)) (ost.rd.more (Nat.zero_le _) (by omega)) (ose.rd.more (Nat.zero_le _) (by omega)) it (by omega)).mono ?_); rintro e w6 ⟨rw0, rfl, orw0, b6⟩; have s6 := b6.size; replace xr := xr.keep (SameIn.of_below b6 (by omega)); replace xe := xe.keep (SameIn.of_below b6 (by omega)); replace or := or.keep (SameIn.of_below b6 (by omega)); replace ot := ot.keep (SameIn.of_below b6 (by omega)); replace oe := oe.keep (SameIn.of_below b6 (by omega)); replace osr := osr.keep (SameIn.of_below b6 (by omega)); replace ost := ost.keep (SameIn.of_below b6 (by omega)); replace ose := ose.keep (SameIn.of_below b6 (by omega)); replace B := B.trans (b6.mono (by omega)); clear b6; have yr0_6 : w6.cell? ⟨w.heap.size, 0, none⟩ = some (.int .i64 r.w) := (by first | exact xr.cell 0); have yr1_6 : w6.cell? ⟨w.heap.size, 1, none⟩ = some (sr) := (by first | exact xr.cell 1); have ye0_6 : w6.cell? ⟨w.heap.size + 1, 0, none⟩ = some (.int .i64 e.w) := (by first | exact xe.cell 0); have ye1_6 : w6.cell? ⟨w.heap.size + 1, 1, none⟩ = some (se) := (by first | exact xe.cell 1))))
  clear yr0_3 yr1_3 ye0_3 ye1_3 yr0_4 yr1_4 ye0_4 ye1_4 yr0_5 yr1_5 ye0_5 ye1_5 yr0_6 yr1_6 ye0_6 ye1_6
  clear yr0 yr1 ye0 ye1
  clear osr
  clear ost
  clear ose
  have yr0 : w6.cell? ⟨w.heap.size, 0, none⟩ = some (.int .i64 r.w) := (by first | exact xr.cell 0)
  have yr1 : w6.cell? ⟨w.heap.size, 1, none⟩ = some (sr) := (by first | exact xr.cell 1)
  go_wp2_with fail
  clear yr0 yr1
  refine (toRegion_c _ (or.more (Nat.zero_le _) (by omega)) (by omega)).mono ?_
  rintro e w7 ⟨uxr, rfl, oxr, b7⟩
  have s7 := b7.size
  replace xr := xr.keep (SameIn.of_below b7 (by omega))
  replace xe := xe.keep (SameIn.of_below b7 (by omega))
  replace or := or.keep (SameIn.of_below b7 (by omega))
  replace ot := ot.keep (SameIn.of_below b7 (by omega))
  replace oe := oe.keep (SameIn.of_below b7 (by omega))
  replace orw0 := orw0.keep (SameIn.of_below b7 (by omega))
  replace B := B.trans (b7.mono (by omega))
  clear b7
  obtain ⟨tuxr, rfl, guxr⟩ := id oxr
  obtain ⟨Auxr, cuxr, rfl, _, _⟩ := guxr.rd
  clear guxr
  have bb : Below w7.heap.size w7 (w7.alloc (.cells #[.int .i64 r.w, .slice Auxr r.rows.length cuxr] 37)) := (Below.refl _ _).alloc (Nat.le_refl _) _
  have s8 : w7.heap.size + 1 ≤ (w7.alloc (.cells #[.int .i64 r.w, .slice Auxr r.rows.length cuxr] 37)).heap.size := by simp
  replace xr := xr.keep (SameIn.of_below bb (by omega))
  replace xe := xe.keep (SameIn.of_below bb (by omega))
  replace or := or.keep (SameIn.of_below bb (by omega))
  replace ot := ot.keep (SameIn.of_below bb (by omega))
  replace oe := oe.keep (SameIn.of_below bb (by omega))
  replace orw0 := orw0.keep (SameIn.of_below bb (by omega))
  replace oxr := oxr.keep (SameIn.of_below bb (by omega))
  replace B := B.trans (bb.mono (by omega))
  clear bb
  have xuxr : BoxIn (w7.alloc (.cells #[.int .i64 r.w, .slice Auxr r.rows.length cuxr] 37)) w7.heap.size (w7.heap.size + 1) w7.heap.size 37 #[.int .i64 r.w, .slice Auxr r.rows.length cuxr] := ⟨Blk.new _ _ _, Nat.le_refl _, Nat.lt_succ_self _⟩
  go_wp2_with fail
  generalize w7.alloc (.cells #[.int .i64 r.w, .slice Auxr r.rows.length cuxr] 37) = w8 at *
  refine (toIntS_c _ (ot.more (Nat.zero_le _) (by omega)) (by omega)).mono ?_
  rintro e w9 ⟨uxt, rfl, oxt, b9⟩
  have s9 := b9.size
  replace xr := xr.keep (SameIn.of_below b9 (by omega))
  replace xe := xe.keep (SameIn.of_below b9 (by omega))
  replace or := or.keep (SameIn.of_below b9 (by omega))
  replace ot := ot.keep (SameIn.of_below b9 (by omega))
  replace oe := oe.keep (SameIn.of_below b9 (by omega))
  replace orw0 := orw0.keep (SameIn.of_below b9 (by omega))
  replace oxr := oxr.keep (SameIn.of_below b9 (by omega))
  replace xuxr := xuxr.keep (SameIn.of_below b9 (by omega))
  replace B := B.trans (b9.mono (by omega))
  clear b9
  have ye0 : w9.cell? ⟨w.heap.size + 1, 0, none⟩ = some (.int .i64 e.w) := (by first | exact xe.cell 0)
  have ye1 : w9.cell? ⟨w.heap.size + 1, 1, none⟩ = some (se) := (by first | exact xe.cell 1)
  go_wp2_with fail
  clear ye0 ye1
  refine (toRegion_c _ (oe.more (Nat.zero_le _) (by omega)) (by omega)).mono ?_
  rintro e w10 ⟨uxe, rfl, oxe, b10⟩
  have s10 := b10.size
  replace xr := xr.keep (SameIn.of_below b10 (by omega))
  replace xe := xe.keep (SameIn.of_below b10 (by omega))
  replace or := or.keep (SameIn.of_below b10 (by omega))
  replace ot := ot.keep (SameIn.of_below b10 (by omega))
  replace oe := oe.keep (SameIn.of_below b10 (by omega))
  replace orw0 := orw0.keep (SameIn.of_below b10 (by omega))
  replace oxr := oxr.keep (SameIn.of_below b10 (by omega))
  replace xuxr := xuxr.keep (SameIn.of_below b10 (by omega))
  replace oxt := oxt.keep (SameIn.of_below b10 (by omega))
  replace B := B.trans (b10.mono (by omega))
  clear b10
  obtain ⟨tuxe, rfl, guxe⟩ := id oxe
  obtain ⟨Auxe, cuxe, rfl, _, _⟩ := guxe.rd
  clear guxe
  have bb : Below w10.heap.size w10 (w10.alloc (.cells #[.int .i64 e.w, .slice Auxe e.rows.length cuxe] 37)) := (Below.refl _ _).alloc (Nat.le_refl _) _
  have s11 : w10.heap.size + 1 ≤ (w10.alloc (.cells #[.int .i64 e.w, .slice Auxe e.rows.length cuxe] 37)).heap.size := by simp
  replace xr := xr.keep (SameIn.of_below bb (by omega))
  replace xe := xe.keep (SameIn.of_below bb (by omega))
  replace or := or.keep (SameIn.of_below bb (by omega))
  replace ot := ot.keep (SameIn.of_below bb (by omega))
  replace oe := oe.keep (SameIn.of_below bb (by omega))
  replace orw0 := orw0.keep (SameIn.of_below bb (by omega))
  replace oxr := oxr.keep (SameIn.of_below bb (by omega))
  replace xuxr := xuxr.keep (SameIn.of_below bb (by omega))
  replace oxt := oxt.keep (SameIn.of_below bb (by omega))
  replace oxe := oxe.keep (SameIn.of_below bb (by omega))
  replace B := B.trans (bb.mono (by omega))
  clear bb
  have xuxe : BoxIn (w10.alloc (.cells #[.int .i64 e.w, .slice Auxe e.rows.length cuxe] 37)) w10.heap.size (w10.heap.size + 1) w10.heap.size 37 #[.int .i64 e.w, .slice Auxe e.rows.length cuxe] := ⟨Blk.new _ _ _, Nat.le_refl _, Nat.lt_succ_self _⟩
  have yuxr0 : (w10.alloc (.cells #[.int .i64 e.w, .slice Auxe e.rows.length cuxe] 37)).cell? ⟨w7.heap.size, 0, none⟩ = some (.int .i64 r.w) := (by first | exact xuxr.cell 0)
  have yuxr1 : (w10.alloc (.cells #[.int .i64 e.w, .slice Auxe e.rows.length cuxe] 37)).cell? ⟨w7.heap.size, 1, none⟩ = some (.slice Auxr r.rows.length cuxr) := (by first | exact xuxr.cell 1)
  have yuxe0 : (w10.alloc (.cells #[.int .i64 e.w, .slice Auxe e.rows.length cuxe] 37)).cell? ⟨w10.heap.size, 0, none⟩ = some (.int .i64 e.w) := (by first | exact xuxe.cell 0)
  have yuxe1 : (w10.alloc (.cells #[.int .i64 e.w, .slice Auxe e.rows.length cuxe] 37)).cell? ⟨w10.heap.size, 1, none⟩ = some (.slice Auxe e.rows.length cuxe) := (by first | exact xuxe.cell 1)
  go_wp2_with fail
  generalize w10.alloc (.cells #[.int .i64 e.w, .slice Auxe e.rows.length cuxe] 37) = w11 at *
  clear yuxr0 yuxr1 yuxe0 yuxe1
  refine (impl_KeptMasks_c _ (oxr.rd.more (Nat.zero_le _) (by omega)) (oxt.rd.more (Nat.zero_le _) (by omega)) (oxe.rd.more (Nat.zero_le _) (by omega)) it (by omega)).mono ?_
  rintro e w12 ⟨rg0, rfl, org0, b12⟩
  have s12 := b12.size
  replace xr := xr.keep (SameIn.of_below b12 (by omega))
  replace xe := xe.keep (SameIn.of_below b12 (by omega))
  replace or := or.keep (SameIn.of_below b12 (by omega))
  replace ot := ot.keep (SameIn.of_below b12 (by omega))
  replace oe := oe.keep (SameIn.of_below b12 (by omega))
  replace orw0 := orw0.keep (SameIn.of_below b12 (by omega))
  replace oxr := oxr.keep (SameIn.of_below b12 (by omega))
  replace xuxr := xuxr.keep (SameIn.of_below b12 (by omega))
  replace oxt := oxt.keep (SameIn.of_below b12 (by omega))
  replace oxe := oxe.keep (SameIn.of_below b12 (by omega))
  replace xuxe := xuxe.keep (SameIn.of_below b12 (by omega))
  replace B := B.trans (b12.mono (by omega))
  clear b12
  go_wp2_with fail
  refine (eqIntS_c _ (org0.rd.more (Nat.zero_le _) (by omega)) (orw0.rd.more (Nat.zero_le _) (by omega))).mono ?_
  rintro e w13 ⟨rfl, b13⟩
  have s13 := b13.size
  replace xr := xr.keep (SameIn.of_below b13 (by omega))
  replace xe := xe.keep (SameIn.of_below b13 (by omega))
  replace or := or.keep (SameIn.of_below b13 (by omega))
  replace ot := ot.keep (SameIn.of_below b13 (by omega))
  replace oe := oe.keep (SameIn.of_below b13 (by omega))
  replace orw0 := orw0.keep (SameIn.of_below b13 (by omega))
  replace oxr := oxr.keep (SameIn.of_below b13 (by omega))
  replace xuxr := xuxr.keep (SameIn.of_below b13 (by omega))
  replace oxt := oxt.keep (SameIn.of_below b13 (by omega))
  replace oxe := oxe.keep (SameIn.of_below b13 (by omega))
  replace xuxe := xuxe.keep (SameIn.of_below b13 (by omega))
  replace org0 := org0.keep (SameIn.of_below b13 (by omega))
  replace B := B.trans (b13.mono (by omega))
  clear b13
  have yuxr0 : w13.cell? ⟨w7.heap.size, 0, none⟩ = some (.int .i64 r.w) := (by first | exact xuxr.cell 0)
  have yuxr1 : w13.cell? ⟨w7.heap.size, 1, none⟩ = some (.slice Auxr r.rows.length cuxr) := (by first | exact xuxr.cell 1)
  have yr0 : w13.cell? ⟨w.heap.size, 0, none⟩ = some (.int .i64 r.w) := (by first | exact xr.cell 0)
  have yr1 : w13.cell? ⟨w.heap.size, 1, none⟩ = some (sr) := (by first | exact xr.cell 1)
  go_wp2_with fail
  go_region_held3 (fun w' => w'.cell? ⟨w7.heap.size, 0, none⟩ = some (.int .i64 r.w) ∧ w'.cell? ⟨w7.heap.size, 1, none⟩ = some (.slice Auxr r.rows.length cuxr) ∧ w'.cell? ⟨w.heap.size, 0, none⟩ = some (.int .i64 r.w) ∧ w'.cell? ⟨w.heap.size, 1, none⟩ = some (sr))
    (first | ((try dsimp only); refine ⟨?_, ?_, ?_, ?_⟩ <;> assumption) | go_keep)
    ((first | (go_at_call 20; (with_reducible refine (toRegion_c (v := (.agg #[.int .i64 r.w, sr])) (x := r) _ (by exact ((or.keep (SameIn.drew)).more (Nat.zero_le _) (le_drew (show w.heap.size ≤ w13.heap.size by omega)))) (by omega)).mono ?_); rintro e w14 ⟨utr, rfl, otr, b14⟩; replace b14 := below_undrew b14; have s14 := b14.size; replace xr := xr.keep (SameIn.of_below b14 (by omega)); replace xe := xe.keep (SameIn.of_below b14 (by omega)); replace or := or.keep (SameIn.of_below b14 (by omega)); replace ot := ot.keep (SameIn.of_below b14 (by omega)); replace oe := oe.keep (SameIn.of_below b14 (by omega)); replace orw0 := orw0.keep (SameIn.of_below b14 (by omega)); replace oxr := oxr.keep (SameIn.of_below b14 (by omega)); replace xuxr := xuxr.keep (SameIn.of_below b14 (by omega)); replace oxt := oxt.keep (SameIn.of_below b14 (by omega)); replace oxe := oxe.keep (SameIn.of_below b14 (by omega)); replace xuxe := xuxe.keep (SameIn.of_below b14 (by omega)); replace org0 := org0.keep (SameIn.of_below b14 (by omega)); replace B := B.trans (b14.mono (by omega)); clear b14; have yuxr0_14 : w14.cell? ⟨w7.heap.size, 0, none⟩ = some (.int .i64 r.w) := (by first | exact xuxr.cell 0); have yuxr1_14 : w14.cell? ⟨w7.heap.size, 1, none⟩ = some (.slice Auxr r.rows.length cuxr) := (by first | exact xuxr.cell 1); have yr0_14 : w14.cell? ⟨w.heap.size, 0, none⟩ = some (.int .i64 r.w) := (by first | exact xr.cell 0); have yr1_14 : w14.cell? ⟨w.heap.size, 1, none⟩ = some (sr) := (by first | exact xr.cell 1)) | (go_at_call 24; (with_reducible refine (eqRegion_c (x := r) _ (oxr.rd.more (Nat.zero_le _) (by omega)) (otr.rd.more (Nat.zero_le _) (by omega))).mono ?_); rintro e w15 ⟨rfl, b15⟩; have s15 := b15.size; replace xr := xr.keep (SameIn.of_below b15 (by omega)); replace xe := xe.keep (SameIn.of_below b15 (by omega)); replace or := or.keep (SameIn.of_below b15 (by omega)); replace ot := ot.keep (SameIn.of_below b15 (by omega)); replace oe := oe.keep (SameIn.of_below b15 (by omega)); replace orw0 := orw0.keep (SameIn.of_below b15 (by omega)); replace oxr := oxr.keep (SameIn.of_below b15 (by omega)); replace xuxr := xuxr.keep (SameIn.of_below b15 (by omega)); replace oxt := oxt.keep (SameIn.of_below b15 (by omega)); replace oxe := oxe.keep (SameIn.of_below b15 (by omega)); replace xuxe := xuxe.keep (SameIn.of_below b15 (by omega)); replace org0 := org0.keep (SameIn.of_below b15 (by omega)); replace otr := otr.keep (SameIn.of_below b15 (by omega)); replace B := B.trans (b15.mono (by omega)); clear b15; have yuxr0_15 : w15.cell? ⟨w7.heap.size, 0, none⟩ = some (.int .i64 r.w) := (by first | exact xuxr.cell 0); have yuxr1_15 : w15.cell? ⟨w7.heap.size, 1, none⟩ = some (.slice Auxr r.rows.length cuxr) := (by first | exact xuxr.cell 1); have yr0_15 : w15.cell? ⟨w.heap.size, 0, none⟩ = some (.int .i64 r.w) := (by first | exact xr.cell 0); have yr1_15 : w15.cell? ⟨w.heap.size, 1, none⟩ = some (sr) := (by first | exact xr.cell 1))))
  clear yuxr0_14 yuxr1_14 yr0_14 yr1_14 yuxr0_15 yuxr1_15 yr0_15 yr1_15
  clear yuxr0 yuxr1 yr0 yr1
  clear otr
  go_wp2_with fail
  refine (toIntS_c _ (ot.more (Nat.zero_le _) (by omega)) (by omega)).mono ?_
  rintro e w16 ⟨utt, rfl, ott, b16⟩
  have s16 := b16.size
  replace xr := xr.keep (SameIn.of_below b16 (by omega))
  replace xe := xe.keep (SameIn.of_below b16 (by omega))
  replace or := or.keep (SameIn.of_below b16 (by omega))
  replace ot := ot.keep (SameIn.of_below b16 (by omega))
  replace oe := oe.keep (SameIn.of_below b16 (by omega))
  replace orw0 := orw0.keep (SameIn.of_below b16 (by omega))
  replace oxr := oxr.keep (SameIn.of_below b16 (by omega))
  replace xuxr := xuxr.keep (SameIn.of_below b16 (by omega))
  replace oxt := oxt.keep (SameIn.of_below b16 (by omega))
  replace oxe := oxe.keep (SameIn.of_below b16 (by omega))
  replace xuxe := xuxe.keep (SameIn.of_below b16 (by omega))
  replace org0 := org0.keep (SameIn.of_below b16 (by omega))
  replace B := B.trans (b16.mono (by omega))
  clear b16
  go_wp2_with fail
  refine (eqIntS_c _ (oxt.rd.more (Nat.zero_le _) (by omega)) (ott.rd.more (Nat.zero_le _) (by omega))).mono ?_
  rintro e w17 ⟨rfl, b17⟩
  have s17 := b17.size
  replace xr := xr.keep (SameIn.of_below b17 (by omega))
  replace xe := xe.keep (SameIn.of_below b17 (by omega))
  replace or := or.keep (SameIn.of_below b17 (by omega))
  replace ot := ot.keep (SameIn.of_below b17 (by omega))
  replace oe := oe.keep (SameIn.of_below b17 (by omega))
  replace orw0 := orw0.keep (SameIn.of_below b17 (by omega))
  replace oxr := oxr.keep (SameIn.of_below b17 (by omega))
  replace xuxr := xuxr.keep (SameIn.of_below b17 (by omega))
  replace oxt := oxt.keep (SameIn.of_below b17 (by omega))
  replace oxe := oxe.keep (SameIn.of_below b17 (by omega))
  replace xuxe := xuxe.keep (SameIn.of_below b17 (by omega))
  replace org0 := org0.keep (SameIn.of_below b17 (by omega))
  replace ott := ott.keep (SameIn.of_below b17 (by omega))
  replace B := B.trans (b17.mono (by omega))
  clear b17
  clear ott
  have yuxe0 : w17.cell? ⟨w10.heap.size, 0, none⟩ = some (.int .i64 e.w) := (by first | exact xuxe.cell 0)
  have yuxe1 : w17.cell? ⟨w10.heap.size, 1, none⟩ = some (.slice Auxe e.rows.length cuxe) := (by first | exact xuxe.cell 1)
  have ye0 : w17.cell? ⟨w.heap.size + 1, 0, none⟩ = some (.int .i64 e.w) := (by first | exact xe.cell 0)
  have ye1 : w17.cell? ⟨w.heap.size + 1, 1, none⟩ = some (se) := (by first | exact xe.cell 1)
  go_wp2_with fail
  go_region_held3 (fun w' => w'.cell? ⟨w10.heap.size, 0, none⟩ = some (.int .i64 e.w) ∧ w'.cell? ⟨w10.heap.size, 1, none⟩ = some (.slice Auxe e.rows.length cuxe) ∧ w'.cell? ⟨w.heap.size + 1, 0, none⟩ = some (.int .i64 e.w) ∧ w'.cell? ⟨w.heap.size + 1, 1, none⟩ = some (se))
    (first | ((try dsimp only); refine ⟨?_, ?_, ?_, ?_⟩ <;> assumption) | go_keep)
    ((first | (go_at_call 20; (with_reducible refine (toRegion_c (v := (.agg #[.int .i64 e.w, se])) (x := e) _ (by exact ((oe.keep (SameIn.drew)).more (Nat.zero_le _) (le_drew (show w.heap.size ≤ w17.heap.size by omega)))) (by omega)).mono ?_); rintro e w18 ⟨ute, rfl, ote, b18⟩; replace b18 := below_undrew b18; have s18 := b18.size; replace xr := xr.keep (SameIn.of_below b18 (by omega)); replace xe := xe.keep (SameIn.of_below b18 (by omega)); replace or := or.keep (SameIn.of_below b18 (by omega)); replace ot := ot.keep (SameIn.of_below b18 (by omega)); replace oe := oe.keep (SameIn.of_below b18 (by omega)); replace orw0 := orw0.keep (SameIn.of_below b18 (by omega)); replace oxr := oxr.keep (SameIn.of_below b18 (by omega)); replace xuxr := xuxr.keep (SameIn.of_below b18 (by omega)); replace oxt := oxt.keep (SameIn.of_below b18 (by omega)); replace oxe := oxe.keep (SameIn.of_below b18 (by omega)); replace xuxe := xuxe.keep (SameIn.of_below b18 (by omega)); replace org0 := org0.keep (SameIn.of_below b18 (by omega)); replace B := B.trans (b18.mono (by omega)); clear b18; have yuxe0_18 : w18.cell? ⟨w10.heap.size, 0, none⟩ = some (.int .i64 e.w) := (by first | exact xuxe.cell 0); have yuxe1_18 : w18.cell? ⟨w10.heap.size, 1, none⟩ = some (.slice Auxe e.rows.length cuxe) := (by first | exact xuxe.cell 1); have ye0_18 : w18.cell? ⟨w.heap.size + 1, 0, none⟩ = some (.int .i64 e.w) := (by first | exact xe.cell 0); have ye1_18 : w18.cell? ⟨w.heap.size + 1, 1, none⟩ = some (se) := (by first | exact xe.cell 1)) | (go_at_call 24; (with_reducible refine (eqRegion_c (x := e) _ (oxe.rd.more (Nat.zero_le _) (by omega)) (ote.rd.more (Nat.zero_le _) (by omega))).mono ?_); rintro e w19 ⟨rfl, b19⟩; have s19 := b19.size; replace xr := xr.keep (SameIn.of_below b19 (by omega)); replace xe := xe.keep (SameIn.of_below b19 (by omega)); replace or := or.keep (SameIn.of_below b19 (by omega)); replace ot := ot.keep (SameIn.of_below b19 (by omega)); replace oe := oe.keep (SameIn.of_below b19 (by omega)); replace orw0 := orw0.keep (SameIn.of_below b19 (by omega)); replace oxr := oxr.keep (SameIn.of_below b19 (by omega)); replace xuxr := xuxr.keep (SameIn.of_below b19 (by omega)); replace oxt := oxt.keep (SameIn.of_below b19 (by omega)); replace oxe := oxe.keep (SameIn.of_below b19 (by omega)); replace xuxe := xuxe.keep (SameIn.of_below b19 (by omega)); replace org0 := org0.keep (SameIn.of_below b19 (by omega)); replace ote := ote.keep (SameIn.of_below b19 (by omega)); replace B := B.trans (b19.mono (by omega)); clear b19; have yuxe0_19 : w19.cell? ⟨w10.heap.size, 0, none⟩ = some (.int .i64 e.w) := (by first | exact xuxe.cell 0); have yuxe1_19 : w19.cell? ⟨w10.heap.size, 1, none⟩ = some (.slice Auxe e.rows.length cuxe) := (by first | exact xuxe.cell 1); have ye0_19 : w19.cell? ⟨w.heap.size + 1, 0, none⟩ = some (.int .i64 e.w) := (by first | exact xe.cell 0); have ye1_19 : w19.cell? ⟨w.heap.size + 1, 1, none⟩ = some (se) := (by first | exact xe.cell 1))))
  clear yuxe0_18 yuxe1_18 ye0_18 ye1_18 yuxe0_19 yuxe1_19 ye0_19 ye1_19
  clear yuxe0 yuxe1 ye0 ye1
  clear ote
  have yuxr0 : w19.cell? ⟨w7.heap.size, 0, none⟩ = some (.int .i64 r.w) := (by first | exact xuxr.cell 0)
  have yuxr1 : w19.cell? ⟨w7.heap.size, 1, none⟩ = some (.slice Auxr r.rows.length cuxr) := (by first | exact xuxr.cell 1)
  go_wp2_with fail
  clear yuxr0 yuxr1
  refine (markRegion_c _ _ (by omega) (by omega) (by omega) (by omega) oxr).mono ?_
  rintro e w20 ⟨rfl, oxr', b20⟩
  have s20 := b20.size
  replace xr := xr.keep (SameIn.of_out b20 (by omega) (by omega))
  replace xe := xe.keep (SameIn.of_out b20 (by omega) (by omega))
  replace or := or.keep (SameIn.of_out b20 (by omega) (by omega))
  replace ot := ot.keep (SameIn.of_out b20 (by omega) (by omega))
  replace oe := oe.keep (SameIn.of_out b20 (by omega) (by omega))
  replace orw0 := orw0.keep (SameIn.of_out b20 (by omega) (by omega))
  replace xuxr := xuxr.keep (SameIn.of_out b20 (by omega) (by omega))
  replace oxt := oxt.keep (SameIn.of_out b20 (by omega) (by omega))
  replace oxe := oxe.keep (SameIn.of_out b20 (by omega) (by omega))
  replace xuxe := xuxe.keep (SameIn.of_out b20 (by omega) (by omega))
  replace org0 := org0.keep (SameIn.of_out b20 (by omega) (by omega))
  clear oxr
  have oxr := oxr'
  clear oxr'
  replace B := B.trans (b20.below (by omega) (by omega))
  clear b20
  go_wp2_with fail
  refine (markIntS_c _ _ (by omega) (by omega) (by omega) oxt).mono ?_
  rintro e w21 ⟨rfl, oxt', b21⟩
  have s21 := b21.size
  replace xr := xr.keep (SameIn.of_out b21 (by omega) (by omega))
  replace xe := xe.keep (SameIn.of_out b21 (by omega) (by omega))
  replace or := or.keep (SameIn.of_out b21 (by omega) (by omega))
  replace ot := ot.keep (SameIn.of_out b21 (by omega) (by omega))
  replace oe := oe.keep (SameIn.of_out b21 (by omega) (by omega))
  replace orw0 := orw0.keep (SameIn.of_out b21 (by omega) (by omega))
  replace oxr := oxr.keep (SameIn.of_out b21 (by omega) (by omega))
  replace xuxr := xuxr.keep (SameIn.of_out b21 (by omega) (by omega))
  replace oxe := oxe.keep (SameIn.of_out b21 (by omega) (by omega))
  replace xuxe := xuxe.keep (SameIn.of_out b21 (by omega) (by omega))
  replace org0 := org0.keep (SameIn.of_out b21 (by omega) (by omega))
  clear oxt
  have oxt := oxt'
  clear oxt'
  replace B := B.trans (b21.below (by omega) (by omega))
  clear b21
  have yuxe0 : w21.cell? ⟨w10.heap.size, 0, none⟩ = some (.int .i64 e.w) := (by first | exact xuxe.cell 0)
  have yuxe1 : w21.cell? ⟨w10.heap.size, 1, none⟩ = some (.slice Auxe e.rows.length cuxe) := (by first | exact xuxe.cell 1)
  go_wp2_with fail
  clear yuxe0 yuxe1
  refine (markRegion_c _ _ (by omega) (by omega) (by omega) (by omega) oxe).mono ?_
  rintro e w22 ⟨rfl, oxe', b22⟩
  have s22 := b22.size
  replace xr := xr.keep (SameIn.of_out b22 (by omega) (by omega))
  replace xe := xe.keep (SameIn.of_out b22 (by omega) (by omega))
  replace or := or.keep (SameIn.of_out b22 (by omega) (by omega))
  replace ot := ot.keep (SameIn.of_out b22 (by omega) (by omega))
  replace oe := oe.keep (SameIn.of_out b22 (by omega) (by omega))
  replace orw0 := orw0.keep (SameIn.of_out b22 (by omega) (by omega))
  replace oxr := oxr.keep (SameIn.of_out b22 (by omega) (by omega))
  replace xuxr := xuxr.keep (SameIn.of_out b22 (by omega) (by omega))
  replace oxt := oxt.keep (SameIn.of_out b22 (by omega) (by omega))
  replace xuxe := xuxe.keep (SameIn.of_out b22 (by omega) (by omega))
  replace org0 := org0.keep (SameIn.of_out b22 (by omega) (by omega))
  clear oxe
  have oxe := oxe'
  clear oxe'
  replace B := B.trans (b22.below (by omega) (by omega))
  clear b22
  go_wp2_with fail
  refine (eqIntS_c _ (org0.rd.more (Nat.zero_le _) (by omega)) (orw0.rd.more (Nat.zero_le _) (by omega))).mono ?_
  rintro e w23 ⟨rfl, b23⟩
  have s23 := b23.size
  replace xr := xr.keep (SameIn.of_below b23 (by omega))
  replace xe := xe.keep (SameIn.of_below b23 (by omega))
  replace or := or.keep (SameIn.of_below b23 (by omega))
  replace ot := ot.keep (SameIn.of_below b23 (by omega))
  replace oe := oe.keep (SameIn.of_below b23 (by omega))
  replace orw0 := orw0.keep (SameIn.of_below b23 (by omega))
  replace oxr := oxr.keep (SameIn.of_below b23 (by omega))
  replace xuxr := xuxr.keep (SameIn.of_below b23 (by omega))
  replace oxt := oxt.keep (SameIn.of_below b23 (by omega))
  replace oxe := oxe.keep (SameIn.of_below b23 (by omega))
  replace xuxe := xuxe.keep (SameIn.of_below b23 (by omega))
  replace org0 := org0.keep (SameIn.of_below b23 (by omega))
  replace B := B.trans (b23.mono (by omega))
  clear b23
  have hl0 : (keptMasks r t e).length ≤ 1048576 := (by have := @keptMasks_length r e t; omega)
  go_wp2_with fail
  refine (markIntS_c _ _ hl0 (by omega) (by omega) org0).mono ?_
  rintro e w24 ⟨rfl, org0', b24⟩
  have s24 := b24.size
  replace xr := xr.keep (SameIn.of_out b24 (by omega) (by omega))
  replace xe := xe.keep (SameIn.of_out b24 (by omega) (by omega))
  replace or := or.keep (SameIn.of_out b24 (by omega) (by omega))
  replace ot := ot.keep (SameIn.of_out b24 (by omega) (by omega))
  replace oe := oe.keep (SameIn.of_out b24 (by omega) (by omega))
  replace orw0 := orw0.keep (SameIn.of_out b24 (by omega) (by omega))
  replace oxr := oxr.keep (SameIn.of_out b24 (by omega) (by omega))
  replace xuxr := xuxr.keep (SameIn.of_out b24 (by omega) (by omega))
  replace oxt := oxt.keep (SameIn.of_out b24 (by omega) (by omega))
  replace oxe := oxe.keep (SameIn.of_out b24 (by omega) (by omega))
  replace xuxe := xuxe.keep (SameIn.of_out b24 (by omega) (by omega))
  clear org0
  have org0 := org0'
  clear org0'
  replace B := B.trans (b24.below (by omega) (by omega))
  clear b24
  go_wp2_with fail
  refine (heldIntS_c _ _ hl0 (by omega) (by omega) org0.rd).mono ?_
  rintro e w25 ⟨rfl, rfl⟩
  have yr0 : w24.cell? ⟨w.heap.size, 0, none⟩ = some (.int .i64 r.w) := (by first | exact xr.cell 0)
  have yr1 : w24.cell? ⟨w.heap.size, 1, none⟩ = some (sr) := (by first | exact xr.cell 1)
  have ye0 : w24.cell? ⟨w.heap.size + 1, 0, none⟩ = some (.int .i64 e.w) := (by first | exact xe.cell 0)
  have ye1 : w24.cell? ⟨w.heap.size + 1, 1, none⟩ = some (se) := (by first | exact xe.cell 1)
  go_wp2_with fail
  go_region_held3 (fun w' => w'.cell? ⟨w.heap.size, 0, none⟩ = some (.int .i64 r.w) ∧ w'.cell? ⟨w.heap.size, 1, none⟩ = some (sr) ∧ w'.cell? ⟨w.heap.size + 1, 0, none⟩ = some (.int .i64 e.w) ∧ w'.cell? ⟨w.heap.size + 1, 1, none⟩ = some (se))
    (first | ((try dsimp only); refine ⟨?_, ?_, ?_, ?_⟩ <;> assumption) | go_keep)
    ((first | (go_at_call 20; (with_reducible refine (toRegion_c (v := (.agg #[.int .i64 r.w, sr])) (x := r) _ (by exact ((or.keep (SameIn.drew)).more (Nat.zero_le _) (le_drew (show w.heap.size ≤ w24.heap.size by omega)))) (by omega)).mono ?_); rintro e w26 ⟨uyr, rfl, oyr, b26⟩; replace b26 := below_undrew b26; have s26 := b26.size; replace xr := xr.keep (SameIn.of_below b26 (by omega)); replace xe := xe.keep (SameIn.of_below b26 (by omega)); replace or := or.keep (SameIn.of_below b26 (by omega)); replace ot := ot.keep (SameIn.of_below b26 (by omega)); replace oe := oe.keep (SameIn.of_below b26 (by omega)); replace orw0 := orw0.keep (SameIn.of_below b26 (by omega)); replace oxr := oxr.keep (SameIn.of_below b26 (by omega)); replace xuxr := xuxr.keep (SameIn.of_below b26 (by omega)); replace oxt := oxt.keep (SameIn.of_below b26 (by omega)); replace oxe := oxe.keep (SameIn.of_below b26 (by omega)); replace xuxe := xuxe.keep (SameIn.of_below b26 (by omega)); replace org0 := org0.keep (SameIn.of_below b26 (by omega)); replace B := B.trans (b26.mono (by omega)); clear b26; have yr0_26 : w26.cell? ⟨w.heap.size, 0, none⟩ = some (.int .i64 r.w) := (by first | exact xr.cell 0); have yr1_26 : w26.cell? ⟨w.heap.size, 1, none⟩ = some (sr) := (by first | exact xr.cell 1); have ye0_26 : w26.cell? ⟨w.heap.size + 1, 0, none⟩ = some (.int .i64 e.w) := (by first | exact xe.cell 0); have ye1_26 : w26.cell? ⟨w.heap.size + 1, 1, none⟩ = some (se) := (by first | exact xe.cell 1)) | (go_at_call 21; (with_reducible refine (toIntS_c (v := (.slice At t.length ct)) (x := t) _ (by exact (ot.more (Nat.zero_le _) (show w.heap.size ≤ w26.heap.size by omega))) (by omega)).mono ?_); rintro e w27 ⟨uyt, rfl, oyt, b27⟩; have s27 := b27.size; replace xr := xr.keep (SameIn.of_below b27 (by omega)); replace xe := xe.keep (SameIn.of_below b27 (by omega)); replace or := or.keep (SameIn.of_below b27 (by omega)); replace ot := ot.keep (SameIn.of_below b27 (by omega)); replace oe := oe.keep (SameIn.of_below b27 (by omega)); replace orw0 := orw0.keep (SameIn.of_below b27 (by omega)); replace oxr := oxr.keep (SameIn.of_below b27 (by omega)); replace xuxr := xuxr.keep (SameIn.of_below b27 (by omega)); replace oxt := oxt.keep (SameIn.of_below b27 (by omega)); replace oxe := oxe.keep (SameIn.of_below b27 (by omega)); replace xuxe := xuxe.keep (SameIn.of_below b27 (by omega)); replace org0 := org0.keep (SameIn.of_below b27 (by omega)); replace oyr := oyr.keep (SameIn.of_below b27 (by omega)); replace B := B.trans (b27.mono (by omega)); clear b27; have yr0_27 : w27.cell? ⟨w.heap.size, 0, none⟩ = some (.int .i64 r.w) := (by first | exact xr.cell 0); have yr1_27 : w27.cell? ⟨w.heap.size, 1, none⟩ = some (sr) := (by first | exact xr.cell 1); have ye0_27 : w27.cell? ⟨w.heap.size + 1, 0, none⟩ = some (.int .i64 e.w) := (by first | exact xe.cell 0); have ye1_27 : w27.cell? ⟨w.heap.size + 1, 1, none⟩ = some (se) := (by first | exact xe.cell 1)) | (go_at_call 20; (with_reducible refine (toRegion_c (v := (.agg #[.int .i64 e.w, se])) (x := e) _ (by exact (oe.more (Nat.zero_le _) (show w.heap.size ≤ w27.heap.size by omega))) (by omega)).mono ?_); rintro e w28 ⟨uye, rfl, oye, b28⟩; have s28 := b28.size; replace xr := xr.keep (SameIn.of_below b28 (by omega)); replace xe := xe.keep (SameIn.of_below b28 (by omega)); replace or := or.keep (SameIn.of_below b28 (by omega)); replace ot := ot.keep (SameIn.of_below b28 (by omega)); replace oe := oe.keep (SameIn.of_below b28 (by omega)); replace orw0 := orw0.keep (SameIn.of_below b28 (by omega)); replace oxr := oxr.keep (SameIn.of_below b28 (by omega)); replace xuxr := xuxr.keep (SameIn.of_below b28 (by omega)); replace oxt := oxt.keep (SameIn.of_below b28 (by omega)); replace oxe := oxe.keep (SameIn.of_below b28 (by omega)); replace xuxe := xuxe.keep (SameIn.of_below b28 (by omega)); replace org0 := org0.keep (SameIn.of_below b28 (by omega)); replace oyr := oyr.keep (SameIn.of_below b28 (by omega)); replace oyt := oyt.keep (SameIn.of_below b28 (by omega)); replace B := B.trans (b28.mono (by omega)); clear b28; have yr0_28 : w28.cell? ⟨w.heap.size, 0, none⟩ = some (.int .i64 r.w) := (by first | exact xr.cell 0); have yr1_28 : w28.cell? ⟨w.heap.size, 1, none⟩ = some (sr) := (by first | exact xr.cell 1); have ye0_28 : w28.cell? ⟨w.heap.size + 1, 0, none⟩ = some (.int .i64 e.w) := (by first | exact xe.cell 0); have ye1_28 : w28.cell? ⟨w.heap.size + 1, 1, none⟩ = some (se) := (by first | exact xe.cell 1)) | (go_at_call 22; (with_reducible refine (impl_KeptMasks_c _ (oyr.rd.more (Nat.zero_le _) (by omega)) (oyt.rd.more (Nat.zero_le _) (by omega)) (oye.rd.more (Nat.zero_le _) (by omega)) it (by omega)).mono ?_); rintro e w29 ⟨rh0, rfl, orh0, b29⟩; have s29 := b29.size; replace xr := xr.keep (SameIn.of_below b29 (by omega)); replace xe := xe.keep (SameIn.of_below b29 (by omega)); replace or := or.keep (SameIn.of_below b29 (by omega)); replace ot := ot.keep (SameIn.of_below b29 (by omega)); replace oe := oe.keep (SameIn.of_below b29 (by omega)); replace orw0 := orw0.keep (SameIn.of_below b29 (by omega)); replace oxr := oxr.keep (SameIn.of_below b29 (by omega)); replace xuxr := xuxr.keep (SameIn.of_below b29 (by omega)); replace oxt := oxt.keep (SameIn.of_below b29 (by omega)); replace oxe := oxe.keep (SameIn.of_below b29 (by omega)); replace xuxe := xuxe.keep (SameIn.of_below b29 (by omega)); replace org0 := org0.keep (SameIn.of_below b29 (by omega)); replace oyr := oyr.keep (SameIn.of_below b29 (by omega)); replace oyt := oyt.keep (SameIn.of_below b29 (by omega)); replace oye := oye.keep (SameIn.of_below b29 (by omega)); replace B := B.trans (b29.mono (by omega)); clear b29; have yr0_29 : w29.cell? ⟨w.heap.size, 0, none⟩ = some (.int .i64 r.w) := (by first | exact xr.cell 0); have yr1_29 : w29.cell? ⟨w.heap.size, 1, none⟩ = some (sr) := (by first | exact xr.cell 1); have ye0_29 : w29.cell? ⟨w.heap.size + 1, 0, none⟩ = some (.int .i64 e.w) := (by first | exact xe.cell 0); have ye1_29 : w29.cell? ⟨w.heap.size + 1, 1, none⟩ = some (se) := (by first | exact xe.cell 1))))
  clear yr0_26 yr1_26 ye0_26 ye1_26 yr0_27 yr1_27 ye0_27 ye1_27 yr0_28 yr1_28 ye0_28 ye1_28 yr0_29 yr1_29 ye0_29 ye1_29
  clear yr0 yr1 ye0 ye1
  clear oyr
  clear oyt
  clear oye
  go_wp2_with fail
  refine (eqIntS_c _ (orh0.rd.more (Nat.zero_le _) (by omega)) (orw0.rd.more (Nat.zero_le _) (by omega))).mono ?_
  rintro e w30 ⟨rfl, b30⟩
  have s30 := b30.size
  replace xr := xr.keep (SameIn.of_below b30 (by omega))
  replace xe := xe.keep (SameIn.of_below b30 (by omega))
  replace or := or.keep (SameIn.of_below b30 (by omega))
  replace ot := ot.keep (SameIn.of_below b30 (by omega))
  replace oe := oe.keep (SameIn.of_below b30 (by omega))
  replace orw0 := orw0.keep (SameIn.of_below b30 (by omega))
  replace oxr := oxr.keep (SameIn.of_below b30 (by omega))
  replace xuxr := xuxr.keep (SameIn.of_below b30 (by omega))
  replace oxt := oxt.keep (SameIn.of_below b30 (by omega))
  replace oxe := oxe.keep (SameIn.of_below b30 (by omega))
  replace xuxe := xuxe.keep (SameIn.of_below b30 (by omega))
  replace org0 := org0.keep (SameIn.of_below b30 (by omega))
  replace orh0 := orh0.keep (SameIn.of_below b30 (by omega))
  replace B := B.trans (b30.mono (by omega))
  clear b30
  go_wp2_with fail
  refine (heldIntS_c _ _ hl0 (by omega) (by omega) org0.rd).mono ?_
  rintro e w31 ⟨rfl, rfl⟩
  go_wp2
  go_ret
  exact ⟨rfl, B⟩

end Go.Proofs.Ytlncpkdkdhnfeaa
