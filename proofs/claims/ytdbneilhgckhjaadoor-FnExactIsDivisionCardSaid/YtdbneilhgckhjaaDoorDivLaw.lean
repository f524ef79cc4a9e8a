
/-
  The law FnExactIsDivision, walked by contracts, under the library's table.
-/
import Derived.Test.YtdbneilhgckhjaaDoorDivI
import Derived.Test.YtdbneilhgckhjaaDoorLawInts
namespace Go.Proofs.YtdbneilhgckhjaaDoor
open Go.RowKit

set_option maxRecDepth 100000 in
set_option maxHeartbeats 8000000 in
theorem law_IsDivision (vr : Value) (r : Reg) (vt : Value) (t : List Int) (w : World) (hr : RegRd w 0 w.heap.size vr r) (ht : IntsRd w 0 w.heap.size vt t) (it : ∀ a ∈ t, I64 a) (htab : Tab64 w) :
    Calls Tryd.prog 5 #[vr, vt] w fun e w' => e = .returned (.bool true) ∧ Below w.heap.size w w' := by
  obtain ⟨sr, rfl, hsr⟩ := id hr
  have B : Below w.heap.size w (w.alloc (.cells #[.int .i64 r.w, sr] 26)) := ((Below.refl w.heap.size w).alloc (by first | exact Nat.le_refl _ | (simp; done) | (simp; omega)) _)
  have s0 : w.heap.size + 1 ≤ (w.alloc (.cells #[.int .i64 r.w, sr] 26)).heap.size := by simp
  have xr : BoxIn (w.alloc (.cells #[.int .i64 r.w, sr] 26)) w.heap.size (w.heap.size + 1) (w.heap.size) 26 #[.int .i64 r.w, sr] := ⟨by have := Blk.new w 26 #[.int .i64 r.w, sr]; simpa using this, by omega, by omega⟩
  have or := hr.keep (SameIn.of_below B (Nat.le_refl _))
  have ot := ht.keep (SameIn.of_below B (Nat.le_refl _))
  have hmt : t.length ≤ 9223372036854775807 := by obtain ⟨_, _, _, hm, _⟩ := id ht; unfold maxLen at hm; omega
  obtain ⟨At, ct, rfl, _, _⟩ := id ht
  by_cases q0 : 1048576 < (t.length : Int)
  · skip
    go_enter Tryd.func5, Tryd.ntmps5
    go_wp2
    go_ret
    exact ⟨rfl, B⟩
  by_cases q1 : 1048576 < (r.rows.length : Int)
  · skip
    go_enter Tryd.func5, Tryd.ntmps5
    go_wp2_with fail
    generalize (w.alloc (.cells #[.int .i64 r.w, sr] 26)) = W0 at *
    refine (szRegion_c _ _ (or.more (Nat.zero_le _) (by omega)) (by omega) (by omega)).mono ?_
    rintro e w1 ⟨rfl, b1⟩
    have s1 := b1.size
    replace xr := xr.keep (SameIn.of_below b1 (by omega))
    replace or := or.keep (SameIn.of_below b1 (by omega))
    replace ot := ot.keep (SameIn.of_below b1 (by omega))
    replace B := B.trans (b1.mono (by omega))
    clear b1
    rw [if_pos (by omega)]
    go_wp2
    go_ret
    exact ⟨rfl, B⟩
  go_enter Tryd.func5, Tryd.ntmps5
  go_wp2_with fail
  generalize (w.alloc (.cells #[.int .i64 r.w, sr] 26)) = W0 at *
  refine (szRegion_c _ _ (or.more (Nat.zero_le _) (by omega)) (by omega) (by omega)).mono ?_
  rintro e w1 ⟨rfl, b1⟩
  have s1 := b1.size
  replace xr := xr.keep (SameIn.of_below b1 (by omega))
  replace or := or.keep (SameIn.of_below b1 (by omega))
  replace ot := ot.keep (SameIn.of_below b1 (by omega))
  replace B := B.trans (b1.mono (by omega))
  clear b1
  rw [if_neg (by omega)]
  have yr0 : w1.cell? ⟨w.heap.size, 0, none⟩ = some (.int .i64 r.w) := (by first | exact xr.cell 0)
  have yr1 : w1.cell? ⟨w.heap.size, 1, none⟩ = some (sr) := (by first | exact xr.cell 1)
  go_wp2_with fail
  clear yr0 yr1
  refine (toRegion_c _ (or.more (Nat.zero_le _) (by omega)) (by omega)).mono ?_
  rintro e w2 ⟨usr, rfl, osr, b2⟩
  have s2 := b2.size
  replace xr := xr.keep (SameIn.of_below b2 (by omega))
  replace or := or.keep (SameIn.of_below b2 (by omega))
  replace ot := ot.keep (SameIn.of_below b2 (by omega))
  replace B := B.trans (b2.mono (by omega))
  clear b2
  go_wp2_with fail
  refine (toIntS_c _ (ot.more (Nat.zero_le _) (by omega)) (by omega)).mono ?_
  rintro e w3 ⟨ust, rfl, ost, b3⟩
  have s3 := b3.size
  replace xr := xr.keep (SameIn.of_below b3 (by omega))
  replace or := or.keep (SameIn.of_below b3 (by omega))
  replace ot := ot.keep (SameIn.of_below b3 (by omega))
  replace osr := osr.keep (SameIn.of_below b3 (by omega))
  replace B := B.trans (b3.mono (by omega))
  clear b3
  go_wp2_with fail
  refine (spec_isDivision_c _ (osr.rd.more (Nat.zero_le _) (by omega)) (ost.rd.more (Nat.zero_le _) (by omega)) it (by omega)).mono ?_
  rintro e w4 ⟨rfl, b4⟩
  have s4 := b4.size
  replace xr := xr.keep (SameIn.of_below b4 (by omega))
  replace or := or.keep (SameIn.of_below b4 (by omega))
  replace ot := ot.keep (SameIn.of_below b4 (by omega))
  replace osr := osr.keep (SameIn.of_below b4 (by omega))
  replace ost := ost.keep (SameIn.of_below b4 (by omega))
  replace B := B.trans (b4.mono (by omega))
  clear b4
  clear osr
  clear ost
  have yr0 : w4.cell? ⟨w.heap.size, 0, none⟩ = some (.int .i64 r.w) := (by first | exact xr.cell 0)
  have yr1 : w4.cell? ⟨w.heap.size, 1, none⟩ = some (sr) := (by first | exact xr.cell 1)
  go_wp2_with fail
  clear yr0 yr1
  refine (toRegion_c _ (or.more (Nat.zero_le _) (by omega)) (by omega)).mono ?_
  rintro e w5 ⟨uxr, rfl, oxr, b5⟩
  have s5 := b5.size
  replace xr := xr.keep (SameIn.of_below b5 (by omega))
  replace or := or.keep (SameIn.of_below b5 (by omega))
  replace ot := ot.keep (SameIn.of_below b5 (by omega))
  replace B := B.trans (b5.mono (by omega))
  clear b5
  obtain ⟨tuxr, rfl, guxr⟩ := id oxr
  obtain ⟨Auxr, cuxr, rfl, _, _⟩ := guxr.rd
  clear guxr
  have bb : Below w5.heap.size w5 (w5.alloc (.cells #[.int .i64 r.w, .slice Auxr r.rows.length cuxr] 29)) := (Below.refl _ _).alloc (Nat.le_refl _) _
  have s6 : w5.heap.size + 1 ≤ (w5.alloc (.cells #[.int .i64 r.w, .slice Auxr r.rows.length cuxr] 29)).heap.size := by simp
  replace xr := xr.keep (SameIn.of_below bb (by omega))
  replace or := or.keep (SameIn.of_below bb (by omega))
  replace ot := ot.keep (SameIn.of_below bb (by omega))
  replace oxr := oxr.keep (SameIn.of_below bb (by omega))
  replace B := B.trans (bb.mono (by omega))
  clear bb
  have xuxr : BoxIn (w5.alloc (.cells #[.int .i64 r.w, .slice Auxr r.rows.length cuxr] 29)) w5.heap.size (w5.heap.size + 1) w5.heap.size 29 #[.int .i64 r.w, .slice Auxr r.rows.length cuxr] := ⟨Blk.new _ _ _, Nat.le_refl _, Nat.lt_succ_self _⟩
  go_wp2_with fail
  generalize w5.alloc (.cells #[.int .i64 r.w, .slice Auxr r.rows.length cuxr] 29) = w6 at *
  refine (toIntS_c _ (ot.more (Nat.zero_le _) (by omega)) (by omega)).mono ?_
  rintro e w7 ⟨uxt, rfl, oxt, b7⟩
  have s7 := b7.size
  replace xr := xr.keep (SameIn.of_below b7 (by omega))
  replace or := or.keep (SameIn.of_below b7 (by omega))
  replace ot := ot.keep (SameIn.of_below b7 (by omega))
  replace oxr := oxr.keep (SameIn.of_below b7 (by omega))
  replace xuxr := xuxr.keep (SameIn.of_below b7 (by omega))
  replace B := B.trans (b7.mono (by omega))
  clear b7
  have yuxr0 : w7.cell? ⟨w5.heap.size, 0, none⟩ = some (.int .i64 r.w) := (by first | exact xuxr.cell 0)
  have yuxr1 : w7.cell? ⟨w5.heap.size, 1, none⟩ = some (.slice Auxr r.rows.length cuxr) := (by first | exact xuxr.cell 1)
  go_wp2_with fail
  clear yuxr0 yuxr1
  refine (impl_isDivision_c _ (oxr.rd.more (Nat.zero_le _) (by omega)) (oxt.rd.more (Nat.zero_le _) (by omega)) it (by omega) (tab64_on htab B)).mono ?_
  rintro e w8 ⟨rfl, b8⟩
  have s8 := b8.size
  replace xr := xr.keep (SameIn.of_below b8 (by omega))
  replace or := or.keep (SameIn.of_below b8 (by omega))
  replace ot := ot.keep (SameIn.of_below b8 (by omega))
  replace oxr := oxr.keep (SameIn.of_below b8 (by omega))
  replace xuxr := xuxr.keep (SameIn.of_below b8 (by omega))
  replace oxt := oxt.keep (SameIn.of_below b8 (by omega))
  replace B := B.trans (b8.mono (by omega))
  clear b8
  have yuxr0 : w8.cell? ⟨w5.heap.size, 0, none⟩ = some (.int .i64 r.w) := (by first | exact xuxr.cell 0)
  have yuxr1 : w8.cell? ⟨w5.heap.size, 1, none⟩ = some (.slice Auxr r.rows.length cuxr) := (by first | exact xuxr.cell 1)
  have yr0 : w8.cell? ⟨w.heap.size, 0, none⟩ = some (.int .i64 r.w) := (by first | exact xr.cell 0)
  have yr1 : w8.cell? ⟨w.heap.size, 1, none⟩ = some (sr) := (by first | exact xr.cell 1)
  go_wp2_with fail
  go_region_held3 (fun w' => w'.cell? ⟨w5.heap.size, 0, none⟩ = some (.int .i64 r.w) ∧ w'.cell? ⟨w5.heap.size, 1, none⟩ = some (.slice Auxr r.rows.length cuxr) ∧ w'.cell? ⟨w.heap.size, 0, none⟩ = some (.int .i64 r.w) ∧ w'.cell? ⟨w.heap.size, 1, none⟩ = some (sr))
    (first | ((try dsimp only); refine ⟨?_, ?_, ?_, ?_⟩ <;> assumption) | go_keep)
    ((first | (go_at_call 10; (with_reducible refine (toRegion_c (v := (.agg #[.int .i64 r.w, sr])) (x := r) _ (by exact ((or.keep (SameIn.drew)).more (Nat.zero_le _) (le_drew (show w.heap.size ≤ w8.heap.size by omega)))) (by omega)).mono ?_); rintro e w9 ⟨utr, rfl, otr, b9⟩; replace b9 := below_undrew b9; have s9 := b9.size; replace xr := xr.keep (SameIn.of_below b9 (by omega)); replace or := or.keep (SameIn.of_below b9 (by omega)); replace ot := ot.keep (SameIn.of_below b9 (by omega)); replace oxr := oxr.keep (SameIn.of_below b9 (by omega)); replace xuxr := xuxr.keep (SameIn.of_below b9 (by omega)); replace oxt := oxt.keep (SameIn.of_below b9 (by omega)); replace B := B.trans (b9.mono (by omega)); clear b9; have yuxr0_9 : w9.cell? ⟨w5.heap.size, 0, none⟩ = some (.int .i64 r.w) := (by first | exact xuxr.cell 0); have yuxr1_9 : w9.cell? ⟨w5.heap.size, 1, none⟩ = some (.slice Auxr r.rows.length cuxr) := (by first | exact xuxr.cell 1); have yr0_9 : w9.cell? ⟨w.heap.size, 0, none⟩ = some (.int .i64 r.w) := (by first | exact xr.cell 0); have yr1_9 : w9.cell? ⟨w.heap.size, 1, none⟩ = some (sr) := (by first | exact xr.cell 1)) | (go_at_call 12; (with_reducible refine (eqRegion_c (x := r) _ (oxr.rd.more (Nat.zero_le _) (by omega)) (otr.rd.more (Nat.zero_le _) (by omega))).mono ?_); rintro e w10 ⟨rfl, b10⟩; have s10 := b10.size; replace xr := xr.keep (SameIn.of_below b10 (by omega)); replace or := or.keep (SameIn.of_below b10 (by omega)); replace ot := ot.keep (SameIn.of_below b10 (by omega)); replace oxr := oxr.keep (SameIn.of_below b10 (by omega)); replace xuxr := xuxr.keep (SameIn.of_below b10 (by omega)); replace oxt := oxt.keep (SameIn.of_below b10 (by omega)); replace otr := otr.keep (SameIn.of_below b10 (by omega)); replace B := B.trans (b10.mono (by omega)); clear b10; have yuxr0_10 : w10.cell? ⟨w5.heap.size, 0, none⟩ = some (.int .i64 r.w) := (by first | exact xuxr.cell 0); have yuxr1_10 : w10.cell? ⟨w5.heap.size, 1, none⟩ = some (.slice Auxr r.rows.length cuxr) := (by first | exact xuxr.cell 1); have yr0_10 : w10.cell? ⟨w.heap.size, 0, none⟩ = some (.int .i64 r.w) := (by first | exact xr.cell 0); have yr1_10 : w10.cell? ⟨w.heap.size, 1, none⟩ = some (sr) := (by first | exact xr.cell 1))))
  clear yuxr0_9 yuxr1_9 yr0_9 yr1_9 yuxr0_10 yuxr1_10 yr0_10 yr1_10
  clear yuxr0 yuxr1 yr0 yr1
  clear otr
  go_wp2_with fail
  refine (toIntS_c _ (ot.more (Nat.zero_le _) (by omega)) (by omega)).mono ?_
  rintro e w11 ⟨utt, rfl, ott, b11⟩
  have s11 := b11.size
  replace xr := xr.keep (SameIn.of_below b11 (by omega))
  replace or := or.keep (SameIn.of_below b11 (by omega))
  replace ot := ot.keep (SameIn.of_below b11 (by omega))
  replace oxr := oxr.keep (SameIn.of_below b11 (by omega))
  replace xuxr := xuxr.keep (SameIn.of_below b11 (by omega))
  replace oxt := oxt.keep (SameIn.of_below b11 (by omega))
  replace B := B.trans (b11.mono (by omega))
  clear b11
  go_wp2_with fail
  refine (eqIntS_c _ (oxt.rd.more (Nat.zero_le _) (by omega)) (ott.rd.more (Nat.zero_le _) (by omega))).mono ?_
  rintro e w12 ⟨rfl, b12⟩
  have s12 := b12.size
  replace xr := xr.keep (SameIn.of_below b12 (by omega))
  replace or := or.keep (SameIn.of_below b12 (by omega))
  replace ot := ot.keep (SameIn.of_below b12 (by omega))
  replace oxr := oxr.keep (SameIn.of_below b12 (by omega))
  replace xuxr := xuxr.keep (SameIn.of_below b12 (by omega))
  replace oxt := oxt.keep (SameIn.of_below b12 (by omega))
  replace ott := ott.keep (SameIn.of_below b12 (by omega))
  replace B := B.trans (b12.mono (by omega))
  clear b12
  clear ott
  go_wp2
  go_ret
  exact ⟨rfl, B⟩

set_option maxRecDepth 100000 in
/-- a row's list gives the table -/
theorem tab64_of {x : String × DataW Unit} {W : World} (h : laidMet Tryd.prog [x, ("math/bits.deBruijn64tab", Lib.tabData .u8 tab64L)] W) : Tab64 W := by
  have hs : ((Tryd.prog.globalNamed "math/bits.deBruijn64tab").bind fun g => (Tryd.prog.globals[g]?).map (·.type)) = some 123 := by kernel_rfl
  obtain ⟨g, hg, hty⟩ := Option.bind_eq_some_iff.1 hs
  exact Lib.tabIs_of_head hg hty Tryd.underlying123 Tryd.underlying5 (by kernel_rfl) (by kernel_rfl) h.tail
end Go.Proofs.YtdbneilhgckhjaaDoor
