
/-
  The law FnExactCountDivisions, walked by contracts, under the library's table.
-/
import Derived.Test.YtccihgifdlpkgaaGreatDoorCdX
import Derived.Test.YtccihgifdlpkgaaGreatDoorLawInts
namespace Go.Proofs.YtccihgifdlpkgaaGreatDoor
open Go.RowKit

set_option maxRecDepth 100000 in
set_option maxHeartbeats 8000000 in
theorem law_CountDivisions (vr : Value) (r : Reg) (k : Int) (w : World) (hr : RegRd w 0 w.heap.size vr r) (_hk : I64 k) (htab : Tab64 w) :
    Calls Tryz.prog 5 #[vr, .int .i64 k] w fun e w' => e = .returned (.bool true) ∧ Below w.heap.size w w' := by
  obtain ⟨sr, rfl, hsr⟩ := id hr
  have B : Below w.heap.size w (w.alloc (.cells #[.int .i64 r.w, sr] 24)) := ((Below.refl w.heap.size w).alloc (by first | exact Nat.le_refl _ | (simp; done) | (simp; omega)) _)
  have s0 : w.heap.size + 1 ≤ (w.alloc (.cells #[.int .i64 r.w, sr] 24)).heap.size := by simp
  have xr : BoxIn (w.alloc (.cells #[.int .i64 r.w, sr] 24)) w.heap.size (w.heap.size + 1) (w.heap.size) 24 #[.int .i64 r.w, sr] := ⟨by have := Blk.new w 24 #[.int .i64 r.w, sr]; simpa using this, by omega, by omega⟩
  have or := hr.keep (SameIn.of_below B (Nat.le_refl _))
  by_cases q0 : 1048576 < (r.rows.length : Int)
  · skip
    go_enter Tryz.func5, Tryz.ntmps5
    go_wp2_with fail
    generalize (w.alloc (.cells #[.int .i64 r.w, sr] 24)) = W0 at *
    refine (szRegion_c _ _ (or.more (Nat.zero_le _) (by omega)) (by omega) (by omega)).mono ?_
    rintro e w1 ⟨rfl, b1⟩
    have s1 := b1.size
    replace xr := xr.keep (SameIn.of_below b1 (by omega))
    replace or := or.keep (SameIn.of_below b1 (by omega))
    replace B := B.trans (b1.mono (by omega))
    clear b1
    rw [if_pos (by omega)]
    go_wp2
    go_ret
    exact ⟨rfl, B⟩
  go_enter Tryz.func5, Tryz.ntmps5
  go_wp2_with fail
  generalize (w.alloc (.cells #[.int .i64 r.w, sr] 24)) = W0 at *
  refine (szRegion_c _ _ (or.more (Nat.zero_le _) (by omega)) (by omega) (by omega)).mono ?_
  rintro e w1 ⟨rfl, b1⟩
  have s1 := b1.size
  replace xr := xr.keep (SameIn.of_below b1 (by omega))
  replace or := or.keep (SameIn.of_below b1 (by omega))
  replace B := B.trans (b1.mono (by omega))
  clear b1
  rw [if_neg (by omega)]
  have yr0 : w1.cell? ⟨w.heap.size, 0, none⟩ = some (.int .i64 r.w) := (by first | exact xr.cell 0)
  have yr1 : w1.cell? ⟨w.heap.size, 1, none⟩ = some (sr) := (by first | exact xr.cell 1)
  go_wp2_with fail
  clear yr0 yr1
  refine (toRegion_c _ (or.more (Nat.zero_le _) (by omega)) (by omega)).mono ?_
  rintro e w2 ⟨usr, rfl, osr, b2⟩
  have s2 := b2.size
  replace xr := xr.keep (SameIn.of_below b2 (by omega))
  replace or := or.keep (SameIn.of_below b2 (by omega))
  replace B := B.trans (b2.mono (by omega))
  clear b2
  go_wp2_with fail
  refine (spec_cd_c _ (osr.rd.more (Nat.zero_le _) (by omega)) k (by omega)).mono ?_
  rintro e w3 ⟨rfl, b3⟩
  have s3 := b3.size
  replace xr := xr.keep (SameIn.of_below b3 (by omega))
  replace or := or.keep (SameIn.of_below b3 (by omega))
  replace osr := osr.keep (SameIn.of_below b3 (by omega))
  replace B := B.trans (b3.mono (by omega))
  clear b3
  clear osr
  have yr0 : w3.cell? ⟨w.heap.size, 0, none⟩ = some (.int .i64 r.w) := (by first | exact xr.cell 0)
  have yr1 : w3.cell? ⟨w.heap.size, 1, none⟩ = some (sr) := (by first | exact xr.cell 1)
  go_wp2_with fail
  clear yr0 yr1
  refine (toRegion_c _ (or.more (Nat.zero_le _) (by omega)) (by omega)).mono ?_
  rintro e w4 ⟨uxr, rfl, oxr, b4⟩
  have s4 := b4.size
  replace xr := xr.keep (SameIn.of_below b4 (by omega))
  replace or := or.keep (SameIn.of_below b4 (by omega))
  replace B := B.trans (b4.mono (by omega))
  clear b4
  obtain ⟨tuxr, rfl, guxr⟩ := id oxr
  obtain ⟨Auxr, cuxr, rfl, _, _⟩ := guxr.rd
  clear guxr
  have bb : Below w4.heap.size w4 (w4.alloc (.cells #[.int .i64 r.w, .slice Auxr r.rows.length cuxr] 28)) := (Below.refl _ _).alloc (Nat.le_refl _) _
  have s5 : w4.heap.size + 1 ≤ (w4.alloc (.cells #[.int .i64 r.w, .slice Auxr r.rows.length cuxr] 28)).heap.size := by simp
  replace xr := xr.keep (SameIn.of_below bb (by omega))
  replace or := or.keep (SameIn.of_below bb (by omega))
  replace oxr := oxr.keep (SameIn.of_below bb (by omega))
  replace B := B.trans (bb.mono (by omega))
  clear bb
  have xuxr : BoxIn (w4.alloc (.cells #[.int .i64 r.w, .slice Auxr r.rows.length cuxr] 28)) w4.heap.size (w4.heap.size + 1) w4.heap.size 28 #[.int .i64 r.w, .slice Auxr r.rows.length cuxr] := ⟨Blk.new _ _ _, Nat.le_refl _, Nat.lt_succ_self _⟩
  have yuxr0 : (w4.alloc (.cells #[.int .i64 r.w, .slice Auxr r.rows.length cuxr] 28)).cell? ⟨w4.heap.size, 0, none⟩ = some (.int .i64 r.w) := (by first | exact xuxr.cell 0)
  have yuxr1 : (w4.alloc (.cells #[.int .i64 r.w, .slice Auxr r.rows.length cuxr] 28)).cell? ⟨w4.heap.size, 1, none⟩ = some (.slice Auxr r.rows.length cuxr) := (by first | exact xuxr.cell 1)
  go_wp2_with fail
  generalize w4.alloc (.cells #[.int .i64 r.w, .slice Auxr r.rows.length cuxr] 28) = w5 at *
  clear yuxr0 yuxr1
  refine (impl_cd_c _ (oxr.rd.more (Nat.zero_le _) (by omega)) k (by omega) (tab64_on htab B)).mono ?_
  rintro e w6 ⟨rfl, b6⟩
  have s6 := b6.size
  replace xr := xr.keep (SameIn.of_below b6 (by omega))
  replace or := or.keep (SameIn.of_below b6 (by omega))
  replace oxr := oxr.keep (SameIn.of_below b6 (by omega))
  replace xuxr := xuxr.keep (SameIn.of_below b6 (by omega))
  replace B := B.trans (b6.mono (by omega))
  clear b6
  have yuxr0 : w6.cell? ⟨w4.heap.size, 0, none⟩ = some (.int .i64 r.w) := (by first | exact xuxr.cell 0)
  have yuxr1 : w6.cell? ⟨w4.heap.size, 1, none⟩ = some (.slice Auxr r.rows.length cuxr) := (by first | exact xuxr.cell 1)
  have yr0 : w6.cell? ⟨w.heap.size, 0, none⟩ = some (.int .i64 r.w) := (by first | exact xr.cell 0)
  have yr1 : w6.cell? ⟨w.heap.size, 1, none⟩ = some (sr) := (by first | exact xr.cell 1)
  go_wp2_with fail
  go_region_held3 (fun w' => w'.cell? ⟨w4.heap.size, 0, none⟩ = some (.int .i64 r.w) ∧ w'.cell? ⟨w4.heap.size, 1, none⟩ = some (.slice Auxr r.rows.length cuxr) ∧ w'.cell? ⟨w.heap.size, 0, none⟩ = some (.int .i64 r.w) ∧ w'.cell? ⟨w.heap.size, 1, none⟩ = some (sr))
    (first | ((try dsimp only); refine ⟨?_, ?_, ?_, ?_⟩ <;> assumption) | go_keep)
    ((first | (go_at_call 9; (with_reducible refine (toRegion_c (v := (.agg #[.int .i64 r.w, sr])) (x := r) _ (by exact ((or.keep (SameIn.drew)).more (Nat.zero_le _) (le_drew (show w.heap.size ≤ w6.heap.size by omega)))) (by omega)).mono ?_); rintro e w7 ⟨utr, rfl, otr, b7⟩; replace b7 := below_undrew b7; have s7 := b7.size; replace xr := xr.keep (SameIn.of_below b7 (by omega)); replace or := or.keep (SameIn.of_below b7 (by omega)); replace oxr := oxr.keep (SameIn.of_below b7 (by omega)); replace xuxr := xuxr.keep (SameIn.of_below b7 (by omega)); replace B := B.trans (b7.mono (by omega)); clear b7; have yuxr0_7 : w7.cell? ⟨w4.heap.size, 0, none⟩ = some (.int .i64 r.w) := (by first | exact xuxr.cell 0); have yuxr1_7 : w7.cell? ⟨w4.heap.size, 1, none⟩ = some (.slice Auxr r.rows.length cuxr) := (by first | exact xuxr.cell 1); have yr0_7 : w7.cell? ⟨w.heap.size, 0, none⟩ = some (.int .i64 r.w) := (by first | exact xr.cell 0); have yr1_7 : w7.cell? ⟨w.heap.size, 1, none⟩ = some (sr) := (by first | exact xr.cell 1)) | (go_at_call 12; (with_reducible refine (eqRegion_c (x := r) _ (oxr.rd.more (Nat.zero_le _) (by omega)) (otr.rd.more (Nat.zero_le _) (by omega))).mono ?_); rintro e w8 ⟨rfl, b8⟩; have s8 := b8.size; replace xr := xr.keep (SameIn.of_below b8 (by omega)); replace or := or.keep (SameIn.of_below b8 (by omega)); replace oxr := oxr.keep (SameIn.of_below b8 (by omega)); replace xuxr := xuxr.keep (SameIn.of_below b8 (by omega)); replace otr := otr.keep (SameIn.of_below b8 (by omega)); replace B := B.trans (b8.mono (by omega)); clear b8; have yuxr0_8 : w8.cell? ⟨w4.heap.size, 0, none⟩ = some (.int .i64 r.w) := (by first | exact xuxr.cell 0); have yuxr1_8 : w8.cell? ⟨w4.heap.size, 1, none⟩ = some (.slice Auxr r.rows.length cuxr) := (by first | exact xuxr.cell 1); have yr0_8 : w8.cell? ⟨w.heap.size, 0, none⟩ = some (.int .i64 r.w) := (by first | exact xr.cell 0); have yr1_8 : w8.cell? ⟨w.heap.size, 1, none⟩ = some (sr) := (by first | exact xr.cell 1))))
  clear yuxr0_7 yuxr1_7 yr0_7 yr1_7 yuxr0_8 yuxr1_8 yr0_8 yr1_8
  clear yuxr0 yuxr1 yr0 yr1
  clear otr
  go_wp2
  go_ret
  exact ⟨rfl, B⟩

end Go.Proofs.YtccihgifdlpkgaaGreatDoor
