
/-
  The law FnExactLeastCommonArea, walked by contracts, under the library's table.
-/
import Derived.Test.YtelneohlpljblaaGreatDoorRctY
import Derived.Test.YtelneohlpljblaaGreatDoorLawCells
import Derived.Test.YtelneohlpljblaaGreatDoorLawInts
import Derived.Test.YtelneohlpljblaaGreatDoorTabOf
namespace Go.Proofs.YtelneohlpljblaaGreatDoor
open Go.RowKit

set_option maxRecDepth 100000 in
set_option maxHeartbeats 8000000 in
theorem law_LeastCommonArea (va : Value) (a : List Cell) (vb : Value) (b : List Cell) (w : World) (ha : CellsRd w 0 w.heap.size va a) (hb : CellsRd w 0 w.heap.size vb b) (htab : Tab64 w) :
    Calls Tryz.prog 6 #[va, vb] w fun e w' => e = .returned (.bool true) ∧ Below w.heap.size w w' := by
  have B : Below w.heap.size w w := Below.refl _ _
  have s0 : w.heap.size + 0 ≤ w.heap.size := Nat.le_refl _
  have oa := ha
  have ob := hb
  by_cases q0 : 1048576 < (a.length : Int)
  · skip
    go_enter Tryz.func6, Tryz.ntmps6
    go_wp2_with fail
    skip
    refine (szCellS_c _ _ (oa.more (Nat.zero_le _) (by omega)) (by omega) (by omega)).mono ?_
    rintro e w1 ⟨rfl, rfl⟩
    rw [if_pos (by omega)]
    go_wp2
    go_ret
    exact ⟨rfl, B⟩
  by_cases q1 : 1048576 < (a.length : Int) + (b.length : Int)
  · skip
    go_enter Tryz.func6, Tryz.ntmps6
    go_wp2_with fail
    skip
    refine (szCellS_c _ _ (oa.more (Nat.zero_le _) (by omega)) (by omega) (by omega)).mono ?_
    rintro e w1 ⟨rfl, rfl⟩
    rw [if_neg (by omega)]
    go_wp2_with fail
    refine (szCellS_c _ _ (ob.more (Nat.zero_le _) (by omega)) (by omega) (by omega)).mono ?_
    rintro e w2 ⟨rfl, rfl⟩
    rw [if_pos (by omega)]
    go_wp2
    go_ret
    exact ⟨rfl, B⟩
  go_enter Tryz.func6, Tryz.ntmps6
  go_wp2_with fail
  skip
  refine (szCellS_c _ _ (oa.more (Nat.zero_le _) (by omega)) (by omega) (by omega)).mono ?_
  rintro e w1 ⟨rfl, rfl⟩
  rw [if_neg (by omega)]
  go_wp2_with fail
  refine (szCellS_c _ _ (ob.more (Nat.zero_le _) (by omega)) (by omega) (by omega)).mono ?_
  rintro e w2 ⟨rfl, rfl⟩
  rw [if_neg (by omega)]
  go_wp2_with fail
  refine (toCellS_c _ (oa.more (Nat.zero_le _) (by omega)) (by omega)).mono ?_
  rintro e w3 ⟨usa, rfl, osa, b3⟩
  have s3 := b3.size
  replace oa := oa.keep (SameIn.of_below b3 (by omega))
  replace ob := ob.keep (SameIn.of_below b3 (by omega))
  replace B := B.trans (b3.mono (by omega))
  clear b3
  go_wp2_with fail
  refine (toCellS_c _ (ob.more (Nat.zero_le _) (by omega)) (by omega)).mono ?_
  rintro e w4 ⟨usb, rfl, osb, b4⟩
  have s4 := b4.size
  replace oa := oa.keep (SameIn.of_below b4 (by omega))
  replace ob := ob.keep (SameIn.of_below b4 (by omega))
  replace osa := osa.keep (SameIn.of_below b4 (by omega))
  replace B := B.trans (b4.mono (by omega))
  clear b4
  go_wp2_with fail
  refine (spec_comArea_c _ (osa.rd.more (Nat.zero_le _) (by omega)) (osb.rd.more (Nat.zero_le _) (by omega)) (by omega) (by omega)).mono ?_
  rintro e w5 ⟨rfl, b5⟩
  have s5 := b5.size
  replace oa := oa.keep (SameIn.of_below b5 (by omega))
  replace ob := ob.keep (SameIn.of_below b5 (by omega))
  replace osa := osa.keep (SameIn.of_below b5 (by omega))
  replace osb := osb.keep (SameIn.of_below b5 (by omega))
  replace B := B.trans (b5.mono (by omega))
  clear b5
  clear osa
  clear osb
  go_wp2_with fail
  refine (toCellS_c _ (oa.more (Nat.zero_le _) (by omega)) (by omega)).mono ?_
  rintro e w6 ⟨uxa, rfl, oxa, b6⟩
  have s6 := b6.size
  replace oa := oa.keep (SameIn.of_below b6 (by omega))
  replace ob := ob.keep (SameIn.of_below b6 (by omega))
  replace B := B.trans (b6.mono (by omega))
  clear b6
  go_wp2_with fail
  refine (toCellS_c _ (ob.more (Nat.zero_le _) (by omega)) (by omega)).mono ?_
  rintro e w7 ⟨uxb, rfl, oxb, b7⟩
  have s7 := b7.size
  replace oa := oa.keep (SameIn.of_below b7 (by omega))
  replace ob := ob.keep (SameIn.of_below b7 (by omega))
  replace oxa := oxa.keep (SameIn.of_below b7 (by omega))
  replace B := B.trans (b7.mono (by omega))
  clear b7
  go_wp2_with fail
  refine (impl_comArea_c _ (oxa.rd.more (Nat.zero_le _) (by omega)) (oxb.rd.more (Nat.zero_le _) (by omega)) (by omega) (by omega) (tab64_on htab B)).mono ?_
  rintro e w8 ⟨rfl, b8⟩
  have s8 := b8.size
  replace oa := oa.keep (SameIn.of_below b8 (by omega))
  replace ob := ob.keep (SameIn.of_below b8 (by omega))
  replace oxa := oxa.keep (SameIn.of_below b8 (by omega))
  replace oxb := oxb.keep (SameIn.of_below b8 (by omega))
  replace B := B.trans (b8.mono (by omega))
  clear b8
  go_wp2_with fail
  refine (toCellS_c _ (oa.more (Nat.zero_le _) (by omega)) (by omega)).mono ?_
  rintro e w9 ⟨uta, rfl, ota, b9⟩
  have s9 := b9.size
  replace oa := oa.keep (SameIn.of_below b9 (by omega))
  replace ob := ob.keep (SameIn.of_below b9 (by omega))
  replace oxa := oxa.keep (SameIn.of_below b9 (by omega))
  replace oxb := oxb.keep (SameIn.of_below b9 (by omega))
  replace B := B.trans (b9.mono (by omega))
  clear b9
  go_wp2_with fail
  refine (eqCellS_c _ (oxa.rd.more (Nat.zero_le _) (by omega)) (ota.rd.more (Nat.zero_le _) (by omega))).mono ?_
  rintro e w10 ⟨rfl, b10⟩
  have s10 := b10.size
  replace oa := oa.keep (SameIn.of_below b10 (by omega))
  replace ob := ob.keep (SameIn.of_below b10 (by omega))
  replace oxa := oxa.keep (SameIn.of_below b10 (by omega))
  replace oxb := oxb.keep (SameIn.of_below b10 (by omega))
  replace ota := ota.keep (SameIn.of_below b10 (by omega))
  replace B := B.trans (b10.mono (by omega))
  clear b10
  clear ota
  go_wp2_with fail
  refine (toCellS_c _ (ob.more (Nat.zero_le _) (by omega)) (by omega)).mono ?_
  rintro e w11 ⟨utb, rfl, otb, b11⟩
  have s11 := b11.size
  replace oa := oa.keep (SameIn.of_below b11 (by omega))
  replace ob := ob.keep (SameIn.of_below b11 (by omega))
  replace oxa := oxa.keep (SameIn.of_below b11 (by omega))
  replace oxb := oxb.keep (SameIn.of_below b11 (by omega))
  replace B := B.trans (b11.mono (by omega))
  clear b11
  go_wp2_with fail
  refine (eqCellS_c _ (oxb.rd.more (Nat.zero_le _) (by omega)) (otb.rd.more (Nat.zero_le _) (by omega))).mono ?_
  rintro e w12 ⟨rfl, b12⟩
  have s12 := b12.size
  replace oa := oa.keep (SameIn.of_below b12 (by omega))
  replace ob := ob.keep (SameIn.of_below b12 (by omega))
  replace oxa := oxa.keep (SameIn.of_below b12 (by omega))
  replace oxb := oxb.keep (SameIn.of_below b12 (by omega))
  replace otb := otb.keep (SameIn.of_below b12 (by omega))
  replace B := B.trans (b12.mono (by omega))
  clear b12
  clear otb
  go_wp2
  go_ret
  exact ⟨rfl, B⟩

end Go.Proofs.YtelneohlpljblaaGreatDoor
