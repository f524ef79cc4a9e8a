
/-
  The law FnExactBoundaryWord, walked by contracts.
-/
import Derived.Test.YtlfeognjnlppkaaShpV
import Derived.Test.YtlfeognjnlppkaaShpW
import Derived.Test.YtlfeognjnlppkaaLawCells
namespace Go.Proofs.Ytlfeognjnlppkaa
open Go.RowKit

set_option maxRecDepth 100000 in
set_option maxHeartbeats 8000000 in
theorem law_BoundaryWord (vs : Value) (s : List Cell) (w : World) (hs : CellsRd w 0 w.heap.size vs s) :
    Calls Try.prog 3 #[vs] w fun e w' => e = .returned (.bool true) ∧ Below w.heap.size w w' := by
  have B : Below w.heap.size w w := Below.refl _ _
  have s0 : w.heap.size + 0 ≤ w.heap.size := Nat.le_refl _
  have os := hs
  by_cases q0 : 1048576 < (s.length : Int)
  · skip
    go_enter Try.func3, Try.ntmps3
    go_wp2_with fail
    skip
    refine (szCellS_c _ _ (os.more (Nat.zero_le _) (by omega)) (by omega) (by omega)).mono ?_
    rintro e w1 ⟨rfl, rfl⟩
    rw [if_pos (by omega)]
    go_wp2
    go_ret
    exact ⟨rfl, B⟩
  go_enter Try.func3, Try.ntmps3
  go_wp2_with fail
  skip
  refine (szCellS_c _ _ (os.more (Nat.zero_le _) (by omega)) (by omega) (by omega)).mono ?_
  rintro e w1 ⟨rfl, rfl⟩
  rw [if_neg (by omega)]
  go_wp2_with fail
  refine (toCellS_c _ (os.more (Nat.zero_le _) (by omega)) (by omega)).mono ?_
  rintro e w2 ⟨uss, rfl, oss, b2⟩
  have s2 := b2.size
  replace os := os.keep (SameIn.of_below b2 (by omega))
  replace B := B.trans (b2.mono (by omega))
  clear b2
  go_wp2_with fail
  refine (spec_bord_c _ (oss.rd.more (Nat.zero_le _) (by omega)) (by omega)).mono ?_
  rintro e w3 ⟨rfl, b3⟩
  have s3 := b3.size
  replace os := os.keep (SameIn.of_below b3 (by omega))
  replace oss := oss.keep (SameIn.of_below b3 (by omega))
  replace B := B.trans (b3.mono (by omega))
  clear b3
  clear oss
  go_wp2_with fail
  refine (toCellS_c _ (os.more (Nat.zero_le _) (by omega)) (by omega)).mono ?_
  rintro e w4 ⟨uxs, rfl, oxs, b4⟩
  have s4 := b4.size
  replace os := os.keep (SameIn.of_below b4 (by omega))
  replace B := B.trans (b4.mono (by omega))
  clear b4
  go_wp2_with fail
  refine (impl_bord_c _ (oxs.rd.more (Nat.zero_le _) (by omega)) (by omega)).mono ?_
  rintro e w5 ⟨rfl, b5⟩
  have s5 := b5.size
  replace os := os.keep (SameIn.of_below b5 (by omega))
  replace oxs := oxs.keep (SameIn.of_below b5 (by omega))
  replace B := B.trans (b5.mono (by omega))
  clear b5
  go_wp2_with fail
  refine (toCellS_c _ (os.more (Nat.zero_le _) (by omega)) (by omega)).mono ?_
  rintro e w6 ⟨uts, rfl, ots, b6⟩
  have s6 := b6.size
  replace os := os.keep (SameIn.of_below b6 (by omega))
  replace oxs := oxs.keep (SameIn.of_below b6 (by omega))
  replace B := B.trans (b6.mono (by omega))
  clear b6
  go_wp2_with fail
  refine (eqCellS_c _ (oxs.rd.more (Nat.zero_le _) (by omega)) (ots.rd.more (Nat.zero_le _) (by omega))).mono ?_
  rintro e w7 ⟨rfl, b7⟩
  have s7 := b7.size
  replace os := os.keep (SameIn.of_below b7 (by omega))
  replace oxs := oxs.keep (SameIn.of_below b7 (by omega))
  replace ots := ots.keep (SameIn.of_below b7 (by omega))
  replace B := B.trans (b7.mono (by omega))
  clear b7
  clear ots
  go_wp2
  go_ret
  exact ⟨rfl, B⟩

end Go.Proofs.Ytlfeognjnlppkaa
