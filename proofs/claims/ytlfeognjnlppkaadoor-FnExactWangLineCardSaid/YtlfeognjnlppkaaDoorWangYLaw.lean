
/-
  The law FnExactWangLine, walked by contracts.
-/
import Derived.Test.YtlfeognjnlppkaaDoorWangY
import Derived.Test.YtlfeognjnlppkaaDoorLawWangs
namespace Go.Proofs.YtlfeognjnlppkaaDoor
open Go.RowKit

set_option maxRecDepth 100000 in
set_option maxHeartbeats 8000000 in
theorem law_WangLine (vl : Value) (l : List Wg) (w : World) (hl : WangsRd w 0 w.heap.size vl l) :
    Calls Tryd.prog 4 #[vl] w fun e w' => e = .returned (.bool true) ∧ Below w.heap.size w w' := by
  have B : Below w.heap.size w w := Below.refl _ _
  have s0 : w.heap.size + 0 ≤ w.heap.size := Nat.le_refl _
  have ol := hl
  by_cases q0 : 1048576 < (l.length : Int)
  · skip
    go_enter Tryd.func4, Tryd.ntmps4
    go_wp2_with fail
    skip
    refine (szWangS_c _ _ (ol.more (Nat.zero_le _) (by omega)) (by omega) (by omega)).mono ?_
    rintro e w1 ⟨rfl, rfl⟩
    rw [if_pos (by omega)]
    go_wp2
    go_ret
    exact ⟨rfl, B⟩
  go_enter Tryd.func4, Tryd.ntmps4
  go_wp2_with fail
  skip
  refine (szWangS_c _ _ (ol.more (Nat.zero_le _) (by omega)) (by omega) (by omega)).mono ?_
  rintro e w1 ⟨rfl, rfl⟩
  rw [if_neg (by omega)]
  go_wp2_with fail
  refine (toWangS_c _ (ol.more (Nat.zero_le _) (by omega)) (by omega)).mono ?_
  rintro e w2 ⟨usl, rfl, osl, b2⟩
  have s2 := b2.size
  replace ol := ol.keep (SameIn.of_below b2 (by omega))
  replace B := B.trans (b2.mono (by omega))
  clear b2
  go_wp2_with fail
  refine (spec_line_c _ (osl.rd.more (Nat.zero_le _) (by omega))).mono ?_
  rintro e w3 ⟨rfl, b3⟩
  have s3 := b3.size
  replace ol := ol.keep (SameIn.of_below b3 (by omega))
  replace osl := osl.keep (SameIn.of_below b3 (by omega))
  replace B := B.trans (b3.mono (by omega))
  clear b3
  clear osl
  go_wp2_with fail
  refine (toWangS_c _ (ol.more (Nat.zero_le _) (by omega)) (by omega)).mono ?_
  rintro e w4 ⟨uxl, rfl, oxl, b4⟩
  have s4 := b4.size
  replace ol := ol.keep (SameIn.of_below b4 (by omega))
  replace B := B.trans (b4.mono (by omega))
  clear b4
  go_wp2_with fail
  refine (impl_line_c _ (oxl.rd.more (Nat.zero_le _) (by omega))).mono ?_
  rintro e w5 ⟨rfl, b5⟩
  have s5 := b5.size
  replace ol := ol.keep (SameIn.of_below b5 (by omega))
  replace oxl := oxl.keep (SameIn.of_below b5 (by omega))
  replace B := B.trans (b5.mono (by omega))
  clear b5
  go_wp2_with fail
  refine (toWangS_c _ (ol.more (Nat.zero_le _) (by omega)) (by omega)).mono ?_
  rintro e w6 ⟨utl, rfl, otl, b6⟩
  have s6 := b6.size
  replace ol := ol.keep (SameIn.of_below b6 (by omega))
  replace oxl := oxl.keep (SameIn.of_below b6 (by omega))
  replace B := B.trans (b6.mono (by omega))
  clear b6
  go_wp2_with fail
  refine (eqWangS_c _ (oxl.rd.more (Nat.zero_le _) (by omega)) (otl.rd.more (Nat.zero_le _) (by omega))).mono ?_
  rintro e w7 ⟨rfl, b7⟩
  have s7 := b7.size
  replace ol := ol.keep (SameIn.of_below b7 (by omega))
  replace oxl := oxl.keep (SameIn.of_below b7 (by omega))
  replace otl := otl.keep (SameIn.of_below b7 (by omega))
  replace B := B.trans (b7.mono (by omega))
  clear b7
  clear otl
  go_wp2
  go_ret
  exact ⟨rfl, B⟩

end Go.Proofs.YtlfeognjnlppkaaDoor
