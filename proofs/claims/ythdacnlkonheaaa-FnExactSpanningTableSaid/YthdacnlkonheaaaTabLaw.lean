
/-
  The law FnExactSpanningTable, walked by contracts.
-/
import Derived.Test.YthdacnlkonheaaaSpanTabA
import Derived.Test.YthdacnlkonheaaaLawInts
namespace Go.Proofs.Ythdacnlkonheaaa
open Go.RowKit

set_option maxRecDepth 100000 in
set_option maxHeartbeats 8000000 in
theorem law_SpanningTable (a : Int) (b : Int) (w : World) (_ha : I64 a) (_hb : I64 b) :
    Calls Try.prog 5 #[.int .i64 a, .int .i64 b] w fun e w' => e = .returned (.bool true) ∧ Below w.heap.size w w' := by
  have B : Below w.heap.size w w := Below.refl _ _
  have s0 : w.heap.size + 0 ≤ w.heap.size := Nat.le_refl _
  go_enter Try.func5, Try.ntmps5
  go_wp2_with fail
  refine (spec_tab_c _ a b).mono ?_
  rintro e w1 ⟨rw0, rfl, orw0, b1⟩
  have s1 := b1.size
  replace B := B.trans (b1.mono (by omega))
  clear b1
  go_wp2_with fail
  refine (impl_tab_c _ a b).mono ?_
  rintro e w2 ⟨rg0, rfl, org0, b2⟩
  have s2 := b2.size
  replace orw0 := orw0.keep (SameIn.of_below b2 (by omega))
  replace B := B.trans (b2.mono (by omega))
  clear b2
  go_wp2_with fail
  refine (eqIntS_c _ (org0.rd.more (Nat.zero_le _) (by omega)) (orw0.rd.more (Nat.zero_le _) (by omega))).mono ?_
  rintro e w3 ⟨rfl, b3⟩
  have s3 := b3.size
  replace orw0 := orw0.keep (SameIn.of_below b3 (by omega))
  replace org0 := org0.keep (SameIn.of_below b3 (by omega))
  replace B := B.trans (b3.mono (by omega))
  clear b3
  have hl0 : (tabOf a b).length ≤ 1048576 := tabOf_len
  go_wp2_with fail
  refine (markIntS_c _ _ hl0 (by omega) (by omega) org0).mono ?_
  rintro e w4 ⟨rfl, org0', b4⟩
  have s4 := b4.size
  replace orw0 := orw0.keep (SameIn.of_out b4 (by omega) (by omega))
  clear org0
  have org0 := org0'
  clear org0'
  replace B := B.trans (b4.below (by omega) (by omega))
  clear b4
  go_wp2_with fail
  refine (heldIntS_c _ _ hl0 (by omega) (by omega) org0.rd).mono ?_
  rintro e w5 ⟨rfl, rfl⟩
  go_wp2_with fail
  refine (impl_tab_c _ a b).mono ?_
  rintro e w6 ⟨rh0, rfl, orh0, b6⟩
  have s6 := b6.size
  replace orw0 := orw0.keep (SameIn.of_below b6 (by omega))
  replace org0 := org0.keep (SameIn.of_below b6 (by omega))
  replace B := B.trans (b6.mono (by omega))
  clear b6
  go_wp2_with fail
  refine (eqIntS_c _ (orh0.rd.more (Nat.zero_le _) (by omega)) (orw0.rd.more (Nat.zero_le _) (by omega))).mono ?_
  rintro e w7 ⟨rfl, b7⟩
  have s7 := b7.size
  replace orw0 := orw0.keep (SameIn.of_below b7 (by omega))
  replace org0 := org0.keep (SameIn.of_below b7 (by omega))
  replace orh0 := orh0.keep (SameIn.of_below b7 (by omega))
  replace B := B.trans (b7.mono (by omega))
  clear b7
  go_wp2_with fail
  refine (heldIntS_c _ _ hl0 (by omega) (by omega) org0.rd).mono ?_
  rintro e w8 ⟨rfl, rfl⟩
  go_wp2
  go_ret
  exact ⟨rfl, B⟩

end Go.Proofs.Ythdacnlkonheaaa
