/-
  The law FnExactUndoEdits, walked by contracts.
-/
import Derived.Test.YtlncpkdkdhnfeaaUndoW
namespace Go.Proofs.Ytlncpkdkdhnfeaa
open Go.RowKit

set_option maxRecDepth 100000 in
set_option maxHeartbeats 4000000 in
theorem law_UndoEdits (vl : Value) (l : List Ed) (w : World) (hl : EdsRd w 0 w.heap.size vl l) :
    Calls Try.prog 4 #[vl] w fun e w' => e = .returned (.bool true) ∧ Below w.heap.size w w' := by
  have B : Below w.heap.size w w := Below.refl _ _
  have ol := hl
  by_cases q0 : 1048576 < (l.length : Int)
  · skip
    go_enter Try.func4, Try.ntmps4
    go_wp2_with fail
    refine (szEditS_c _ _ (ol.more (Nat.zero_le _) (by omega)) (by omega) (by omega)).mono ?_
    rintro e w1 ⟨rfl, rfl⟩
    rw [if_pos (by omega)]
    go_wp2
    go_ret
    exact ⟨rfl, B⟩
  go_enter Try.func4, Try.ntmps4
  go_wp2_with fail
  refine (szEditS_c _ _ (ol.more (Nat.zero_le _) (by omega)) (by omega) (by omega)).mono ?_
  rintro e w1 ⟨rfl, rfl⟩
  rw [if_neg (by omega)]
  go_wp2_with fail
  refine (toEditS_c _ (ol.more (Nat.zero_le _) (by omega)) (by omega)).mono ?_
  rintro e w2 ⟨usl, rfl, osl, b2⟩
  have s2 := b2.size
  replace ol := ol.keep (SameIn.of_below b2 (by omega))
  replace B := B.trans (b2.mono (by omega))
  clear b2
  go_wp2_with fail
  refine (spec_undo_c _ (osl.rd.more (Nat.zero_le _) (by omega)) (by omega)).mono ?_
  rintro e w3 ⟨rw0, rfl, orw0, b3⟩
  have s3 := b3.size
  replace ol := ol.keep (SameIn.of_below b3 (by omega))
  replace osl := osl.keep (SameIn.of_below b3 (by omega))
  replace B := B.trans (b3.mono (by omega))
  clear b3
  go_wp2_with fail
  refine (toEditS_c _ (ol.more (Nat.zero_le _) (by omega)) (by omega)).mono ?_
  rintro e w4 ⟨uxl, rfl, oxl, b4⟩
  have s4 := b4.size
  replace ol := ol.keep (SameIn.of_below b4 (by omega))
  replace osl := osl.keep (SameIn.of_below b4 (by omega))
  replace orw0 := orw0.keep (SameIn.of_below b4 (by omega))
  replace B := B.trans (b4.mono (by omega))
  clear b4
  go_wp2_with fail
  refine (impl_undo_c _ (oxl.rd.more (Nat.zero_le _) (by omega)) (by omega)).mono ?_
  rintro e w5 ⟨rg0, rfl, org0, b5⟩
  have s5 := b5.size
  replace ol := ol.keep (SameIn.of_below b5 (by omega))
  replace osl := osl.keep (SameIn.of_below b5 (by omega))
  replace orw0 := orw0.keep (SameIn.of_below b5 (by omega))
  replace oxl := oxl.keep (SameIn.of_below b5 (by omega))
  replace B := B.trans (b5.mono (by omega))
  clear b5
  go_wp2_with fail
  refine (eqEditS_c _ (org0.rd.more (Nat.zero_le _) (by omega)) (orw0.rd.more (Nat.zero_le _) (by omega))).mono ?_
  rintro e w6 ⟨rfl, b6⟩
  have s6 := b6.size
  replace ol := ol.keep (SameIn.of_below b6 (by omega))
  replace osl := osl.keep (SameIn.of_below b6 (by omega))
  replace orw0 := orw0.keep (SameIn.of_below b6 (by omega))
  replace oxl := oxl.keep (SameIn.of_below b6 (by omega))
  replace org0 := org0.keep (SameIn.of_below b6 (by omega))
  replace B := B.trans (b6.mono (by omega))
  clear b6
  go_wp2_with fail
  refine (toEditS_c _ (ol.more (Nat.zero_le _) (by omega)) (by omega)).mono ?_
  rintro e w7 ⟨utl, rfl, otl, b7⟩
  have s7 := b7.size
  replace ol := ol.keep (SameIn.of_below b7 (by omega))
  replace osl := osl.keep (SameIn.of_below b7 (by omega))
  replace orw0 := orw0.keep (SameIn.of_below b7 (by omega))
  replace oxl := oxl.keep (SameIn.of_below b7 (by omega))
  replace org0 := org0.keep (SameIn.of_below b7 (by omega))
  replace B := B.trans (b7.mono (by omega))
  clear b7
  go_wp2_with fail
  refine (eqEditS_c _ (oxl.rd.more (Nat.zero_le _) (by omega)) (otl.rd.more (Nat.zero_le _) (by omega))).mono ?_
  rintro e w8 ⟨rfl, b8⟩
  have s8 := b8.size
  replace ol := ol.keep (SameIn.of_below b8 (by omega))
  replace osl := osl.keep (SameIn.of_below b8 (by omega))
  replace orw0 := orw0.keep (SameIn.of_below b8 (by omega))
  replace oxl := oxl.keep (SameIn.of_below b8 (by omega))
  replace org0 := org0.keep (SameIn.of_below b8 (by omega))
  replace otl := otl.keep (SameIn.of_below b8 (by omega))
  replace B := B.trans (b8.mono (by omega))
  clear b8
  clear otl
  go_wp2_with fail
  refine (markEditS_c _ _ (by omega) (by omega) (by omega) oxl).mono ?_
  rintro e w9 ⟨rfl, oxl', b9⟩
  have s9 := b9.size
  replace ol := ol.keep (SameIn.of_out b9 (by omega) (by omega))
  replace osl := osl.keep (SameIn.of_out b9 (by omega) (by omega))
  replace orw0 := orw0.keep (SameIn.of_out b9 (by omega) (by omega))
  replace org0 := org0.keep (SameIn.of_out b9 (by omega) (by omega))
  clear oxl
  have oxl := oxl'
  clear oxl'
  replace B := B.trans (b9.below (by omega) (by omega))
  clear b9
  go_wp2_with fail
  refine (eqEditS_c _ (org0.rd.more (Nat.zero_le _) (by omega)) (orw0.rd.more (Nat.zero_le _) (by omega))).mono ?_
  rintro e w10 ⟨rfl, b10⟩
  have s10 := b10.size
  replace ol := ol.keep (SameIn.of_below b10 (by omega))
  replace osl := osl.keep (SameIn.of_below b10 (by omega))
  replace orw0 := orw0.keep (SameIn.of_below b10 (by omega))
  replace oxl := oxl.keep (SameIn.of_below b10 (by omega))
  replace org0 := org0.keep (SameIn.of_below b10 (by omega))
  replace B := B.trans (b10.mono (by omega))
  clear b10
  have hl0 : (undo l).length ≤ 1048576 := (by rw [undo_length]; omega)
  go_wp2_with fail
  refine (markEditS_c _ _ hl0 (by omega) (by omega) org0).mono ?_
  rintro e w11 ⟨rfl, org0', b11⟩
  have s11 := b11.size
  replace ol := ol.keep (SameIn.of_out b11 (by omega) (by omega))
  replace osl := osl.keep (SameIn.of_out b11 (by omega) (by omega))
  replace orw0 := orw0.keep (SameIn.of_out b11 (by omega) (by omega))
  replace oxl := oxl.keep (SameIn.of_out b11 (by omega) (by omega))
  clear org0
  have org0 := org0'
  clear org0'
  replace B := B.trans (b11.below (by omega) (by omega))
  clear b11
  go_wp2_with fail
  refine (heldEditS_c _ _ hl0 (by omega) (by omega) org0.rd).mono ?_
  rintro e w12 ⟨rfl, rfl⟩
  go_wp2_with fail
  refine (toEditS_c _ (ol.more (Nat.zero_le _) (by omega)) (by omega)).mono ?_
  rintro e w13 ⟨uyl, rfl, oyl, b13⟩
  have s13 := b13.size
  replace ol := ol.keep (SameIn.of_below b13 (by omega))
  replace osl := osl.keep (SameIn.of_below b13 (by omega))
  replace orw0 := orw0.keep (SameIn.of_below b13 (by omega))
  replace oxl := oxl.keep (SameIn.of_below b13 (by omega))
  replace org0 := org0.keep (SameIn.of_below b13 (by omega))
  replace B := B.trans (b13.mono (by omega))
  clear b13
  go_wp2_with fail
  refine (impl_undo_c _ (oyl.rd.more (Nat.zero_le _) (by omega)) (by omega)).mono ?_
  rintro e w14 ⟨rh0, rfl, orh0, b14⟩
  have s14 := b14.size
  replace ol := ol.keep (SameIn.of_below b14 (by omega))
  replace osl := osl.keep (SameIn.of_below b14 (by omega))
  replace orw0 := orw0.keep (SameIn.of_below b14 (by omega))
  replace oxl := oxl.keep (SameIn.of_below b14 (by omega))
  replace org0 := org0.keep (SameIn.of_below b14 (by omega))
  replace oyl := oyl.keep (SameIn.of_below b14 (by omega))
  replace B := B.trans (b14.mono (by omega))
  clear b14
  go_wp2_with fail
  refine (eqEditS_c _ (orh0.rd.more (Nat.zero_le _) (by omega)) (orw0.rd.more (Nat.zero_le _) (by omega))).mono ?_
  rintro e w15 ⟨rfl, b15⟩
  have s15 := b15.size
  replace ol := ol.keep (SameIn.of_below b15 (by omega))
  replace osl := osl.keep (SameIn.of_below b15 (by omega))
  replace orw0 := orw0.keep (SameIn.of_below b15 (by omega))
  replace oxl := oxl.keep (SameIn.of_below b15 (by omega))
  replace org0 := org0.keep (SameIn.of_below b15 (by omega))
  replace oyl := oyl.keep (SameIn.of_below b15 (by omega))
  replace orh0 := orh0.keep (SameIn.of_below b15 (by omega))
  replace B := B.trans (b15.mono (by omega))
  clear b15
  go_wp2_with fail
  refine (heldEditS_c _ _ hl0 (by omega) (by omega) org0.rd).mono ?_
  rintro e w16 ⟨rfl, rfl⟩
  go_wp2
  go_ret
  exact ⟨rfl, B⟩

end Go.Proofs.Ytlncpkdkdhnfeaa
