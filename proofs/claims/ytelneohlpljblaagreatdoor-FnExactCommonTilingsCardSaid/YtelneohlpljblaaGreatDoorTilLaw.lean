
/-
  The law FnExactCommonTilings, walked by contracts, under the library's table.
-/
import Derived.Test.YtelneohlpljblaaGreatDoorTilC
import Derived.Test.YtelneohlpljblaaGreatDoorLawCells
import Derived.Test.YtelneohlpljblaaGreatDoorLawInts
import Derived.Test.YtelneohlpljblaaGreatDoorTabOf
namespace Go.Proofs.YtelneohlpljblaaGreatDoor
open Go.RowKit

theorem find_len {r : Reg} {ps : List (List Cell)} : (findL r ps).length ≤ 36 := by
  unfold findL
  split
  · rename_i h
    have hv := Reg.valid_iff.1 (Bool.and_eq_true_iff.1 h).1
    unfold ordR
    cases ht : (til (allN r ps) r.mask)[0]? with
    | none => simp
    | some t => exact til_len36 (by have := Reg.mask_lt hv; omega) (List.mem_of_getElem? ht)
  · simp
theorem tilX_len (a b s : List Cell) : (tilX a b s).length ≤ 1048576 := by
  unfold tilX
  split
  · simp
  · rw [nl, List.length_map]
    have := find_len (r := rectR ‹Nat × Nat›.1 ‹Nat × Nat›.2) (ps := [s])
    omega
set_option maxRecDepth 100000 in
set_option maxHeartbeats 8000000 in
theorem law_CommonTilings (va : Value) (a : List Cell) (vb : Value) (b : List Cell) (w : World) (ha : CellsRd w 0 w.heap.size va a) (hb : CellsRd w 0 w.heap.size vb b) (htab : Tab64 w) :
    Calls Tryz.prog 7 #[va, vb] w fun e w' => e = .returned (.bool true) ∧ Below w.heap.size w w' := by
  have B : Below w.heap.size w w := Below.refl _ _
  have s0 : w.heap.size + 0 ≤ w.heap.size := Nat.le_refl _
  have oa := ha
  have ob := hb
  by_cases q0 : 1048576 < (a.length : Int)
  · skip
    go_enter Tryz.func7, Tryz.ntmps7
    go_wp2_with fail
    skip
    refine (szCellS_c _ _ (oa.more (Nat.zero_le _) (by omega)) (by omega) (by omega)).mono ?_
    rintro e w1 ⟨rfl, rfl⟩
    rw [if_pos (by omega)]
    go_wp2
    go_ret
    exact ⟨rfl, B⟩
  by_cases q1 : 1048576 < (a.length : Int) + (b.length : Int)
  · skip
    go_enter Tryz.func7, Tryz.ntmps7
    go_wp2_with fail
    skip
    refine (szCellS_c _ _ (oa.more (Nat.zero_le _) (by omega)) (by omega) (by omega)).mono ?_
    rintro e w1 ⟨rfl, rfl⟩
    rw [if_neg (by omega)]
    go_wp2_with fail
    refine (szCellS_c _ _ (ob.more (Nat.zero_le _) (by omega)) (by omega) (by omega)).mono ?_
    rintro e w2 ⟨rfl, rfl⟩
    rw [if_pos (by omega)]
    go_wp2
    go_ret
    exact ⟨rfl, B⟩
  go_enter Tryz.func7, Tryz.ntmps7
  go_wp2_with fail
  skip
  refine (szCellS_c _ _ (oa.more (Nat.zero_le _) (by omega)) (by omega) (by omega)).mono ?_
  rintro e w1 ⟨rfl, rfl⟩
  rw [if_neg (by omega)]
  go_wp2_with fail
  refine (szCellS_c _ _ (ob.more (Nat.zero_le _) (by omega)) (by omega) (by omega)).mono ?_
  rintro e w2 ⟨rfl, rfl⟩
  rw [if_neg (by omega)]
  go_wp2_with fail
  refine (toCellS_c _ (oa.more (Nat.zero_le _) (by omega)) (by omega)).mono ?_
  rintro e w3 ⟨usa, rfl, osa, b3⟩
  have s3 := b3.size
  replace oa := oa.keep (SameIn.of_below b3 (by omega))
  replace ob := ob.keep (SameIn.of_below b3 (by omega))
  replace B := B.trans (b3.mono (by omega))
  clear b3
  go_wp2_with fail
  refine (toCellS_c _ (ob.more (Nat.zero_le _) (by omega)) (by omega)).mono ?_
  rintro e w4 ⟨usb, rfl, osb, b4⟩
  have s4 := b4.size
  replace oa := oa.keep (SameIn.of_below b4 (by omega))
  replace ob := ob.keep (SameIn.of_below b4 (by omega))
  replace osa := osa.keep (SameIn.of_below b4 (by omega))
  replace B := B.trans (b4.mono (by omega))
  clear b4
  go_wp2_with fail
  refine (spec_comTil_c _ (osa.rd.more (Nat.zero_le _) (by omega)) (osb.rd.more (Nat.zero_le _) (by omega)) (by omega) (by omega)).mono ?_
  rintro e w5 ⟨rw0, rw1, mrw0, rfl, orw0, orw1, hmrw0, b5⟩
  have s5 := b5.size
  replace oa := oa.keep (SameIn.of_below b5 (by omega))
  replace ob := ob.keep (SameIn.of_below b5 (by omega))
  replace osa := osa.keep (SameIn.of_below b5 (by omega))
  replace osb := osb.keep (SameIn.of_below b5 (by omega))
  replace B := B.trans (b5.mono (by omega))
  clear b5
  clear osa
  clear osb
  go_wp2_with fail
  refine (toCellS_c _ (oa.more (Nat.zero_le _) (by omega)) (by omega)).mono ?_
  rintro e w6 ⟨uxa, rfl, oxa, b6⟩
  have s6 := b6.size
  replace oa := oa.keep (SameIn.of_below b6 (by omega))
  replace ob := ob.keep (SameIn.of_below b6 (by omega))
  replace orw0 := orw0.keep (SameIn.of_below b6 (by omega))
  replace orw1 := orw1.keep (SameIn.of_below b6 (by omega))
  replace B := B.trans (b6.mono (by omega))
  clear b6
  go_wp2_with fail
  refine (toCellS_c _ (ob.more (Nat.zero_le _) (by omega)) (by omega)).mono ?_
  rintro e w7 ⟨uxb, rfl, oxb, b7⟩
  have s7 := b7.size
  replace oa := oa.keep (SameIn.of_below b7 (by omega))
  replace ob := ob.keep (SameIn.of_below b7 (by omega))
  replace orw0 := orw0.keep (SameIn.of_below b7 (by omega))
  replace orw1 := orw1.keep (SameIn.of_below b7 (by omega))
  replace oxa := oxa.keep (SameIn.of_below b7 (by omega))
  replace B := B.trans (b7.mono (by omega))
  clear b7
  go_wp2_with fail
  refine (impl_comTil_c _ (oxa.rd.more (Nat.zero_le _) (by omega)) (oxb.rd.more (Nat.zero_le _) (by omega)) (by omega) (by omega) (tab64_on htab B)).mono ?_
  rintro e w8 ⟨rg0, rg1, mrg0, rfl, org0, org1, hmrg0, b8⟩
  have s8 := b8.size
  replace oa := oa.keep (SameIn.of_below b8 (by omega))
  replace ob := ob.keep (SameIn.of_below b8 (by omega))
  replace orw0 := orw0.keep (SameIn.of_below b8 (by omega))
  replace orw1 := orw1.keep (SameIn.of_below b8 (by omega))
  replace oxa := oxa.keep (SameIn.of_below b8 (by omega))
  replace oxb := oxb.keep (SameIn.of_below b8 (by omega))
  replace B := B.trans (b8.mono (by omega))
  clear b8
  go_wp2_with fail
  refine (eqIntS_c _ (org0.rd.more (Nat.zero_le _) (by omega)) (orw0.rd.more (Nat.zero_le _) (by omega))).mono ?_
  rintro e w9 ⟨rfl, b9⟩
  have s9 := b9.size
  replace oa := oa.keep (SameIn.of_below b9 (by omega))
  replace ob := ob.keep (SameIn.of_below b9 (by omega))
  replace orw0 := orw0.keep (SameIn.of_below b9 (by omega))
  replace orw1 := orw1.keep (SameIn.of_below b9 (by omega))
  replace oxa := oxa.keep (SameIn.of_below b9 (by omega))
  replace oxb := oxb.keep (SameIn.of_below b9 (by omega))
  replace org0 := org0.keep (SameIn.of_below b9 (by omega))
  replace org1 := org1.keep (SameIn.of_below b9 (by omega))
  replace B := B.trans (b9.mono (by omega))
  clear b9
  go_wp2_with fail
  refine (eqIntS_c _ (org1.rd.more (Nat.zero_le _) (by omega)) (orw1.rd.more (Nat.zero_le _) (by omega))).mono ?_
  rintro e w10 ⟨rfl, b10⟩
  have s10 := b10.size
  replace oa := oa.keep (SameIn.of_below b10 (by omega))
  replace ob := ob.keep (SameIn.of_below b10 (by omega))
  replace orw0 := orw0.keep (SameIn.of_below b10 (by omega))
  replace orw1 := orw1.keep (SameIn.of_below b10 (by omega))
  replace oxa := oxa.keep (SameIn.of_below b10 (by omega))
  replace oxb := oxb.keep (SameIn.of_below b10 (by omega))
  replace org0 := org0.keep (SameIn.of_below b10 (by omega))
  replace org1 := org1.keep (SameIn.of_below b10 (by omega))
  replace B := B.trans (b10.mono (by omega))
  clear b10
  go_wp2_with fail
  refine (toCellS_c _ (oa.more (Nat.zero_le _) (by omega)) (by omega)).mono ?_
  rintro e w11 ⟨uta, rfl, ota, b11⟩
  have s11 := b11.size
  replace oa := oa.keep (SameIn.of_below b11 (by omega))
  replace ob := ob.keep (SameIn.of_below b11 (by omega))
  replace orw0 := orw0.keep (SameIn.of_below b11 (by omega))
  replace orw1 := orw1.keep (SameIn.of_below b11 (by omega))
  replace oxa := oxa.keep (SameIn.of_below b11 (by omega))
  replace oxb := oxb.keep (SameIn.of_below b11 (by omega))
  replace org0 := org0.keep (SameIn.of_below b11 (by omega))
  replace org1 := org1.keep (SameIn.of_below b11 (by omega))
  replace B := B.trans (b11.mono (by omega))
  clear b11
  go_wp2_with fail
  refine (eqCellS_c _ (oxa.rd.more (Nat.zero_le _) (by omega)) (ota.rd.more (Nat.zero_le _) (by omega))).mono ?_
  rintro e w12 ⟨rfl, b12⟩
  have s12 := b12.size
  replace oa := oa.keep (SameIn.of_below b12 (by omega))
  replace ob := ob.keep (SameIn.of_below b12 (by omega))
  replace orw0 := orw0.keep (SameIn.of_below b12 (by omega))
  replace orw1 := orw1.keep (SameIn.of_below b12 (by omega))
  replace oxa := oxa.keep (SameIn.of_below b12 (by omega))
  replace oxb := oxb.keep (SameIn.of_below b12 (by omega))
  replace org0 := org0.keep (SameIn.of_below b12 (by omega))
  replace org1 := org1.keep (SameIn.of_below b12 (by omega))
  replace ota := ota.keep (SameIn.of_below b12 (by omega))
  replace B := B.trans (b12.mono (by omega))
  clear b12
  clear ota
  go_wp2_with fail
  refine (toCellS_c _ (ob.more (Nat.zero_le _) (by omega)) (by omega)).mono ?_
  rintro e w13 ⟨utb, rfl, otb, b13⟩
  have s13 := b13.size
  replace oa := oa.keep (SameIn.of_below b13 (by omega))
  replace ob := ob.keep (SameIn.of_below b13 (by omega))
  replace orw0 := orw0.keep (SameIn.of_below b13 (by omega))
  replace orw1 := orw1.keep (SameIn.of_below b13 (by omega))
  replace oxa := oxa.keep (SameIn.of_below b13 (by omega))
  replace oxb := oxb.keep (SameIn.of_below b13 (by omega))
  replace org0 := org0.keep (SameIn.of_below b13 (by omega))
  replace org1 := org1.keep (SameIn.of_below b13 (by omega))
  replace B := B.trans (b13.mono (by omega))
  clear b13
  go_wp2_with fail
  refine (eqCellS_c _ (oxb.rd.more (Nat.zero_le _) (by omega)) (otb.rd.more (Nat.zero_le _) (by omega))).mono ?_
  rintro e w14 ⟨rfl, b14⟩
  have s14 := b14.size
  replace oa := oa.keep (SameIn.of_below b14 (by omega))
  replace ob := ob.keep (SameIn.of_below b14 (by omega))
  replace orw0 := orw0.keep (SameIn.of_below b14 (by omega))
  replace orw1 := orw1.keep (SameIn.of_below b14 (by omega))
  replace oxa := oxa.keep (SameIn.of_below b14 (by omega))
  replace oxb := oxb.keep (SameIn.of_below b14 (by omega))
  replace org0 := org0.keep (SameIn.of_below b14 (by omega))
  replace org1 := org1.keep (SameIn.of_below b14 (by omega))
  replace otb := otb.keep (SameIn.of_below b14 (by omega))
  replace B := B.trans (b14.mono (by omega))
  clear b14
  clear otb
  go_wp2_with fail
  refine (markCellS_c _ _ (by omega) (by omega) (by omega) oxa).mono ?_
  rintro e w15 ⟨rfl, oxa', b15⟩
  have s15 := b15.size
  replace oa := oa.keep (SameIn.of_out b15 (by omega) (by omega))
  replace ob := ob.keep (SameIn.of_out b15 (by omega) (by omega))
  replace orw0 := orw0.keep (SameIn.of_out b15 (by omega) (by omega))
  replace orw1 := orw1.keep (SameIn.of_out b15 (by omega) (by omega))
  replace oxb := oxb.keep (SameIn.of_out b15 (by omega) (by omega))
  replace org0 := org0.keep (SameIn.of_out b15 (by omega) (by omega))
  replace org1 := org1.keep (SameIn.of_out b15 (by omega) (by omega))
  clear oxa
  have oxa := oxa'
  clear oxa'
  replace B := B.trans (b15.below (by omega) (by omega))
  clear b15
  go_wp2_with fail
  refine (markCellS_c _ _ (by omega) (by omega) (by omega) oxb).mono ?_
  rintro e w16 ⟨rfl, oxb', b16⟩
  have s16 := b16.size
  replace oa := oa.keep (SameIn.of_out b16 (by omega) (by omega))
  replace ob := ob.keep (SameIn.of_out b16 (by omega) (by omega))
  replace orw0 := orw0.keep (SameIn.of_out b16 (by omega) (by omega))
  replace orw1 := orw1.keep (SameIn.of_out b16 (by omega) (by omega))
  replace oxa := oxa.keep (SameIn.of_out b16 (by omega) (by omega))
  replace org0 := org0.keep (SameIn.of_out b16 (by omega) (by omega))
  replace org1 := org1.keep (SameIn.of_out b16 (by omega) (by omega))
  clear oxb
  have oxb := oxb'
  clear oxb'
  replace B := B.trans (b16.below (by omega) (by omega))
  clear b16
  go_wp2_with fail
  refine (eqIntS_c _ (org0.rd.more (Nat.zero_le _) (by omega)) (orw0.rd.more (Nat.zero_le _) (by omega))).mono ?_
  rintro e w17 ⟨rfl, b17⟩
  have s17 := b17.size
  replace oa := oa.keep (SameIn.of_below b17 (by omega))
  replace ob := ob.keep (SameIn.of_below b17 (by omega))
  replace orw0 := orw0.keep (SameIn.of_below b17 (by omega))
  replace orw1 := orw1.keep (SameIn.of_below b17 (by omega))
  replace oxa := oxa.keep (SameIn.of_below b17 (by omega))
  replace oxb := oxb.keep (SameIn.of_below b17 (by omega))
  replace org0 := org0.keep (SameIn.of_below b17 (by omega))
  replace org1 := org1.keep (SameIn.of_below b17 (by omega))
  replace B := B.trans (b17.mono (by omega))
  clear b17
  go_wp2_with fail
  refine (eqIntS_c _ (org1.rd.more (Nat.zero_le _) (by omega)) (orw1.rd.more (Nat.zero_le _) (by omega))).mono ?_
  rintro e w18 ⟨rfl, b18⟩
  have s18 := b18.size
  replace oa := oa.keep (SameIn.of_below b18 (by omega))
  replace ob := ob.keep (SameIn.of_below b18 (by omega))
  replace orw0 := orw0.keep (SameIn.of_below b18 (by omega))
  replace orw1 := orw1.keep (SameIn.of_below b18 (by omega))
  replace oxa := oxa.keep (SameIn.of_below b18 (by omega))
  replace oxb := oxb.keep (SameIn.of_below b18 (by omega))
  replace org0 := org0.keep (SameIn.of_below b18 (by omega))
  replace org1 := org1.keep (SameIn.of_below b18 (by omega))
  replace B := B.trans (b18.mono (by omega))
  clear b18
  have hl0 : (tilX a b a).length ≤ 1048576 := (tilX_len a b a)
  have hl1 : (tilX a b b).length ≤ 1048576 := (tilX_len a b b)
  go_wp2_with fail
  refine (markIntS_c _ _ hl0 (by omega) (by omega) org0).mono ?_
  rintro e w19 ⟨rfl, org0', b19⟩
  have s19 := b19.size
  replace oa := oa.keep (SameIn.of_out b19 (by omega) (by omega))
  replace ob := ob.keep (SameIn.of_out b19 (by omega) (by omega))
  replace orw0 := orw0.keep (SameIn.of_out b19 (by omega) (by omega))
  replace orw1 := orw1.keep (SameIn.of_out b19 (by omega) (by omega))
  replace oxa := oxa.keep (SameIn.of_out b19 (by omega) (by omega))
  replace oxb := oxb.keep (SameIn.of_out b19 (by omega) (by omega))
  replace org1 := org1.keep (SameIn.of_out b19 (by omega) (by omega))
  clear org0
  have org0 := org0'
  clear org0'
  replace B := B.trans (b19.below (by omega) (by omega))
  clear b19
  go_wp2_with fail
  refine (markIntS_c _ _ hl1 (by omega) (by omega) org1).mono ?_
  rintro e w20 ⟨rfl, org1', b20⟩
  have s20 := b20.size
  replace oa := oa.keep (SameIn.of_out b20 (by omega) (by omega))
  replace ob := ob.keep (SameIn.of_out b20 (by omega) (by omega))
  replace orw0 := orw0.keep (SameIn.of_out b20 (by omega) (by omega))
  replace orw1 := orw1.keep (SameIn.of_out b20 (by omega) (by omega))
  replace oxa := oxa.keep (SameIn.of_out b20 (by omega) (by omega))
  replace oxb := oxb.keep (SameIn.of_out b20 (by omega) (by omega))
  replace org0 := org0.keep (SameIn.of_out b20 (by omega) (by omega))
  clear org1
  have org1 := org1'
  clear org1'
  replace B := B.trans (b20.below (by omega) (by omega))
  clear b20
  go_wp2_with fail
  refine (heldIntS_c _ _ hl0 (by omega) (by omega) org0.rd).mono ?_
  rintro e w21 ⟨rfl, rfl⟩
  go_wp2_with fail
  refine (heldIntS_c _ _ hl1 (by omega) (by omega) org1.rd).mono ?_
  rintro e w22 ⟨rfl, rfl⟩
  go_wp2_with fail
  refine (toCellS_c _ (oa.more (Nat.zero_le _) (by omega)) (by omega)).mono ?_
  rintro e w23 ⟨uya, rfl, oya, b23⟩
  have s23 := b23.size
  replace oa := oa.keep (SameIn.of_below b23 (by omega))
  replace ob := ob.keep (SameIn.of_below b23 (by omega))
  replace orw0 := orw0.keep (SameIn.of_below b23 (by omega))
  replace orw1 := orw1.keep (SameIn.of_below b23 (by omega))
  replace oxa := oxa.keep (SameIn.of_below b23 (by omega))
  replace oxb := oxb.keep (SameIn.of_below b23 (by omega))
  replace org0 := org0.keep (SameIn.of_below b23 (by omega))
  replace org1 := org1.keep (SameIn.of_below b23 (by omega))
  replace B := B.trans (b23.mono (by omega))
  clear b23
  go_wp2_with fail
  refine (toCellS_c _ (ob.more (Nat.zero_le _) (by omega)) (by omega)).mono ?_
  rintro e w24 ⟨uyb, rfl, oyb, b24⟩
  have s24 := b24.size
  replace oa := oa.keep (SameIn.of_below b24 (by omega))
  replace ob := ob.keep (SameIn.of_below b24 (by omega))
  replace orw0 := orw0.keep (SameIn.of_below b24 (by omega))
  replace orw1 := orw1.keep (SameIn.of_below b24 (by omega))
  replace oxa := oxa.keep (SameIn.of_below b24 (by omega))
  replace oxb := oxb.keep (SameIn.of_below b24 (by omega))
  replace org0 := org0.keep (SameIn.of_below b24 (by omega))
  replace org1 := org1.keep (SameIn.of_below b24 (by omega))
  replace oya := oya.keep (SameIn.of_below b24 (by omega))
  replace B := B.trans (b24.mono (by omega))
  clear b24
  go_wp2_with fail
  refine (impl_comTil_c _ (oya.rd.more (Nat.zero_le _) (by omega)) (oyb.rd.more (Nat.zero_le _) (by omega)) (by omega) (by omega) (tab64_on htab B)).mono ?_
  rintro e w25 ⟨rh0, rh1, mrh0, rfl, orh0, orh1, hmrh0, b25⟩
  have s25 := b25.size
  replace oa := oa.keep (SameIn.of_below b25 (by omega))
  replace ob := ob.keep (SameIn.of_below b25 (by omega))
  replace orw0 := orw0.keep (SameIn.of_below b25 (by omega))
  replace orw1 := orw1.keep (SameIn.of_below b25 (by omega))
  replace oxa := oxa.keep (SameIn.of_below b25 (by omega))
  replace oxb := oxb.keep (SameIn.of_below b25 (by omega))
  replace org0 := org0.keep (SameIn.of_below b25 (by omega))
  replace org1 := org1.keep (SameIn.of_below b25 (by omega))
  replace oya := oya.keep (SameIn.of_below b25 (by omega))
  replace oyb := oyb.keep (SameIn.of_below b25 (by omega))
  replace B := B.trans (b25.mono (by omega))
  clear b25
  clear oya
  clear oyb
  go_wp2_with fail
  refine (eqIntS_c _ (orh0.rd.more (Nat.zero_le _) (by omega)) (orw0.rd.more (Nat.zero_le _) (by omega))).mono ?_
  rintro e w26 ⟨rfl, b26⟩
  have s26 := b26.size
  replace oa := oa.keep (SameIn.of_below b26 (by omega))
  replace ob := ob.keep (SameIn.of_below b26 (by omega))
  replace orw0 := orw0.keep (SameIn.of_below b26 (by omega))
  replace orw1 := orw1.keep (SameIn.of_below b26 (by omega))
  replace oxa := oxa.keep (SameIn.of_below b26 (by omega))
  replace oxb := oxb.keep (SameIn.of_below b26 (by omega))
  replace org0 := org0.keep (SameIn.of_below b26 (by omega))
  replace org1 := org1.keep (SameIn.of_below b26 (by omega))
  replace orh0 := orh0.keep (SameIn.of_below b26 (by omega))
  replace orh1 := orh1.keep (SameIn.of_below b26 (by omega))
  replace B := B.trans (b26.mono (by omega))
  clear b26
  go_wp2_with fail
  refine (eqIntS_c _ (orh1.rd.more (Nat.zero_le _) (by omega)) (orw1.rd.more (Nat.zero_le _) (by omega))).mono ?_
  rintro e w27 ⟨rfl, b27⟩
  have s27 := b27.size
  replace oa := oa.keep (SameIn.of_below b27 (by omega))
  replace ob := ob.keep (SameIn.of_below b27 (by omega))
  replace orw0 := orw0.keep (SameIn.of_below b27 (by omega))
  replace orw1 := orw1.keep (SameIn.of_below b27 (by omega))
  replace oxa := oxa.keep (SameIn.of_below b27 (by omega))
  replace oxb := oxb.keep (SameIn.of_below b27 (by omega))
  replace org0 := org0.keep (SameIn.of_below b27 (by omega))
  replace org1 := org1.keep (SameIn.of_below b27 (by omega))
  replace orh0 := orh0.keep (SameIn.of_below b27 (by omega))
  replace orh1 := orh1.keep (SameIn.of_below b27 (by omega))
  replace B := B.trans (b27.mono (by omega))
  clear b27
  go_wp2_with fail
  refine (heldIntS_c _ _ hl0 (by omega) (by omega) org0.rd).mono ?_
  rintro e w28 ⟨rfl, rfl⟩
  go_wp2_with fail
  refine (heldIntS_c _ _ hl1 (by omega) (by omega) org1.rd).mono ?_
  rintro e w29 ⟨rfl, rfl⟩
  go_wp2
  go_ret
  exact ⟨rfl, B⟩

end Go.Proofs.YtelneohlpljblaaGreatDoor
