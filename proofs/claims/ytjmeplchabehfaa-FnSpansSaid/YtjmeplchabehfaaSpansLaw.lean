
/-
  The law FnSpans, walked by contracts.
-/
import Derived.Test.YtjmeplchabehfaaSpansW
import Derived.Test.YtjmeplchabehfaaWayQ
import Derived.Test.YtjmeplchabehfaaPivotS
import Derived.Test.YtjmeplchabehfaaDrawParts
import Derived.Test.YtjmeplchabehfaaDual
import Derived.Test.YtjmeplchabehfaaSpanTabA
import Derived.Test.YtjmeplchabehfaaTabEnd
import Derived.Test.YtjmeplchabehfaaBfs2
namespace Go.Proofs.Ytjmeplchabehfaa
open Go.RowKit

/-- which ways there are -/
theorem three_ways (r : Reg) : (r.valid = true ∧ r.spanWay.isSome = true ∧ r.blockWay.isSome = false) ∨ (r.valid = true ∧ r.spanWay.isSome = false ∧ r.blockWay.isSome = true) ∨ (r.valid = false ∧ r.spanWay.isSome = false ∧ r.blockWay.isSome = false) := by
  cases hv : r.valid
  · refine .inr (.inr ⟨rfl, ?_, ?_⟩)
    · unfold Reg.spanWay; rw [hv]; rfl
    · unfold Reg.blockWay; rw [hv]; rfl
  · have := one_way (Reg.valid_iff.1 hv)
    cases h : r.spanWay.isSome <;> rw [h] at this
    · exact .inr (.inl ⟨rfl, rfl, by simpa using this.symm⟩)
    · exact .inl ⟨rfl, rfl, by simpa using this.symm⟩
theorem pivots_in {r : Reg} {c : Cell} (h : c ∈ r.pivots) : c ∈ r.spanWay.getD [] := by
  cases hs : r.spanWay with
  | none => unfold Reg.pivots at h; rw [hs] at h; simp at h
  | some P => exact pivot_on hs h
theorem spans_in {r : Reg} {c : Cell} (h : c ∈ r.spanWay.getD []) : r.isIn c.x c.y = true := by
  cases hs : r.spanWay with
  | none => rw [hs] at h; simp at h
  | some P =>
    rw [hs] at h
    have := span_facts hs
    unfold Reg.isIn
    rw [Reg.valid_iff.2 this.1]
    simpa [Reg.opn] using this.2.2 c h
theorem pivots_len2 {r : Reg} : r.pivots.length ≤ 1048576 := by
  unfold Reg.pivots
  split
  · rename_i h
    have := Reg.cells_le (Reg.span_valid h)
    exact Nat.le_trans (List.length_filter_le _ _) (by omega)
  · simp
/-- the table is empty, or it begins and ends right -/
theorem tabOf_ends {p q : Int} (hp : 0 ≤ p ∧ p < 5) (hq : 0 ≤ q ∧ q < 4) : tabOf p q = [] ∨ (0 < (tabOf p q).length ∧ (tabOf p q)[0]? = some 0 ∧ 0 ≤ p * q ∧ p * q ≤ 12 ∧ (tabOf p q)[(p * q).toNat]? = some 1) := by
  unfold tabOf
  split
  · rename_i h
    obtain ⟨h1, h2, h3, h4, h5⟩ := h
    have h0 : 0 ≤ p * q := Int.mul_nonneg hp.1 hq.1
    have e : (p * q).toNat = p.toNat * q.toNat := by rw [Int.toNat_mul hp.1 hq.1]
    have hb : p.toNat * q.toNat ≤ 12 := by rw [← e]; omega
    have he := spanTab_ends (a := p.toNat) (b := q.toNat) (by omega) (by omega) hb
    refine .inr ⟨?_, he.1, h0, h5, by rw [e]; exact he.2⟩
    have := (List.getElem?_eq_some_iff.1 he.1).1
    exact this
  · exact .inl rfl

set_option maxRecDepth 100000 in
set_option maxHeartbeats 6400000 in
theorem law_spans (v : Value) (l : List UInt8) (w : World) (h : BytesRd w 0 w.heap.size v l) :
    Calls Try.prog 6 #[v] w fun e w' => e = .returned (.bool true) ∧ Below w.heap.size w w' := by
  by_cases hl : l.length ≤ 1048576
  · go_enter Try.func6, Try.ntmps6
    go_wp2_with fail
    refine (big_no w h hl).mono ?_
    rintro e w' ⟨rfl, rfl⟩
    go_wp2_with fail
    refine (drawSpan_c w h hl).mono ?_
    rintro e w1 ⟨r, v1, rfl, hd, hr, b1⟩
    obtain ⟨s, rfl, hs'⟩ := hr.rd
    have hs := hs'.more (Nat.zero_le _) (Nat.le_refl _)
    clear hr hs'
    obtain ⟨A, c, rfl, _, hrr⟩ := id hs
    clear hrr
    have hn : r.rows.length ≤ 1048576 := by have := hd.2; omega
    have hlP : (r.spanWay.getD []).length ≤ 1048576 := spanWay_len
    have hlC : r.pivots.length ≤ 1048576 := pivots_len2
    have hin : ∀ c ∈ r.spanWay.getD [], r.isIn c.x c.y = true := fun c h => spans_in h
    have hpv : ∀ c ∈ r.pivots, c ∈ r.spanWay.getD [] := fun c h => pivots_in h
    obtain ⟨P, hP⟩ : ∃ P, P = r.spanWay.getD [] := ⟨_, rfl⟩
    obtain ⟨Q, hQ⟩ : ∃ Q, Q = r.blockWay.getD [] := ⟨_, rfl⟩
    obtain ⟨C, hC⟩ : ∃ C, C = r.pivots := ⟨_, rfl⟩
    rw [← hP] at hlP hin hpv
    rw [← hC] at hlC hpv
    have HP := Lib.hid hP
    have HQ := Lib.hid hQ
    have HC := Lib.hid hC
    have HIN := Lib.hid hin
    have HPV := Lib.hid hpv
    have H := (Sep.start w1).box 31 #[.int .i64 r.w, .slice A r.rows.length c]
    rcases three_ways r with ⟨hv, ha, hb⟩ | ⟨hv, ha, hb⟩ | ⟨hv, ha, hb⟩
    · have HV := Lib.hid hv
      have HA := Lib.hid ha
      have HB := Lib.hid hb
      clear hP hQ hC hin hpv hv ha hb hd
      have x0 : (w1.alloc (.cells #[.int .i64 r.w, .slice A r.rows.length c] 31)).cell? ⟨w1.heap.size, 0, none⟩ = some (.int .i64 r.w) := H.h0.cell 0
      have x1 : (w1.alloc (.cells #[.int .i64 r.w, .slice A r.rows.length c] 31)).cell? ⟨w1.heap.size, 1, none⟩ = some (.slice A r.rows.length c) := H.h0.cell 1
      go_wp2_with fail
      clear x0 x1
      generalize w1.alloc (.cells #[.int .i64 r.w, .slice A r.rows.length c] 31) = W at *
      refine (impl_isspanning_c (r := r) W ⟨_, rfl, (hs.keep (SameIn.of_below H.below (Nat.le_refl _))).more (Nat.le_refl _) H.size⟩).mono ?_
      rintro e w2 ⟨rfl, b2⟩
      rw [HA.out]
      have H2 := H.step b2
      clear b2 H
      have x0 := H2.h0.cell 0
      have x1 := H2.h0.cell 1
      simp at x0 x1
      go_wp2_with fail
      clear x0 x1
      refine (impl_isblocked_c (r := r) w2 ⟨_, rfl, (hs.keep (SameIn.of_below H2.below (Nat.le_refl _))).more (Nat.le_refl _) H2.size⟩ ).mono ?_
      rintro e w3 ⟨rfl, b3⟩
      rw [HB.out]
      have H3 := H2.step b3
      clear b3 H2
      have x0 := H3.h0.cell 0
      have x1 := H3.h0.cell 1
      simp at x0 x1
      go_wp2_with fail
      clear x0 x1
      refine (impl_spanway_c (r := r) w3 ⟨_, rfl, (hs.keep (SameIn.of_below H3.below (Nat.le_refl _))).more (Nat.le_refl _) H3.size⟩ ).mono ?_
      rintro e w4 ⟨v4, rfl, o4, b4⟩
      rw [HA.out]
      rw [← HP.out] at o4
      have H4 := H3.oiNew b4 o4
      clear b4 o4 H3
      have x0 := H4.h1.cell 0
      have x1 := H4.h1.cell 1
      simp at x0 x1
      go_wp2_with fail
      clear x0 x1
      refine (spec_spanway_c (r := r) w4 ⟨_, rfl, (hs.keep (SameIn.of_below H4.below (Nat.le_refl _))).more (Nat.le_refl _) H4.size⟩ ).mono ?_
      rintro e w5 ⟨v5, rfl, o5, b5⟩
      rw [HA.out]
      rw [← HP.out] at o5
      have H5 := H4.oiNew b5 o5
      clear b5 o5 H4
      have x0 := H5.h2.cell 0
      have x1 := H5.h2.cell 1
      simp at x0 x1
      go_wp2_with fail
      clear x0 x1
      refine (impl_blockway_c (r := r) w5 ⟨_, rfl, (hs.keep (SameIn.of_below H5.below (Nat.le_refl _))).more (Nat.le_refl _) H5.size⟩ ).mono ?_
      rintro e w6 ⟨v6, rfl, o6, b6⟩
      rw [HB.out]
      rw [← HQ.out] at o6
      have H6 := H5.oiNew b6 o6
      clear b6 o6 H5
      have x0 := H6.h3.cell 0
      have x1 := H6.h3.cell 1
      simp at x0 x1
      go_wp2_with fail
      clear x0 x1
      refine (spec_blockway_c (r := r) w6 ⟨_, rfl, (hs.keep (SameIn.of_below H6.below (Nat.le_refl _))).more (Nat.le_refl _) H6.size⟩ ).mono ?_
      rintro e w7 ⟨v7, rfl, o7, b7⟩
      rw [HB.out]
      rw [← HQ.out] at o7
      have H7 := H6.oiNew b7 o7
      clear b7 o7 H6
      have x0 := H7.h4.cell 0
      have x1 := H7.h4.cell 1
      simp at x0 x1
      go_wp2_with fail
      clear x0 x1
      refine (spec_isspanning_c (r := r) w7 ⟨_, rfl, (hs.keep (SameIn.of_below H7.below (Nat.le_refl _))).more (Nat.le_refl _) H7.size⟩ ).mono ?_
      rintro e w8 ⟨rfl, b8⟩
      rw [HA.out]
      have H8 := H7.step b8
      clear b8 H7
      have x0 := H8.h4.cell 0
      have x1 := H8.h4.cell 1
      simp at x0 x1
      go_wp2_with fail
      clear x0 x1
      refine (spec_isblocked_c (r := r) w8 ⟨_, rfl, (hs.keep (SameIn.of_below H8.below (Nat.le_refl _))).more (Nat.le_refl _) H8.size⟩ ).mono ?_
      rintro e w9 ⟨rfl, b9⟩
      rw [HB.out]
      have H9 := H8.step b9
      clear b9 H8
      have x0 := H9.h4.cell 0
      have x1 := H9.h4.cell 1
      simp at x0 x1
      go_wp2_with fail
      clear x0 x1
      refine (spec_IsRegion_c (r := r) w9 ⟨_, rfl, (hs.keep (SameIn.of_below H9.below (Nat.le_refl _))).more (Nat.le_refl _) H9.size⟩ ).mono ?_
      rintro e w10 ⟨rfl, b10⟩
      rw [HV.out]
      have H10 := H9.step b10
      clear b10 H9
      go_wp2_with fail
      refine (spec_eqShapes_same (l := P) w10 (H10.g3.oi.sr.more (Nat.zero_le _) (Nat.le_refl _)) (H10.g2.oi.sr.more (Nat.zero_le _) (Nat.le_refl _))).mono ?_
      rintro e w11 ⟨rfl, b11⟩
      have H11 := H10.step b11
      clear b11 H10
      go_wp2_with fail
      refine (spec_eqShapes_same (l := Q) w11 (H11.g1.oi.sr.more (Nat.zero_le _) (Nat.le_refl _)) (H11.oi.sr.more (Nat.zero_le _) (Nat.le_refl _))).mono ?_
      rintro e w12 ⟨rfl, b12⟩
      have H12 := H11.drop.drop.step b12
      replace H12 := H12.drop2
      clear b12 H11
      obtain ⟨A5, c5, rfl, _, _, _⟩ := Res.row_at H12.h0
      go_wp2
      go_loopw [14] (fun i wr => ∃ k : Nat, k ≤ P.length ∧ i = .int .i64 k ∧ Sep w1 wr [Res.row (.slice A5 P.length c5) 62 2 P.length (cc P), Res.box w1.heap.size 31 #[.int .i64 r.w, .slice A r.rows.length c]]) (fun i _ => P.length - (intOf i).toNat)
      case atStart => exact ⟨0, Nat.zero_le _, rfl, H12⟩
      case round =>
        clear H12
        obtain ⟨k, hk, rfl, H⟩ := hrel
        by_cases hlt : k < P.length
        · obtain ⟨bs, os, cs, he, _, _, hbs⟩ := own_shape H.h0 (by omega)
          injection he with he1 _ he3
          subst he1 he3
          obtain ⟨d, hd⟩ : ∃ d, P[k]? = some d := ⟨P[k], List.getElem?_eq_getElem hlt⟩
          obtain ⟨q0, q1⟩ := own_cell2 H.h0 hd
          have hI := HIN.out d (List.mem_of_getElem? hd)
          have x0 := H.h1.cell 0
          have x1 := H.h1.cell 1
          simp at x0 x1
          have HI := Lib.hid hI
          clear hd hI
          go_wp2_with fail
          go_still_tail 11, (by kernel_rfl)
          change wpList _ _ _ _ _ wr.drew
          have H' := H.drew
          clear H q0 q1 x0 x1
          generalize wr.drew = wd at *
          go_wp2_with fail
          refine (impl_inRegion_c (r := r) _ _ wd ⟨_, rfl, (hs.keep (SameIn.of_below H'.below (Nat.le_refl _))).more (Nat.le_refl _) H'.size⟩).mono ?_
          rintro e w13 ⟨rfl, b13⟩
          rw [HI.out]
          have H13 := H'.step b13
          clear b13 H'
          go_wp2
          go_roundw
          case rel => exact ⟨k + 1, by omega, by go_num, H13⟩
          case measure => simp [intOf]; omega
        · have x0 := H.h1.cell 0
          have x1 := H.h1.cell 1
          simp at x0 x1
          go_wp2_with fail
          clear x0 x1
          refine (impl_pivots_c (r := r) wr ⟨_, rfl, (hs.keep (SameIn.of_below H.below (Nat.le_refl _))).more (Nat.le_refl _) H.size⟩ hn).mono ?_
          rintro e w13 ⟨v13, rfl, o13, b13⟩
          rw [← HC.out] at o13
          have H13 := H.oiNew b13 o13
          clear b13 o13 H hlt
          have x0 := H13.h2.cell 0
          have x1 := H13.h2.cell 1
          simp at x0 x1
          go_wp2_with fail
          clear x0 x1
          refine (spec_pivots_c (r := r) w13 ⟨_, rfl, (hs.keep (SameIn.of_below H13.below (Nat.le_refl _))).more (Nat.le_refl _) H13.size⟩ hn).mono ?_
          rintro e w14 ⟨v14, rfl, o14, b14⟩
          rw [← HC.out] at o14
          have H14 := H13.oiNew b14 o14
          clear b14 o14 H13
          go_wp2_with fail
          refine (spec_eqShapes_same (l := C) w14 (H14.g1.oi.sr.more (Nat.zero_le _) (Nat.le_refl _)) (H14.oi.sr.more (Nat.zero_le _) (Nat.le_refl _))).mono ?_
          rintro e w15 ⟨rfl, b15⟩
          have H15 := H14.drop.step b15
          clear b15 H14
          obtain ⟨wo, hwo⟩ : ∃ wo : World, wo = w15 := ⟨_, rfl⟩
          subst hwo
          obtain ⟨A3, c3, rfl, _, _, _⟩ := Res.row_at H15.h0
          go_wp2
          go_loopw [16] (fun i wr => ∃ k : Nat, k ≤ C.length ∧ i = .int .i64 k ∧ Sep w1 wr [Res.row (.slice A3 C.length c3) 62 2 C.length (cc C), Res.row (.slice A5 P.length c5) 62 2 P.length (cc P), Res.box w1.heap.size 31 #[.int .i64 r.w, .slice A r.rows.length c]]) (fun i _ => C.length - (intOf i).toNat)
          case atStart => exact ⟨0, Nat.zero_le _, rfl, H15⟩
          case round =>
            clear H15
            obtain ⟨j, hj, rfl, H⟩ := hrel
            by_cases hlt : j < C.length
            · obtain ⟨bs, os, cs, he, _, _, hbs⟩ := own_shape H.h0 (by omega)
              injection he with he1 _ he3
              subst he1 he3
              obtain ⟨d, hd⟩ : ∃ d, C[j]? = some d := ⟨C[j], List.getElem?_eq_getElem hlt⟩
              obtain ⟨q0, q1⟩ := own_cell2 H.h0 hd
              have hI : decide ((⟨d.x, d.y⟩ : Cell) ∈ P) = true := decide_eq_true (HPV.out d (List.mem_of_getElem? hd))
              have HI := Lib.hid hI
              clear hd hI
              go_wp2_with fail
              go_still_tail 11, (by kernel_rfl)
              change wpList _ _ _ _ _ wr.drew
              have H' := H.drew
              clear H q0 q1
              generalize wr.drew = wd at *
              go_wp2_with fail
              refine (impl_hasCell_c (l := P) _ _ wd (H'.g1.oi.sr.more (Nat.zero_le _) (Nat.le_refl _)) hlP).mono ?_
              rintro e w16 ⟨rfl, b16⟩
              rw [HI.out]
              have H16 := H'.step b16
              clear b16 H'
              go_wp2
              go_roundw
              case rel => exact ⟨j + 1, by omega, by go_num, H16⟩
              case measure => simp [intOf]; omega
            · have hbw := b1.trans (H.below.mono b1.size)
              go_wp2_with fail
              refine (drawTab_c wr ((h.keep (SameIn.of_below hbw (Nat.le_refl _))).more (Nat.le_refl _) hbw.size) hl).mono ?_
              rintro e w17 ⟨p, q, rfl, hp1, hp2, hq1, hq2, b17⟩
              have hb17 := hbw.trans (b17.mono hbw.size)
              clear hbw H b17
              go_wp2_with fail
              refine (impl_tab_c w17 p q).mono ?_
              rintro e w18 ⟨v18, rfl, o18, b18⟩
              go_wp2_with fail
              refine (spec_tab_c w18 p q).mono ?_
              rintro e w19 ⟨v19, rfl, o19, b19⟩
              have he := tabOf_ends ⟨hp1, hp2⟩ ⟨hq1, hq2⟩
              generalize tabOf p q = T at *
              have K := ((Sep.start w17).oiNew b18 o18).oiNew b19 o19
              go_wp2_with fail
              refine (laws_sameInts_same (l := T) w19 (K.g1.oi.sr.more (Nat.zero_le _) (Nat.le_refl _)) (K.oi.sr.more (Nat.zero_le _) (Nat.le_refl _))).mono ?_
              rintro e w20 ⟨rfl, b20⟩
              have K2 := K.drop.step b20
              have hB := hb17.trans (K2.below.mono hb17.size)
              clear o18 o19 b18 b19 b20 K
              rcases he with rfl | ⟨hT, t0, m0, m1, t1⟩
              · obtain ⟨D, d, rfl, _, _, _⟩ := Res.row_at K2.h0
                clear K2
                go_wp2
                go_ret
                exact ⟨rfl, hB⟩
              · obtain ⟨bs, os, cs, rfl, _, _, hbs⟩ := own_shape K2.h0 hT
                have q0 := own_cell1 K2.h0 t0
                rw [Nat.add_zero] at q0
                have q1 := own_cell1 K2.h0 t1
                have q2 := (List.getElem?_eq_some_iff.1 t1).1
                have hd : decide ((T.length : Int) = 0) = false := by simp; intro h; subst h; simp at hT
                have hm : p * q < (T.length : Int) := by omega
                clear t0 t1 K2 q2
                go_wp2
                all_goals
                  go_ret
                  exact ⟨rfl, hB⟩
    · have HV := Lib.hid hv
      have HA := Lib.hid ha
      have HB := Lib.hid hb
      clear hP hQ hC hin hpv hv ha hb hd
      have x0 : (w1.alloc (.cells #[.int .i64 r.w, .slice A r.rows.length c] 31)).cell? ⟨w1.heap.size, 0, none⟩ = some (.int .i64 r.w) := H.h0.cell 0
      have x1 : (w1.alloc (.cells #[.int .i64 r.w, .slice A r.rows.length c] 31)).cell? ⟨w1.heap.size, 1, none⟩ = some (.slice A r.rows.length c) := H.h0.cell 1
      go_wp2_with fail
      clear x0 x1
      generalize w1.alloc (.cells #[.int .i64 r.w, .slice A r.rows.length c] 31) = W at *
      refine (impl_isspanning_c (r := r) W ⟨_, rfl, (hs.keep (SameIn.of_below H.below (Nat.le_refl _))).more (Nat.le_refl _) H.size⟩).mono ?_
      rintro e w2 ⟨rfl, b2⟩
      rw [HA.out]
      have H2 := H.step b2
      clear b2 H
      have x0 := H2.h0.cell 0
      have x1 := H2.h0.cell 1
      simp at x0 x1
      go_wp2_with fail
      clear x0 x1
      refine (impl_isblocked_c (r := r) w2 ⟨_, rfl, (hs.keep (SameIn.of_below H2.below (Nat.le_refl _))).more (Nat.le_refl _) H2.size⟩ ).mono ?_
      rintro e w3 ⟨rfl, b3⟩
      rw [HB.out]
      have H3 := H2.step b3
      clear b3 H2
      have x0 := H3.h0.cell 0
      have x1 := H3.h0.cell 1
      simp at x0 x1
      go_wp2_with fail
      clear x0 x1
      refine (impl_spanway_c (r := r) w3 ⟨_, rfl, (hs.keep (SameIn.of_below H3.below (Nat.le_refl _))).more (Nat.le_refl _) H3.size⟩ ).mono ?_
      rintro e w4 ⟨v4, rfl, o4, b4⟩
      rw [HA.out]
      rw [← HP.out] at o4
      have H4 := H3.oiNew b4 o4
      clear b4 o4 H3
      have x0 := H4.h1.cell 0
      have x1 := H4.h1.cell 1
      simp at x0 x1
      go_wp2_with fail
      clear x0 x1
      refine (spec_spanway_c (r := r) w4 ⟨_, rfl, (hs.keep (SameIn.of_below H4.below (Nat.le_refl _))).more (Nat.le_refl _) H4.size⟩ ).mono ?_
      rintro e w5 ⟨v5, rfl, o5, b5⟩
      rw [HA.out]
      rw [← HP.out] at o5
      have H5 := H4.oiNew b5 o5
      clear b5 o5 H4
      have x0 := H5.h2.cell 0
      have x1 := H5.h2.cell 1
      simp at x0 x1
      go_wp2_with fail
      clear x0 x1
      refine (impl_blockway_c (r := r) w5 ⟨_, rfl, (hs.keep (SameIn.of_below H5.below (Nat.le_refl _))).more (Nat.le_refl _) H5.size⟩ ).mono ?_
      rintro e w6 ⟨v6, rfl, o6, b6⟩
      rw [HB.out]
      rw [← HQ.out] at o6
      have H6 := H5.oiNew b6 o6
      clear b6 o6 H5
      have x0 := H6.h3.cell 0
      have x1 := H6.h3.cell 1
      simp at x0 x1
      go_wp2_with fail
      clear x0 x1
      refine (spec_blockway_c (r := r) w6 ⟨_, rfl, (hs.keep (SameIn.of_below H6.below (Nat.le_refl _))).more (Nat.le_refl _) H6.size⟩ ).mono ?_
      rintro e w7 ⟨v7, rfl, o7, b7⟩
      rw [HB.out]
      rw [← HQ.out] at o7
      have H7 := H6.oiNew b7 o7
      clear b7 o7 H6
      have x0 := H7.h4.cell 0
      have x1 := H7.h4.cell 1
      simp at x0 x1
      go_wp2_with fail
      clear x0 x1
      refine (spec_isspanning_c (r := r) w7 ⟨_, rfl, (hs.keep (SameIn.of_below H7.below (Nat.le_refl _))).more (Nat.le_refl _) H7.size⟩ ).mono ?_
      rintro e w8 ⟨rfl, b8⟩
      rw [HA.out]
      have H8 := H7.step b8
      clear b8 H7
      have x0 := H8.h4.cell 0
      have x1 := H8.h4.cell 1
      simp at x0 x1
      go_wp2_with fail
      clear x0 x1
      refine (spec_isblocked_c (r := r) w8 ⟨_, rfl, (hs.keep (SameIn.of_below H8.below (Nat.le_refl _))).more (Nat.le_refl _) H8.size⟩ ).mono ?_
      rintro e w9 ⟨rfl, b9⟩
      rw [HB.out]
      have H9 := H8.step b9
      clear b9 H8
      have x0 := H9.h4.cell 0
      have x1 := H9.h4.cell 1
      simp at x0 x1
      go_wp2_with fail
      clear x0 x1
      refine (spec_IsRegion_c (r := r) w9 ⟨_, rfl, (hs.keep (SameIn.of_below H9.below (Nat.le_refl _))).more (Nat.le_refl _) H9.size⟩ ).mono ?_
      rintro e w10 ⟨rfl, b10⟩
      rw [HV.out]
      have H10 := H9.step b10
      clear b10 H9
      go_wp2_with fail
      refine (spec_eqShapes_same (l := P) w10 (H10.g3.oi.sr.more (Nat.zero_le _) (Nat.le_refl _)) (H10.g2.oi.sr.more (Nat.zero_le _) (Nat.le_refl _))).mono ?_
      rintro e w11 ⟨rfl, b11⟩
      have H11 := H10.step b11
      clear b11 H10
      go_wp2_with fail
      refine (spec_eqShapes_same (l := Q) w11 (H11.g1.oi.sr.more (Nat.zero_le _) (Nat.le_refl _)) (H11.oi.sr.more (Nat.zero_le _) (Nat.le_refl _))).mono ?_
      rintro e w12 ⟨rfl, b12⟩
      have H12 := H11.drop.drop.step b12
      replace H12 := H12.drop2
      clear b12 H11
      obtain ⟨A5, c5, rfl, _, _, _⟩ := Res.row_at H12.h0
      go_wp2
      go_loopw [14] (fun i wr => ∃ k : Nat, k ≤ P.length ∧ i = .int .i64 k ∧ Sep w1 wr [Res.row (.slice A5 P.length c5) 62 2 P.length (cc P), Res.box w1.heap.size 31 #[.int .i64 r.w, .slice A r.rows.length c]]) (fun i _ => P.length - (intOf i).toNat)
      case atStart => exact ⟨0, Nat.zero_le _, rfl, H12⟩
      case round =>
        clear H12
        obtain ⟨k, hk, rfl, H⟩ := hrel
        by_cases hlt : k < P.length
        · obtain ⟨bs, os, cs, he, _, _, hbs⟩ := own_shape H.h0 (by omega)
          injection he with he1 _ he3
          subst he1 he3
          obtain ⟨d, hd⟩ : ∃ d, P[k]? = some d := ⟨P[k], List.getElem?_eq_getElem hlt⟩
          obtain ⟨q0, q1⟩ := own_cell2 H.h0 hd
          have hI := HIN.out d (List.mem_of_getElem? hd)
          have x0 := H.h1.cell 0
          have x1 := H.h1.cell 1
          simp at x0 x1
          have HI := Lib.hid hI
          clear hd hI
          go_wp2_with fail
          go_still_tail 11, (by kernel_rfl)
          change wpList _ _ _ _ _ wr.drew
          have H' := H.drew
          clear H q0 q1 x0 x1
          generalize wr.drew = wd at *
          go_wp2_with fail
          refine (impl_inRegion_c (r := r) _ _ wd ⟨_, rfl, (hs.keep (SameIn.of_below H'.below (Nat.le_refl _))).more (Nat.le_refl _) H'.size⟩).mono ?_
          rintro e w13 ⟨rfl, b13⟩
          rw [HI.out]
          have H13 := H'.step b13
          clear b13 H'
          go_wp2
          go_roundw
          case rel => exact ⟨k + 1, by omega, by go_num, H13⟩
          case measure => simp [intOf]; omega
        · have x0 := H.h1.cell 0
          have x1 := H.h1.cell 1
          simp at x0 x1
          go_wp2_with fail
          clear x0 x1
          refine (impl_pivots_c (r := r) wr ⟨_, rfl, (hs.keep (SameIn.of_below H.below (Nat.le_refl _))).more (Nat.le_refl _) H.size⟩ hn).mono ?_
          rintro e w13 ⟨v13, rfl, o13, b13⟩
          rw [← HC.out] at o13
          have H13 := H.oiNew b13 o13
          clear b13 o13 H hlt
          have x0 := H13.h2.cell 0
          have x1 := H13.h2.cell 1
          simp at x0 x1
          go_wp2_with fail
          clear x0 x1
          refine (spec_pivots_c (r := r) w13 ⟨_, rfl, (hs.keep (SameIn.of_below H13.below (Nat.le_refl _))).more (Nat.le_refl _) H13.size⟩ hn).mono ?_
          rintro e w14 ⟨v14, rfl, o14, b14⟩
          rw [← HC.out] at o14
          have H14 := H13.oiNew b14 o14
          clear b14 o14 H13
          go_wp2_with fail
          refine (spec_eqShapes_same (l := C) w14 (H14.g1.oi.sr.more (Nat.zero_le _) (Nat.le_refl _)) (H14.oi.sr.more (Nat.zero_le _) (Nat.le_refl _))).mono ?_
          rintro e w15 ⟨rfl, b15⟩
          have H15 := H14.drop.step b15
          clear b15 H14
          obtain ⟨wo, hwo⟩ : ∃ wo : World, wo = w15 := ⟨_, rfl⟩
          subst hwo
          obtain ⟨A3, c3, rfl, _, _, _⟩ := Res.row_at H15.h0
          go_wp2
          go_loopw [16] (fun i wr => ∃ k : Nat, k ≤ C.length ∧ i = .int .i64 k ∧ Sep w1 wr [Res.row (.slice A3 C.length c3) 62 2 C.length (cc C), Res.row (.slice A5 P.length c5) 62 2 P.length (cc P), Res.box w1.heap.size 31 #[.int .i64 r.w, .slice A r.rows.length c]]) (fun i _ => C.length - (intOf i).toNat)
          case atStart => exact ⟨0, Nat.zero_le _, rfl, H15⟩
          case round =>
            clear H15
            obtain ⟨j, hj, rfl, H⟩ := hrel
            by_cases hlt : j < C.length
            · obtain ⟨bs, os, cs, he, _, _, hbs⟩ := own_shape H.h0 (by omega)
              injection he with he1 _ he3
              subst he1 he3
              obtain ⟨d, hd⟩ : ∃ d, C[j]? = some d := ⟨C[j], List.getElem?_eq_getElem hlt⟩
              obtain ⟨q0, q1⟩ := own_cell2 H.h0 hd
              have hI : decide ((⟨d.x, d.y⟩ : Cell) ∈ P) = true := decide_eq_true (HPV.out d (List.mem_of_getElem? hd))
              have HI := Lib.hid hI
              clear hd hI
              go_wp2_with fail
              go_still_tail 11, (by kernel_rfl)
              change wpList _ _ _ _ _ wr.drew
              have H' := H.drew
              clear H q0 q1
              generalize wr.drew = wd at *
              go_wp2_with fail
              refine (impl_hasCell_c (l := P) _ _ wd (H'.g1.oi.sr.more (Nat.zero_le _) (Nat.le_refl _)) hlP).mono ?_
              rintro e w16 ⟨rfl, b16⟩
              rw [HI.out]
              have H16 := H'.step b16
              clear b16 H'
              go_wp2
              go_roundw
              case rel => exact ⟨j + 1, by omega, by go_num, H16⟩
              case measure => simp [intOf]; omega
            · have hbw := b1.trans (H.below.mono b1.size)
              go_wp2_with fail
              refine (drawTab_c wr ((h.keep (SameIn.of_below hbw (Nat.le_refl _))).more (Nat.le_refl _) hbw.size) hl).mono ?_
              rintro e w17 ⟨p, q, rfl, hp1, hp2, hq1, hq2, b17⟩
              have hb17 := hbw.trans (b17.mono hbw.size)
              clear hbw H b17
              go_wp2_with fail
              refine (impl_tab_c w17 p q).mono ?_
              rintro e w18 ⟨v18, rfl, o18, b18⟩
              go_wp2_with fail
              refine (spec_tab_c w18 p q).mono ?_
              rintro e w19 ⟨v19, rfl, o19, b19⟩
              have he := tabOf_ends ⟨hp1, hp2⟩ ⟨hq1, hq2⟩
              generalize tabOf p q = T at *
              have K := ((Sep.start w17).oiNew b18 o18).oiNew b19 o19
              go_wp2_with fail
              refine (laws_sameInts_same (l := T) w19 (K.g1.oi.sr.more (Nat.zero_le _) (Nat.le_refl _)) (K.oi.sr.more (Nat.zero_le _) (Nat.le_refl _))).mono ?_
              rintro e w20 ⟨rfl, b20⟩
              have K2 := K.drop.step b20
              have hB := hb17.trans (K2.below.mono hb17.size)
              clear o18 o19 b18 b19 b20 K
              rcases he with rfl | ⟨hT, t0, m0, m1, t1⟩
              · obtain ⟨D, d, rfl, _, _, _⟩ := Res.row_at K2.h0
                clear K2
                go_wp2
                go_ret
                exact ⟨rfl, hB⟩
              · obtain ⟨bs, os, cs, rfl, _, _, hbs⟩ := own_shape K2.h0 hT
                have q0 := own_cell1 K2.h0 t0
                rw [Nat.add_zero] at q0
                have q1 := own_cell1 K2.h0 t1
                have q2 := (List.getElem?_eq_some_iff.1 t1).1
                have hd : decide ((T.length : Int) = 0) = false := by simp; intro h; subst h; simp at hT
                have hm : p * q < (T.length : Int) := by omega
                clear t0 t1 K2 q2
                go_wp2
                all_goals
                  go_ret
                  exact ⟨rfl, hB⟩
    · have HV := Lib.hid hv
      have HA := Lib.hid ha
      have HB := Lib.hid hb
      clear hP hQ hC hin hpv hv ha hb hd
      have x0 : (w1.alloc (.cells #[.int .i64 r.w, .slice A r.rows.length c] 31)).cell? ⟨w1.heap.size, 0, none⟩ = some (.int .i64 r.w) := H.h0.cell 0
      have x1 : (w1.alloc (.cells #[.int .i64 r.w, .slice A r.rows.length c] 31)).cell? ⟨w1.heap.size, 1, none⟩ = some (.slice A r.rows.length c) := H.h0.cell 1
      go_wp2_with fail
      clear x0 x1
      generalize w1.alloc (.cells #[.int .i64 r.w, .slice A r.rows.length c] 31) = W at *
      refine (impl_isspanning_c (r := r) W ⟨_, rfl, (hs.keep (SameIn.of_below H.below (Nat.le_refl _))).more (Nat.le_refl _) H.size⟩).mono ?_
      rintro e w2 ⟨rfl, b2⟩
      rw [HA.out]
      have H2 := H.step b2
      clear b2 H
      have x0 := H2.h0.cell 0
      have x1 := H2.h0.cell 1
      simp at x0 x1
      go_wp2_with fail
      clear x0 x1
      refine (impl_isblocked_c (r := r) w2 ⟨_, rfl, (hs.keep (SameIn.of_below H2.below (Nat.le_refl _))).more (Nat.le_refl _) H2.size⟩ ).mono ?_
      rintro e w3 ⟨rfl, b3⟩
      rw [HB.out]
      have H3 := H2.step b3
      clear b3 H2
      have x0 := H3.h0.cell 0
      have x1 := H3.h0.cell 1
      simp at x0 x1
      go_wp2_with fail
      clear x0 x1
      refine (impl_spanway_c (r := r) w3 ⟨_, rfl, (hs.keep (SameIn.of_below H3.below (Nat.le_refl _))).more (Nat.le_refl _) H3.size⟩ ).mono ?_
      rintro e w4 ⟨v4, rfl, o4, b4⟩
      rw [HA.out]
      rw [← HP.out] at o4
      have H4 := H3.oiNew b4 o4
      clear b4 o4 H3
      have x0 := H4.h1.cell 0
      have x1 := H4.h1.cell 1
      simp at x0 x1
      go_wp2_with fail
      clear x0 x1
      refine (spec_spanway_c (r := r) w4 ⟨_, rfl, (hs.keep (SameIn.of_below H4.below (Nat.le_refl _))).more (Nat.le_refl _) H4.size⟩ ).mono ?_
      rintro e w5 ⟨v5, rfl, o5, b5⟩
      rw [HA.out]
      rw [← HP.out] at o5
      have H5 := H4.oiNew b5 o5
      clear b5 o5 H4
      have x0 := H5.h2.cell 0
      have x1 := H5.h2.cell 1
      simp at x0 x1
      go_wp2_with fail
      clear x0 x1
      refine (impl_blockway_c (r := r) w5 ⟨_, rfl, (hs.keep (SameIn.of_below H5.below (Nat.le_refl _))).more (Nat.le_refl _) H5.size⟩ ).mono ?_
      rintro e w6 ⟨v6, rfl, o6, b6⟩
      rw [HB.out]
      rw [← HQ.out] at o6
      have H6 := H5.oiNew b6 o6
      clear b6 o6 H5
      have x0 := H6.h3.cell 0
      have x1 := H6.h3.cell 1
      simp at x0 x1
      go_wp2_with fail
      clear x0 x1
      refine (spec_blockway_c (r := r) w6 ⟨_, rfl, (hs.keep (SameIn.of_below H6.below (Nat.le_refl _))).more (Nat.le_refl _) H6.size⟩ ).mono ?_
      rintro e w7 ⟨v7, rfl, o7, b7⟩
      rw [HB.out]
      rw [← HQ.out] at o7
      have H7 := H6.oiNew b7 o7
      clear b7 o7 H6
      have x0 := H7.h4.cell 0
      have x1 := H7.h4.cell 1
      simp at x0 x1
      go_wp2_with fail
      clear x0 x1
      refine (spec_isspanning_c (r := r) w7 ⟨_, rfl, (hs.keep (SameIn.of_below H7.below (Nat.le_refl _))).more (Nat.le_refl _) H7.size⟩ ).mono ?_
      rintro e w8 ⟨rfl, b8⟩
      rw [HA.out]
      have H8 := H7.step b8
      clear b8 H7
      have x0 := H8.h4.cell 0
      have x1 := H8.h4.cell 1
      simp at x0 x1
      go_wp2_with fail
      clear x0 x1
      refine (spec_isblocked_c (r := r) w8 ⟨_, rfl, (hs.keep (SameIn.of_below H8.below (Nat.le_refl _))).more (Nat.le_refl _) H8.size⟩ ).mono ?_
      rintro e w9 ⟨rfl, b9⟩
      rw [HB.out]
      have H9 := H8.step b9
      clear b9 H8
      have x0 := H9.h4.cell 0
      have x1 := H9.h4.cell 1
      simp at x0 x1
      go_wp2_with fail
      clear x0 x1
      refine (spec_IsRegion_c (r := r) w9 ⟨_, rfl, (hs.keep (SameIn.of_below H9.below (Nat.le_refl _))).more (Nat.le_refl _) H9.size⟩ ).mono ?_
      rintro e w10 ⟨rfl, b10⟩
      rw [HV.out]
      have H10 := H9.step b10
      clear b10 H9
      go_wp2_with fail
      refine (spec_eqShapes_same (l := P) w10 (H10.g3.oi.sr.more (Nat.zero_le _) (Nat.le_refl _)) (H10.g2.oi.sr.more (Nat.zero_le _) (Nat.le_refl _))).mono ?_
      rintro e w11 ⟨rfl, b11⟩
      have H11 := H10.step b11
      clear b11 H10
      go_wp2_with fail
      refine (spec_eqShapes_same (l := Q) w11 (H11.g1.oi.sr.more (Nat.zero_le _) (Nat.le_refl _)) (H11.oi.sr.more (Nat.zero_le _) (Nat.le_refl _))).mono ?_
      rintro e w12 ⟨rfl, b12⟩
      have H12 := H11.drop.drop.step b12
      replace H12 := H12.drop2
      clear b12 H11
      obtain ⟨A5, c5, rfl, _, _, _⟩ := Res.row_at H12.h0
      go_wp2
      go_loopw [14] (fun i wr => ∃ k : Nat, k ≤ P.length ∧ i = .int .i64 k ∧ Sep w1 wr [Res.row (.slice A5 P.length c5) 62 2 P.length (cc P), Res.box w1.heap.size 31 #[.int .i64 r.w, .slice A r.rows.length c]]) (fun i _ => P.length - (intOf i).toNat)
      case atStart => exact ⟨0, Nat.zero_le _, rfl, H12⟩
      case round =>
        clear H12
        obtain ⟨k, hk, rfl, H⟩ := hrel
        by_cases hlt : k < P.length
        · obtain ⟨bs, os, cs, he, _, _, hbs⟩ := own_shape H.h0 (by omega)
          injection he with he1 _ he3
          subst he1 he3
          obtain ⟨d, hd⟩ : ∃ d, P[k]? = some d := ⟨P[k], List.getElem?_eq_getElem hlt⟩
          obtain ⟨q0, q1⟩ := own_cell2 H.h0 hd
          have hI := HIN.out d (List.mem_of_getElem? hd)
          have x0 := H.h1.cell 0
          have x1 := H.h1.cell 1
          simp at x0 x1
          have HI := Lib.hid hI
          clear hd hI
          go_wp2_with fail
          go_still_tail 11, (by kernel_rfl)
          change wpList _ _ _ _ _ wr.drew
          have H' := H.drew
          clear H q0 q1 x0 x1
          generalize wr.drew = wd at *
          go_wp2_with fail
          refine (impl_inRegion_c (r := r) _ _ wd ⟨_, rfl, (hs.keep (SameIn.of_below H'.below (Nat.le_refl _))).more (Nat.le_refl _) H'.size⟩).mono ?_
          rintro e w13 ⟨rfl, b13⟩
          rw [HI.out]
          have H13 := H'.step b13
          clear b13 H'
          go_wp2
          go_roundw
          case rel => exact ⟨k + 1, by omega, by go_num, H13⟩
          case measure => simp [intOf]; omega
        · have x0 := H.h1.cell 0
          have x1 := H.h1.cell 1
          simp at x0 x1
          go_wp2_with fail
          clear x0 x1
          refine (impl_pivots_c (r := r) wr ⟨_, rfl, (hs.keep (SameIn.of_below H.below (Nat.le_refl _))).more (Nat.le_refl _) H.size⟩ hn).mono ?_
          rintro e w13 ⟨v13, rfl, o13, b13⟩
          rw [← HC.out] at o13
          have H13 := H.oiNew b13 o13
          clear b13 o13 H hlt
          have x0 := H13.h2.cell 0
          have x1 := H13.h2.cell 1
          simp at x0 x1
          go_wp2_with fail
          clear x0 x1
          refine (spec_pivots_c (r := r) w13 ⟨_, rfl, (hs.keep (SameIn.of_below H13.below (Nat.le_refl _))).more (Nat.le_refl _) H13.size⟩ hn).mono ?_
          rintro e w14 ⟨v14, rfl, o14, b14⟩
          rw [← HC.out] at o14
          have H14 := H13.oiNew b14 o14
          clear b14 o14 H13
          go_wp2_with fail
          refine (spec_eqShapes_same (l := C) w14 (H14.g1.oi.sr.more (Nat.zero_le _) (Nat.le_refl _)) (H14.oi.sr.more (Nat.zero_le _) (Nat.le_refl _))).mono ?_
          rintro e w15 ⟨rfl, b15⟩
          have H15 := H14.drop.step b15
          clear b15 H14
          obtain ⟨wo, hwo⟩ : ∃ wo : World, wo = w15 := ⟨_, rfl⟩
          subst hwo
          obtain ⟨A3, c3, rfl, _, _, _⟩ := Res.row_at H15.h0
          go_wp2
          go_loopw [16] (fun i wr => ∃ k : Nat, k ≤ C.length ∧ i = .int .i64 k ∧ Sep w1 wr [Res.row (.slice A3 C.length c3) 62 2 C.length (cc C), Res.row (.slice A5 P.length c5) 62 2 P.length (cc P), Res.box w1.heap.size 31 #[.int .i64 r.w, .slice A r.rows.length c]]) (fun i _ => C.length - (intOf i).toNat)
          case atStart => exact ⟨0, Nat.zero_le _, rfl, H15⟩
          case round =>
            clear H15
            obtain ⟨j, hj, rfl, H⟩ := hrel
            by_cases hlt : j < C.length
            · obtain ⟨bs, os, cs, he, _, _, hbs⟩ := own_shape H.h0 (by omega)
              injection he with he1 _ he3
              subst he1 he3
              obtain ⟨d, hd⟩ : ∃ d, C[j]? = some d := ⟨C[j], List.getElem?_eq_getElem hlt⟩
              obtain ⟨q0, q1⟩ := own_cell2 H.h0 hd
              have hI : decide ((⟨d.x, d.y⟩ : Cell) ∈ P) = true := decide_eq_true (HPV.out d (List.mem_of_getElem? hd))
              have HI := Lib.hid hI
              clear hd hI
              go_wp2_with fail
              go_still_tail 11, (by kernel_rfl)
              change wpList _ _ _ _ _ wr.drew
              have H' := H.drew
              clear H q0 q1
              generalize wr.drew = wd at *
              go_wp2_with fail
              refine (impl_hasCell_c (l := P) _ _ wd (H'.g1.oi.sr.more (Nat.zero_le _) (Nat.le_refl _)) hlP).mono ?_
              rintro e w16 ⟨rfl, b16⟩
              rw [HI.out]
              have H16 := H'.step b16
              clear b16 H'
              go_wp2
              go_roundw
              case rel => exact ⟨j + 1, by omega, by go_num, H16⟩
              case measure => simp [intOf]; omega
            · have hbw := b1.trans (H.below.mono b1.size)
              go_wp2_with fail
              refine (drawTab_c wr ((h.keep (SameIn.of_below hbw (Nat.le_refl _))).more (Nat.le_refl _) hbw.size) hl).mono ?_
              rintro e w17 ⟨p, q, rfl, hp1, hp2, hq1, hq2, b17⟩
              have hb17 := hbw.trans (b17.mono hbw.size)
              clear hbw H b17
              go_wp2_with fail
              refine (impl_tab_c w17 p q).mono ?_
              rintro e w18 ⟨v18, rfl, o18, b18⟩
              go_wp2_with fail
              refine (spec_tab_c w18 p q).mono ?_
              rintro e w19 ⟨v19, rfl, o19, b19⟩
              have he := tabOf_ends ⟨hp1, hp2⟩ ⟨hq1, hq2⟩
              generalize tabOf p q = T at *
              have K := ((Sep.start w17).oiNew b18 o18).oiNew b19 o19
              go_wp2_with fail
              refine (laws_sameInts_same (l := T) w19 (K.g1.oi.sr.more (Nat.zero_le _) (Nat.le_refl _)) (K.oi.sr.more (Nat.zero_le _) (Nat.le_refl _))).mono ?_
              rintro e w20 ⟨rfl, b20⟩
              have K2 := K.drop.step b20
              have hB := hb17.trans (K2.below.mono hb17.size)
              clear o18 o19 b18 b19 b20 K
              rcases he with rfl | ⟨hT, t0, m0, m1, t1⟩
              · obtain ⟨D, d, rfl, _, _, _⟩ := Res.row_at K2.h0
                clear K2
                go_wp2
                go_ret
                exact ⟨rfl, hB⟩
              · obtain ⟨bs, os, cs, rfl, _, _, hbs⟩ := own_shape K2.h0 hT
                have q0 := own_cell1 K2.h0 t0
                rw [Nat.add_zero] at q0
                have q1 := own_cell1 K2.h0 t1
                have q2 := (List.getElem?_eq_some_iff.1 t1).1
                have hd : decide ((T.length : Int) = 0) = false := by simp; intro h; subst h; simp at hT
                have hm : p * q < (T.length : Int) := by omega
                clear t0 t1 K2 q2
                go_wp2
                all_goals
                  go_ret
                  exact ⟨rfl, hB⟩
  · go_enter Try.func6, Try.ntmps6
    go_wp2_with fail
    refine (big_yes w h (by omega)).mono ?_
    rintro e w' ⟨rfl, rfl⟩
    go_wp2
    go_ret
    exact ⟨rfl, Below.refl _ _⟩
end Go.Proofs.Ytjmeplchabehfaa
