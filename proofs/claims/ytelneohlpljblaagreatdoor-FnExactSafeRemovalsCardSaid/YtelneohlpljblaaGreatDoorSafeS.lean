
/-
  The cells without which there is a tiling: the reference's walk.
-/
import Derived.Test.YtelneohlpljblaaGreatDoorSafeW
namespace Go.Proofs.YtelneohlpljblaaGreatDoor
open Go.RowKit

set_option maxRecDepth 100000 in
set_option maxHeartbeats 3200000 in
theorem spec_safes_c {v v2 : Value} {r : Reg} {ps : List (List Cell)} (w : World) (h : RegRd w 0 w.heap.size v r) (h2 : CellSSRd w 0 w.heap.size v2 ps) (hn : r.rows.length ≤ 1048576) (hpn : ps.length ≤ 1048576) (hpl : ∀ s ∈ ps, s.length ≤ 1048576) :
    Calls Tryz.prog 38 #[v, v2] w fun en w' => ∃ v', en = .returned v' ∧ CellsIn w' w.heap.size w'.heap.size v' (r.safes ps) ∧ Below w.heap.size w w' := by
  have HPB : Hid (∀ w1, Below w.heap.size w w1 → Calls Tryz.prog 55 #[v2] w1 fun e w' => e = .returned (.bool (arePcs ps)) ∧ Below w1.heap.size w1 w') := Lib.hid fun w1 b1 =>
    spec_arePcs_c w1 ((h2.keep (SameIn.of_below b1 (Nat.le_refl _))).more (Nat.le_refl _) b1.size) hpn hpl
  have HHT : Hid (∀ (w1 : World) (u : Value) (x : Reg), Below w.heap.size w w1 → RegRd w1 0 w1.heap.size u x → Calls Tryz.prog 42 #[u, v2] w1 fun e w' => e = .returned (.bool (findB x ps)) ∧ Below w1.heap.size w1 w') := Lib.hid fun w1 u x b1 hx =>
    spec_hasT_c w1 hx ((h2.keep (SameIn.of_below b1 (Nat.le_refl _))).more (Nat.le_refl _) b1.size) hpn hpl
  obtain ⟨SF, hSF⟩ : ∃ f, f = r.safeC ps := ⟨_, rfl⟩
  have HSF := Lib.hid hSF
  obtain ⟨BV, hBV⟩ : ∃ b, b = arePcs ps := ⟨_, rfl⟩
  rw [← hBV] at HPB
  have HBV := Lib.hid hBV
  clear hSF hBV
  obtain ⟨vs2, ⟨A2, c2, rfl, _, _⟩, _⟩ := h2
  obtain ⟨s, rfl, hs⟩ := h
  obtain ⟨A, c, rfl, hm, hr⟩ := id hs
  obtain ⟨i0, hi, hz0, hz1, hz2⟩ := info_parts infoCell
  have H := ((Sep.start w).box 31 #[.int .i64 r.w, .slice A r.rows.length c]).rowBox 60 #[] 2 0 rfl (by decide)
  simp only [World.size_alloc] at H
  obtain ⟨L, hL⟩ : ∃ L, L = (r.safes ps) := ⟨_, rfl⟩
  rw [← hL]
  have HL := Lib.hid hL
  have c0 : ((w.alloc (.cells #[.int .i64 r.w, .slice A r.rows.length c] 31)).alloc (.cells #[] 60)).cell? ⟨w.heap.size, 0, none⟩ = some (.int .i64 r.w) := H.h1.cell 0
  have c1 : ((w.alloc (.cells #[.int .i64 r.w, .slice A r.rows.length c] 31)).alloc (.cells #[] 60)).cell? ⟨w.heap.size, 1, none⟩ = some (.slice A r.rows.length c) := H.h1.cell 1
  clear hr hL hpn hpl
  go_enter Tryz.func38, Tryz.ntmps38
  go_wp2_with fail
  clear c0 c1
  generalize (w.alloc (.cells #[.int .i64 r.w, .slice A r.rows.length c] 31)).alloc (.cells #[] 60) = W at *
  refine (spec_cells_c (r := r) W ⟨_, rfl, (hs.keep (SameIn.of_below H.below (Nat.le_refl _))).more (Nat.le_refl _) H.size⟩ hn).mono ?_
  rintro e w2 ⟨v2, rfl, o2, b2⟩
  obtain ⟨D, d, rfl, _, hrd⟩ := o2.rd
  obtain ⟨C, hC⟩ : ∃ C, C = if r.valid then r.cells else [] := ⟨_, rfl⟩
  rw [← hC] at o2 ⊢
  have H2 := (H.oiNew b2 o2).g1
  have hcl : C.length ≤ 36 := by
    rw [hC]
    cases hv : r.valid
    · simp
    · simpa using Reg.cells_le (Reg.valid_iff.1 hv)
  have hspan : BV = false → L = [] := fun h => by rw [HL.out, safes_no (by rw [← HBV.out, h, Bool.and_false])]
  have hend : BV = true → L = C.filter SF := fun h => by
    rw [HL.out, hC, HSF.out]
    cases hv : r.valid
    · rw [safes_no (by rw [hv]; rfl)]; rfl
    · rw [safes_yes (by rw [hv, ← HBV.out, h]; rfl)]; rfl
  have hvv : 0 < C.length → r.Valid := fun h => by
    cases hv : r.valid
    · rw [hC, hv] at h; simp at h
    · exact Reg.valid_iff.1 hv
  have HVV := Lib.hid hvv
  have hnil : C = [] → L = [] := fun h => by
    cases hs : BV
    · exact hspan hs
    · rw [hend hs, h]; rfl
  have HSP := Lib.hid hspan
  have HE := Lib.hid hend
  have HN := Lib.hid hnil
  clear b2 H hrd o2 hC hspan hend hnil hvv
  go_wp2
  go_loopw [5, 7] (fun o i wr => ∃ k : Nat, k ≤ C.length ∧ i = .int .i64 k ∧ Hid (k ≠ 0 → BV = true) ∧ Sep w wr [Res.row o 60 2 ((C.take k).filter SF).length (cc ((C.take k).filter SF)), Res.row (.slice D C.length d) 60 2 C.length (cc C), Res.box w.heap.size 31 #[.int .i64 r.w, .slice A r.rows.length c]]) (fun _ i _ => C.length - (intOf i).toNat)
  case atStart => exact ⟨0, Nat.zero_le _, rfl, Lib.hid (fun h => absurd rfl h), H2⟩
  case round =>
    clear H2
    obtain ⟨k, hk, rfl, HK, H⟩ := hrel
    by_cases hlt : k < C.length
    · go_wp2_with fail
      refine (HPB.out wr H.below).mono ?_
      rintro e w1 ⟨rfl, b1⟩
      have H1 := H.step b1
      clear b1 H
      cases hsp : BV
      · have hk0 : k = 0 := by
          rcases Nat.eq_zero_or_pos k with h0 | h0
          · exact h0
          · have := HK.out (by omega); rw [hsp] at this; cases this
        subst hk0
        have hl0 := HSP.out hsp
        subst hl0
        clear hsp
        go_wp2
        go_ret
        exact ⟨_, rfl, CellsIn.mk H1.oi.1 rfl rfl, H1.below⟩
      · have HKS := Lib.hid hsp
        have hV := HVV.out (by omega)
        have hn6 := hV.2.2.2.1
        clear hsp hV
        obtain ⟨cl, hck⟩ : ∃ cl, C[k]? = some cl := ⟨C[k], List.getElem?_eq_getElem hlt⟩
        obtain ⟨bs, os, cs, he, _, _, hbs⟩ := own_shape H1.h1 (by omega)
        injection he with he1 _ he3
        subst he1 he3
        obtain ⟨q0, q1⟩ := own_cell2 H1.h1 hck
        have hst := safe_take (p := SF) hck
        have hfl := safe_le (p := SF) (l := C) (k := k)
        have HST := Lib.hid hst
        have HCK := Lib.hid hck
        have c0 := H1.h2.cell 0
        have c1 := H1.h2.cell 1
        simp at c0 c1
        obtain ⟨x, hx⟩ : ∃ x, x = r.less cl.x cl.y := ⟨_, rfl⟩
        have hpv : SF cl = findB x ps := by rw [hx, HSF.out]; rfl
        have HPV := Lib.hid hpv
        obtain ⟨qi, hqi⟩ : ∃ qi, qi = r.isIn cl.x cl.y := ⟨_, rfl⟩
        have hcall : ∀ W', Below w1.heap.size w1 W' → Calls Tryz.prog 71 #[.agg #[.int .i64 r.w, .slice A r.rows.length c], .int .i64 cl.x, .int .i64 cl.y] W' fun en w' => ∃ E f,
            en = .returned (.tuple #[.agg #[.int .i64 x.w, .slice E x.rows.length f], .bool qi]) ∧ OI w' W'.heap.size w'.heap.size 3 1 (.slice E x.rows.length f) x.rows.length (ic x.rows) ∧ Below W'.heap.size W' w' := by
          intro W' hW'
          have H1' := H1.below.trans (hW'.mono H1.size)
          refine (spec_remove_c (r := r) cl.x cl.y W' ⟨_, rfl, (hs.keep (SameIn.of_below H1' (Nat.le_refl _))).more (Nat.le_refl _) H1'.size⟩ (by omega)).mono ?_
          rintro en w3 ⟨v3, rfl, ⟨s3, rfl, o3⟩, b3⟩
          rw [← hx] at o3 ⊢
          rw [← hqi]
          obtain ⟨E, f, rfl, _, _⟩ := o3.rd
          exact ⟨E, f, rfl, o3, b3⟩
        have HCALL := Lib.hid hcall
        have hb2 := hbs
        clear hst hck hcall hpv hx hqi
        go_wp2_with fail
        go_region_held3 (fun w' => w'.cell? ⟨w.heap.size, 0, none⟩ = some (.int .i64 r.w) ∧ w'.cell? ⟨w.heap.size, 1, none⟩ = some (.slice A r.rows.length c) ∧ w'.cell? ⟨bs, os + k * 2, none⟩ = some (.int .i64 cl.x) ∧ w'.cell? ⟨bs, os + k * 2 + 1, none⟩ = some (.int .i64 cl.y))
          (first | ((try dsimp only); refine ⟨?_, ?_, ?_, ?_⟩ <;> assumption) | go_keep)
          ((first
            | (go_at_call 71; (with_reducible refine (HCALL.out _ (below_drew (Below.refl w1.heap.size w1))).mono ?_); rintro en w3 ⟨E, f, rfl, o3, b3⟩; replace b3 := below_undrew b3; have H3 := H1.oiNew b3 o3; have n1 := H3.h3.lt; obtain ⟨q0', q1'⟩ := own_cell2 H3.h2 HCK.out; have c0' := H3.h3.cell 0; have c1' := H3.h3.cell 1; have n2 : bs < w3.heap.size := Nat.lt_of_lt_of_le hbs b3.size; simp at c0' c1')
            | (go_at_call 71; (with_reducible refine (HCALL.out _ (below_drew ((Below.refl w1.heap.size w1).alloc (Nat.le_refl _) _))).mono ?_); rintro en w3 ⟨E, f, rfl, o3, b3⟩; have H3 := (H1.box 31 #[.int .i64 0, .slice none 0 0]).drew.oiNew b3 o3; obtain ⟨q0', q1'⟩ := own_cell2 H3.h3 HCK.out; have c0' := H3.h4.cell 0; have c1' := H3.h4.cell 1; have g0' := H3.h1.cell 0; have g1' := H3.h1.cell 1; have f0' := H3.h1.frozen 0; have f1' := H3.h1.frozen 1; simp at c0' c1' g0' g1'; have H4 := (H3.g1.set_ 0 (.int .i64 x.w)).set_ 1 (.slice E x.rows.length f); obtain ⟨q0'', q1''⟩ := own_cell2 H4.h3 HCK.out; have c0'' := H4.h4.cell 0; have c1'' := H4.h4.cell 1; simp at c0'' c1'')))
        · have H8 := H3.box 31 #[.int .i64 x.w, .slice E x.rows.length f]
          clear q0' q1' c0' c1' q0 q1 c0 c1 H3 b3 o3 n1 n2 H1
          generalize w3.alloc (.cells #[.int .i64 x.w, .slice E x.rows.length f] 31) = W8 at *
          have hrx : RegRd W8 0 W8.heap.size (.agg #[.int .i64 x.w, .slice E x.rows.length f]) x := ⟨_, rfl, (H8.g1.oi.sr).more (Nat.zero_le _) (Nat.le_refl _)⟩
          have g0 := H8.h0.cell 0
          have g1 := H8.h0.cell 1
          simp at g0 g1
          go_wp2_with fail
          clear g0 g1
          refine (HHT.out W8 _ x H8.below hrx).mono ?_
          rintro e w5 ⟨rfl, b5⟩
          have H5 := H8.step b5
          clear b5 H8 hrx
          cases hxs : findB x ps
          rotate_left
          · have hst := HST.out
            rw [HPV.out, hxs] at hst
            simp only [if_true] at hst
            have HS := Lib.hid hst
            obtain ⟨q0, q1⟩ := own_cell2 H5.h3 HCK.out
            clear hst hxs
            go_wp2_with (at_builtin; refine wpList_app rfl _ _ 29 rfl 60 i0 _ 2 16 Tryz.underlying29 hi hz0 hz1 hz2 rfl (by decide) _ _ _ rfl (H5.alloc _).g2 _ _ _ [.int .i64 cl.x, .int .i64 cl.y] rfl (Rd.fresh w5 _ #[.int .i64 cl.x, .int .i64 cl.y] 2 1 rfl) oc2 (by unfold maxLen; omega) (by omega) ?_; intro v' w6 H6; have H7 := H6.p2.drop.drop; clear H6 H5 q0 q1)
            have H8 : Sep w w6 [Res.row v' 60 2 ((C.take (k + 1)).filter SF).length (cc ((C.take (k + 1)).filter SF)), Res.row (.slice (some ⟨bs, os, none⟩) C.length d) 60 2 C.length (cc C), Res.box w.heap.size 31 #[.int .i64 r.w, .slice A r.rows.length c]] := by
              rw [HS.out, cc_append, List.length_append]; exact H7
            clear H7
            go_wp2
            go_roundw
            case rel => exact ⟨k + 1, by omega, by go_num, Lib.hid (fun _ => HKS.out), H8⟩
            case measure => simp [intOf]; omega
          · have hst := HST.out
            rw [HPV.out, hxs] at hst
            simp only [Bool.false_eq_true, if_false, List.append_nil] at hst
            have HS := Lib.hid hst
            have H7 := H5.drop.drop
            clear hst hxs H5
            go_wp2
            go_roundw
            case rel => exact ⟨k + 1, by omega, by go_num, Lib.hid (fun _ => HKS.out), by rw [HS.out]; exact H7⟩
            case measure => simp [intOf]; omega
        · have H8 := H4
          clear q0' q1' c0' c1' q0 q1 c0 c1 H3 b3 o3 H4 q0'' q1'' c0'' c1'' g0' g1' f0' f1' H1
          generalize (w3.setCell ⟨w1.heap.size, 0, none⟩ (.int .i64 x.w)).setCell ⟨w1.heap.size, 1, none⟩ (.slice E x.rows.length f) = W8 at *
          have hrx : RegRd W8 0 W8.heap.size (.agg #[.int .i64 x.w, .slice E x.rows.length f]) x := ⟨_, rfl, (H8.g1.oi.sr).more (Nat.zero_le _) (Nat.le_refl _)⟩
          have g0 := H8.h0.cell 0
          have g1 := H8.h0.cell 1
          simp at g0 g1
          go_wp2_with fail
          clear g0 g1
          refine (HHT.out W8 _ x H8.below hrx).mono ?_
          rintro e w5 ⟨rfl, b5⟩
          have H5 := H8.step b5
          clear b5 H8 hrx
          cases hxs : findB x ps
          rotate_left
          · have hst := HST.out
            rw [HPV.out, hxs] at hst
            simp only [if_true] at hst
            have HS := Lib.hid hst
            obtain ⟨q0, q1⟩ := own_cell2 H5.h3 HCK.out
            clear hst hxs
            go_wp2_with (at_builtin; refine wpList_app rfl _ _ 29 rfl 60 i0 _ 2 16 Tryz.underlying29 hi hz0 hz1 hz2 rfl (by decide) _ _ _ rfl (H5.alloc _).g2 _ _ _ [.int .i64 cl.x, .int .i64 cl.y] rfl (Rd.fresh w5 _ #[.int .i64 cl.x, .int .i64 cl.y] 2 1 rfl) oc2 (by unfold maxLen; omega) (by omega) ?_; intro v' w6 H6; have H7 := H6.p2.drop.drop; clear H6 H5 q0 q1)
            have H8 : Sep w w6 [Res.row v' 60 2 ((C.take (k + 1)).filter SF).length (cc ((C.take (k + 1)).filter SF)), Res.row (.slice (some ⟨bs, os, none⟩) C.length d) 60 2 C.length (cc C), Res.box w.heap.size 31 #[.int .i64 r.w, .slice A r.rows.length c]] := by
              rw [HS.out, cc_append, List.length_append]; exact H7
            clear H7
            go_wp2
            go_roundw
            case rel => exact ⟨k + 1, by omega, by go_num, Lib.hid (fun _ => HKS.out), H8⟩
            case measure => simp [intOf]; omega
          · have hst := HST.out
            rw [HPV.out, hxs] at hst
            simp only [Bool.false_eq_true, if_false, List.append_nil] at hst
            have HS := Lib.hid hst
            have H7 := H5.drop.drop
            clear hst hxs H5
            go_wp2
            go_roundw
            case rel => exact ⟨k + 1, by omega, by go_num, Lib.hid (fun _ => HKS.out), by rw [HS.out]; exact H7⟩
            case measure => simp [intOf]; omega
    · obtain rfl : k = C.length := by omega
      rw [List.take_length] at H
      have hl0 : L = C.filter SF := by
        rcases Nat.eq_zero_or_pos C.length with h0 | h0
        · have hc := List.eq_nil_of_length_eq_zero h0
          rw [HN.out hc, hc]; rfl
        · exact HE.out (HK.out (by omega))
      have HL0 := Lib.hid hl0
      clear hl0
      go_wp2
      go_ret
      rw [HL0.out]
      exact ⟨_, rfl, CellsIn.mk H.oi.1 rfl rfl, H.below⟩
end Go.Proofs.YtelneohlpljblaaGreatDoor
