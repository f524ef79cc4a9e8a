
/-
  The cells without which there is a tiling: both walks.
-/
import Derived.Test.YtelneohlpljblaaGreatDoorCellsS
import Derived.Test.YtelneohlpljblaaGreatDoorFtS
namespace Go.Proofs.YtelneohlpljblaaGreatDoor
open Go.RowKit

def Reg.safeC (r : Reg) (ps : List (List Cell)) (c : Cell) : Bool := findB (r.less c.x c.y) ps
def Reg.safes (r : Reg) (ps : List (List Cell)) : List Cell := if (r.valid && arePcs ps) = true then r.cells.filter (r.safeC ps) else []
theorem safe_take {p : Cell → Bool} {l : List Cell} {k : Nat} {c : Cell} (h : l[k]? = some c) : (l.take (k + 1)).filter p = (l.take k).filter p ++ if p c = true then [c] else [] := by
  have hk := (List.getElem?_eq_some_iff.1 h).1
  have e := (List.getElem?_eq_some_iff.1 h).2
  rw [List.take_succ_eq_append_getElem hk, List.filter_append, e]
  cases hp : p c <;> simp [hp]
theorem safe_le {p : Cell → Bool} {l : List Cell} {k : Nat} : ((l.take k).filter p).length ≤ l.length := Nat.le_trans (List.length_filter_le _ _) (by rw [List.length_take]; omega)
theorem safes_no {r : Reg} {ps : List (List Cell)} (h : (r.valid && arePcs ps) = false) : r.safes ps = [] := by rw [Reg.safes, h]; rfl
theorem safes_yes {r : Reg} {ps : List (List Cell)} (h : (r.valid && arePcs ps) = true) : r.safes ps = r.cells.filter (r.safeC ps) := by rw [Reg.safes, h]; rfl

set_option maxRecDepth 100000 in
set_option maxHeartbeats 1600000 in
theorem impl_safes_c {v v2 : Value} {r : Reg} {ps : List (List Cell)} (w : World) (h : RegRd w 0 w.heap.size v r) (h2 : CellSSRd w 0 w.heap.size v2 ps) (_hn : r.rows.length ≤ 1048576) (hpn : ps.length ≤ 1048576) (hpl : ∀ s ∈ ps, s.length ≤ 1048576) (ht : Tab64 w) :
    Calls Tryz.prog 39 #[v, v2] w fun en w' => ∃ v', en = .returned v' ∧ CellsIn w' w.heap.size w'.heap.size v' (r.safes ps) ∧ Below w.heap.size w w' := by
  have HPB : Hid (∀ w1, Below w.heap.size w w1 → Calls Tryz.prog 61 #[v, v2] w1 fun e w' => e = .returned (.bool (r.valid && arePcs ps)) ∧ Below w1.heap.size w1 w') := Lib.hid fun w1 b1 =>
    impl_prob_c w1 ((h.keep (SameIn.of_below b1 (Nat.le_refl _))).more (Nat.le_refl _) b1.size) ((h2.keep (SameIn.of_below b1 (Nat.le_refl _))).more (Nat.le_refl _) b1.size) hpn hpl
  have HHT : Hid (∀ (w1 : World) (u : Value) (x : Reg), Below w.heap.size w w1 → RegRd w1 0 w1.heap.size u x → Calls Tryz.prog 44 #[u, v2] w1 fun e w' => e = .returned (.bool (findB x ps)) ∧ Below w1.heap.size w1 w') := Lib.hid fun w1 u x b1 hx =>
    impl_hasT_c w1 hx ((h2.keep (SameIn.of_below b1 (Nat.le_refl _))).more (Nat.le_refl _) b1.size) hpn hpl (tab64_on ht b1)
  obtain ⟨SF, hSF⟩ : ∃ f, f = r.safeC ps := ⟨_, rfl⟩
  have HSF := Lib.hid hSF
  obtain ⟨BV, hBV⟩ : ∃ b, b = (r.valid && arePcs ps) := ⟨_, rfl⟩
  rw [← hBV] at HPB
  have HBV := Lib.hid hBV
  clear hSF hBV
  obtain ⟨vs2, ⟨A2, c2, rfl, _, _⟩, _⟩ := h2
  obtain ⟨s, rfl, hs⟩ := h
  obtain ⟨A, c, rfl, hm, hr⟩ := id hs
  obtain ⟨i0, hi, hz0, hz1, hz2⟩ := info_parts infoCell
  have H := (Sep.start w).box 31 #[.int .i64 r.w, .slice A r.rows.length c]
  obtain ⟨L, hL⟩ : ∃ L, L = (r.safes ps) := ⟨_, rfl⟩
  rw [← hL]
  have HL := Lib.hid hL
  clear hr hL ht hpn hpl
  go_enter Tryz.func39, Tryz.ntmps39
  go_wp2_with fail
  generalize w.alloc (.cells #[.int .i64 r.w, .slice A r.rows.length c] 31) = W at *
  refine (HPB.out W H.below).mono ?_
  rintro e w1 ⟨rfl, b1⟩
  have H1 := H.step b1
  clear b1 H
  cases hsp : BV
  · have hl0 : L = [] := by rw [HL.out, safes_no (by rw [← HBV.out]; exact hsp)]
    subst hl0
    have hB := H1.below
    clear hsp
    go_wp2
    go_ret
    exact ⟨_, rfl, CellsIn.nil, hB⟩
  · have hV : r.Valid := Reg.valid_iff.1 (by have := HBV.out; rw [hsp] at this; exact (Bool.and_eq_true_iff.1 this.symm).1)
    have hl0 : L = r.cells.filter SF := by rw [HL.out, HSF.out, safes_yes (by rw [← HBV.out]; exact hsp)]
    have HL0 := Lib.hid hl0
    have HV := Lib.hid hV
    have hn6 := hV.2.2.2.1
    have hcl := Reg.cells_le hV
    have c0 := H1.h0.cell 0
    have c1 := H1.h0.cell 1
    simp at c0 c1
    clear hsp hl0 hV
    go_wp2_with fail
    clear c0 c1
    refine (impl_cells_c (r := r) w1 ⟨_, rfl, (hs.keep (SameIn.of_below H1.below (Nat.le_refl _))).more (Nat.le_refl _) H1.size⟩ HV.out).mono ?_
    rintro e w2 ⟨v2, rfl, o2, b2⟩
    obtain ⟨D, d, rfl, _, hrd⟩ := o2.rd
    have H2 := (H1.oiNew b2 o2).nil 60 2
    clear b2 H1 hrd o2
    obtain ⟨C, hC⟩ : ∃ C, C = r.cells := ⟨_, rfl⟩
    rw [← hC] at H2 hcl HL0 ⊢
    have HC := Lib.hid hC
    clear hC
    go_wp2
    go_loopw [5, 17] (fun o i wr => ∃ k : Nat, k ≤ C.length ∧ i = .int .i64 k ∧ Sep w wr [Res.row o 60 2 ((C.take k).filter SF).length (cc ((C.take k).filter SF)), Res.row (.slice D C.length d) 60 2 C.length (cc C), Res.box w.heap.size 31 #[.int .i64 r.w, .slice A r.rows.length c]]) (fun _ i _ => C.length - (intOf i).toNat)
    case atStart => exact ⟨0, Nat.zero_le _, rfl, H2⟩
    case round =>
      clear H2
      obtain ⟨k, hk, rfl, H⟩ := hrel
      by_cases hlt : k < C.length
      · obtain ⟨cl, hcl2⟩ : ∃ cl, C[k]? = some cl := ⟨C[k], List.getElem?_eq_getElem hlt⟩
        obtain ⟨bs, os, cs, he, _, _, hbs⟩ := own_shape H.h1 (by omega)
        injection he with he1 _ he3
        subst he1 he3
        obtain ⟨q0, q1⟩ := own_cell2 H.h1 hcl2
        have hst := safe_take (p := SF) hcl2
        have hfl := safe_le (p := SF) (l := C) (k := k)
        have HST := Lib.hid hst
        have hx0 : (wr.alloc (.cells #[.int .i64 cl.x, .int .i64 cl.y] 60)).cell? ⟨w.heap.size, 0, none⟩ = some (.int .i64 r.w) := (H.alloc _).h2.cell 0
        have hx1 : (wr.alloc (.cells #[.int .i64 cl.x, .int .i64 cl.y] 60)).cell? ⟨w.heap.size, 1, none⟩ = some (.slice A r.rows.length c) := (H.alloc _).h2.cell 1
        have H3 := H.box 60 #[.int .i64 cl.x, .int .i64 cl.y]
        clear hst H
        go_wp2_with fail
        clear q0 q1 hx0 hx1
        generalize wr.alloc (.cells #[.int .i64 cl.x, .int .i64 cl.y] 60) = wa at *
        refine (impl_remove_c (r := r) cl.x cl.y wa ⟨_, rfl, (hs.keep (SameIn.of_below H3.below (Nat.le_refl _))).more (Nat.le_refl _) H3.size⟩ (by omega)).mono ?_
        rintro e w3 ⟨v3, rfl, ⟨s3, rfl, o3⟩, b3⟩
        obtain ⟨E, f, rfl, _, _⟩ := o3.rd
        obtain ⟨x, hx⟩ : ∃ x, x = r.less cl.x cl.y := ⟨_, rfl⟩
        have hpv : SF cl = findB x ps := by rw [hx, HSF.out]; rfl
        rw [← hx] at o3 ⊢
        have HPV := Lib.hid hpv
        clear hx hpv
        have H4 := (H3.oiNew b3 o3).box 31 #[.int .i64 x.w, .slice E x.rows.length f]
        clear b3 H3 o3
        go_wp2_with fail
        generalize w3.alloc (.cells #[.int .i64 x.w, .slice E x.rows.length f] 31) = wb at *
        refine (HHT.out wb _ x H4.below ⟨_, rfl, (H4.g1.oi.sr).more (Nat.zero_le _) (Nat.le_refl _)⟩).mono ?_
        rintro e w5 ⟨rfl, b5⟩
        have H5 := H4.step b5
        clear b5 H4
        cases hxs : findB x ps
        rotate_left
        · have hst := HST.out
          rw [HPV.out, hxs] at hst
          simp only [if_true] at hst
          have HS := Lib.hid hst
          have k0 := H5.h2.cell 0
          have k1 := H5.h2.cell 1
          simp at k0 k1
          clear hst hxs
          go_wp2_with (at_builtin; refine wpList_app rfl _ _ 29 rfl 60 i0 _ 2 16 Tryz.underlying29 hi hz0 hz1 hz2 rfl (by decide) _ _ _ rfl (H5.alloc _).g3 _ _ _ [.int .i64 cl.x, .int .i64 cl.y] rfl (Rd.fresh w5 _ #[.int .i64 cl.x, .int .i64 cl.y] 2 1 rfl) oc2 (by unfold maxLen; omega) (by omega) ?_; intro v' w6 H6; have H7 := H6.p3.drop.drop.drop; clear H6 H5 k0 k1)
          have H8 : Sep w w6 [Res.row v' 60 2 ((C.take (k + 1)).filter SF).length (cc ((C.take (k + 1)).filter SF)), Res.row (.slice (some ⟨bs, os, none⟩) C.length d) 60 2 C.length (cc C), Res.box w.heap.size 31 #[.int .i64 r.w, .slice A r.rows.length c]] := by
            rw [HS.out, cc_append, List.length_append]; exact H7
          clear H7
          go_wp2
          go_roundw
          case rel => exact ⟨k + 1, by omega, by go_num, H8⟩
          case measure => simp [intOf]; omega
        · have hst := HST.out
          rw [HPV.out, hxs] at hst
          simp only [Bool.false_eq_true, if_false, List.append_nil] at hst
          have HS := Lib.hid hst
          have H7 := H5.drop.drop.drop
          clear hst hxs H5
          go_wp2
          go_roundw
          case rel => exact ⟨k + 1, by omega, by go_num, by rw [HS.out]; exact H7⟩
          case measure => simp [intOf]; omega
      · obtain rfl : k = C.length := by omega
        rw [List.take_length] at H
        go_wp2
        go_ret
        rw [HL0.out]
        exact ⟨_, rfl, CellsIn.mk H.oi.1 rfl rfl, H.below⟩
end Go.Proofs.YtelneohlpljblaaGreatDoor
