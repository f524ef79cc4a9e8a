
/-
  The laws' helpers over []int and Region. The walks of 'KeptMasks': the program's and the reference's. The drawings of the law FnEdits: tilings of a region that is edited. The drawings of the law FnEdits that rest on an edited tiling. The helpers of the laws over bytes: too many bytes, lists compared.
-/
import Derived.Test.YtfildenelgbmlaaGreatDoorProg
import Derived.Test.YtfildenelgbmlaaGreatDoorKinds
import Derived.Test.YtfildenelgbmlaaGreatDoorMskX
import Derived.Test.YtfildenelgbmlaaGreatDoorSgX
import Derived.Test.YtfildenelgbmlaaGreatDoorFeA
import Derived.Test.YtfildenelgbmlaaGreatDoorFtS
import Derived.Test.YtfildenelgbmlaaGreatDoorFeC
import Derived.Test.YtfildenelgbmlaaGreatDoorDraw
import Derived.Test.YtfildenelgbmlaaGreatDoorCwWalks
import Derived.Test.YtfildenelgbmlaaGreatDoorEqW
namespace Go.Proofs.YtfildenelgbmlaaGreatDoor
open Go.RowKit

set_option maxRecDepth 100000 in
theorem infoInt : (Tryz.prog.info? 3).map (fun i => (i.zero, i.size, i.bytes)) = some (some (.int .i64 0), 1, 8) := by kernel_rfl

/-! regions -/
end Go.Proofs.YtfildenelgbmlaaGreatDoor

namespace Go.Proofs.YtfildenelgbmlaaGreatDoor
open Go.RowKit

def keptB (e : Reg) (m : Int) : Bool := decide (0 < m) && e.isMask m
def keptMasks (r : Reg) (t : List Int) (e : Reg) : List Int := if sameGrid r e = true then t.filter (keptB e) else []
theorem keptMasks_length {r e : Reg} {t : List Int} : (keptMasks r t e).length ≤ t.length := by
  unfold keptMasks
  split
  · exact List.length_filter_le _ _
  · simp
theorem filter_take {α : Type} (p : α → Bool) {l : List α} {k : Nat} {a : α} (h : l[k]? = some a) : (l.take (k + 1)).filter p = (l.take k).filter p ++ (if p a then [a] else []) := by
  have hk := (List.getElem?_eq_some_iff.1 h).1
  rw [List.take_succ_eq_append_getElem hk, List.filter_append]
  have : l[k] = a := (List.getElem?_eq_some_iff.1 h).2
  rw [this]
  cases hp : p a <;> simp [hp]
theorem filter_take_le {α : Type} (p : α → Bool) (l : List α) (k : Nat) : ((l.take k).filter p).length ≤ k := Nat.le_trans (List.length_filter_le _ _) (List.length_take_le _ _)

set_option maxRecDepth 100000 in
set_option maxHeartbeats 1600000 in
theorem impl_KeptMasks_c {v1 v2 v3 : Value} {r e : Reg} {t : List Int} (w : World) (h1 : RegRd w 0 w.heap.size v1 r) (h2 : IntsRd w 0 w.heap.size v2 t) (h3 : RegRd w 0 w.heap.size v3 e) (hi64 : ∀ a ∈ t, I64 a) (ht : t.length ≤ 1048576) :
    Calls Tryz.prog 51 #[v1, v2, v3] w fun en w' => ∃ v', en = .returned v' ∧ IntsIn w' w.heap.size w'.heap.size v' (keptMasks r t e) ∧ Below w.heap.size w w' := by
  obtain ⟨s1, rfl, hs1⟩ := h1
  obtain ⟨A1, c1, rfl, hm1, hr1⟩ := id hs1
  obtain ⟨A2, c2, rfl, hm2, hr2⟩ := id h2
  obtain ⟨s3, rfl, hs3⟩ := h3
  obtain ⟨A3, c3, rfl, hm3, hr3⟩ := id hs3
  obtain ⟨i0, hi, hz0, hz1, hz2⟩ := info_parts infoInt
  unfold maxLen at hm2
  have hbel : Below w.heap.size w ((w.alloc (.cells #[.int .i64 r.w, .slice A1 r.rows.length c1] 36)).alloc (.cells #[.int .i64 e.w, .slice A3 e.rows.length c3] 36)) := ((Below.refl _ _).alloc (Nat.le_refl _) _).alloc (by simp) _
  have B1 : Blk ((w.alloc (.cells #[.int .i64 r.w, .slice A1 r.rows.length c1] 36)).alloc (.cells #[.int .i64 e.w, .slice A3 e.rows.length c3] 36)) (w.heap.size + 1) 36 #[.int .i64 e.w, .slice A3 e.rows.length c3] := by
    have := Blk.new (w.alloc (.cells #[.int .i64 r.w, .slice A1 r.rows.length c1] 36)) 36 #[.int .i64 e.w, .slice A3 e.rows.length c3]
    simpa using this
  have hsz : w.heap.size + 2 = ((w.alloc (.cells #[.int .i64 r.w, .slice A1 r.rows.length c1] 36)).alloc (.cells #[.int .i64 e.w, .slice A3 e.rows.length c3] 36)).heap.size := by simp
  go_enter Tryz.func51, Tryz.ntmps51
  go_wp2_with fail
  generalize ((w.alloc (.cells #[.int .i64 r.w, .slice A1 r.rows.length c1] 36)).alloc (.cells #[.int .i64 e.w, .slice A3 e.rows.length c3] 36)) = W at *
  refine (sameGrid_c (a := r) (b := e) _ ⟨_, rfl, ((hs1.keep (SameIn.of_below hbel (Nat.le_refl _))).more (Nat.le_refl _) (by omega))⟩ ⟨_, rfl, ((hs3.keep (SameIn.of_below hbel (Nat.le_refl _))).more (Nat.le_refl _) (by omega))⟩).mono ?_
  rintro en w1 ⟨rfl, hb1⟩
  have hbel1 := hbel.trans (hb1.mono (by omega))
  have B1' := B1.below hb1 (by omega)
  have hsz1 := hb1.size
  have HZ : w.heap.size + 2 ≤ W.heap.size := by omega
  clear hsz B1
  have hK : keptMasks r t e = if sameGrid r e = true then t.filter (keptB e) else [] := rfl
  cases hg : sameGrid r e
  · rw [hg, if_neg (by decide)] at hK
    have HK := Lib.hid hK
    clear hK hg B1'
    go_wp2
    go_ret
    exact ⟨_, rfl, by rw [HK.out]; exact IntsIn.nil, hbel1⟩
  · rw [hg, if_pos rfl] at hK
    have hev : e.Valid := by have := hg; simp [sameGrid] at this; exact Reg.valid_iff.1 this.1.1.2
    have HK := Lib.hid hK
    have HE := Lib.hid hev
    clear hK hg hev
    go_wp2
    go_loopw [7, 9, 16] (fun o q i wr => ∃ k : Nat, k ≤ t.length ∧ i = .int .i64 k ∧ wr.ownsRow (w.heap.size + 2) 3 1 o ((t.take k).filter (keptB e)).length (ic ((t.take k).filter (keptB e))) ∧ Below (w.heap.size + 2) w1 wr) (fun _ _ i _ => t.length - (intOf i).toNat)
    case atStart => exact ⟨0, Nat.zero_le _, rfl, World.ownsRow_nil _ _ _ _, Below.refl _ _⟩
    case round =>
      obtain ⟨k, hk, rfl, hown, hbr⟩ := hrel
      have hszr := hbr.size
      have hbw := hbel1.trans (hbr.mono (by omega))
      by_cases hlt : k < t.length
      · obtain ⟨b, off, a, rfl, _, hb, hla, q1⟩ := (hr2.keep (SameIn.of_below hbw (Nat.le_refl _))).at1 hlt
        have hft := filter_take (keptB e) hla
        have hfl := filter_take_le (keptB e) t k
        have Bk := B1'.below hbr (by omega)
        have k0 := Bk.cell 0
        have k1 := Bk.cell 1
        simp at k0 k1
        have hai := hi64 a (List.mem_of_getElem? hla)
        have HA := Lib.hid hai
        clear hr2 hla hai Bk
        by_cases hp : 0 < a
        · go_wp2_with fail
          refine (isMask_c (r := e) a _ ⟨_, rfl, ((hs3.keep (SameIn.of_below hbw (Nat.le_refl _))).more (Nat.le_refl _) (by omega))⟩ HE.out HA.out.2).mono ?_
          rintro en w2 ⟨rfl, hb2⟩
          have hbr2 := hbr.trans (hb2.mono (by omega))
          have hown2 := own_below hown hb2 (Nat.le_refl _)
          have hsz2 := hbr2.size
          cases hq : e.isMask a
          · have hkb : keptB e a = false := by simp [keptB, hq]
            rw [hkb] at hft
            have HF := Lib.hid hft
            clear hft hkb hq hown
            go_wp2
            go_roundw
            case rel => exact ⟨k + 1, by omega, by go_num, by rw [HF.out]; simpa using hown2, hbr2⟩
            case measure => simp [intOf]; omega
          · have hkb : keptB e a = true := by simp [keptB, hq, hp]
            rw [hkb] at hft
            have HF := Lib.hid hft
            clear hft hkb hq hown
            go_wp2_with (at_builtin; refine wpList_append_own _ rfl _ _ 31 rfl (w.heap.size + 2) 3 i0 _ 1 8 Tryz.underlying31 hi hz0 hz1 hz2 rfl (by decide) _ _ _ rfl (hown2.alloc _) ⟨w2.heap.size, 0, none⟩ 1 1 [.int .i64 a] rfl rfl (news_alloc w2 #[.int .i64 a] _) (by intro u hu; simp at hu; subst hu; rfl) (by unfold maxLen; omega) (by omega) (by simp; omega) ?_; intro v' w3 hown3 hgrow _)
            have hbr3 : Below (w.heap.size + 2) w1 w3 := (hbr2.alloc (by omega) _).grown hgrow (by simp; omega) (own_ge hown2)
            have hown4 : w3.ownsRow (w.heap.size + 2) 3 1 v' ((t.take (k + 1)).filter (keptB e)).length (ic ((t.take (k + 1)).filter (keptB e))) := by
              have e5 := HF.out
              simp only [if_true] at e5
              rw [e5, ic_append, List.length_append]
              exact hown3
            clear hown3 hgrow hown2
            go_wp2
            go_roundw
            case rel => exact ⟨k + 1, by omega, by go_num, hown4, hbr3⟩
            case measure => simp [intOf]; omega
        · have hkb : keptB e a = false := by simp [keptB, hp]
          rw [hkb] at hft
          have HF := Lib.hid hft
          clear hft hkb
          go_wp2_with fail
          go_roundw
          case rel => exact ⟨k + 1, by omega, by go_num, by rw [HF.out]; simpa using hown, hbr⟩
          case measure => simp [intOf]; omega
      · go_wp2
        go_ret
        have hkn : k = t.length := by omega
        subst hkn
        exact ⟨_, rfl, IntsIn.mk (own_base hown (by omega)) (by rw [HK.out, List.take_length]) (by rw [HK.out, List.take_length]), hbw⟩

set_option maxRecDepth 100000 in
set_option maxHeartbeats 1600000 in
theorem spec_KeptMasks_c {v1 v2 v3 : Value} {r e : Reg} {t : List Int} (w : World) (h1 : RegRd w 0 w.heap.size v1 r) (h2 : IntsRd w 0 w.heap.size v2 t) (h3 : RegRd w 0 w.heap.size v3 e) (hi64 : ∀ a ∈ t, I64 a) (ht : t.length ≤ 1048576) :
    Calls Tryz.prog 52 #[v1, v2, v3] w fun en w' => ∃ v', en = .returned v' ∧ IntsIn w' w.heap.size w'.heap.size v' (keptMasks r t e) ∧ Below w.heap.size w w' := by
  obtain ⟨s1, rfl, hs1⟩ := h1
  obtain ⟨A1, c1, rfl, hm1, hr1⟩ := id hs1
  obtain ⟨A2, c2, rfl, hm2, hr2⟩ := id h2
  obtain ⟨s3, rfl, hs3⟩ := h3
  obtain ⟨A3, c3, rfl, hm3, hr3⟩ := id hs3
  obtain ⟨i0, hi, hz0, hz1, hz2⟩ := info_parts infoInt
  unfold maxLen at hm2
  have hbel : Below w.heap.size w (((w.alloc (.cells #[.int .i64 r.w, .slice A1 r.rows.length c1] 36)).alloc (.cells #[.int .i64 e.w, .slice A3 e.rows.length c3] 36)).alloc (.cells #[] 3)) := (((Below.refl _ _).alloc (Nat.le_refl _) _).alloc (by simp) _).alloc (by simp; omega) _
  have B0 : Blk (((w.alloc (.cells #[.int .i64 r.w, .slice A1 r.rows.length c1] 36)).alloc (.cells #[.int .i64 e.w, .slice A3 e.rows.length c3] 36)).alloc (.cells #[] 3)) w.heap.size 36 #[.int .i64 r.w, .slice A1 r.rows.length c1] := ((Blk.new _ _ _).alloc _).alloc _
  have B1 : Blk (((w.alloc (.cells #[.int .i64 r.w, .slice A1 r.rows.length c1] 36)).alloc (.cells #[.int .i64 e.w, .slice A3 e.rows.length c3] 36)).alloc (.cells #[] 3)) (w.heap.size + 1) 36 #[.int .i64 e.w, .slice A3 e.rows.length c3] := by
    have := (Blk.new (w.alloc (.cells #[.int .i64 r.w, .slice A1 r.rows.length c1] 36)) 36 #[.int .i64 e.w, .slice A3 e.rows.length c3]).alloc (.cells #[] 3)
    simpa using this
  have B2 : Blk (((w.alloc (.cells #[.int .i64 r.w, .slice A1 r.rows.length c1] 36)).alloc (.cells #[.int .i64 e.w, .slice A3 e.rows.length c3] 36)).alloc (.cells #[] 3)) (w.heap.size + 1 + 1) 3 #[] := by
    have := Blk.new ((w.alloc (.cells #[.int .i64 r.w, .slice A1 r.rows.length c1] 36)).alloc (.cells #[.int .i64 e.w, .slice A3 e.rows.length c3] 36)) 3 #[]
    simpa using this
  have hsz : w.heap.size + 3 = (((w.alloc (.cells #[.int .i64 r.w, .slice A1 r.rows.length c1] 36)).alloc (.cells #[.int .i64 e.w, .slice A3 e.rows.length c3] 36)).alloc (.cells #[] 3)).heap.size := by simp
  obtain ⟨R, hR⟩ : ∃ R, R = keptMasks r t e := ⟨_, rfl⟩
  rw [← hR]
  have HR := Lib.hid hR
  clear hR
  go_enter Tryz.func52, Tryz.ntmps52
  go_wp2_with fail
  generalize (((w.alloc (.cells #[.int .i64 r.w, .slice A1 r.rows.length c1] 36)).alloc (.cells #[.int .i64 e.w, .slice A3 e.rows.length c3] 36)).alloc (.cells #[] 3)) = W at *
  have HZ : w.heap.size + 3 ≤ W.heap.size := by omega
  clear hsz
  refine (spec_IsRegion_c (r := r) _ ⟨_, rfl, ((hs1.keep (SameIn.of_below hbel (Nat.le_refl _))).more (Nat.le_refl _) (by omega))⟩).mono ?_
  rintro en w1 ⟨rfl, hb1⟩
  replace B0 := B0.below hb1 (by omega)
  replace B1 := B1.below hb1 (by omega)
  replace B2 := B2.below hb1 (by omega)
  replace hbel := hbel.trans (hb1.mono (by omega))
  have sz1 := hb1.size
  clear hb1
  cases ha : r.valid
  · obtain rfl : R = [] := by rw [HR.out]; simp [keptMasks, sameGrid, ha]
    have HB := Lib.hid B2
    clear ha B0 B1 B2
    go_wp2
    go_ret
    exact ⟨_, rfl, IntsIn.mk (own_zero HB.out (by omega)) rfl rfl, hbel⟩
  · have HB0 := Lib.hid B0
    have HB1 := Lib.hid B1
    have HB2 := Lib.hid B2
    have c10 := B1.cell 0
    have c11 := B1.cell 1
    simp at c10 c11
    clear B0 B1 B2
    go_wp2_with fail
    clear c10 c11
    refine (spec_IsRegion_c (r := e) _ ⟨_, rfl, ((hs3.keep (SameIn.of_below hbel (Nat.le_refl _))).more (Nat.le_refl _) (by omega))⟩).mono ?_
    rintro en w2 ⟨rfl, hb2⟩
    have B0 := HB0.out.below hb2 (by omega)
    have B1 := HB1.out.below hb2 (by omega)
    have B2 := HB2.out.below hb2 (by omega)
    replace hbel := hbel.trans (hb2.mono (by omega))
    have sz2 := hb2.size
    clear hb2 HB0 HB1 HB2
    have HB0 := Lib.hid B0
    have HB1 := Lib.hid B1
    have HB2 := Lib.hid B2
    cases hv : e.valid
    · obtain rfl : R = [] := by rw [HR.out]; simp [keptMasks, sameGrid, hv]
      clear ha hv B0 B1 B2
      go_wp2
      go_ret
      exact ⟨_, rfl, IntsIn.mk (own_zero HB2.out (by omega)) rfl rfl, hbel⟩
    · have c00 := B0.cell 0
      have c01 := B0.cell 1
      have c10 := B1.cell 0
      have c11 := B1.cell 1
      simp at c00 c01 c10 c11
      clear B0 B1 B2
      have hv2 := Reg.valid_iff.1 hv
      have HV := Lib.hid hv2
      clear hv2
      by_cases hw : r.w = e.w
      · have e1 : (r.w != e.w) = false := by simp [hw]
        by_cases hl : r.rows.length = e.rows.length
        · have e2 : ((r.rows.length : Int) != (e.rows.length : Int)) = false := by simp [hl]
          have hRR : R = t.filter (keptB e) := by rw [HR.out]; simp [keptMasks, sameGrid, ha, hv, hw, hl]
          have HRR := Lib.hid hRR
          clear hRR HR ha hv hw hl
          go_wp2_with fail
          clear e1 e2 c00 c01 c10 c11
          refine (spec_mask_c (r := e) _ ⟨_, rfl, ((hs3.keep (SameIn.of_below hbel (Nat.le_refl _))).more (Nat.le_refl _) (by omega))⟩ HV.out).mono ?_
          rintro en w3 ⟨rfl, hb3⟩
          have hown0 := own_below (own_zero (sz := 1) (e := 3) (base := w.heap.size) HB2.out (by omega)) hb3 (Nat.le_refl _)
          replace hbel := hbel.trans (hb3.mono (by omega))
          have sz3 := hb3.size
          have hml := Reg.mask_lt HV.out
          obtain ⟨mm, hmm⟩ : ∃ mm, mm = e.mask := ⟨_, rfl⟩
          rw [← hmm] at hml ⊢
          have HM := Lib.hid hmm
          clear hb3 hmm
          go_wp2
          go_loopw [7, 9] (fun o i wr => ∃ k : Nat, k ≤ t.length ∧ i = .int .i64 k ∧ wr.ownsRow w.heap.size 3 1 o ((t.take k).filter (keptB e)).length (ic ((t.take k).filter (keptB e))) ∧ Below w.heap.size w wr) (fun _ i _ => t.length - (intOf i).toNat)
          case atStart => exact ⟨0, Nat.zero_le _, rfl, hown0, hbel⟩
          case round =>
            obtain ⟨k, hk, rfl, hown, hbr⟩ := hrel
            have hszr := hbr.size
            by_cases hlt : k < t.length
            · obtain ⟨b, off, a, rfl, _, hb, hla, q1⟩ := (hr2.keep (SameIn.of_below hbr (Nat.le_refl _))).at1 hlt
              have hft := filter_take (keptB e) hla
              have hfl := filter_take_le (keptB e) t k
              have hai := hi64 a (List.mem_of_getElem? hla)
              have hai2 := hai.2
              have i0' : (0 : Int) ≤ (k : Int) := Int.natCast_nonneg _
              have i1' : (k : Int) < (t.length : Int) := by omega
              clear hr2 hla hai hown0 hbel
              by_cases hp : 0 < a
              · have hkb : keptB e a = (bits .and .i64 a (mm : Int) == a) := by
                  obtain ⟨m, rfl⟩ := Int.eq_ofNat_of_zero_le (show 0 ≤ a by omega)
                  rw [i64_and_nat m mm (by omega) (by omega), HM.out]
                  simp only [keptB, Reg.isMask, Int.toNat_natCast]
                  rw [Bool.eq_iff_iff]
                  simp
                  omega
                have d1 : decide (0 < a) = true := by simpa using hp
                cases hq : keptB e a
                · rw [hq] at hkb hft
                  have hkb' := hkb.symm
                  have HF := Lib.hid hft
                  clear hft hkb hq
                  go_wp2_with fail
                  go_quiet (fail)
                  go_wp2
                  go_roundw
                  case rel => exact ⟨k + 1, by omega, by go_num, by rw [HF.out]; simp only [Bool.false_eq_true, if_false, List.append_nil]; exact hown, below_drewN hbr _⟩
                  case measure => simp [intOf]; omega
                · rw [hq] at hkb hft
                  have hkb' := hkb.symm
                  have HF := Lib.hid hft
                  clear hft hkb hq
                  go_wp2_with fail
                  go_quiet (fail)
                  have hbr' := below_drewN hbr nq
                  have hown' : (wr.drewN nq).ownsRow w.heap.size 3 1 u7 ((t.take k).filter (keptB e)).length (ic ((t.take k).filter (keptB e))) := hown
                  have q1' : (wr.drewN nq).cell? ⟨b, off + k, none⟩ = some (.int .i64 a) := q1
                  have hszn : wr.heap.size ≤ (wr.drewN nq).heap.size := Nat.le_refl _
                  clear hbr hown q1
                  generalize wr.drewN nq = w4 at *
                  go_wp2_with (at_builtin; refine wpList_append_own _ rfl _ _ 31 rfl w.heap.size 3 i0 _ 1 8 Tryz.underlying31 hi hz0 hz1 hz2 rfl (by decide) _ _ _ rfl (hown'.alloc _) ⟨w4.heap.size, 0, none⟩ 1 1 [.int .i64 a] rfl rfl (news_alloc w4 #[.int .i64 a] _) (by intro u hu; simp at hu; subst hu; rfl) (by unfold maxLen; omega) (by omega) (by simp; omega) ?_; intro v' w5 hown3 hgrow _)
                  have hbr3 : Below w.heap.size w w5 := (hbr'.alloc (by omega) _).grown hgrow (by simp; omega) (own_ge hown')
                  have hown4 : w5.ownsRow w.heap.size 3 1 v' ((t.take (k + 1)).filter (keptB e)).length (ic ((t.take (k + 1)).filter (keptB e))) := by
                    have e5 := HF.out
                    simp only [if_true] at e5
                    rw [e5, ic_append, List.length_append]
                    exact hown3
                  clear hown3 hgrow hown'
                  go_wp2
                  go_roundw
                  case rel => exact ⟨k + 1, by omega, by go_num, hown4, hbr3⟩
                  case measure => simp [intOf]; omega
              · have hkb : keptB e a = false := by simp [keptB, hp]
                rw [hkb] at hft
                have HF := Lib.hid hft
                have hp' : a ≤ 0 := by omega
                have d1 : decide (0 < a) = false := by simpa using hp
                clear hft hkb
                go_wp2_with fail
                go_quiet (fail)
                go_wp2
                go_roundw
                case rel => exact ⟨k + 1, by omega, by go_num, by rw [HF.out]; simp only [Bool.false_eq_true, if_false, List.append_nil]; exact hown, below_drewN hbr _⟩
                case measure => simp [intOf]; omega
            · go_wp2
              go_ret
              have hkn : k = t.length := by omega
              subst hkn
              exact ⟨_, rfl, IntsIn.mk hown (by rw [HRR.out, List.take_length]) (by rw [HRR.out, List.take_length]), hbr⟩
        · have e2 : ((r.rows.length : Int) != (e.rows.length : Int)) = true := by simp; omega
          obtain rfl : R = [] := by rw [HR.out]; simp [keptMasks, sameGrid, hl]
          clear ha hv hw hl
          go_wp2
          go_ret
          exact ⟨_, rfl, IntsIn.mk (own_zero HB2.out (by omega)) rfl rfl, hbel⟩
      · have e1 : (r.w != e.w) = true := by simp [hw]
        obtain rfl : R = [] := by rw [HR.out]; simp [keptMasks, sameGrid, hw]
        clear ha hv hw
        go_wp2
        go_ret
        exact ⟨_, rfl, IntsIn.mk (own_zero HB2.out (by omega)) rfl rfl, hbel⟩
end Go.Proofs.YtfildenelgbmlaaGreatDoor

namespace Go.Proofs.YtfildenelgbmlaaGreatDoor
open Go.RowKit

theorem Sep.g6 {w0 w : World} {a b c d f g k : Res} {L : List Res} (h : Sep w0 w (a :: b :: c :: d :: f :: g :: k :: L)) : Sep w0 w (k :: a :: b :: c :: d :: f :: g :: L) := (h.onTail (L' := k :: b :: c :: d :: f :: g :: L) (by intro q; simp only [List.mem_cons]; grind) h.drop.g5).sw1
theorem Sep.h6 {w0 w : World} {a b c d f g k : Res} {L : List Res} (h : Sep w0 w (a :: b :: c :: d :: f :: g :: k :: L)) : k.holds w := h.drop.drop.drop.drop.drop.drop.1
theorem findL_ok (r : Reg) (ps : List (List Cell)) : (∀ a ∈ nl (findL r ps), I64 a) ∧ (nl (findL r ps)).length ≤ 1048576 := by
  unfold findL
  split
  · rename_i h
    have hv := Reg.valid_iff.1 (Bool.and_eq_true_iff.1 h).1
    have hM : r.mask < 2 ^ 36 := by have := Reg.mask_lt hv; omega
    unfold ordR
    cases ht : (til (allN r ps) r.mask)[0]? with
    | none => exact ⟨fun a ha => absurd ha (by simp [nl]), by simp [nl]⟩
    | some t =>
      have hin := til_in r.mask hM t (List.mem_of_getElem? ht)
      refine ⟨fun a ha => ?_, ?_⟩
      · obtain ⟨m, hm, rfl⟩ := mem_nl ha
        have h1 := (hin.1 m hm).2.1
        have h2 : m ≤ r.mask := by rw [← h1]; exact Nat.and_le_right
        unfold I64
        omega
      · have := til_len36 hM (List.mem_of_getElem? ht)
        simp only [nl, Option.getD_some, List.length_map]
        omega
  · exact ⟨fun a ha => absurd ha (by simp [nl]), by simp [nl]⟩
/-- a drawn region with pieces, its first tiling, and a region by it -/
def TilD (w : World) : Ending → World → Prop := fun e w' => ∃ (vr vp vl vx : Value) (r x : Reg) (ps : List (List Cell)) (T : List Int), e = .returned (.tuple #[vr, vp, vl, vx]) ∧ r.rows.length ≤ 20 ∧ x.rows.length ≤ 20 ∧ ps.length ≤ 3 ∧ (∀ s ∈ ps, s.length ≤ 8) ∧ (∀ a ∈ T, I64 a) ∧ T.length ≤ 1048576 ∧
  RegRd w' w.heap.size w'.heap.size vr r ∧ CellSSRd w' w.heap.size w'.heap.size vp ps ∧ IntsRd w' w.heap.size w'.heap.size vl T ∧ RegRd w' w.heap.size w'.heap.size vx x ∧ Below w.heap.size w w'
set_option maxRecDepth 100000 in
set_option maxHeartbeats 6400000 in
theorem l29Tiling_c {v : Value} {l : List UInt8} (w : World) (h : BytesRd w 0 w.heap.size v l) (hn : l.length ≤ 1048576) :
    Calls Tryz.prog 114 #[v] w (TilD w) := by
  have HBY : Hid (∀ w', Below w.heap.size w w' → BytesRd w' 0 w'.heap.size v l) := Lib.hid fun w' b => (h.keep (SameIn.of_below b (Nat.le_refl _))).more (Nat.le_refl _) b.size
  have H := ((Sep.start w).box 36 #[.int .i64 0, .slice none 0 0]).box 36 #[.int .i64 0, .slice none 0 0]
  simp only [World.size_alloc] at H
  go_enter Tryz.func114, Tryz.ntmps114
  go_wp2_with fail
  obtain ⟨gz, hgz⟩ : ∃ gz : World, gz = w := ⟨_, rfl⟩
  subst hgz
  generalize (gz.alloc (.cells #[.int .i64 0, .slice none 0 0] 36)).alloc (.cells #[.int .i64 0, .slice none 0 0] 36) = W at *
  refine (l1New_c h hn H).mono ?_
  rintro e w1 ⟨g, rfl, H1⟩
  clear H h
  go_wp2_with fail
  refine (l8Both_c w1 (HBY.out w1 H1.sep.below) hn).mono ?_
  rintro e w2 ⟨vr, vp, r, ps, rfl, hd, ⟨s, rfl, o2⟩, hp, hp3, hp8, b2⟩
  have hr := IntsIn.rd o2
  obtain ⟨K, hKd⟩ : ∃ K, K = Res.area w1.heap.size w2.heap.size (fun u => IntsRd u w1.heap.size w2.heap.size s r.rows ∧ CellSSRd u w1.heap.size w2.heap.size vp ps) (fun u u' hs hp => ⟨hp.1.keep hs, hp.2.keep hs⟩) := ⟨_, rfl⟩
  have H2 := H1.map (fun X h => (Sep.area h b2 (P := fun u => IntsRd u w1.heap.size w2.heap.size s r.rows ∧ CellSSRd u w1.heap.size w2.heap.size vp ps) (fun u u' hs hp => ⟨hp.1.keep hs, hp.2.keep hs⟩) ⟨hr, hp⟩).g1)
  have h1z := H1.sep.size
  obtain ⟨A, c, rfl, _, _⟩ := hr
  obtain ⟨vs, ⟨Ap, cp, rfl, _, _⟩, _⟩ := hp
  rw [← hKd] at H2
  have HK : Hid (∀ w : World, K.holds w → IntsRd w 0 w.heap.size (.slice A r.rows.length c) r.rows) := Lib.hid fun w hw => by rw [hKd] at hw; exact SR_up hw.1.1 hw.2 (Nat.zero_le _)
  have HKR : Hid (∀ w : World, K.holds w → RegRd w gz.heap.size w.heap.size (.agg #[.int .i64 r.w, .slice A r.rows.length c]) r) := Lib.hid fun w hw => by rw [hKd] at hw; exact ⟨_, rfl, SR_up hw.1.1 hw.2 h1z⟩
  have HKP : Hid (∀ w : World, K.holds w → CellSSRd w gz.heap.size w.heap.size (.slice Ap ps.length cp) ps) := Lib.hid fun w hw => by rw [hKd] at hw; exact SS_up hw.1.2 hw.2 h1z
  have H3 := H2.map (fun X h => (h.box 36 #[.int .i64 r.w, .slice A r.rows.length c]).p2)
  have HD := Lib.hid hd
  have HP8 := Lib.hid hp8
  have hr20 := hd.2
  have hr21 : r.rows.length ≤ 1048576 := by omega
  clear H1 H2 hKd b2 hd hp8 o2 HBY
  go_upto_region 3 with fail
  obtain ⟨g5, hg5⟩ : ∃ k, k = w2.heap.size := ⟨_, rfl⟩
  rw [← hg5] at H3 ⊢
  generalize w2.alloc (.cells #[.int .i64 r.w, .slice A r.rows.length c] 36) = wq at *
  clear hg5
  have x0 := H3.sep.h1.cell 0
  have x1 := H3.sep.h1.cell 1
  simp at x0 x1
  have HF := Lib.hid (spec_find_c wq (regOf (HK.out _ H3.sep.h0)) ((HKP.out _ H3.sep.h0).more (Nat.zero_le _) (Nat.le_refl _)) (by omega) (fun s hs => by have := HP8.out s hs; omega))
  have HTO := findL_ok r ps
  obtain ⟨T, hT⟩ : ∃ T, T = nl (findL r ps) := ⟨_, rfl⟩
  rw [← hT] at HF HTO
  have HT64 := Lib.hid HTO.1
  have hTl := HTO.2
  clear hT HTO
  go_wp2_with fail
  refine (HF.out).mono ?_
  rintro e w3 ⟨vt, rfl, ot, bt⟩
  obtain ⟨At, ct, rfl, _, _⟩ := (IntsIn.rd ot)
  have H4 := H3.map (fun X h => (h.oiNew bt ot).p3)
  clear H3 x0 x1 HF bt ot
  have H3 := H4
  clear H4
  have x0 := H3.sep.h1.cell 0
  have x1 := H3.sep.h1.cell 1
  simp at x0 x1
  go_upto_region 4 with fail
  go_region_held3 (fun w' => w'.cell? ⟨g5, 0, none⟩ = some (.int .i64 r.w) ∧ w'.cell? ⟨g5, 1, none⟩ = some (.slice A r.rows.length c))
    (first | ((try dsimp only); refine ⟨?_, ?_⟩ <;> assumption) | go_keep)
    (first
    | (go_at_call 108; (with_reducible refine (l29Edits_c HD.out HK.out (H3.map (fun X h => h.drew))).mono ?_); rintro e w4 ⟨ve, M, rfl, hM, H4⟩; obtain ⟨Ae, ce, rfl, _, _, _⟩ := Res.row_at H4.sep.h0; have x0' := H4.sep.h2.cell 0; have x1' := H4.sep.h2.cell 1; simp at x0' x1'; have H4b := H4.map (fun X h => (h.box 36 #[.int .i64 0, .slice none 0 0]).g1); have y0' := H4b.sep.h3.cell 0; have y1' := H4b.sep.h3.cell 1; simp at y0' y1')
    | (go_at_call 108; (with_reducible refine (l29Edits_c HD.out HK.out (H3.map (fun X h => (h.box 36 #[.int .i64 0, .slice none 0 0]).drew.p2))).mono ?_); rintro e w4 ⟨ve, M, rfl, hM, H4p⟩; obtain ⟨Ae, ce, rfl, _, _, _⟩ := Res.row_at H4p.sep.h0; have x0' := H4p.sep.h3.cell 0; have x1' := H4p.sep.h3.cell 1; simp at x0' x1')
    | (go_at_call 38; (with_reducible refine (spec_applyEds_c (r := r) w4 (regOf (HK.out _ H4.sep.h1)) (rowEds (lo := 0) H4.sep.h0 (fun _ _ => Nat.zero_le _)) hr21).mono ?_); rintro e w5 ⟨v1, rfl, ⟨s1, rfl, o5⟩, b5⟩; have hy20 := ap_len (M := M) hr20; generalize (r.applyEds M).getD ⟨0, []⟩ = Y at *; generalize (r.applyEds M).isSome = ok at *; obtain ⟨A5, c5, rfl, _, _⟩ := o5.rd; have H5 := H4.map (fun X h => (h.oiNew b5 o5).g1); have x0'' := H5.sep.h3.cell 0; have x1'' := H5.sep.h3.cell 1; simp at x0'' x1'')
    | (go_at_call 38; (with_reducible refine (spec_applyEds_c (r := r) _ (regOf (HK.out _ H4b.sep.h2)) (rowEds (lo := 0) H4b.sep.h1 (fun _ _ => Nat.zero_le _)) hr21).mono ?_); rintro e w5 ⟨v1, rfl, ⟨s1, rfl, o5⟩, b5⟩; have hy20 := ap_len (M := M) hr20; generalize (r.applyEds M).getD ⟨0, []⟩ = Y at *; generalize (r.applyEds M).isSome = ok at *; obtain ⟨A5, c5, rfl, _, _⟩ := o5.rd; have H5b := H4b.map (fun X h => (h.oiNew b5 o5).g1); have x0'' := H5b.sep.h4.cell 0; have x1'' := H5b.sep.h4.cell 1; have q0'' := H5b.sep.h1.cell 0; have q1'' := H5b.sep.h1.cell 1; have o0'' := H5b.sep.h1.frozen 0; have o1'' := H5b.sep.h1.frozen 1; simp at x0'' x1'' q0'' q1''; have H6b := H5b.map (fun X h => ((h.g2.set_ 0 (.int .i64 Y.w)).set_ 1 (.slice A5 Y.rows.length c5)).g1); have k0 := H6b.sep.h4.cell 0; have k1 := H6b.sep.h4.cell 1; simp at k0 k1)
    | (go_at_call 38; (with_reducible refine (spec_applyEds_c (r := r) _ (regOf (HK.out _ H4p.sep.h1)) (rowEds (lo := 0) H4p.sep.h0 (fun _ _ => Nat.zero_le _)) hr21).mono ?_); rintro e w5 ⟨v1, rfl, ⟨s1, rfl, o5⟩, b5⟩; have hy20 := ap_len (M := M) hr20; generalize (r.applyEds M).getD ⟨0, []⟩ = Y at *; generalize (r.applyEds M).isSome = ok at *; obtain ⟨A5, c5, rfl, _, _⟩ := o5.rd; have H5c := H4p.map (fun X h => (h.oiNew b5 o5).g1); have x0'' := H5c.sep.h4.cell 0; have x1'' := H5c.sep.h4.cell 1; have q0'' := H5c.sep.h3.cell 0; have q1'' := H5c.sep.h3.cell 1; have o0'' := H5c.sep.h3.frozen 0; have o1'' := H5c.sep.h3.frozen 1; simp at x0'' x1'' q0'' q1''; have H6b := H5c.map (fun X h => ((h.g4.set_ 0 (.int .i64 Y.w)).set_ 1 (.slice A5 Y.rows.length c5)).g1); have k0 := H6b.sep.h4.cell 0; have k1 := H6b.sep.h4.cell 1; simp at k0 k1)
    | fail)
  · have H8 := H5.map (fun X h => ((h.g2).drop.box 36 #[.int .i64 Y.w, .slice A5 Y.rows.length c5]).g1)
    clear x0' x1' y0' y1' x0'' x1'' H5 H4 H4b H3 x0 x1 o5 b5
    generalize w5.alloc (.cells #[.int .i64 Y.w, .slice A5 Y.rows.length c5] 36) = w8 at *
    generalize w5.heap.size = gN at *
    have x0 := H8.sep.h3.cell 0
    have x1 := H8.sep.h3.cell 1
    have y0 := H8.sep.h0.cell 0
    have y1 := H8.sep.h0.cell 1
    have z0 := H8.sep.h5.cell 0
    have z1 := H8.sep.h5.cell 1
    have f0 := H8.sep.h5.frozen 0
    have f1 := H8.sep.h5.frozen 1
    have z2 := H8.sep.h6.cell 0
    have z3 := H8.sep.h6.cell 1
    have f2 := H8.sep.h6.frozen 0
    have f3 := H8.sep.h6.frozen 1
    simp at x0 x1 y0 y1 z0 z1 z2 z3
    cases ok
    · skip
      have Hg := (H8.sep.g6.set_ 0 (.int .i64 r.w)).set_ 1 (.slice A r.rows.length c)
      have k0 := Hg.h6.cell 0
      have k1 := Hg.h6.cell 1
      have o0 := Hg.h6.frozen 0
      have o1 := Hg.h6.frozen 1
      have k2 := Hg.h1.cell 0
      have k3 := Hg.h1.cell 1
      have k4 := Hg.h4.cell 0
      have k5 := Hg.h4.cell 1
      simp at k0 k1 k2 k3 k4 k5
      have Hh := (H8.sep.g5.set_ 0 (.int .i64 r.w)).set_ 1 (.slice A r.rows.length c)
      have j0 := Hh.h6.cell 0
      have j1 := Hh.h6.cell 1
      have n0 := Hh.h6.frozen 0
      have n1 := Hh.h6.frozen 1
      have j2 := Hh.h1.cell 0
      have j3 := Hh.h1.cell 1
      have j4 := Hh.h4.cell 0
      have j5 := Hh.h4.cell 1
      simp at j0 j1 j2 j3 j4 j5
      have Hf := (Hg.g6.set_ 0 (.int .i64 r.w)).set_ 1 (.slice A r.rows.length c)
      have u0 := Hf.h0.cell 0
      have u1 := Hf.h0.cell 1
      have u2 := Hf.h1.cell 0
      have u3 := Hf.h1.cell 1
      simp at u0 u1 u2 u3
      have Hf2 := (Hh.g6.set_ 0 (.int .i64 r.w)).set_ 1 (.slice A r.rows.length c)
      have v0 := Hf2.h0.cell 0
      have v1 := Hf2.h0.cell 1
      have v2 := Hf2.h1.cell 0
      have v3 := Hf2.h1.cell 1
      simp at v0 v1 v2 v3
      go_upto_region 7 with fail
      go_region_with (fail)
      all_goals
        go_wp2
        first
          | exact bodyPost_ret (v := .tuple #[.agg #[.int .i64 r.w, .slice A r.rows.length c], .slice Ap ps.length cp, .slice At T.length ct, .agg #[.int .i64 r.w, .slice A r.rows.length c]]) (by simp [results, Tryz.results114, go_sem, u0, u1, u2, u3]) rfl ⟨_, _, _, _, r, r, ps, T, rfl, hr20, by first | exact hy20 | exact hr20, hp3, HP8.out, HT64.out, hTl, HKR.out _ Hf.drew.h4, HKP.out _ Hf.drew.h4, IntsIn.rd Hf.drew.g6.oi, by first | exact ⟨_, rfl, IntsIn.rd Hf.drew.g3.oi⟩ | exact HKR.out _ Hf.drew.h4, Hf.drew.below⟩
          | exact bodyPost_ret (v := .tuple #[.agg #[.int .i64 r.w, .slice A r.rows.length c], .slice Ap ps.length cp, .slice At T.length ct, .agg #[.int .i64 r.w, .slice A r.rows.length c]]) (by simp [results, Tryz.results114, go_sem, v0, v1, v2, v3]) rfl ⟨_, _, _, _, r, r, ps, T, rfl, hr20, by first | exact hy20 | exact hr20, hp3, HP8.out, HT64.out, hTl, HKR.out _ Hf2.drew.h4, HKP.out _ Hf2.drew.h4, IntsIn.rd Hf2.drew.g6.oi, by first | exact ⟨_, rfl, IntsIn.rd Hf2.drew.g3.oi⟩ | exact HKR.out _ Hf2.drew.h4, Hf2.drew.below⟩
    · skip
      have Hg := (H8.sep.g6.set_ 0 (.int .i64 r.w)).set_ 1 (.slice A r.rows.length c)
      have k0 := Hg.h6.cell 0
      have k1 := Hg.h6.cell 1
      have o0 := Hg.h6.frozen 0
      have o1 := Hg.h6.frozen 1
      have k2 := Hg.h1.cell 0
      have k3 := Hg.h1.cell 1
      have k4 := Hg.h4.cell 0
      have k5 := Hg.h4.cell 1
      simp at k0 k1 k2 k3 k4 k5
      have Hh := (H8.sep.g5.set_ 0 (.int .i64 Y.w)).set_ 1 (.slice A5 Y.rows.length c5)
      have j0 := Hh.h6.cell 0
      have j1 := Hh.h6.cell 1
      have n0 := Hh.h6.frozen 0
      have n1 := Hh.h6.frozen 1
      have j2 := Hh.h1.cell 0
      have j3 := Hh.h1.cell 1
      have j4 := Hh.h4.cell 0
      have j5 := Hh.h4.cell 1
      simp at j0 j1 j2 j3 j4 j5
      have Hf := (Hg.g6.set_ 0 (.int .i64 Y.w)).set_ 1 (.slice A5 Y.rows.length c5)
      have u0 := Hf.h0.cell 0
      have u1 := Hf.h0.cell 1
      have u2 := Hf.h1.cell 0
      have u3 := Hf.h1.cell 1
      simp at u0 u1 u2 u3
      have Hf2 := (Hh.g6.set_ 0 (.int .i64 r.w)).set_ 1 (.slice A r.rows.length c)
      have v0 := Hf2.h0.cell 0
      have v1 := Hf2.h0.cell 1
      have v2 := Hf2.h1.cell 0
      have v3 := Hf2.h1.cell 1
      simp at v0 v1 v2 v3
      go_upto_region 6 with fail
      go_region_with (fail)
      all_goals
        go_wp2
        first
          | exact bodyPost_ret (v := .tuple #[.agg #[.int .i64 r.w, .slice A r.rows.length c], .slice Ap ps.length cp, .slice At T.length ct, .agg #[.int .i64 Y.w, .slice A5 Y.rows.length c5]]) (by simp [results, Tryz.results114, go_sem, u0, u1, u2, u3]) rfl ⟨_, _, _, _, r, Y, ps, T, rfl, hr20, by first | exact hy20 | exact hr20, hp3, HP8.out, HT64.out, hTl, HKR.out _ Hf.drew.h4, HKP.out _ Hf.drew.h4, IntsIn.rd Hf.drew.g6.oi, by first | exact ⟨_, rfl, IntsIn.rd Hf.drew.g3.oi⟩ | exact HKR.out _ Hf.drew.h4, Hf.drew.below⟩
          | exact bodyPost_ret (v := .tuple #[.agg #[.int .i64 r.w, .slice A r.rows.length c], .slice Ap ps.length cp, .slice At T.length ct, .agg #[.int .i64 Y.w, .slice A5 Y.rows.length c5]]) (by simp [results, Tryz.results114, go_sem, v0, v1, v2, v3]) rfl ⟨_, _, _, _, r, Y, ps, T, rfl, hr20, by first | exact hy20 | exact hr20, hp3, HP8.out, HT64.out, hTl, HKR.out _ Hf2.drew.h4, HKP.out _ Hf2.drew.h4, IntsIn.rd Hf2.drew.g6.oi, by first | exact ⟨_, rfl, IntsIn.rd Hf2.drew.g3.oi⟩ | exact HKR.out _ Hf2.drew.h4, Hf2.drew.below⟩
  · have H8 := H6b.map (fun X h => h.g3.drop)
    clear x0' x1' y0' y1' x0'' x1'' q0'' q1'' o0'' o1'' k0 k1 H5b H6b H4 H4b H3 x0 x1 o5 b5
    generalize (w5.setCell ⟨w4.heap.size, 0, none⟩ (.int .i64 Y.w)).setCell ⟨w4.heap.size, 1, none⟩ (.slice A5 Y.rows.length c5) = w8 at *
    generalize w4.heap.size = gN at *
    have x0 := H8.sep.h3.cell 0
    have x1 := H8.sep.h3.cell 1
    have y0 := H8.sep.h0.cell 0
    have y1 := H8.sep.h0.cell 1
    have z0 := H8.sep.h5.cell 0
    have z1 := H8.sep.h5.cell 1
    have f0 := H8.sep.h5.frozen 0
    have f1 := H8.sep.h5.frozen 1
    have z2 := H8.sep.h6.cell 0
    have z3 := H8.sep.h6.cell 1
    have f2 := H8.sep.h6.frozen 0
    have f3 := H8.sep.h6.frozen 1
    simp at x0 x1 y0 y1 z0 z1 z2 z3
    cases ok
    · skip
      have Hg := (H8.sep.g6.set_ 0 (.int .i64 r.w)).set_ 1 (.slice A r.rows.length c)
      have k0 := Hg.h6.cell 0
      have k1 := Hg.h6.cell 1
      have o0 := Hg.h6.frozen 0
      have o1 := Hg.h6.frozen 1
      have k2 := Hg.h1.cell 0
      have k3 := Hg.h1.cell 1
      have k4 := Hg.h4.cell 0
      have k5 := Hg.h4.cell 1
      simp at k0 k1 k2 k3 k4 k5
      have Hh := (H8.sep.g5.set_ 0 (.int .i64 r.w)).set_ 1 (.slice A r.rows.length c)
      have j0 := Hh.h6.cell 0
      have j1 := Hh.h6.cell 1
      have n0 := Hh.h6.frozen 0
      have n1 := Hh.h6.frozen 1
      have j2 := Hh.h1.cell 0
      have j3 := Hh.h1.cell 1
      have j4 := Hh.h4.cell 0
      have j5 := Hh.h4.cell 1
      simp at j0 j1 j2 j3 j4 j5
      have Hf := (Hg.g6.set_ 0 (.int .i64 r.w)).set_ 1 (.slice A r.rows.length c)
      have u0 := Hf.h0.cell 0
      have u1 := Hf.h0.cell 1
      have u2 := Hf.h1.cell 0
      have u3 := Hf.h1.cell 1
      simp at u0 u1 u2 u3
      have Hf2 := (Hh.g6.set_ 0 (.int .i64 r.w)).set_ 1 (.slice A r.rows.length c)
      have v0 := Hf2.h0.cell 0
      have v1 := Hf2.h0.cell 1
      have v2 := Hf2.h1.cell 0
      have v3 := Hf2.h1.cell 1
      simp at v0 v1 v2 v3
      go_upto_region 7 with fail
      go_region_with (fail)
      all_goals
        go_wp2
        first
          | exact bodyPost_ret (v := .tuple #[.agg #[.int .i64 r.w, .slice A r.rows.length c], .slice Ap ps.length cp, .slice At T.length ct, .agg #[.int .i64 r.w, .slice A r.rows.length c]]) (by simp [results, Tryz.results114, go_sem, u0, u1, u2, u3]) rfl ⟨_, _, _, _, r, r, ps, T, rfl, hr20, by first | exact hy20 | exact hr20, hp3, HP8.out, HT64.out, hTl, HKR.out _ Hf.drew.h4, HKP.out _ Hf.drew.h4, IntsIn.rd Hf.drew.g6.oi, by first | exact ⟨_, rfl, IntsIn.rd Hf.drew.g3.oi⟩ | exact HKR.out _ Hf.drew.h4, Hf.drew.below⟩
          | exact bodyPost_ret (v := .tuple #[.agg #[.int .i64 r.w, .slice A r.rows.length c], .slice Ap ps.length cp, .slice At T.length ct, .agg #[.int .i64 r.w, .slice A r.rows.length c]]) (by simp [results, Tryz.results114, go_sem, v0, v1, v2, v3]) rfl ⟨_, _, _, _, r, r, ps, T, rfl, hr20, by first | exact hy20 | exact hr20, hp3, HP8.out, HT64.out, hTl, HKR.out _ Hf2.drew.h4, HKP.out _ Hf2.drew.h4, IntsIn.rd Hf2.drew.g6.oi, by first | exact ⟨_, rfl, IntsIn.rd Hf2.drew.g3.oi⟩ | exact HKR.out _ Hf2.drew.h4, Hf2.drew.below⟩
    · skip
      have Hg := (H8.sep.g6.set_ 0 (.int .i64 r.w)).set_ 1 (.slice A r.rows.length c)
      have k0 := Hg.h6.cell 0
      have k1 := Hg.h6.cell 1
      have o0 := Hg.h6.frozen 0
      have o1 := Hg.h6.frozen 1
      have k2 := Hg.h1.cell 0
      have k3 := Hg.h1.cell 1
      have k4 := Hg.h4.cell 0
      have k5 := Hg.h4.cell 1
      simp at k0 k1 k2 k3 k4 k5
      have Hh := (H8.sep.g5.set_ 0 (.int .i64 Y.w)).set_ 1 (.slice A5 Y.rows.length c5)
      have j0 := Hh.h6.cell 0
      have j1 := Hh.h6.cell 1
      have n0 := Hh.h6.frozen 0
      have n1 := Hh.h6.frozen 1
      have j2 := Hh.h1.cell 0
      have j3 := Hh.h1.cell 1
      have j4 := Hh.h4.cell 0
      have j5 := Hh.h4.cell 1
      simp at j0 j1 j2 j3 j4 j5
      have Hf := (Hg.g6.set_ 0 (.int .i64 Y.w)).set_ 1 (.slice A5 Y.rows.length c5)
      have u0 := Hf.h0.cell 0
      have u1 := Hf.h0.cell 1
      have u2 := Hf.h1.cell 0
      have u3 := Hf.h1.cell 1
      simp at u0 u1 u2 u3
      have Hf2 := (Hh.g6.set_ 0 (.int .i64 r.w)).set_ 1 (.slice A r.rows.length c)
      have v0 := Hf2.h0.cell 0
      have v1 := Hf2.h0.cell 1
      have v2 := Hf2.h1.cell 0
      have v3 := Hf2.h1.cell 1
      simp at v0 v1 v2 v3
      go_upto_region 6 with fail
      go_region_with (fail)
      all_goals
        go_wp2
        first
          | exact bodyPost_ret (v := .tuple #[.agg #[.int .i64 r.w, .slice A r.rows.length c], .slice Ap ps.length cp, .slice At T.length ct, .agg #[.int .i64 Y.w, .slice A5 Y.rows.length c5]]) (by simp [results, Tryz.results114, go_sem, u0, u1, u2, u3]) rfl ⟨_, _, _, _, r, Y, ps, T, rfl, hr20, by first | exact hy20 | exact hr20, hp3, HP8.out, HT64.out, hTl, HKR.out _ Hf.drew.h4, HKP.out _ Hf.drew.h4, IntsIn.rd Hf.drew.g6.oi, by first | exact ⟨_, rfl, IntsIn.rd Hf.drew.g3.oi⟩ | exact HKR.out _ Hf.drew.h4, Hf.drew.below⟩
          | exact bodyPost_ret (v := .tuple #[.agg #[.int .i64 r.w, .slice A r.rows.length c], .slice Ap ps.length cp, .slice At T.length ct, .agg #[.int .i64 Y.w, .slice A5 Y.rows.length c5]]) (by simp [results, Tryz.results114, go_sem, v0, v1, v2, v3]) rfl ⟨_, _, _, _, r, Y, ps, T, rfl, hr20, by first | exact hy20 | exact hr20, hp3, HP8.out, HT64.out, hTl, HKR.out _ Hf2.drew.h4, HKP.out _ Hf2.drew.h4, IntsIn.rd Hf2.drew.g6.oi, by first | exact ⟨_, rfl, IntsIn.rd Hf2.drew.g3.oi⟩ | exact HKR.out _ Hf2.drew.h4, Hf2.drew.below⟩
  · have H8 := H6b.map (fun X h => h.g3.drop)
    clear x0' x1' x0'' x1'' q0'' q1'' o0'' o1'' k0 k1 H5c H6b H4p H3 x0 x1 o5 b5
    generalize (w5.setCell ⟨w3.heap.size, 0, none⟩ (.int .i64 Y.w)).setCell ⟨w3.heap.size, 1, none⟩ (.slice A5 Y.rows.length c5) = w8 at *
    generalize w3.heap.size = gN at *
    have x0 := H8.sep.h3.cell 0
    have x1 := H8.sep.h3.cell 1
    have y0 := H8.sep.h0.cell 0
    have y1 := H8.sep.h0.cell 1
    have z0 := H8.sep.h5.cell 0
    have z1 := H8.sep.h5.cell 1
    have f0 := H8.sep.h5.frozen 0
    have f1 := H8.sep.h5.frozen 1
    have z2 := H8.sep.h6.cell 0
    have z3 := H8.sep.h6.cell 1
    have f2 := H8.sep.h6.frozen 0
    have f3 := H8.sep.h6.frozen 1
    simp at x0 x1 y0 y1 z0 z1 z2 z3
    cases ok
    · skip
      have Hg := (H8.sep.g6.set_ 0 (.int .i64 r.w)).set_ 1 (.slice A r.rows.length c)
      have k0 := Hg.h6.cell 0
      have k1 := Hg.h6.cell 1
      have o0 := Hg.h6.frozen 0
      have o1 := Hg.h6.frozen 1
      have k2 := Hg.h1.cell 0
      have k3 := Hg.h1.cell 1
      have k4 := Hg.h4.cell 0
      have k5 := Hg.h4.cell 1
      simp at k0 k1 k2 k3 k4 k5
      have Hh := (H8.sep.g5.set_ 0 (.int .i64 r.w)).set_ 1 (.slice A r.rows.length c)
      have j0 := Hh.h6.cell 0
      have j1 := Hh.h6.cell 1
      have n0 := Hh.h6.frozen 0
      have n1 := Hh.h6.frozen 1
      have j2 := Hh.h1.cell 0
      have j3 := Hh.h1.cell 1
      have j4 := Hh.h4.cell 0
      have j5 := Hh.h4.cell 1
      simp at j0 j1 j2 j3 j4 j5
      have Hf := (Hg.g6.set_ 0 (.int .i64 r.w)).set_ 1 (.slice A r.rows.length c)
      have u0 := Hf.h0.cell 0
      have u1 := Hf.h0.cell 1
      have u2 := Hf.h1.cell 0
      have u3 := Hf.h1.cell 1
      simp at u0 u1 u2 u3
      have Hf2 := (Hh.g6.set_ 0 (.int .i64 r.w)).set_ 1 (.slice A r.rows.length c)
      have v0 := Hf2.h0.cell 0
      have v1 := Hf2.h0.cell 1
      have v2 := Hf2.h1.cell 0
      have v3 := Hf2.h1.cell 1
      simp at v0 v1 v2 v3
      go_upto_region 7 with fail
      go_region_with (fail)
      all_goals
        go_wp2
        first
          | exact bodyPost_ret (v := .tuple #[.agg #[.int .i64 r.w, .slice A r.rows.length c], .slice Ap ps.length cp, .slice At T.length ct, .agg #[.int .i64 r.w, .slice A r.rows.length c]]) (by simp [results, Tryz.results114, go_sem, u0, u1, u2, u3]) rfl ⟨_, _, _, _, r, r, ps, T, rfl, hr20, by first | exact hy20 | exact hr20, hp3, HP8.out, HT64.out, hTl, HKR.out _ Hf.drew.h4, HKP.out _ Hf.drew.h4, IntsIn.rd Hf.drew.g6.oi, by first | exact ⟨_, rfl, IntsIn.rd Hf.drew.g3.oi⟩ | exact HKR.out _ Hf.drew.h4, Hf.drew.below⟩
          | exact bodyPost_ret (v := .tuple #[.agg #[.int .i64 r.w, .slice A r.rows.length c], .slice Ap ps.length cp, .slice At T.length ct, .agg #[.int .i64 r.w, .slice A r.rows.length c]]) (by simp [results, Tryz.results114, go_sem, v0, v1, v2, v3]) rfl ⟨_, _, _, _, r, r, ps, T, rfl, hr20, by first | exact hy20 | exact hr20, hp3, HP8.out, HT64.out, hTl, HKR.out _ Hf2.drew.h4, HKP.out _ Hf2.drew.h4, IntsIn.rd Hf2.drew.g6.oi, by first | exact ⟨_, rfl, IntsIn.rd Hf2.drew.g3.oi⟩ | exact HKR.out _ Hf2.drew.h4, Hf2.drew.below⟩
    · skip
      have Hg := (H8.sep.g6.set_ 0 (.int .i64 r.w)).set_ 1 (.slice A r.rows.length c)
      have k0 := Hg.h6.cell 0
      have k1 := Hg.h6.cell 1
      have o0 := Hg.h6.frozen 0
      have o1 := Hg.h6.frozen 1
      have k2 := Hg.h1.cell 0
      have k3 := Hg.h1.cell 1
      have k4 := Hg.h4.cell 0
      have k5 := Hg.h4.cell 1
      simp at k0 k1 k2 k3 k4 k5
      have Hh := (H8.sep.g5.set_ 0 (.int .i64 Y.w)).set_ 1 (.slice A5 Y.rows.length c5)
      have j0 := Hh.h6.cell 0
      have j1 := Hh.h6.cell 1
      have n0 := Hh.h6.frozen 0
      have n1 := Hh.h6.frozen 1
      have j2 := Hh.h1.cell 0
      have j3 := Hh.h1.cell 1
      have j4 := Hh.h4.cell 0
      have j5 := Hh.h4.cell 1
      simp at j0 j1 j2 j3 j4 j5
      have Hf := (Hg.g6.set_ 0 (.int .i64 Y.w)).set_ 1 (.slice A5 Y.rows.length c5)
      have u0 := Hf.h0.cell 0
      have u1 := Hf.h0.cell 1
      have u2 := Hf.h1.cell 0
      have u3 := Hf.h1.cell 1
      simp at u0 u1 u2 u3
      have Hf2 := (Hh.g6.set_ 0 (.int .i64 r.w)).set_ 1 (.slice A r.rows.length c)
      have v0 := Hf2.h0.cell 0
      have v1 := Hf2.h0.cell 1
      have v2 := Hf2.h1.cell 0
      have v3 := Hf2.h1.cell 1
      simp at v0 v1 v2 v3
      go_upto_region 6 with fail
      go_region_with (fail)
      all_goals
        go_wp2
        first
          | exact bodyPost_ret (v := .tuple #[.agg #[.int .i64 r.w, .slice A r.rows.length c], .slice Ap ps.length cp, .slice At T.length ct, .agg #[.int .i64 Y.w, .slice A5 Y.rows.length c5]]) (by simp [results, Tryz.results114, go_sem, u0, u1, u2, u3]) rfl ⟨_, _, _, _, r, Y, ps, T, rfl, hr20, by first | exact hy20 | exact hr20, hp3, HP8.out, HT64.out, hTl, HKR.out _ Hf.drew.h4, HKP.out _ Hf.drew.h4, IntsIn.rd Hf.drew.g6.oi, by first | exact ⟨_, rfl, IntsIn.rd Hf.drew.g3.oi⟩ | exact HKR.out _ Hf.drew.h4, Hf.drew.below⟩
          | exact bodyPost_ret (v := .tuple #[.agg #[.int .i64 r.w, .slice A r.rows.length c], .slice Ap ps.length cp, .slice At T.length ct, .agg #[.int .i64 Y.w, .slice A5 Y.rows.length c5]]) (by simp [results, Tryz.results114, go_sem, v0, v1, v2, v3]) rfl ⟨_, _, _, _, r, Y, ps, T, rfl, hr20, by first | exact hy20 | exact hr20, hp3, HP8.out, HT64.out, hTl, HKR.out _ Hf2.drew.h4, HKP.out _ Hf2.drew.h4, IntsIn.rd Hf2.drew.g6.oi, by first | exact ⟨_, rfl, IntsIn.rd Hf2.drew.g3.oi⟩ | exact HKR.out _ Hf2.drew.h4, Hf2.drew.below⟩
end Go.Proofs.YtfildenelgbmlaaGreatDoor

namespace Go.Proofs.YtfildenelgbmlaaGreatDoor
open Go.RowKit

/-- what the law draws for KeptMasks -/
def KmD (w : World) : Ending → World → Prop := fun e w' => ∃ (vr vl vx : Value) (r x : Reg) (T : List Int), e = .returned (.tuple #[vr, vl, vx]) ∧ r.rows.length ≤ 20 ∧ x.rows.length ≤ 20 ∧ (∀ a ∈ T, I64 a) ∧ T.length ≤ 1048576 ∧ RegRd w' 0 w'.heap.size vr r ∧ IntsRd w' 0 w'.heap.size vl T ∧ RegRd w' 0 w'.heap.size vx x ∧ Below w.heap.size w w'
set_option maxRecDepth 100000 in
set_option maxHeartbeats 3200000 in
theorem drawKept_c {v : Value} {l : List UInt8} (w : World) (h : BytesRd w 0 w.heap.size v l) (hn : l.length ≤ 1048576) :
    Calls Tryz.prog 48 #[v] w (KmD w) := by
  have H := ((Sep.start w).box 36 #[.int .i64 0, .slice none 0 0]).box 36 #[.int .i64 0, .slice none 0 0]
  simp only [World.size_alloc] at H
  go_enter Tryz.func48, Tryz.ntmps48
  go_wp2_with fail
  obtain ⟨gz, hgz⟩ : ∃ gz : World, gz = w := ⟨_, rfl⟩
  subst hgz
  generalize (gz.alloc (.cells #[.int .i64 0, .slice none 0 0] 36)).alloc (.cells #[.int .i64 0, .slice none 0 0] 36) = W at *
  refine (l29Tiling_c W ((h.keep (SameIn.of_below H.below (Nat.le_refl _))).more (Nat.le_refl _) H.size) hn).mono ?_
  rintro e w1 ⟨vr, vp, vl, vx, r, x, ps, T, rfl, hr20, hx20, hp3, hp8, hT64, hTl, hr, hp, hT, hx, b1⟩
  have hsz := H.size
  have H1 := Sep.area H b1 (P := fun u => RegRd u W.heap.size w1.heap.size vr r ∧ IntsRd u W.heap.size w1.heap.size vl T ∧ RegRd u W.heap.size w1.heap.size vx x) (fun u u' hs hp => ⟨hp.1.keep hs, hp.2.1.keep hs, hp.2.2.keep hs⟩) ⟨hr, hT, hx⟩
  have HT64 := Lib.hid hT64
  obtain ⟨s, rfl, A, c, rfl, _, _⟩ := hr
  obtain ⟨sx, rfl, Ax, cx, rfl, _, _⟩ := hx
  obtain ⟨At, ct, rfl, _, _⟩ := hT
  clear H b1 hp hp8 hT64
  have H2 := (H1.box 36 #[.int .i64 r.w, .slice A r.rows.length c]).box 36 #[.int .i64 x.w, .slice Ax x.rows.length cx]
  simp only [World.size_alloc] at H2
  clear H1
  go_upto_region 2 with fail
  obtain ⟨g5, hg5⟩ : ∃ k, k = w1.heap.size := ⟨_, rfl⟩
  rw [← hg5] at H2 ⊢
  generalize (w1.alloc (.cells #[.int .i64 r.w, .slice A r.rows.length c] 36)).alloc (.cells #[.int .i64 x.w, .slice Ax x.rows.length cx] 36) = w2 at *
  clear hg5
  have x0 := H2.h1.cell 0
  have x1 := H2.h1.cell 1
  have y0 := H2.h0.cell 0
  have y1 := H2.h0.cell 1
  have z0 := H2.h3.cell 0
  have z1 := H2.h3.cell 1
  have f0 := H2.h3.frozen 0
  have f1 := H2.h3.frozen 1
  have z2 := H2.h4.cell 0
  have z3 := H2.h4.cell 1
  have f2 := H2.h4.frozen 0
  have f3 := H2.h4.frozen 1
  simp at x0 x1 y0 y1 z0 z1 z2 z3
  have Hg := (H2.g4.set_ 0 (.int .i64 r.w)).set_ 1 (.slice A r.rows.length c)
  have k0 := Hg.h4.cell 0
  have k1 := Hg.h4.cell 1
  have o0 := Hg.h4.frozen 0
  have o1 := Hg.h4.frozen 1
  have k2 := Hg.h1.cell 0
  have k3 := Hg.h1.cell 1
  have k4 := Hg.h2.cell 0
  have k5 := Hg.h2.cell 1
  simp at k0 k1 k2 k3 k4 k5
  have Hh := (H2.g3.set_ 0 (.int .i64 x.w)).set_ 1 (.slice Ax x.rows.length cx)
  have j0 := Hh.h4.cell 0
  have j1 := Hh.h4.cell 1
  have n0 := Hh.h4.frozen 0
  have n1 := Hh.h4.frozen 1
  have j2 := Hh.h1.cell 0
  have j3 := Hh.h1.cell 1
  have j4 := Hh.h2.cell 0
  have j5 := Hh.h2.cell 1
  simp at j0 j1 j2 j3 j4 j5
  have Hf := (Hg.g4.set_ 0 (.int .i64 x.w)).set_ 1 (.slice Ax x.rows.length cx)
  have u0 := Hf.h0.cell 0
  have u1 := Hf.h0.cell 1
  have u2 := Hf.h1.cell 0
  have u3 := Hf.h1.cell 1
  simp at u0 u1 u2 u3
  have Hf2 := (Hh.g4.set_ 0 (.int .i64 r.w)).set_ 1 (.slice A r.rows.length c)
  have v0 := Hf2.h0.cell 0
  have v1 := Hf2.h0.cell 1
  have v2 := Hf2.h1.cell 0
  have v3 := Hf2.h1.cell 1
  simp at v0 v1 v2 v3
  go_region_with (fail)
  all_goals
    go_wp2
    first
      | exact bodyPost_ret (v := .tuple #[.agg #[.int .i64 r.w, .slice A r.rows.length c], .slice At T.length ct, .agg #[.int .i64 x.w, .slice Ax x.rows.length cx]]) (by simp [results, Tryz.results48, go_sem, u0, u1, u2, u3]) rfl ⟨_, _, _, r, x, T, rfl, hr20, hx20, HT64.out, hTl, Reg_up Hf.drew.h4.1.1 Hf.drew.h4.2 (Nat.zero_le _), SR_up Hf.drew.h4.1.2.1 Hf.drew.h4.2 (Nat.zero_le _), Reg_up Hf.drew.h4.1.2.2 Hf.drew.h4.2 (Nat.zero_le _), Hf.drew.below⟩
      | exact bodyPost_ret (v := .tuple #[.agg #[.int .i64 r.w, .slice A r.rows.length c], .slice At T.length ct, .agg #[.int .i64 x.w, .slice Ax x.rows.length cx]]) (by simp [results, Tryz.results48, go_sem, v0, v1, v2, v3]) rfl ⟨_, _, _, r, x, T, rfl, hr20, hx20, HT64.out, hTl, Reg_up Hf2.drew.h4.1.1 Hf2.drew.h4.2 (Nat.zero_le _), SR_up Hf2.drew.h4.1.2.1 Hf2.drew.h4.2 (Nat.zero_le _), Reg_up Hf2.drew.h4.1.2.2 Hf2.drew.h4.2 (Nat.zero_le _), Hf2.drew.below⟩
/-- what the law draws for RepairTiling -/
def RpD (w : World) : Ending → World → Prop := fun e w' => ∃ (vx vp vk : Value) (x : Reg) (ps : List (List Cell)) (k : List Int), e = .returned (.tuple #[vx, vp, vk]) ∧ x.rows.length ≤ 20 ∧ ps.length ≤ 3 ∧ (∀ s ∈ ps, s.length ≤ 8) ∧ k.length ≤ 1048576 ∧ RegRd w' 0 w'.heap.size vx x ∧ CellSSRd w' 0 w'.heap.size vp ps ∧ IntsRd w' 0 w'.heap.size vk k ∧ Below w.heap.size w w'
theorem kept_len {r x : Reg} {T : List Int} : (keptMasks r T x).length ≤ T.length := by
  unfold keptMasks
  split
  · exact List.length_filter_le _ _
  · simp
set_option maxRecDepth 100000 in
set_option maxHeartbeats 3200000 in
theorem drawRep_c {v : Value} {l : List UInt8} (w : World) (h : BytesRd w 0 w.heap.size v l) (hn : l.length ≤ 1048576) :
    Calls Tryz.prog 45 #[v] w (RpD w) := by
  have H := (Sep.start w).box 36 #[.int .i64 0, .slice none 0 0]
  go_enter Tryz.func45, Tryz.ntmps45
  go_wp2_with fail
  obtain ⟨gz, hgz⟩ : ∃ gz : World, gz = w := ⟨_, rfl⟩
  subst hgz
  generalize gz.alloc (.cells #[.int .i64 0, .slice none 0 0] 36) = W at *
  refine (l29Tiling_c W ((h.keep (SameIn.of_below H.below (Nat.le_refl _))).more (Nat.le_refl _) H.size) hn).mono ?_
  rintro e w1 ⟨vr, vp, vl, vx, r, x, ps, T, rfl, hr20, hx20, hp3, hp8, hT64, hTl, hr, hp, hT, hx, b1⟩
  have hsz := H.size
  obtain ⟨K, hKd⟩ : ∃ K, K = Res.area W.heap.size w1.heap.size (fun u => RegRd u W.heap.size w1.heap.size vr r ∧ IntsRd u W.heap.size w1.heap.size vl T ∧ RegRd u W.heap.size w1.heap.size vx x ∧ CellSSRd u W.heap.size w1.heap.size vp ps) (fun u u' hs hp => ⟨hp.1.keep hs, hp.2.1.keep hs, hp.2.2.1.keep hs, hp.2.2.2.keep hs⟩) := ⟨_, rfl⟩
  have H1 := Sep.area H b1 (P := fun u => RegRd u W.heap.size w1.heap.size vr r ∧ IntsRd u W.heap.size w1.heap.size vl T ∧ RegRd u W.heap.size w1.heap.size vx x ∧ CellSSRd u W.heap.size w1.heap.size vp ps) (fun u u' hs hp => ⟨hp.1.keep hs, hp.2.1.keep hs, hp.2.2.1.keep hs, hp.2.2.2.keep hs⟩) ⟨hr, hT, hx, hp⟩
  rw [← hKd] at H1
  have KR : Hid (∀ w : World, K.holds w → RegRd w 0 w.heap.size vr r) := Lib.hid fun w hw => by rw [hKd] at hw; exact Reg_up hw.1.1 hw.2 (Nat.zero_le _)
  have KT : Hid (∀ w : World, K.holds w → IntsRd w 0 w.heap.size vl T) := Lib.hid fun w hw => by rw [hKd] at hw; exact SR_up hw.1.2.1 hw.2 (Nat.zero_le _)
  have KX : Hid (∀ w : World, K.holds w → RegRd w 0 w.heap.size vx x) := Lib.hid fun w hw => by rw [hKd] at hw; exact Reg_up hw.1.2.2.1 hw.2 (Nat.zero_le _)
  have KP : Hid (∀ w : World, K.holds w → CellSSRd w 0 w.heap.size vp ps) := Lib.hid fun w hw => by rw [hKd] at hw; exact SS_up hw.1.2.2.2 hw.2 (Nat.zero_le _)
  have HT64 := Lib.hid hT64
  have HP8 := Lib.hid hp8
  obtain ⟨s, rfl, A, c, rfl, _, _⟩ := hr
  obtain ⟨sx, rfl, Ax, cx, rfl, _, _⟩ := hx
  obtain ⟨At, ct, rfl, _, _⟩ := hT
  obtain ⟨vs, ⟨Ap, cp, rfl, _, _⟩, _⟩ := hp
  have H2 := (H1.box 36 #[.int .i64 r.w, .slice A r.rows.length c]).box 36 #[.int .i64 x.w, .slice Ax x.rows.length cx]
  simp only [World.size_alloc] at H2
  clear H H1 b1 hp8 hT64 hKd
  go_upto_region 2 with fail
  obtain ⟨g5, hg5⟩ : ∃ k, k = w1.heap.size := ⟨_, rfl⟩
  rw [← hg5] at H2 ⊢
  generalize (w1.alloc (.cells #[.int .i64 r.w, .slice A r.rows.length c] 36)).alloc (.cells #[.int .i64 x.w, .slice Ax x.rows.length cx] 36) = w2 at *
  clear hg5
  have x0 := H2.h1.cell 0
  have x1 := H2.h1.cell 1
  have y0 := H2.h0.cell 0
  have y1 := H2.h0.cell 1
  have z0 := H2.h3.cell 0
  have z1 := H2.h3.cell 1
  have f0 := H2.h3.frozen 0
  have f1 := H2.h3.frozen 1
  simp at x0 x1 y0 y1 z0 z1
  go_region_with ((first
    | (go_at_call 52; refine (spec_KeptMasks_c _ (KR.out _ H2.drew.h2) (KT.out _ H2.drew.h2) (KX.out _ H2.drew.h2) HT64.out hTl).mono ?_; rintro e w4 ⟨vk, rfl, ok, bk⟩; have H3 := H2.drew.oiNew bk ok; have x0' := H3.h2.cell 0; have x1' := H3.h2.cell 1; have y0' := H3.h1.cell 0; have y1' := H3.h1.cell 1; have z0' := H3.h4.cell 0; have z1' := H3.h4.cell 1; have f0' := H3.h4.frozen 0; have f1' := H3.h4.frozen 1; simp at x0' x1' y0' y1' z0' z1')))
  all_goals
    have Hf := (H3.g4.set_ 0 (.int .i64 x.w)).set_ 1 (.slice Ax x.rows.length cx)
    have u0 := Hf.h0.cell 0
    have u1 := Hf.h0.cell 1
    simp at u0 u1
    obtain ⟨Ak, ck, rfl, _, _, _⟩ := Res.row_at H3.h0
    have HKL := Lib.hid (Nat.le_trans (kept_len (r := r) (x := x) (T := T)) hTl)
    generalize keptMasks r T x = k at *
    clear x0 x1 y0 y1 z0 z1 f0 f1 x0' x1' y0' y1' z0' z1' f0' f1' H2 H3 ok bk
    go_wp2
    exact bodyPost_ret (v := .tuple #[.agg #[.int .i64 x.w, .slice Ax x.rows.length cx], .slice Ap ps.length cp, .slice Ak k.length ck]) (by simp [results, Tryz.results45, go_sem, u0, u1]) rfl ⟨_, _, _, x, ps, k, rfl, hx20, hp3, HP8.out, HKL.out, KX.out _ Hf.h4, KP.out _ Hf.h4, rowInts Hf.h1, Hf.below⟩
/-- what the law draws for SafeRemovals -/
def SrD (w : World) : Ending → World → Prop := fun e w' => ∃ (vr vp : Value) (r : Reg) (ps : List (List Cell)), e = .returned (.tuple #[vr, vp]) ∧ r.rows.length ≤ 20 ∧ ps.length ≤ 3 ∧ (∀ s ∈ ps, s.length ≤ 8) ∧ RegRd w' 0 w'.heap.size vr r ∧ CellSSRd w' 0 w'.heap.size vp ps ∧ Below w.heap.size w w'
set_option maxRecDepth 100000 in
set_option maxHeartbeats 1600000 in
theorem drawSafe_c {v : Value} {l : List UInt8} (w : World) (h : BytesRd w 0 w.heap.size v l) (hn : l.length ≤ 1048576) :
    Calls Tryz.prog 49 #[v] w (SrD w) := by
  have H := (Sep.start w).box 36 #[.int .i64 0, .slice none 0 0]
  go_enter Tryz.func49, Tryz.ntmps49
  go_wp2_with fail
  obtain ⟨gz, hgz⟩ : ∃ gz : World, gz = w := ⟨_, rfl⟩
  subst hgz
  generalize gz.alloc (.cells #[.int .i64 0, .slice none 0 0] 36) = W at *
  refine (l20Both_c W ((h.keep (SameIn.of_below H.below (Nat.le_refl _))).more (Nat.le_refl _) H.size) hn).mono ?_
  rintro e w1 ⟨vr, vp, r, ps, rfl, hd, hri, hp, hp3, hp8, b1⟩
  have hr := RegIn.rd hri
  have H1 := Sep.area H b1 (P := fun u => RegRd u W.heap.size w1.heap.size vr r ∧ CellSSRd u W.heap.size w1.heap.size vp ps) (fun u u' hs hp => ⟨hp.1.keep hs, hp.2.keep hs⟩) ⟨hr, hp⟩
  have hr20 := hd.2
  have HP8 := Lib.hid hp8
  obtain ⟨s, rfl, A, c, rfl, _, _⟩ := hr
  obtain ⟨vs, ⟨Ap, cp, rfl, _, _⟩, _⟩ := hp
  have H2 := H1.box 36 #[.int .i64 r.w, .slice A r.rows.length c]
  clear H H1 b1 hd hp8 hri
  go_upto_region 2 with fail
  generalize w1.alloc (.cells #[.int .i64 r.w, .slice A r.rows.length c] 36) = w2 at *
  have x0 := H2.h0.cell 0
  have x1 := H2.h0.cell 1
  have z0 := H2.h2.cell 0
  have z1 := H2.h2.cell 1
  have f0 := H2.h2.frozen 0
  have f1 := H2.h2.frozen 1
  simp at x0 x1 z0 z1
  have Hf := (H2.g2.set_ 0 (.int .i64 r.w)).set_ 1 (.slice A r.rows.length c)
  have u0 := Hf.h0.cell 0
  have u1 := Hf.h0.cell 1
  simp at u0 u1
  go_wp2
  exact bodyPost_ret (v := .tuple #[.agg #[.int .i64 r.w, .slice A r.rows.length c], .slice Ap ps.length cp]) (by simp [results, Tryz.results49, go_sem, u0, u1]) rfl ⟨_, _, r, ps, rfl, hr20, hp3, HP8.out, Reg_up Hf.h2.1.1 Hf.h2.2 (Nat.zero_le _), SS_up Hf.h2.1.2 Hf.h2.2 (Nat.zero_le _), Hf.below⟩
end Go.Proofs.YtfildenelgbmlaaGreatDoor

namespace Go.Proofs.YtfildenelgbmlaaGreatDoor
open Go.RowKit

set_option maxRecDepth 100000 in
theorem big_no {v : Value} {l : List UInt8} (w : World) (h : BytesRd w 0 w.heap.size v l) (hl : l.length ≤ 1048576) :
    Calls Tryz.prog 6 #[v] w fun e w' => e = .returned (.bool false) ∧ w = w' := by
  obtain ⟨A, c, rfl, hm, hr⟩ := h
  have hd : decide ((1048576 : Int) < (l.length : Int)) = false := by simp; omega
  clear hr
  go_enter Tryz.func6, Tryz.ntmps6
  go_wp2
  go_ret
  exact ⟨rfl, rfl⟩
set_option maxRecDepth 100000 in
theorem big_yes {v : Value} {l : List UInt8} (w : World) (h : BytesRd w 0 w.heap.size v l) (hl : 1048576 < l.length) :
    Calls Tryz.prog 6 #[v] w fun e w' => e = .returned (.bool true) ∧ w = w' := by
  obtain ⟨A, c, rfl, hm, hr⟩ := h
  have hd : decide ((1048576 : Int) < (l.length : Int)) = true := by simp; omega
  clear hr
  go_enter Tryz.func6, Tryz.ntmps6
  go_wp2
  go_ret
  exact ⟨rfl, rfl⟩

set_option maxRecDepth 100000 in
set_option maxHeartbeats 800000 in
theorem spec_eqShapes_same {v v' : Value} {l : List Cell} (w : World) (h : CellsRd w 0 w.heap.size v l) (h' : CellsRd w 0 w.heap.size v' l) :
    Calls Tryz.prog 53 #[v, v'] w fun e w' => e = .returned (.bool true) ∧ Below w.heap.size w w' := by
  obtain ⟨A, c, rfl, hm, hr⟩ := h
  obtain ⟨A', c', rfl, hm', hr'⟩ := h'
  unfold maxLen at hm
  clear hm'
  go_enter Tryz.func53, Tryz.ntmps53
  go_wp2
  go_loopw [5] (fun i wr => ∃ k : Nat, k ≤ l.length ∧ i = .int .i64 k ∧ Below w.heap.size w wr) (fun i _ => l.length - (intOf i).toNat)
  case atStart => exact ⟨0, Nat.zero_le _, rfl, Below.refl _ _⟩
  case round =>
    obtain ⟨k, hk, rfl, hbel⟩ := hrel
    by_cases hlt : k < l.length
    · obtain ⟨b, off, a, rfl, _, hb, hla, q1, q2⟩ := (hr.below hbel (Nat.le_refl _)).at2 hlt
      obtain ⟨b', off', a', rfl, _, hb', hla', q1', q2'⟩ := (hr'.below hbel (Nat.le_refl _)).at2 hlt
      obtain rfl : a = a' := by rw [hla] at hla'; injection hla'
      have heq : ∀ n, (Op.equal 96 (.agg #[.int .i64 a.x, .int .i64 a.y]) (.agg #[.int .i64 a.x, .int .i64 a.y])).run Tryz.prog (wr.drewN n) = .ok true (wr.drewN n) := fun n => by have := run_equal_cell (wr.drewN n) a a; rw [decide_eq_true rfl] at this; exact this
      clear hr hr' hla hla'
      go_wp2_with fail
      go_quiet (fail)
      have hbel2 := below_drewN hbel nq
      generalize wr.drewN nq = w2 at *
      clear heq q1 q2 q1' q2'
      go_wp2
      go_roundw
      case rel => exact ⟨k + 1, by omega, by go_num, hbel2⟩
      case measure => simp [intOf]; omega
    · go_wp2
      go_ret
      exact ⟨rfl, hbel⟩

set_option maxRecDepth 100000 in
set_option maxHeartbeats 800000 in
theorem laws_sameInts_same {v v' : Value} {l : List Int} (w : World) (h : IntsRd w 0 w.heap.size v l) (h' : IntsRd w 0 w.heap.size v' l) :
    Calls Tryz.prog 15 #[v, v'] w fun e w' => e = .returned (.bool true) ∧ Below w.heap.size w w' := by
  obtain ⟨A, c, rfl, hm, hr⟩ := h
  obtain ⟨A', c', rfl, hm', hr'⟩ := h'
  unfold maxLen at hm
  clear hm'
  go_enter Tryz.func15, Tryz.ntmps15
  go_wp2
  go_loopw [5] (fun i wr => ∃ k : Nat, k ≤ l.length ∧ i = .int .i64 k ∧ Below w.heap.size w wr) (fun i _ => l.length - (intOf i).toNat)
  case atStart => exact ⟨0, Nat.zero_le _, rfl, Below.refl _ _⟩
  case round =>
    obtain ⟨k, hk, rfl, hbel⟩ := hrel
    by_cases hlt : k < l.length
    · obtain ⟨b, off, a, rfl, _, hb, hla, q1⟩ := Rd.at1 (f := fun n : Int => .int .i64 n) (hr.below hbel (Nat.le_refl _)) hlt
      obtain ⟨b', off', a', rfl, _, hb', hla', q1'⟩ := Rd.at1 (f := fun n : Int => .int .i64 n) (hr'.below hbel (Nat.le_refl _)) hlt
      obtain rfl : a = a' := by rw [hla] at hla'; injection hla'
      clear hr hr' hla hla'
      go_wp2_with fail
      go_quiet (fail)
      have hbel2 := below_drewN hbel nq
      generalize wr.drewN nq = w2 at *
      clear q1 q1'
      go_wp2
      go_roundw
      case rel => exact ⟨k + 1, by omega, by go_num, hbel2⟩
      case measure => simp [intOf]; omega
    · go_wp2
      go_ret
      exact ⟨rfl, hbel⟩

end Go.Proofs.YtfildenelgbmlaaGreatDoor
