/-
  The walks of 'KeptMasks': the program's and the reference's.
-/
import Derived.Test.YtlncpkdkdhnfeaaRegC
import Derived.Test.YtlncpkdkdhnfeaaLawInts
namespace Go.Proofs.Ytlncpkdkdhnfeaa
open Go.RowKit

def keptB (e : Reg) (m : Int) : Bool := decide (0 < m) && e.isMask m
def keptMasks (r : Reg) (t : List Int) (e : Reg) : List Int := if sameGrid r e = true then t.filter (keptB e) else []
theorem keptMasks_length {r e : Reg} {t : List Int} : (keptMasks r t e).length ≤ t.length := by
  unfold keptMasks
  split
  · exact List.length_filter_le _ _
  · simp
theorem filter_take {α : Type} (p : α → Bool) {l : List α} {k : Nat} {a : α} (h : l[k]? = some a) : (l.take (k + 1)).filter p = (l.take k).filter p ++ (if p a then [a] else []) := by
  have hk := (List.getElem?_eq_some_iff.1 h).1
  rw [List.take_succ_eq_append_getElem hk, List.filter_append]
  have : l[k] = a := (List.getElem?_eq_some_iff.1 h).2
  rw [this]
  cases hp : p a <;> simp [hp]
theorem filter_take_le {α : Type} (p : α → Bool) (l : List α) (k : Nat) : ((l.take k).filter p).length ≤ k := Nat.le_trans (List.length_filter_le _ _) (List.length_take_le _ _)

set_option maxHeartbeats 1600000 in
theorem impl_KeptMasks_c {v1 v2 v3 : Value} {r e : Reg} {t : List Int} (w : World) (h1 : RegRd w 0 w.heap.size v1 r) (h2 : IntsRd w 0 w.heap.size v2 t) (h3 : RegRd w 0 w.heap.size v3 e) (hi64 : ∀ a ∈ t, I64 a) (ht : t.length ≤ 1048576) :
    Calls Try.prog 22 #[v1, v2, v3] w fun en w' => ∃ v', en = .returned v' ∧ IntsIn w' w.heap.size w'.heap.size v' (keptMasks r t e) ∧ Below w.heap.size w w' := by
  obtain ⟨s1, rfl, hs1⟩ := h1
  obtain ⟨A1, c1, rfl, hm1, hr1⟩ := id hs1
  obtain ⟨A2, c2, rfl, hm2, hr2⟩ := id h2
  obtain ⟨s3, rfl, hs3⟩ := h3
  obtain ⟨A3, c3, rfl, hm3, hr3⟩ := id hs3
  obtain ⟨i0, hi, hz0, hz1, hz2⟩ := info_parts infoInt
  unfold maxLen at hm2
  have hbel : Below w.heap.size w ((w.alloc (.cells #[.int .i64 r.w, .slice A1 r.rows.length c1] 37)).alloc (.cells #[.int .i64 e.w, .slice A3 e.rows.length c3] 37)) := ((Below.refl _ _).alloc (Nat.le_refl _) _).alloc (by simp) _
  have B1 : Blk ((w.alloc (.cells #[.int .i64 r.w, .slice A1 r.rows.length c1] 37)).alloc (.cells #[.int .i64 e.w, .slice A3 e.rows.length c3] 37)) (w.heap.size + 1) 37 #[.int .i64 e.w, .slice A3 e.rows.length c3] := by
    have := Blk.new (w.alloc (.cells #[.int .i64 r.w, .slice A1 r.rows.length c1] 37)) 37 #[.int .i64 e.w, .slice A3 e.rows.length c3]
    simpa using this
  have hsz : w.heap.size + 2 = ((w.alloc (.cells #[.int .i64 r.w, .slice A1 r.rows.length c1] 37)).alloc (.cells #[.int .i64 e.w, .slice A3 e.rows.length c3] 37)).heap.size := by simp
  go_enter Try.func22, Try.ntmps22
  go_wp2_with fail
  generalize ((w.alloc (.cells #[.int .i64 r.w, .slice A1 r.rows.length c1] 37)).alloc (.cells #[.int .i64 e.w, .slice A3 e.rows.length c3] 37)) = W at *
  refine (sameGrid_c (a := r) (b := e) _ ⟨_, rfl, ((hs1.keep (SameIn.of_below hbel (Nat.le_refl _))).more (Nat.le_refl _) (by omega))⟩ ⟨_, rfl, ((hs3.keep (SameIn.of_below hbel (Nat.le_refl _))).more (Nat.le_refl _) (by omega))⟩).mono ?_
  rintro en w1 ⟨rfl, hb1⟩
  have hbel1 := hbel.trans (hb1.mono (by omega))
  have B1' := B1.below hb1 (by omega)
  have hsz1 := hb1.size
  have HZ : w.heap.size + 2 ≤ W.heap.size := by omega
  clear hsz B1
  have hK : keptMasks r t e = if sameGrid r e = true then t.filter (keptB e) else [] := rfl
  cases hg : sameGrid r e
  · rw [hg, if_neg (by decide)] at hK
    have HK := Lib.hid hK
    clear hK hg B1'
    go_wp2
    go_ret
    exact ⟨_, rfl, by rw [HK.out]; exact IntsIn.nil, hbel1⟩
  · rw [hg, if_pos rfl] at hK
    have hev : e.Valid := by have := hg; simp [sameGrid] at this; exact Reg.valid_iff.1 this.1.1.2
    have HK := Lib.hid hK
    have HE := Lib.hid hev
    clear hK hg hev
    go_wp2
    go_loopw [7, 9, 16] (fun o q i wr => ∃ k : Nat, k ≤ t.length ∧ i = .int .i64 k ∧ wr.ownsRow (w.heap.size + 2) 3 1 o ((t.take k).filter (keptB e)).length (ic ((t.take k).filter (keptB e))) ∧ Below (w.heap.size + 2) w1 wr) (fun _ _ i _ => t.length - (intOf i).toNat)
    case atStart => exact ⟨0, Nat.zero_le _, rfl, World.ownsRow_nil _ _ _ _, Below.refl _ _⟩
    case round =>
      obtain ⟨k, hk, rfl, hown, hbr⟩ := hrel
      have hszr := hbr.size
      have hbw := hbel1.trans (hbr.mono (by omega))
      by_cases hlt : k < t.length
      · obtain ⟨b, off, a, rfl, _, hb, hla, q1⟩ := (hr2.keep (SameIn.of_below hbw (Nat.le_refl _))).at1 hlt
        have hft := filter_take (keptB e) hla
        have hfl := filter_take_le (keptB e) t k
        have Bk := B1'.below hbr (by omega)
        have k0 := Bk.cell 0
        have k1 := Bk.cell 1
        simp at k0 k1
        have hai := hi64 a (List.mem_of_getElem? hla)
        have HA := Lib.hid hai
        clear hr2 hla hai Bk
        by_cases hp : 0 < a
        · go_wp2_with fail
          refine (isMask_c (r := e) a _ ⟨_, rfl, ((hs3.keep (SameIn.of_below hbw (Nat.le_refl _))).more (Nat.le_refl _) (by omega))⟩ HE.out HA.out.2).mono ?_
          rintro en w2 ⟨rfl, hb2⟩
          have hbr2 := hbr.trans (hb2.mono (by omega))
          have hown2 := own_below hown hb2 (Nat.le_refl _)
          have hsz2 := hbr2.size
          cases hq : e.isMask a
          · have hkb : keptB e a = false := by simp [keptB, hq]
            rw [hkb] at hft
            have HF := Lib.hid hft
            clear hft hkb hq hown
            go_wp2
            go_roundw
            case rel => exact ⟨k + 1, by omega, by go_num, by rw [HF.out]; simpa using hown2, hbr2⟩
            case measure => simp [intOf]; omega
          · have hkb : keptB e a = true := by simp [keptB, hq, hp]
            rw [hkb] at hft
            have HF := Lib.hid hft
            clear hft hkb hq hown
            go_wp2_with (at_builtin; refine wpList_append_own _ rfl _ _ 32 rfl (w.heap.size + 2) 3 i0 _ 1 8 Try.underlying32 hi hz0 hz1 hz2 rfl (by decide) _ _ _ rfl (hown2.alloc _) ⟨w2.heap.size, 0, none⟩ 1 1 [.int .i64 a] rfl rfl (news_alloc w2 #[.int .i64 a] _) (by intro u hu; simp at hu; subst hu; rfl) (by unfold maxLen; omega) (by omega) (by simp; omega) ?_; intro v' w3 hown3 hgrow _)
            have hbr3 : Below (w.heap.size + 2) w1 w3 := (hbr2.alloc (by omega) _).grown hgrow (by simp; omega) (own_ge hown2)
            have hown4 : w3.ownsRow (w.heap.size + 2) 3 1 v' ((t.take (k + 1)).filter (keptB e)).length (ic ((t.take (k + 1)).filter (keptB e))) := by
              have e5 := HF.out
              simp only [if_true] at e5
              rw [e5, ic_append, List.length_append]
              exact hown3
            clear hown3 hgrow hown2
            go_wp2
            go_roundw
            case rel => exact ⟨k + 1, by omega, by go_num, hown4, hbr3⟩
            case measure => simp [intOf]; omega
        · have hkb : keptB e a = false := by simp [keptB, hp]
          rw [hkb] at hft
          have HF := Lib.hid hft
          clear hft hkb
          go_wp2_with fail
          go_roundw
          case rel => exact ⟨k + 1, by omega, by go_num, by rw [HF.out]; simpa using hown, hbr⟩
          case measure => simp [intOf]; omega
      · go_wp2
        go_ret
        have hkn : k = t.length := by omega
        subst hkn
        exact ⟨_, rfl, IntsIn.mk (own_base hown (by omega)) (by rw [HK.out, List.take_length]) (by rw [HK.out, List.take_length]), hbw⟩

set_option maxHeartbeats 1600000 in
theorem spec_KeptMasks_c {v1 v2 v3 : Value} {r e : Reg} {t : List Int} (w : World) (h1 : RegRd w 0 w.heap.size v1 r) (h2 : IntsRd w 0 w.heap.size v2 t) (h3 : RegRd w 0 w.heap.size v3 e) (hi64 : ∀ a ∈ t, I64 a) (ht : t.length ≤ 1048576) :
    Calls Try.prog 19 #[v1, v2, v3] w fun en w' => ∃ v', en = .returned v' ∧ IntsIn w' w.heap.size w'.heap.size v' (keptMasks r t e) ∧ Below w.heap.size w w' := by
  obtain ⟨s1, rfl, hs1⟩ := h1
  obtain ⟨A1, c1, rfl, hm1, hr1⟩ := id hs1
  obtain ⟨A2, c2, rfl, hm2, hr2⟩ := id h2
  obtain ⟨s3, rfl, hs3⟩ := h3
  obtain ⟨A3, c3, rfl, hm3, hr3⟩ := id hs3
  obtain ⟨i0, hi, hz0, hz1, hz2⟩ := info_parts infoInt
  unfold maxLen at hm2
  have hbel : Below w.heap.size w (((w.alloc (.cells #[.int .i64 r.w, .slice A1 r.rows.length c1] 37)).alloc (.cells #[.int .i64 e.w, .slice A3 e.rows.length c3] 37)).alloc (.cells #[] 3)) := (((Below.refl _ _).alloc (Nat.le_refl _) _).alloc (by simp) _).alloc (by simp; omega) _
  have B0 : Blk (((w.alloc (.cells #[.int .i64 r.w, .slice A1 r.rows.length c1] 37)).alloc (.cells #[.int .i64 e.w, .slice A3 e.rows.length c3] 37)).alloc (.cells #[] 3)) w.heap.size 37 #[.int .i64 r.w, .slice A1 r.rows.length c1] := ((Blk.new _ _ _).alloc _).alloc _
  have B1 : Blk (((w.alloc (.cells #[.int .i64 r.w, .slice A1 r.rows.length c1] 37)).alloc (.cells #[.int .i64 e.w, .slice A3 e.rows.length c3] 37)).alloc (.cells #[] 3)) (w.heap.size + 1) 37 #[.int .i64 e.w, .slice A3 e.rows.length c3] := by
    have := (Blk.new (w.alloc (.cells #[.int .i64 r.w, .slice A1 r.rows.length c1] 37)) 37 #[.int .i64 e.w, .slice A3 e.rows.length c3]).alloc (.cells #[] 3)
    simpa using this
  have B2 : Blk (((w.alloc (.cells #[.int .i64 r.w, .slice A1 r.rows.length c1] 37)).alloc (.cells #[.int .i64 e.w, .slice A3 e.rows.length c3] 37)).alloc (.cells #[] 3)) (w.heap.size + 1 + 1) 3 #[] := by
    have := Blk.new ((w.alloc (.cells #[.int .i64 r.w, .slice A1 r.rows.length c1] 37)).alloc (.cells #[.int .i64 e.w, .slice A3 e.rows.length c3] 37)) 3 #[]
    simpa using this
  have hsz : w.heap.size + 3 = (((w.alloc (.cells #[.int .i64 r.w, .slice A1 r.rows.length c1] 37)).alloc (.cells #[.int .i64 e.w, .slice A3 e.rows.length c3] 37)).alloc (.cells #[] 3)).heap.size := by simp
  obtain ⟨R, hR⟩ : ∃ R, R = keptMasks r t e := ⟨_, rfl⟩
  rw [← hR]
  have HR := Lib.hid hR
  clear hR
  go_enter Try.func19, Try.ntmps19
  go_wp2_with fail
  generalize (((w.alloc (.cells #[.int .i64 r.w, .slice A1 r.rows.length c1] 37)).alloc (.cells #[.int .i64 e.w, .slice A3 e.rows.length c3] 37)).alloc (.cells #[] 3)) = W at *
  have HZ : w.heap.size + 3 ≤ W.heap.size := by omega
  clear hsz
  refine (spec_IsRegion_c (r := r) _ ⟨_, rfl, ((hs1.keep (SameIn.of_below hbel (Nat.le_refl _))).more (Nat.le_refl _) (by omega))⟩).mono ?_
  rintro en w1 ⟨rfl, hb1⟩
  replace B0 := B0.below hb1 (by omega)
  replace B1 := B1.below hb1 (by omega)
  replace B2 := B2.below hb1 (by omega)
  replace hbel := hbel.trans (hb1.mono (by omega))
  have sz1 := hb1.size
  clear hb1
  cases ha : r.valid
  · obtain rfl : R = [] := by rw [HR.out]; simp [keptMasks, sameGrid, ha]
    have HB := Lib.hid B2
    clear ha B0 B1 B2
    go_wp2
    go_ret
    exact ⟨_, rfl, IntsIn.mk (own_zero HB.out (by omega)) rfl rfl, hbel⟩
  · have HB0 := Lib.hid B0
    have HB1 := Lib.hid B1
    have HB2 := Lib.hid B2
    have c10 := B1.cell 0
    have c11 := B1.cell 1
    simp at c10 c11
    clear B0 B1 B2
    go_wp2_with fail
    clear c10 c11
    refine (spec_IsRegion_c (r := e) _ ⟨_, rfl, ((hs3.keep (SameIn.of_below hbel (Nat.le_refl _))).more (Nat.le_refl _) (by omega))⟩).mono ?_
    rintro en w2 ⟨rfl, hb2⟩
    have B0 := HB0.out.below hb2 (by omega)
    have B1 := HB1.out.below hb2 (by omega)
    have B2 := HB2.out.below hb2 (by omega)
    replace hbel := hbel.trans (hb2.mono (by omega))
    have sz2 := hb2.size
    clear hb2 HB0 HB1 HB2
    have HB0 := Lib.hid B0
    have HB1 := Lib.hid B1
    have HB2 := Lib.hid B2
    cases hv : e.valid
    · obtain rfl : R = [] := by rw [HR.out]; simp [keptMasks, sameGrid, hv]
      clear ha hv B0 B1 B2
      go_wp2
      go_ret
      exact ⟨_, rfl, IntsIn.mk (own_zero HB2.out (by omega)) rfl rfl, hbel⟩
    · have c00 := B0.cell 0
      have c01 := B0.cell 1
      have c10 := B1.cell 0
      have c11 := B1.cell 1
      simp at c00 c01 c10 c11
      clear B0 B1 B2
      have hv2 := Reg.valid_iff.1 hv
      have HV := Lib.hid hv2
      clear hv2
      by_cases hw : r.w = e.w
      · have e1 : (r.w != e.w) = false := by simp [hw]
        by_cases hl : r.rows.length = e.rows.length
        · have e2 : ((r.rows.length : Int) != (e.rows.length : Int)) = false := by simp [hl]
          have hRR : R = t.filter (keptB e) := by rw [HR.out]; simp [keptMasks, sameGrid, ha, hv, hw, hl]
          have HRR := Lib.hid hRR
          clear hRR HR ha hv hw hl
          go_wp2_with fail
          clear e1 e2 c00 c01 c10 c11
          refine (spec_mask_c (r := e) _ ⟨_, rfl, ((hs3.keep (SameIn.of_below hbel (Nat.le_refl _))).more (Nat.le_refl _) (by omega))⟩ HV.out).mono ?_
          rintro en w3 ⟨rfl, hb3⟩
          have hown0 := own_below (own_zero (sz := 1) (e := 3) (base := w.heap.size) HB2.out (by omega)) hb3 (Nat.le_refl _)
          replace hbel := hbel.trans (hb3.mono (by omega))
          have sz3 := hb3.size
          have hml := Reg.mask_lt HV.out
          obtain ⟨mm, hmm⟩ : ∃ mm, mm = e.mask := ⟨_, rfl⟩
          rw [← hmm] at hml ⊢
          have HM := Lib.hid hmm
          clear hb3 hmm
          go_wp2
          go_loopw [7, 9] (fun o i wr => ∃ k : Nat, k ≤ t.length ∧ i = .int .i64 k ∧ wr.ownsRow w.heap.size 3 1 o ((t.take k).filter (keptB e)).length (ic ((t.take k).filter (keptB e))) ∧ Below w.heap.size w wr) (fun _ i _ => t.length - (intOf i).toNat)
          case atStart => exact ⟨0, Nat.zero_le _, rfl, hown0, hbel⟩
          case round =>
            obtain ⟨k, hk, rfl, hown, hbr⟩ := hrel
            have hszr := hbr.size
            by_cases hlt : k < t.length
            · obtain ⟨b, off, a, rfl, _, hb, hla, q1⟩ := (hr2.keep (SameIn.of_below hbr (Nat.le_refl _))).at1 hlt
              have hft := filter_take (keptB e) hla
              have hfl := filter_take_le (keptB e) t k
              have hai := hi64 a (List.mem_of_getElem? hla)
              have hai2 := hai.2
              have i0' : (0 : Int) ≤ (k : Int) := Int.natCast_nonneg _
              have i1' : (k : Int) < (t.length : Int) := by omega
              clear hr2 hla hai hown0 hbel
              by_cases hp : 0 < a
              · have hkb : keptB e a = (bits .and .i64 a (mm : Int) == a) := by
                  obtain ⟨m, rfl⟩ := Int.eq_ofNat_of_zero_le (show 0 ≤ a by omega)
                  rw [i64_and_nat m mm (by omega) (by omega), HM.out]
                  simp only [keptB, Reg.isMask, Int.toNat_natCast]
                  rw [Bool.eq_iff_iff]
                  simp
                  omega
                have d1 : decide (0 < a) = true := by simpa using hp
                cases hq : keptB e a
                · rw [hq] at hkb hft
                  have hkb' := hkb.symm
                  have HF := Lib.hid hft
                  clear hft hkb hq
                  go_wp2_with fail
                  go_quiet (fail)
                  go_wp2
                  go_roundw
                  case rel => exact ⟨k + 1, by omega, by go_num, by rw [HF.out]; simp only [Bool.false_eq_true, if_false, List.append_nil]; exact hown, below_drewN hbr _⟩
                  case measure => simp [intOf]; omega
                · rw [hq] at hkb hft
                  have hkb' := hkb.symm
                  have HF := Lib.hid hft
                  clear hft hkb hq
                  go_wp2_with fail
                  go_quiet (fail)
                  have hbr' := below_drewN hbr nq
                  have hown' : (wr.drewN nq).ownsRow w.heap.size 3 1 u7 ((t.take k).filter (keptB e)).length (ic ((t.take k).filter (keptB e))) := hown
                  have q1' : (wr.drewN nq).cell? ⟨b, off + k, none⟩ = some (.int .i64 a) := q1
                  have hszn : wr.heap.size ≤ (wr.drewN nq).heap.size := Nat.le_refl _
                  clear hbr hown q1
                  generalize wr.drewN nq = w4 at *
                  go_wp2_with (at_builtin; refine wpList_append_own _ rfl _ _ 32 rfl w.heap.size 3 i0 _ 1 8 Try.underlying32 hi hz0 hz1 hz2 rfl (by decide) _ _ _ rfl (hown'.alloc _) ⟨w4.heap.size, 0, none⟩ 1 1 [.int .i64 a] rfl rfl (news_alloc w4 #[.int .i64 a] _) (by intro u hu; simp at hu; subst hu; rfl) (by unfold maxLen; omega) (by omega) (by simp; omega) ?_; intro v' w5 hown3 hgrow _)
                  have hbr3 : Below w.heap.size w w5 := (hbr'.alloc (by omega) _).grown hgrow (by simp; omega) (own_ge hown')
                  have hown4 : w5.ownsRow w.heap.size 3 1 v' ((t.take (k + 1)).filter (keptB e)).length (ic ((t.take (k + 1)).filter (keptB e))) := by
                    have e5 := HF.out
                    simp only [if_true] at e5
                    rw [e5, ic_append, List.length_append]
                    exact hown3
                  clear hown3 hgrow hown'
                  go_wp2
                  go_roundw
                  case rel => exact ⟨k + 1, by omega, by go_num, hown4, hbr3⟩
                  case measure => simp [intOf]; omega
              · have hkb : keptB e a = false := by simp [keptB, hp]
                rw [hkb] at hft
                have HF := Lib.hid hft
                have hp' : a ≤ 0 := by omega
                have d1 : decide (0 < a) = false := by simpa using hp
                clear hft hkb
                go_wp2_with fail
                go_quiet (fail)
                go_wp2
                go_roundw
                case rel => exact ⟨k + 1, by omega, by go_num, by rw [HF.out]; simp only [Bool.false_eq_true, if_false, List.append_nil]; exact hown, below_drewN hbr _⟩
                case measure => simp [intOf]; omega
            · go_wp2
              go_ret
              have hkn : k = t.length := by omega
              subst hkn
              exact ⟨_, rfl, IntsIn.mk hown (by rw [HRR.out, List.take_length]) (by rw [HRR.out, List.take_length]), hbr⟩
        · have e2 : ((r.rows.length : Int) != (e.rows.length : Int)) = true := by simp; omega
          obtain rfl : R = [] := by rw [HR.out]; simp [keptMasks, sameGrid, hl]
          clear ha hv hw hl
          go_wp2
          go_ret
          exact ⟨_, rfl, IntsIn.mk (own_zero HB2.out (by omega)) rfl rfl, hbel⟩
      · have e1 : (r.w != e.w) = true := by simp [hw]
        obtain rfl : R = [] := by rw [HR.out]; simp [keptMasks, sameGrid, hw]
        clear ha hv hw
        go_wp2
        go_ret
        exact ⟨_, rfl, IntsIn.mk (own_zero HB2.out (by omega)) rfl rfl, hbel⟩
end Go.Proofs.Ytlncpkdkdhnfeaa
