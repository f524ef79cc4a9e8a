/-
  The walk of the program's 'EditsBetween'.
-/
import Derived.Test.YtlncpkdkdhnfeaaCellsW
import Derived.Test.YtlncpkdkdhnfeaaLawEds
namespace Go.Proofs.Ytlncpkdkdhnfeaa
open Go.RowKit

def betw1 (ad : Bool) (b : Reg) (l : List Cell) : List Ed := (l.filter fun c => !b.has c.x c.y).map fun c => ⟨ad, c.x, c.y⟩
def betw (a b : Reg) : List Ed := if sameGrid a b = true then betw1 false b a.cells ++ betw1 true a b.cells else []
theorem betw1_take {ad : Bool} {b : Reg} {l : List Cell} {k : Nat} {c : Cell} (h : l[k]? = some c) : betw1 ad b (l.take (k + 1)) = betw1 ad b (l.take k) ++ if b.has c.x c.y = true then [] else [⟨ad, c.x, c.y⟩] := by
  unfold betw1
  have hk := (List.getElem?_eq_some_iff.1 h).1
  have e : l[k] = c := (List.getElem?_eq_some_iff.1 h).2
  rw [List.take_succ_eq_append_getElem hk, List.filter_append, List.map_append, e]
  congr 1
  cases hq : b.has c.x c.y <;> simp [hq]
theorem betw1_le {ad : Bool} {b : Reg} {l : List Cell} {k : Nat} : (betw1 ad b (l.take k)).length ≤ k := by
  unfold betw1
  rw [List.length_map]
  exact Nat.le_trans (List.length_filter_le _ _) (List.length_take_le _ _)
theorem betw1_all {ad : Bool} {b : Reg} {l : List Cell} : (betw1 ad b l).length ≤ l.length := by
  unfold betw1
  rw [List.length_map]
  exact List.length_filter_le _ _
theorem betw_length {a b : Reg} : (betw a b).length ≤ 72 := by
  unfold betw
  split
  · rename_i h
    simp only [sameGrid, Bool.and_eq_true] at h
    have h1 := Reg.cells_le (Reg.valid_iff.1 h.1.1.1)
    have h2 := Reg.cells_le (Reg.valid_iff.1 h.1.1.2)
    have h3 := betw1_all (ad := false) (b := b) (l := a.cells)
    have h4 := betw1_all (ad := true) (b := a) (l := b.cells)
    rw [List.length_append]; omega
  · simp

set_option maxHeartbeats 3200000 in
theorem impl_betw_c {v v' : Value} {a b : Reg} (w : World) (h : RegRd w 0 w.heap.size v a) (h' : RegRd w 0 w.heap.size v' b) :
    Calls Try.prog 31 #[v, v'] w fun en w' => ∃ r, en = .returned (.tuple #[r, .bool (sameGrid a b)]) ∧ EdsIn w' w.heap.size w'.heap.size r (betw a b) ∧ Below w.heap.size w w' := by
  obtain ⟨s, rfl, hs⟩ := h
  obtain ⟨A, c, rfl, hm, _⟩ := id hs
  obtain ⟨s', rfl, hs'⟩ := h'
  obtain ⟨A', c', rfl, hm', _⟩ := id hs'
  obtain ⟨i0, hi, hz0, hz1, hz2⟩ := info_parts infoEdit
  have hbel : Below w.heap.size w ((w.alloc (.cells #[.int .i64 a.w, .slice A a.rows.length c] 37)).alloc (.cells #[.int .i64 b.w, .slice A' b.rows.length c'] 37)) := ((Below.refl _ _).alloc (Nat.le_refl _) _).alloc (by simp) _
  have B0 : Blk ((w.alloc (.cells #[.int .i64 a.w, .slice A a.rows.length c] 37)).alloc (.cells #[.int .i64 b.w, .slice A' b.rows.length c'] 37)) w.heap.size 37 #[.int .i64 a.w, .slice A a.rows.length c] := (Blk.new _ _ _).alloc _
  have B1 : Blk ((w.alloc (.cells #[.int .i64 a.w, .slice A a.rows.length c] 37)).alloc (.cells #[.int .i64 b.w, .slice A' b.rows.length c'] 37)) (w.heap.size + 1) 37 #[.int .i64 b.w, .slice A' b.rows.length c'] := by
    have := Blk.new (w.alloc (.cells #[.int .i64 a.w, .slice A a.rows.length c] 37)) 37 #[.int .i64 b.w, .slice A' b.rows.length c']
    simpa using this
  have hsz : w.heap.size + 2 = ((w.alloc (.cells #[.int .i64 a.w, .slice A a.rows.length c] 37)).alloc (.cells #[.int .i64 b.w, .slice A' b.rows.length c'] 37)).heap.size := by simp
  obtain ⟨R, hR⟩ : ∃ R, R = betw a b := ⟨_, rfl⟩
  obtain ⟨g, hg⟩ : ∃ g, g = sameGrid a b := ⟨_, rfl⟩
  rw [← hR, ← hg]
  have HR := Lib.hid hR
  have HG := Lib.hid hg
  clear hR hg
  go_enter Try.func31, Try.ntmps31
  go_wp2_with fail
  generalize ((w.alloc (.cells #[.int .i64 a.w, .slice A a.rows.length c] 37)).alloc (.cells #[.int .i64 b.w, .slice A' b.rows.length c'] 37)) = W at *
  have HZ : w.heap.size + 2 ≤ W.heap.size := by omega
  clear hsz
  refine (sameGrid_c (a := a) (b := b) _ ⟨_, rfl, ((hs.keep (SameIn.of_below hbel (Nat.le_refl _))).more (Nat.le_refl _) (by omega))⟩ ⟨_, rfl, ((hs'.keep (SameIn.of_below hbel (Nat.le_refl _))).more (Nat.le_refl _) (by omega))⟩).mono ?_
  rintro en w1 ⟨rfl, hb1⟩
  rw [← HG.out]
  replace B0 := B0.below hb1 (by omega)
  replace B1 := B1.below hb1 (by omega)
  replace hbel := hbel.trans (hb1.mono (by omega))
  have sz1 := hb1.size
  clear hb1
  cases g
  · obtain rfl : R = [] := by rw [HR.out]; unfold betw; rw [← HG.out]; rfl
    clear B0 B1
    go_wp2
    go_ret2
    exact ⟨_, rfl, EdsIn.nil, hbel⟩
  · have hRR : R = betw1 false b a.cells ++ betw1 true a b.cells := by rw [HR.out]; unfold betw; rw [← HG.out]; rfl
    have hva : a.Valid := by have := HG.out; simp [sameGrid] at this; exact Reg.valid_iff.1 this.1.1.1
    have hvb : b.Valid := by have := HG.out; simp [sameGrid] at this; exact Reg.valid_iff.1 this.1.1.2
    have hla := Reg.cells_le hva
    have hlb := Reg.cells_le hvb
    have HRR := Lib.hid hRR
    have HVA := Lib.hid hva
    have HVB := Lib.hid hvb
    have HB0 := Lib.hid B0
    have HB1 := Lib.hid B1
    have c00 := B0.cell 0
    have c01 := B0.cell 1
    simp at c00 c01
    clear hRR hva hvb HR B0 B1
    go_wp2_with fail
    clear c00 c01
    refine (impl_cells_c (r := a) _ ⟨_, rfl, ((hs.keep (SameIn.of_below hbel (Nat.le_refl _))).more (Nat.le_refl _) (by omega))⟩ HVA.out).mono ?_
    rintro en w2 ⟨vc, rfl, oc, hb2⟩
    obtain ⟨LA, hLA⟩ : ∃ LA, LA = a.cells := ⟨_, rfl⟩
    rw [← hLA] at oc hla
    have HLA := Lib.hid hLA
    obtain ⟨Ac, cc', rfl, _, hrc⟩ := oc.rd
    replace hbel := hbel.trans (hb2.mono (by omega))
    have B0 := HB0.out.below hb2 (by omega)
    have B1 := HB1.out.below hb2 (by omega)
    have sz2 := hb2.size
    clear hLA hb2 HB0 HB1 oc
    have HB0 := Lib.hid B0
    have HB1 := Lib.hid B1
    clear B0 B1
    go_wp2
    go_loopw [6, 18] (fun o i wr => ∃ k : Nat, k ≤ LA.length ∧ i = .int .i64 k ∧ wr.ownsRow w2.heap.size 53 3 o (([] : List Ed) ++ betw1 false b (LA.take k)).length (edc (([] : List Ed) ++ betw1 false b (LA.take k))) ∧ Below w2.heap.size w2 wr ∧ Rd wr w1.heap.size w2.heap.size 2 Ac LA.length (cc LA) ∧ w2.heap.size ≤ wr.heap.size ∧ ∀ q, o.ownBlock = some q → q < w1.heap.size ∨ w2.heap.size ≤ q) (fun _ i _ => LA.length - (intOf i).toNat)
    case atStart => exact ⟨0, Nat.zero_le _, rfl, by simpa [betw1, edc, fl3] using World.ownsRow_nil w2 w2.heap.size 53 3, Below.refl _ _, hrc, Nat.le_refl _, fun q hq => by simp [Value.ownBlock] at hq⟩
    case round =>
      obtain ⟨k, hk, rfl, hown, hbr, hrc, hhi, hap⟩ := hrel
      have szr := hbr.size
      have hbw := hbel.trans (hbr.mono (by omega))
      by_cases hlt : k < LA.length
      · have Hrc := Lib.hid hrc
        obtain ⟨bb, off, cl, rfl, hb0, hbb, hcl, q1, q2⟩ := hrc.at2 hlt
        have BB := HB1.out.below hbr (by omega)
        have k0 := BB.cell 0
        have k1 := BB.cell 1
        simp at k0 k1
        have hbl := betw1_le (ad := false) (b := b) (l := LA) (k := k)
        have hll : (([] : List Ed) ++ betw1 false b (LA.take k)).length ≤ 72 := by rw [List.length_append]; (simp; omega)
        have hst := betw1_take (ad := false) (b := b) hcl
        have lt1 : w.heap.size + 1 < wr.heap.size := by omega
        have lt0 : w.heap.size < wr.heap.size := by omega
        have hbw2 : Below w.heap.size w (wr.alloc (.cells #[.int .i64 cl.x, .int .i64 cl.y] 64)) := hbw.alloc (by omega) _
        have hbr2 : Below w2.heap.size w2 (wr.alloc (.cells #[.int .i64 cl.x, .int .i64 cl.y] 64)) := hbr.alloc (by omega) _
        have BC := Blk.new wr 64 #[.int .i64 cl.x, .int .i64 cl.y]
        have HRC := Lib.hid (Hrc.out.keep (SameIn.alloc hhi (.cells #[.int .i64 cl.x, .int .i64 cl.y] 64)))
        clear BB hrc hcl Hrc
        go_wp2_with fail
        refine (impl_has_c (r := b) _ _ _ ⟨_, rfl, ((hs'.keep (SameIn.of_below hbw2 (Nat.le_refl _))).more (Nat.le_refl _) (by simp; omega))⟩ HVB.out).mono ?_
        rintro en w3 ⟨rfl, hb3⟩
        have sz3 := hb3.size
        simp only [World.size_alloc] at sz3
        have hown3 := own_below (hown.alloc (.cells #[.int .i64 cl.x, .int .i64 cl.y] 64)) hb3 (Nat.le_refl _)
        have hbr3 := hbr2.trans (hb3.mono (by simp; omega))
        have BC3 := BC.below hb3 (by simp)
        have cb0 := BC3.cell 0
        have cb1 := BC3.cell 1
        simp at cb0 cb1
        have HRC3 := Lib.hid (HRC.out.keep (SameIn.of_below hb3 (by simp; omega)))
        clear k0 k1 hown hbw2 hbr2 BC BC3 HRC hb3 q1 q2
        cases hq : b.has cl.x cl.y
        · rw [hq] at hst
          simp only [Bool.false_eq_true, if_false] at hst
          have HS := Lib.hid hst
          clear hst hq
          go_wp2_with (at_builtin; refine wpList_append_own_at _ rfl _ _ 26 rfl w2.heap.size 53 i0 _ 3 24 Try.underlying26 hi hz0 hz1 hz2 rfl (by decide) _ _ _ rfl (hown3.alloc _) ⟨w3.heap.size, 0, none⟩ 1 1 [.bool false, .int .i64 cl.x, .int .i64 cl.y] rfl rfl (news_alloc w3 #[.bool false, .int .i64 cl.x, .int .i64 cl.y] _) (by intro u hu; simp at hu; rcases hu with rfl | rfl | rfl <;> rfl) (by unfold maxLen; omega) (by omega) (by simp; omega) ?_; intro v' w4 hown4 hgrow _ hat)
          have hap4 := apart_grown (H := (w3.alloc (.cells #[.bool false, .int .i64 cl.x, .int .i64 cl.y] 53)).heap.size) (by simp; omega) hap hat
          have hrc4 := (HRC3.out.keep (SameIn.alloc (by omega) (.cells #[.bool false, .int .i64 cl.x, .int .i64 cl.y] 53))).keep (SameIn.of_grown hgrow (by simp; omega) hap)
          have hbr4 : Below w2.heap.size w2 w4 := (hbr3.alloc (by omega) _).grown hgrow (by simp; omega) (own_ge hown3)
          have sz4 := hgrow.size
          simp only [World.size_alloc] at sz4
          have hown5 : w4.ownsRow w2.heap.size 53 3 v' (([] : List Ed) ++ betw1 false b (LA.take (k + 1))).length (edc (([] : List Ed) ++ betw1 false b (LA.take (k + 1)))) := by
            rw [HS.out, ← List.append_assoc, edc_append, List.length_append]
            exact hown4
          clear hown4 hgrow hown3 hat cb0 cb1
          go_wp2
          go_roundw
          case rel => exact ⟨k + 1, by omega, by go_num, hown5, hbr4, hrc4, by omega, hap4⟩
          case measure => simp [intOf]; omega
        · rw [hq, if_pos rfl, List.append_nil] at hst
          have HS := Lib.hid hst
          clear hst hq cb0 cb1
          go_wp2
          go_roundw
          case rel => exact ⟨k + 1, by omega, by go_num, by rw [HS.out]; exact hown3, hbr3, HRC3.out, by omega, hap⟩
          case measure => simp [intOf]; omega
      · have hkn : k = LA.length := by omega
        subst hkn
        rw [List.take_length] at hown
        have BB := HB1.out.below hbr (by omega)
        have k0 := BB.cell 0
        have k1 := BB.cell 1
        simp at k0 k1
        clear BB
        go_wp2_with fail
        clear k0 k1
        refine (impl_cells_c (r := b) _ ⟨_, rfl, ((hs'.keep (SameIn.of_below hbw (Nat.le_refl _))).more (Nat.le_refl _) (by omega))⟩ HVB.out).mono ?_
        rintro en w5 ⟨vd, rfl, od, hb5⟩
        obtain ⟨LB, hLB⟩ : ∃ LB, LB = b.cells := ⟨_, rfl⟩
        rw [← hLB] at od hlb
        have HLB := Lib.hid hLB
        obtain ⟨Ad, cd', rfl, _, hrd⟩ := od.rd
        have hbr5 := hbr.trans (hb5.mono (by omega))
        have hap5 := own_lt hown
        have hown5 := own_below hown hb5 (Nat.le_refl _)
        have sz5 := hb5.size
        clear hLB hb5 od hown hbr hbw hk
        clear hrc hap
        obtain ⟨wm, hwm⟩ : ∃ wm : World, wm = wr := ⟨_, rfl⟩
        subst hwm
        go_wp2
        go_loopw [6, 41] (fun o i wr => ∃ k : Nat, k ≤ LB.length ∧ i = .int .i64 k ∧ wr.ownsRow w2.heap.size 53 3 o (betw1 false b LA ++ betw1 true a (LB.take k)).length (edc (betw1 false b LA ++ betw1 true a (LB.take k))) ∧ Below w2.heap.size w2 wr ∧ Rd wr wm.heap.size w5.heap.size 2 Ad LB.length (cc LB) ∧ w5.heap.size ≤ wr.heap.size ∧ ∀ q, o.ownBlock = some q → q < wm.heap.size ∨ w5.heap.size ≤ q) (fun _ i _ => LB.length - (intOf i).toNat)
        case atStart => exact ⟨0, Nat.zero_le _, rfl, by simpa [betw1] using hown5, hbr5, hrd, Nat.le_refl _, fun q hq => .inl (hap5 q hq)⟩
        case round =>
          obtain ⟨k, hk, rfl, hown, hbr, hrc, hhi, hap⟩ := hrel
          have szr := hbr.size
          have hbw := hbel.trans (hbr.mono (by omega))
          by_cases hlt : k < LB.length
          · have Hrc := Lib.hid hrc
            obtain ⟨bb, off, cl, rfl, hb0, hbb, hcl, q1, q2⟩ := hrc.at2 hlt
            have BB := HB0.out.below hbr (by omega)
            have k0 := BB.cell 0
            have k1 := BB.cell 1
            simp at k0 k1
            have hbl := betw1_le (ad := true) (b := a) (l := LB) (k := k)
            have hll : (betw1 false b LA ++ betw1 true a (LB.take k)).length ≤ 72 := by rw [List.length_append]; (have := betw1_all (ad := false) (b := b) (l := LA); omega)
            have hst := betw1_take (ad := true) (b := a) hcl
            have lt1 : w.heap.size + 1 < wr.heap.size := by omega
            have lt0 : w.heap.size < wr.heap.size := by omega
            have hbw2 : Below w.heap.size w (wr.alloc (.cells #[.int .i64 cl.x, .int .i64 cl.y] 64)) := hbw.alloc (by omega) _
            have hbr2 : Below w2.heap.size w2 (wr.alloc (.cells #[.int .i64 cl.x, .int .i64 cl.y] 64)) := hbr.alloc (by omega) _
            have BC := Blk.new wr 64 #[.int .i64 cl.x, .int .i64 cl.y]
            have HRC := Lib.hid (Hrc.out.keep (SameIn.alloc hhi (.cells #[.int .i64 cl.x, .int .i64 cl.y] 64)))
            clear BB hrc hcl Hrc
            go_wp2_with fail
            refine (impl_has_c (r := a) _ _ _ ⟨_, rfl, ((hs.keep (SameIn.of_below hbw2 (Nat.le_refl _))).more (Nat.le_refl _) (by simp; omega))⟩ HVA.out).mono ?_
            rintro en w3 ⟨rfl, hb3⟩
            have sz3 := hb3.size
            simp only [World.size_alloc] at sz3
            have hown3 := own_below (hown.alloc (.cells #[.int .i64 cl.x, .int .i64 cl.y] 64)) hb3 (Nat.le_refl _)
            have hbr3 := hbr2.trans (hb3.mono (by simp; omega))
            have BC3 := BC.below hb3 (by simp)
            have cb0 := BC3.cell 0
            have cb1 := BC3.cell 1
            simp at cb0 cb1
            have HRC3 := Lib.hid (HRC.out.keep (SameIn.of_below hb3 (by simp; omega)))
            clear k0 k1 hown hbw2 hbr2 BC BC3 HRC hb3 q1 q2
            cases hq : a.has cl.x cl.y
            · rw [hq] at hst
              simp only [Bool.false_eq_true, if_false] at hst
              have HS := Lib.hid hst
              clear hst hq
              go_wp2_with (at_builtin; refine wpList_append_own_at _ rfl _ _ 26 rfl w2.heap.size 53 i0 _ 3 24 Try.underlying26 hi hz0 hz1 hz2 rfl (by decide) _ _ _ rfl (hown3.alloc _) ⟨w3.heap.size, 0, none⟩ 1 1 [.bool true, .int .i64 cl.x, .int .i64 cl.y] rfl rfl (news_alloc w3 #[.bool true, .int .i64 cl.x, .int .i64 cl.y] _) (by intro u hu; simp at hu; rcases hu with rfl | rfl | rfl <;> rfl) (by unfold maxLen; omega) (by omega) (by simp; omega) ?_; intro v' w4 hown4 hgrow _ hat)
              have hap4 := apart_grown (H := (w3.alloc (.cells #[.bool true, .int .i64 cl.x, .int .i64 cl.y] 53)).heap.size) (by simp; omega) hap hat
              have hrc4 := (HRC3.out.keep (SameIn.alloc (by omega) (.cells #[.bool true, .int .i64 cl.x, .int .i64 cl.y] 53))).keep (SameIn.of_grown hgrow (by simp; omega) hap)
              have hbr4 : Below w2.heap.size w2 w4 := (hbr3.alloc (by omega) _).grown hgrow (by simp; omega) (own_ge hown3)
              have sz4 := hgrow.size
              simp only [World.size_alloc] at sz4
              have hown5 : w4.ownsRow w2.heap.size 53 3 v' (betw1 false b LA ++ betw1 true a (LB.take (k + 1))).length (edc (betw1 false b LA ++ betw1 true a (LB.take (k + 1)))) := by
                rw [HS.out, ← List.append_assoc, edc_append, List.length_append]
                exact hown4
              clear hown4 hgrow hown3 hat cb0 cb1
              go_wp2
              go_roundw
              case rel => exact ⟨k + 1, by omega, by go_num, hown5, hbr4, hrc4, by omega, hap4⟩
              case measure => simp [intOf]; omega
            · rw [hq, if_pos rfl, List.append_nil] at hst
              have HS := Lib.hid hst
              clear hst hq cb0 cb1
              go_wp2
              go_roundw
              case rel => exact ⟨k + 1, by omega, by go_num, by rw [HS.out]; exact hown3, hbr3, HRC3.out, by omega, hap⟩
              case measure => simp [intOf]; omega
          · have hkn : k = LB.length := by omega
            subst hkn
            rw [List.take_length] at hown
            go_wp2
            go_ret2
            exact ⟨_, rfl, EdsIn.mk (own_base hown (by omega)) (by rw [HRR.out, HLA.out, HLB.out]) (by rw [HRR.out, HLA.out, HLB.out]), hbw⟩
end Go.Proofs.Ytlncpkdkdhnfeaa
