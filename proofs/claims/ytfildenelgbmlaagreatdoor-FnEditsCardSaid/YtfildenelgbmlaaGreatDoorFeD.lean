
/-
  The walks over edits: the law's helpers. The walks of 'UndoEdits': the program's and the reference's. The walk of the program's 'EditsBetween'. The walk of the reference's 'EditsBetween'. Edits, plain: what is undone leads back, edits between regions lead there. The walks of both number writers at a single digit. The walks of 'FormatEdits': the program's and the reference's. The walk of the program's 'ApplyEdits'. The walk of the reference's 'EqualRegions'.
-/
import Derived.Test.YtfildenelgbmlaaGreatDoorProg
import Derived.Test.YtfildenelgbmlaaGreatDoorKinds
import Derived.Test.YtfildenelgbmlaaGreatDoorCellX
import Derived.Test.YtfildenelgbmlaaGreatDoorSgX
import Derived.Test.YtfildenelgbmlaaGreatDoorFlipX
import Derived.Test.YtfildenelgbmlaaGreatDoorCwWalks
import Derived.Laws.IdiomStrings
import Derived.Test.YtfildenelgbmlaaGreatDoorSepX
import Derived.Lib.Strings
import Derived.IntWalk
import Derived.Test.YtfildenelgbmlaaGreatDoorEqV
namespace Go.Proofs.YtfildenelgbmlaaGreatDoor
open Go.RowKit

set_option maxRecDepth 100000 in
theorem infoEdit : (Tryz.prog.info? 110).map (fun i => (i.zero, i.size, i.bytes)) = some (some (.agg #[.bool false, .int .i64 0, .int .i64 0]), 3, 24) := by kernel_rfl

end Go.Proofs.YtfildenelgbmlaaGreatDoor

namespace Go.Proofs.YtfildenelgbmlaaGreatDoor
open Go.RowKit

def undo (l : List Ed) : List Ed := (l.map fun e => ⟨!e.add, e.x, e.y⟩).reverse
theorem undo_length {l : List Ed} : (undo l).length = l.length := by simp [undo]
theorem undo_step {l : List Ed} {k : Nat} {a : Ed} (hk : k < l.length) (ha : l[l.length - 1 - k]? = some a) : (undo l).take (k + 1) = (undo l).take k ++ [⟨!a.add, a.x, a.y⟩] := by
  have hk' : k < (undo l).length := by rw [undo_length]; exact hk
  rw [List.take_succ_eq_append_getElem hk']
  congr 1
  rw [List.getElem?_eq_some_iff] at ha
  obtain ⟨h1, h2⟩ := ha
  simp [undo, List.getElem_reverse, h2]

set_option maxRecDepth 100000 in
set_option maxHeartbeats 800000 in
theorem impl_undo (A : Option Addr) (n c : Nat) (l : List Ed) (w : World) (hn : n ≤ 1048576) (hr : Rd w 0 w.heap.size 3 A n (edc l)) :
    Calls Tryz.prog 39 #[.slice A n c] w fun e w' => ∃ v, e = .returned v ∧ w'.ownsRow w.heap.size 110 3 v n (edc (undo l)) ∧ Below w.heap.size w w' := by
  obtain ⟨i0, hi, hz0, hz1, hz2⟩ := info_parts infoEdit
  have hll : l.length = n := by have := hr.1; rw [edc_length] at this; omega
  have Hll := Lib.hid hll
  clear hll
  go_enter Tryz.func39, Tryz.ntmps39
  go_wp2
  go_loopw [3, 4] (fun v i wr => ∃ k : Nat, k ≤ n ∧ i = .int .i64 ((n : Int) - 1 - (k : Int)) ∧ wr.ownsRow w.heap.size 110 3 v k (edc ((undo l).take k)) ∧ Below w.heap.size w wr) (fun _ i _ => (intOf i + 1).toNat)
  case atStart =>
    exact ⟨0, Nat.zero_le _, by go_num, World.ownsRow_nil _ _ _ _, Below.refl _ _⟩
  case round =>
    obtain ⟨k, hk, rfl, hown, hbel⟩ := hrel
    by_cases hlt : k < n
    · obtain ⟨b, off, a, rfl, _, hb, hla, q1, q2, q3⟩ := (hr.below hbel (Nat.le_refl _)).at3 (k := n - 1 - k) (by omega)
      have Hla := Lib.hid hla
      clear hr hla
      have e1 : (0 : Int) ≤ (n : Int) - 1 - (k : Int) := by omega
      obtain ⟨m, hm⟩ : ∃ m : Nat, m = n - 1 - k := ⟨_, rfl⟩
      rw [← hm] at q1 q2 q3
      have e2 : (n : Int) - 1 - (k : Int) = (m : Int) := by omega
      rw [e2] at e1
      have HM := Lib.hid hm
      rw [e2]
      have HE := Lib.hid e2
      have hmn : m < n := by omega
      clear e2 hm
      go_wp2_with fail
      have hne : u3.ownBlock ≠ some b := fun e => by have := own_ge hown b e; omega
      have hbr : b < wr.heap.size := by have := hbel.size; omega
      have hsz := hbel.size
      go_region_held3 (fun w' => w'.cell? ⟨b, off + m * 3, none⟩ = some (.bool a.add) ∧ w'.cell? ⟨b, off + m * 3 + 1, none⟩ = some (.int .i64 a.x) ∧ w'.cell? ⟨b, off + m * 3 + 2, none⟩ = some (.int .i64 a.y))
        (first
          | go_keep
          | (go_split_ands
             refine ⟨?_, ?_, ?_⟩ <;> (rw [grown_cell hgrow (by simp; omega) hne]; assumption)))
        ((refine step_append_own rfl _ _ 57 (by rfl) w.heap.size 110 i0 _ 3 24 Tryz.underlying57 hi hz0 hz1 hz2 rfl (by decide) _ _ _ (by rfl) ((hown.alloc _).drew) ⟨wr.heap.size, 0, none⟩ 1 1 [.bool !a.add, .int .i64 a.x, .int .i64 a.y] (by rfl) (by rfl) (fun j u h => news_alloc wr #[.bool !a.add, .int .i64 a.x, .int .i64 a.y] _ j u h) (by intro u hu; simp at hu; rcases hu with rfl | rfl | rfl <;> rfl) (by unfold maxLen; omega) (by omega) (by simp; omega) ?_; intro v' w1 hown1 hgrow _))
      have hown3 : w1.ownsRow w.heap.size 110 3 v' (k + 1) (edc ((undo l).take (k + 1))) := by
        rw [undo_step (a := a) (by rw [Hll.out]; omega) (by rw [Hll.out]; exact Hla.out), edc_append]
        exact hown1
      have hbel3 : Below w.heap.size w w1 := (below_drew (hbel.alloc (by omega) _)).grown hgrow (by simp; omega) (own_ge hown)
      clear hown1 hgrow hown
      go_wp2
      go_roundw
      case rel => exact ⟨k + 1, by omega, by have := HE.out; go_num, hown3, hbel3⟩
      case measure => simp [intOf]
    · go_wp2
      go_ret
      have hkn : k = n := by omega
      subst hkn
      exact ⟨_, rfl, by rw [List.take_of_length_le (by rw [undo_length, Hll.out]; exact Nat.le_refl _)] at hown; exact hown, hbel⟩

set_option maxRecDepth 100000 in
theorem impl_undo_c {v : Value} {x : List Ed} (w : World) (h : EdsRd w 0 w.heap.size v x) (hn : x.length ≤ 1048576) :
    Calls Tryz.prog 39 #[v] w fun e w' => ∃ v', e = .returned v' ∧ EdsIn w' w.heap.size w'.heap.size v' (undo x) ∧ Below w.heap.size w w' := by
  obtain ⟨A, c, rfl, hm, hr⟩ := h
  refine (impl_undo A _ c x w hn hr).mono ?_
  rintro e w' ⟨v', rfl, ho, hb⟩
  exact ⟨v', rfl, EdsIn.mk ho undo_length.symm rfl, hb⟩
end Go.Proofs.YtfildenelgbmlaaGreatDoor

namespace Go.Proofs.YtfildenelgbmlaaGreatDoor
open Go.RowKit

def betw1 (ad : Bool) (b : Reg) (l : List Cell) : List Ed := (l.filter fun c => !b.has c.x c.y).map fun c => ⟨ad, c.x, c.y⟩
def betw (a b : Reg) : List Ed := if sameGrid a b = true then betw1 false b a.cells ++ betw1 true a b.cells else []
theorem betw1_take {ad : Bool} {b : Reg} {l : List Cell} {k : Nat} {c : Cell} (h : l[k]? = some c) : betw1 ad b (l.take (k + 1)) = betw1 ad b (l.take k) ++ if b.has c.x c.y = true then [] else [⟨ad, c.x, c.y⟩] := by
  unfold betw1
  have hk := (List.getElem?_eq_some_iff.1 h).1
  have e : l[k] = c := (List.getElem?_eq_some_iff.1 h).2
  rw [List.take_succ_eq_append_getElem hk, List.filter_append, List.map_append, e]
  congr 1
  cases hq : b.has c.x c.y <;> simp [hq]
theorem betw1_le {ad : Bool} {b : Reg} {l : List Cell} {k : Nat} : (betw1 ad b (l.take k)).length ≤ k := by
  unfold betw1
  rw [List.length_map]
  exact Nat.le_trans (List.length_filter_le _ _) (List.length_take_le _ _)
theorem betw1_all {ad : Bool} {b : Reg} {l : List Cell} : (betw1 ad b l).length ≤ l.length := by
  unfold betw1
  rw [List.length_map]
  exact List.length_filter_le _ _
theorem betw_length {a b : Reg} : (betw a b).length ≤ 72 := by
  unfold betw
  split
  · rename_i h
    simp only [sameGrid, Bool.and_eq_true] at h
    have h1 := Reg.cells_le (Reg.valid_iff.1 h.1.1.1)
    have h2 := Reg.cells_le (Reg.valid_iff.1 h.1.1.2)
    have h3 := betw1_all (ad := false) (b := b) (l := a.cells)
    have h4 := betw1_all (ad := true) (b := a) (l := b.cells)
    rw [List.length_append]; omega
  · simp

set_option maxRecDepth 100000 in
set_option maxHeartbeats 3200000 in
theorem impl_betw_c {v v' : Value} {a b : Reg} (w : World) (h : RegRd w 0 w.heap.size v a) (h' : RegRd w 0 w.heap.size v' b) :
    Calls Tryz.prog 41 #[v, v'] w fun en w' => ∃ r, en = .returned (.tuple #[r, .bool (sameGrid a b)]) ∧ EdsIn w' w.heap.size w'.heap.size r (betw a b) ∧ Below w.heap.size w w' := by
  obtain ⟨s, rfl, hs⟩ := h
  obtain ⟨A, c, rfl, hm, _⟩ := id hs
  obtain ⟨s', rfl, hs'⟩ := h'
  obtain ⟨A', c', rfl, hm', _⟩ := id hs'
  obtain ⟨i0, hi, hz0, hz1, hz2⟩ := info_parts infoEdit
  have hbel : Below w.heap.size w ((w.alloc (.cells #[.int .i64 a.w, .slice A a.rows.length c] 36)).alloc (.cells #[.int .i64 b.w, .slice A' b.rows.length c'] 36)) := ((Below.refl _ _).alloc (Nat.le_refl _) _).alloc (by simp) _
  have B0 : Blk ((w.alloc (.cells #[.int .i64 a.w, .slice A a.rows.length c] 36)).alloc (.cells #[.int .i64 b.w, .slice A' b.rows.length c'] 36)) w.heap.size 36 #[.int .i64 a.w, .slice A a.rows.length c] := (Blk.new _ _ _).alloc _
  have B1 : Blk ((w.alloc (.cells #[.int .i64 a.w, .slice A a.rows.length c] 36)).alloc (.cells #[.int .i64 b.w, .slice A' b.rows.length c'] 36)) (w.heap.size + 1) 36 #[.int .i64 b.w, .slice A' b.rows.length c'] := by
    have := Blk.new (w.alloc (.cells #[.int .i64 a.w, .slice A a.rows.length c] 36)) 36 #[.int .i64 b.w, .slice A' b.rows.length c']
    simpa using this
  have hsz : w.heap.size + 2 = ((w.alloc (.cells #[.int .i64 a.w, .slice A a.rows.length c] 36)).alloc (.cells #[.int .i64 b.w, .slice A' b.rows.length c'] 36)).heap.size := by simp
  obtain ⟨R, hR⟩ : ∃ R, R = betw a b := ⟨_, rfl⟩
  obtain ⟨g, hg⟩ : ∃ g, g = sameGrid a b := ⟨_, rfl⟩
  rw [← hR, ← hg]
  have HR := Lib.hid hR
  have HG := Lib.hid hg
  clear hR hg
  go_enter Tryz.func41, Tryz.ntmps41
  go_wp2_with fail
  generalize ((w.alloc (.cells #[.int .i64 a.w, .slice A a.rows.length c] 36)).alloc (.cells #[.int .i64 b.w, .slice A' b.rows.length c'] 36)) = W at *
  have HZ : w.heap.size + 2 ≤ W.heap.size := by omega
  clear hsz
  refine (sameGrid_c (a := a) (b := b) _ ⟨_, rfl, ((hs.keep (SameIn.of_below hbel (Nat.le_refl _))).more (Nat.le_refl _) (by omega))⟩ ⟨_, rfl, ((hs'.keep (SameIn.of_below hbel (Nat.le_refl _))).more (Nat.le_refl _) (by omega))⟩).mono ?_
  rintro en w1 ⟨rfl, hb1⟩
  rw [← HG.out]
  replace B0 := B0.below hb1 (by omega)
  replace B1 := B1.below hb1 (by omega)
  replace hbel := hbel.trans (hb1.mono (by omega))
  have sz1 := hb1.size
  clear hb1
  cases g
  · obtain rfl : R = [] := by rw [HR.out]; unfold betw; rw [← HG.out]; rfl
    clear B0 B1
    go_wp2
    go_ret2
    exact ⟨_, rfl, EdsIn.nil, hbel⟩
  · have hRR : R = betw1 false b a.cells ++ betw1 true a b.cells := by rw [HR.out]; unfold betw; rw [← HG.out]; rfl
    have hva : a.Valid := by have := HG.out; simp [sameGrid] at this; exact Reg.valid_iff.1 this.1.1.1
    have hvb : b.Valid := by have := HG.out; simp [sameGrid] at this; exact Reg.valid_iff.1 this.1.1.2
    have hla := Reg.cells_le hva
    have hlb := Reg.cells_le hvb
    have HRR := Lib.hid hRR
    have HVA := Lib.hid hva
    have HVB := Lib.hid hvb
    have HB0 := Lib.hid B0
    have HB1 := Lib.hid B1
    have c00 := B0.cell 0
    have c01 := B0.cell 1
    simp at c00 c01
    clear hRR hva hvb HR B0 B1
    go_wp2_with fail
    clear c00 c01
    refine (impl_cells_c (r := a) _ ⟨_, rfl, ((hs.keep (SameIn.of_below hbel (Nat.le_refl _))).more (Nat.le_refl _) (by omega))⟩ HVA.out).mono ?_
    rintro en w2 ⟨vc, rfl, oc, hb2⟩
    obtain ⟨LA, hLA⟩ : ∃ LA, LA = a.cells := ⟨_, rfl⟩
    rw [← hLA] at oc hla
    have HLA := Lib.hid hLA
    obtain ⟨Ac, cc', rfl, _, hrc⟩ := oc.rd
    replace hbel := hbel.trans (hb2.mono (by omega))
    have B0 := HB0.out.below hb2 (by omega)
    have B1 := HB1.out.below hb2 (by omega)
    have sz2 := hb2.size
    clear hLA hb2 HB0 HB1 oc
    have HB0 := Lib.hid B0
    have HB1 := Lib.hid B1
    clear B0 B1
    go_wp2
    go_loopw [6, 18] (fun o i wr => ∃ k : Nat, k ≤ LA.length ∧ i = .int .i64 k ∧ wr.ownsRow w2.heap.size 110 3 o (([] : List Ed) ++ betw1 false b (LA.take k)).length (edc (([] : List Ed) ++ betw1 false b (LA.take k))) ∧ Below w2.heap.size w2 wr ∧ Rd wr w1.heap.size w2.heap.size 2 Ac LA.length (cc LA) ∧ w2.heap.size ≤ wr.heap.size ∧ ∀ q, o.ownBlock = some q → q < w1.heap.size ∨ w2.heap.size ≤ q) (fun _ i _ => LA.length - (intOf i).toNat)
    case atStart => exact ⟨0, Nat.zero_le _, rfl, by simpa [betw1, edc, fl3] using World.ownsRow_nil w2 w2.heap.size 110 3, Below.refl _ _, hrc, Nat.le_refl _, fun q hq => by simp [Value.ownBlock] at hq⟩
    case round =>
      obtain ⟨k, hk, rfl, hown, hbr, hrc, hhi, hap⟩ := hrel
      have szr := hbr.size
      have hbw := hbel.trans (hbr.mono (by omega))
      by_cases hlt : k < LA.length
      · have Hrc := Lib.hid hrc
        obtain ⟨bb, off, cl, rfl, hb0, hbb, hcl, q1, q2⟩ := hrc.at2 hlt
        have BB := HB1.out.below hbr (by omega)
        have k0 := BB.cell 0
        have k1 := BB.cell 1
        simp at k0 k1
        have hbl := betw1_le (ad := false) (b := b) (l := LA) (k := k)
        have hll : (([] : List Ed) ++ betw1 false b (LA.take k)).length ≤ 72 := by rw [List.length_append]; (simp; omega)
        have hst := betw1_take (ad := false) (b := b) hcl
        have lt1 : w.heap.size + 1 < wr.heap.size := by omega
        have lt0 : w.heap.size < wr.heap.size := by omega
        have hbw2 : Below w.heap.size w (wr.alloc (.cells #[.int .i64 cl.x, .int .i64 cl.y] 96)) := hbw.alloc (by omega) _
        have hbr2 : Below w2.heap.size w2 (wr.alloc (.cells #[.int .i64 cl.x, .int .i64 cl.y] 96)) := hbr.alloc (by omega) _
        have BC := Blk.new wr 96 #[.int .i64 cl.x, .int .i64 cl.y]
        have HRC := Lib.hid (Hrc.out.keep (SameIn.alloc hhi (.cells #[.int .i64 cl.x, .int .i64 cl.y] 96)))
        clear BB hrc hcl Hrc
        go_wp2_with fail
        refine (impl_has_c (r := b) _ _ _ ⟨_, rfl, ((hs'.keep (SameIn.of_below hbw2 (Nat.le_refl _))).more (Nat.le_refl _) (by simp; omega))⟩ HVB.out).mono ?_
        rintro en w3 ⟨rfl, hb3⟩
        have sz3 := hb3.size
        simp only [World.size_alloc] at sz3
        have hown3 := own_below (hown.alloc (.cells #[.int .i64 cl.x, .int .i64 cl.y] 96)) hb3 (Nat.le_refl _)
        have hbr3 := hbr2.trans (hb3.mono (by simp; omega))
        have BC3 := BC.below hb3 (by simp)
        have cb0 := BC3.cell 0
        have cb1 := BC3.cell 1
        simp at cb0 cb1
        have HRC3 := Lib.hid (HRC.out.keep (SameIn.of_below hb3 (by simp; omega)))
        clear k0 k1 hown hbw2 hbr2 BC BC3 HRC hb3 q1 q2
        cases hq : b.has cl.x cl.y
        · rw [hq] at hst
          simp only [Bool.false_eq_true, if_false] at hst
          have HS := Lib.hid hst
          clear hst hq
          go_wp2_with (at_builtin; refine wpList_append_own_at _ rfl _ _ 57 rfl w2.heap.size 110 i0 _ 3 24 Tryz.underlying57 hi hz0 hz1 hz2 rfl (by decide) _ _ _ rfl (hown3.alloc _) ⟨w3.heap.size, 0, none⟩ 1 1 [.bool false, .int .i64 cl.x, .int .i64 cl.y] rfl rfl (news_alloc w3 #[.bool false, .int .i64 cl.x, .int .i64 cl.y] _) (by intro u hu; simp at hu; rcases hu with rfl | rfl | rfl <;> rfl) (by unfold maxLen; omega) (by omega) (by simp; omega) ?_; intro v' w4 hown4 hgrow _ hat)
          have hap4 := apart_grown (H := (w3.alloc (.cells #[.bool false, .int .i64 cl.x, .int .i64 cl.y] 110)).heap.size) (by simp; omega) hap hat
          have hrc4 := (HRC3.out.keep (SameIn.alloc (by omega) (.cells #[.bool false, .int .i64 cl.x, .int .i64 cl.y] 110))).keep (SameIn.of_grown hgrow (by simp; omega) hap)
          have hbr4 : Below w2.heap.size w2 w4 := (hbr3.alloc (by omega) _).grown hgrow (by simp; omega) (own_ge hown3)
          have sz4 := hgrow.size
          simp only [World.size_alloc] at sz4
          have hown5 : w4.ownsRow w2.heap.size 110 3 v' (([] : List Ed) ++ betw1 false b (LA.take (k + 1))).length (edc (([] : List Ed) ++ betw1 false b (LA.take (k + 1)))) := by
            rw [HS.out, ← List.append_assoc, edc_append, List.length_append]
            exact hown4
          clear hown4 hgrow hown3 hat cb0 cb1
          go_wp2
          go_roundw
          case rel => exact ⟨k + 1, by omega, by go_num, hown5, hbr4, hrc4, by omega, hap4⟩
          case measure => simp [intOf]; omega
        · rw [hq, if_pos rfl, List.append_nil] at hst
          have HS := Lib.hid hst
          clear hst hq cb0 cb1
          go_wp2
          go_roundw
          case rel => exact ⟨k + 1, by omega, by go_num, by rw [HS.out]; exact hown3, hbr3, HRC3.out, by omega, hap⟩
          case measure => simp [intOf]; omega
      · have hkn : k = LA.length := by omega
        subst hkn
        rw [List.take_length] at hown
        have BB := HB1.out.below hbr (by omega)
        have k0 := BB.cell 0
        have k1 := BB.cell 1
        simp at k0 k1
        clear BB
        go_wp2_with fail
        clear k0 k1
        refine (impl_cells_c (r := b) _ ⟨_, rfl, ((hs'.keep (SameIn.of_below hbw (Nat.le_refl _))).more (Nat.le_refl _) (by omega))⟩ HVB.out).mono ?_
        rintro en w5 ⟨vd, rfl, od, hb5⟩
        obtain ⟨LB, hLB⟩ : ∃ LB, LB = b.cells := ⟨_, rfl⟩
        rw [← hLB] at od hlb
        have HLB := Lib.hid hLB
        obtain ⟨Ad, cd', rfl, _, hrd⟩ := od.rd
        have hbr5 := hbr.trans (hb5.mono (by omega))
        have hap5 := own_lt hown
        have hown5 := own_below hown hb5 (Nat.le_refl _)
        have sz5 := hb5.size
        clear hLB hb5 od hown hbr hbw hk
        clear hrc hap
        obtain ⟨wm, hwm⟩ : ∃ wm : World, wm = wr := ⟨_, rfl⟩
        subst hwm
        go_wp2
        go_loopw [6, 41] (fun o i wr => ∃ k : Nat, k ≤ LB.length ∧ i = .int .i64 k ∧ wr.ownsRow w2.heap.size 110 3 o (betw1 false b LA ++ betw1 true a (LB.take k)).length (edc (betw1 false b LA ++ betw1 true a (LB.take k))) ∧ Below w2.heap.size w2 wr ∧ Rd wr wm.heap.size w5.heap.size 2 Ad LB.length (cc LB) ∧ w5.heap.size ≤ wr.heap.size ∧ ∀ q, o.ownBlock = some q → q < wm.heap.size ∨ w5.heap.size ≤ q) (fun _ i _ => LB.length - (intOf i).toNat)
        case atStart => exact ⟨0, Nat.zero_le _, rfl, by simpa [betw1] using hown5, hbr5, hrd, Nat.le_refl _, fun q hq => .inl (hap5 q hq)⟩
        case round =>
          obtain ⟨k, hk, rfl, hown, hbr, hrc, hhi, hap⟩ := hrel
          have szr := hbr.size
          have hbw := hbel.trans (hbr.mono (by omega))
          by_cases hlt : k < LB.length
          · have Hrc := Lib.hid hrc
            obtain ⟨bb, off, cl, rfl, hb0, hbb, hcl, q1, q2⟩ := hrc.at2 hlt
            have BB := HB0.out.below hbr (by omega)
            have k0 := BB.cell 0
            have k1 := BB.cell 1
            simp at k0 k1
            have hbl := betw1_le (ad := true) (b := a) (l := LB) (k := k)
            have hll : (betw1 false b LA ++ betw1 true a (LB.take k)).length ≤ 72 := by rw [List.length_append]; (have := betw1_all (ad := false) (b := b) (l := LA); omega)
            have hst := betw1_take (ad := true) (b := a) hcl
            have lt1 : w.heap.size + 1 < wr.heap.size := by omega
            have lt0 : w.heap.size < wr.heap.size := by omega
            have hbw2 : Below w.heap.size w (wr.alloc (.cells #[.int .i64 cl.x, .int .i64 cl.y] 96)) := hbw.alloc (by omega) _
            have hbr2 : Below w2.heap.size w2 (wr.alloc (.cells #[.int .i64 cl.x, .int .i64 cl.y] 96)) := hbr.alloc (by omega) _
            have BC := Blk.new wr 96 #[.int .i64 cl.x, .int .i64 cl.y]
            have HRC := Lib.hid (Hrc.out.keep (SameIn.alloc hhi (.cells #[.int .i64 cl.x, .int .i64 cl.y] 96)))
            clear BB hrc hcl Hrc
            go_wp2_with fail
            refine (impl_has_c (r := a) _ _ _ ⟨_, rfl, ((hs.keep (SameIn.of_below hbw2 (Nat.le_refl _))).more (Nat.le_refl _) (by simp; omega))⟩ HVA.out).mono ?_
            rintro en w3 ⟨rfl, hb3⟩
            have sz3 := hb3.size
            simp only [World.size_alloc] at sz3
            have hown3 := own_below (hown.alloc (.cells #[.int .i64 cl.x, .int .i64 cl.y] 96)) hb3 (Nat.le_refl _)
            have hbr3 := hbr2.trans (hb3.mono (by simp; omega))
            have BC3 := BC.below hb3 (by simp)
            have cb0 := BC3.cell 0
            have cb1 := BC3.cell 1
            simp at cb0 cb1
            have HRC3 := Lib.hid (HRC.out.keep (SameIn.of_below hb3 (by simp; omega)))
            clear k0 k1 hown hbw2 hbr2 BC BC3 HRC hb3 q1 q2
            cases hq : a.has cl.x cl.y
            · rw [hq] at hst
              simp only [Bool.false_eq_true, if_false] at hst
              have HS := Lib.hid hst
              clear hst hq
              go_wp2_with (at_builtin; refine wpList_append_own_at _ rfl _ _ 57 rfl w2.heap.size 110 i0 _ 3 24 Tryz.underlying57 hi hz0 hz1 hz2 rfl (by decide) _ _ _ rfl (hown3.alloc _) ⟨w3.heap.size, 0, none⟩ 1 1 [.bool true, .int .i64 cl.x, .int .i64 cl.y] rfl rfl (news_alloc w3 #[.bool true, .int .i64 cl.x, .int .i64 cl.y] _) (by intro u hu; simp at hu; rcases hu with rfl | rfl | rfl <;> rfl) (by unfold maxLen; omega) (by omega) (by simp; omega) ?_; intro v' w4 hown4 hgrow _ hat)
              have hap4 := apart_grown (H := (w3.alloc (.cells #[.bool true, .int .i64 cl.x, .int .i64 cl.y] 110)).heap.size) (by simp; omega) hap hat
              have hrc4 := (HRC3.out.keep (SameIn.alloc (by omega) (.cells #[.bool true, .int .i64 cl.x, .int .i64 cl.y] 110))).keep (SameIn.of_grown hgrow (by simp; omega) hap)
              have hbr4 : Below w2.heap.size w2 w4 := (hbr3.alloc (by omega) _).grown hgrow (by simp; omega) (own_ge hown3)
              have sz4 := hgrow.size
              simp only [World.size_alloc] at sz4
              have hown5 : w4.ownsRow w2.heap.size 110 3 v' (betw1 false b LA ++ betw1 true a (LB.take (k + 1))).length (edc (betw1 false b LA ++ betw1 true a (LB.take (k + 1)))) := by
                rw [HS.out, ← List.append_assoc, edc_append, List.length_append]
                exact hown4
              clear hown4 hgrow hown3 hat cb0 cb1
              go_wp2
              go_roundw
              case rel => exact ⟨k + 1, by omega, by go_num, hown5, hbr4, hrc4, by omega, hap4⟩
              case measure => simp [intOf]; omega
            · rw [hq, if_pos rfl, List.append_nil] at hst
              have HS := Lib.hid hst
              clear hst hq cb0 cb1
              go_wp2
              go_roundw
              case rel => exact ⟨k + 1, by omega, by go_num, by rw [HS.out]; exact hown3, hbr3, HRC3.out, by omega, hap⟩
              case measure => simp [intOf]; omega
          · have hkn : k = LB.length := by omega
            subst hkn
            rw [List.take_length] at hown
            go_wp2
            go_ret2
            exact ⟨_, rfl, EdsIn.mk (own_base hown (by omega)) (by rw [HRR.out, HLA.out, HLB.out]) (by rw [HRR.out, HLA.out, HLB.out]), hbw⟩
end Go.Proofs.YtfildenelgbmlaaGreatDoor

namespace Go.Proofs.YtfildenelgbmlaaGreatDoor
open Go.RowKit

def sbRow (a b : Reg) (rd y k : Nat) : List Ed := ((List.range k).filter fun x : Nat => (a.has x y == (rd == 0)) && (b.has x y == (rd == 1))).map fun x : Nat => ⟨rd == 1, x, y⟩
def sbTo (a b : Reg) (rd k : Nat) : List Ed := (List.range k).flatMap fun y => sbRow a b rd y a.w.toNat
def sbAll (a b : Reg) (R : Nat) : List Ed := (List.range R).flatMap fun rd => sbTo a b rd a.rows.length
theorem sbRow_succ {a b : Reg} {rd y k : Nat} : sbRow a b rd y (k + 1) = sbRow a b rd y k ++ if ((a.has k y == (rd == 0)) && (b.has k y == (rd == 1))) = true then [⟨rd == 1, k, y⟩] else [] := by
  unfold sbRow
  rw [List.range_succ, List.filter_append, List.map_append]
  congr 1
  cases h : ((a.has k y == (rd == 0)) && (b.has k y == (rd == 1))) <;> simp [h]
theorem sbTo_succ {a b : Reg} {rd k : Nat} : sbTo a b rd (k + 1) = sbTo a b rd k ++ sbRow a b rd k a.w.toNat := by
  unfold sbTo; rw [List.range_succ, List.flatMap_append]; simp
theorem sbAll_succ {a b : Reg} {k : Nat} : sbAll a b (k + 1) = sbAll a b k ++ sbTo a b k a.rows.length := by
  unfold sbAll; rw [List.range_succ, List.flatMap_append]; simp
theorem sbRow_le {a b : Reg} {rd y k : Nat} : (sbRow a b rd y k).length ≤ k := by
  unfold sbRow; rw [List.length_map]; exact Nat.le_trans (List.length_filter_le _ _) (by simp)
theorem sbTo_le {a b : Reg} {rd k : Nat} : (sbTo a b rd k).length ≤ k * a.w.toNat := by
  induction k with
  | zero => simp [sbTo]
  | succ k ih => rw [sbTo_succ, List.length_append, Nat.add_mul]; have := sbRow_le (a := a) (b := b) (rd := rd) (y := k) (k := a.w.toNat); omega
theorem sbAll_le {a b : Reg} (h : a.Valid) {R : Nat} : (sbAll a b R).length ≤ R * 36 := by
  induction R with
  | zero => simp [sbAll]
  | succ k ih =>
    rw [sbAll_succ, List.length_append, Nat.add_mul]
    have h1 := sbTo_le (a := a) (b := b) (rd := k) (k := a.rows.length)
    have h2 : a.rows.length * a.w.toNat ≤ 6 * 6 := Nat.mul_le_mul h.2.2.2.1 (by have := h.2.1; omega)
    omega
theorem betw1_cells {ad : Bool} {r t : Reg} : betw1 ad t r.cells = (List.range r.rows.length).flatMap fun y : Nat => ((List.range r.w.toNat).filter fun x : Nat => r.has x y && !t.has x y).map fun x : Nat => ⟨ad, x, y⟩ := by
  unfold betw1 Reg.cells Reg.cellsTo Reg.rowTo
  rw [List.filter_flatMap, List.map_flatMap]
  congr 1
  funext y
  rw [List.filter_map, List.map_map, List.filter_filter]
  congr 1
  congr 1
  funext x
  simp [Function.comp, Bool.and_comm]
theorem sbAll_eq {a b : Reg} (h : sameGrid a b = true) : sbAll a b 2 = betw a b := by
  unfold betw
  rw [if_pos h]
  simp only [sameGrid, Bool.and_eq_true, decide_eq_true_eq] at h
  rw [sbAll_succ, sbAll_succ, betw1_cells, betw1_cells]
  have e0 : sbAll a b 0 = [] := by simp [sbAll]
  rw [e0, List.nil_append, ← h.1.2, ← h.2]
  unfold sbTo sbRow
  congr 1
  · congr 1
    funext y
    congr 1
    congr 1
    funext x
    simp
  · congr 1
    funext y
    congr 1
    congr 1
    funext x
    simp [Bool.and_comm]

set_option maxRecDepth 100000 in
set_option maxHeartbeats 3200000 in
theorem spec_betw_c {v v' : Value} {a b : Reg} (w : World) (h : RegRd w 0 w.heap.size v a) (h' : RegRd w 0 w.heap.size v' b) :
    Calls Tryz.prog 42 #[v, v'] w fun en w' => ∃ r, en = .returned (.tuple #[r, .bool (sameGrid a b)]) ∧ EdsIn w' w.heap.size w'.heap.size r (betw a b) ∧ Below w.heap.size w w' := by
  obtain ⟨s, rfl, hs1⟩ := h
  obtain ⟨A1, c1, rfl, hm1, _⟩ := id hs1
  obtain ⟨s', rfl, hs3⟩ := h'
  obtain ⟨A3, c3, rfl, hm3, _⟩ := id hs3
  obtain ⟨i0, hi, hz0, hz1, hz2⟩ := info_parts infoEdit
  have hbel : Below w.heap.size w (((w.alloc (.cells #[.int .i64 a.w, .slice A1 a.rows.length c1] 36)).alloc (.cells #[.int .i64 b.w, .slice A3 b.rows.length c3] 36)).alloc (.cells #[] 110)) := (((Below.refl _ _).alloc (Nat.le_refl _) _).alloc (by simp) _).alloc (by simp; omega) _
  have B0 : Blk (((w.alloc (.cells #[.int .i64 a.w, .slice A1 a.rows.length c1] 36)).alloc (.cells #[.int .i64 b.w, .slice A3 b.rows.length c3] 36)).alloc (.cells #[] 110)) w.heap.size 36 #[.int .i64 a.w, .slice A1 a.rows.length c1] := ((Blk.new _ _ _).alloc _).alloc _
  have B1 : Blk (((w.alloc (.cells #[.int .i64 a.w, .slice A1 a.rows.length c1] 36)).alloc (.cells #[.int .i64 b.w, .slice A3 b.rows.length c3] 36)).alloc (.cells #[] 110)) (w.heap.size + 1) 36 #[.int .i64 b.w, .slice A3 b.rows.length c3] := by
    have := (Blk.new (w.alloc (.cells #[.int .i64 a.w, .slice A1 a.rows.length c1] 36)) 36 #[.int .i64 b.w, .slice A3 b.rows.length c3]).alloc (.cells #[] 110)
    simpa using this
  have B2 : Blk (((w.alloc (.cells #[.int .i64 a.w, .slice A1 a.rows.length c1] 36)).alloc (.cells #[.int .i64 b.w, .slice A3 b.rows.length c3] 36)).alloc (.cells #[] 110)) (w.heap.size + 1 + 1) 110 #[] := by
    have := Blk.new ((w.alloc (.cells #[.int .i64 a.w, .slice A1 a.rows.length c1] 36)).alloc (.cells #[.int .i64 b.w, .slice A3 b.rows.length c3] 36)) 110 #[]
    simpa using this
  have hsz : w.heap.size + 3 = (((w.alloc (.cells #[.int .i64 a.w, .slice A1 a.rows.length c1] 36)).alloc (.cells #[.int .i64 b.w, .slice A3 b.rows.length c3] 36)).alloc (.cells #[] 110)).heap.size := by simp
  obtain ⟨R, hR⟩ : ∃ R, R = betw a b := ⟨_, rfl⟩
  obtain ⟨g, hg⟩ : ∃ g, g = sameGrid a b := ⟨_, rfl⟩
  rw [← hR, ← hg]
  have HR := Lib.hid hR
  have HG := Lib.hid hg
  clear hR hg
  go_enter Tryz.func42, Tryz.ntmps42
  go_wp2_with fail
  generalize (((w.alloc (.cells #[.int .i64 a.w, .slice A1 a.rows.length c1] 36)).alloc (.cells #[.int .i64 b.w, .slice A3 b.rows.length c3] 36)).alloc (.cells #[] 110)) = W at *
  have HZ : w.heap.size + 3 ≤ W.heap.size := by omega
  clear hsz
  refine (spec_IsRegion_c (r := a) _ ⟨_, rfl, ((hs1.keep (SameIn.of_below hbel (Nat.le_refl _))).more (Nat.le_refl _) (by omega))⟩).mono ?_
  rintro en w1 ⟨rfl, hb1⟩
  replace B0 := B0.below hb1 (by omega)
  replace B1 := B1.below hb1 (by omega)
  replace B2 := B2.below hb1 (by omega)
  replace hbel := hbel.trans (hb1.mono (by omega))
  have sz1 := hb1.size
  have HB0 := Lib.hid B0
  have HB1 := Lib.hid B1
  have HB2 := Lib.hid B2
  have c10 := B1.cell 0
  have c11 := B1.cell 1
  simp at c10 c11
  clear hb1 B0 B1 B2
  cases ha : a.valid
  · obtain rfl : g = false := by rw [HG.out]; simp [sameGrid, ha]
    obtain rfl : R = [] := by rw [HR.out]; simp [betw, ← HG.out]
    clear ha c10 c11
    go_wp2
    go_ret2
    exact ⟨_, rfl, EdsIn.mk (own_zero HB2.out (by omega)) rfl rfl, hbel⟩
  · go_wp2_with fail
    clear c10 c11
    refine (spec_IsRegion_c (r := b) _ ⟨_, rfl, ((hs3.keep (SameIn.of_below hbel (Nat.le_refl _))).more (Nat.le_refl _) (by omega))⟩).mono ?_
    rintro en w2 ⟨rfl, hb2⟩
    have B0 := HB0.out.below hb2 (by omega)
    have B1 := HB1.out.below hb2 (by omega)
    have B2 := HB2.out.below hb2 (by omega)
    replace hbel := hbel.trans (hb2.mono (by omega))
    have sz2 := hb2.size
    clear hb2 HB0 HB1 HB2
    have HB0 := Lib.hid B0
    have HB1 := Lib.hid B1
    have HB2 := Lib.hid B2
    cases hv : b.valid
    · obtain rfl : g = false := by rw [HG.out]; simp [sameGrid, hv]
      obtain rfl : R = [] := by rw [HR.out]; simp [betw, ← HG.out]
      clear ha hv B0 B1 B2
      go_wp2
      go_ret2
      exact ⟨_, rfl, EdsIn.mk (own_zero HB2.out (by omega)) rfl rfl, hbel⟩
    · have c00 := B0.cell 0
      have c01 := B0.cell 1
      have c10 := B1.cell 0
      have c11 := B1.cell 1
      simp at c00 c01 c10 c11
      clear B0 B1 B2
      have hv1 := Reg.valid_iff.1 ha
      have hv2 := Reg.valid_iff.1 hv
      have HVA := Lib.hid hv1
      have HVB := Lib.hid hv2
      by_cases hw : a.w = b.w
      · have e1 : (a.w != b.w) = false := by simp [hw]
        by_cases hl : a.rows.length = b.rows.length
        · have e2 : ((a.rows.length : Int) != (b.rows.length : Int)) = false := by simp [hl]
          obtain rfl : g = true := by rw [HG.out]; simp [sameGrid, ha, hv, hw, hl]
          have hRR : R = sbAll a b 2 := by rw [HR.out, sbAll_eq HG.out.symm]
          have HRR := Lib.hid hRR
          have haw : a.w.toNat ≤ 6 := by have := hv1.2.1; omega
          have hah := hv1.2.2.2.1
          obtain ⟨wn, hwn⟩ : ∃ wn : Nat, a.w = (wn : Int) := ⟨a.w.toNat, by have := hv1.1; omega⟩
          have hwn2 : a.w.toNat = wn := by omega
          have HN := Lib.hid hwn
          have HW := Lib.hid hwn2
          have hw6 : wn ≤ 6 := by omega
          have B0n := HB0.out
          rw [hwn] at c00 e1 B0n ⊢
          clear HB0
          have HB0 := Lib.hid B0n
          clear B0n
          clear hRR HR ha hv hv1 hv2 hw hl haw hwn hwn2
          go_wp2
          clear c00 c01 c10 c11 e1 e2
          go_loopw [6, 7] (fun o i wr => ∃ rd : Nat, rd ≤ 2 ∧ i = .int .i64 rd ∧ wr.ownsRow (w.heap.size + 2) 110 3 o (sbAll a b rd).length (edc (sbAll a b rd)) ∧ Below (w.heap.size + 2) w2 wr) (fun _ i _ => 2 - (intOf i).toNat)
          case atStart => exact ⟨0, Nat.zero_le _, rfl, own_zero HB2.out (by omega), Below.refl _ _⟩
          case round =>
            obtain ⟨rd, hrd, rfl, hown, hbr⟩ := hrel
            obtain ⟨wo, hwo⟩ : ∃ wo : World, wo = wr := ⟨_, rfl⟩
            subst hwo
            have hsz := hbr.size
            have hall := sbAll_le (b := b) HVA.out (R := rd)
            by_cases hlt : rd < 2
            · have hd : decide ((rd : Int) < 2) = true := by simp; omega
              have Hown := Lib.hid hown
              have Hbr := Lib.hid hbr
              clear hown hbr
              go_wp2
              go_loopw [6, 8] (fun o i wr => ∃ k : Nat, k ≤ a.rows.length ∧ i = .int .i64 k ∧ wr.ownsRow (w.heap.size + 2) 110 3 o (sbAll a b rd ++ sbTo a b rd k).length (edc (sbAll a b rd ++ sbTo a b rd k)) ∧ Below (w.heap.size + 2) w2 wr) (fun _ i _ => a.rows.length - (intOf i).toNat)
              case atStart => exact ⟨0, Nat.zero_le _, rfl, by simpa [sbTo] using Hown.out, Hbr.out⟩
              case round =>
                obtain ⟨k, hk, rfl, hown, hbr⟩ := hrel
                obtain ⟨wo2, hwo⟩ : ∃ wo : World, wo = wr := ⟨_, rfl⟩
                subst hwo
                have hsz2 := hbr.size
                have hto := sbTo_le (a := a) (b := b) (rd := rd) (k := k)
                rw [HW.out] at hto
                have hkw : k * wn ≤ 6 * 6 := Nat.mul_le_mul (by omega) hw6
                have BB := HB0.out.below hbr (by omega)
                have c00 := BB.cell 0
                have c01 := BB.cell 1
                simp at c00 c01
                clear BB
                by_cases hlk : k < a.rows.length
                · have hd2 : decide ((k : Int) < (a.rows.length : Int)) = true := by simp; omega
                  have Hown2 := Lib.hid hown
                  have Hbr2 := Lib.hid hbr
                  clear hown hbr
                  go_wp2
                  clear c00 c01
                  go_loopw [6, 9] (fun o i wr => ∃ j : Nat, j ≤ wn ∧ i = .int .i64 j ∧ wr.ownsRow (w.heap.size + 2) 110 3 o (sbAll a b rd ++ sbTo a b rd k ++ sbRow a b rd k j).length (edc (sbAll a b rd ++ sbTo a b rd k ++ sbRow a b rd k j)) ∧ Below (w.heap.size + 2) w2 wr) (fun _ i _ => wn - (intOf i).toNat)
                  case atStart => exact ⟨0, Nat.zero_le _, rfl, by simpa [sbRow] using Hown2.out, Hbr2.out⟩
                  case round =>
                    obtain ⟨j, hj, rfl, hown, hbr⟩ := hrel
                    have hsz3 := hbr.size
                    have hbw := hbel.trans (hbr.mono (by omega))
                    have hrl := sbRow_le (a := a) (b := b) (rd := rd) (y := k) (k := j)
                    have hll : (sbAll a b rd ++ sbTo a b rd k ++ sbRow a b rd k j).length ≤ 200 := by rw [List.length_append, List.length_append]; omega
                    have BB := HB0.out.below hbr (by omega)
                    have c00 := BB.cell 0
                    have c01 := BB.cell 1
                    simp at c00 c01
                    clear BB
                    by_cases hlj : j < wn
                    · have hst := sbRow_succ (a := a) (b := b) (rd := rd) (y := k) (k := j)
                      have z0 : (rd == 0) = ((rd : Int) == 0) := by rw [Bool.eq_iff_iff]; simp
                      have z1 : (rd == 1) = ((rd : Int) == 1) := by rw [Bool.eq_iff_iff]; simp; omega
                      rw [z0, z1] at hst
                      have HST := Lib.hid hst
                      clear hst z0 z1
                      go_wp2_with fail
                      clear c00 c01
                      refine (spec_has_c (r := a) _ _ _ ⟨_, by rw [HN.out], ((hs1.keep (SameIn.of_below hbw (Nat.le_refl _))).more (Nat.le_refl _) (by omega))⟩ HVA.out).mono ?_
                      rintro en w3 ⟨rfl, hb3⟩
                      have hown3 := own_below hown hb3 (Nat.le_refl _)
                      have hbr3 := hbr.trans (hb3.mono (by omega))
                      have hbw3 := hbw.trans (hb3.mono (by omega))
                      have sz3 := hb3.size
                      clear hown hbr hbw hb3
                      cases hc1 : (a.has (j : Int) (k : Int) == ((rd : Int) == 0))
                      · have hst := HST.out
                        rw [hc1] at hst
                        simp only [Bool.false_and, Bool.false_eq_true, if_false, List.append_nil] at hst
                        have HS := Lib.hid hst
                        clear hst
                        go_wp2
                        go_roundw
                        case rel => exact ⟨j + 1, by omega, by go_num, by rw [HS.out]; exact hown3, hbr3⟩
                        case measure => simp [intOf]; omega
                      · have BB := HB1.out.below hbr3 (by omega)
                        have c10 := BB.cell 0
                        have c11 := BB.cell 1
                        simp at c10 c11
                        clear BB
                        go_wp2_with fail
                        clear c10 c11
                        refine (spec_has_c (r := b) _ _ _ ⟨_, rfl, ((hs3.keep (SameIn.of_below hbw3 (Nat.le_refl _))).more (Nat.le_refl _) (by omega))⟩ HVB.out).mono ?_
                        rintro en w4 ⟨rfl, hb4⟩
                        have hown4 := own_below hown3 hb4 (Nat.le_refl _)
                        have hbr4 := hbr3.trans (hb4.mono (by omega))
                        have sz4 := hb4.size
                        clear hown3 hbr3 hbw3 hb4
                        cases hc2 : (b.has (j : Int) (k : Int) == ((rd : Int) == 1))
                        · have hst := HST.out
                          rw [hc1, hc2] at hst
                          simp only [Bool.and_false, Bool.false_eq_true, if_false, List.append_nil] at hst
                          have HS := Lib.hid hst
                          clear hst
                          go_wp2
                          go_roundw
                          case rel => exact ⟨j + 1, by omega, by go_num, by rw [HS.out]; exact hown4, hbr4⟩
                          case measure => simp [intOf]; omega
                        · have hst := HST.out
                          rw [hc1, hc2] at hst
                          simp only [Bool.and_self, if_true] at hst
                          have HS := Lib.hid hst
                          clear hst
                          go_wp2_with (at_builtin; refine wpList_append_own_at _ rfl _ _ 57 rfl (w.heap.size + 2) 110 i0 _ 3 24 Tryz.underlying57 hi hz0 hz1 hz2 rfl (by decide) _ _ _ rfl (hown4.alloc _) ⟨w4.heap.size, 0, none⟩ 1 1 [.bool ((rd : Int) == 1), .int .i64 j, .int .i64 k] rfl rfl (news_alloc w4 #[.bool ((rd : Int) == 1), .int .i64 j, .int .i64 k] _) (by intro u hu; simp at hu; rcases hu with rfl | rfl | rfl <;> rfl) (by unfold maxLen; omega) (by omega) (by simp; omega) ?_; intro v' w5 hown5 hgrow _ hat)
                          have hbr5 : Below (w.heap.size + 2) w2 w5 := (hbr4.alloc (by omega) _).grown hgrow (by simp; omega) (own_ge hown4)
                          have hown6 : w5.ownsRow (w.heap.size + 2) 110 3 v' (sbAll a b rd ++ sbTo a b rd k ++ sbRow a b rd k (j + 1)).length (edc (sbAll a b rd ++ sbTo a b rd k ++ sbRow a b rd k (j + 1))) := by
                            rw [HS.out, ← List.append_assoc, edc_append, List.length_append]
                            exact hown5
                          clear hown5 hgrow hat hown4
                          go_wp2
                          go_roundw
                          case rel => exact ⟨j + 1, by omega, by go_num, hown6, hbr5⟩
                          case measure => simp [intOf]; omega
                    · have hjw : j = wn := by omega
                      subst hjw
                      have hown6 : wr.ownsRow (w.heap.size + 2) 110 3 u6 (sbAll a b rd ++ sbTo a b rd (k + 1)).length (edc (sbAll a b rd ++ sbTo a b rd (k + 1))) := by
                        rw [sbTo_succ, HW.out, ← List.append_assoc]
                        exact hown
                      clear hown
                      go_wp2
                      go_roundw
                      case rel => exact ⟨k + 1, by omega, by go_num, hown6, hbr⟩
                      case measure => simp [intOf]; omega
                · have hkn : k = a.rows.length := by omega
                  subst hkn
                  have hown6 : wo2.ownsRow (w.heap.size + 2) 110 3 u6 (sbAll a b (rd + 1)).length (edc (sbAll a b (rd + 1))) := by
                    rw [sbAll_succ]
                    exact hown
                  clear hown
                  go_wp2
                  go_roundw
                  case rel => exact ⟨rd + 1, by omega, by go_num, hown6, hbr⟩
                  case measure => simp [intOf]; omega
            · have hkn : rd = 2 := by omega
              subst hkn
              go_wp2
              go_ret2
              exact ⟨_, rfl, EdsIn.mk (own_base hown (by omega)) (by rw [HRR.out]) (by rw [HRR.out]), hbel.trans (hbr.mono (by omega))⟩
        · have e2 : ((a.rows.length : Int) != (b.rows.length : Int)) = true := by simp; omega
          obtain rfl : g = false := by rw [HG.out]; simp [sameGrid, hl]
          obtain rfl : R = [] := by rw [HR.out]; simp [betw, ← HG.out]
          clear ha hv hw hl
          go_wp2
          go_ret2
          exact ⟨_, rfl, EdsIn.mk (own_zero HB2.out (by omega)) rfl rfl, hbel⟩
      · have e1 : (a.w != b.w) = true := by simp [hw]
        obtain rfl : g = false := by rw [HG.out]; simp [sameGrid, hw]
        obtain rfl : R = [] := by rw [HR.out]; simp [betw, ← HG.out]
        clear ha hv hw
        go_wp2
        go_ret2
        exact ⟨_, rfl, EdsIn.mk (own_zero HB2.out (by omega)) rfl rfl, hbel⟩
end Go.Proofs.YtfildenelgbmlaaGreatDoor

namespace Go.Proofs.YtfildenelgbmlaaGreatDoor
open Go.RowKit

theorem reg_ext {a b : Reg} (ha : a.Valid) (hb : b.Valid) (hw : a.w = b.w) (hl : a.rows.length = b.rows.length) (h : ∀ x y : Nat, (x : Int) < a.w → y < a.rows.length → a.has x y = b.has x y) : a = b := by
  obtain ⟨aw, ar⟩ := a
  obtain ⟨bw, br⟩ := b
  simp only at hw hl
  subst hw
  congr 1
  refine List.ext_getElem hl fun y h1 h2 => ?_
  have r1 := Reg.row_lt ha y
  have r2 := Reg.row_lt hb y
  have p1 := ha.2.2.2.2 _ (List.getElem_mem h1)
  have p2 := hb.2.2.2.2 _ (List.getElem_mem h2)
  have q : Reg.row ⟨aw, ar⟩ y = Reg.row ⟨aw, br⟩ y := by
    apply Nat.eq_of_testBit_eq
    intro x
    by_cases hx : (x : Int) < aw
    · have := h x y hx h1
      rw [Reg.has_eq (r := ⟨aw, ar⟩) hx h1, Reg.has_eq (r := ⟨aw, br⟩) hx h2] at this
      exact this
    · simp only at r1 r2
      rw [Nat.testBit_lt_two_pow (Nat.lt_of_lt_of_le r1 (Nat.pow_le_pow_right (by decide) (by omega))), Nat.testBit_lt_two_pow (Nat.lt_of_lt_of_le r2 (Nat.pow_le_pow_right (by decide) (by omega)))]
  unfold Reg.row at q
  simp only [List.getD_eq_getElem?_getD, List.getElem?_eq_getElem h1, List.getElem?_eq_getElem h2, Option.getD_some] at q
  omega
theorem hasE_in {r : Reg} {x y : Int} (h : r.has x y = true) : 0 ≤ x ∧ x < r.w ∧ 0 ≤ y ∧ y < r.rows.length := by
  unfold Reg.has at h
  rw [Bool.and_eq_true] at h
  exact of_decide_eq_true h.1
theorem flip_row {r : Reg} {x y y' : Nat} (hy : y < r.rows.length) : (r.flip x y).row y' = if y' = y then r.row y ^^^ 2 ^ x else r.row y' := by
  unfold Reg.flip Reg.row
  simp only [List.getD_eq_getElem?_getD]
  split
  · rename_i h
    subst h
    rw [List.getElem?_set_self hy]
    simp
  · rename_i h
    rw [List.getElem?_set_ne (fun e => h e.symm)]
theorem flip_has {r : Reg} {x y : Nat} (hx : (x : Int) < r.w) (hy : y < r.rows.length) (a b : Int) : (r.flip x y).has a b = xor (r.has a b) (decide ((x : Int) = a) && decide ((y : Int) = b)) := by
  by_cases hin : 0 ≤ a ∧ a < r.w ∧ 0 ≤ b ∧ b < r.rows.length
  · obtain ⟨i, rfl⟩ := Int.eq_ofNat_of_zero_le hin.1
    obtain ⟨j, rfl⟩ := Int.eq_ofNat_of_zero_le hin.2.2.1
    have hj : j < r.rows.length := by omega
    rw [Reg.has_eq (r := r.flip x y) hin.2.1 (by rw [Reg.flip_len]; exact hj), Reg.has_eq hin.2.1 hj, flip_row hy]
    split
    · rename_i h
      subst h
      rw [Nat.testBit_xor, Nat.testBit_two_pow]
      congr 1
      simp
      omega
    · rename_i h
      have e : decide ((y : Int) = (j : Int)) = false := by simp; omega
      rw [e, Bool.and_false, Bool.xor_false]
  · rw [Reg.has_out hin, Reg.has_out (r := r.flip x y) (by rw [Reg.flip_len]; exact hin)]
    have e : (decide ((x : Int) = a) && decide ((y : Int) = b)) = false := by
      rw [Bool.and_eq_false_iff]
      by_cases h : (x : Int) = a
      · right; simp; omega
      · left; simp [h]
    rw [e]
    rfl
theorem flip_flip {r : Reg} (hv : r.Valid) {x y : Nat} (hx : (x : Int) < r.w) (hy : y < r.rows.length) : (r.flip x y).flip x y = r := by
  have h1 := Reg.flip_valid (y := y) hv hx
  refine reg_ext (Reg.flip_valid (r := r.flip x y) h1 hx) hv rfl (by rw [Reg.flip_len, Reg.flip_len]) fun a b ha hb => ?_
  rw [flip_has (r := r.flip x y) hx (by rw [Reg.flip_len]; exact hy), flip_has hx hy]
  cases r.has a b <;> cases (decide ((x : Int) = (a : Int)) && decide ((y : Int) = (b : Int))) <;> rfl
theorem inn_iff {r : Reg} {x y : Int} : r.inn x y = true ↔ 0 ≤ x ∧ x < r.w ∧ 0 ≤ y ∧ y < r.rows.length := by simp [Reg.inn]
theorem apply1_some {r : Reg} {e : Ed} (h1 : r.inn e.x e.y = true) (h2 : r.has e.x e.y = !e.add) : r.apply1 e = some (r.flip e.x.toNat e.y.toNat) := by
  unfold Reg.apply1
  rw [h1, h2]
  cases e.add <;> rfl
theorem apply1_is {r r' : Reg} {e : Ed} (h : r.apply1 e = some r') : r.inn e.x e.y = true ∧ r.has e.x e.y = !e.add ∧ r' = r.flip e.x.toNat e.y.toNat := by
  unfold Reg.apply1 at h
  split at h
  · rename_i hc
    injection h with h
    rw [Bool.and_eq_true] at hc
    refine ⟨hc.1, ?_, h.symm⟩
    have := hc.2
    revert this
    cases r.has e.x e.y <;> cases e.add <;> simp
  · cases h
theorem apply1_undo {r r' : Reg} {e : Ed} (hv : r.Valid) (h : r.apply1 e = some r') : r'.apply1 ⟨!e.add, e.x, e.y⟩ = some r := by
  obtain ⟨h1, h2, rfl⟩ := apply1_is h
  have hi := inn_iff.1 h1
  have hx : ((e.x.toNat : Nat) : Int) < r.w := by omega
  have hy : e.y.toNat < r.rows.length := by omega
  rw [apply1_some, flip_flip hv hx hy]
  · rw [inn_iff, Reg.flip_len]; exact hi
  · rw [flip_has hx hy, h2]
    have e1 : decide (((e.x.toNat : Nat) : Int) = e.x) = true := by simp; omega
    have e2 : decide (((e.y.toNat : Nat) : Int) = e.y) = true := by simp; omega
    simp only [e1, e2]
    cases e.add <;> rfl
theorem applyTo_cons {r : Reg} {e : Ed} {l : List Ed} : r.applyTo (e :: l) = (r.apply1 e).bind fun r' => r'.applyTo l := by
  unfold Reg.applyTo
  rw [List.foldlM_cons]
  rfl
theorem applyTo_app {r : Reg} {a b : List Ed} : r.applyTo (a ++ b) = (r.applyTo a).bind fun r' => r'.applyTo b := by
  unfold Reg.applyTo
  rw [List.foldlM_append]
  rfl
theorem undo_cons {e : Ed} {l : List Ed} : undo (e :: l) = undo l ++ [⟨!e.add, e.x, e.y⟩] := by simp [undo]
theorem undo_len {l : List Ed} : (undo l).length = l.length := by simp [undo]
theorem applyTo_undo : ∀ (l : List Ed) (r y : Reg), r.Valid → r.applyTo l = some y → y.applyTo (undo l) = some r ∧ y.Valid ∧ y.rows.length = r.rows.length
  | [], r, y, hv, h => by injection h with h; subst h; exact ⟨rfl, hv, rfl⟩
  | e :: l, r, y, hv, h => by
    rw [applyTo_cons] at h
    cases ha : r.apply1 e with
    | none => rw [ha] at h; cases h
    | some r' =>
      rw [ha] at h
      have hr' := Reg.apply1_valid hv ha
      obtain ⟨h1, h2, h3⟩ := applyTo_undo l r' y hr'.1 h
      refine ⟨?_, h2, h3.trans hr'.2.2⟩
      rw [undo_cons, applyTo_app, h1]
      show r'.applyTo [_] = some r
      rw [applyTo_cons, apply1_undo hv ha]
      rfl
/-- edits that are undone lead back -/
theorem applyEds_undo {r y : Reg} {l : List Ed} (h : r.applyEds l = some y) : y.applyEds (undo l) = some r ∧ y.rows.length ≤ 6 := by
  unfold Reg.applyEds at h
  split at h
  · rename_i hc
    rw [Bool.and_eq_true] at hc
    have hv := Reg.valid_iff.1 hc.1
    obtain ⟨h1, h2, h3⟩ := applyTo_undo l r y hv h
    refine ⟨?_, h2.2.2.2.1⟩
    unfold Reg.applyEds
    rw [Reg.valid_iff.2 h2, undo_len, hc.2, h1]
    rfl
  · cases h
def atE (x y : Int) (e : Ed) : Bool := decide (e.x = x) && decide (e.y = y)
theorem atE_iff {x y : Int} {e : Ed} : atE x y e = true ↔ e.x = x ∧ e.y = y := by simp [atE]
theorem applyTo_fit : ∀ (L : List Ed) (r : Reg), r.Valid → (∀ e ∈ L, r.inn e.x e.y = true ∧ r.has e.x e.y = !e.add) → L.Pairwise (fun a b => ¬ (a.x = b.x ∧ a.y = b.y)) →
    ∃ c, r.applyTo L = some c ∧ c.Valid ∧ c.w = r.w ∧ c.rows.length = r.rows.length ∧ ∀ x y : Int, c.has x y = xor (r.has x y) (L.any (atE x y))
  | [], r, hv, _, _ => ⟨r, rfl, hv, rfl, rfl, fun x y => by simp⟩
  | e :: L, r, hv, h, hp => by
    rw [List.pairwise_cons] at hp
    obtain ⟨h1, h2⟩ := h e (List.mem_cons_self ..)
    have hi := inn_iff.1 h1
    have hx : ((e.x.toNat : Nat) : Int) < r.w := by omega
    have hy : e.y.toNat < r.rows.length := by omega
    have hfl : ∀ x y : Int, (r.flip e.x.toNat e.y.toNat).has x y = xor (r.has x y) (atE x y e) := fun x y => by
      rw [flip_has hx hy]
      unfold atE
      rw [Int.toNat_of_nonneg hi.1, Int.toNat_of_nonneg hi.2.2.1]
    have ha := apply1_some h1 h2
    obtain ⟨hv1, hw1, hl1⟩ := Reg.apply1_valid hv ha
    obtain ⟨c, c1, c2, c3, c4, c5⟩ := applyTo_fit L (r.flip e.x.toNat e.y.toNat) hv1 (fun e' he' => by
      obtain ⟨g1, g2⟩ := h e' (List.mem_cons_of_mem _ he')
      refine ⟨?_, ?_⟩
      · rw [inn_iff, hw1, hl1]; exact inn_iff.1 g1
      · rw [hfl, g2]
        have : atE e'.x e'.y e = false := by
          cases hq : atE e'.x e'.y e
          · rfl
          · exact absurd (atE_iff.1 hq) (hp.1 e' he')
        rw [this, Bool.xor_false]) hp.2
    refine ⟨c, by rw [applyTo_cons, ha]; exact c1, c2, c3.trans hw1, c4.trans hl1, fun x y => ?_⟩
    rw [c5, hfl, List.any_cons]
    cases hq : atE x y e
    · simp
    · have : L.any (atE x y) = false := by
        rw [List.any_eq_false]
        intro e' he' hq'
        have q1 := atE_iff.1 hq
        have q2 := atE_iff.1 hq'
        exact hp.1 e' he' ⟨q1.1.trans q2.1.symm, q1.2.trans q2.2.symm⟩
      rw [this]
      cases r.has x y <;> rfl
theorem cells_nodup {r : Reg} : r.cells.Nodup := by
  unfold Reg.cells Reg.cellsTo
  unfold List.Nodup
  rw [List.pairwise_flatMap]
  refine ⟨fun y _ => ?_, ?_⟩
  · unfold Reg.rowTo
    refine List.Pairwise.map _ ?_ (List.nodup_range.sublist List.filter_sublist)
    intro a b hab h
    injection h with h1 h2
    exact hab (by omega)
  · refine List.nodup_range.imp_of_mem ?_
    intro a b _ _ hab
    intro c hc d hd e
    unfold Reg.rowTo at hc hd
    obtain ⟨i, _, rfl⟩ := List.mem_map.1 hc
    obtain ⟨j, _, rfl⟩ := List.mem_map.1 hd
    injection e with e1 e2
    exact hab (by omega)
def grid36 : List Cell := (List.range 6).flatMap fun y : Nat => (List.range 6).map fun x : Nat => ⟨(x : Int), (y : Int)⟩
theorem mem_grid36 {c : Cell} (h1 : 0 ≤ c.x ∧ c.x < 6) (h2 : 0 ≤ c.y ∧ c.y < 6) : c ∈ grid36 := by
  unfold grid36
  refine List.mem_flatMap.2 ⟨c.y.toNat, List.mem_range.2 (by omega), List.mem_map.2 ⟨c.x.toNat, List.mem_range.2 (by omega), ?_⟩⟩
  rw [Int.toNat_of_nonneg h1.1, Int.toNat_of_nonneg h2.1]
theorem mem_betw1 {ad : Bool} {b : Reg} {l : List Cell} {e : Ed} : e ∈ betw1 ad b l ↔ e.add = ad ∧ (⟨e.x, e.y⟩ : Cell) ∈ l ∧ b.has e.x e.y = false := by
  unfold betw1
  rw [List.mem_map]
  constructor
  · rintro ⟨c, hc, rfl⟩
    rw [List.mem_filter] at hc
    exact ⟨rfl, hc.1, by simpa using hc.2⟩
  · rintro ⟨h1, h2, h3⟩
    refine ⟨⟨e.x, e.y⟩, List.mem_filter.2 ⟨h2, by simpa using h3⟩, ?_⟩
    rw [← h1]
theorem betw1_pw {ad : Bool} {b r : Reg} : (betw1 ad b r.cells).Pairwise fun a b => ¬ (a.x = b.x ∧ a.y = b.y) := by
  unfold betw1
  refine List.Pairwise.map _ ?_ (cells_nodup.sublist List.filter_sublist)
  intro a b hab h
  obtain ⟨x, y⟩ := a
  obtain ⟨x', y'⟩ := b
  exact hab (by simp only at h; rw [h.1, h.2])
theorem sameGrid_is {a b : Reg} (h : sameGrid a b = true) : a.Valid ∧ b.Valid ∧ a.w = b.w ∧ a.rows.length = b.rows.length := by
  simp only [sameGrid, Bool.and_eq_true, decide_eq_true_eq, Reg.valid_iff] at h
  obtain ⟨⟨⟨h1, h2⟩, h3⟩, h4⟩ := h
  exact ⟨h1, h2, h3, h4⟩
/-- edits between regions lead there -/
theorem betw_leads {a b : Reg} (h : sameGrid a b = true) : a.applyEds (betw a b) = some b := by
  obtain ⟨va, vb, hw, hl⟩ := sameGrid_is h
  have hb : betw a b = betw1 false b a.cells ++ betw1 true a b.cells := by unfold betw; rw [if_pos h]
  have hfit : ∀ e ∈ betw a b, a.inn e.x e.y = true ∧ a.has e.x e.y = !e.add := fun e he => by
    rw [hb] at he
    rcases List.mem_append.1 he with he | he
    · obtain ⟨h1, h2, h3⟩ := mem_betw1.1 he
      have h4 := Reg.cells_mem.1 h2
      exact ⟨inn_iff.2 (hasE_in h4), by rw [h1]; exact h4⟩
    · obtain ⟨h1, h2, h3⟩ := mem_betw1.1 he
      have h4 := hasE_in (Reg.cells_mem.1 h2)
      exact ⟨inn_iff.2 (by rw [hw, hl]; exact h4), by rw [h1]; exact h3⟩
  have hpw : (betw a b).Pairwise fun a b => ¬ (a.x = b.x ∧ a.y = b.y) := by
    rw [hb, List.pairwise_append]
    refine ⟨betw1_pw, betw1_pw, fun e he e' he' hq => ?_⟩
    have h4 := Reg.cells_mem.1 (mem_betw1.1 he).2.1
    have h5 := (mem_betw1.1 he').2.2
    simp only at h4
    rw [hq.1, hq.2, h5] at h4
    cases h4
  have hlen : (betw a b).length ≤ 40 := by
    have h1 : ((betw a b).map fun e => (⟨e.x, e.y⟩ : Cell)).Nodup := by
      refine List.Pairwise.map _ ?_ hpw
      intro p q hpq he
      injection he with e1 e2
      exact hpq ⟨e1, e2⟩
    have h2 := nodup_len (G := grid36) h1 fun c hc => by
      obtain ⟨e, he, rfl⟩ := List.mem_map.1 hc
      have hi := inn_iff.1 (hfit e he).1
      obtain ⟨v1, v2, v3, v4, _⟩ := va
      exact mem_grid36 (c := ⟨e.x, e.y⟩) (by simp only; omega) (by simp only; omega)
    have h3 : grid36.length = 36 := by rfl
    rw [List.length_map] at h2
    omega
  obtain ⟨c, c1, c2, c3, c4, c5⟩ := applyTo_fit (betw a b) a va hfit hpw
  have hc : c = b := reg_ext c2 vb (c3.trans hw) (c4.trans hl) fun x y _ _ => by
    rw [c5]
    have hany : (betw a b).any (atE (x : Int) (y : Int)) = xor (a.has x y) (b.has x y) := by
      rw [Bool.eq_iff_iff, List.any_eq_true]
      constructor
      · rintro ⟨e, he, hq⟩
        obtain ⟨q1, q2⟩ := atE_iff.1 hq
        rw [hb] at he
        rw [← q1, ← q2]
        rcases List.mem_append.1 he with he | he
        · have h4 := Reg.cells_mem.1 (mem_betw1.1 he).2.1
          rw [h4, (mem_betw1.1 he).2.2]; rfl
        · have h4 := Reg.cells_mem.1 (mem_betw1.1 he).2.1
          rw [h4, (mem_betw1.1 he).2.2]; rfl
      · intro hx
        cases h1 : a.has x y <;> cases h2 : b.has x y
        · rw [h1, h2] at hx; cases hx
        · exact ⟨⟨true, x, y⟩, by rw [hb]; exact List.mem_append_right _ (mem_betw1.2 ⟨rfl, Reg.cells_mem.2 h2, h1⟩), atE_iff.2 ⟨rfl, rfl⟩⟩
        · exact ⟨⟨false, x, y⟩, by rw [hb]; exact List.mem_append_left _ (mem_betw1.2 ⟨rfl, Reg.cells_mem.2 h1, h2⟩), atE_iff.2 ⟨rfl, rfl⟩⟩
        · rw [h1, h2] at hx; cases hx
    rw [hany]
    cases a.has x y <;> cases b.has x y <;> rfl
  unfold Reg.applyEds
  rw [Reg.valid_iff.2 va, decide_eq_true hlen, c1, hc]
  rfl
end Go.Proofs.YtfildenelgbmlaaGreatDoor

namespace Go.Proofs.YtfildenelgbmlaaGreatDoor
open Go.RowKit

/-- a digit's text -/
def dgt (n : Int) : ByteArray := ⟨#[(48 + n.toNat).toUInt8]⟩
theorem dgt_size (n : Int) : (dgt n).size = 1 := rfl

set_option maxRecDepth 100000 in
set_option maxHeartbeats 1600000 in
theorem impl_dig_c (n : Int) (w : World) (h0 : 0 ≤ n) (h5 : n ≤ 9) :
    Calls Tryz.prog 112 #[.int .i64 n] w fun e w' => e = .returned (.string (dgt n)) ∧ w = w' := by
  have hn : n = 0 ∨ n = 1 ∨ n = 2 ∨ n = 3 ∨ n = 4 ∨ n = 5 ∨ n = 6 ∨ n = 7 ∨ n = 8 ∨ n = 9 := by omega
  clear h0 h5
  rcases hn with rfl | rfl | rfl | rfl | rfl | rfl | rfl | rfl | rfl | rfl
  all_goals
    go_enter Tryz.func112, Tryz.ntmps112
    go_wp2
    go_ret
    exact ⟨rfl, rfl⟩

set_option maxRecDepth 100000 in
/-- a new slice of one byte, as a string -/
theorem run_byte_string (w : World) (g : Nat) (b : UInt8) (u : Int) (hu : u = (b.toNat : Int)) (hg : w.cell? ⟨g, 0, none⟩ = some (.int .u8 u)) :
    (convert 22 9 (.slice (some ⟨g, 0, none⟩) 1 1)).run Tryz.prog w = .ok (.string ⟨#[b]⟩) w := by
  subst hu
  refine run_convert_bytes_back w _ _ _ ⟨g, 0, none⟩ 1 [b] Tryz.underlying22 Tryz.underlying5 Tryz.underlying9 ?_
  intro j hj
  obtain rfl : j = 0 := by simpa using hj
  simpa [Addr.add] using hg

set_option maxRecDepth 100000 in
set_option maxHeartbeats 1600000 in
theorem spec_dig_c (n : Int) (w : World) (h0 : 0 ≤ n) (h5 : n ≤ 9) :
    Calls Tryz.prog 113 #[.int .i64 n] w fun e w' => e = .returned (.string (dgt n)) ∧ Below w.heap.size w w' := by
  by_cases hz : n = 0
  · subst hz
    go_enter Tryz.func113, Tryz.ntmps113
    go_wp2
    go_ret
    exact ⟨rfl, Below.refl _ _⟩
  · have h1 : 1 ≤ n := by omega
    have hneg : decide (n < 0) = false := by simp; omega
    have hne : (n == 0) = false := by simp; omega
    go_enter Tryz.func113, Tryz.ntmps113
    go_wp2
    go_loopw [0, 3, 5] (fun nv ov _ wr => ((nv = .int .i64 n ∧ ov = .string ⟨#[]⟩) ∨ (nv = .int .i64 0 ∧ ov = .string (dgt n))) ∧ Below w.heap.size w wr) (fun nv _ _ _ => (intOf nv).toNat)
    case atStart => exact ⟨.inl ⟨rfl, rfl⟩, Below.refl _ _⟩
    case round =>
      obtain ⟨h | h, hb⟩ := hrel
      · obtain ⟨rfl, rfl⟩ := h
        have hn : n = 1 ∨ n = 2 ∨ n = 3 ∨ n = 4 ∨ n = 5 ∨ n = 6 ∨ n = 7 ∨ n = 8 ∨ n = 9 := by omega
        clear h0 h5 h1 hz hneg hne
        have hcvn : ∀ u : Int, u = 48 + n → (convert 22 9 (.slice (some ⟨wr.heap.size, 0, none⟩) 1 1)).run Tryz.prog (wr.alloc (.cells #[.int .u8 u] 5)) = .ok (.string (dgt n)) (wr.alloc (.cells #[.int .u8 u] 5)) := fun u hu => by
          refine run_byte_string _ _ _ u ?_ (by rw [(Blk.new wr _ _).cell]; rfl)
          rcases hn with rfl | rfl | rfl | rfl | rfl | rfl | rfl | rfl | rfl <;> subst hu <;> rfl
        rcases hn with rfl | rfl | rfl | rfl | rfl | rfl | rfl | rfl | rfl
        all_goals
          have hcv := hcvn _ rfl
          clear hcvn
          simp at hcv
          go_wp2
          go_roundw
          case rel => exact ⟨.inr ⟨rfl, rfl⟩, hb.trans (((Below.refl _ _).alloc (Nat.le_refl _) _).mono hb.size)⟩
          case measure => simp [intOf]
      · obtain ⟨rfl, rfl⟩ := h
        go_wp2
        go_ret
        exact ⟨rfl, hb⟩
end Go.Proofs.YtfildenelgbmlaaGreatDoor

namespace Go.Proofs.YtfildenelgbmlaaGreatDoor
open Go.RowKit

def inF (a b c : Int) : Bool := decide (b ≤ a) && decide (a ≤ c)
theorem inF_t {a b c : Int} (h1 : b ≤ a) (h2 : a ≤ c) : inF a b c = true := by simp [inF, h1, h2]
theorem inF_f {a b c : Int} (h : ¬ (b ≤ a ∧ a ≤ c)) : inF a b c = false := by simp [inF]; omega
set_option maxRecDepth 100000 in
theorem between_f (a b c : Int) (w : World) : Calls Tryz.prog 103 #[.int .i64 a, .int .i64 b, .int .i64 c] w fun e w' => e = .returned (.bool (inF a b c)) ∧ w = w' := between_any a b c w
set_option maxRecDepth 100000 in
theorem l1In_f (a b c : Int) (w : World) : Calls Tryz.prog 64 #[.int .i64 a, .int .i64 b, .int .i64 c] w fun e w' => e = .returned (.bool (inF a b c)) ∧ w = w' := l1In_any a b c w

def okEd (e : Ed) : Bool := inF e.x 0 5 && inF e.y 0 5
def signB (b : Bool) : ByteArray := if b then ⟨#[43]⟩ else ⟨#[45]⟩
theorem signB_size (b : Bool) : (signB b).size = 1 := by cases b <;> rfl
def putEd (s : ByteArray) (e : Ed) : ByteArray := s ++ ((signB e.add ++ dgt e.x) ++ dgt e.y)
def fmtTo (l : List Ed) : Nat → ByteArray
  | 0 => ⟨#[]⟩
  | k + 1 => putEd (if 0 < k then fmtTo l k ++ ⟨#[44]⟩ else fmtTo l k) (l.getD k ⟨false, 0, 0⟩)
def noneB : ByteArray := ⟨#[110, 111, 110, 101]⟩
def fmtEds (l : List Ed) : ByteArray := if l = [] then noneB else if decide (l.length ≤ 40) && l.all okEd then fmtTo l l.length else ⟨#[]⟩
theorem putEd_size {s : ByteArray} {e : Ed} : (putEd s e).size = s.size + 3 := by
  simp [putEd, ByteArray.size_append, signB_size, dgt_size]
theorem fmtTo_size {l : List Ed} : ∀ k, k ≤ (fmtTo l k).size ∧ (fmtTo l k).size ≤ 4 * k
  | 0 => ⟨Nat.zero_le _, Nat.le_refl _⟩
  | k + 1 => by
    have ih := fmtTo_size (l := l) k
    unfold fmtTo
    rw [putEd_size]
    split
    · rw [ByteArray.size_append]
      have : (⟨#[44]⟩ : ByteArray).size = 1 := rfl
      omega
    · omega
theorem fmtTo_succ {l : List Ed} {k : Nat} {e : Ed} (h : l[k]? = some e) : fmtTo l (k + 1) = putEd (if 0 < k then fmtTo l k ++ ⟨#[44]⟩ else fmtTo l k) e := by
  rw [fmtTo, List.getD, h]; rfl
theorem fmt_no {l : List Ed} (h : l ≠ []) (h2 : 40 < l.length ∨ ∃ (k : Nat) (e : Ed), l[k]? = some e ∧ okEd e = false) : fmtEds l = ⟨#[]⟩ := by
  unfold fmtEds
  rw [if_neg h, if_neg]
  rw [Bool.and_eq_true, decide_eq_true_eq, List.all_eq_true]
  rintro ⟨h3, h4⟩
  rcases h2 with h2 | ⟨k, e, he, ho⟩
  · omega
  · have := h4 e (List.mem_of_getElem? he); rw [ho] at this; cases this
theorem fmt_yes {l : List Ed} (h : l ≠ []) (h2 : l.length ≤ 40) (h3 : ∀ (k : Nat) (e : Ed), k < l.length → l[k]? = some e → okEd e = true) : fmtEds l = fmtTo l l.length := by
  unfold fmtEds
  rw [if_neg h, if_pos]
  rw [Bool.and_eq_true, decide_eq_true_eq, List.all_eq_true]
  refine ⟨h2, fun e he => ?_⟩
  obtain ⟨k, hk, rfl⟩ := List.getElem_of_mem he
  exact h3 k _ hk (List.getElem?_eq_getElem hk)
theorem ba_assoc (a b c : ByteArray) : a ++ b ++ c = a ++ (b ++ c) := ByteArray.append_assoc

set_option maxRecDepth 100000 in
set_option maxHeartbeats 3200000 in
theorem impl_fmtEds_c {v : Value} {l : List Ed} (w : World) (h : EdsRd w 0 w.heap.size v l) (hn : l.length ≤ 1048576) :
    Calls Tryz.prog 43 #[v] w fun e w' => e = .returned (.string (fmtEds l)) ∧ Below w.heap.size w w' := by
  obtain ⟨A, c, rfl, _, hr⟩ := h
  obtain ⟨R, hR⟩ : ∃ R, R = fmtEds l := ⟨_, rfl⟩
  rw [← hR]
  by_cases hl0 : l = []
  · subst hl0
    have : R = noneB := by rw [hR]; rfl
    subst this
    clear hR hr
    go_enter Tryz.func43, Tryz.ntmps43
    go_wp2
    go_ret
    exact ⟨rfl, Below.refl _ _⟩
  · have hlp : 0 < l.length := List.length_pos_iff.2 hl0
    have hno : (40 < l.length ∨ ∃ (k : Nat) (e : Ed), l[k]? = some e ∧ okEd e = false) → R = ⟨#[]⟩ := fun h => by rw [hR]; exact fmt_no hl0 h
    have hyes : l.length ≤ 40 → (∀ (k : Nat) (e : Ed), k < l.length → l[k]? = some e → okEd e = true) → R = fmtTo l l.length := fun h h2 => by rw [hR]; exact fmt_yes hl0 h h2
    have HNO := Lib.hid hno
    have HYES := Lib.hid hyes
    have hz : ((l.length : Int) == 0) = false := by simp; omega
    clear hno hyes hR hl0
    go_enter Tryz.func43, Tryz.ntmps43
    go_wp2
    clear hz
    go_loopw [3, 12] (fun s i wr => ∃ k : Nat, k ≤ l.length ∧ i = .int .i64 k ∧ s = .string (fmtTo l k) ∧ Hid (k ≠ 0 → l.length ≤ 40) ∧ Hid (∀ (j : Nat) (e : Ed), j < k → l[j]? = some e → okEd e = true) ∧ Below w.heap.size w wr) (fun _ i _ => l.length - (intOf i).toNat)
    case atStart => exact ⟨0, Nat.zero_le _, rfl, rfl, Lib.hid (fun h => absurd rfl h), Lib.hid (fun j e h => absurd h (by omega)), Below.refl _ _⟩
    case round =>
      obtain ⟨k, hk, rfl, rfl, HF, HA, hbel⟩ := hrel
      by_cases hlt : k < l.length
      · obtain ⟨b, off, e, rfl, _, hb, hla, q1, q2, q3⟩ := (hr.below hbel (Nat.le_refl _)).at3 hlt
        have HL := Lib.hid hla
        have hbox : Below w.heap.size w (wr.alloc (.cells #[.bool e.add, .int .i64 e.x, .int .i64 e.y] 110)) := hbel.trans (((Below.refl _ _).alloc (Nat.le_refl _) _).mono hbel.size)
        have H := (Sep.start wr).box 110 #[.bool e.add, .int .i64 e.x, .int .i64 e.y]
        clear hr hla hb
        by_cases h40 : 40 < l.length
        · have hd : decide ((40 : Int) < (l.length : Int)) = true := by simp; omega
          have hRe := HNO.out (.inl h40)
          subst hRe
          go_wp2
          go_ret
          exact ⟨rfl, hbox⟩
        · have hd : decide ((40 : Int) < (l.length : Int)) = false := by simp; omega
          by_cases hx : 0 ≤ e.x ∧ e.x ≤ 5
          · have p1 := inF_t hx.1 hx.2
            by_cases hy : 0 ≤ e.y ∧ e.y ≤ 5
            · have p2 := inF_t hy.1 hy.2
              have hs := (fmtTo_size (l := l) k).2
              have hst := fmtTo_succ HL.out
              have HS := Lib.hid hst
              have hko : okEd e = true := by rw [okEd, p1, p2]; rfl
              have HO := Lib.hid hko
              have hs1 : (fmtTo l k).size ≤ 160 := by omega
              have hS1 : (if 0 < k then fmtTo l k ++ ⟨#[44]⟩ else fmtTo l k).size ≤ 161 := by
                split
                · rw [ByteArray.size_append]; have : (⟨#[44]⟩ : ByteArray).size = 1 := rfl; omega
                · omega
              obtain ⟨ad, ex, ey⟩ := e
              dsimp only at q1 q2 q3 hx hy p1 p2 H hbox
              clear hst hko hs hs1 hS1
              have hfin : ∀ (sg S : ByteArray) (W : World), sg = signB ad → S = (if 0 < k then fmtTo l k ++ ⟨#[44]⟩ else fmtTo l k) → Below w.heap.size w W → ∃ k' : Nat, k' ≤ l.length ∧ Value.int .i64 ((k : Int) + 1) = .int .i64 k' ∧ Value.string (S ++ (sg ++ dgt ex ++ dgt ey)) = .string (fmtTo l k') ∧ Hid (k' ≠ 0 → l.length ≤ 40) ∧ Hid (∀ (j : Nat) (e : Ed), j < k' → l[j]? = some e → okEd e = true) ∧ Below w.heap.size w W := by
                intro sg S W hg hS hW
                subst hg
                refine ⟨k + 1, by omega, by go_num, by rw [HS.out, hS]; rfl, Lib.hid (fun _ => by omega), Lib.hid fun j d hj hd' => ?_, hW⟩
                by_cases ej : j = k
                · subst ej; rw [HL.out] at hd'; injection hd' with hd'; subst hd'; exact HO.out
                · exact HA.out j d (by omega) hd'
              have HFIN := Lib.hid hfin
              have hs1 : (fmtTo l k).size ≤ 160 := by have := (fmtTo_size (l := l) k).2; omega
              have z1 : (dgt ex).size ≤ 1 := Nat.le_refl _
              have z2 : (dgt ey).size ≤ 1 := Nat.le_refl _
              clear hfin HS HO HA HF HL HNO HYES
              cases ad
              all_goals
                by_cases hk0 : 0 < k
                · have hdk : decide ((0 : Int) < (k : Int)) = true := by simp; omega
                  go_wp2_with (go_at_call 103; refine (between_f _ _ _ _).mono ?_; rintro e w' ⟨rfl, rfl⟩)
                  have l1 := Later.cell (H.h0.cell 1) H.h0.lt
                  have l2 := Later.cell (H.h0.cell 2) H.h0.lt
                  simp at l1 l2
                  generalize wr.alloc (.cells #[.bool _, .int .i64 ex, .int .i64 ey] 110) = W at *
                  refine wp_region_later (by kernel_rfl) (by kernel_rfl) ?_
                  repeat (go_big_quiet_step ((go_at_call 112; exact Later.same (impl_dig_c _ _ (by omega) (by omega)))))
                  refine wpQuiet_nil ?_
                  intro w3 hw3
                  obtain ⟨u3, hu3⟩ := hw3
                  subst hu3
                  have hb3 := hbox.trans (u3.h.mono hbox.size)
                  clear l1 l2 q1 q2 q3
                  generalize u3.w = w3 at *
                  go_wp2
                  go_roundw
                  case rel => exact HFIN.out _ _ _ rfl (by simp [hk0]) hb3
                  case measure => simp [intOf]; omega
                · have hdk : decide ((0 : Int) < (k : Int)) = false := by simp; omega
                  go_wp2_with (go_at_call 103; refine (between_f _ _ _ _).mono ?_; rintro e w' ⟨rfl, rfl⟩)
                  have l1 := Later.cell (H.h0.cell 1) H.h0.lt
                  have l2 := Later.cell (H.h0.cell 2) H.h0.lt
                  simp at l1 l2
                  generalize wr.alloc (.cells #[.bool _, .int .i64 ex, .int .i64 ey] 110) = W at *
                  refine wp_region_later (by kernel_rfl) (by kernel_rfl) ?_
                  repeat (go_big_quiet_step ((go_at_call 112; exact Later.same (impl_dig_c _ _ (by omega) (by omega)))))
                  refine wpQuiet_nil ?_
                  intro w3 hw3
                  obtain ⟨u3, hu3⟩ := hw3
                  subst hu3
                  have hb3 := hbox.trans (u3.h.mono hbox.size)
                  clear l1 l2 q1 q2 q3
                  generalize u3.w = w3 at *
                  go_wp2
                  go_roundw
                  case rel => exact HFIN.out _ _ _ rfl (by simp [hk0]) hb3
                  case measure => simp [intOf]; omega
            · have p2 := inF_f hy
              have hRe := HNO.out (.inr ⟨k, e, HL.out, by rw [okEd, p2, Bool.and_false]⟩)
              subst hRe
              go_wp2_with (go_at_call 103; refine (between_f _ _ _ _).mono ?_; rintro e w' ⟨rfl, rfl⟩)
              go_ret
              exact ⟨rfl, hbox⟩
          · have p1 := inF_f hx
            have hRe := HNO.out (.inr ⟨k, e, HL.out, by rw [okEd, p1, Bool.false_and]⟩)
            subst hRe
            go_wp2_with (go_at_call 103; refine (between_f _ _ _ _).mono ?_; rintro e w' ⟨rfl, rfl⟩)
            go_ret
            exact ⟨rfl, hbox⟩
      · obtain rfl : k = l.length := by omega
        have hRe := HYES.out (HF.out (by omega)) HA.out
        subst hRe
        go_wp2
        go_ret
        exact ⟨rfl, hbel⟩
set_option maxRecDepth 100000 in
set_option maxHeartbeats 3200000 in
theorem spec_fmtEds_c {v : Value} {l : List Ed} (w : World) (h : EdsRd w 0 w.heap.size v l) (hn : l.length ≤ 1048576) :
    Calls Tryz.prog 44 #[v] w fun e w' => e = .returned (.string (fmtEds l)) ∧ Below w.heap.size w w' := by
  obtain ⟨A, c, rfl, _, hr⟩ := h
  obtain ⟨R, hR⟩ : ∃ R, R = fmtEds l := ⟨_, rfl⟩
  rw [← hR]
  by_cases hl0 : l = []
  · subst hl0
    have : R = noneB := by rw [hR]; rfl
    subst this
    clear hR hr
    go_enter Tryz.func44, Tryz.ntmps44
    go_wp2
    go_loopw [3, 4] (fun s i wr => i = .int .i64 0 ∧ s = .string ⟨#[]⟩ ∧ wr = w) (fun _ _ _ => 0)
    case atStart => exact ⟨rfl, rfl, rfl⟩
    case round =>
      obtain ⟨rfl, rfl, rfl⟩ := hrel
      go_wp2
      go_ret
      exact ⟨rfl, Below.refl _ _⟩
  · have hlp : 0 < l.length := List.length_pos_iff.2 hl0
    have hno : (40 < l.length ∨ ∃ (k : Nat) (e : Ed), l[k]? = some e ∧ okEd e = false) → R = ⟨#[]⟩ := fun h => by rw [hR]; exact fmt_no hl0 h
    have hyes : l.length ≤ 40 → (∀ (k : Nat) (e : Ed), k < l.length → l[k]? = some e → okEd e = true) → R = fmtTo l l.length := fun h h2 => by rw [hR]; exact fmt_yes hl0 h h2
    have HNO := Lib.hid hno
    have HYES := Lib.hid hyes
    clear hno hyes hR hl0
    go_enter Tryz.func44, Tryz.ntmps44
    go_wp2
    go_loopw [3, 4] (fun s i wr => ∃ k : Nat, k ≤ l.length ∧ i = .int .i64 k ∧ s = .string (fmtTo l k) ∧ Hid (k ≠ 0 → l.length ≤ 40) ∧ Hid (∀ (j : Nat) (e : Ed), j < k → l[j]? = some e → okEd e = true) ∧ Below w.heap.size w wr) (fun _ i _ => l.length - (intOf i).toNat)
    case atStart => exact ⟨0, Nat.zero_le _, rfl, rfl, Lib.hid (fun h => absurd rfl h), Lib.hid (fun j e h => absurd h (by omega)), Below.refl _ _⟩
    case round =>
      obtain ⟨k, hk, rfl, rfl, HF, HA, hbel⟩ := hrel
      by_cases hlt : k < l.length
      · obtain ⟨b, off, e, rfl, _, hb, hla, q1, q2, q3⟩ := (hr.below hbel (Nat.le_refl _)).at3 hlt
        have HL := Lib.hid hla
        replace hb : b < wr.heap.size := by have := hbel.size; omega
        clear hr hla
        by_cases h40 : 40 < l.length
        · have hd : decide ((40 : Int) < (l.length : Int)) = true := by simp; omega
          have hRe := HNO.out (.inl h40)
          subst hRe
          go_wp2
          go_ret
          exact ⟨rfl, hbel⟩
        · have hd : decide ((40 : Int) < (l.length : Int)) = false := by simp; omega
          by_cases hx : 0 ≤ e.x ∧ e.x ≤ 5
          · have p1 := inF_t hx.1 hx.2
            by_cases hy : 0 ≤ e.y ∧ e.y ≤ 5
            · have p2 := inF_t hy.1 hy.2
              have hst := fmtTo_succ HL.out
              have HS := Lib.hid hst
              have hko : okEd e = true := by rw [okEd, p1, p2]; rfl
              have HO := Lib.hid hko
              obtain ⟨ad, ex, ey⟩ := e
              dsimp only at q1 q2 q3 hx hy p1 p2
              clear hst hko
              have hfin : ∀ (sg S : ByteArray) (W : World), sg = signB ad → S = (if 0 < k then fmtTo l k ++ ⟨#[44]⟩ else fmtTo l k) → Below w.heap.size w W → ∃ k' : Nat, k' ≤ l.length ∧ Value.int .i64 ((k : Int) + 1) = .int .i64 k' ∧ Value.string (S ++ sg ++ dgt ex ++ dgt ey) = .string (fmtTo l k') ∧ Hid (k' ≠ 0 → l.length ≤ 40) ∧ Hid (∀ (j : Nat) (e : Ed), j < k' → l[j]? = some e → okEd e = true) ∧ Below w.heap.size w W := by
                intro sg S W hg hS hW
                subst hg
                refine ⟨k + 1, by omega, by go_num, by rw [HS.out, hS, ba_assoc, ba_assoc, ← ba_assoc (signB ad)]; rfl, Lib.hid (fun _ => by omega), Lib.hid fun j d hj hd' => ?_, hW⟩
                by_cases ej : j = k
                · subst ej; rw [HL.out] at hd'; injection hd' with hd'; subst hd'; exact HO.out
                · exact HA.out j d (by omega) hd'
              have HFIN := Lib.hid hfin
              have hs1 : (fmtTo l k).size ≤ 160 := by have := (fmtTo_size (l := l) k).2; omega
              have z1 : (dgt ex).size ≤ 1 := Nat.le_refl _
              have z2 : (dgt ey).size ≤ 1 := Nat.le_refl _
              clear hfin HS HO HA HF HL HNO HYES
              cases ad
              all_goals
                by_cases hk0 : 0 < k
                · have hdk : decide ((0 : Int) < (k : Int)) = true := by simp; omega
                  go_wp2_with (go_at_call 64; refine (l1In_f _ _ _ _).mono ?_; rintro e w' ⟨rfl, rfl⟩)
                  have l1 := Later.cell q2 hb
                  have l2 := Later.cell q3 hb
                  refine wp_region_later (by kernel_rfl) (by kernel_rfl) ?_
                  repeat (go_big_quiet_step ((go_at_call 113; exact Later.call (spec_dig_c _ _ (by omega) (by omega)))))
                  refine wpQuiet_nil ?_
                  intro w3 hw3
                  obtain ⟨u3, hu3⟩ := hw3
                  subst hu3
                  have hb3 := hbel.trans (u3.h.mono hbel.size)
                  clear l1 l2 q1 q2 q3
                  generalize u3.w = w3 at *
                  go_wp2
                  go_roundw
                  case rel => exact HFIN.out _ _ _ rfl (by simp [hk0]) hb3
                  case measure => simp [intOf]; omega
                · have hdk : decide ((0 : Int) < (k : Int)) = false := by simp; omega
                  go_wp2_with (go_at_call 64; refine (l1In_f _ _ _ _).mono ?_; rintro e w' ⟨rfl, rfl⟩)
                  have l1 := Later.cell q2 hb
                  have l2 := Later.cell q3 hb
                  refine wp_region_later (by kernel_rfl) (by kernel_rfl) ?_
                  repeat (go_big_quiet_step ((go_at_call 113; exact Later.call (spec_dig_c _ _ (by omega) (by omega)))))
                  refine wpQuiet_nil ?_
                  intro w3 hw3
                  obtain ⟨u3, hu3⟩ := hw3
                  subst hu3
                  have hb3 := hbel.trans (u3.h.mono hbel.size)
                  clear l1 l2 q1 q2 q3
                  generalize u3.w = w3 at *
                  go_wp2
                  go_roundw
                  case rel => exact HFIN.out _ _ _ rfl (by simp [hk0]) hb3
                  case measure => simp [intOf]; omega
            · have p2 := inF_f hy
              have hRe := HNO.out (.inr ⟨k, e, HL.out, by rw [okEd, p2, Bool.and_false]⟩)
              subst hRe
              go_wp2_with (go_at_call 64; refine (l1In_f _ _ _ _).mono ?_; rintro e w' ⟨rfl, rfl⟩)
              go_ret
              exact ⟨rfl, hbel⟩
          · have p1 := inF_f hx
            have hRe := HNO.out (.inr ⟨k, e, HL.out, by rw [okEd, p1, Bool.false_and]⟩)
            subst hRe
            go_wp2_with (go_at_call 64; refine (l1In_f _ _ _ _).mono ?_; rintro e w' ⟨rfl, rfl⟩)
            go_ret
            exact ⟨rfl, hbel⟩
      · obtain rfl : k = l.length := by omega
        have hRe := HYES.out (HF.out (by omega)) HA.out
        subst hRe
        have hsz := (fmtTo_size (l := l) l.length).1
        have hn1 : ¬ (fmtTo l l.length).toList = [] := by
          rw [Lib.toList_data]
          intro e
          have := congrArg List.length e
          simp at this
          have h2 : (fmtTo l l.length).size = (fmtTo l l.length).data.size := rfl
          rw [h2, this] at hsz
          simp at hsz
          rw [hsz] at hlp
          simp at hlp
        have hn2 : (fmtTo l l.length).toList.isEmpty = false := by simpa using hn1
        go_wp2
        go_ret
        exact ⟨rfl, hbel⟩
end Go.Proofs.YtfildenelgbmlaaGreatDoor

namespace Go.Proofs.YtfildenelgbmlaaGreatDoor
open Go.RowKit

set_option maxRecDepth 100000 in
theorem betweenA_t (a lo hi : Int) (w : World) (h : (decide (lo ≤ a) && decide (a ≤ hi)) = true) : Calls Tryz.prog 103 #[.int .i64 a, .int .i64 lo, .int .i64 hi] w fun e w' => e = .returned (.bool true) ∧ w' = w :=
  (between_any a lo hi w).mono fun e w' ⟨h1, h2⟩ => ⟨by rw [h1, h], h2.symm⟩
set_option maxRecDepth 100000 in
theorem betweenA_f (a lo hi : Int) (w : World) (h : (decide (lo ≤ a) && decide (a ≤ hi)) = false) : Calls Tryz.prog 103 #[.int .i64 a, .int .i64 lo, .int .i64 hi] w fun e w' => e = .returned (.bool false) ∧ w' = w :=
  (between_any a lo hi w).mono fun e w' ⟨h1, h2⟩ => ⟨by rw [h1, h], h2.symm⟩

set_option maxRecDepth 100000 in
set_option maxHeartbeats 3200000 in
theorem impl_applyEds_c {v v' : Value} {r : Reg} {l : List Ed} (w : World) (h : RegRd w 0 w.heap.size v r) (h' : EdsRd w 0 w.heap.size v' l) (hn : r.rows.length ≤ 1048576) :
    Calls Tryz.prog 37 #[v, v'] w fun e w' => ∃ v1, e = .returned (.tuple #[v1, .bool (r.applyEds l).isSome]) ∧ RegIn w' w.heap.size w'.heap.size v1 ((r.applyEds l).getD ⟨0, []⟩) ∧ Below w.heap.size w w' := by
  obtain ⟨s, rfl, hs⟩ := h
  obtain ⟨A, c, rfl, hm, hr⟩ := id hs
  obtain ⟨B, d, rfl, hm', hr'⟩ := id h'
  unfold maxLen at hm'
  obtain ⟨R, hR⟩ : ∃ R, R = r.applyEds l := ⟨_, rfl⟩
  rw [← hR]
  have HR := Lib.hid hR
  have H := ((Sep.start w).box 36 #[.int .i64 r.w, .slice A r.rows.length c]).box 36 #[.int .i64 0, .slice none 0 0]
  simp only [World.size_alloc] at H
  clear hR hr
  go_enter Tryz.func37, Tryz.ntmps37
  go_wp2_with fail
  generalize (w.alloc (.cells #[.int .i64 r.w, .slice A r.rows.length c] 36)).alloc (.cells #[.int .i64 0, .slice none 0 0] 36) = W at *
  refine (impl_IsRegion_c (r := r) W ⟨_, rfl, (hs.keep (SameIn.of_below H.below (Nat.le_refl _))).more (Nat.le_refl _) H.size⟩).mono ?_
  rintro e w1 ⟨rfl, b1⟩
  have H1 := H.step b1
  clear b1 H
  by_cases hq : r.valid = true ∧ l.length ≤ 40
  · obtain ⟨hv, hl⟩ := hq
    have hV := Reg.valid_iff.1 hv
    have HR2 : Hid (R = r.applyTo l) := Lib.hid (by rw [HR.out, Reg.applyEds, hv]; simp [hl])
    have HV := Lib.hid hV
    have x0 := H1.h1.cell 0
    have x1 := H1.h1.cell 1
    simp at x0 x1
    rw [hv]
    have hl' : (l.length : Int) ≤ 40 := by omega
    clear hv hV HR
    go_wp2_with fail
    refine (impl_copyRegion_c (r := r) w1 ⟨_, rfl, (hs.keep (SameIn.of_below H1.below (Nat.le_refl _))).more (Nat.le_refl _) H1.size⟩ hn).mono ?_
    rintro e w2 ⟨v2, rfl, ⟨s2, rfl, o2⟩, b2⟩
    obtain ⟨A2, c2, rfl, _, _⟩ := o2.rd
    have H2 := (H1.oiNew b2 o2).box 36 #[.int .i64 r.w, .slice A2 r.rows.length c2]
    clear b2 H1 x0 x1 o2
    go_wp2
    generalize w2.alloc (.cells #[.int .i64 r.w, .slice A2 r.rows.length c2] 36) = W2 at *
    go_loopw [22] (fun i wr => ∃ (k : Nat) (out : Reg), k ≤ l.length ∧ i = .int .i64 k ∧ Hid (r.applyTo (l.take k) = some out) ∧ Hid out.Valid ∧ Hid (out.w = r.w) ∧ Hid (out.rows.length = r.rows.length) ∧
      Sep w wr [Res.box w2.heap.size 36 #[.int .i64 r.w, .slice A2 r.rows.length c2], Res.row (.slice A2 r.rows.length c2) 3 1 r.rows.length (ic out.rows), Res.box (w.heap.size + 1) 36 #[.int .i64 0, .slice none 0 0],
        Res.box w.heap.size 36 #[.int .i64 r.w, .slice A r.rows.length c]]) (fun i _ => l.length - (intOf i).toNat)
    case atStart => exact ⟨0, r, Nat.zero_le _, rfl, Lib.hid rfl, HV, Lib.hid rfl, Lib.hid rfl, H2⟩
    case round =>
      clear H2
      obtain ⟨k, out, hk, rfl, HT, HO, HW, HL, H⟩ := hrel
      by_cases hlt : k < l.length
      · obtain ⟨b, off, e, rfl, _, hb, hla, q1, q2, q3⟩ := (hr'.keep (SameIn.of_below H.below (Nat.le_refl _))).at3 hlt
        have HLA := Lib.hid hla
        have hv1 := HV.out.1
        have hv2 := HV.out.2.1
        have hv3 := HV.out.2.2.1
        have hv4 := HV.out.2.2.2.1
        have hsz := H.size
        clear hla hr'
        obtain ⟨ea, ex, ey⟩ := e
        simp only at q1 q2 q3
        go_wp2_with fail
        have H3 := H.box 110 #[.bool ea, .int .i64 ex, .int .i64 ey]
        clear H q1 q2 q3
        generalize wr.alloc (.cells #[.bool ea, .int .i64 ex, .int .i64 ey] 110) = wa at *
        have e0 := H3.h0.cell 0
        have e1 := H3.h0.cell 1
        have e2 := H3.h0.cell 2
        have x0 := H3.h4.cell 0
        have x1 := H3.h4.cell 1
        have y0 := H3.h1.cell 0
        have y1 := H3.h1.cell 1
        have z0 := H3.h3.cell 0
        have z1 := H3.h3.cell 1
        have f0 := H3.h3.frozen 0
        have f1 := H3.h3.frozen 1
        simp at e0 e1 e2 x0 x1 y0 y1 z0 z1
        by_cases hx : 0 ≤ ex ∧ ex < r.w
        · have hp : (decide ((0 : Int) ≤ ex) && decide (ex ≤ r.w - 1)) = true := by simp; omega
          by_cases hy : 0 ≤ ey ∧ ey < r.rows.length
          · obtain ⟨xn, rfl⟩ := Int.eq_ofNat_of_zero_le hx.1
            obtain ⟨yn, rfl⟩ := Int.eq_ofNat_of_zero_le hy.1
            have hxw : (xn : Int) < r.w := hx.2
            have hyl : (yn : Int) < (r.rows.length : Int) := hy.2
            have hp2 : decide ((xn : Int) ≤ r.w - 1) = true := by simp; omega
            have hpy2 : decide ((yn : Int) ≤ (r.rows.length : Int) - 1) = true := by simp; omega
            have hrd : RegRd wa 0 wa.heap.size (.agg #[.int .i64 r.w, .slice A2 r.rows.length c2]) out := by
              refine ⟨_, by rw [HW.out], ?_⟩
              have := (H3.g2.oi.sr).more (Nat.zero_le _) (Nat.le_refl _)
              rw [← HL.out] at this ⊢
              exact this
            obtain ⟨q, hq⟩ : ∃ q, q = out.has xn yn := ⟨_, rfl⟩
            have HQ := Lib.hid hq
            clear hq hp hx hy h'
            have hw1 : IntKind.i64.wrap (r.w - 1) = r.w - 1 := IntWalk.i64_in _ (by omega)
            have hw2 : IntKind.i64.wrap ((r.rows.length : Int) - 1) = (r.rows.length : Int) - 1 := IntWalk.i64_in _ (by omega)
            go_region_held3 (fun w' => w'.cell? ⟨wr.heap.size, 0, none⟩ = some (.bool ea) ∧ w'.cell? ⟨wr.heap.size, 1, none⟩ = some (.int .i64 xn) ∧ w'.cell? ⟨wr.heap.size, 2, none⟩ = some (.int .i64 yn) ∧ w'.cell? ⟨w.heap.size, 0, none⟩ = some (.int .i64 r.w) ∧ w'.cell? ⟨w.heap.size, 1, none⟩ = some (.slice A r.rows.length c) ∧ w'.cell? ⟨w2.heap.size, 0, none⟩ = some (.int .i64 r.w) ∧ w'.cell? ⟨w2.heap.size, 1, none⟩ = some (.slice A2 r.rows.length c2))
              (first | ((try dsimp only); refine ⟨?_, ?_, ?_, ?_, ?_, ?_, ?_⟩ <;> assumption) | go_keep)
              ((first
                | (go_at_call 103; (with_reducible refine (between_any _ _ _ _).mono ?_); rintro e w' ⟨rfl, rfl⟩)
                | (go_at_call 104; (with_reducible refine (impl_has_c (r := out) _ _ _ (by exact (hrd.keep SameIn.drew).more (Nat.le_refl _) (le_drew (Nat.le_refl _))) HO.out).mono ?_); rintro e w3 ⟨rfl, b3⟩; replace b3 := below_undrew b3; have H5 := H3.step b3; have e0' := H5.h0.cell 0; have e1' := H5.h0.cell 1; have e2' := H5.h0.cell 2; have x0' := H5.h4.cell 0; have x1' := H5.h4.cell 1; have y0' := H5.h1.cell 0; have y1' := H5.h1.cell 1; simp at e0' e1' e2' x0' x1' y0' y1')))
            clear e0 e1 e2 x0 x1 y0 y1 z0 z1 f0 f1 H3 b3 hrd hw1 hw2 hp2 hpy2
            rw [← HQ.out]
            cases hc : (q == ea)
            · obtain ⟨bo, oo, co, he, _, _, hbo⟩ := own_shape H5.h2 (by omega)
              injection he with he1 _ he3
              subst he1 he3
              have hyn : yn < out.rows.length := by rw [HL.out]; omega
              have hrow := List.getElem?_eq_getElem hyn
              obtain ⟨ea1, hlt1⟩ := Reg.row_of HO.out hrow
              rw [ea1] at hrow
              have hp64 := Reg.two_pow_le HO.out
              have r0 := own_cell1 H5.h2 hrow
              have fr := own_free H5.h2 yn
              have HRW := Lib.hid hrow
              have hyi0 : (0 : Int) ≤ (yn : Int) := Int.natCast_nonneg _
              clear hrow ea1
              obtain ⟨m, hmm⟩ : ∃ m, m = out.row yn := ⟨_, rfl⟩
              rw [← hmm] at r0 hlt1
              have HM := Lib.hid hmm
              have HC := Lib.hid hc
              clear hmm hc
              go_wp2_with fail
              go_still_tail 11, (by kernel_rfl)
              change wpList _ _ _ _ _ w3.drew
              have H6 := H5.drew
              clear e0' e1' e2' x0' x1' y0' y1' r0 fr H5
              generalize w3.drew = w4 at *
              have r0 := own_cell1 H6.h2 HRW.out
              have fr := own_free H6.h2 yn
              go_wp2
              go_roundw
              case rel =>
                have hx6 : xn < 6 := by omega
                have hval : bits .xor .i64 (m : Int) (wrap64 (2 ^ xn)) = ((m ^^^ 2 ^ xn : Nat) : Int) := by
                  have h1 : (2 : Int) ^ xn = ((2 ^ xn : Nat) : Int) := by simp
                  have h2 : 2 ^ xn ≤ 64 := Nat.le_trans (Nat.pow_le_pow_right (by decide) (show xn ≤ 6 by omega)) (by decide)
                  rw [h1]
                  clear h1
                  generalize 2 ^ xn = p2 at h2 ⊢
                  rw [IntWalk.wrap64_in _ ⟨by omega, by omega⟩, i64_xor_nat m _ (by omega) (by omega)]
                have H7 := ((H6.g2.setRow (j := yn) (by rw [ic_length, HL.out]; omega) (.int .i64 (bits .xor .i64 (m : Int) (wrap64 (2 ^ xn))))).p2).drop
                rw [ic_set, hval] at H7
                rw [hval]
                have ha : out.apply1 ⟨ea, (xn : Int), (yn : Int)⟩ = some (out.flip xn yn) := by
                  have hc := HC.out
                  rw [HQ.out] at hc
                  have hw : (xn : Int) < out.w := by rw [HW.out]; exact hxw
                  simp [Reg.apply1, Reg.inn, hw, hyn, bne, hc]
                exact ⟨k + 1, out.flip xn yn, by omega, by go_num, Lib.hid (by rw [Reg.applyTo_succ HT.out HLA.out, ha]), Lib.hid (Reg.flip_valid HO.out (by rw [HW.out]; exact hxw)), Lib.hid HW.out, Lib.hid (by rw [Reg.flip_len]; exact HL.out), by rw [HM.out] at H7 ⊢; exact H7⟩
              case measure => simp [intOf]; omega
            · have hnone : R = none := by rw [HR2.out]; exact Reg.applyTo_stop HT.out HLA.out (by rw [HQ.out] at hc; simp at hc; simp [Reg.apply1, hc])
              subst hnone
              have z0 := H5.h3.cell 0
              have z1 := H5.h3.cell 1
              have f0 := H5.h3.frozen 0
              have f1 := H5.h3.frozen 1
              simp at z0 z1
              clear e0' e1' e2' x0' x1' y0' y1'
              have H6 := H5.g3
              have H4 := (H6.set_ 0 (.int .i64 0)).set_ 1 (.slice none 0 0)
              have u0 := H4.h0.cell 0
              have u1 := H4.h0.cell 1
              simp at u0 u1
              go_wp2
              exact bodyPost_ret (v := .tuple #[.agg #[.int .i64 0, .slice none 0 0], .bool false]) (by simp [results, Tryz.results37, go_sem, u0, u1]) rfl ⟨_, rfl, ⟨_, rfl, IntsIn.nil⟩, H4.below⟩
          · have hpy : (decide ((0 : Int) ≤ ey) && decide (ey ≤ (r.rows.length : Int) - 1)) = false := by simp; omega
            have hnone : R = none := by rw [HR2.out]; exact Reg.applyTo_stop HT.out HLA.out (by simp [Reg.apply1, Reg.inn]; intro h1 h2 h3 h4; exact absurd ⟨h3, by rw [← HL.out]; exact h4⟩ hy)
            subst hnone
            go_quiet ((first | (go_at_call 103; exact Calls.quiet_of_same (betweenA_t _ _ _ _ hp)) | (go_at_call 103; exact Calls.quiet_of_same (betweenA_f _ _ _ _ hpy))))
            have Hq := (H3.drewN nq).g3
            clear e0 e1 e2 x0 x1 y0 y1 z0 z1 f0 f1 H3
            generalize wa.drewN nq = wb at *
            have z0 := Hq.h0.cell 0
            have z1 := Hq.h0.cell 1
            have f0 := Hq.h0.frozen 0
            have f1 := Hq.h0.frozen 1
            simp at z0 z1
            have H4 := (Hq.set_ 0 (.int .i64 0)).set_ 1 (.slice none 0 0)
            have u0 := H4.h0.cell 0
            have u1 := H4.h0.cell 1
            simp at u0 u1
            go_wp2
            exact bodyPost_ret (v := .tuple #[.agg #[.int .i64 0, .slice none 0 0], .bool false]) (by simp [results, Tryz.results37, go_sem, u0, u1]) rfl ⟨_, rfl, ⟨_, rfl, IntsIn.nil⟩, H4.below⟩
        · have hp : (decide ((0 : Int) ≤ ex) && decide (ex ≤ r.w - 1)) = false := by simp; omega
          have hnone : R = none := by rw [HR2.out]; exact Reg.applyTo_stop HT.out HLA.out (by simp [Reg.apply1, Reg.inn]; intro h1 h2; exact absurd ⟨h1, by rw [← HW.out]; exact h2⟩ hx)
          subst hnone
          go_quiet ((go_at_call 103; exact Calls.quiet_of_same (betweenA_f _ _ _ _ hp)))
          have Hq := (H3.drewN nq).g3
          clear e0 e1 e2 x0 x1 y0 y1 z0 z1 f0 f1 H3
          generalize wa.drewN nq = wb at *
          have z0 := Hq.h0.cell 0
          have z1 := Hq.h0.cell 1
          have f0 := Hq.h0.frozen 0
          have f1 := Hq.h0.frozen 1
          simp at z0 z1
          have H4 := (Hq.set_ 0 (.int .i64 0)).set_ 1 (.slice none 0 0)
          have u0 := H4.h0.cell 0
          have u1 := H4.h0.cell 1
          simp at u0 u1
          go_wp2
          exact bodyPost_ret (v := .tuple #[.agg #[.int .i64 0, .slice none 0 0], .bool false]) (by simp [results, Tryz.results37, go_sem, u0, u1]) rfl ⟨_, rfl, ⟨_, rfl, IntsIn.nil⟩, H4.below⟩
      · obtain rfl : k = l.length := by omega
        have hsome : R = some out := by rw [HR2.out, ← HT.out, List.take_length]
        subst hsome
        have z0 := H.h2.cell 0
        have z1 := H.h2.cell 1
        have f0 := H.h2.frozen 0
        have f1 := H.h2.frozen 1
        have y0 := H.h0.cell 0
        have y1 := H.h0.cell 1
        simp at y0 y1 z0 z1
        have H4 := (H.g2.set_ 0 (.int .i64 r.w)).set_ 1 (.slice A2 r.rows.length c2)
        have u0 := H4.h0.cell 0
        have u1 := H4.h0.cell 1
        simp at u0 u1
        go_wp2
        refine bodyPost_ret (v := .tuple #[.agg #[.int .i64 r.w, .slice A2 r.rows.length c2], .bool true]) (by simp [results, Tryz.results37, go_sem, u0, u1]) rfl ⟨_, rfl, ⟨_, by rw [Option.getD_some, HW.out], ?_⟩, H4.below⟩
        have := H4.g2.oi
        rw [← HL.out] at this ⊢
        exact this
  · have hnone : R = none := by
      rw [HR.out, Reg.applyEds]
      split
      · rename_i h
        simp at h
        exact absurd h hq
      · rfl
    subst hnone
    have z0 := H1.h0.cell 0
    have z1 := H1.h0.cell 1
    have f0 := H1.h0.frozen 0
    have f1 := H1.h0.frozen 1
    simp at z0 z1
    cases hv : r.valid
    · clear hq
      have H4 := (H1.set_ 0 (.int .i64 0)).set_ 1 (.slice none 0 0)
      have u0 := H4.h0.cell 0
      have u1 := H4.h0.cell 1
      simp at u0 u1
      go_wp2
      exact bodyPost_ret (v := .tuple #[.agg #[.int .i64 0, .slice none 0 0], .bool false]) (by simp [results, Tryz.results37, go_sem, u0, u1]) rfl ⟨_, rfl, ⟨_, rfl, IntsIn.nil⟩, H4.below⟩
    · have hl' : ¬ (l.length : Int) ≤ 40 := by intro h; exact hq ⟨hv, by omega⟩
      clear hq
      have H4 := (H1.set_ 0 (.int .i64 0)).set_ 1 (.slice none 0 0)
      have u0 := H4.h0.cell 0
      have u1 := H4.h0.cell 1
      simp at u0 u1
      go_wp2
      exact bodyPost_ret (v := .tuple #[.agg #[.int .i64 0, .slice none 0 0], .bool false]) (by simp [results, Tryz.results37, go_sem, u0, u1]) rfl ⟨_, rfl, ⟨_, rfl, IntsIn.nil⟩, H4.below⟩
end Go.Proofs.YtfildenelgbmlaaGreatDoor

namespace Go.Proofs.YtfildenelgbmlaaGreatDoor
open Go.RowKit

set_option maxRecDepth 100000 in
set_option maxHeartbeats 3200000 in
theorem spec_eqReg_c {v v' : Value} {a b : Reg} (w : World) (h : RegRd w 0 w.heap.size v a) (h' : RegRd w 0 w.heap.size v' b) :
    Calls Tryz.prog 26 #[v, v'] w fun e w' => e = .returned (.bool (same a b)) ∧ Below w.heap.size w w' := by
  obtain ⟨s, rfl, hs⟩ := h
  obtain ⟨s', rfl, hs'⟩ := h'
  obtain ⟨aw, ar⟩ := a
  obtain ⟨bw, br⟩ := b
  dsimp only at hs hs'
  obtain ⟨A, c, rfl, hm, hr⟩ := hs
  obtain ⟨A', c', rfl, hm', hr'⟩ := hs'
  unfold maxLen at hm hm'
  have H := ((Sep.start w).box 36 #[.int .i64 aw, .slice A ar.length c]).box 36 #[.int .i64 bw, .slice A' br.length c']
  simp only [World.size_alloc] at H
  obtain ⟨R, hR⟩ : ∃ R, R = same (⟨aw, ar⟩ : Reg) ⟨bw, br⟩ := ⟨_, rfl⟩
  rw [← hR]
  rw [same_reg] at hR
  dsimp only at hR
  have HR := Lib.hid hR
  clear hR
  have c0 : ((w.alloc (.cells #[.int .i64 aw, .slice A ar.length c] 36)).alloc (.cells #[.int .i64 bw, .slice A' br.length c'] 36)).cell? ⟨w.heap.size, 0, none⟩ = some (.int .i64 aw) := H.h1.cell 0
  have c1 : ((w.alloc (.cells #[.int .i64 aw, .slice A ar.length c] 36)).alloc (.cells #[.int .i64 bw, .slice A' br.length c'] 36)).cell? ⟨w.heap.size, 1, none⟩ = some (.slice A ar.length c) := H.h1.cell 1
  have d0 : ((w.alloc (.cells #[.int .i64 aw, .slice A ar.length c] 36)).alloc (.cells #[.int .i64 bw, .slice A' br.length c'] 36)).cell? ⟨w.heap.size + 1, 0, none⟩ = some (.int .i64 bw) := H.h0.cell 0
  have d1 : ((w.alloc (.cells #[.int .i64 aw, .slice A ar.length c] 36)).alloc (.cells #[.int .i64 bw, .slice A' br.length c'] 36)).cell? ⟨w.heap.size + 1, 1, none⟩ = some (.slice A' br.length c') := H.h0.cell 1
  by_cases hw : aw = bw
  rotate_left
  · have hRe : R = false := by rw [HR.out, decide_eq_false hw, Bool.false_and]
    subst hRe
    have e1 : (aw == bw) = false := by simpa using hw
    clear hw
    go_enter Tryz.func26, Tryz.ntmps26
    go_wp2
    go_ret
    exact ⟨rfl, H.below⟩
  subst hw
  by_cases hl : ar.length = br.length
  rotate_left
  · have hRe : R = false := by rw [HR.out, same_far hl, Bool.and_false]
    subst hRe
    have e1 : ((ar.length : Int) == (br.length : Int)) = false := by simp; omega
    clear hl
    go_enter Tryz.func26, Tryz.ntmps26
    go_wp2
    go_ret
    exact ⟨rfl, H.below⟩
  have HL := Lib.hid hl
  obtain ⟨n, hn⟩ : ∃ n, n = ar.length := ⟨_, rfl⟩
  rw [← hl, ← hn] at hr' d1 H c1 c0 d0
  rw [← hn] at hr hm
  rw [← hl, ← hn]
  have HN := Lib.hid hn
  clear hl hn
  go_enter Tryz.func26, Tryz.ntmps26
  go_wp2
  clear c0 c1 d0 d1
  generalize (w.alloc (.cells #[.int .i64 aw, .slice A n c] 36)).alloc (.cells #[.int .i64 aw, .slice A' n c'] 36) = W at *
  go_loopw [5] (fun i wr => ∃ k : Nat, k ≤ n ∧ i = .int .i64 k ∧ Hid (∀ (j : Nat) (x y : _), j < k → ar[j]? = some x → br[j]? = some y → x = y) ∧ Sep w wr [Res.box (w.heap.size + 1) 36 #[.int .i64 aw, .slice A' n c'], Res.box w.heap.size 36 #[.int .i64 aw, .slice A n c]]) (fun i _ => n - (intOf i).toNat)
  case atStart => exact ⟨0, Nat.zero_le _, rfl, Lib.hid (fun j _ _ h => absurd h (by omega)), H⟩
  case round =>
    clear H
    obtain ⟨k, hk, rfl, HK, H⟩ := hrel
    have c1 : wr.cell? ⟨w.heap.size, 1, none⟩ = some (.slice A n c) := H.h1.cell 1
    have d1 : wr.cell? ⟨w.heap.size + 1, 1, none⟩ = some (.slice A' n c') := H.h0.cell 1
    by_cases hlt : k < n
    · obtain ⟨bb, off, x, rfl, _, hb, hla, q1⟩ := Rd.at1 (f := fun n : Int => .int .i64 n) (hr.below H.below (Nat.le_refl _)) hlt
      obtain ⟨bb', off', y, rfl, _, hb', hla', q1'⟩ := Rd.at1 (f := fun n : Int => .int .i64 n) (hr'.below H.below (Nat.le_refl _)) hlt
      by_cases hxy : x = y
      · subst hxy
        have hk2 := alike_succ HK.out hla hla'
        have HK2 := Lib.hid hk2
        clear hr hr' hla hla' hk2
        go_wp2_with fail
        go_quiet (fail)
        have H2 := H.drewN nq
        clear H c1 d1 q1 q1'
        generalize wr.drewN nq = w2 at *
        go_wp2
        go_roundw
        case rel => exact ⟨k + 1, by omega, by go_num, HK2, H2⟩
        case measure => simp [intOf]; omega
      · have hRe : R = false := by rw [HR.out, same_at hla hla' hxy, Bool.and_false]
        subst hRe
        have e1 : (x == y) = false := by simpa using hxy
        clear hr hr' hla hla' hxy
        go_wp2_with fail
        go_quiet (fail)
        have H2 := H.drewN nq
        clear H c1 d1 q1 q1'
        generalize wr.drewN nq = w2 at *
        go_wp2
        go_ret
        exact ⟨rfl, H2.below⟩
    · obtain rfl : k = n := by omega
      have hRe : R = true := by rw [HR.out, same_all HL.out (by rw [← HN.out]; exact HK.out)]; simp
      subst hRe
      go_wp2
      go_ret
      exact ⟨rfl, H.below⟩

end Go.Proofs.YtfildenelgbmlaaGreatDoor
