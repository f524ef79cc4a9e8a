
/-
  The walks over lists of shapes: the law's helpers. The walks over lists of shapes that a function gives: the law's helpers.
-/
import Derived.Test.YtfmkmjebkmimkaaGreatDoorProg
import Derived.Test.YtfmkmjebkmimkaaGreatDoorEqV
import Derived.Test.YtfmkmjebkmimkaaGreatDoorLawCells
import Derived.Test.YtfmkmjebkmimkaaGreatDoorLawInts
import Derived.Test.YtfmkmjebkmimkaaGreatDoorPairR
namespace Go.Proofs.YtfmkmjebkmimkaaGreatDoor
open Go.RowKit

def CellSS.numTo (l : List (List Cell)) (k : Nat) : Nat := ((l.take k).map List.length).sum
def CellSS.num (l : List (List Cell)) : Nat := (l.map List.length).sum
def CellSS.tot (l : List (List Cell)) : Nat := l.length + CellSS.num l
theorem CellSS.numTo_succ {l : List (List Cell)} {k : Nat} {u : List Cell} (h : l[k]? = some u) : CellSS.numTo l (k + 1) = CellSS.numTo l k + u.length := by
  unfold CellSS.numTo
  rw [List.take_add_one, h]
  simp
theorem CellSS.numTo_end {l : List (List Cell)} : CellSS.numTo l l.length = CellSS.num l := by unfold CellSS.numTo CellSS.num; rw [List.take_length]
theorem CellSS.numTo_le {l : List (List Cell)} {k : Nat} : CellSS.numTo l k ≤ CellSS.num l := by
  have h : CellSS.num l = CellSS.numTo l k + ((l.drop k).map List.length).sum := by
    unfold CellSS.numTo CellSS.num
    rw [← List.sum_append, ← List.map_append, List.take_append_drop]
  omega
theorem CellSS.tot_le {l : List (List Cell)} {n : Nat} (h : CellSS.tot l ≤ n) : l.length ≤ n ∧ ∀ u ∈ l, u.length ≤ n := by
  unfold CellSS.tot at h
  refine ⟨by omega, fun u hu => ?_⟩
  obtain ⟨k, hk⟩ := List.getElem?_of_mem hu
  have h1 := CellSS.numTo_succ hk
  have h2 := CellSS.numTo_le (l := l) (k := k + 1)
  omega
/-- shapes, each in its own memory, that may be written -/
structure CellSSIn (w : World) (lo hi : Nat) (v : Value) (l : List (List Cell)) : Prop where
  rd : CellSSRd w lo hi v l
  wr : ∃ (G : Nat) (cs : Array Value) (c : Nat), v = .slice (some ⟨G, 0, none⟩) l.length c ∧ (lo ≤ G ∧ G < hi) ∧ Blk w G 49 cs ∧ ∀ (j : Nat) (u : List Cell), l[j]? = some u → ∃ x, cs[j]? = some x ∧ CellsIn w lo hi x u
theorem CellSSIn.keep {w w' : World} {lo hi : Nat} {v : Value} {l : List (List Cell)} (h : CellSSIn w lo hi v l) (hs : SameIn lo hi w w') : CellSSIn w' lo hi v l := by
  obtain ⟨h1, G, cs, c, e, hG, hb, hx⟩ := h
  refine ⟨h1.keep hs, G, cs, c, e, hG, (hs G hG.1 hG.2).trans hb, fun j u hu => ?_⟩
  obtain ⟨x, h2, h3⟩ := hx j u hu
  exact ⟨x, h2, CellsIn.keep h3 hs⟩
/-- what was there is of no more concern -/
def Gone (_w : World) (lo hi : Nat) : Prop := lo = lo ∧ hi = hi
theorem Gone.keep {w w' : World} {lo hi : Nat} (_h : Gone w lo hi) (_hs : SameIn lo hi w w') : Gone w' lo hi := ⟨rfl, rfl⟩
set_option maxRecDepth 100000 in
theorem infoSlice : (Tryz.prog.info? 49).map (fun i => (i.zero, i.size, i.bytes)) = some (some (.slice none 0 0), 1, 24) := by kernel_rfl
/-- the first k places are laid -/
def LaidW (wr : World) (lo k : Nat) (cs : Array Value) (l : List (List Cell)) : Prop := ∀ (j : Nat) (u : List Cell), j < k → l[j]? = some u → ∃ x, cs[j]? = some x ∧ CellsIn wr lo wr.heap.size x u
theorem LaidW.step {wr w' : World} {lo k : Nat} {cs : Array Value} {l : List (List Cell)} (h : LaidW wr lo k cs l) (hs : SameIn lo wr.heap.size wr w') (hz : wr.heap.size ≤ w'.heap.size) : LaidW w' lo k cs l :=
  fun j u hj hu => by obtain ⟨x, h1, h2⟩ := h j u hj hu; exact ⟨x, h1, OI.base (CellsIn.keep h2 hs) (Nat.le_refl _) hz⟩
set_option maxRecDepth 100000 in
set_option maxHeartbeats 800000 in
theorem toCellSS_c {v : Value} {l : List (List Cell)} (w : World) (h : CellSSRd w 0 w.heap.size v l) (htt : CellSS.tot l ≤ 1048576) :
    Calls Tryz.prog 11 #[v] w fun e w' => ∃ v', e = .returned v' ∧ CellSSIn w' w.heap.size w'.heap.size v' l ∧ Below w.heap.size w w' := by
  obtain ⟨hn, hnn⟩ := CellSS.tot_le htt
  clear htt
  obtain ⟨vs, ⟨A, c, rfl, hm, hr⟩, hvs⟩ := h
  obtain ⟨i0, hi, hz0, hz1, hz2⟩ := info_parts infoSlice
  obtain ⟨n, hx⟩ : ∃ n, n = l.length := ⟨_, rfl⟩
  rw [← hx] at hn hr
  have hmk := fun W => run_make_rowN (P := Tryz.prog) 31 49 i0 _ Tryz.underlying31 hi hz0 .i64 .i64 n n (Nat.le_refl _) (by rw [hz2]; omega) (by omega) W
  rw [hz1] at hmk
  rw [← hx]
  have Hll := Lib.hid hx
  clear hx hm
  go_enter Tryz.func11, Tryz.ntmps11
  go_wp2
  clear hmk
  go_loopw [4] (fun i wr => ∃ k : Nat, k ≤ n ∧ i = .int .i64 k ∧ (∃ cs, Blk wr w.heap.size 49 cs ∧ cs.size = n * 1 ∧ LaidW wr (w.heap.size + 1) k cs l) ∧ Below w.heap.size w wr) (fun i _ => n - (intOf i).toNat)
  case atStart => exact ⟨0, Nat.zero_le _, rfl, ⟨_, Blk.new _ _ _, by simp [size_madeCells], fun j u hj => absurd hj (by omega)⟩, (Below.refl _ _).alloc (Nat.le_refl _) _⟩
  case round =>
    obtain ⟨k, hk, rfl, ⟨cs, hblk, hcs, htk⟩, hbel⟩ := hrel
    by_cases hlt : k < n
    · obtain ⟨b, off, u, x, rfl, _, hb, hla, q1, hx⟩ := (hr.below hbel (Nat.le_refl _)).slot (hvs.keep (SameIn.of_below hbel (Nat.le_refl _))) Hll.out hlt
      have hul := hnn u (List.mem_of_getElem? hla)
      have hgs := hblk.lt
      replace hx := hx.more (Nat.le_refl _) hbel.size
      have HB := Lib.hid hblk
      have HLA := Lib.hid hla
      have HC := Lib.hid hcs
      have HT := Lib.hid htk
      clear hr hblk hvs hnn hla hcs htk
      go_wp2_with fail
      refine (toCellS_c (x := u) wr hx hul).mono ?_
      rintro e w1 ⟨v1, rfl, o1, hb1⟩
      obtain ⟨A1, c1, rfl, _, _⟩ := o1.rd
      have hblk1 := HB.out.below hb1 HB.out.lt
      have hlt1 := hblk1.lt
      obtain ⟨u0, g0⟩ : ∃ u, w1.cell? ⟨w.heap.size, k, none⟩ = some u := ⟨_, by rw [hblk1.cell, Array.getElem?_eq_getElem (by have := HC.out; omega)]⟩
      have f0 := hblk1.frozen k
      have HB1 := Lib.hid hblk1
      have HO := Lib.hid o1
      clear hblk1 HB hx o1
      go_wp2
      go_roundw
      case rel =>
        have hs1 := (HT.out.step (SameIn.of_below hb1 (Nat.le_refl _)) hb1.size)
        have hsame : SameIn (w.heap.size + 1) w1.heap.size w1 (w1.setCell ⟨w.heap.size, k, none⟩ (.slice A1 u.length c1)) := SameIn.setCell (p := ⟨w.heap.size, k, none⟩) (.inl (Nat.lt_succ_self w.heap.size)) (.slice A1 u.length c1)
        have hs2 := hs1.step hsame (by simp [World.setCell])
        refine ⟨k + 1, by omega, by go_num, ⟨cs.setIfInBounds k (.slice A1 u.length c1), HB1.out.set_ k (.slice A1 u.length c1), by simpa using HC.out, fun j d hj hd => ?_⟩, (hbel.trans (hb1.mono hbel.size)).setCell (Nat.le_refl _) (.slice A1 u.length c1)⟩
        by_cases e : j = k
        · subst e
          rw [HLA.out] at hd
          injection hd with hd
          subst hd
          refine ⟨(.slice A1 u.length c1), by rw [Array.getElem?_setIfInBounds]; have := HC.out; simp; omega, ?_⟩
          exact OI.base (CellsIn.keep (OI.base HO.out (by omega) (Nat.le_refl _)) hsame) (Nat.le_refl _) (by simp [World.setCell])
        · obtain ⟨x, h1, h2⟩ := hs2 j d (by omega) hd
          exact ⟨x, by rw [Array.getElem?_setIfInBounds, if_neg (fun h => e h.symm)]; exact h1, h2⟩
      case measure => simp [intOf]; omega
    · go_wp2
      go_ret
      have hkn : k = n := by omega
      subst hkn
      have hkl := Hll.out
      have hrd : CellSSRd wr w.heap.size wr.heap.size (.slice (some ⟨w.heap.size, 0, none⟩) k k) l := ⟨cs.toList, ⟨some ⟨w.heap.size, 0, none⟩, k, by rw [← hkl], by rw [← Hll.out]; unfold maxLen; omega, by rw [← Hll.out]; simpa using hcs, fun _ => ⟨w.heap.size, 0, rfl, Nat.le_refl _, hblk.lt, fun j u hu => by rw [hblk.cell]; simpa using hu⟩⟩, by rw [← Hll.out]; simpa using hcs, fun i u hu => by
        obtain ⟨x, h1, h2⟩ := htk i u (by have := (List.getElem?_eq_some_iff.1 hu).1; have := Hll.out; omega) hu
        exact ⟨x, by simpa using h1, (CellsIn.rd h2).more (by omega) (Nat.le_refl _)⟩⟩
      refine ⟨_, rfl, ⟨hrd, w.heap.size, cs, k, by rw [← hkl]; rfl, ⟨Nat.le_refl _, hblk.lt⟩, hblk, fun i u hu => ?_⟩, hbel⟩
      obtain ⟨x, h1, h2⟩ := htk i u (by have := (List.getElem?_eq_some_iff.1 hu).1; have := Hll.out; omega) hu
      exact ⟨x, h1, OI.base h2 (by omega) (Nat.le_refl _)⟩
set_option maxRecDepth 100000 in
set_option maxHeartbeats 800000 in
theorem eqCellSS_c {v v' : Value} {a : List (List Cell)} (w : World) (h : CellSSRd w 0 w.heap.size v a) (h' : CellSSRd w 0 w.heap.size v' a) :
    Calls Tryz.prog 14 #[v, v'] w fun e w' => e = .returned (.bool true) ∧ Below w.heap.size w w' := by
  obtain ⟨vs, ⟨A, c, rfl, hm, hr⟩, hvs⟩ := h
  obtain ⟨vs', ⟨A', c', rfl, hm', hr'⟩, hvs'⟩ := h'
  unfold maxLen at hm
  go_enter Tryz.func14, Tryz.ntmps14
  go_wp2
  go_loopw [5] (fun i wr => ∃ k : Nat, k ≤ a.length ∧ i = .int .i64 k ∧ Below w.heap.size w wr) (fun i _ => a.length - (intOf i).toNat)
  case atStart => exact ⟨0, Nat.zero_le _, rfl, Below.refl _ _⟩
  case round =>
    obtain ⟨k, hk, rfl, hbel⟩ := hrel
    by_cases hlt : k < a.length
    · obtain ⟨bb, off, x, vx, rfl, _, hb, hla, q1, hx⟩ := (hr.below hbel (Nat.le_refl _)).slot (hvs.keep (SameIn.of_below hbel (Nat.le_refl _))) rfl hlt
      obtain ⟨bb', off', y, vy, rfl, _, hb', hla', q1', hy⟩ := (hr'.below hbel (Nat.le_refl _)).slot (hvs'.keep (SameIn.of_below hbel (Nat.le_refl _))) rfl hlt
      obtain rfl : x = y := by rw [hla] at hla'; injection hla'
      replace hx := hx.more (Nat.le_refl _) hbel.size
      replace hy := hy.more (Nat.le_refl _) hbel.size
      clear hr hr' hla hla' hvs hvs'
      go_wp2_with fail
      go_still_tail 8, (by kernel_rfl)
      change wpList _ _ _ _ _ wr.drew
      have hbel2 := below_drew hbel
      clear q1 q1'
      go_wp2_with fail
      refine (eqCellS_c (x := x) wr.drew hx hy).mono ?_
      rintro e w2 ⟨rfl, b2⟩
      have hbel3 := hbel2.trans (b2.mono hbel2.size)
      clear hbel2 b2 hx hy
      go_wp2
      go_roundw
      case rel => exact ⟨k + 1, by omega, by go_num, hbel3⟩
      case measure => simp [intOf]; omega
    · go_wp2
      go_ret
      exact ⟨rfl, hbel⟩
set_option maxRecDepth 100000 in
set_option maxHeartbeats 800000 in
theorem szCellSS_c {v : Value} {x : List (List Cell)} (l : Int) (w : World) (h : CellSSRd w 0 w.heap.size v x) (h1 : 0 ≤ l) (h2 : l ≤ 1048576):
    Calls Tryz.prog 8 #[v, .int .i64 l] w fun e w' => e = .returned (.int .i64 (if l < CellSS.tot x then -1 else l - CellSS.tot x)) ∧ w = w' := by
  obtain ⟨vs, ⟨A, c, rfl, hm, hr⟩, hvs⟩ := h
  unfold maxLen at hm
  obtain ⟨T, hT⟩ : ∃ T, T = CellSS.tot x := ⟨_, rfl⟩
  have hTn : x.length ≤ T := by rw [hT]; unfold CellSS.tot; omega
  obtain ⟨R, hR⟩ : ∃ R : Int, R = if l < (T : Int) then -1 else l - T := ⟨_, rfl⟩
  rw [← hT, ← hR]
  have HT := Lib.hid hT
  have HR := Lib.hid hR
  clear hT hR
  by_cases hn : l < x.length
  · obtain rfl : R = -1 := by rw [HR.out, if_pos (by omega)]
    go_enter Tryz.func8, Tryz.ntmps8
    go_wp2
    go_ret
    exact ⟨rfl, rfl⟩
  · go_enter Tryz.func8, Tryz.ntmps8
    go_wp2
    go_loopw [1, 5] (fun lv i wr => ∃ (k : Nat) (m : Int), k ≤ x.length ∧ i = .int .i64 k ∧ lv = .int .i64 m ∧ 0 ≤ m ∧ m ≤ l ∧ wr = w ∧ Hid (m = l - x.length - CellSS.numTo x k)) (fun _ i _ => x.length - (intOf i).toNat)
    case atStart => exact ⟨0, _, Nat.zero_le _, rfl, rfl, by omega, by omega, rfl, Lib.hid (by simp [CellSS.numTo])⟩
    case round =>
      obtain ⟨k, m, hk, rfl, rfl, hm0, hml, rfl, HM⟩ := hrel
      by_cases hlt : k < x.length
      · obtain ⟨b, off, u, xv, rfl, _, hb, hla, q1, hx⟩ := hr.slot hvs rfl hlt
        have HS := Lib.hid (CellSS.numTo_succ hla)
        clear hr hvs hla
        go_wp2_with fail
        refine (szCellS_c (x := u) m wr hx hm0 (by omega)).mono ?_
        rintro e w' ⟨rfl, rfl⟩
        by_cases hlu : m < u.length
        · obtain rfl : R = -1 := by
            rw [HR.out, if_pos]
            have h3 := HS.out
            have h4 := CellSS.numTo_le (l := x) (k := k + 1)
            have h5 := HM.out
            have h6 := HT.out
            unfold CellSS.tot at h6
            omega
          rw [if_pos hlu]
          go_wp2
          go_ret
          exact ⟨rfl, rfl⟩
        · rw [if_neg hlu]
          obtain ⟨m', hm'⟩ : ∃ m' : Int, m' = m - u.length := ⟨_, rfl⟩
          rw [← hm']
          have hm0' : 0 ≤ m' := by omega
          have hml' : m' ≤ l := by omega
          have HM2 : Hid (m' = l - x.length - CellSS.numTo x (k + 1)) := Lib.hid (by have h3 := HS.out; have h5 := HM.out; omega)
          clear hm' hlu q1 hx
          go_wp2
          go_roundw
          case rel => exact ⟨k + 1, m', by omega, by go_num, (by first | rfl | trivial | go_num), hm0', hml', (by first | rfl | trivial), HM2⟩
          case measure => simp [intOf]; omega
      · obtain rfl : k = x.length := by omega
        obtain rfl : R = m := by
          have h5 := HM.out
          rw [CellSS.numTo_end] at h5
          have h6 := HT.out
          unfold CellSS.tot at h6
          rw [HR.out, if_neg (by omega)]
          omega
        go_wp2
        go_ret
        exact ⟨rfl, rfl⟩
/-- a row that may be written -/
def RowW (w : World) (lo hi : Nat) (xv : Value) (n : Nat) : Prop := (xv = .slice none 0 0 ∧ n = 0) ∨ ∃ (g c : Nat) (cs : Array Value), xv = .slice (some ⟨g, 0, none⟩) n c ∧ (lo ≤ g ∧ g < hi) ∧ Blk w g 120 cs ∧ n * 2 ≤ cs.size
theorem RowW.of {w : World} {lo hi : Nat} {xv : Value} {u : List Cell} (h : CellsIn w lo hi xv u) : RowW w lo hi xv u.length := by
  rcases OI.cases h with ⟨rfl, h0⟩ | ⟨g, c, cs, rfl, h1, h2, h3, h4, hb, h5, h6⟩
  · exact .inl ⟨by rfl, h0⟩
  · exact .inr ⟨g, c, cs, rfl, ⟨h1, h2⟩, hb, by rw [h5]; exact Nat.mul_le_mul_right _ h3⟩
theorem RowW.step {w w' : World} {lo hi g n : Nat} {xv : Value} {cs cs' : Array Value} (h : RowW w lo hi xv n) (hg : w.grownBy w' (some g)) (hb : Blk w g 120 cs) (hb' : Blk w' g 120 cs') (hs : cs'.size = cs.size) : RowW w' lo hi xv n := by
  rcases h with h | ⟨g2, c, cs2, rfl, h1, h2, h3⟩
  · exact .inl h
  · by_cases e : g2 = g
    · subst e
      have : cs2 = cs := by
        have := h2.symm.trans hb
        injection this with this
        injection this
      subst this
      exact .inr ⟨g2, c, cs', rfl, h1, hb', by omega⟩
    · exact .inr ⟨g2, c, cs2, rfl, h1, h2.grown hg (fun h => e (Option.some.inj h)), h3⟩
end Go.Proofs.YtfmkmjebkmimkaaGreatDoor

namespace Go.Proofs.YtfmkmjebkmimkaaGreatDoor
open Go.RowKit

def CellSS.mkRow (k : Int) (l : List (List Cell)) (j : Nat) (u : List Cell) : List Cell := Cells.mk (k + 2 * (CellSS.numTo l j : Nat)) u
def CellSS.mk (k : Int) (l : List (List Cell)) : List (List Cell) := l.mapIdx (CellSS.mkRow k l)
theorem CellSS.mk_length {k : Int} {l : List (List Cell)} : (CellSS.mk k l).length = l.length := by simp [CellSS.mk]
theorem CellSS.mk_at {k : Int} {l : List (List Cell)} {j : Nat} {u : List Cell} (h : l[j]? = some u) : (CellSS.mk k l)[j]? = some (CellSS.mkRow k l j u) := by simp [CellSS.mk, h]
/-- a list of shapes that lie apart from each other, in memory from lo to hi -/
def ShpsIn (w : World) (lo hi : Nat) (v : Value) (M : List (List Cell)) : Prop := ∃ vs : List Value, vs.length = M.length ∧ OI w lo hi 49 1 v M.length vs ∧
  (∀ (j : Nat) (x : Value) (u : List Cell), vs[j]? = some x → M[j]? = some u → OI w lo hi 120 2 x u.length (cc u)) ∧ vs.Pairwise fun p q => ∀ b, p.ownBlock = some b → q.ownBlock ≠ some b
theorem ShpsIn.keep {w w' : World} {lo hi : Nat} {v : Value} {M : List (List Cell)} (h : ShpsIn w lo hi v M) (hs : SameIn lo hi w w') : ShpsIn w' lo hi v M := by
  obtain ⟨vs, h1, h2, h3, h4⟩ := h
  exact ⟨vs, h1, h2.keep hs, fun j x u hx hu => (h3 j x u hx hu).keep hs, h4⟩
theorem ShpsIn.rd {w : World} {lo hi : Nat} {v : Value} {M : List (List Cell)} (h : ShpsIn w lo hi v M) : CellSSRd w lo hi v M := by
  obtain ⟨vs, h1, h2, h3, h4⟩ := h
  refine ⟨vs, h2.sr, h1, fun i u hu => ?_⟩
  have hi : i < vs.length := by rw [h1]; exact (List.getElem?_eq_some_iff.1 hu).1
  exact ⟨vs[i], List.getElem?_eq_getElem hi, (h3 i _ u (List.getElem?_eq_getElem hi) hu).sr⟩
/-- read only -/
structure SpIn (w : World) (lo hi : Nat) (v : Value) (M : List (List Cell)) : Prop where
  rd : CellSSRd w lo hi v M
theorem SpIn.keep {w w' : World} {lo hi : Nat} {v : Value} {M : List (List Cell)} (h : SpIn w lo hi v M) (hs : SameIn lo hi w w') : SpIn w' lo hi v M := ⟨h.rd.keep hs⟩
set_option maxRecDepth 100000 in
theorem eqShps_c {v v' : Value} {a : List (List Cell)} (w : World) (h : CellSSRd w 0 w.heap.size v a) (h' : CellSSRd w 0 w.heap.size v' a) :
    Calls Tryz.prog 14 #[v, v'] w fun e w' => e = .returned (.bool true) ∧ Below w.heap.size w w' := eqCellSS_c w h h'
theorem oi_block {w w' : World} {lo hi sz n : Nat} {e : TypeId} {x : Value} {xs : List Value} (h : OI w lo hi e sz x n xs) (hs : ∀ b, x.ownBlock = some b → w'.heap[b]? = w.heap[b]?) : OI w' lo hi e sz x n xs := ⟨own_keep h.1 hs, h.2⟩
/-- marked up to k -/
def mkUp (k0 : Int) (M : List (List Cell)) (k : Nat) : List (List Cell) := M.mapIdx fun j u => if j < k then CellSS.mkRow k0 M j u else u
theorem mkUp_at {k0 : Int} {M : List (List Cell)} {k j : Nat} {u : List Cell} (h : M[j]? = some u) : (mkUp k0 M k)[j]? = some (if j < k then CellSS.mkRow k0 M j u else u) := by simp [mkUp, h]
theorem mkUp_len {k0 : Int} {M : List (List Cell)} {k : Nat} : (mkUp k0 M k).length = M.length := by simp [mkUp]
theorem mkUp_end {k0 : Int} {M : List (List Cell)} : mkUp k0 M M.length = CellSS.mk k0 M := by
  apply List.ext_getElem?
  intro j
  cases h : M[j]? with
  | none =>
    have := List.getElem?_eq_none_iff.1 h
    rw [List.getElem?_eq_none (by rw [mkUp_len]; exact this), List.getElem?_eq_none (by rw [CellSS.mk_length]; exact this)]
  | some u => rw [mkUp_at h, CellSS.mk_at h, if_pos (List.getElem?_eq_some_iff.1 h).1]
theorem mkUp_zero {k0 : Int} {M : List (List Cell)} : mkUp k0 M 0 = M := by
  apply List.ext_getElem?
  intro j
  cases h : M[j]? with
  | none =>
    have := List.getElem?_eq_none_iff.1 h
    rw [List.getElem?_eq_none (by rw [mkUp_len]; exact this)]
  | some u => rw [mkUp_at h, if_neg (Nat.not_lt_zero j)]
end Go.Proofs.YtfmkmjebkmimkaaGreatDoor
