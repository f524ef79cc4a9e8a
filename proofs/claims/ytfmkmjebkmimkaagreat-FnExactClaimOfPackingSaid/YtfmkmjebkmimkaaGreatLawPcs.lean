
/-
  The walks over lists of shapes: the law's helpers. The walks over lists of shapes that a function gives: the law's helpers.
-/
import Derived.Test.YtfmkmjebkmimkaaGreatProg
import Derived.Test.YtfmkmjebkmimkaaGreatEqV
import Derived.Test.YtfmkmjebkmimkaaGreatLawCells
import Derived.Test.YtfmkmjebkmimkaaGreatLawInts
import Derived.Test.YtfmkmjebkmimkaaGreatPairR
namespace Go.Proofs.YtfmkmjebkmimkaaGreat
open Go.RowKit

def CellSS.numTo (l : List (List Cell)) (k : Nat) : Nat := ((l.take k).map List.length).sum
def CellSS.num (l : List (List Cell)) : Nat := (l.map List.length).sum
def CellSS.tot (l : List (List Cell)) : Nat := l.length + CellSS.num l
theorem CellSS.numTo_succ {l : List (List Cell)} {k : Nat} {u : List Cell} (h : l[k]? = some u) : CellSS.numTo l (k + 1) = CellSS.numTo l k + u.length := by
  unfold CellSS.numTo
  rw [List.take_add_one, h]
  simp
theorem CellSS.numTo_end {l : List (List Cell)} : CellSS.numTo l l.length = CellSS.num l := by unfold CellSS.numTo CellSS.num; rw [List.take_length]
theorem CellSS.numTo_le {l : List (List Cell)} {k : Nat} : CellSS.numTo l k ≤ CellSS.num l := by
  have h : CellSS.num l = CellSS.numTo l k + ((l.drop k).map List.length).sum := by
    unfold CellSS.numTo CellSS.num
    rw [← List.sum_append, ← List.map_append, List.take_append_drop]
  omega
theorem CellSS.tot_le {l : List (List Cell)} {n : Nat} (h : CellSS.tot l ≤ n) : l.length ≤ n ∧ ∀ u ∈ l, u.length ≤ n := by
  unfold CellSS.tot at h
  refine ⟨by omega, fun u hu => ?_⟩
  obtain ⟨k, hk⟩ := List.getElem?_of_mem hu
  have h1 := CellSS.numTo_succ hk
  have h2 := CellSS.numTo_le (l := l) (k := k + 1)
  omega
/-- shapes, each in its own memory, that may be written -/
structure CellSSIn (w : World) (lo hi : Nat) (v : Value) (l : List (List Cell)) : Prop where
  rd : CellSSRd w lo hi v l
  wr : ∃ (G : Nat) (cs : Array Value) (c : Nat), v = .slice (some ⟨G, 0, none⟩) l.length c ∧ (lo ≤ G ∧ G < hi) ∧ Blk w G 55 cs ∧ ∀ (j : Nat) (u : List Cell), l[j]? = some u → ∃ x, cs[j]? = some x ∧ CellsIn w lo hi x u
theorem CellSSIn.keep {w w' : World} {lo hi : Nat} {v : Value} {l : List (List Cell)} (h : CellSSIn w lo hi v l) (hs : SameIn lo hi w w') : CellSSIn w' lo hi v l := by
  obtain ⟨h1, G, cs, c, e, hG, hb, hx⟩ := h
  refine ⟨h1.keep hs, G, cs, c, e, hG, (hs G hG.1 hG.2).trans hb, fun j u hu => ?_⟩
  obtain ⟨x, h2, h3⟩ := hx j u hu
  exact ⟨x, h2, CellsIn.keep h3 hs⟩
/-- what was there is of no more concern -/
def Gone (_w : World) (lo hi : Nat) : Prop := lo = lo ∧ hi = hi
theorem Gone.keep {w w' : World} {lo hi : Nat} (_h : Gone w lo hi) (_hs : SameIn lo hi w w') : Gone w' lo hi := ⟨rfl, rfl⟩
set_option maxRecDepth 100000 in
theorem infoSlice : (Tryz.prog.info? 55).map (fun i => (i.zero, i.size, i.bytes)) = some (some (.slice none 0 0), 1, 24) := by kernel_rfl
/-- the first k places are laid -/
def LaidW (wr : World) (lo k : Nat) (cs : Array Value) (l : List (List Cell)) : Prop := ∀ (j : Nat) (u : List Cell), j < k → l[j]? = some u → ∃ x, cs[j]? = some x ∧ CellsIn wr lo wr.heap.size x u
theorem LaidW.step {wr w' : World} {lo k : Nat} {cs : Array Value} {l : List (List Cell)} (h : LaidW wr lo k cs l) (hs : SameIn lo wr.heap.size wr w') (hz : wr.heap.size ≤ w'.heap.size) : LaidW w' lo k cs l :=
  fun j u hj hu => by obtain ⟨x, h1, h2⟩ := h j u hj hu; exact ⟨x, h1, OI.base (CellsIn.keep h2 hs) (Nat.le_refl _) hz⟩
set_option maxRecDepth 100000 in
set_option maxHeartbeats 800000 in
theorem toCellSS_c {v : Value} {l : List (List Cell)} (w : World) (h : CellSSRd w 0 w.heap.size v l) (htt : CellSS.tot l ≤ 1048576) :
    Calls Tryz.prog 8 #[v] w fun e w' => ∃ v', e = .returned v' ∧ CellSSIn w' w.heap.size w'.heap.size v' l ∧ Below w.heap.size w w' := by
  obtain ⟨hn, hnn⟩ := CellSS.tot_le htt
  clear htt
  obtain ⟨vs, ⟨A, c, rfl, hm, hr⟩, hvs⟩ := h
  obtain ⟨i0, hi, hz0, hz1, hz2⟩ := info_parts infoSlice
  obtain ⟨n, hx⟩ : ∃ n, n = l.length := ⟨_, rfl⟩
  rw [← hx] at hn hr
  have hmk := fun W => run_make_rowN (P := Tryz.prog) 29 55 i0 _ Tryz.underlying29 hi hz0 .i64 .i64 n n (Nat.le_refl _) (by rw [hz2]; omega) (by omega) W
  rw [hz1] at hmk
  rw [← hx]
  have Hll := Lib.hid hx
  clear hx hm
  go_enter Tryz.func8, Tryz.ntmps8
  go_wp2
  clear hmk
  go_loopw [4] (fun i wr => ∃ k : Nat, k ≤ n ∧ i = .int .i64 k ∧ (∃ cs, Blk wr w.heap.size 55 cs ∧ cs.size = n * 1 ∧ LaidW wr (w.heap.size + 1) k cs l) ∧ Below w.heap.size w wr) (fun i _ => n - (intOf i).toNat)
  case atStart => exact ⟨0, Nat.zero_le _, rfl, ⟨_, Blk.new _ _ _, by simp [size_madeCells], fun j u hj => absurd hj (by omega)⟩, (Below.refl _ _).alloc (Nat.le_refl _) _⟩
  case round =>
    obtain ⟨k, hk, rfl, ⟨cs, hblk, hcs, htk⟩, hbel⟩ := hrel
    by_cases hlt : k < n
    · obtain ⟨b, off, u, x, rfl, _, hb, hla, q1, hx⟩ := (hr.below hbel (Nat.le_refl _)).slot (hvs.keep (SameIn.of_below hbel (Nat.le_refl _))) Hll.out hlt
      have hul := hnn u (List.mem_of_getElem? hla)
      have hgs := hblk.lt
      replace hx := hx.more (Nat.le_refl _) hbel.size
      have HB := Lib.hid hblk
      have HLA := Lib.hid hla
      have HC := Lib.hid hcs
      have HT := Lib.hid htk
      clear hr hblk hvs hnn hla hcs htk
      go_wp2_with fail
      refine (toCellS_c (x := u) wr hx hul).mono ?_
      rintro e w1 ⟨v1, rfl, o1, hb1⟩
      obtain ⟨A1, c1, rfl, _, _⟩ := o1.rd
      have hblk1 := HB.out.below hb1 HB.out.lt
      have hlt1 := hblk1.lt
      obtain ⟨u0, g0⟩ : ∃ u, w1.cell? ⟨w.heap.size, k, none⟩ = some u := ⟨_, by rw [hblk1.cell, Array.getElem?_eq_getElem (by have := HC.out; omega)]⟩
      have f0 := hblk1.frozen k
      have HB1 := Lib.hid hblk1
      have HO := Lib.hid o1
      clear hblk1 HB hx o1
      go_wp2
      go_roundw
      case rel =>
        have hs1 := (HT.out.step (SameIn.of_below hb1 (Nat.le_refl _)) hb1.size)
        have hsame : SameIn (w.heap.size + 1) w1.heap.size w1 (w1.setCell ⟨w.heap.size, k, none⟩ (.slice A1 u.length c1)) := SameIn.setCell (p := ⟨w.heap.size, k, none⟩) (.inl (Nat.lt_succ_self w.heap.size)) (.slice A1 u.length c1)
        have hs2 := hs1.step hsame (by simp [World.setCell])
        refine ⟨k + 1, by omega, by go_num, ⟨cs.setIfInBounds k (.slice A1 u.length c1), HB1.out.set_ k (.slice A1 u.length c1), by simpa using HC.out, fun j d hj hd => ?_⟩, (hbel.trans (hb1.mono hbel.size)).setCell (Nat.le_refl _) (.slice A1 u.length c1)⟩
        by_cases e : j = k
        · subst e
          rw [HLA.out] at hd
          injection hd with hd
          subst hd
          refine ⟨(.slice A1 u.length c1), by rw [Array.getElem?_setIfInBounds]; have := HC.out; simp; omega, ?_⟩
          exact OI.base (CellsIn.keep (OI.base HO.out (by omega) (Nat.le_refl _)) hsame) (Nat.le_refl _) (by simp [World.setCell])
        · obtain ⟨x, h1, h2⟩ := hs2 j d (by omega) hd
          exact ⟨x, by rw [Array.getElem?_setIfInBounds, if_neg (fun h => e h.symm)]; exact h1, h2⟩
      case measure => simp [intOf]; omega
    · go_wp2
      go_ret
      have hkn : k = n := by omega
      subst hkn
      have hkl := Hll.out
      have hrd : CellSSRd wr w.heap.size wr.heap.size (.slice (some ⟨w.heap.size, 0, none⟩) k k) l := ⟨cs.toList, ⟨some ⟨w.heap.size, 0, none⟩, k, by rw [← hkl], by rw [← Hll.out]; unfold maxLen; omega, by rw [← Hll.out]; simpa using hcs, fun _ => ⟨w.heap.size, 0, rfl, Nat.le_refl _, hblk.lt, fun j u hu => by rw [hblk.cell]; simpa using hu⟩⟩, by rw [← Hll.out]; simpa using hcs, fun i u hu => by
        obtain ⟨x, h1, h2⟩ := htk i u (by have := (List.getElem?_eq_some_iff.1 hu).1; have := Hll.out; omega) hu
        exact ⟨x, by simpa using h1, (CellsIn.rd h2).more (by omega) (Nat.le_refl _)⟩⟩
      refine ⟨_, rfl, ⟨hrd, w.heap.size, cs, k, by rw [← hkl]; rfl, ⟨Nat.le_refl _, hblk.lt⟩, hblk, fun i u hu => ?_⟩, hbel⟩
      obtain ⟨x, h1, h2⟩ := htk i u (by have := (List.getElem?_eq_some_iff.1 hu).1; have := Hll.out; omega) hu
      exact ⟨x, h1, OI.base h2 (by omega) (Nat.le_refl _)⟩
set_option maxRecDepth 100000 in
set_option maxHeartbeats 800000 in
theorem eqCellSS_c {v v' : Value} {a : List (List Cell)} (w : World) (h : CellSSRd w 0 w.heap.size v a) (h' : CellSSRd w 0 w.heap.size v' a) :
    Calls Tryz.prog 12 #[v, v'] w fun e w' => e = .returned (.bool true) ∧ Below w.heap.size w w' := by
  obtain ⟨vs, ⟨A, c, rfl, hm, hr⟩, hvs⟩ := h
  obtain ⟨vs', ⟨A', c', rfl, hm', hr'⟩, hvs'⟩ := h'
  unfold maxLen at hm
  go_enter Tryz.func12, Tryz.ntmps12
  go_wp2
  go_loopw [5] (fun i wr => ∃ k : Nat, k ≤ a.length ∧ i = .int .i64 k ∧ Below w.heap.size w wr) (fun i _ => a.length - (intOf i).toNat)
  case atStart => exact ⟨0, Nat.zero_le _, rfl, Below.refl _ _⟩
  case round =>
    obtain ⟨k, hk, rfl, hbel⟩ := hrel
    by_cases hlt : k < a.length
    · obtain ⟨bb, off, x, vx, rfl, _, hb, hla, q1, hx⟩ := (hr.below hbel (Nat.le_refl _)).slot (hvs.keep (SameIn.of_below hbel (Nat.le_refl _))) rfl hlt
      obtain ⟨bb', off', y, vy, rfl, _, hb', hla', q1', hy⟩ := (hr'.below hbel (Nat.le_refl _)).slot (hvs'.keep (SameIn.of_below hbel (Nat.le_refl _))) rfl hlt
      obtain rfl : x = y := by rw [hla] at hla'; injection hla'
      replace hx := hx.more (Nat.le_refl _) hbel.size
      replace hy := hy.more (Nat.le_refl _) hbel.size
      clear hr hr' hla hla' hvs hvs'
      go_wp2_with fail
      go_still_tail 8, (by kernel_rfl)
      change wpList _ _ _ _ _ wr.drew
      have hbel2 := below_drew hbel
      clear q1 q1'
      go_wp2_with fail
      refine (eqCellS_c (x := x) wr.drew hx hy).mono ?_
      rintro e w2 ⟨rfl, b2⟩
      have hbel3 := hbel2.trans (b2.mono hbel2.size)
      clear hbel2 b2 hx hy
      go_wp2
      go_roundw
      case rel => exact ⟨k + 1, by omega, by go_num, hbel3⟩
      case measure => simp [intOf]; omega
    · go_wp2
      go_ret
      exact ⟨rfl, hbel⟩
set_option maxRecDepth 100000 in
set_option maxHeartbeats 800000 in
theorem szCellSS_c {v : Value} {x : List (List Cell)} (l : Int) (w : World) (h : CellSSRd w 0 w.heap.size v x) (h1 : 0 ≤ l) (h2 : l ≤ 1048576):
    Calls Tryz.prog 5 #[v, .int .i64 l] w fun e w' => e = .returned (.int .i64 (if l < CellSS.tot x then -1 else l - CellSS.tot x)) ∧ w = w' := by
  obtain ⟨vs, ⟨A, c, rfl, hm, hr⟩, hvs⟩ := h
  unfold maxLen at hm
  obtain ⟨T, hT⟩ : ∃ T, T = CellSS.tot x := ⟨_, rfl⟩
  have hTn : x.length ≤ T := by rw [hT]; unfold CellSS.tot; omega
  obtain ⟨R, hR⟩ : ∃ R : Int, R = if l < (T : Int) then -1 else l - T := ⟨_, rfl⟩
  rw [← hT, ← hR]
  have HT := Lib.hid hT
  have HR := Lib.hid hR
  clear hT hR
  by_cases hn : l < x.length
  · obtain rfl : R = -1 := by rw [HR.out, if_pos (by omega)]
    go_enter Tryz.func5, Tryz.ntmps5
    go_wp2
    go_ret
    exact ⟨rfl, rfl⟩
  · go_enter Tryz.func5, Tryz.ntmps5
    go_wp2
    go_loopw [1, 5] (fun lv i wr => ∃ (k : Nat) (m : Int), k ≤ x.length ∧ i = .int .i64 k ∧ lv = .int .i64 m ∧ 0 ≤ m ∧ m ≤ l ∧ wr = w ∧ Hid (m = l - x.length - CellSS.numTo x k)) (fun _ i _ => x.length - (intOf i).toNat)
    case atStart => exact ⟨0, _, Nat.zero_le _, rfl, rfl, by omega, by omega, rfl, Lib.hid (by simp [CellSS.numTo])⟩
    case round =>
      obtain ⟨k, m, hk, rfl, rfl, hm0, hml, rfl, HM⟩ := hrel
      by_cases hlt : k < x.length
      · obtain ⟨b, off, u, xv, rfl, _, hb, hla, q1, hx⟩ := hr.slot hvs rfl hlt
        have HS := Lib.hid (CellSS.numTo_succ hla)
        clear hr hvs hla
        go_wp2_with fail
        refine (szCellS_c (x := u) m wr hx hm0 (by omega)).mono ?_
        rintro e w' ⟨rfl, rfl⟩
        by_cases hlu : m < u.length
        · obtain rfl : R = -1 := by
            rw [HR.out, if_pos]
            have h3 := HS.out
            have h4 := CellSS.numTo_le (l := x) (k := k + 1)
            have h5 := HM.out
            have h6 := HT.out
            unfold CellSS.tot at h6
            omega
          rw [if_pos hlu]
          go_wp2
          go_ret
          exact ⟨rfl, rfl⟩
        · rw [if_neg hlu]
          obtain ⟨m', hm'⟩ : ∃ m' : Int, m' = m - u.length := ⟨_, rfl⟩
          rw [← hm']
          have hm0' : 0 ≤ m' := by omega
          have hml' : m' ≤ l := by omega
          have HM2 : Hid (m' = l - x.length - CellSS.numTo x (k + 1)) := Lib.hid (by have h3 := HS.out; have h5 := HM.out; omega)
          clear hm' hlu q1 hx
          go_wp2
          go_roundw
          case rel => exact ⟨k + 1, m', by omega, by go_num, (by first | rfl | trivial | go_num), hm0', hml', (by first | rfl | trivial), HM2⟩
          case measure => simp [intOf]; omega
      · obtain rfl : k = x.length := by omega
        obtain rfl : R = m := by
          have h5 := HM.out
          rw [CellSS.numTo_end] at h5
          have h6 := HT.out
          unfold CellSS.tot at h6
          rw [HR.out, if_neg (by omega)]
          omega
        go_wp2
        go_ret
        exact ⟨rfl, rfl⟩
/-- a row that may be written -/
def RowW (w : World) (lo hi : Nat) (xv : Value) (n : Nat) : Prop := (xv = .slice none 0 0 ∧ n = 0) ∨ ∃ (g c : Nat) (cs : Array Value), xv = .slice (some ⟨g, 0, none⟩) n c ∧ (lo ≤ g ∧ g < hi) ∧ Blk w g 71 cs ∧ n * 2 ≤ cs.size
theorem RowW.of {w : World} {lo hi : Nat} {xv : Value} {u : List Cell} (h : CellsIn w lo hi xv u) : RowW w lo hi xv u.length := by
  rcases OI.cases h with ⟨rfl, h0⟩ | ⟨g, c, cs, rfl, h1, h2, h3, h4, hb, h5, h6⟩
  · exact .inl ⟨by rfl, h0⟩
  · exact .inr ⟨g, c, cs, rfl, ⟨h1, h2⟩, hb, by rw [h5]; exact Nat.mul_le_mul_right _ h3⟩
theorem RowW.step {w w' : World} {lo hi g n : Nat} {xv : Value} {cs cs' : Array Value} (h : RowW w lo hi xv n) (hg : w.grownBy w' (some g)) (hb : Blk w g 71 cs) (hb' : Blk w' g 71 cs') (hs : cs'.size = cs.size) : RowW w' lo hi xv n := by
  rcases h with h | ⟨g2, c, cs2, rfl, h1, h2, h3⟩
  · exact .inl h
  · by_cases e : g2 = g
    · subst e
      have : cs2 = cs := by
        have := h2.symm.trans hb
        injection this with this
        injection this
      subst this
      exact .inr ⟨g2, c, cs', rfl, h1, hb', by omega⟩
    · exact .inr ⟨g2, c, cs2, rfl, h1, h2.grown hg (fun h => e (Option.some.inj h)), h3⟩
set_option maxRecDepth 100000 in
theorem markRow {lo hi n : Nat} {xv : Value} (k0 : Int) (w : World) (hn : n ≤ 1048576) (hk0 : 0 ≤ k0) (hk1 : k0 ≤ 1000000000000) (h : RowW w lo hi xv n) :
    Calls Tryz.prog 34 #[xv, .int .i64 k0] w fun e w' => e = .returned (.int .i64 (k0 + 2 * (n : Int))) ∧ Out lo hi w w' ∧ (∀ (G : Nat) (cs : Array Value), Blk w G 55 cs → Blk w' G 55 cs) ∧ ∀ (y : Value) (m : Nat), RowW w lo hi y m → RowW w' lo hi y m := by
  rcases h with ⟨rfl, rfl⟩ | ⟨g, c, cs, rfl, h1, hb, h3⟩
  · refine (markCellS_nil k0 w).mono ?_
    rintro e w' ⟨rfl, rfl⟩
    exact ⟨by simp, Out.refl _, fun _ _ h => h, fun _ _ h => h⟩
  · refine (markCellS_any g n c k0 (List.replicate n ⟨0, 0⟩) cs w (List.length_replicate ..) hn hk0 hk1 hb h3).mono ?_
    rintro e w' ⟨rfl, hg, cs', hb', hs', _⟩
    refine ⟨rfl, Out.of_only hg h1.1 h1.2, fun G D hG => ?_, fun y m hy => hy.step hg hb hb' hs'⟩
    refine hG.grown hg (fun e => ?_)
    injection e with e
    subst e
    have := hG.symm.trans hb
    injection this with this
    injection this with _ this
    exact absurd this (by decide)
set_option maxRecDepth 100000 in
set_option maxHeartbeats 800000 in
theorem markCellSS_c {lo hi : Nat} {v : Value} {x : List (List Cell)} (k0 : Int) (w : World) (hn : CellSS.tot x ≤ 1048576) (hk0 : 0 ≤ k0) (hk1 : k0 ≤ 10000000000) (_hw : hi ≤ w.heap.size) (h : CellSSIn w lo hi v x) :
    Calls Tryz.prog 14 #[v, .int .i64 k0] w fun e w' => e = .returned (.int .i64 (k0 + 2 * (CellSS.num x : Int))) ∧ Gone w' lo hi ∧ Out lo hi w w' := by
  obtain ⟨_, G, cs, c, rfl, hG, hb, hx⟩ := h
  have HX : Hid (∀ (j : Nat) (u : List Cell), x[j]? = some u → ∃ xv, cs[j]? = some xv ∧ RowW w lo hi xv u.length) := Lib.hid fun j u hu => by
    obtain ⟨xv, h1, h2⟩ := hx j u hu
    exact ⟨xv, h1, RowW.of h2⟩
  obtain ⟨n, hn2⟩ : ∃ n, n = x.length := ⟨_, rfl⟩
  have hnum : CellSS.num x ≤ 1048576 := by unfold CellSS.tot at hn; omega
  have HUL := Lib.hid (CellSS.tot_le hn).2
  rw [← hn2]
  have HN := Lib.hid hn2
  obtain ⟨R, hR⟩ : ∃ R : Nat, R = CellSS.num x := ⟨_, rfl⟩
  rw [← hR] at hnum ⊢
  have HR := Lib.hid hR
  have hn3 : n ≤ 1048576 := by unfold CellSS.tot at hn; omega
  clear hx hn hn2 hR
  go_enter Tryz.func14, Tryz.ntmps14
  go_wp2
  go_loopw [1, 5] (fun kk i wr => ∃ k q : Nat, k ≤ n ∧ i = .int .i64 k ∧ kk = .int .i64 (k0 + 2 * (q : Int)) ∧ q ≤ R ∧ Hid (q = CellSS.numTo x k) ∧ Blk wr G 55 cs ∧ Out lo hi w wr ∧ Hid (∀ (j : Nat) (u : List Cell), x[j]? = some u → ∃ xv, cs[j]? = some xv ∧ RowW wr lo hi xv u.length)) (fun _ i _ => n - (intOf i).toNat)
  case atStart => exact ⟨0, 0, Nat.zero_le _, rfl, by simp, Nat.zero_le _, Lib.hid rfl, hb, Out.refl _, HX⟩
  case round =>
    clear hb HX
    obtain ⟨k, q, hk, rfl, rfl, hqR, HQ, hb, ho, HX⟩ := hrel
    by_cases hlt : k < n
    · obtain ⟨u, hu⟩ : ∃ u, x[k]? = some u := ⟨x[k]'(by rw [← HN.out]; exact hlt), List.getElem?_eq_getElem _⟩
      obtain ⟨xv, hxv, hrow⟩ := HX.out k u hu
      have q1 : wr.cell? ⟨G, k, none⟩ = some xv := by rw [hb.cell]; exact hxv
      have HC := Lib.hid (markRow (k0 + 2 * (q : Int)) wr (HUL.out u (List.mem_of_getElem? hu)) (by omega) (by omega) hrow)
      have hsh : ∃ A c', xv = .slice A u.length c' := by
        rcases hrow with ⟨rfl, h0⟩ | ⟨g, c', _, rfl, _⟩
        · exact ⟨none, 0, by rw [h0]⟩
        · exact ⟨_, c', rfl⟩
      obtain ⟨Ax, cx, rfl⟩ := hsh
      obtain ⟨q2, hq2⟩ : ∃ q2, q2 = CellSS.numTo x (k + 1) := ⟨_, rfl⟩
      have hqq : q2 = q + u.length := by rw [hq2, CellSS.numTo_succ hu, HQ.out]
      have hq2R : q2 ≤ R := by rw [hq2, HR.out]; exact CellSS.numTo_le
      have HQ2 := Lib.hid hq2
      have HB := Lib.hid hb
      have hval : k0 + 2 * (q : Int) + 2 * (u.length : Int) = k0 + 2 * (q2 : Int) := by omega
      rw [hval] at HC
      clear hu hxv hrow hq2 hqq hval hb
      go_wp2_with fail
      refine (HC.out).mono ?_
      rintro e w3 ⟨rfl, o3, hG3, hr3⟩
      have HX3 : Hid (∀ (j : Nat) (u : List Cell), x[j]? = some u → ∃ xv, cs[j]? = some xv ∧ RowW w3 lo hi xv u.length) := Lib.hid fun j u hu => by
        obtain ⟨xv, h1, h2⟩ := HX.out j u hu
        exact ⟨xv, h1, hr3 _ _ h2⟩
      have hb3 := hG3 _ _ HB.out
      have ho3 := ho.trans o3
      clear hG3 hr3 o3 HC q1
      go_wp2
      go_roundw
      case rel => exact ⟨k + 1, q2, by omega, by go_num, rfl, hq2R, HQ2, hb3, ho3, HX3⟩
      case measure => simp [intOf]; omega
    · obtain rfl : k = n := by omega
      obtain rfl : q = R := by rw [HQ.out, HN.out, CellSS.numTo_end, HR.out]
      go_wp2
      go_ret
      exact ⟨rfl, ⟨rfl, rfl⟩, ho⟩
end Go.Proofs.YtfmkmjebkmimkaaGreat

namespace Go.Proofs.YtfmkmjebkmimkaaGreat
open Go.RowKit

def CellSS.mkRow (k : Int) (l : List (List Cell)) (j : Nat) (u : List Cell) : List Cell := Cells.mk (k + 2 * (CellSS.numTo l j : Nat)) u
def CellSS.mk (k : Int) (l : List (List Cell)) : List (List Cell) := l.mapIdx (CellSS.mkRow k l)
theorem CellSS.mk_length {k : Int} {l : List (List Cell)} : (CellSS.mk k l).length = l.length := by simp [CellSS.mk]
theorem CellSS.mk_at {k : Int} {l : List (List Cell)} {j : Nat} {u : List Cell} (h : l[j]? = some u) : (CellSS.mk k l)[j]? = some (CellSS.mkRow k l j u) := by simp [CellSS.mk, h]
/-- a list of shapes that lie apart from each other, in memory from lo to hi -/
def ShpsIn (w : World) (lo hi : Nat) (v : Value) (M : List (List Cell)) : Prop := ∃ vs : List Value, vs.length = M.length ∧ OI w lo hi 55 1 v M.length vs ∧
  (∀ (j : Nat) (x : Value) (u : List Cell), vs[j]? = some x → M[j]? = some u → OI w lo hi 71 2 x u.length (cc u)) ∧ vs.Pairwise fun p q => ∀ b, p.ownBlock = some b → q.ownBlock ≠ some b
theorem ShpsIn.keep {w w' : World} {lo hi : Nat} {v : Value} {M : List (List Cell)} (h : ShpsIn w lo hi v M) (hs : SameIn lo hi w w') : ShpsIn w' lo hi v M := by
  obtain ⟨vs, h1, h2, h3, h4⟩ := h
  exact ⟨vs, h1, h2.keep hs, fun j x u hx hu => (h3 j x u hx hu).keep hs, h4⟩
theorem ShpsIn.rd {w : World} {lo hi : Nat} {v : Value} {M : List (List Cell)} (h : ShpsIn w lo hi v M) : CellSSRd w lo hi v M := by
  obtain ⟨vs, h1, h2, h3, h4⟩ := h
  refine ⟨vs, h2.sr, h1, fun i u hu => ?_⟩
  have hi : i < vs.length := by rw [h1]; exact (List.getElem?_eq_some_iff.1 hu).1
  exact ⟨vs[i], List.getElem?_eq_getElem hi, (h3 i _ u (List.getElem?_eq_getElem hi) hu).sr⟩
/-- read only -/
structure SpIn (w : World) (lo hi : Nat) (v : Value) (M : List (List Cell)) : Prop where
  rd : CellSSRd w lo hi v M
theorem SpIn.keep {w w' : World} {lo hi : Nat} {v : Value} {M : List (List Cell)} (h : SpIn w lo hi v M) (hs : SameIn lo hi w w') : SpIn w' lo hi v M := ⟨h.rd.keep hs⟩
set_option maxRecDepth 100000 in
theorem eqShps_c {v v' : Value} {a : List (List Cell)} (w : World) (h : CellSSRd w 0 w.heap.size v a) (h' : CellSSRd w 0 w.heap.size v' a) :
    Calls Tryz.prog 12 #[v, v'] w fun e w' => e = .returned (.bool true) ∧ Below w.heap.size w w' := eqCellSS_c w h h'
set_option maxRecDepth 100000 in
theorem markRow2 {lo hi : Nat} {x : Value} {u : List Cell} (k0 : Int) (w : World) (hn : u.length ≤ 1048576) (hk0 : 0 ≤ k0) (hk1 : k0 ≤ 1000000000000) (h : OI w lo hi 71 2 x u.length (cc u)) :
    Calls Tryz.prog 34 #[x, .int .i64 k0] w fun e w' => e = .returned (.int .i64 (k0 + 2 * (u.length : Int))) ∧ OI w' lo hi 71 2 x (Cells.mk k0 u).length (cc (Cells.mk k0 u)) ∧ Out lo hi w w' ∧
      (∀ b, b < w.heap.size → x.ownBlock ≠ some b → w'.heap[b]? = w.heap[b]?) ∧ (∀ (G : Nat) (cs : Array Value), Blk w G 55 cs → Blk w' G 55 cs) := by
  rcases OI.cases h with ⟨rfl, h0⟩ | ⟨g, c, cs, rfl, h1, h2, h3, h4, hb, h5, h6⟩
  · obtain rfl := List.eq_nil_of_length_eq_zero h0
    refine (markCellS_nil k0 w).mono ?_
    rintro e w' ⟨rfl, rfl⟩
    exact ⟨by simp, OI.nil, Out.refl _, fun _ _ _ => rfl, fun _ _ h => h⟩
  · refine (markCellS_any g _ c k0 u cs w rfl hn hk0 hk1 hb (by rw [h5]; omega)).mono ?_
    rintro e w' ⟨rfl, hg, cs', hb', hs', ht'⟩
    refine ⟨rfl, ?_, Out.of_only hg h1 h2, fun b hb1 hb2 => hg.block b hb1 (fun e => hb2 e.symm), fun G D hG => ?_⟩
    · rw [Cells.mk_length]
      exact OI.of_blk hb' h1 h2 h3 h4 (by rw [hs', h5]) ht'
    · refine hG.grown hg (fun e => ?_)
      injection e with e
      subst e
      have := hG.symm.trans hb
      injection this with this
      injection this with _ this
      exact absurd this (by decide)
theorem oi_block {w w' : World} {lo hi sz n : Nat} {e : TypeId} {x : Value} {xs : List Value} (h : OI w lo hi e sz x n xs) (hs : ∀ b, x.ownBlock = some b → w'.heap[b]? = w.heap[b]?) : OI w' lo hi e sz x n xs := ⟨own_keep h.1 hs, h.2⟩
/-- marked up to k -/
def mkUp (k0 : Int) (M : List (List Cell)) (k : Nat) : List (List Cell) := M.mapIdx fun j u => if j < k then CellSS.mkRow k0 M j u else u
theorem mkUp_at {k0 : Int} {M : List (List Cell)} {k j : Nat} {u : List Cell} (h : M[j]? = some u) : (mkUp k0 M k)[j]? = some (if j < k then CellSS.mkRow k0 M j u else u) := by simp [mkUp, h]
theorem mkUp_len {k0 : Int} {M : List (List Cell)} {k : Nat} : (mkUp k0 M k).length = M.length := by simp [mkUp]
theorem mkUp_end {k0 : Int} {M : List (List Cell)} : mkUp k0 M M.length = CellSS.mk k0 M := by
  apply List.ext_getElem?
  intro j
  cases h : M[j]? with
  | none =>
    have := List.getElem?_eq_none_iff.1 h
    rw [List.getElem?_eq_none (by rw [mkUp_len]; exact this), List.getElem?_eq_none (by rw [CellSS.mk_length]; exact this)]
  | some u => rw [mkUp_at h, CellSS.mk_at h, if_pos (List.getElem?_eq_some_iff.1 h).1]
theorem mkUp_zero {k0 : Int} {M : List (List Cell)} : mkUp k0 M 0 = M := by
  apply List.ext_getElem?
  intro j
  cases h : M[j]? with
  | none =>
    have := List.getElem?_eq_none_iff.1 h
    rw [List.getElem?_eq_none (by rw [mkUp_len]; exact this)]
  | some u => rw [mkUp_at h, if_neg (Nat.not_lt_zero j)]
set_option maxRecDepth 100000 in
set_option maxHeartbeats 800000 in
theorem markShps_c {lo hi : Nat} {v : Value} {x : List (List Cell)} (k0 : Int) (w : World) (hn : CellSS.tot x ≤ 1048576) (hk0 : 0 ≤ k0) (hk1 : k0 ≤ 10000000000) (hw : hi ≤ w.heap.size) (h : ShpsIn w lo hi v x) :
    Calls Tryz.prog 14 #[v, .int .i64 k0] w fun e w' => e = .returned (.int .i64 (k0 + 2 * (CellSS.num x : Int))) ∧ ShpsIn w' lo hi v (CellSS.mk k0 x) ∧ Out lo hi w w' := by
  obtain ⟨vs, hvl, hrow, hx, hap⟩ := h
  obtain ⟨n, hn2⟩ : ∃ n, n = x.length := ⟨_, rfl⟩
  have hnum : CellSS.num x ≤ 1048576 := by unfold CellSS.tot at hn; omega
  have HUL := Lib.hid (CellSS.tot_le hn).2
  rw [← hn2] at hrow
  have HN := Lib.hid hn2
  obtain ⟨R, hR⟩ : ∃ R : Nat, R = CellSS.num x := ⟨_, rfl⟩
  rw [← hR] at hnum ⊢
  have HR := Lib.hid hR
  have hn3 : n ≤ 1048576 := by unfold CellSS.tot at hn; omega
  have HVL := Lib.hid hvl
  have HAP := Lib.hid hap
  have HX0 : Hid (∀ (j : Nat) (y : Value) (u : List Cell), vs[j]? = some y → (mkUp k0 x 0)[j]? = some u → OI w lo hi 71 2 y u.length (cc u)) := Lib.hid (by rw [mkUp_zero]; exact hx)
  have HSH : Hid (ShpsIn w lo hi v x → True) := Lib.hid fun _ => trivial
  have hshape : (v = .slice none 0 0 ∧ n = 0) ∨ ∃ g c cs, v = .slice (some ⟨g, 0, none⟩) n c ∧ Blk w g 55 cs ∧ (∀ (j : Nat) (y : Value), vs[j]? = some y → cs[j]? = some y) ∧ lo ≤ g ∧ g < hi ∧ n ≤ c ∧ c ≤ maxLen ∧ cs.size = c * 1 ∧ cs.toList.take (n * 1) = vs := by
    rcases OI.cases hrow with h | ⟨g, c, cs, e, h1, h2, h3, h4, hb, h5, h6⟩
    · exact .inl h
    · refine .inr ⟨g, c, cs, e, hb, fun j y hy => ?_, h1, h2, h3, h4, h5, h6⟩
      rw [← h6, List.getElem?_take] at hy
      split at hy
      · simpa using hy
      · cases hy
  rcases hshape with ⟨rfl, h0⟩ | ⟨G, c, cs, rfl, hb, hcs, hG1, hG2, hnc, hcm, hsz, htk⟩
  · have hxn : x = [] := List.eq_nil_of_length_eq_zero (by rw [← HN.out, h0])
    subst hxn
    have hR0 : R = 0 := HR.out
    subst hR0
    have HS : Hid (ShpsIn w lo hi (.slice none 0 0) (CellSS.mk k0 [])) := Lib.hid ⟨[], rfl, OI.nil, fun j y u hy => by simp at hy, List.Pairwise.nil⟩
    clear hrow hx hap hvl hn hn2 hR HSH
    go_enter Tryz.func14, Tryz.ntmps14
    go_wp2
    go_loopw [1, 5] (fun kk i wr => kk = .int .i64 k0 ∧ i = .int .i64 0 ∧ wr = w) (fun _ _ _ => 0)
    case atStart => exact ⟨rfl, rfl, rfl⟩
    case round =>
      obtain ⟨rfl, rfl, rfl⟩ := hrel
      go_wp2
      go_ret
      exact ⟨by simp, HS.out, Out.refl _⟩
  · clear hrow hx hap hvl hn hn2 hR HSH
    go_enter Tryz.func14, Tryz.ntmps14
    go_wp2
    go_loopw [1, 5] (fun kk i wr => ∃ k q : Nat, k ≤ n ∧ i = .int .i64 k ∧ kk = .int .i64 (k0 + 2 * (q : Int)) ∧ q ≤ R ∧ Hid (q = CellSS.numTo x k) ∧ Blk wr G 55 cs ∧ Out lo hi w wr ∧ Hid (∀ (j : Nat) (y : Value) (u : List Cell), vs[j]? = some y → (mkUp k0 x k)[j]? = some u → OI wr lo hi 71 2 y u.length (cc u))) (fun _ i _ => n - (intOf i).toNat)
    case atStart => exact ⟨0, 0, Nat.zero_le _, rfl, by simp, Nat.zero_le _, Lib.hid rfl, hb, Out.refl _, HX0⟩
    case round =>
      clear hb HX0
      obtain ⟨k, q, hk, rfl, rfl, hqR, HQ, hb, ho, HX⟩ := hrel
      by_cases hlt : k < n
      · obtain ⟨u, hu⟩ : ∃ u, x[k]? = some u := ⟨x[k]'(by rw [← HN.out]; exact hlt), List.getElem?_eq_getElem _⟩
        obtain ⟨xv, hxv⟩ : ∃ y, vs[k]? = some y := ⟨vs[k]'(by rw [HVL.out, ← HN.out]; exact hlt), List.getElem?_eq_getElem _⟩
        have hrow := HX.out k xv u hxv (by rw [mkUp_at hu, if_neg (Nat.lt_irrefl k)])
        have q1 : wr.cell? ⟨G, k, none⟩ = some xv := by rw [hb.cell]; exact hcs k xv hxv
        have HC := Lib.hid (markRow2 (k0 + 2 * (q : Int)) wr (HUL.out u (List.mem_of_getElem? hu)) (by omega) (by omega) hrow)
        obtain ⟨Ax, cx, hxe, _, _⟩ := hrow.rd
        subst hxe
        obtain ⟨q2, hq2⟩ : ∃ q2, q2 = CellSS.numTo x (k + 1) := ⟨_, rfl⟩
        have hqq : q2 = q + u.length := by rw [hq2, CellSS.numTo_succ hu, HQ.out]
        have hq2R : q2 ≤ R := by rw [hq2, HR.out]; exact CellSS.numTo_le
        have HQ2 := Lib.hid hq2
        have HB := Lib.hid hb
        have HU := Lib.hid hu
        have HXV := Lib.hid hxv
        have hval : k0 + 2 * (q : Int) + 2 * (u.length : Int) = k0 + 2 * (q2 : Int) := by omega
        rw [hval] at HC
        clear hu hxv hrow hq2 hqq hval hb
        go_wp2_with fail
        refine (HC.out).mono ?_
        rintro e w3 ⟨rfl, o3, ou3, hs3, hG3⟩
        have hsz3 : hi ≤ wr.heap.size := Nat.le_trans hw ho.size
        have HX3 : Hid (∀ (j : Nat) (y : Value) (u : List Cell), vs[j]? = some y → (mkUp k0 x (k + 1))[j]? = some u → OI w3 lo hi 71 2 y u.length (cc u)) := Lib.hid fun j y u' hy hu' => by
          obtain ⟨z, hz⟩ : ∃ z, x[j]? = some z := ⟨x[j]'(by have := (List.getElem?_eq_some_iff.1 hy).1; rw [← HVL.out]; exact this), List.getElem?_eq_getElem _⟩
          rw [mkUp_at hz] at hu'
          injection hu' with hu'
          by_cases hjk : j = k
          · subst hjk
            rw [HU.out] at hz
            injection hz with hz
            subst hz
            rw [HXV.out] at hy
            injection hy with hy
            subst hy
            rw [if_pos (Nat.lt_succ_self j)] at hu'
            subst hu'
            unfold CellSS.mkRow
            rw [← HQ.out]
            exact o3
          · have h1 := HX.out j y u' hy (by
              rw [mkUp_at hz, ← hu']
              congr 1
              by_cases h : j < k
              · rw [if_pos h, if_pos (by omega)]
              · rw [if_neg h, if_neg (by omega)])
            refine oi_block h1 fun b hyb => hs3 b (Nat.lt_of_lt_of_le (h1.2 b hyb) hsz3) fun hxb => ?_
            obtain ⟨hj, ej⟩ := List.getElem?_eq_some_iff.1 hy
            obtain ⟨hk', ek⟩ := List.getElem?_eq_some_iff.1 HXV.out
            rcases Nat.lt_or_gt_of_ne hjk with h | h
            · have := List.pairwise_iff_getElem.1 HAP.out j k hj hk' h b
              rw [ej, ek] at this
              exact this hyb hxb
            · have := List.pairwise_iff_getElem.1 HAP.out k j hk' hj h b
              rw [ej, ek] at this
              exact this hxb hyb
        have hb3 := hG3 _ _ HB.out
        have ho3 := ho.trans ou3
        clear hG3 hs3 ou3 o3 HC q1
        go_wp2
        go_roundw
        case rel => exact ⟨k + 1, q2, by omega, by go_num, rfl, hq2R, HQ2, hb3, ho3, HX3⟩
        case measure => simp [intOf]; omega
      · obtain rfl : k = n := by omega
        obtain rfl : q = R := by rw [HQ.out, HN.out, CellSS.numTo_end, HR.out]
        have HS : Hid (ShpsIn wr lo hi (.slice (some ⟨G, 0, none⟩) k c) (CellSS.mk k0 x)) := Lib.hid (by
          refine ⟨vs, by rw [CellSS.mk_length]; exact HVL.out, by rw [CellSS.mk_length, ← HN.out]; exact OI.of_blk hb hG1 hG2 hnc hcm hsz htk, fun j y u hy hu => HX.out j y u hy (by rw [HN.out, mkUp_end]; exact hu), HAP.out⟩)
        go_wp2
        go_ret
        exact ⟨rfl, HS.out, ho⟩
set_option maxRecDepth 100000 in
set_option maxHeartbeats 800000 in
theorem heldShps_c {v : Value} {x : List (List Cell)} (k0 : Int) (w : World) (hn : CellSS.tot x ≤ 1048576) (hk0 : 0 ≤ k0) (hk1 : k0 ≤ 10000000000) (h : CellSSRd w 0 w.heap.size v (CellSS.mk k0 x)) :
    Calls Tryz.prog 37 #[v, .int .i64 k0] w fun e w' => e = .returned (.int .i64 (k0 + 2 * (CellSS.num x : Int))) ∧ Below w.heap.size w w' := by
  obtain ⟨vs, ⟨A, c, rfl, hm, hr⟩, hvs⟩ := h
  rw [CellSS.mk_length] at hr ⊢
  obtain ⟨n, hn2⟩ : ∃ n, n = x.length := ⟨_, rfl⟩
  have hnum : CellSS.num x ≤ 1048576 := by unfold CellSS.tot at hn; omega
  have HUL := Lib.hid (CellSS.tot_le hn).2
  rw [← hn2] at hr ⊢
  have HN := Lib.hid hn2
  obtain ⟨R, hR⟩ : ∃ R : Nat, R = CellSS.num x := ⟨_, rfl⟩
  rw [← hR] at hnum ⊢
  have HR := Lib.hid hR
  have HRD := Lib.hid hr
  have HVS := Lib.hid hvs
  have hn3 : n ≤ 1048576 := by unfold CellSS.tot at hn; omega
  clear hr hvs hn hn2 hR hm
  go_enter Tryz.func37, Tryz.ntmps37
  go_wp2
  go_loopw [1, 5] (fun kk i wr => ∃ k q : Nat, k ≤ n ∧ i = .int .i64 k ∧ kk = .int .i64 (k0 + 2 * (q : Int)) ∧ q ≤ R ∧ Hid (q = CellSS.numTo x k) ∧ wr = w) (fun _ i _ => n - (intOf i).toNat)
  case atStart => exact ⟨0, 0, Nat.zero_le _, rfl, by simp, Nat.zero_le _, Lib.hid rfl, rfl⟩
  case round =>
    obtain ⟨k, q, hk, rfl, rfl, hqR, HQ, rfl⟩ := hrel
    by_cases hlt : k < n
    · obtain ⟨u, hu⟩ : ∃ u, x[k]? = some u := ⟨x[k]'(by rw [← HN.out]; exact hlt), List.getElem?_eq_getElem _⟩
      obtain ⟨b, off, hA, _, hb, hc⟩ := HRD.out.2 (by omega)
      subst hA
      obtain ⟨y, hy, hyr⟩ := HVS.out.2 k _ (CellSS.mk_at hu)
      have q1 := hc k y hy
      unfold CellSS.mkRow at hyr
      rw [← HQ.out] at hyr
      have HC := Lib.hid (heldCellS_c (x := u) (k0 + 2 * (q : Int)) wr (HUL.out u (List.mem_of_getElem? hu)) (by omega) (by omega) hyr)
      obtain ⟨Ay, cy, hye, _, _⟩ := hyr
      rw [Cells.mk_length] at hye
      subst hye
      obtain ⟨q2, hq2⟩ : ∃ q2, q2 = CellSS.numTo x (k + 1) := ⟨_, rfl⟩
      have hqq : q2 = q + u.length := by rw [hq2, CellSS.numTo_succ hu, HQ.out]
      have hq2R : q2 ≤ R := by rw [hq2, HR.out]; exact CellSS.numTo_le
      have HQ2 := Lib.hid hq2
      have hval : k0 + 2 * (q : Int) + 2 * (u.length : Int) = k0 + 2 * (q2 : Int) := by omega
      rw [hval] at HC
      have hneg : ¬ (k0 + 2 * (q2 : Int) < 0) := by omega
      clear hu hy hq2 hqq hval hc
      go_wp2_with fail
      refine (HC.out).mono ?_
      rintro e w3 ⟨rfl, rfl⟩
      clear HC q1
      go_wp2
      go_roundw
      case rel => exact ⟨k + 1, q2, by omega, by go_num, (by first | rfl | trivial), hq2R, HQ2, (by first | rfl | trivial)⟩
      case measure => simp [intOf]; omega
    · obtain rfl : k = n := by omega
      obtain rfl : q = R := by rw [HQ.out, HN.out, CellSS.numTo_end, HR.out]
      go_wp2
      go_ret
      exact ⟨rfl, Below.refl _ _⟩
end Go.Proofs.YtfmkmjebkmimkaaGreat
