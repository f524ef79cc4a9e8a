
/-
  The walks over tiles and over lists of shapes: the law's helpers. Helpers of the laws: a list of Wang tiles marked, and held.
-/
import Derived.Test.YtfmkmjebkmimkaaGreatProg
import Derived.Test.YtfmkmjebkmimkaaGreatEqV
import Derived.Test.YtfmkmjebkmimkaaGreatLawCells
import Derived.Test.YtfmkmjebkmimkaaGreatLawInts
namespace Go.Proofs.YtfmkmjebkmimkaaGreat
open Go.RowKit

theorem fill4 {w w1 : World} {g T n k : Nat} {cs : Array Value} {xs : List Value} {u0 u1 u2 u3 : Value} (hb : Blk w1 g T cs) (hs : cs.size = n * 4) (hk : k < n) (h : cs.toList.take (k * 4) = xs.take (k * 4))
    (h0 : xs[k * 4]? = some u0) (h1 : xs[k * 4 + 1]? = some u1) (h2 : xs[k * 4 + 2]? = some u2) (h3 : xs[k * 4 + 3]? = some u3) (hbel : Below g w w1) :
    (∃ cs', Blk ((((w1.setCell ⟨g, k * 4, none⟩ u0).setCell ⟨g, k * 4 + 1, none⟩ u1).setCell ⟨g, k * 4 + 2, none⟩ u2).setCell ⟨g, k * 4 + 3, none⟩ u3) g T cs' ∧ cs'.size = n * 4 ∧ cs'.toList.take ((k + 1) * 4) = xs.take ((k + 1) * 4)) ∧
    Below g w ((((w1.setCell ⟨g, k * 4, none⟩ u0).setCell ⟨g, k * 4 + 1, none⟩ u1).setCell ⟨g, k * 4 + 2, none⟩ u2).setCell ⟨g, k * 4 + 3, none⟩ u3) := by
  refine ⟨⟨_, (((hb.set_ _ _).set_ _ _).set_ _ _).set_ _ _, by simp [hs], ?_⟩, (((hbel.setCell (Nat.le_refl _) _).setCell (Nat.le_refl _) _).setCell (Nat.le_refl _) _).setCell (Nat.le_refl _) _⟩
  rw [show (k + 1) * 4 = k * 4 + 3 + 1 by omega]
  exact fill_one (fill_one (fill_one (fill_one h (by omega) h0) (by simp; omega) h1) (by simp; omega) h2) (by simp; omega) h3
theorem wgc_length {l : List Wg} : (wgc l).length = l.length * 4 := fl4_length
set_option maxRecDepth 100000 in
theorem infoWang : (Tryz.prog.info? 88).map (fun i => (i.zero, i.size, i.bytes)) = some (some (.agg #[.int .i64 0, .int .i64 0, .int .i64 0, .int .i64 0]), 4, 32) := by kernel_rfl

set_option maxRecDepth 100000 in
set_option maxHeartbeats 400000 in
theorem eqWang_same (a b c d : Int) (w : World) :
    Calls Tryz.prog 57 #[.agg #[.int .i64 a, .int .i64 b, .int .i64 c, .int .i64 d], .agg #[.int .i64 a, .int .i64 b, .int .i64 c, .int .i64 d]] w fun e w' => e = .returned (.bool true) ∧ Below w.heap.size w w' := by
  go_enter Tryz.func57, Tryz.ntmps57
  go_wp2
  go_ret
  exact ⟨rfl, ((Below.refl _ _).alloc (Nat.le_refl _) _).alloc (by simp) _⟩
set_option maxRecDepth 100000 in
set_option maxHeartbeats 800000 in
theorem eqWangS_c {v v' : Value} {l : List Wg} (w : World) (h : WangsRd w 0 w.heap.size v l) (h' : WangsRd w 0 w.heap.size v' l) :
    Calls Tryz.prog 31 #[v, v'] w fun e w' => e = .returned (.bool true) ∧ Below w.heap.size w w' := by
  obtain ⟨A, c, rfl, hm, hr⟩ := h
  obtain ⟨A', c', rfl, _, hr'⟩ := h'
  unfold maxLen at hm
  go_enter Tryz.func31, Tryz.ntmps31
  go_wp2
  go_loopw [5] (fun i wr => ∃ k : Nat, k ≤ l.length ∧ i = .int .i64 k ∧ Below w.heap.size w wr) (fun i _ => l.length - (intOf i).toNat)
  case atStart => exact ⟨0, Nat.zero_le _, rfl, Below.refl _ _⟩
  case round =>
    obtain ⟨k, hk, rfl, hbel⟩ := hrel
    by_cases hlt : k < l.length
    · obtain ⟨b, off, a, rfl, _, hb, hla, q1, q2, q3, q4⟩ := (hr.below hbel (Nat.le_refl _)).at4 hlt
      obtain ⟨b', off', a', rfl, _, hb', hla', q1', q2', q3', q4'⟩ := (hr'.below hbel (Nat.le_refl _)).at4 hlt
      obtain rfl : a = a' := by rw [hla] at hla'; injection hla'
      clear hr hr' hla hla'
      go_wp2_with fail
      go_still_tail 8, (by kernel_rfl)
      change wpList _ _ _ _ _ wr.drew
      have hbel2 := below_drew hbel
      generalize wr.drew = w2 at *
      go_wp2_with fail
      refine (eqWang_same _ _ _ _ _).mono ?_
      rintro e w1 ⟨rfl, hb1⟩
      go_wp2
      go_roundw
      case rel => exact ⟨k + 1, by omega, by go_num, hbel2.trans (hb1.mono hbel2.size)⟩
      case measure => simp [intOf]; omega
    · go_wp2
      go_ret
      exact ⟨rfl, hbel⟩
/-! lists of shapes -/
set_option maxRecDepth 100000 in
theorem infoSliceW : (Tryz.prog.info? 55).map (fun i => (i.zero, i.size, i.bytes)) = some (some (.slice none 0 0), 1, 24) := by kernel_rfl
/-- the first k places are laid -/
def Laid (wr : World) (lo k : Nat) (cs : Array Value) (l : List (List Cell)) : Prop := ∀ (j : Nat) (u : List Cell), j < k → l[j]? = some u → ∃ x, cs[j]? = some x ∧ CellsRd wr lo wr.heap.size x u
theorem Laid.step {wr w' : World} {lo k : Nat} {cs : Array Value} {l : List (List Cell)} (h : Laid wr lo k cs l) (hs : SameIn lo wr.heap.size wr w') (hz : wr.heap.size ≤ w'.heap.size) : Laid w' lo k cs l :=
  fun j u hj hu => by obtain ⟨x, h1, h2⟩ := h j u hj hu; exact ⟨x, h1, (h2.keep hs).more (Nat.le_refl _) hz⟩
set_option maxRecDepth 100000 in
set_option maxHeartbeats 800000 in
theorem toCellSSW_c {v : Value} {l : List (List Cell)} (w : World) (h : CellSSRd w 0 w.heap.size v l) (hn : l.length ≤ 1048576) (hnn : ∀ u ∈ l, u.length ≤ 1048576) :
    Calls Tryz.prog 8 #[v] w fun e w' => ∃ v', e = .returned v' ∧ CellSSRd w' w.heap.size w'.heap.size v' l ∧ Below w.heap.size w w' := by
  obtain ⟨vs, ⟨A, c, rfl, hm, hr⟩, hvs⟩ := h
  obtain ⟨i0, hi, hz0, hz1, hz2⟩ := info_parts infoSliceW
  obtain ⟨n, hx⟩ : ∃ n, n = l.length := ⟨_, rfl⟩
  rw [← hx] at hn hr
  have hmk := fun W => run_make_rowN (P := Tryz.prog) 29 55 i0 _ Tryz.underlying29 hi hz0 .i64 .i64 n n (Nat.le_refl _) (by rw [hz2]; omega) (by omega) W
  rw [hz1] at hmk
  rw [← hx]
  have Hll := Lib.hid hx
  clear hx hm
  go_enter Tryz.func8, Tryz.ntmps8
  go_wp2
  clear hmk
  go_loopw [4] (fun i wr => ∃ k : Nat, k ≤ n ∧ i = .int .i64 k ∧ (∃ cs, Blk wr w.heap.size 55 cs ∧ cs.size = n * 1 ∧ Laid wr (w.heap.size + 1) k cs l) ∧ Below w.heap.size w wr) (fun i _ => n - (intOf i).toNat)
  case atStart => exact ⟨0, Nat.zero_le _, rfl, ⟨_, Blk.new _ _ _, by simp [size_madeCells], fun j u hj => absurd hj (by omega)⟩, (Below.refl _ _).alloc (Nat.le_refl _) _⟩
  case round =>
    obtain ⟨k, hk, rfl, ⟨cs, hblk, hcs, htk⟩, hbel⟩ := hrel
    by_cases hlt : k < n
    · obtain ⟨b, off, u, x, rfl, _, hb, hla, q1, hx⟩ := (hr.below hbel (Nat.le_refl _)).slot (hvs.keep (SameIn.of_below hbel (Nat.le_refl _))) Hll.out hlt
      have hul := hnn u (List.mem_of_getElem? hla)
      have hgs := hblk.lt
      replace hx := hx.more (Nat.le_refl _) hbel.size
      have HB := Lib.hid hblk
      have HLA := Lib.hid hla
      have HC := Lib.hid hcs
      have HT := Lib.hid htk
      clear hr hblk hvs hnn hla hcs htk
      go_wp2_with fail
      refine (toCellS_c (x := u) wr hx hul).mono ?_
      rintro e w1 ⟨v1, rfl, o1, hb1⟩
      obtain ⟨A1, c1, rfl, _, _⟩ := o1.rd
      have hblk1 := HB.out.below hb1 HB.out.lt
      have hlt1 := hblk1.lt
      obtain ⟨u0, g0⟩ : ∃ u, w1.cell? ⟨w.heap.size, k, none⟩ = some u := ⟨_, by rw [hblk1.cell, Array.getElem?_eq_getElem (by have := HC.out; omega)]⟩
      have f0 := hblk1.frozen k
      have HB1 := Lib.hid hblk1
      have HO := Lib.hid o1
      clear hblk1 HB hx o1
      go_wp2
      go_roundw
      case rel =>
        have hs1 := (HT.out.step (SameIn.of_below hb1 (Nat.le_refl _)) hb1.size)
        have hsame : SameIn (w.heap.size + 1) w1.heap.size w1 (w1.setCell ⟨w.heap.size, k, none⟩ (.slice A1 u.length c1)) := SameIn.setCell (p := ⟨w.heap.size, k, none⟩) (.inl (Nat.lt_succ_self w.heap.size)) (.slice A1 u.length c1)
        have hs2 := hs1.step hsame (by simp [World.setCell])
        refine ⟨k + 1, by omega, by go_num, ⟨cs.setIfInBounds k (.slice A1 u.length c1), HB1.out.set_ k (.slice A1 u.length c1), by simpa using HC.out, fun j d hj hd => ?_⟩, (hbel.trans (hb1.mono hbel.size)).setCell (Nat.le_refl _) (.slice A1 u.length c1)⟩
        by_cases e : j = k
        · subst e
          rw [HLA.out] at hd
          injection hd with hd
          subst hd
          refine ⟨(.slice A1 u.length c1), by rw [Array.getElem?_setIfInBounds]; have := HC.out; simp; omega, ?_⟩
          exact (((HO.out.rd).more (by omega) (Nat.le_refl _)).keep hsame).more (Nat.le_refl _) (by simp [World.setCell])
        · obtain ⟨x, h1, h2⟩ := hs2 j d (by omega) hd
          exact ⟨x, by rw [Array.getElem?_setIfInBounds, if_neg (fun h => e h.symm)]; exact h1, h2⟩
      case measure => simp [intOf]; omega
    · go_wp2
      go_ret
      have hkn : k = n := by omega
      subst hkn
      have hkl := Hll.out
      refine ⟨_, rfl, ⟨cs.toList, ⟨some ⟨w.heap.size, 0, none⟩, k, by rw [← hkl]; rfl, by rw [← Hll.out]; unfold maxLen; omega, by rw [← Hll.out]; simpa using hcs, fun _ => ⟨w.heap.size, 0, rfl, Nat.le_refl _, hblk.lt, fun j u hu => by rw [hblk.cell]; simpa using hu⟩⟩, by rw [← Hll.out]; simpa using hcs, fun i u hu => ?_⟩, hbel⟩
      obtain ⟨x, h1, h2⟩ := htk i u (by have := (List.getElem?_eq_some_iff.1 hu).1; have := Hll.out; omega) hu
      exact ⟨x, by simpa using h1, h2.more (by omega) (Nat.le_refl _)⟩
set_option maxRecDepth 100000 in
set_option maxHeartbeats 800000 in
theorem eqCellSSW_c {v v' : Value} {a : List (List Cell)} (w : World) (h : CellSSRd w 0 w.heap.size v a) (h' : CellSSRd w 0 w.heap.size v' a) :
    Calls Tryz.prog 12 #[v, v'] w fun e w' => e = .returned (.bool true) ∧ Below w.heap.size w w' := by
  obtain ⟨vs, ⟨A, c, rfl, hm, hr⟩, hvs⟩ := h
  obtain ⟨vs', ⟨A', c', rfl, hm', hr'⟩, hvs'⟩ := h'
  unfold maxLen at hm
  go_enter Tryz.func12, Tryz.ntmps12
  go_wp2
  go_loopw [5] (fun i wr => ∃ k : Nat, k ≤ a.length ∧ i = .int .i64 k ∧ Below w.heap.size w wr) (fun i _ => a.length - (intOf i).toNat)
  case atStart => exact ⟨0, Nat.zero_le _, rfl, Below.refl _ _⟩
  case round =>
    obtain ⟨k, hk, rfl, hbel⟩ := hrel
    by_cases hlt : k < a.length
    · obtain ⟨bb, off, x, vx, rfl, _, hb, hla, q1, hx⟩ := (hr.below hbel (Nat.le_refl _)).slot (hvs.keep (SameIn.of_below hbel (Nat.le_refl _))) rfl hlt
      obtain ⟨bb', off', y, vy, rfl, _, hb', hla', q1', hy⟩ := (hr'.below hbel (Nat.le_refl _)).slot (hvs'.keep (SameIn.of_below hbel (Nat.le_refl _))) rfl hlt
      obtain rfl : x = y := by rw [hla] at hla'; injection hla'
      replace hx := hx.more (Nat.le_refl _) hbel.size
      replace hy := hy.more (Nat.le_refl _) hbel.size
      clear hr hr' hla hla' hvs hvs'
      go_wp2_with fail
      go_still_tail 8, (by kernel_rfl)
      change wpList _ _ _ _ _ wr.drew
      have hbel2 := below_drew hbel
      clear q1 q1'
      go_wp2_with fail
      refine (eqCellS_c (x := x) wr.drew hx hy).mono ?_
      rintro e w2 ⟨rfl, b2⟩
      have hbel3 := hbel2.trans (b2.mono hbel2.size)
      clear hbel2 b2 hx hy
      go_wp2
      go_roundw
      case rel => exact ⟨k + 1, by omega, by go_num, hbel3⟩
      case measure => simp [intOf]; omega
    · go_wp2
      go_ret
      exact ⟨rfl, hbel⟩
set_option maxRecDepth 100000 in
set_option maxHeartbeats 800000 in
theorem szCellSSW_c {v : Value} {x : List (List Cell)} (l : Int) (w : World) (h : CellSSRd w 0 w.heap.size v x) (h1 : 0 ≤ l) (h2 : l ≤ 1048576):
    Calls Tryz.prog 5 #[v, .int .i64 l] w fun e w' => ∃ m : Int, e = .returned (.int .i64 m) ∧ -1 ≤ m ∧ m ≤ l ∧ (0 ≤ m → x.length ≤ 1048576 ∧ ∀ u ∈ x, u.length ≤ 1048576) ∧ w = w' := by
  obtain ⟨vs, ⟨A, c, rfl, hm, hr⟩, hvs⟩ := h
  unfold maxLen at hm
  by_cases hn : l < x.length
  · go_enter Tryz.func5, Tryz.ntmps5
    go_wp2
    go_ret
    exact ⟨-1, rfl, by omega, by omega, fun h => absurd h (by omega), rfl⟩
  · go_enter Tryz.func5, Tryz.ntmps5
    go_wp2
    go_loopw [1, 5] (fun lv i wr => ∃ (k : Nat) (m : Int), k ≤ x.length ∧ i = .int .i64 k ∧ lv = .int .i64 m ∧ 0 ≤ m ∧ m ≤ l ∧ wr = w ∧ Hid (∀ (j : Nat) (u : List Cell), j < k → x[j]? = some u → u.length ≤ 1048576)) (fun _ i _ => x.length - (intOf i).toNat)
    case atStart => exact ⟨0, _, Nat.zero_le _, rfl, rfl, by omega, by omega, rfl, Lib.hid fun j u h => absurd h (by omega)⟩
    case round =>
      obtain ⟨k, m, hk, rfl, rfl, hm0, hml, rfl, HA⟩ := hrel
      by_cases hlt : k < x.length
      · obtain ⟨b, off, u, xv, rfl, _, hb, hla, q1, hx⟩ := hr.slot hvs rfl hlt
        have HLA := Lib.hid hla
        clear hr hvs hla
        go_wp2_with fail
        refine (szCellS_c (x := u) m wr hx hm0 (by omega)).mono ?_
        rintro e w' ⟨rfl, rfl⟩
        by_cases hlu : m < u.length
        · rw [if_pos hlu]
          go_wp2
          go_ret
          exact ⟨-1, rfl, by omega, by omega, fun h => absurd h (by omega), rfl⟩
        · rw [if_neg hlu]
          obtain ⟨m', hm'⟩ : ∃ m' : Int, m' = m - u.length := ⟨_, rfl⟩
          rw [← hm']
          have hm0' : 0 ≤ m' := by omega
          have hml' : m' ≤ l := by omega
          have hul : u.length ≤ 1048576 := by omega
          have HUL := Lib.hid hul
          clear hm' hlu hul
          go_wp2
          go_roundw
          case rel => exact ⟨k + 1, m', by omega, by go_num, rfl, by omega, by omega, trivial, Lib.hid fun j d hj hd => by
            by_cases e : j = k
            · subst e; rw [HLA.out] at hd; injection hd with hd; subst hd; exact HUL.out
            · exact HA.out j d (by omega) hd⟩
          case measure => simp [intOf]; omega
      · go_wp2
        go_ret
        refine ⟨m, rfl, by omega, by omega, fun _ => ⟨by omega, fun u hu => ?_⟩, rfl⟩
        obtain ⟨j, hj, rfl⟩ := List.getElem_of_mem hu
        exact HA.out j _ (by omega) (List.getElem?_eq_getElem hj)
end Go.Proofs.YtfmkmjebkmimkaaGreat

namespace Go.Proofs.YtfmkmjebkmimkaaGreat
open Go.RowKit

theorem mark4 {w w1 : World} {g T m k : Nat} {cs : Array Value} {xs : List Value} {u0 u1 u2 u3 : Value} (hb : Blk w1 g T cs) (hs : cs.size = m) (hk : k * 4 + 4 ≤ m) (h : cs.toList.take (k * 4) = xs.take (k * 4))
    (h0 : xs[k * 4]? = some u0) (h1 : xs[k * 4 + 1]? = some u1) (h2 : xs[k * 4 + 2]? = some u2) (h3 : xs[k * 4 + 3]? = some u3) (hg : w.grownBy w1 (some g)) :
    w.grownBy ((((w1.setCell ⟨g, k * 4, none⟩ u0).setCell ⟨g, k * 4 + 1, none⟩ u1).setCell ⟨g, k * 4 + 2, none⟩ u2).setCell ⟨g, k * 4 + 3, none⟩ u3) (some g) ∧
    (∃ cs', Blk ((((w1.setCell ⟨g, k * 4, none⟩ u0).setCell ⟨g, k * 4 + 1, none⟩ u1).setCell ⟨g, k * 4 + 2, none⟩ u2).setCell ⟨g, k * 4 + 3, none⟩ u3) g T cs' ∧ cs'.size = m ∧ cs'.toList.take ((k + 1) * 4) = xs.take ((k + 1) * 4)) := by
  refine ⟨only_setCell (only_setCell (only_setCell (only_setCell hg (.inl rfl) _) (.inl rfl) _) (.inl rfl) _) (.inl rfl) _, ⟨_, (((hb.set_ _ _).set_ _ _).set_ _ _).set_ _ _, by simp [hs], ?_⟩⟩
  rw [show (k + 1) * 4 = k * 4 + 3 + 1 by omega]
  exact fill_one (fill_one (fill_one (fill_one h (by omega) h0) (by simp; omega) h1) (by simp; omega) h2) (by simp; omega) h3
def Wgs.mk (k : Int) (l : List Wg) : List Wg := (List.range l.length).map fun i : Nat => ⟨k + 4 * (i : Int), k + 4 * (i : Int) + 1, k + 4 * (i : Int) + 1 + 1, k + 4 * (i : Int) + 1 + 1 + 1⟩
theorem Wgs.mk_length {k : Int} {l : List Wg} : (Wgs.mk k l).length = l.length := by simp [Wgs.mk]
theorem Wgs.mk_at {k : Int} {l : List Wg} {i : Nat} (h : i < l.length) : (Wgs.mk k l)[i]? = some ⟨k + 4 * (i : Int), k + 4 * (i : Int) + 1, k + 4 * (i : Int) + 1 + 1, k + 4 * (i : Int) + 1 + 1 + 1⟩ := by simp [Wgs.mk, h]
theorem wgc_at {l : List Wg} {k : Nat} {a : Wg} (h : l[k]? = some a) : (wgc l)[k * 4]? = some (.int .i64 a.top) ∧ (wgc l)[k * 4 + 1]? = some (.int .i64 a.right) ∧ (wgc l)[k * 4 + 2]? = some (.int .i64 a.bottom) ∧ (wgc l)[k * 4 + 3]? = some (.int .i64 a.left) := fl4_at h

set_option maxRecDepth 100000 in
set_option maxHeartbeats 1600000 in
theorem markWangS_any (g n c : Nat) (k0 : Int) (x : List Wg) (cs : Array Value) (w : World) (hx : x.length = n) (hn : n ≤ 1048576) (hk0 : 0 ≤ k0) (hk1 : k0 ≤ 1000000000000) (hb : Blk w g 88 cs) (hc : n * 4 ≤ cs.size) :
    Calls Tryz.prog 35 #[.slice (some ⟨g, 0, none⟩) n c, .int .i64 k0] w fun e w' => e = .returned (.int .i64 (k0 + 4 * (n : Int))) ∧ w.grownBy w' (some g) ∧
      ∃ cs', Blk w' g 88 cs' ∧ cs'.size = cs.size ∧ cs'.toList.take (n * 4) = wgc (Wgs.mk k0 x) := by
  have Hx := Lib.hid hx
  clear hx
  go_enter Tryz.func35, Tryz.ntmps35
  go_wp2
  go_loopw [1, 5] (fun kk i wr => ∃ k : Nat, k ≤ n ∧ i = .int .i64 k ∧ kk = .int .i64 (k0 + 4 * (k : Int)) ∧ w.grownBy wr (some g) ∧
    ∃ cs', Blk wr g 88 cs' ∧ cs'.size = cs.size ∧ cs'.toList.take (k * 4) = (wgc (Wgs.mk k0 x)).take (k * 4)) (fun _ i _ => n - (intOf i).toNat)
  case atStart => exact ⟨0, Nat.zero_le _, rfl, by simp, World.grownBy.refl _ _, cs, hb, rfl, by simp⟩
  case round =>
    obtain ⟨k, hk, rfl, rfl, hg, cs', hblk, hcs, htk⟩ := hrel
    by_cases hlt : k < n
    · obtain ⟨u0, g0⟩ : ∃ u, wr.cell? ⟨g, k * 4, none⟩ = some u := ⟨_, by rw [hblk.cell, Array.getElem?_eq_getElem (by omega)]⟩
      obtain ⟨u1, g1⟩ : ∃ u, wr.cell? ⟨g, k * 4 + 1, none⟩ = some u := ⟨_, by rw [hblk.cell, Array.getElem?_eq_getElem (by omega)]⟩
      obtain ⟨u2, g2⟩ : ∃ u, wr.cell? ⟨g, k * 4 + 2, none⟩ = some u := ⟨_, by rw [hblk.cell, Array.getElem?_eq_getElem (by omega)]⟩
      obtain ⟨u3, g3⟩ : ∃ u, wr.cell? ⟨g, k * 4 + 3, none⟩ = some u := ⟨_, by rw [hblk.cell, Array.getElem?_eq_getElem (by omega)]⟩
      have f0 := hblk.frozen (k * 4)
      have f1 := hblk.frozen (k * 4 + 1)
      have f2 := hblk.frozen (k * 4 + 2)
      have f3 := hblk.frozen (k * 4 + 3)
      have HB := Lib.hid hblk
      have HC := Lib.hid hcs
      have HT := Lib.hid htk
      clear hblk hb hcs htk
      go_wp2
      go_roundw
      case rel =>
        have q := wgc_at (Wgs.mk_at (k := k0) (l := x) (by rw [Hx.out]; exact hlt))
        have F := mark4 HB.out HC.out (by omega) HT.out q.1 q.2.1 q.2.2.1 q.2.2.2 hg
        exact ⟨k + 1, by omega, by go_num, by go_num, F.1, F.2⟩
      case measure => simp [intOf]; omega
    · go_wp2
      go_ret
      have hkn : k = n := by omega
      subst hkn
      exact ⟨rfl, hg, cs', hblk, hcs, by rw [htk, List.take_of_length_le (by rw [wgc_length, Wgs.mk_length, Hx.out]; exact Nat.le_refl _)]⟩

set_option maxRecDepth 100000 in
set_option maxHeartbeats 1600000 in
theorem heldWangS_c {lo hi : Nat} {v : Value} {x : List Wg} (k0 : Int) (w : World) (hn : x.length ≤ 1048576) (hk0 : 0 ≤ k0) (hk1 : k0 ≤ 1000000000000) (h : WangsRd w lo hi v (Wgs.mk k0 x)) :
    Calls Tryz.prog 39 #[v, .int .i64 k0] w fun e w' => e = .returned (.int .i64 (k0 + 4 * (x.length : Int))) ∧ w = w' := by
  obtain ⟨A, c, rfl, hm, hr⟩ := h
  rw [Wgs.mk_length] at hr ⊢
  obtain ⟨n, hx⟩ : ∃ n, n = x.length := ⟨_, rfl⟩
  rw [← hx] at hn hr ⊢
  have Hx := Lib.hid hx
  clear hx hm
  go_enter Tryz.func39, Tryz.ntmps39
  go_wp2
  go_loop [1, 5] (fun kk i => ∃ k : Nat, k ≤ n ∧ i = .int .i64 k ∧ kk = .int .i64 (k0 + 4 * (k : Int))) (fun _ i => n - (intOf i).toNat)
  case atStart => exact ⟨0, Nat.zero_le _, rfl, by simp⟩
  case round =>
    obtain ⟨k, hk, rfl, rfl⟩ := hrel
    by_cases hlt : k < n
    · obtain ⟨b, off, a, rfl, _, hb, hla, q1, q2, q3, q4⟩ := hr.at4 hlt
      have ha : (⟨k0 + 4 * (k : Int), k0 + 4 * (k : Int) + 1, k0 + 4 * (k : Int) + 1 + 1, k0 + 4 * (k : Int) + 1 + 1 + 1⟩ : Wg) = a := by rw [Wgs.mk_at (by rw [← Hx.out]; exact hlt)] at hla; exact Option.some.inj hla
      subst ha
      clear hr hla
      go_wp2
      go_round
      case rel => exact ⟨k + 1, by omega, by go_num, by go_num⟩
      case measure => simp [intOf]; omega
    · go_wp2
      go_ret
      have hkn : k = n := by omega
      subst hkn
      exact ⟨rfl, rfl⟩

set_option maxRecDepth 100000 in
set_option maxHeartbeats 800000 in
theorem markWangS_nil (k0 : Int) (w : World) :
    Calls Tryz.prog 35 #[.slice none 0 0, .int .i64 k0] w fun e w' => e = .returned (.int .i64 k0) ∧ w = w' := by
  go_enter Tryz.func35, Tryz.ntmps35
  go_wp2
  refine wp_loop_rounds 1 ?_
  rw [rounds_succ]
  go_wp2
  go_ret
  exact ⟨rfl, rfl⟩

set_option maxRecDepth 100000 in
theorem markWangS_c {lo hi : Nat} {v : Value} {x : List Wg} (k0 : Int) (w : World) (hn : x.length ≤ 1048576) (hk0 : 0 ≤ k0) (hk1 : k0 ≤ 1000000000000) (h : WangsIn w lo hi v x) :
    Calls Tryz.prog 35 #[v, .int .i64 k0] w fun e w' => e = .returned (.int .i64 (k0 + 4 * (x.length : Int))) ∧ WangsIn w' lo hi v (Wgs.mk k0 x) ∧ Out lo hi w w' := by
  rcases OI.cases h with ⟨rfl, h0⟩ | ⟨g, c, cs, rfl, h1, h2, h3, h4, hb, h5, h6⟩
  · obtain rfl := List.eq_nil_of_length_eq_zero h0
    refine (markWangS_nil k0 w).mono ?_
    rintro e w' ⟨rfl, rfl⟩
    exact ⟨by simp, WangsIn.nil, Out.refl _⟩
  · refine (markWangS_any g _ c k0 x cs w rfl hn hk0 hk1 hb (by rw [h5]; omega)).mono ?_
    rintro e w' ⟨rfl, hg, cs', hb', hs', ht'⟩
    refine ⟨rfl, ?_, Out.of_only hg h1 h2⟩
    unfold WangsIn
    rw [Wgs.mk_length]
    exact OI.of_blk hb' h1 h2 h3 h4 (by rw [hs', h5]) ht'
end Go.Proofs.YtfmkmjebkmimkaaGreat
