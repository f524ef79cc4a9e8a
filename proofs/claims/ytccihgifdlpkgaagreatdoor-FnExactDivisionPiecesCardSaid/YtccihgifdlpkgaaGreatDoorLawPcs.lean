
/-
  The walks over lists of shapes: the law's helpers.
-/
import Derived.Test.YtccihgifdlpkgaaGreatDoorProg
import Derived.Test.YtccihgifdlpkgaaGreatDoorEqV
import Derived.Test.YtccihgifdlpkgaaGreatDoorLawCells
import Derived.Test.YtccihgifdlpkgaaGreatDoorLawInts
namespace Go.Proofs.YtccihgifdlpkgaaGreatDoor
open Go.RowKit

def CellSS.numTo (l : List (List Cell)) (k : Nat) : Nat := ((l.take k).map List.length).sum
def CellSS.num (l : List (List Cell)) : Nat := (l.map List.length).sum
def CellSS.tot (l : List (List Cell)) : Nat := l.length + CellSS.num l
theorem CellSS.numTo_succ {l : List (List Cell)} {k : Nat} {u : List Cell} (h : l[k]? = some u) : CellSS.numTo l (k + 1) = CellSS.numTo l k + u.length := by
  unfold CellSS.numTo
  rw [List.take_add_one, h]
  simp
theorem CellSS.numTo_end {l : List (List Cell)} : CellSS.numTo l l.length = CellSS.num l := by unfold CellSS.numTo CellSS.num; rw [List.take_length]
theorem CellSS.numTo_le {l : List (List Cell)} {k : Nat} : CellSS.numTo l k ≤ CellSS.num l := by
  have h : CellSS.num l = CellSS.numTo l k + ((l.drop k).map List.length).sum := by
    unfold CellSS.numTo CellSS.num
    rw [← List.sum_append, ← List.map_append, List.take_append_drop]
  omega
theorem CellSS.tot_le {l : List (List Cell)} {n : Nat} (h : CellSS.tot l ≤ n) : l.length ≤ n ∧ ∀ u ∈ l, u.length ≤ n := by
  unfold CellSS.tot at h
  refine ⟨by omega, fun u hu => ?_⟩
  obtain ⟨k, hk⟩ := List.getElem?_of_mem hu
  have h1 := CellSS.numTo_succ hk
  have h2 := CellSS.numTo_le (l := l) (k := k + 1)
  omega
/-- shapes, each in its own memory, that may be written -/
structure CellSSIn (w : World) (lo hi : Nat) (v : Value) (l : List (List Cell)) : Prop where
  rd : CellSSRd w lo hi v l
  wr : ∃ (G : Nat) (cs : Array Value) (c : Nat), v = .slice (some ⟨G, 0, none⟩) l.length c ∧ (lo ≤ G ∧ G < hi) ∧ Blk w G 42 cs ∧ ∀ (j : Nat) (u : List Cell), l[j]? = some u → ∃ x, cs[j]? = some x ∧ CellsIn w lo hi x u
theorem CellSSIn.keep {w w' : World} {lo hi : Nat} {v : Value} {l : List (List Cell)} (h : CellSSIn w lo hi v l) (hs : SameIn lo hi w w') : CellSSIn w' lo hi v l := by
  obtain ⟨h1, G, cs, c, e, hG, hb, hx⟩ := h
  refine ⟨h1.keep hs, G, cs, c, e, hG, (hs G hG.1 hG.2).trans hb, fun j u hu => ?_⟩
  obtain ⟨x, h2, h3⟩ := hx j u hu
  exact ⟨x, h2, CellsIn.keep h3 hs⟩
/-- what was there is of no more concern -/
def Gone (_w : World) (lo hi : Nat) : Prop := lo = lo ∧ hi = hi
theorem Gone.keep {w w' : World} {lo hi : Nat} (_h : Gone w lo hi) (_hs : SameIn lo hi w w') : Gone w' lo hi := ⟨rfl, rfl⟩
set_option maxRecDepth 100000 in
theorem infoSlice : (Tryz.prog.info? 42).map (fun i => (i.zero, i.size, i.bytes)) = some (some (.slice none 0 0), 1, 24) := by kernel_rfl
/-- the first k places are laid -/
def LaidW (wr : World) (lo k : Nat) (cs : Array Value) (l : List (List Cell)) : Prop := ∀ (j : Nat) (u : List Cell), j < k → l[j]? = some u → ∃ x, cs[j]? = some x ∧ CellsIn wr lo wr.heap.size x u
theorem LaidW.step {wr w' : World} {lo k : Nat} {cs : Array Value} {l : List (List Cell)} (h : LaidW wr lo k cs l) (hs : SameIn lo wr.heap.size wr w') (hz : wr.heap.size ≤ w'.heap.size) : LaidW w' lo k cs l :=
  fun j u hj hu => by obtain ⟨x, h1, h2⟩ := h j u hj hu; exact ⟨x, h1, OI.base (CellsIn.keep h2 hs) (Nat.le_refl _) hz⟩
set_option maxRecDepth 100000 in
set_option maxHeartbeats 800000 in
theorem eqCellSS_c {v v' : Value} {a : List (List Cell)} (w : World) (h : CellSSRd w 0 w.heap.size v a) (h' : CellSSRd w 0 w.heap.size v' a) :
    Calls Tryz.prog 22 #[v, v'] w fun e w' => e = .returned (.bool true) ∧ Below w.heap.size w w' := by
  obtain ⟨vs, ⟨A, c, rfl, hm, hr⟩, hvs⟩ := h
  obtain ⟨vs', ⟨A', c', rfl, hm', hr'⟩, hvs'⟩ := h'
  unfold maxLen at hm
  go_enter Tryz.func22, Tryz.ntmps22
  go_wp2
  go_loopw [5] (fun i wr => ∃ k : Nat, k ≤ a.length ∧ i = .int .i64 k ∧ Below w.heap.size w wr) (fun i _ => a.length - (intOf i).toNat)
  case atStart => exact ⟨0, Nat.zero_le _, rfl, Below.refl _ _⟩
  case round =>
    obtain ⟨k, hk, rfl, hbel⟩ := hrel
    by_cases hlt : k < a.length
    · obtain ⟨bb, off, x, vx, rfl, _, hb, hla, q1, hx⟩ := (hr.below hbel (Nat.le_refl _)).slot (hvs.keep (SameIn.of_below hbel (Nat.le_refl _))) rfl hlt
      obtain ⟨bb', off', y, vy, rfl, _, hb', hla', q1', hy⟩ := (hr'.below hbel (Nat.le_refl _)).slot (hvs'.keep (SameIn.of_below hbel (Nat.le_refl _))) rfl hlt
      obtain rfl : x = y := by rw [hla] at hla'; injection hla'
      replace hx := hx.more (Nat.le_refl _) hbel.size
      replace hy := hy.more (Nat.le_refl _) hbel.size
      clear hr hr' hla hla' hvs hvs'
      go_wp2_with fail
      go_still_tail 8, (by kernel_rfl)
      change wpList _ _ _ _ _ wr.drew
      have hbel2 := below_drew hbel
      clear q1 q1'
      go_wp2_with fail
      refine (eqCellS_c (x := x) wr.drew hx hy).mono ?_
      rintro e w2 ⟨rfl, b2⟩
      have hbel3 := hbel2.trans (b2.mono hbel2.size)
      clear hbel2 b2 hx hy
      go_wp2
      go_roundw
      case rel => exact ⟨k + 1, by omega, by go_num, hbel3⟩
      case measure => simp [intOf]; omega
    · go_wp2
      go_ret
      exact ⟨rfl, hbel⟩
/-- a row that may be written -/
def RowW (w : World) (lo hi : Nat) (xv : Value) (n : Nat) : Prop := (xv = .slice none 0 0 ∧ n = 0) ∨ ∃ (g c : Nat) (cs : Array Value), xv = .slice (some ⟨g, 0, none⟩) n c ∧ (lo ≤ g ∧ g < hi) ∧ Blk w g 67 cs ∧ n * 2 ≤ cs.size
theorem RowW.of {w : World} {lo hi : Nat} {xv : Value} {u : List Cell} (h : CellsIn w lo hi xv u) : RowW w lo hi xv u.length := by
  rcases OI.cases h with ⟨rfl, h0⟩ | ⟨g, c, cs, rfl, h1, h2, h3, h4, hb, h5, h6⟩
  · exact .inl ⟨by rfl, h0⟩
  · exact .inr ⟨g, c, cs, rfl, ⟨h1, h2⟩, hb, by rw [h5]; exact Nat.mul_le_mul_right _ h3⟩
theorem RowW.step {w w' : World} {lo hi g n : Nat} {xv : Value} {cs cs' : Array Value} (h : RowW w lo hi xv n) (hg : w.grownBy w' (some g)) (hb : Blk w g 67 cs) (hb' : Blk w' g 67 cs') (hs : cs'.size = cs.size) : RowW w' lo hi xv n := by
  rcases h with h | ⟨g2, c, cs2, rfl, h1, h2, h3⟩
  · exact .inl h
  · by_cases e : g2 = g
    · subst e
      have : cs2 = cs := by
        have := h2.symm.trans hb
        injection this with this
        injection this
      subst this
      exact .inr ⟨g2, c, cs', rfl, h1, hb', by omega⟩
    · exact .inr ⟨g2, c, cs2, rfl, h1, h2.grown hg (fun h => e (Option.some.inj h)), h3⟩
set_option maxRecDepth 100000 in
theorem markRow {lo hi n : Nat} {xv : Value} (k0 : Int) (w : World) (hn : n ≤ 1048576) (hk0 : 0 ≤ k0) (hk1 : k0 ≤ 1000000000000) (h : RowW w lo hi xv n) :
    Calls Tryz.prog 40 #[xv, .int .i64 k0] w fun e w' => e = .returned (.int .i64 (k0 + 2 * (n : Int))) ∧ Out lo hi w w' ∧ (∀ (G : Nat) (cs : Array Value), Blk w G 42 cs → Blk w' G 42 cs) ∧ ∀ (y : Value) (m : Nat), RowW w lo hi y m → RowW w' lo hi y m := by
  rcases h with ⟨rfl, rfl⟩ | ⟨g, c, cs, rfl, h1, hb, h3⟩
  · refine (markCellS_nil k0 w).mono ?_
    rintro e w' ⟨rfl, rfl⟩
    exact ⟨by simp, Out.refl _, fun _ _ h => h, fun _ _ h => h⟩
  · refine (markCellS_any g n c k0 (List.replicate n ⟨0, 0⟩) cs w (List.length_replicate ..) hn hk0 hk1 hb h3).mono ?_
    rintro e w' ⟨rfl, hg, cs', hb', hs', _⟩
    refine ⟨rfl, Out.of_only hg h1.1 h1.2, fun G D hG => ?_, fun y m hy => hy.step hg hb hb' hs'⟩
    refine hG.grown hg (fun e => ?_)
    injection e with e
    subst e
    have := hG.symm.trans hb
    injection this with this
    injection this with _ this
    exact absurd this (by decide)
set_option maxRecDepth 100000 in
set_option maxHeartbeats 800000 in
theorem markCellSS_c {lo hi : Nat} {v : Value} {x : List (List Cell)} (k0 : Int) (w : World) (hn : CellSS.tot x ≤ 1048576) (hk0 : 0 ≤ k0) (hk1 : k0 ≤ 10000000000) (_hw : hi ≤ w.heap.size) (h : CellSSIn w lo hi v x) :
    Calls Tryz.prog 23 #[v, .int .i64 k0] w fun e w' => e = .returned (.int .i64 (k0 + 2 * (CellSS.num x : Int))) ∧ Gone w' lo hi ∧ Out lo hi w w' := by
  obtain ⟨_, G, cs, c, rfl, hG, hb, hx⟩ := h
  have HX : Hid (∀ (j : Nat) (u : List Cell), x[j]? = some u → ∃ xv, cs[j]? = some xv ∧ RowW w lo hi xv u.length) := Lib.hid fun j u hu => by
    obtain ⟨xv, h1, h2⟩ := hx j u hu
    exact ⟨xv, h1, RowW.of h2⟩
  obtain ⟨n, hn2⟩ : ∃ n, n = x.length := ⟨_, rfl⟩
  have hnum : CellSS.num x ≤ 1048576 := by unfold CellSS.tot at hn; omega
  have HUL := Lib.hid (CellSS.tot_le hn).2
  rw [← hn2]
  have HN := Lib.hid hn2
  obtain ⟨R, hR⟩ : ∃ R : Nat, R = CellSS.num x := ⟨_, rfl⟩
  rw [← hR] at hnum ⊢
  have HR := Lib.hid hR
  have hn3 : n ≤ 1048576 := by unfold CellSS.tot at hn; omega
  clear hx hn hn2 hR
  go_enter Tryz.func23, Tryz.ntmps23
  go_wp2
  go_loopw [1, 5] (fun kk i wr => ∃ k q : Nat, k ≤ n ∧ i = .int .i64 k ∧ kk = .int .i64 (k0 + 2 * (q : Int)) ∧ q ≤ R ∧ Hid (q = CellSS.numTo x k) ∧ Blk wr G 42 cs ∧ Out lo hi w wr ∧ Hid (∀ (j : Nat) (u : List Cell), x[j]? = some u → ∃ xv, cs[j]? = some xv ∧ RowW wr lo hi xv u.length)) (fun _ i _ => n - (intOf i).toNat)
  case atStart => exact ⟨0, 0, Nat.zero_le _, rfl, by simp, Nat.zero_le _, Lib.hid rfl, hb, Out.refl _, HX⟩
  case round =>
    clear hb HX
    obtain ⟨k, q, hk, rfl, rfl, hqR, HQ, hb, ho, HX⟩ := hrel
    by_cases hlt : k < n
    · obtain ⟨u, hu⟩ : ∃ u, x[k]? = some u := ⟨x[k]'(by rw [← HN.out]; exact hlt), List.getElem?_eq_getElem _⟩
      obtain ⟨xv, hxv, hrow⟩ := HX.out k u hu
      have q1 : wr.cell? ⟨G, k, none⟩ = some xv := by rw [hb.cell]; exact hxv
      have HC := Lib.hid (markRow (k0 + 2 * (q : Int)) wr (HUL.out u (List.mem_of_getElem? hu)) (by omega) (by omega) hrow)
      have hsh : ∃ A c', xv = .slice A u.length c' := by
        rcases hrow with ⟨rfl, h0⟩ | ⟨g, c', _, rfl, _⟩
        · exact ⟨none, 0, by rw [h0]⟩
        · exact ⟨_, c', rfl⟩
      obtain ⟨Ax, cx, rfl⟩ := hsh
      obtain ⟨q2, hq2⟩ : ∃ q2, q2 = CellSS.numTo x (k + 1) := ⟨_, rfl⟩
      have hqq : q2 = q + u.length := by rw [hq2, CellSS.numTo_succ hu, HQ.out]
      have hq2R : q2 ≤ R := by rw [hq2, HR.out]; exact CellSS.numTo_le
      have HQ2 := Lib.hid hq2
      have HB := Lib.hid hb
      have hval : k0 + 2 * (q : Int) + 2 * (u.length : Int) = k0 + 2 * (q2 : Int) := by omega
      rw [hval] at HC
      clear hu hxv hrow hq2 hqq hval hb
      go_wp2_with fail
      refine (HC.out).mono ?_
      rintro e w3 ⟨rfl, o3, hG3, hr3⟩
      have HX3 : Hid (∀ (j : Nat) (u : List Cell), x[j]? = some u → ∃ xv, cs[j]? = some xv ∧ RowW w3 lo hi xv u.length) := Lib.hid fun j u hu => by
        obtain ⟨xv, h1, h2⟩ := HX.out j u hu
        exact ⟨xv, h1, hr3 _ _ h2⟩
      have hb3 := hG3 _ _ HB.out
      have ho3 := ho.trans o3
      clear hG3 hr3 o3 HC q1
      go_wp2
      go_roundw
      case rel => exact ⟨k + 1, q2, by omega, by go_num, rfl, hq2R, HQ2, hb3, ho3, HX3⟩
      case measure => simp [intOf]; omega
    · obtain rfl : k = n := by omega
      obtain rfl : q = R := by rw [HQ.out, HN.out, CellSS.numTo_end, HR.out]
      go_wp2
      go_ret
      exact ⟨rfl, ⟨rfl, rfl⟩, ho⟩
end Go.Proofs.YtccihgifdlpkgaaGreatDoor
