
/-
  The walks over tiles and over lists of shapes: the law's helpers.
-/
import Derived.Test.YtlfeognjnlppkaaDoorProg
import Derived.Test.YtlfeognjnlppkaaDoorEqV
import Derived.Test.YtlfeognjnlppkaaDoorLawCells
import Derived.Test.YtlfeognjnlppkaaDoorLawInts
namespace Go.Proofs.YtlfeognjnlppkaaDoor
open Go.RowKit

theorem fill4 {w w1 : World} {g T n k : Nat} {cs : Array Value} {xs : List Value} {u0 u1 u2 u3 : Value} (hb : Blk w1 g T cs) (hs : cs.size = n * 4) (hk : k < n) (h : cs.toList.take (k * 4) = xs.take (k * 4))
    (h0 : xs[k * 4]? = some u0) (h1 : xs[k * 4 + 1]? = some u1) (h2 : xs[k * 4 + 2]? = some u2) (h3 : xs[k * 4 + 3]? = some u3) (hbel : Below g w w1) :
    (∃ cs', Blk ((((w1.setCell ⟨g, k * 4, none⟩ u0).setCell ⟨g, k * 4 + 1, none⟩ u1).setCell ⟨g, k * 4 + 2, none⟩ u2).setCell ⟨g, k * 4 + 3, none⟩ u3) g T cs' ∧ cs'.size = n * 4 ∧ cs'.toList.take ((k + 1) * 4) = xs.take ((k + 1) * 4)) ∧
    Below g w ((((w1.setCell ⟨g, k * 4, none⟩ u0).setCell ⟨g, k * 4 + 1, none⟩ u1).setCell ⟨g, k * 4 + 2, none⟩ u2).setCell ⟨g, k * 4 + 3, none⟩ u3) := by
  refine ⟨⟨_, (((hb.set_ _ _).set_ _ _).set_ _ _).set_ _ _, by simp [hs], ?_⟩, (((hbel.setCell (Nat.le_refl _) _).setCell (Nat.le_refl _) _).setCell (Nat.le_refl _) _).setCell (Nat.le_refl _) _⟩
  rw [show (k + 1) * 4 = k * 4 + 3 + 1 by omega]
  exact fill_one (fill_one (fill_one (fill_one h (by omega) h0) (by simp; omega) h1) (by simp; omega) h2) (by simp; omega) h3
theorem wgc_length {l : List Wg} : (wgc l).length = l.length * 4 := fl4_length
set_option maxRecDepth 100000 in
theorem infoWang : (Tryd.prog.info? 43).map (fun i => (i.zero, i.size, i.bytes)) = some (some (.agg #[.int .i64 0, .int .i64 0, .int .i64 0, .int .i64 0]), 4, 32) := by kernel_rfl

set_option maxRecDepth 100000 in
set_option maxHeartbeats 400000 in
theorem toWang_any (a b c d : Int) (w : World) :
    Calls Tryd.prog 27 #[.agg #[.int .i64 a, .int .i64 b, .int .i64 c, .int .i64 d]] w fun e w' => e = .returned (.agg #[.int .i64 a, .int .i64 b, .int .i64 c, .int .i64 d]) ∧ Below w.heap.size w w' := by
  go_enter Tryd.func27, Tryd.ntmps27
  go_wp2
  refine bodyPost_ret (v := .agg #[.int .i64 a, .int .i64 b, .int .i64 c, .int .i64 d]) (by simp [results, Tryd.results27, go_sem]) rfl ⟨rfl, ?_⟩
  exact (((Below.refl _ _).alloc (Nat.le_refl _) _).alloc (by simp) _).alloc (by simp; omega) _
set_option maxRecDepth 100000 in
set_option maxHeartbeats 800000 in
theorem toWangS_c {v : Value} {l : List Wg} (w : World) (h : WangsRd w 0 w.heap.size v l) (hn : l.length ≤ 1048576) :
    Calls Tryd.prog 9 #[v] w fun e w' => ∃ v', e = .returned v' ∧ WangsIn w' w.heap.size w'.heap.size v' l ∧ Below w.heap.size w w' := by
  obtain ⟨A, c, rfl, hm, hr⟩ := h
  obtain ⟨i0, hi, hz0, hz1, hz2⟩ := info_parts infoWang
  obtain ⟨n, hx⟩ : ∃ n, n = l.length := ⟨_, rfl⟩
  rw [← hx] at hn hr
  have hmk := fun W => run_make_rowN (P := Tryd.prog) 27 43 i0 _ Tryd.underlying27 hi hz0 .i64 .i64 n n (Nat.le_refl _) (by rw [hz2]; omega) (by omega) W
  rw [hz1] at hmk
  rw [← hx]
  have Hll := Lib.hid hx
  clear hx hm
  go_enter Tryd.func9, Tryd.ntmps9
  go_wp2
  clear hmk
  go_loopw [4] (fun i wr => ∃ k : Nat, k ≤ n ∧ i = .int .i64 k ∧ (∃ cs, Blk wr w.heap.size 43 cs ∧ cs.size = n * 4 ∧ cs.toList.take (k * 4) = (wgc l).take (k * 4)) ∧ Below w.heap.size w wr) (fun i _ => n - (intOf i).toNat)
  case atStart => exact ⟨0, Nat.zero_le _, rfl, ⟨_, Blk.new _ _ _, by simp [size_madeCells], by simp⟩, (Below.refl _ _).alloc (Nat.le_refl _) _⟩
  case round =>
    obtain ⟨k, hk, rfl, ⟨cs, hblk, hcs, htk⟩, hbel⟩ := hrel
    by_cases hlt : k < n
    · obtain ⟨b, off, a, rfl, _, hb, hla, q1, q2, q3, q4⟩ := (hr.below hbel (Nat.le_refl _)).at4 hlt
      have HB := Lib.hid hblk
      clear hr hblk
      go_wp2_with fail
      refine (toWang_any _ _ _ _ _).mono ?_
      rintro e w1 ⟨rfl, hb1⟩
      have hblk1 := HB.out.below hb1 HB.out.lt
      have hlt1 := hblk1.lt
      obtain ⟨u0, g0⟩ : ∃ u, w1.cell? ⟨w.heap.size, k * 4, none⟩ = some u := ⟨_, by rw [hblk1.cell, Array.getElem?_eq_getElem (by omega)]⟩
      obtain ⟨u1, g1⟩ : ∃ u, w1.cell? ⟨w.heap.size, k * 4 + 1, none⟩ = some u := ⟨_, by rw [hblk1.cell, Array.getElem?_eq_getElem (by omega)]⟩
      obtain ⟨u2, g2⟩ : ∃ u, w1.cell? ⟨w.heap.size, k * 4 + 2, none⟩ = some u := ⟨_, by rw [hblk1.cell, Array.getElem?_eq_getElem (by omega)]⟩
      obtain ⟨u3, g3⟩ : ∃ u, w1.cell? ⟨w.heap.size, k * 4 + 3, none⟩ = some u := ⟨_, by rw [hblk1.cell, Array.getElem?_eq_getElem (by omega)]⟩
      have f0 := hblk1.frozen (k * 4)
      have f1 := hblk1.frozen (k * 4 + 1)
      have f2 := hblk1.frozen (k * 4 + 2)
      have f3 := hblk1.frozen (k * 4 + 3)
      have HB1 := Lib.hid hblk1
      have HC := Lib.hid hcs
      have HT := Lib.hid htk
      clear hblk1 HB hcs htk
      go_wp2
      go_roundw
      case rel =>
        have q := fl4_at (f := fun e : Wg => Value.int .i64 e.top) (g := fun e => .int .i64 e.right) (h := fun e => .int .i64 e.bottom) (i := fun e => .int .i64 e.left) hla
        have F := fill4 (w := w) HB1.out HC.out hlt HT.out q.1 q.2.1 q.2.2.1 q.2.2.2 (hbel.trans (hb1.mono hbel.size))
        exact ⟨k + 1, by omega, by go_num, F.1, F.2⟩
      case measure => simp [intOf]; omega
    · go_wp2
      go_ret
      have hkn : k = n := by omega
      subst hkn
      exact ⟨_, rfl, WangsIn.mk (own_of_blk hblk (Nat.le_refl _) hcs rfl (by unfold maxLen; omega)) Hll.out (by rw [htk, List.take_of_length_le (by rw [wgc_length, Hll.out]; exact Nat.le_refl _)]), hbel⟩
set_option maxRecDepth 100000 in
set_option maxHeartbeats 400000 in
theorem eqWang_same (a b c d : Int) (w : World) :
    Calls Tryd.prog 34 #[.agg #[.int .i64 a, .int .i64 b, .int .i64 c, .int .i64 d], .agg #[.int .i64 a, .int .i64 b, .int .i64 c, .int .i64 d]] w fun e w' => e = .returned (.bool true) ∧ Below w.heap.size w w' := by
  go_enter Tryd.func34, Tryd.ntmps34
  go_wp2
  go_ret
  exact ⟨rfl, ((Below.refl _ _).alloc (Nat.le_refl _) _).alloc (by simp) _⟩
set_option maxRecDepth 100000 in
set_option maxHeartbeats 800000 in
theorem eqWangS_c {v v' : Value} {l : List Wg} (w : World) (h : WangsRd w 0 w.heap.size v l) (h' : WangsRd w 0 w.heap.size v' l) :
    Calls Tryd.prog 11 #[v, v'] w fun e w' => e = .returned (.bool true) ∧ Below w.heap.size w w' := by
  obtain ⟨A, c, rfl, hm, hr⟩ := h
  obtain ⟨A', c', rfl, _, hr'⟩ := h'
  unfold maxLen at hm
  go_enter Tryd.func11, Tryd.ntmps11
  go_wp2
  go_loopw [5] (fun i wr => ∃ k : Nat, k ≤ l.length ∧ i = .int .i64 k ∧ Below w.heap.size w wr) (fun i _ => l.length - (intOf i).toNat)
  case atStart => exact ⟨0, Nat.zero_le _, rfl, Below.refl _ _⟩
  case round =>
    obtain ⟨k, hk, rfl, hbel⟩ := hrel
    by_cases hlt : k < l.length
    · obtain ⟨b, off, a, rfl, _, hb, hla, q1, q2, q3, q4⟩ := (hr.below hbel (Nat.le_refl _)).at4 hlt
      obtain ⟨b', off', a', rfl, _, hb', hla', q1', q2', q3', q4'⟩ := (hr'.below hbel (Nat.le_refl _)).at4 hlt
      obtain rfl : a = a' := by rw [hla] at hla'; injection hla'
      clear hr hr' hla hla'
      go_wp2_with fail
      go_still_tail 8, (by kernel_rfl)
      change wpList _ _ _ _ _ wr.drew
      have hbel2 := below_drew hbel
      generalize wr.drew = w2 at *
      go_wp2_with fail
      refine (eqWang_same _ _ _ _ _).mono ?_
      rintro e w1 ⟨rfl, hb1⟩
      go_wp2
      go_roundw
      case rel => exact ⟨k + 1, by omega, by go_num, hbel2.trans (hb1.mono hbel2.size)⟩
      case measure => simp [intOf]; omega
    · go_wp2
      go_ret
      exact ⟨rfl, hbel⟩
set_option maxRecDepth 100000 in
set_option maxHeartbeats 400000 in
theorem szWangS_c {v : Value} {x : List Wg} (l : Int) (w : World) (h : WangsRd w 0 w.heap.size v x) (h1 : 0 ≤ l) (h2 : l ≤ 1048576):
    Calls Tryd.prog 7 #[v, .int .i64 l] w fun e w' => e = .returned (.int .i64 (if l < x.length then -1 else l - x.length)) ∧ w = w' := by
  obtain ⟨A, c, rfl, hm, hr⟩ := h
  unfold maxLen at hm
  generalize x.length = n at *
  by_cases hn : l < n
  all_goals
    go_enter Tryd.func7, Tryd.ntmps7
    go_wp2
    go_ret
    exact ⟨rfl, rfl⟩

/-! lists of shapes -/
end Go.Proofs.YtlfeognjnlppkaaDoor
