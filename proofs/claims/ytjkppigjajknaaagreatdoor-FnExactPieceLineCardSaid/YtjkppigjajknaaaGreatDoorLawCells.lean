
/-
  The walks over cells: the law's helpers.
-/
import Derived.Test.YtjkppigjajknaaaGreatDoorProg
import Derived.Test.YtjkppigjajknaaaGreatDoorKinds
namespace Go.Proofs.YtjkppigjajknaaaGreatDoor
open Go.RowKit

set_option maxRecDepth 100000 in
set_option maxHeartbeats 400000 in
theorem toCell_any (x y : Int) (w : World) :
    Calls Tryz.prog 26 #[.agg #[.int .i64 x, .int .i64 y]] w fun e w' => e = .returned (.agg #[.int .i64 x, .int .i64 y]) ∧ Below w.heap.size w w' := by
  go_enter Tryz.func26, Tryz.ntmps26
  go_wp2
  refine bodyPost_ret (v := .agg #[.int .i64 x, .int .i64 y]) (by simp [results, Tryz.results26, go_sem]) rfl ⟨rfl, ?_⟩
  exact (((Below.refl _ _).alloc (Nat.le_refl _) _).alloc (by simp) _).alloc (by simp; omega) _
set_option maxRecDepth 100000 in
theorem infoCellL : (Tryz.prog.info? 49).map (fun i => (i.zero, i.size, i.bytes)) = some (some (.agg #[.int .i64 0, .int .i64 0]), 2, 16) := by kernel_rfl

set_option maxRecDepth 100000 in
set_option maxHeartbeats 400000 in
theorem toCellS_any (A : Option Addr) (n c : Nat) (l : List Cell) (w : World) (hn : n ≤ 1048576) (hr : Rd w 0 w.heap.size 2 A n (cc l)) :
    Calls Tryz.prog 7 #[.slice A n c] w fun e w' => ∃ v, e = .returned v ∧ w'.ownsRow w.heap.size 49 2 v n (cc l) ∧ Below w.heap.size w w' := by
  obtain ⟨i0, hi, hz0, hz1, hz2⟩ := info_parts infoCellL
  have hmk := fun W => run_make_rowN (P := Tryz.prog) 25 49 i0 _ Tryz.underlying25 hi hz0 .i64 .i64 n n (Nat.le_refl _) (by rw [hz2]; omega) (by omega) W
  rw [hz1] at hmk
  have hll : l.length = n := by have := hr.1; rw [cc_length] at this; omega
  go_enter Tryz.func7, Tryz.ntmps7
  go_wp2
  clear hmk
  go_loopw [4] (fun i wr => ∃ k : Nat, k ≤ n ∧ i = .int .i64 k ∧ (∃ cs, Blk wr w.heap.size 49 cs ∧ cs.size = n * 2 ∧ cs.toList.take (k * 2) = (cc l).take (k * 2)) ∧ Below w.heap.size w wr) (fun i _ => n - (intOf i).toNat)
  case atStart => exact ⟨0, Nat.zero_le _, rfl, ⟨_, Blk.new _ _ _, by simp [size_madeCells], by simp⟩, (Below.refl _ _).alloc (Nat.le_refl _) _⟩
  case round =>
    obtain ⟨k, hk, rfl, ⟨cs, hblk, hcs, htk⟩, hbel⟩ := hrel
    have Hll := Lib.hid hll
    clear hll
    by_cases hlt : k < n
    · obtain ⟨b, off, a, rfl, _, hb, hla, q1, q2⟩ := (hr.below hbel (Nat.le_refl _)).at2 hlt
      have HB := Lib.hid hblk
      clear hr hblk
      go_wp2_with fail
      refine (toCell_any _ _ _).mono ?_
      rintro e w1 ⟨rfl, hb1⟩
      have hblk1 := HB.out.below hb1 HB.out.lt
      have hlt1 := hblk1.lt
      obtain ⟨u0, g0⟩ : ∃ u, w1.cell? ⟨w.heap.size, k * 2, none⟩ = some u := ⟨_, by rw [hblk1.cell, Array.getElem?_eq_getElem (by omega)]⟩
      obtain ⟨u1, g1⟩ : ∃ u, w1.cell? ⟨w.heap.size, k * 2 + 1, none⟩ = some u := ⟨_, by rw [hblk1.cell, Array.getElem?_eq_getElem (by omega)]⟩
      have f0 := hblk1.frozen (k * 2)
      have f1 := hblk1.frozen (k * 2 + 1)
      have HB1 := Lib.hid hblk1
      have HC := Lib.hid hcs
      have HT := Lib.hid htk
      clear hblk1 HB hcs htk
      go_wp2
      go_roundw
      case rel =>
        have q := fl2_at (f := fun e : Cell => Value.int .i64 e.x) (g := fun e => .int .i64 e.y) hla
        have F := fill2 (w := w) HB1.out HC.out hlt HT.out q.1 q.2 (hbel.trans (hb1.mono hbel.size))
        exact ⟨k + 1, by omega, by go_num, F.1, F.2⟩
      case measure => simp [intOf]; omega
    · go_wp2
      go_ret
      have hkn : k = n := by omega
      subst hkn
      exact ⟨_, rfl, own_of_blk hblk (Nat.le_refl _) hcs (by rw [htk, List.take_of_length_le (by rw [cc_length]; have := Hll.out; omega)]) (by unfold maxLen; omega), hbel⟩
set_option maxRecDepth 100000 in
set_option maxHeartbeats 400000 in
theorem eqCell_same (x y : Int) (w : World) :
    Calls Tryz.prog 37 #[.agg #[.int .i64 x, .int .i64 y], .agg #[.int .i64 x, .int .i64 y]] w fun e w' => e = .returned (.bool true) ∧ Below w.heap.size w w' := by
  go_enter Tryz.func37, Tryz.ntmps37
  go_wp2
  go_ret
  exact ⟨rfl, ((Below.refl _ _).alloc (Nat.le_refl _) _).alloc (by simp) _⟩
set_option maxRecDepth 100000 in
set_option maxHeartbeats 400000 in
theorem eqCellS_same (A : Option Addr) (c : Nat) (A' : Option Addr) (c' : Nat) (n : Nat) (l : List Cell) (w : World) (hn : n ≤ maxLen) (hr : Rd w 0 w.heap.size 2 A n (cc l)) (hr' : Rd w 0 w.heap.size 2 A' n (cc l)) :
    Calls Tryz.prog 9 #[.slice A n c, .slice A' n c'] w fun e w' => e = .returned (.bool true) ∧ Below w.heap.size w w' := by
  unfold maxLen at hn
  go_enter Tryz.func9, Tryz.ntmps9
  go_wp2
  go_loopw [5] (fun i wr => ∃ k : Nat, k ≤ n ∧ i = .int .i64 k ∧ Below w.heap.size w wr) (fun i _ => n - (intOf i).toNat)
  case atStart => exact ⟨0, Nat.zero_le _, rfl, Below.refl _ _⟩
  case round =>
    obtain ⟨k, hk, rfl, hbel⟩ := hrel
    by_cases hlt : k < n
    · obtain ⟨b, off, a, rfl, _, hb, hla, q1, q2⟩ := (hr.below hbel (Nat.le_refl _)).at2 hlt
      obtain ⟨b', off', a', rfl, _, hb', hla', q1', q2'⟩ := (hr'.below hbel (Nat.le_refl _)).at2 hlt
      obtain rfl : a = a' := by rw [hla] at hla'; injection hla'
      clear hr hr' hla hla'
      go_wp2_with fail
      go_still_tail 8, (by kernel_rfl)
      change wpList _ _ _ _ _ wr.drew
      have hbel2 := below_drew hbel
      generalize wr.drew = w2 at *
      go_wp2_with fail
      refine (eqCell_same _ _ _).mono ?_
      rintro e w1 ⟨rfl, hb1⟩
      go_wp2
      go_roundw
      case rel => exact ⟨k + 1, by omega, by go_num, hbel2.trans (hb1.mono hbel2.size)⟩
      case measure => simp [intOf]; omega
    · go_wp2
      go_ret
      exact ⟨rfl, hbel⟩
set_option maxRecDepth 100000 in
set_option maxHeartbeats 400000 in
theorem szCellS_any (A : Option Addr) (n c : Nat) (l : Int) (w : World) (h : n ≤ maxLen) (h1 : 0 ≤ l) (h2 : l ≤ 1048576):
    Calls Tryz.prog 5 #[.slice A n c, .int .i64 l] w fun e w' => e = .returned (.int .i64 (if l < n then -1 else l - n)) ∧ w = w' := by
  unfold maxLen at h
  by_cases hn : l < n
  · go_enter Tryz.func5, Tryz.ntmps5
    go_wp2
    go_ret
    exact ⟨rfl, rfl⟩
  · go_enter Tryz.func5, Tryz.ntmps5
    go_wp2
    go_ret
    exact ⟨rfl, rfl⟩
set_option maxRecDepth 100000 in
theorem toCellS_c {v : Value} {x : List Cell} (w : World) (h : CellsRd w 0 w.heap.size v x) (hn : x.length ≤ 1048576) :
    Calls Tryz.prog 7 #[v] w fun e w' => ∃ v', e = .returned v' ∧ CellsIn w' w.heap.size w'.heap.size v' x ∧ Below w.heap.size w w' := by
  obtain ⟨A, c, rfl, hm, hr⟩ := h
  refine (toCellS_any A _ c x w hn hr).mono ?_
  rintro e w' ⟨v', rfl, ho, hb⟩
  exact ⟨v', rfl, CellsIn.mk ho rfl rfl, hb⟩
set_option maxRecDepth 100000 in
theorem eqCellS_c {v v' : Value} {x : List Cell} (w : World) (h : CellsRd w 0 w.heap.size v x) (h' : CellsRd w 0 w.heap.size v' x) :
    Calls Tryz.prog 9 #[v, v'] w fun e w' => e = .returned (.bool true) ∧ Below w.heap.size w w' := by
  obtain ⟨A, c, rfl, hm, hr⟩ := h
  obtain ⟨A', c', rfl, _, hr'⟩ := h'
  exact eqCellS_same A c A' c' _ x w hm hr hr'
set_option maxRecDepth 100000 in
theorem szCellS_c {v : Value} {x : List Cell} (l : Int) (w : World) (h : CellsRd w 0 w.heap.size v x) (h1 : 0 ≤ l) (h2 : l ≤ 1048576):
    Calls Tryz.prog 5 #[v, .int .i64 l] w fun e w' => e = .returned (.int .i64 (if l < x.length then -1 else l - x.length)) ∧ w = w' := by
  obtain ⟨A, c, rfl, hm, hr⟩ := h
  exact szCellS_any A _ c l w hm h1 h2
end Go.Proofs.YtjkppigjajknaaaGreatDoor
