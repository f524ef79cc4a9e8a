
/-
  The walks over cells: the law's helpers. The laws' helpers over []int and Region. The walks over tiles and over lists of shapes: the law's helpers. Helpers of the laws: a list of Wang tiles marked, and held. The walks over claims: the law's helpers. The walk over claims: a claim's copy. A claim's copy, and the capacity of its masks: a copy of LawClmX's walk of 'toClaim' with more said.
-/
import Derived.Test.YtppbkiajcpdkiaaGreatDoorProg
import Derived.Test.YtppbkiajcpdkiaaGreatDoorKinds
import Derived.Test.YtppbkiajcpdkiaaGreatDoorEqV
import Derived.Test.YtppbkiajcpdkiaaGreatDoorEqC
import Derived.Test.YtppbkiajcpdkiaaGreatDoorSepX
import Derived.Test.YtppbkiajcpdkiaaGreatDoorPlcX
import Derived.Deep.DeepCutAuto
namespace Go.Proofs.YtppbkiajcpdkiaaGreatDoor
open Go.RowKit

set_option maxRecDepth 100000 in
set_option maxHeartbeats 400000 in
theorem toCell_any (x y : Int) (w : World) :
    Calls Tryz.prog 177 #[.agg #[.int .i64 x, .int .i64 y]] w fun e w' => e = .returned (.agg #[.int .i64 x, .int .i64 y]) ∧ Below w.heap.size w w' := by
  go_enter Tryz.func177, Tryz.ntmps177
  go_wp2
  refine bodyPost_ret (v := .agg #[.int .i64 x, .int .i64 y]) (by simp [results, Tryz.results177, go_sem]) rfl ⟨rfl, ?_⟩
  exact (((Below.refl _ _).alloc (Nat.le_refl _) _).alloc (by simp) _).alloc (by simp; omega) _
set_option maxRecDepth 100000 in
theorem infoCellL : (Tryz.prog.info? 65).map (fun i => (i.zero, i.size, i.bytes)) = some (some (.agg #[.int .i64 0, .int .i64 0]), 2, 16) := by kernel_rfl

set_option maxRecDepth 100000 in
set_option maxHeartbeats 400000 in
theorem toCellS_any (A : Option Addr) (n c : Nat) (l : List Cell) (w : World) (hn : n ≤ 1048576) (hr : Rd w 0 w.heap.size 2 A n (cc l)) :
    Calls Tryz.prog 138 #[.slice A n c] w fun e w' => ∃ v, e = .returned v ∧ w'.ownsRow w.heap.size 65 2 v n (cc l) ∧ Below w.heap.size w w' := by
  obtain ⟨i0, hi, hz0, hz1, hz2⟩ := info_parts infoCellL
  have hmk := fun W => run_make_rowN (P := Tryz.prog) 24 65 i0 _ Tryz.underlying24 hi hz0 .i64 .i64 n n (Nat.le_refl _) (by rw [hz2]; omega) (by omega) W
  rw [hz1] at hmk
  have hll : l.length = n := by have := hr.1; rw [cc_length] at this; omega
  go_enter Tryz.func138, Tryz.ntmps138
  go_wp2
  clear hmk
  go_loopw [4] (fun i wr => ∃ k : Nat, k ≤ n ∧ i = .int .i64 k ∧ (∃ cs, Blk wr w.heap.size 65 cs ∧ cs.size = n * 2 ∧ cs.toList.take (k * 2) = (cc l).take (k * 2)) ∧ Below w.heap.size w wr) (fun i _ => n - (intOf i).toNat)
  case atStart => exact ⟨0, Nat.zero_le _, rfl, ⟨_, Blk.new _ _ _, by simp [size_madeCells], by simp⟩, (Below.refl _ _).alloc (Nat.le_refl _) _⟩
  case round =>
    obtain ⟨k, hk, rfl, ⟨cs, hblk, hcs, htk⟩, hbel⟩ := hrel
    have Hll := Lib.hid hll
    clear hll
    by_cases hlt : k < n
    · obtain ⟨b, off, a, rfl, _, hb, hla, q1, q2⟩ := (hr.below hbel (Nat.le_refl _)).at2 hlt
      have HB := Lib.hid hblk
      clear hr hblk
      go_wp2_with fail
      refine (toCell_any _ _ _).mono ?_
      rintro e w1 ⟨rfl, hb1⟩
      have hblk1 := HB.out.below hb1 HB.out.lt
      have hlt1 := hblk1.lt
      obtain ⟨u0, g0⟩ : ∃ u, w1.cell? ⟨w.heap.size, k * 2, none⟩ = some u := ⟨_, by rw [hblk1.cell, Array.getElem?_eq_getElem (by omega)]⟩
      obtain ⟨u1, g1⟩ : ∃ u, w1.cell? ⟨w.heap.size, k * 2 + 1, none⟩ = some u := ⟨_, by rw [hblk1.cell, Array.getElem?_eq_getElem (by omega)]⟩
      have f0 := hblk1.frozen (k * 2)
      have f1 := hblk1.frozen (k * 2 + 1)
      have HB1 := Lib.hid hblk1
      have HC := Lib.hid hcs
      have HT := Lib.hid htk
      clear hblk1 HB hcs htk
      go_wp2
      go_roundw
      case rel =>
        have q := fl2_at (f := fun e : Cell => Value.int .i64 e.x) (g := fun e => .int .i64 e.y) hla
        have F := fill2 (w := w) HB1.out HC.out hlt HT.out q.1 q.2 (hbel.trans (hb1.mono hbel.size))
        exact ⟨k + 1, by omega, by go_num, F.1, F.2⟩
      case measure => simp [intOf]; omega
    · go_wp2
      go_ret
      have hkn : k = n := by omega
      subst hkn
      exact ⟨_, rfl, own_of_blk hblk (Nat.le_refl _) hcs (by rw [htk, List.take_of_length_le (by rw [cc_length]; have := Hll.out; omega)]) (by unfold maxLen; omega), hbel⟩
set_option maxRecDepth 100000 in
set_option maxHeartbeats 400000 in
theorem eqCell_same (x y : Int) (w : World) :
    Calls Tryz.prog 183 #[.agg #[.int .i64 x, .int .i64 y], .agg #[.int .i64 x, .int .i64 y]] w fun e w' => e = .returned (.bool true) ∧ Below w.heap.size w w' := by
  go_enter Tryz.func183, Tryz.ntmps183
  go_wp2
  go_ret
  exact ⟨rfl, ((Below.refl _ _).alloc (Nat.le_refl _) _).alloc (by simp) _⟩
set_option maxRecDepth 100000 in
set_option maxHeartbeats 400000 in
theorem eqCellS_same (A : Option Addr) (c : Nat) (A' : Option Addr) (c' : Nat) (n : Nat) (l : List Cell) (w : World) (hn : n ≤ maxLen) (hr : Rd w 0 w.heap.size 2 A n (cc l)) (hr' : Rd w 0 w.heap.size 2 A' n (cc l)) :
    Calls Tryz.prog 150 #[.slice A n c, .slice A' n c'] w fun e w' => e = .returned (.bool true) ∧ Below w.heap.size w w' := by
  unfold maxLen at hn
  go_enter Tryz.func150, Tryz.ntmps150
  go_wp2
  go_loopw [5] (fun i wr => ∃ k : Nat, k ≤ n ∧ i = .int .i64 k ∧ Below w.heap.size w wr) (fun i _ => n - (intOf i).toNat)
  case atStart => exact ⟨0, Nat.zero_le _, rfl, Below.refl _ _⟩
  case round =>
    obtain ⟨k, hk, rfl, hbel⟩ := hrel
    by_cases hlt : k < n
    · obtain ⟨b, off, a, rfl, _, hb, hla, q1, q2⟩ := (hr.below hbel (Nat.le_refl _)).at2 hlt
      obtain ⟨b', off', a', rfl, _, hb', hla', q1', q2'⟩ := (hr'.below hbel (Nat.le_refl _)).at2 hlt
      obtain rfl : a = a' := by rw [hla] at hla'; injection hla'
      clear hr hr' hla hla'
      go_wp2_with fail
      go_still_tail 8, (by kernel_rfl)
      change wpList _ _ _ _ _ wr.drew
      have hbel2 := below_drew hbel
      generalize wr.drew = w2 at *
      go_wp2_with fail
      refine (eqCell_same _ _ _).mono ?_
      rintro e w1 ⟨rfl, hb1⟩
      go_wp2
      go_roundw
      case rel => exact ⟨k + 1, by omega, by go_num, hbel2.trans (hb1.mono hbel2.size)⟩
      case measure => simp [intOf]; omega
    · go_wp2
      go_ret
      exact ⟨rfl, hbel⟩
set_option maxRecDepth 100000 in
set_option maxHeartbeats 400000 in
theorem szCellS_any (A : Option Addr) (n c : Nat) (l : Int) (w : World) (h : n ≤ maxLen) (h1 : 0 ≤ l) (h2 : l ≤ 1048576):
    Calls Tryz.prog 128 #[.slice A n c, .int .i64 l] w fun e w' => e = .returned (.int .i64 (if l < n then -1 else l - n)) ∧ w = w' := by
  unfold maxLen at h
  by_cases hn : l < n
  · go_enter Tryz.func128, Tryz.ntmps128
    go_wp2
    go_ret
    exact ⟨rfl, rfl⟩
  · go_enter Tryz.func128, Tryz.ntmps128
    go_wp2
    go_ret
    exact ⟨rfl, rfl⟩
set_option maxRecDepth 100000 in
theorem toCellS_c {v : Value} {x : List Cell} (w : World) (h : CellsRd w 0 w.heap.size v x) (hn : x.length ≤ 1048576) :
    Calls Tryz.prog 138 #[v] w fun e w' => ∃ v', e = .returned v' ∧ CellsIn w' w.heap.size w'.heap.size v' x ∧ Below w.heap.size w w' := by
  obtain ⟨A, c, rfl, hm, hr⟩ := h
  refine (toCellS_any A _ c x w hn hr).mono ?_
  rintro e w' ⟨v', rfl, ho, hb⟩
  exact ⟨v', rfl, CellsIn.mk ho rfl rfl, hb⟩
set_option maxRecDepth 100000 in
theorem eqCellS_c {v v' : Value} {x : List Cell} (w : World) (h : CellsRd w 0 w.heap.size v x) (h' : CellsRd w 0 w.heap.size v' x) :
    Calls Tryz.prog 150 #[v, v'] w fun e w' => e = .returned (.bool true) ∧ Below w.heap.size w w' := by
  obtain ⟨A, c, rfl, hm, hr⟩ := h
  obtain ⟨A', c', rfl, _, hr'⟩ := h'
  exact eqCellS_same A c A' c' _ x w hm hr hr'
set_option maxRecDepth 100000 in
theorem szCellS_c {v : Value} {x : List Cell} (l : Int) (w : World) (h : CellsRd w 0 w.heap.size v x) (h1 : 0 ≤ l) (h2 : l ≤ 1048576):
    Calls Tryz.prog 128 #[v, .int .i64 l] w fun e w' => e = .returned (.int .i64 (if l < x.length then -1 else l - x.length)) ∧ w = w' := by
  obtain ⟨A, c, rfl, hm, hr⟩ := h
  exact szCellS_any A _ c l w hm h1 h2
end Go.Proofs.YtppbkiajcpdkiaaGreatDoor

namespace Go.Proofs.YtppbkiajcpdkiaaGreatDoor
open Go.RowKit

set_option maxRecDepth 100000 in
theorem infoInt : (Tryz.prog.info? 3).map (fun i => (i.zero, i.size, i.bytes)) = some (some (.int .i64 0), 1, 8) := by kernel_rfl

set_option maxRecDepth 100000 in
set_option maxHeartbeats 400000 in
theorem szIntS_c {v : Value} {x : List Int} (l : Int) (w : World) (h : IntsRd w 0 w.heap.size v x) (h1 : 0 ≤ l) (h2 : l ≤ 1048576):
    Calls Tryz.prog 66 #[v, .int .i64 l] w fun e w' => e = .returned (.int .i64 (if l < x.length then -1 else l - x.length)) ∧ w = w' := by
  obtain ⟨A, c, rfl, hm, hr⟩ := h
  unfold maxLen at hm
  generalize x.length = n at *
  by_cases hn : l < n
  all_goals
    go_enter Tryz.func66, Tryz.ntmps66
    go_wp2
    go_ret
    exact ⟨rfl, rfl⟩

set_option maxRecDepth 100000 in
set_option maxHeartbeats 400000 in
theorem toIntS_c {v : Value} {x : List Int} (w : World) (h : IntsRd w 0 w.heap.size v x) (hn : x.length ≤ 1048576) :
    Calls Tryz.prog 79 #[v] w fun e w' => ∃ v', e = .returned v' ∧ IntsIn w' w.heap.size w'.heap.size v' x ∧ Below w.heap.size w w' := by
  obtain ⟨A, c, rfl, hm, hr⟩ := h
  obtain ⟨n, hx⟩ : ∃ n, n = x.length := ⟨_, rfl⟩
  rw [← hx] at hn hr
  obtain ⟨i0, hi, hz0, hz1, hz2⟩ := info_parts infoInt
  have hmk := fun W => run_make_rowN (P := Tryz.prog) 27 3 i0 _ Tryz.underlying27 hi hz0 .i64 .i64 n n (Nat.le_refl _) (by rw [hz2]; omega) (by omega) W
  rw [hz1] at hmk
  rw [← hx]
  have Hx := Lib.hid hx
  clear hx hm
  go_enter Tryz.func79, Tryz.ntmps79
  go_wp2
  clear hmk
  go_loopw [4] (fun i wr => ∃ k : Nat, k ≤ n ∧ i = .int .i64 k ∧ (∃ cs, Blk wr w.heap.size 3 cs ∧ cs.size = n * 1 ∧ cs.toList.take (k * 1) = (ic x).take (k * 1)) ∧ Below w.heap.size w wr) (fun i _ => n - (intOf i).toNat)
  case atStart => exact ⟨0, Nat.zero_le _, rfl, ⟨_, Blk.new _ _ _, by simp [size_madeCells], by simp⟩, (Below.refl _ _).alloc (Nat.le_refl _) _⟩
  case round =>
    obtain ⟨k, hk, rfl, ⟨cs, hblk, hcs, htk⟩, hbel⟩ := hrel
    by_cases hlt : k < n
    · obtain ⟨b, off, a, rfl, _, hb, hla, q1⟩ := (hr.keep (SameIn.of_below hbel (Nat.le_refl _))).at1 hlt
      obtain ⟨u0, g0⟩ : ∃ u, wr.cell? ⟨w.heap.size, k, none⟩ = some u := ⟨_, by rw [hblk.cell, Array.getElem?_eq_getElem (by omega)]⟩
      have f0 := hblk.frozen k
      have hsz := hblk.lt
      have HB := Lib.hid hblk
      have HC := Lib.hid hcs
      have HT := Lib.hid htk
      clear hr hblk hcs htk
      go_wp2
      go_roundw
      case rel =>
        have F := fill1 (w := w) HB.out HC.out hlt HT.out (ic_at hla) hbel
        exact ⟨k + 1, by omega, by go_num, F.1, F.2⟩
      case measure => simp [intOf]; omega
    · go_wp2
      go_ret
      have hkn : k = n := by omega
      subst hkn
      exact ⟨_, rfl, IntsIn.mk (own_of_blk hblk (Nat.le_refl _) hcs rfl (by unfold maxLen; omega)) Hx.out (by rw [htk, List.take_of_length_le (by rw [ic_length, Nat.mul_one, Hx.out]; exact Nat.le_refl _)]), hbel⟩

set_option maxRecDepth 100000 in
set_option maxHeartbeats 400000 in
theorem eqIntS_c {v v' : Value} {x : List Int} (w : World) (h : IntsRd w 0 w.heap.size v x) (h' : IntsRd w 0 w.heap.size v' x) :
    Calls Tryz.prog 90 #[v, v'] w fun e w' => e = .returned (.bool true) ∧ Below w.heap.size w w' := by
  obtain ⟨A, c, rfl, hm, hr⟩ := h
  obtain ⟨A', c', rfl, _, hr'⟩ := h'
  obtain ⟨n, hx⟩ : ∃ n, n = x.length := ⟨_, rfl⟩
  rw [← hx] at hm hr hr' ⊢
  clear hx
  unfold maxLen at hm
  go_enter Tryz.func90, Tryz.ntmps90
  go_wp2
  go_loopw [5] (fun i wr => ∃ k : Nat, k ≤ n ∧ i = .int .i64 k ∧ Below w.heap.size w wr) (fun i _ => n - (intOf i).toNat)
  case atStart => exact ⟨0, Nat.zero_le _, rfl, Below.refl _ _⟩
  case round =>
    obtain ⟨k, hk, rfl, hbel⟩ := hrel
    by_cases hlt : k < n
    · obtain ⟨b, off, a, rfl, _, hb, hla, q1⟩ := (hr.keep (SameIn.of_below hbel (Nat.le_refl _))).at1 hlt
      obtain ⟨b', off', a', rfl, _, hb', hla', q1'⟩ := (hr'.keep (SameIn.of_below hbel (Nat.le_refl _))).at1 hlt
      obtain rfl : a = a' := by rw [hla] at hla'; injection hla'
      clear hr hr' hla hla'
      go_wp2_with fail
      go_quiet (fail)
      go_wp2
      go_roundw
      case rel => exact ⟨k + 1, by omega, by go_num, below_drewN hbel _⟩
      case measure => simp [intOf]; omega
    · go_wp2
      go_ret
      exact ⟨rfl, hbel⟩

/-! regions -/
set_option maxRecDepth 100000 in
set_option maxHeartbeats 400000 in
theorem szRegion_c {v : Value} {x : Reg} (l : Int) (w : World) (h : RegRd w 0 w.heap.size v x) (h1 : 0 ≤ l) (h2 : l ≤ 1048576) :
    Calls Tryz.prog 64 #[v, .int .i64 l] w fun e w' => e = .returned (.int .i64 (if l < x.rows.length then -1 else l - x.rows.length)) ∧ Below w.heap.size w w' := by
  obtain ⟨s, rfl, hs⟩ := h
  have hsn := hs
  obtain ⟨A, c, rfl, hm, hr⟩ := hs
  by_cases hn : l < x.rows.length
  all_goals
    go_enter Tryz.func64, Tryz.ntmps64
    go_wp2_with fail
    refine (szIntS_c _ _ ((hsn.keep (SameIn.alloc (Nat.le_refl _) _)).more (Nat.le_refl _) (by simp)) h1 h2).mono ?_
    rintro e w' ⟨rfl, rfl⟩
    first
      | rw [if_pos hn]
      | (have hn2 : ¬ l < x.rows.length := by omega
         rw [if_neg hn2])
    go_wp2
    go_ret
    exact ⟨rfl, (Below.refl _ _).alloc (Nat.le_refl _) _⟩

set_option maxRecDepth 100000 in
set_option maxHeartbeats 400000 in
theorem toRegion_c {v : Value} {x : Reg} (w : World) (h : RegRd w 0 w.heap.size v x) (hn : x.rows.length ≤ 1048576) :
    Calls Tryz.prog 77 #[v] w fun e w' => ∃ v', e = .returned v' ∧ RegIn w' w.heap.size w'.heap.size v' x ∧ Below w.heap.size w w' := by
  obtain ⟨s, rfl, hs⟩ := h
  go_enter Tryz.func77, Tryz.ntmps77
  go_wp2_with fail
  have hb0 : Below w.heap.size w (((w.alloc (.cells #[.int .i64 x.w, s] 45)).alloc (.cells #[.int .i64 0, .slice none 0 0] 29)).alloc (.cells #[.int .i64 x.w, .slice none 0 0] 29)) :=
    (((Below.refl _ _).alloc (Nat.le_refl _) _).alloc (by simp) _).alloc (by simp; omega) _
  have B1 : Blk (((w.alloc (.cells #[.int .i64 x.w, s] 45)).alloc (.cells #[.int .i64 0, .slice none 0 0] 29)).alloc (.cells #[.int .i64 x.w, .slice none 0 0] 29)) (w.heap.size + 1) 29 #[.int .i64 0, .slice none 0 0] := by
    have := (Blk.new (w.alloc (.cells #[.int .i64 x.w, s] 45)) 29 #[.int .i64 0, .slice none 0 0]).alloc (.cells #[.int .i64 x.w, .slice none 0 0] 29)
    simpa using this
  have B2 : Blk (((w.alloc (.cells #[.int .i64 x.w, s] 45)).alloc (.cells #[.int .i64 0, .slice none 0 0] 29)).alloc (.cells #[.int .i64 x.w, .slice none 0 0] 29)) (w.heap.size + 1 + 1) 29 #[.int .i64 x.w, .slice none 0 0] := by
    have := Blk.new ((w.alloc (.cells #[.int .i64 x.w, s] 45)).alloc (.cells #[.int .i64 0, .slice none 0 0] 29)) 29 #[.int .i64 x.w, .slice none 0 0]
    simpa using this
  have hsz : w.heap.size + 3 = (((w.alloc (.cells #[.int .i64 x.w, s] 45)).alloc (.cells #[.int .i64 0, .slice none 0 0] 29)).alloc (.cells #[.int .i64 x.w, .slice none 0 0] 29)).heap.size := by simp
  have hs3 := hs.keep (SameIn.of_below hb0 (Nat.le_refl _))
  generalize (((w.alloc (.cells #[.int .i64 x.w, s] 45)).alloc (.cells #[.int .i64 0, .slice none 0 0] 29)).alloc (.cells #[.int .i64 x.w, .slice none 0 0] 29)) = W3 at *
  refine (toIntS_c _ (hs3.more (Nat.le_refl _) (by omega)) hn).mono ?_
  rintro e w1 ⟨v', rfl, ho, hb1⟩
  have B1' := B1.below hb1 (by omega)
  have B2' := B2.below hb1 (by omega)
  have c10 := B1'.cell 0
  have c11 := B1'.cell 1
  have c20 := B2'.cell 0
  have c21 := B2'.cell 1
  have f10 := B1'.frozen 0
  have f11 := B1'.frozen 1
  have f20 := B2'.frozen 0
  have f21 := B2'.frozen 1
  simp at c10 c11 c20 c21
  have hsz' := hb1.size
  have HZ : w.heap.size + 3 ≤ W3.heap.size := by omega
  clear hsz B1 B2
  obtain ⟨A', c', rfl, _, _⟩ := ho.rd
  have Ho := Lib.hid ho
  clear ho
  go_wp2
  refine bodyPost_ret (v := .agg #[.int .i64 x.w, .slice A' x.rows.length c']) (by simp [results, Tryz.results77, go_sem, *]) rfl ⟨_, rfl, ?_⟩
  refine ⟨⟨_, rfl, ?_⟩, ?_⟩
  · have h1 := ((Ho.out.keep (SameIn.setCell (p := ⟨w.heap.size + 1 + 1, 1, none⟩) (by simp; omega) (.slice A' x.rows.length c'))).keep (SameIn.setCell (p := ⟨w.heap.size + 1, 0, none⟩) (by simp; omega) (.int .i64 x.w))).keep (SameIn.setCell (p := ⟨w.heap.size + 1, 1, none⟩) (by simp; omega) (.slice A' x.rows.length c'))
    exact OI.base h1 (by omega) (by simp)
  · exact ((((hb0.trans (hb1.mono (by omega))).setCell (by simp; omega) _).setCell (by simp) _).setCell (by simp) _)

set_option maxRecDepth 100000 in
set_option maxHeartbeats 400000 in
theorem eqRegion_c {v v' : Value} {x : Reg} (w : World) (h : RegRd w 0 w.heap.size v x) (h' : RegRd w 0 w.heap.size v' x) :
    Calls Tryz.prog 88 #[v, v'] w fun e w' => e = .returned (.bool true) ∧ Below w.heap.size w w' := by
  obtain ⟨s, rfl, hs⟩ := h
  obtain ⟨s', rfl, hs'⟩ := h'
  have hb0 : Below w.heap.size w ((w.alloc (.cells #[.int .i64 x.w, s] 29)).alloc (.cells #[.int .i64 x.w, s'] 29)) := ((Below.refl _ _).alloc (Nat.le_refl _) _).alloc (by simp) _
  go_enter Tryz.func88, Tryz.ntmps88
  go_wp2_with fail
  refine (eqIntS_c _ ((hs.keep (SameIn.of_below hb0 (Nat.le_refl _))).more (Nat.le_refl _) hb0.size) ((hs'.keep (SameIn.of_below hb0 (Nat.le_refl _))).more (Nat.le_refl _) hb0.size)).mono ?_
  rintro e w' ⟨rfl, hb1⟩
  go_wp2
  go_ret
  exact ⟨rfl, hb0.trans (hb1.mono hb0.size)⟩

end Go.Proofs.YtppbkiajcpdkiaaGreatDoor

namespace Go.Proofs.YtppbkiajcpdkiaaGreatDoor
open Go.RowKit

theorem fill4 {w w1 : World} {g T n k : Nat} {cs : Array Value} {xs : List Value} {u0 u1 u2 u3 : Value} (hb : Blk w1 g T cs) (hs : cs.size = n * 4) (hk : k < n) (h : cs.toList.take (k * 4) = xs.take (k * 4))
    (h0 : xs[k * 4]? = some u0) (h1 : xs[k * 4 + 1]? = some u1) (h2 : xs[k * 4 + 2]? = some u2) (h3 : xs[k * 4 + 3]? = some u3) (hbel : Below g w w1) :
    (∃ cs', Blk ((((w1.setCell ⟨g, k * 4, none⟩ u0).setCell ⟨g, k * 4 + 1, none⟩ u1).setCell ⟨g, k * 4 + 2, none⟩ u2).setCell ⟨g, k * 4 + 3, none⟩ u3) g T cs' ∧ cs'.size = n * 4 ∧ cs'.toList.take ((k + 1) * 4) = xs.take ((k + 1) * 4)) ∧
    Below g w ((((w1.setCell ⟨g, k * 4, none⟩ u0).setCell ⟨g, k * 4 + 1, none⟩ u1).setCell ⟨g, k * 4 + 2, none⟩ u2).setCell ⟨g, k * 4 + 3, none⟩ u3) := by
  refine ⟨⟨_, (((hb.set_ _ _).set_ _ _).set_ _ _).set_ _ _, by simp [hs], ?_⟩, (((hbel.setCell (Nat.le_refl _) _).setCell (Nat.le_refl _) _).setCell (Nat.le_refl _) _).setCell (Nat.le_refl _) _⟩
  rw [show (k + 1) * 4 = k * 4 + 3 + 1 by omega]
  exact fill_one (fill_one (fill_one (fill_one h (by omega) h0) (by simp; omega) h1) (by simp; omega) h2) (by simp; omega) h3
theorem wgc_length {l : List Wg} : (wgc l).length = l.length * 4 := fl4_length
set_option maxRecDepth 100000 in
theorem infoWang : (Tryz.prog.info? 132).map (fun i => (i.zero, i.size, i.bytes)) = some (some (.agg #[.int .i64 0, .int .i64 0, .int .i64 0, .int .i64 0]), 4, 32) := by kernel_rfl

set_option maxRecDepth 100000 in
set_option maxHeartbeats 400000 in
theorem toWang_any (a b c d : Int) (w : World) :
    Calls Tryz.prog 139 #[.agg #[.int .i64 a, .int .i64 b, .int .i64 c, .int .i64 d]] w fun e w' => e = .returned (.agg #[.int .i64 a, .int .i64 b, .int .i64 c, .int .i64 d]) ∧ Below w.heap.size w w' := by
  go_enter Tryz.func139, Tryz.ntmps139
  go_wp2
  refine bodyPost_ret (v := .agg #[.int .i64 a, .int .i64 b, .int .i64 c, .int .i64 d]) (by simp [results, Tryz.results139, go_sem]) rfl ⟨rfl, ?_⟩
  exact (((Below.refl _ _).alloc (Nat.le_refl _) _).alloc (by simp) _).alloc (by simp; omega) _
set_option maxRecDepth 100000 in
set_option maxHeartbeats 800000 in
theorem toWangS_c {v : Value} {l : List Wg} (w : World) (h : WangsRd w 0 w.heap.size v l) (hn : l.length ≤ 1048576) :
    Calls Tryz.prog 80 #[v] w fun e w' => ∃ v', e = .returned v' ∧ WangsIn w' w.heap.size w'.heap.size v' l ∧ Below w.heap.size w w' := by
  obtain ⟨A, c, rfl, hm, hr⟩ := h
  obtain ⟨i0, hi, hz0, hz1, hz2⟩ := info_parts infoWang
  obtain ⟨n, hx⟩ : ∃ n, n = l.length := ⟨_, rfl⟩
  rw [← hx] at hn hr
  have hmk := fun W => run_make_rowN (P := Tryz.prog) 52 132 i0 _ Tryz.underlying52 hi hz0 .i64 .i64 n n (Nat.le_refl _) (by rw [hz2]; omega) (by omega) W
  rw [hz1] at hmk
  rw [← hx]
  have Hll := Lib.hid hx
  clear hx hm
  go_enter Tryz.func80, Tryz.ntmps80
  go_wp2
  clear hmk
  go_loopw [4] (fun i wr => ∃ k : Nat, k ≤ n ∧ i = .int .i64 k ∧ (∃ cs, Blk wr w.heap.size 132 cs ∧ cs.size = n * 4 ∧ cs.toList.take (k * 4) = (wgc l).take (k * 4)) ∧ Below w.heap.size w wr) (fun i _ => n - (intOf i).toNat)
  case atStart => exact ⟨0, Nat.zero_le _, rfl, ⟨_, Blk.new _ _ _, by simp [size_madeCells], by simp⟩, (Below.refl _ _).alloc (Nat.le_refl _) _⟩
  case round =>
    obtain ⟨k, hk, rfl, ⟨cs, hblk, hcs, htk⟩, hbel⟩ := hrel
    by_cases hlt : k < n
    · obtain ⟨b, off, a, rfl, _, hb, hla, q1, q2, q3, q4⟩ := (hr.below hbel (Nat.le_refl _)).at4 hlt
      have HB := Lib.hid hblk
      clear hr hblk
      go_wp2_with fail
      refine (toWang_any _ _ _ _ _).mono ?_
      rintro e w1 ⟨rfl, hb1⟩
      have hblk1 := HB.out.below hb1 HB.out.lt
      have hlt1 := hblk1.lt
      obtain ⟨u0, g0⟩ : ∃ u, w1.cell? ⟨w.heap.size, k * 4, none⟩ = some u := ⟨_, by rw [hblk1.cell, Array.getElem?_eq_getElem (by omega)]⟩
      obtain ⟨u1, g1⟩ : ∃ u, w1.cell? ⟨w.heap.size, k * 4 + 1, none⟩ = some u := ⟨_, by rw [hblk1.cell, Array.getElem?_eq_getElem (by omega)]⟩
      obtain ⟨u2, g2⟩ : ∃ u, w1.cell? ⟨w.heap.size, k * 4 + 2, none⟩ = some u := ⟨_, by rw [hblk1.cell, Array.getElem?_eq_getElem (by omega)]⟩
      obtain ⟨u3, g3⟩ : ∃ u, w1.cell? ⟨w.heap.size, k * 4 + 3, none⟩ = some u := ⟨_, by rw [hblk1.cell, Array.getElem?_eq_getElem (by omega)]⟩
      have f0 := hblk1.frozen (k * 4)
      have f1 := hblk1.frozen (k * 4 + 1)
      have f2 := hblk1.frozen (k * 4 + 2)
      have f3 := hblk1.frozen (k * 4 + 3)
      have HB1 := Lib.hid hblk1
      have HC := Lib.hid hcs
      have HT := Lib.hid htk
      clear hblk1 HB hcs htk
      go_wp2
      go_roundw
      case rel =>
        have q := fl4_at (f := fun e : Wg => Value.int .i64 e.top) (g := fun e => .int .i64 e.right) (h := fun e => .int .i64 e.bottom) (i := fun e => .int .i64 e.left) hla
        have F := fill4 (w := w) HB1.out HC.out hlt HT.out q.1 q.2.1 q.2.2.1 q.2.2.2 (hbel.trans (hb1.mono hbel.size))
        exact ⟨k + 1, by omega, by go_num, F.1, F.2⟩
      case measure => simp [intOf]; omega
    · go_wp2
      go_ret
      have hkn : k = n := by omega
      subst hkn
      exact ⟨_, rfl, WangsIn.mk (own_of_blk hblk (Nat.le_refl _) hcs rfl (by unfold maxLen; omega)) Hll.out (by rw [htk, List.take_of_length_le (by rw [wgc_length, Hll.out]; exact Nat.le_refl _)]), hbel⟩
set_option maxRecDepth 100000 in
set_option maxHeartbeats 400000 in
theorem eqWang_same (a b c d : Int) (w : World) :
    Calls Tryz.prog 151 #[.agg #[.int .i64 a, .int .i64 b, .int .i64 c, .int .i64 d], .agg #[.int .i64 a, .int .i64 b, .int .i64 c, .int .i64 d]] w fun e w' => e = .returned (.bool true) ∧ Below w.heap.size w w' := by
  go_enter Tryz.func151, Tryz.ntmps151
  go_wp2
  go_ret
  exact ⟨rfl, ((Below.refl _ _).alloc (Nat.le_refl _) _).alloc (by simp) _⟩
set_option maxRecDepth 100000 in
set_option maxHeartbeats 800000 in
theorem eqWangS_c {v v' : Value} {l : List Wg} (w : World) (h : WangsRd w 0 w.heap.size v l) (h' : WangsRd w 0 w.heap.size v' l) :
    Calls Tryz.prog 91 #[v, v'] w fun e w' => e = .returned (.bool true) ∧ Below w.heap.size w w' := by
  obtain ⟨A, c, rfl, hm, hr⟩ := h
  obtain ⟨A', c', rfl, _, hr'⟩ := h'
  unfold maxLen at hm
  go_enter Tryz.func91, Tryz.ntmps91
  go_wp2
  go_loopw [5] (fun i wr => ∃ k : Nat, k ≤ l.length ∧ i = .int .i64 k ∧ Below w.heap.size w wr) (fun i _ => l.length - (intOf i).toNat)
  case atStart => exact ⟨0, Nat.zero_le _, rfl, Below.refl _ _⟩
  case round =>
    obtain ⟨k, hk, rfl, hbel⟩ := hrel
    by_cases hlt : k < l.length
    · obtain ⟨b, off, a, rfl, _, hb, hla, q1, q2, q3, q4⟩ := (hr.below hbel (Nat.le_refl _)).at4 hlt
      obtain ⟨b', off', a', rfl, _, hb', hla', q1', q2', q3', q4'⟩ := (hr'.below hbel (Nat.le_refl _)).at4 hlt
      obtain rfl : a = a' := by rw [hla] at hla'; injection hla'
      clear hr hr' hla hla'
      go_wp2_with fail
      go_still_tail 8, (by kernel_rfl)
      change wpList _ _ _ _ _ wr.drew
      have hbel2 := below_drew hbel
      generalize wr.drew = w2 at *
      go_wp2_with fail
      refine (eqWang_same _ _ _ _ _).mono ?_
      rintro e w1 ⟨rfl, hb1⟩
      go_wp2
      go_roundw
      case rel => exact ⟨k + 1, by omega, by go_num, hbel2.trans (hb1.mono hbel2.size)⟩
      case measure => simp [intOf]; omega
    · go_wp2
      go_ret
      exact ⟨rfl, hbel⟩
set_option maxRecDepth 100000 in
set_option maxHeartbeats 400000 in
theorem szWangS_c {v : Value} {x : List Wg} (l : Int) (w : World) (h : WangsRd w 0 w.heap.size v x) (h1 : 0 ≤ l) (h2 : l ≤ 1048576):
    Calls Tryz.prog 67 #[v, .int .i64 l] w fun e w' => e = .returned (.int .i64 (if l < x.length then -1 else l - x.length)) ∧ w = w' := by
  obtain ⟨A, c, rfl, hm, hr⟩ := h
  unfold maxLen at hm
  generalize x.length = n at *
  by_cases hn : l < n
  all_goals
    go_enter Tryz.func67, Tryz.ntmps67
    go_wp2
    go_ret
    exact ⟨rfl, rfl⟩

/-! lists of shapes -/
set_option maxRecDepth 100000 in
theorem infoSliceW : (Tryz.prog.info? 24).map (fun i => (i.zero, i.size, i.bytes)) = some (some (.slice none 0 0), 1, 24) := by kernel_rfl
/-- the first k places are laid -/
def Laid (wr : World) (lo k : Nat) (cs : Array Value) (l : List (List Cell)) : Prop := ∀ (j : Nat) (u : List Cell), j < k → l[j]? = some u → ∃ x, cs[j]? = some x ∧ CellsRd wr lo wr.heap.size x u
theorem Laid.step {wr w' : World} {lo k : Nat} {cs : Array Value} {l : List (List Cell)} (h : Laid wr lo k cs l) (hs : SameIn lo wr.heap.size wr w') (hz : wr.heap.size ≤ w'.heap.size) : Laid w' lo k cs l :=
  fun j u hj hu => by obtain ⟨x, h1, h2⟩ := h j u hj hu; exact ⟨x, h1, (h2.keep hs).more (Nat.le_refl _) hz⟩
set_option maxRecDepth 100000 in
set_option maxHeartbeats 800000 in
theorem toCellSSW_c {v : Value} {l : List (List Cell)} (w : World) (h : CellSSRd w 0 w.heap.size v l) (hn : l.length ≤ 1048576) (hnn : ∀ u ∈ l, u.length ≤ 1048576) :
    Calls Tryz.prog 78 #[v] w fun e w' => ∃ v', e = .returned v' ∧ CellSSRd w' w.heap.size w'.heap.size v' l ∧ Below w.heap.size w w' := by
  obtain ⟨vs, ⟨A, c, rfl, hm, hr⟩, hvs⟩ := h
  obtain ⟨i0, hi, hz0, hz1, hz2⟩ := info_parts infoSliceW
  obtain ⟨n, hx⟩ : ∃ n, n = l.length := ⟨_, rfl⟩
  rw [← hx] at hn hr
  have hmk := fun W => run_make_rowN (P := Tryz.prog) 39 24 i0 _ Tryz.underlying39 hi hz0 .i64 .i64 n n (Nat.le_refl _) (by rw [hz2]; omega) (by omega) W
  rw [hz1] at hmk
  rw [← hx]
  have Hll := Lib.hid hx
  clear hx hm
  go_enter Tryz.func78, Tryz.ntmps78
  go_wp2
  clear hmk
  go_loopw [4] (fun i wr => ∃ k : Nat, k ≤ n ∧ i = .int .i64 k ∧ (∃ cs, Blk wr w.heap.size 24 cs ∧ cs.size = n * 1 ∧ Laid wr (w.heap.size + 1) k cs l) ∧ Below w.heap.size w wr) (fun i _ => n - (intOf i).toNat)
  case atStart => exact ⟨0, Nat.zero_le _, rfl, ⟨_, Blk.new _ _ _, by simp [size_madeCells], fun j u hj => absurd hj (by omega)⟩, (Below.refl _ _).alloc (Nat.le_refl _) _⟩
  case round =>
    obtain ⟨k, hk, rfl, ⟨cs, hblk, hcs, htk⟩, hbel⟩ := hrel
    by_cases hlt : k < n
    · obtain ⟨b, off, u, x, rfl, _, hb, hla, q1, hx⟩ := (hr.below hbel (Nat.le_refl _)).slot (hvs.keep (SameIn.of_below hbel (Nat.le_refl _))) Hll.out hlt
      have hul := hnn u (List.mem_of_getElem? hla)
      have hgs := hblk.lt
      replace hx := hx.more (Nat.le_refl _) hbel.size
      have HB := Lib.hid hblk
      have HLA := Lib.hid hla
      have HC := Lib.hid hcs
      have HT := Lib.hid htk
      clear hr hblk hvs hnn hla hcs htk
      go_wp2_with fail
      refine (toCellS_c (x := u) wr hx hul).mono ?_
      rintro e w1 ⟨v1, rfl, o1, hb1⟩
      obtain ⟨A1, c1, rfl, _, _⟩ := o1.rd
      have hblk1 := HB.out.below hb1 HB.out.lt
      have hlt1 := hblk1.lt
      obtain ⟨u0, g0⟩ : ∃ u, w1.cell? ⟨w.heap.size, k, none⟩ = some u := ⟨_, by rw [hblk1.cell, Array.getElem?_eq_getElem (by have := HC.out; omega)]⟩
      have f0 := hblk1.frozen k
      have HB1 := Lib.hid hblk1
      have HO := Lib.hid o1
      clear hblk1 HB hx o1
      go_wp2
      go_roundw
      case rel =>
        have hs1 := (HT.out.step (SameIn.of_below hb1 (Nat.le_refl _)) hb1.size)
        have hsame : SameIn (w.heap.size + 1) w1.heap.size w1 (w1.setCell ⟨w.heap.size, k, none⟩ (.slice A1 u.length c1)) := SameIn.setCell (p := ⟨w.heap.size, k, none⟩) (.inl (Nat.lt_succ_self w.heap.size)) (.slice A1 u.length c1)
        have hs2 := hs1.step hsame (by simp [World.setCell])
        refine ⟨k + 1, by omega, by go_num, ⟨cs.setIfInBounds k (.slice A1 u.length c1), HB1.out.set_ k (.slice A1 u.length c1), by simpa using HC.out, fun j d hj hd => ?_⟩, (hbel.trans (hb1.mono hbel.size)).setCell (Nat.le_refl _) (.slice A1 u.length c1)⟩
        by_cases e : j = k
        · subst e
          rw [HLA.out] at hd
          injection hd with hd
          subst hd
          refine ⟨(.slice A1 u.length c1), by rw [Array.getElem?_setIfInBounds]; have := HC.out; simp; omega, ?_⟩
          exact (((HO.out.rd).more (by omega) (Nat.le_refl _)).keep hsame).more (Nat.le_refl _) (by simp [World.setCell])
        · obtain ⟨x, h1, h2⟩ := hs2 j d (by omega) hd
          exact ⟨x, by rw [Array.getElem?_setIfInBounds, if_neg (fun h => e h.symm)]; exact h1, h2⟩
      case measure => simp [intOf]; omega
    · go_wp2
      go_ret
      have hkn : k = n := by omega
      subst hkn
      have hkl := Hll.out
      refine ⟨_, rfl, ⟨cs.toList, ⟨some ⟨w.heap.size, 0, none⟩, k, by rw [← hkl]; rfl, by rw [← Hll.out]; unfold maxLen; omega, by rw [← Hll.out]; simpa using hcs, fun _ => ⟨w.heap.size, 0, rfl, Nat.le_refl _, hblk.lt, fun j u hu => by rw [hblk.cell]; simpa using hu⟩⟩, by rw [← Hll.out]; simpa using hcs, fun i u hu => ?_⟩, hbel⟩
      obtain ⟨x, h1, h2⟩ := htk i u (by have := (List.getElem?_eq_some_iff.1 hu).1; have := Hll.out; omega) hu
      exact ⟨x, by simpa using h1, h2.more (by omega) (Nat.le_refl _)⟩
set_option maxRecDepth 100000 in
set_option maxHeartbeats 800000 in
theorem eqCellSSW_c {v v' : Value} {a : List (List Cell)} (w : World) (h : CellSSRd w 0 w.heap.size v a) (h' : CellSSRd w 0 w.heap.size v' a) :
    Calls Tryz.prog 89 #[v, v'] w fun e w' => e = .returned (.bool true) ∧ Below w.heap.size w w' := by
  obtain ⟨vs, ⟨A, c, rfl, hm, hr⟩, hvs⟩ := h
  obtain ⟨vs', ⟨A', c', rfl, hm', hr'⟩, hvs'⟩ := h'
  unfold maxLen at hm
  go_enter Tryz.func89, Tryz.ntmps89
  go_wp2
  go_loopw [5] (fun i wr => ∃ k : Nat, k ≤ a.length ∧ i = .int .i64 k ∧ Below w.heap.size w wr) (fun i _ => a.length - (intOf i).toNat)
  case atStart => exact ⟨0, Nat.zero_le _, rfl, Below.refl _ _⟩
  case round =>
    obtain ⟨k, hk, rfl, hbel⟩ := hrel
    by_cases hlt : k < a.length
    · obtain ⟨bb, off, x, vx, rfl, _, hb, hla, q1, hx⟩ := (hr.below hbel (Nat.le_refl _)).slot (hvs.keep (SameIn.of_below hbel (Nat.le_refl _))) rfl hlt
      obtain ⟨bb', off', y, vy, rfl, _, hb', hla', q1', hy⟩ := (hr'.below hbel (Nat.le_refl _)).slot (hvs'.keep (SameIn.of_below hbel (Nat.le_refl _))) rfl hlt
      obtain rfl : x = y := by rw [hla] at hla'; injection hla'
      replace hx := hx.more (Nat.le_refl _) hbel.size
      replace hy := hy.more (Nat.le_refl _) hbel.size
      clear hr hr' hla hla' hvs hvs'
      go_wp2_with fail
      go_still_tail 8, (by kernel_rfl)
      change wpList _ _ _ _ _ wr.drew
      have hbel2 := below_drew hbel
      clear q1 q1'
      go_wp2_with fail
      refine (eqCellS_c (x := x) wr.drew hx hy).mono ?_
      rintro e w2 ⟨rfl, b2⟩
      have hbel3 := hbel2.trans (b2.mono hbel2.size)
      clear hbel2 b2 hx hy
      go_wp2
      go_roundw
      case rel => exact ⟨k + 1, by omega, by go_num, hbel3⟩
      case measure => simp [intOf]; omega
    · go_wp2
      go_ret
      exact ⟨rfl, hbel⟩
set_option maxRecDepth 100000 in
set_option maxHeartbeats 800000 in
theorem szCellSSW_c {v : Value} {x : List (List Cell)} (l : Int) (w : World) (h : CellSSRd w 0 w.heap.size v x) (h1 : 0 ≤ l) (h2 : l ≤ 1048576):
    Calls Tryz.prog 65 #[v, .int .i64 l] w fun e w' => ∃ m : Int, e = .returned (.int .i64 m) ∧ -1 ≤ m ∧ m ≤ l ∧ (0 ≤ m → x.length ≤ 1048576 ∧ ∀ u ∈ x, u.length ≤ 1048576) ∧ w = w' := by
  obtain ⟨vs, ⟨A, c, rfl, hm, hr⟩, hvs⟩ := h
  unfold maxLen at hm
  by_cases hn : l < x.length
  · go_enter Tryz.func65, Tryz.ntmps65
    go_wp2
    go_ret
    exact ⟨-1, rfl, by omega, by omega, fun h => absurd h (by omega), rfl⟩
  · go_enter Tryz.func65, Tryz.ntmps65
    go_wp2
    go_loopw [1, 5] (fun lv i wr => ∃ (k : Nat) (m : Int), k ≤ x.length ∧ i = .int .i64 k ∧ lv = .int .i64 m ∧ 0 ≤ m ∧ m ≤ l ∧ wr = w ∧ Hid (∀ (j : Nat) (u : List Cell), j < k → x[j]? = some u → u.length ≤ 1048576)) (fun _ i _ => x.length - (intOf i).toNat)
    case atStart => exact ⟨0, _, Nat.zero_le _, rfl, rfl, by omega, by omega, rfl, Lib.hid fun j u h => absurd h (by omega)⟩
    case round =>
      obtain ⟨k, m, hk, rfl, rfl, hm0, hml, rfl, HA⟩ := hrel
      by_cases hlt : k < x.length
      · obtain ⟨b, off, u, xv, rfl, _, hb, hla, q1, hx⟩ := hr.slot hvs rfl hlt
        have HLA := Lib.hid hla
        clear hr hvs hla
        go_wp2_with fail
        refine (szCellS_c (x := u) m wr hx hm0 (by omega)).mono ?_
        rintro e w' ⟨rfl, rfl⟩
        by_cases hlu : m < u.length
        · rw [if_pos hlu]
          go_wp2
          go_ret
          exact ⟨-1, rfl, by omega, by omega, fun h => absurd h (by omega), rfl⟩
        · rw [if_neg hlu]
          obtain ⟨m', hm'⟩ : ∃ m' : Int, m' = m - u.length := ⟨_, rfl⟩
          rw [← hm']
          have hm0' : 0 ≤ m' := by omega
          have hml' : m' ≤ l := by omega
          have hul : u.length ≤ 1048576 := by omega
          have HUL := Lib.hid hul
          clear hm' hlu hul
          go_wp2
          go_roundw
          case rel => exact ⟨k + 1, m', by omega, by go_num, rfl, by omega, by omega, trivial, Lib.hid fun j d hj hd => by
            by_cases e : j = k
            · subst e; rw [HLA.out] at hd; injection hd with hd; subst hd; exact HUL.out
            · exact HA.out j d (by omega) hd⟩
          case measure => simp [intOf]; omega
      · go_wp2
        go_ret
        refine ⟨m, rfl, by omega, by omega, fun _ => ⟨by omega, fun u hu => ?_⟩, rfl⟩
        obtain ⟨j, hj, rfl⟩ := List.getElem_of_mem hu
        exact HA.out j _ (by omega) (List.getElem?_eq_getElem hj)
end Go.Proofs.YtppbkiajcpdkiaaGreatDoor

namespace Go.Proofs.YtppbkiajcpdkiaaGreatDoor
open Go.RowKit

theorem mark4 {w w1 : World} {g T m k : Nat} {cs : Array Value} {xs : List Value} {u0 u1 u2 u3 : Value} (hb : Blk w1 g T cs) (hs : cs.size = m) (hk : k * 4 + 4 ≤ m) (h : cs.toList.take (k * 4) = xs.take (k * 4))
    (h0 : xs[k * 4]? = some u0) (h1 : xs[k * 4 + 1]? = some u1) (h2 : xs[k * 4 + 2]? = some u2) (h3 : xs[k * 4 + 3]? = some u3) (hg : w.grownBy w1 (some g)) :
    w.grownBy ((((w1.setCell ⟨g, k * 4, none⟩ u0).setCell ⟨g, k * 4 + 1, none⟩ u1).setCell ⟨g, k * 4 + 2, none⟩ u2).setCell ⟨g, k * 4 + 3, none⟩ u3) (some g) ∧
    (∃ cs', Blk ((((w1.setCell ⟨g, k * 4, none⟩ u0).setCell ⟨g, k * 4 + 1, none⟩ u1).setCell ⟨g, k * 4 + 2, none⟩ u2).setCell ⟨g, k * 4 + 3, none⟩ u3) g T cs' ∧ cs'.size = m ∧ cs'.toList.take ((k + 1) * 4) = xs.take ((k + 1) * 4)) := by
  refine ⟨only_setCell (only_setCell (only_setCell (only_setCell hg (.inl rfl) _) (.inl rfl) _) (.inl rfl) _) (.inl rfl) _, ⟨_, (((hb.set_ _ _).set_ _ _).set_ _ _).set_ _ _, by simp [hs], ?_⟩⟩
  rw [show (k + 1) * 4 = k * 4 + 3 + 1 by omega]
  exact fill_one (fill_one (fill_one (fill_one h (by omega) h0) (by simp; omega) h1) (by simp; omega) h2) (by simp; omega) h3
def Wgs.mk (k : Int) (l : List Wg) : List Wg := (List.range l.length).map fun i : Nat => ⟨k + 4 * (i : Int), k + 4 * (i : Int) + 1, k + 4 * (i : Int) + 1 + 1, k + 4 * (i : Int) + 1 + 1 + 1⟩
theorem Wgs.mk_length {k : Int} {l : List Wg} : (Wgs.mk k l).length = l.length := by simp [Wgs.mk]
theorem Wgs.mk_at {k : Int} {l : List Wg} {i : Nat} (h : i < l.length) : (Wgs.mk k l)[i]? = some ⟨k + 4 * (i : Int), k + 4 * (i : Int) + 1, k + 4 * (i : Int) + 1 + 1, k + 4 * (i : Int) + 1 + 1 + 1⟩ := by simp [Wgs.mk, h]
theorem wgc_at {l : List Wg} {k : Nat} {a : Wg} (h : l[k]? = some a) : (wgc l)[k * 4]? = some (.int .i64 a.top) ∧ (wgc l)[k * 4 + 1]? = some (.int .i64 a.right) ∧ (wgc l)[k * 4 + 2]? = some (.int .i64 a.bottom) ∧ (wgc l)[k * 4 + 3]? = some (.int .i64 a.left) := fl4_at h

end Go.Proofs.YtppbkiajcpdkiaaGreatDoor

namespace Go.Proofs.YtppbkiajcpdkiaaGreatDoor
open Go.RowKit

theorem Sep.setAll {w0 w : World} {g : Nat} {t : TypeId} {cs : Array Value} {L : List Res} (h : Sep w0 w (Res.box g t cs :: L)) (cs' : Array Value) : Sep w0 (w.setRow g cs') (Res.box g t cs' :: L) :=
  h.turn ⟨rfl, rfl, rfl, by simp, fun b _ hd => setRow_other w g b cs' hd⟩ (setRow_heap w g cs cs' t (0, 0) h.1) fun _ hb => .inl hb
theorem Sep.p3' {w0 w : World} {a b c d : Res} {L : List Res} (h : Sep w0 w (d :: a :: b :: c :: L)) : Sep w0 w (a :: b :: c :: d :: L) := h.p3

def SzOk (a : Clm) : Prop := a.reg.rows.length ≤ 1048576 ∧ a.pieces.length ≤ 1048576 ∧ (∀ u ∈ a.pieces, u.length ≤ 1048576) ∧ a.masks.length ≤ 1048576 ∧ a.weights.length ≤ 1048576 ∧ a.wang.length ≤ 1048576
def SzPost (a : Clm) (l : Int) (w : World) (e : Ending) (w' : World) : Prop := ∃ m : Int, e = .returned (.int .i64 m) ∧ -1 ≤ m ∧ m ≤ l ∧ (0 ≤ m → SzOk a) ∧ Below w.heap.size w w'

set_option maxRecDepth 100000 in
set_option maxHeartbeats 3200000 in
theorem szClaim_c {v : Value} {a : Clm} (l : Int) (w : World) (h : ClmRd w 0 w.heap.size v a) (ht : a.text.size ≤ maxLen) (h1 : 0 ≤ l) (h2 : l ≤ 1048576) :
    Calls Tryz.prog 23 #[v, .int .i64 l] w (SzPost a l w) := by
  obtain ⟨s1, s2, s3, s4, s5, rfl, g1, g2, g3, g4, g5⟩ := h
  unfold clmV
  unfold maxLen at ht
  have H := (Sep.start w).box 49 #[.int .i64 a.kind, .int .i64 a.reg.w, s1, s2, s3, .string a.text, .int .i64 a.prime, s4, .int .i64 a.mask, s5, .int .i64 a.width, .int .i64 a.height]
  have c1 : (w.alloc (.cells #[.int .i64 a.kind, .int .i64 a.reg.w, s1, s2, s3, .string a.text, .int .i64 a.prime, s4, .int .i64 a.mask, s5, .int .i64 a.width, .int .i64 a.height] 49)).cell? ⟨w.heap.size, 1, none⟩ = some (.int .i64 a.reg.w) := H.h0.cell 1
  have c2 : (w.alloc (.cells #[.int .i64 a.kind, .int .i64 a.reg.w, s1, s2, s3, .string a.text, .int .i64 a.prime, s4, .int .i64 a.mask, s5, .int .i64 a.width, .int .i64 a.height] 49)).cell? ⟨w.heap.size, 2, none⟩ = some (s1) := H.h0.cell 2
  go_enter Tryz.func23, Tryz.ntmps23
  go_wp2_with fail
  clear c1 c2
  generalize (w.alloc (.cells #[.int .i64 a.kind, .int .i64 a.reg.w, s1, s2, s3, .string a.text, .int .i64 a.prime, s4, .int .i64 a.mask, s5, .int .i64 a.width, .int .i64 a.height] 49)) = W at *
  refine (szRegion_c (x := a.reg) l W ⟨s1, rfl, ((g1.keep (SameIn.of_below H.below (Nat.le_refl _))).more (Nat.le_refl _) H.size)⟩ h1 h2).mono ?_
  rintro e w1 ⟨rfl, b1⟩
  have H1 := H.step b1
  clear b1 H
  by_cases k1 : l < a.reg.rows.length
  · rw [if_pos k1]
    go_wp2
    go_ret
    exact ⟨-1, rfl, by omega, by omega, fun h => absurd h (by omega), H1.below⟩
  rw [if_neg k1]
  obtain ⟨m1, hm1⟩ : ∃ m1 : Int, m1 = l - a.reg.rows.length := ⟨_, rfl⟩
  rw [← hm1]
  have j1 : 0 ≤ m1 := by omega
  have i1 : m1 ≤ l := by omega
  have r1 : a.reg.rows.length ≤ 1048576 := by omega
  clear hm1 k1
  have c3 : w1.cell? ⟨w.heap.size, 3, none⟩ = some (s2) := H1.h0.cell 3
  go_wp2_with fail
  clear c3
  refine (szCellSSW_c (x := a.pieces) m1 w1 ((g2.keep (SameIn.of_below H1.below (Nat.le_refl _))).more (Nat.le_refl _) H1.size) j1 (by omega)).mono ?_
  rintro e w2 ⟨m2, rfl, j2, i2, r2, rfl⟩
  by_cases k2 : m2 < 0
  · go_wp2
    go_ret
    exact ⟨-1, rfl, by omega, by omega, fun h => absurd h (by omega), H1.below⟩
  have j2' : 0 ≤ m2 := by omega
  replace r2 := r2 j2'
  have R2 := Lib.hid r2.2
  replace r2 := r2.1
  clear k2
  have c4 : w1.cell? ⟨w.heap.size, 4, none⟩ = some (s3) := H1.h0.cell 4
  go_wp2_with fail
  clear c4
  refine (szIntS_c (x := a.masks) m2 w1 ((g3.keep (SameIn.of_below H1.below (Nat.le_refl _))).more (Nat.le_refl _) H1.size) (by omega) (by omega)).mono ?_
  rintro e w' ⟨rfl, rfl⟩
  by_cases k3 : m2 < a.masks.length
  · rw [if_pos k3]
    go_wp2
    go_ret
    exact ⟨-1, rfl, by omega, by omega, fun h => absurd h (by omega), H1.below⟩
  rw [if_neg k3]
  obtain ⟨m3, hm3⟩ : ∃ m3 : Int, m3 = m2 - a.masks.length := ⟨_, rfl⟩
  rw [← hm3]
  have j3 : 0 ≤ m3 := by omega
  have i3 : m3 ≤ l := by omega
  have r3 : a.masks.length ≤ 1048576 := by omega
  clear hm3 k3
  have c5 : w1.cell? ⟨w.heap.size, 5, none⟩ = some (.string a.text) := H1.h0.cell 5
  have c7 : w1.cell? ⟨w.heap.size, 7, none⟩ = some (s4) := H1.h0.cell 7
  by_cases k4 : m3 - (a.text.size : Int) < 0
  · go_wp2
    go_ret
    exact ⟨-1, rfl, by omega, by omega, fun h => absurd h (by omega), H1.below⟩
  go_wp2_with fail
  clear c5 c7
  obtain ⟨m4, hm4⟩ : ∃ m4 : Int, m4 = m3 - a.text.size := ⟨_, rfl⟩
  rw [← hm4]
  have j4 : 0 ≤ m4 := by omega
  have i4 : m4 ≤ l := by omega
  clear hm4 k4
  refine (szIntS_c (x := a.weights) m4 w1 ((g4.keep (SameIn.of_below H1.below (Nat.le_refl _))).more (Nat.le_refl _) H1.size) (by omega) (by omega)).mono ?_
  rintro e w' ⟨rfl, rfl⟩
  by_cases k5 : m4 < a.weights.length
  · rw [if_pos k5]
    go_wp2
    go_ret
    exact ⟨-1, rfl, by omega, by omega, fun h => absurd h (by omega), H1.below⟩
  rw [if_neg k5]
  obtain ⟨m5, hm5⟩ : ∃ m5 : Int, m5 = m4 - a.weights.length := ⟨_, rfl⟩
  rw [← hm5]
  have j5 : 0 ≤ m5 := by omega
  have i5 : m5 ≤ l := by omega
  have r5 : a.weights.length ≤ 1048576 := by omega
  clear hm5 k5
  have c9 : w1.cell? ⟨w.heap.size, 9, none⟩ = some (s5) := H1.h0.cell 9
  go_wp2_with fail
  clear c9
  refine (szWangS_c (x := a.wang) m5 w1 ((g5.keep (SameIn.of_below H1.below (Nat.le_refl _))).more (Nat.le_refl _) H1.size) (by omega) (by omega)).mono ?_
  rintro e w' ⟨rfl, rfl⟩
  by_cases k6 : m5 < a.wang.length
  · rw [if_pos k6]
    go_wp2
    go_ret
    exact ⟨-1, rfl, by omega, by omega, fun h => absurd h (by omega), H1.below⟩
  rw [if_neg k6]
  obtain ⟨m6, hm6⟩ : ∃ m6 : Int, m6 = m5 - a.wang.length := ⟨_, rfl⟩
  rw [← hm6]
  have j6 : 0 ≤ m6 := by omega
  have i6 : m6 ≤ l := by omega
  have r6 : a.wang.length ≤ 1048576 := by omega
  clear hm6 k6
  go_wp2
  go_ret
  exact ⟨m6, rfl, by omega, by omega, fun _ => ⟨r1, r2, R2.out, r3, r5, r6⟩, H1.below⟩

set_option maxRecDepth 100000 in
set_option maxHeartbeats 3200000 in
theorem eqClaim_c {v v' : Value} {a : Clm} (w : World) (h : ClmRd w 0 w.heap.size v a) (h' : ClmRd w 0 w.heap.size v' a) :
    Calls Tryz.prog 27 #[v, v'] w fun e w' => e = .returned (.bool true) ∧ Below w.heap.size w w' := by
  obtain ⟨s1, s2, s3, s4, s5, rfl, g1, g2, g3, g4, g5⟩ := h
  obtain ⟨t1, t2, t3, t4, t5, rfl, k1, k2, k3, k4, k5⟩ := h'
  unfold clmV
  have H := ((Sep.start w).box 54 #[.int .i64 a.kind, .int .i64 a.reg.w, s1, s2, s3, .string a.text, .int .i64 a.prime, s4, .int .i64 a.mask, s5, .int .i64 a.width, .int .i64 a.height]).box 54 #[.int .i64 a.kind, .int .i64 a.reg.w, t1, t2, t3, .string a.text, .int .i64 a.prime, t4, .int .i64 a.mask, t5, .int .i64 a.width, .int .i64 a.height]
  simp only [World.size_alloc] at H
  have c0 : ((w.alloc (.cells #[.int .i64 a.kind, .int .i64 a.reg.w, s1, s2, s3, .string a.text, .int .i64 a.prime, s4, .int .i64 a.mask, s5, .int .i64 a.width, .int .i64 a.height] 54)).alloc (.cells #[.int .i64 a.kind, .int .i64 a.reg.w, t1, t2, t3, .string a.text, .int .i64 a.prime, t4, .int .i64 a.mask, t5, .int .i64 a.width, .int .i64 a.height] 54)).cell? ⟨w.heap.size, 0, none⟩ = some (.int .i64 a.kind) := H.h1.cell 0
  have d0 : ((w.alloc (.cells #[.int .i64 a.kind, .int .i64 a.reg.w, s1, s2, s3, .string a.text, .int .i64 a.prime, s4, .int .i64 a.mask, s5, .int .i64 a.width, .int .i64 a.height] 54)).alloc (.cells #[.int .i64 a.kind, .int .i64 a.reg.w, t1, t2, t3, .string a.text, .int .i64 a.prime, t4, .int .i64 a.mask, t5, .int .i64 a.width, .int .i64 a.height] 54)).cell? ⟨w.heap.size + 1, 0, none⟩ = some (.int .i64 a.kind) := H.h0.cell 0
  have c1 : ((w.alloc (.cells #[.int .i64 a.kind, .int .i64 a.reg.w, s1, s2, s3, .string a.text, .int .i64 a.prime, s4, .int .i64 a.mask, s5, .int .i64 a.width, .int .i64 a.height] 54)).alloc (.cells #[.int .i64 a.kind, .int .i64 a.reg.w, t1, t2, t3, .string a.text, .int .i64 a.prime, t4, .int .i64 a.mask, t5, .int .i64 a.width, .int .i64 a.height] 54)).cell? ⟨w.heap.size, 1, none⟩ = some (.int .i64 a.reg.w) := H.h1.cell 1
  have d1 : ((w.alloc (.cells #[.int .i64 a.kind, .int .i64 a.reg.w, s1, s2, s3, .string a.text, .int .i64 a.prime, s4, .int .i64 a.mask, s5, .int .i64 a.width, .int .i64 a.height] 54)).alloc (.cells #[.int .i64 a.kind, .int .i64 a.reg.w, t1, t2, t3, .string a.text, .int .i64 a.prime, t4, .int .i64 a.mask, t5, .int .i64 a.width, .int .i64 a.height] 54)).cell? ⟨w.heap.size + 1, 1, none⟩ = some (.int .i64 a.reg.w) := H.h0.cell 1
  have c2 : ((w.alloc (.cells #[.int .i64 a.kind, .int .i64 a.reg.w, s1, s2, s3, .string a.text, .int .i64 a.prime, s4, .int .i64 a.mask, s5, .int .i64 a.width, .int .i64 a.height] 54)).alloc (.cells #[.int .i64 a.kind, .int .i64 a.reg.w, t1, t2, t3, .string a.text, .int .i64 a.prime, t4, .int .i64 a.mask, t5, .int .i64 a.width, .int .i64 a.height] 54)).cell? ⟨w.heap.size, 2, none⟩ = some (s1) := H.h1.cell 2
  have d2 : ((w.alloc (.cells #[.int .i64 a.kind, .int .i64 a.reg.w, s1, s2, s3, .string a.text, .int .i64 a.prime, s4, .int .i64 a.mask, s5, .int .i64 a.width, .int .i64 a.height] 54)).alloc (.cells #[.int .i64 a.kind, .int .i64 a.reg.w, t1, t2, t3, .string a.text, .int .i64 a.prime, t4, .int .i64 a.mask, t5, .int .i64 a.width, .int .i64 a.height] 54)).cell? ⟨w.heap.size + 1, 2, none⟩ = some (t1) := H.h0.cell 2
  go_enter Tryz.func27, Tryz.ntmps27
  go_wp2_with fail
  clear c0 d0 c1 d1 c2 d2
  generalize ((w.alloc (.cells #[.int .i64 a.kind, .int .i64 a.reg.w, s1, s2, s3, .string a.text, .int .i64 a.prime, s4, .int .i64 a.mask, s5, .int .i64 a.width, .int .i64 a.height] 54)).alloc (.cells #[.int .i64 a.kind, .int .i64 a.reg.w, t1, t2, t3, .string a.text, .int .i64 a.prime, t4, .int .i64 a.mask, t5, .int .i64 a.width, .int .i64 a.height] 54)) = W at *
  refine (eqRegion_c (x := a.reg) W ⟨s1, rfl, ((g1.keep (SameIn.of_below H.below (Nat.le_refl _))).more (Nat.le_refl _) H.size)⟩ ⟨t1, rfl, ((k1.keep (SameIn.of_below H.below (Nat.le_refl _))).more (Nat.le_refl _) H.size)⟩).mono ?_
  rintro e w1 ⟨rfl, b1⟩
  have H1 := H.step b1
  clear b1 H
  have c3 : w1.cell? ⟨w.heap.size, 3, none⟩ = some (s2) := H1.h1.cell 3
  have d3 : w1.cell? ⟨w.heap.size + 1, 3, none⟩ = some (t2) := H1.h0.cell 3
  go_wp2_with fail
  clear c3 d3
  refine (eqCellSSW_c (a := a.pieces) w1 ((g2.keep (SameIn.of_below H1.below (Nat.le_refl _))).more (Nat.le_refl _) H1.size) ((k2.keep (SameIn.of_below H1.below (Nat.le_refl _))).more (Nat.le_refl _) H1.size)).mono ?_
  rintro e w2 ⟨rfl, b2⟩
  have H2 := H1.step b2
  clear b2 H1
  have c4 : w2.cell? ⟨w.heap.size, 4, none⟩ = some (s3) := H2.h1.cell 4
  have d4 : w2.cell? ⟨w.heap.size + 1, 4, none⟩ = some (t3) := H2.h0.cell 4
  go_wp2_with fail
  clear c4 d4
  refine (eqIntS_c (x := a.masks) w2 ((g3.keep (SameIn.of_below H2.below (Nat.le_refl _))).more (Nat.le_refl _) H2.size) ((k3.keep (SameIn.of_below H2.below (Nat.le_refl _))).more (Nat.le_refl _) H2.size)).mono ?_
  rintro e w3 ⟨rfl, b3⟩
  have H3 := H2.step b3
  clear b3 H2
  have c5 : w3.cell? ⟨w.heap.size, 5, none⟩ = some (.string a.text) := H3.h1.cell 5
  have d5 : w3.cell? ⟨w.heap.size + 1, 5, none⟩ = some (.string a.text) := H3.h0.cell 5
  have c6 : w3.cell? ⟨w.heap.size, 6, none⟩ = some (.int .i64 a.prime) := H3.h1.cell 6
  have d6 : w3.cell? ⟨w.heap.size + 1, 6, none⟩ = some (.int .i64 a.prime) := H3.h0.cell 6
  have c7 : w3.cell? ⟨w.heap.size, 7, none⟩ = some (s4) := H3.h1.cell 7
  have d7 : w3.cell? ⟨w.heap.size + 1, 7, none⟩ = some (t4) := H3.h0.cell 7
  go_wp2_with fail
  clear c5 d5 c6 d6 c7 d7
  refine (eqIntS_c (x := a.weights) w3 ((g4.keep (SameIn.of_below H3.below (Nat.le_refl _))).more (Nat.le_refl _) H3.size) ((k4.keep (SameIn.of_below H3.below (Nat.le_refl _))).more (Nat.le_refl _) H3.size)).mono ?_
  rintro e w4 ⟨rfl, b4⟩
  have H4 := H3.step b4
  clear b4 H3
  have c8 : w4.cell? ⟨w.heap.size, 8, none⟩ = some (.int .i64 a.mask) := H4.h1.cell 8
  have d8 : w4.cell? ⟨w.heap.size + 1, 8, none⟩ = some (.int .i64 a.mask) := H4.h0.cell 8
  have c9 : w4.cell? ⟨w.heap.size, 9, none⟩ = some (s5) := H4.h1.cell 9
  have d9 : w4.cell? ⟨w.heap.size + 1, 9, none⟩ = some (t5) := H4.h0.cell 9
  go_wp2_with fail
  clear c8 d8 c9 d9
  refine (eqWangS_c (l := a.wang) w4 ((g5.keep (SameIn.of_below H4.below (Nat.le_refl _))).more (Nat.le_refl _) H4.size) ((k5.keep (SameIn.of_below H4.below (Nat.le_refl _))).more (Nat.le_refl _) H4.size)).mono ?_
  rintro e w5 ⟨rfl, b5⟩
  have H5 := H4.step b5
  clear b5 H4
  have c10 : w5.cell? ⟨w.heap.size, 10, none⟩ = some (.int .i64 a.width) := H5.h1.cell 10
  have d10 : w5.cell? ⟨w.heap.size + 1, 10, none⟩ = some (.int .i64 a.width) := H5.h0.cell 10
  have c11 : w5.cell? ⟨w.heap.size, 11, none⟩ = some (.int .i64 a.height) := H5.h1.cell 11
  have d11 : w5.cell? ⟨w.heap.size + 1, 11, none⟩ = some (.int .i64 a.height) := H5.h0.cell 11
  go_wp2
  go_ret
  exact ⟨rfl, H5.below⟩

end Go.Proofs.YtppbkiajcpdkiaaGreatDoor

namespace Go.Proofs.YtppbkiajcpdkiaaGreatDoor
open Go.RowKit
set_option maxRecDepth 100000 in
set_option maxHeartbeats 6400000 in
theorem toClaim_c {v : Value} {a : Clm} (w : World) (h : ClmRd w 0 w.heap.size v a) (hz : SzOk a) :
    Calls Tryz.prog 25 #[v] w fun e w' => ∃ v', e = .returned v' ∧ ClmRd w' w.heap.size w'.heap.size v' a ∧ Below w.heap.size w w' := by
  obtain ⟨s1, s2, s3, s4, s5, rfl, g1, g2, g3, g4, g5⟩ := h
  obtain ⟨z1, z2, z3, z4, z5, z6⟩ := hz
  have Z3 := Lib.hid z3
  clear z3
  unfold clmV
  have H := (((Sep.start w).box 49 #[.int .i64 a.kind, .int .i64 a.reg.w, s1, s2, s3, .string a.text, .int .i64 a.prime, s4, .int .i64 a.mask, s5, .int .i64 a.width, .int .i64 a.height]).box 54 #[.int .i64 0, .int .i64 0, .slice none 0 0, .slice none 0 0, .slice none 0 0, .string ⟨#[]⟩, .int .i64 0, .slice none 0 0, .int .i64 0, .slice none 0 0, .int .i64 0, .int .i64 0]).box 54 #[.int .i64 a.kind, .int .i64 0, .slice none 0 0, .slice none 0 0, .slice none 0 0, .string ⟨#[]⟩, .int .i64 0, .slice none 0 0, .int .i64 0, .slice none 0 0, .int .i64 0, .int .i64 0]
  simp only [World.size_alloc] at H
  go_enter Tryz.func25, Tryz.ntmps25
  go_wp2_with fail
  have hw : w.heap.size ≤ (((w.alloc (.cells #[.int .i64 a.kind, .int .i64 a.reg.w, s1, s2, s3, .string a.text, .int .i64 a.prime, s4, .int .i64 a.mask, s5, .int .i64 a.width, .int .i64 a.height] 49)).alloc (.cells #[.int .i64 0, .int .i64 0, .slice none 0 0, .slice none 0 0, .slice none 0 0, .string ⟨#[]⟩, .int .i64 0, .slice none 0 0, .int .i64 0, .slice none 0 0, .int .i64 0, .int .i64 0] 54)).alloc (.cells #[.int .i64 a.kind, .int .i64 0, .slice none 0 0, .slice none 0 0, .slice none 0 0, .string ⟨#[]⟩, .int .i64 0, .slice none 0 0, .int .i64 0, .slice none 0 0, .int .i64 0, .int .i64 0] 54)).heap.size := H.size
  generalize (((w.alloc (.cells #[.int .i64 a.kind, .int .i64 a.reg.w, s1, s2, s3, .string a.text, .int .i64 a.prime, s4, .int .i64 a.mask, s5, .int .i64 a.width, .int .i64 a.height] 49)).alloc (.cells #[.int .i64 0, .int .i64 0, .slice none 0 0, .slice none 0 0, .slice none 0 0, .string ⟨#[]⟩, .int .i64 0, .slice none 0 0, .int .i64 0, .slice none 0 0, .int .i64 0, .int .i64 0] 54)).alloc (.cells #[.int .i64 a.kind, .int .i64 0, .slice none 0 0, .slice none 0 0, .slice none 0 0, .string ⟨#[]⟩, .int .i64 0, .slice none 0 0, .int .i64 0, .slice none 0 0, .int .i64 0, .int .i64 0] 54)) = W at *
  refine (toRegion_c (x := a.reg) W ⟨s1, rfl, ((g1.keep (SameIn.of_below H.below (Nat.le_refl _))).more (Nat.le_refl _) H.size)⟩ z1).mono ?_
  rintro e w1 ⟨v1, rfl, o1, b1⟩
  obtain ⟨t1, rfl, o1⟩ := o1
  obtain ⟨A1, q1, rfl, _, _⟩ := o1.rd
  have H1 := (H.area b1 (P := fun u => IntsRd u W.heap.size w1.heap.size (.slice A1 a.reg.rows.length q1) a.reg.rows) (fun u u' hs hp => hp.keep hs) o1.rd).p3'
  have t1 : W.heap.size ≤ w1.heap.size := b1.size
  clear b1 o1 H
  have f1 := H1.h0.frozen 1
  have y1 : w1.cell? ⟨w.heap.size + 1 + 1, 1, none⟩ = some (.int .i64 0) := H1.h0.cell 1
  have f2 := H1.h0.frozen 2
  have y2 : w1.cell? ⟨w.heap.size + 1 + 1, 2, none⟩ = some (.slice none 0 0) := H1.h0.cell 2
  have c3 : w1.cell? ⟨w.heap.size, 3, none⟩ = some (s2) := H1.h2.cell 3
  go_wp2_with fail
  clear f1 y1 f2 y2 c3
  have K1 : Sep w ((w1.setCell ⟨w.heap.size + 1 + 1, 1, none⟩ (.int .i64 a.reg.w)).setCell ⟨w.heap.size + 1 + 1, 2, none⟩ (.slice A1 a.reg.rows.length q1)) (Res.box (w.heap.size + 1 + 1) 54 #[.int .i64 a.kind, .int .i64 a.reg.w, .slice A1 a.reg.rows.length q1, .slice none 0 0, .slice none 0 0, .string ⟨#[]⟩, .int .i64 0, .slice none 0 0, .int .i64 0, .slice none 0 0, .int .i64 0, .int .i64 0] :: _) := ((H1.set_ 1 (.int .i64 a.reg.w)).set_ 2 (.slice A1 a.reg.rows.length q1))
  have l1 : w1.heap.size ≤ ((w1.setCell ⟨w.heap.size + 1 + 1, 1, none⟩ (.int .i64 a.reg.w)).setCell ⟨w.heap.size + 1 + 1, 2, none⟩ (.slice A1 a.reg.rows.length q1)).heap.size := by simp [World.setCell]
  clear H1
  generalize ((w1.setCell ⟨w.heap.size + 1 + 1, 1, none⟩ (.int .i64 a.reg.w)).setCell ⟨w.heap.size + 1 + 1, 2, none⟩ (.slice A1 a.reg.rows.length q1)) = x1 at *
  refine (toCellSSW_c (l := a.pieces) x1 ((g2.keep (SameIn.of_below K1.below (Nat.le_refl _))).more (Nat.le_refl _) K1.size) z2 Z3.out).mono ?_
  rintro e w2 ⟨v2, rfl, o2, b2⟩
  obtain ⟨us2, ⟨A2, q2, rfl, m2, d2⟩, e2⟩ := o2
  replace d2 := (⟨us2, ⟨A2, q2, rfl, m2, d2⟩, e2⟩ : CellSSRd w2 _ _ (.slice A2 a.pieces.length q2) a.pieces)
  have o2 := d2
  clear d2 e2 m2
  have H2 := (K1.area b2 (P := fun u => CellSSRd u x1.heap.size w2.heap.size (.slice A2 a.pieces.length q2) a.pieces) (fun u u' hs hp => hp.keep hs) o2).p3'
  have t2 : x1.heap.size ≤ w2.heap.size := b2.size
  clear b2 o2 K1
  have f3 := H2.h0.frozen 3
  have y3 : w2.cell? ⟨w.heap.size + 1 + 1, 3, none⟩ = some (.slice none 0 0) := H2.h0.cell 3
  have c4 : w2.cell? ⟨w.heap.size, 4, none⟩ = some (s3) := H2.h2.cell 4
  go_wp2_with fail
  clear f3 y3 c4
  have K2 : Sep w (w2.setCell ⟨w.heap.size + 1 + 1, 3, none⟩ (.slice A2 a.pieces.length q2)) (Res.box (w.heap.size + 1 + 1) 54 #[.int .i64 a.kind, .int .i64 a.reg.w, .slice A1 a.reg.rows.length q1, .slice A2 a.pieces.length q2, .slice none 0 0, .string ⟨#[]⟩, .int .i64 0, .slice none 0 0, .int .i64 0, .slice none 0 0, .int .i64 0, .int .i64 0] :: _) := (H2.set_ 3 (.slice A2 a.pieces.length q2))
  have l2 : w2.heap.size ≤ (w2.setCell ⟨w.heap.size + 1 + 1, 3, none⟩ (.slice A2 a.pieces.length q2)).heap.size := by simp [World.setCell]
  clear H2
  generalize (w2.setCell ⟨w.heap.size + 1 + 1, 3, none⟩ (.slice A2 a.pieces.length q2)) = x2 at *
  refine (toIntS_c (x := a.masks) x2 ((g3.keep (SameIn.of_below K2.below (Nat.le_refl _))).more (Nat.le_refl _) K2.size) z4).mono ?_
  rintro e w3 ⟨v3, rfl, o3, b3⟩
  obtain ⟨A3, q3, rfl, _, _⟩ := o3.rd
  have H3 := (K2.area b3 (P := fun u => IntsRd u x2.heap.size w3.heap.size (.slice A3 a.masks.length q3) a.masks) (fun u u' hs hp => hp.keep hs) o3.rd).p3'
  have t3 : x2.heap.size ≤ w3.heap.size := b3.size
  clear b3 o3 K2
  have f4 := H3.h0.frozen 4
  have y4 : w3.cell? ⟨w.heap.size + 1 + 1, 4, none⟩ = some (.slice none 0 0) := H3.h0.cell 4
  have f5 := H3.h0.frozen 5
  have y5 : w3.cell? ⟨w.heap.size + 1 + 1, 5, none⟩ = some (.string ⟨#[]⟩) := H3.h0.cell 5
  have f6 := H3.h0.frozen 6
  have y6 : w3.cell? ⟨w.heap.size + 1 + 1, 6, none⟩ = some (.int .i64 0) := H3.h0.cell 6
  have c5 : w3.cell? ⟨w.heap.size, 5, none⟩ = some (.string a.text) := H3.h2.cell 5
  have c6 : w3.cell? ⟨w.heap.size, 6, none⟩ = some (.int .i64 a.prime) := H3.h2.cell 6
  have c7 : w3.cell? ⟨w.heap.size, 7, none⟩ = some (s4) := H3.h2.cell 7
  go_wp2_with fail
  clear f4 y4 f5 y5 f6 y6 c5 c6 c7
  have K3 : Sep w (((w3.setCell ⟨w.heap.size + 1 + 1, 4, none⟩ (.slice A3 a.masks.length q3)).setCell ⟨w.heap.size + 1 + 1, 5, none⟩ (.string a.text)).setCell ⟨w.heap.size + 1 + 1, 6, none⟩ (.int .i64 a.prime)) (Res.box (w.heap.size + 1 + 1) 54 #[.int .i64 a.kind, .int .i64 a.reg.w, .slice A1 a.reg.rows.length q1, .slice A2 a.pieces.length q2, .slice A3 a.masks.length q3, .string a.text, .int .i64 a.prime, .slice none 0 0, .int .i64 0, .slice none 0 0, .int .i64 0, .int .i64 0] :: _) := (((H3.set_ 4 (.slice A3 a.masks.length q3)).set_ 5 (.string a.text)).set_ 6 (.int .i64 a.prime))
  have l3 : w3.heap.size ≤ (((w3.setCell ⟨w.heap.size + 1 + 1, 4, none⟩ (.slice A3 a.masks.length q3)).setCell ⟨w.heap.size + 1 + 1, 5, none⟩ (.string a.text)).setCell ⟨w.heap.size + 1 + 1, 6, none⟩ (.int .i64 a.prime)).heap.size := by simp [World.setCell]
  clear H3
  generalize (((w3.setCell ⟨w.heap.size + 1 + 1, 4, none⟩ (.slice A3 a.masks.length q3)).setCell ⟨w.heap.size + 1 + 1, 5, none⟩ (.string a.text)).setCell ⟨w.heap.size + 1 + 1, 6, none⟩ (.int .i64 a.prime)) = x3 at *
  refine (toIntS_c (x := a.weights) x3 ((g4.keep (SameIn.of_below K3.below (Nat.le_refl _))).more (Nat.le_refl _) K3.size) z5).mono ?_
  rintro e w4 ⟨v4, rfl, o4, b4⟩
  obtain ⟨A4, q4, rfl, _, _⟩ := o4.rd
  have H4 := (K3.area b4 (P := fun u => IntsRd u x3.heap.size w4.heap.size (.slice A4 a.weights.length q4) a.weights) (fun u u' hs hp => hp.keep hs) o4.rd).p3'
  have t4 : x3.heap.size ≤ w4.heap.size := b4.size
  clear b4 o4 K3
  have f7 := H4.h0.frozen 7
  have y7 : w4.cell? ⟨w.heap.size + 1 + 1, 7, none⟩ = some (.slice none 0 0) := H4.h0.cell 7
  have f8 := H4.h0.frozen 8
  have y8 : w4.cell? ⟨w.heap.size + 1 + 1, 8, none⟩ = some (.int .i64 0) := H4.h0.cell 8
  have c8 : w4.cell? ⟨w.heap.size, 8, none⟩ = some (.int .i64 a.mask) := H4.h2.cell 8
  have c9 : w4.cell? ⟨w.heap.size, 9, none⟩ = some (s5) := H4.h2.cell 9
  go_wp2_with fail
  clear f7 y7 f8 y8 c8 c9
  have K4 : Sep w ((w4.setCell ⟨w.heap.size + 1 + 1, 7, none⟩ (.slice A4 a.weights.length q4)).setCell ⟨w.heap.size + 1 + 1, 8, none⟩ (.int .i64 a.mask)) (Res.box (w.heap.size + 1 + 1) 54 #[.int .i64 a.kind, .int .i64 a.reg.w, .slice A1 a.reg.rows.length q1, .slice A2 a.pieces.length q2, .slice A3 a.masks.length q3, .string a.text, .int .i64 a.prime, .slice A4 a.weights.length q4, .int .i64 a.mask, .slice none 0 0, .int .i64 0, .int .i64 0] :: _) := ((H4.set_ 7 (.slice A4 a.weights.length q4)).set_ 8 (.int .i64 a.mask))
  have l4 : w4.heap.size ≤ ((w4.setCell ⟨w.heap.size + 1 + 1, 7, none⟩ (.slice A4 a.weights.length q4)).setCell ⟨w.heap.size + 1 + 1, 8, none⟩ (.int .i64 a.mask)).heap.size := by simp [World.setCell]
  clear H4
  generalize ((w4.setCell ⟨w.heap.size + 1 + 1, 7, none⟩ (.slice A4 a.weights.length q4)).setCell ⟨w.heap.size + 1 + 1, 8, none⟩ (.int .i64 a.mask)) = x4 at *
  refine (toWangS_c (l := a.wang) x4 ((g5.keep (SameIn.of_below K4.below (Nat.le_refl _))).more (Nat.le_refl _) K4.size) z6).mono ?_
  rintro e w5 ⟨v5, rfl, o5, b5⟩
  obtain ⟨A5, q5, rfl, _, _⟩ := o5.rd
  have H5 := (K4.area b5 (P := fun u => WangsRd u x4.heap.size w5.heap.size (.slice A5 a.wang.length q5) a.wang) (fun u u' hs hp => hp.keep hs) o5.rd).p3'
  have t5 : x4.heap.size ≤ w5.heap.size := b5.size
  clear b5 o5 K4
  have f9 := H5.h0.frozen 9
  have y9 : w5.cell? ⟨w.heap.size + 1 + 1, 9, none⟩ = some (.slice none 0 0) := H5.h0.cell 9
  have f10 := H5.h0.frozen 10
  have y10 : w5.cell? ⟨w.heap.size + 1 + 1, 10, none⟩ = some (.int .i64 0) := H5.h0.cell 10
  have f11 := H5.h0.frozen 11
  have y11 : w5.cell? ⟨w.heap.size + 1 + 1, 11, none⟩ = some (.int .i64 0) := H5.h0.cell 11
  have c10 : w5.cell? ⟨w.heap.size, 10, none⟩ = some (.int .i64 a.width) := H5.h2.cell 10
  have c11 : w5.cell? ⟨w.heap.size, 11, none⟩ = some (.int .i64 a.height) := H5.h2.cell 11
  go_upto_region 13 with fail
  clear f9 y9 f10 y10 f11 y11 c10 c11
  have K5 : Sep w (((w5.setCell ⟨w.heap.size + 1 + 1, 9, none⟩ (.slice A5 a.wang.length q5)).setCell ⟨w.heap.size + 1 + 1, 10, none⟩ (.int .i64 a.width)).setCell ⟨w.heap.size + 1 + 1, 11, none⟩ (.int .i64 a.height)) (Res.box (w.heap.size + 1 + 1) 54 #[.int .i64 a.kind, .int .i64 a.reg.w, .slice A1 a.reg.rows.length q1, .slice A2 a.pieces.length q2, .slice A3 a.masks.length q3, .string a.text, .int .i64 a.prime, .slice A4 a.weights.length q4, .int .i64 a.mask, .slice A5 a.wang.length q5, .int .i64 a.width, .int .i64 a.height] :: _) := (((H5.set_ 9 (.slice A5 a.wang.length q5)).set_ 10 (.int .i64 a.width)).set_ 11 (.int .i64 a.height))
  have l5 : w5.heap.size ≤ (((w5.setCell ⟨w.heap.size + 1 + 1, 9, none⟩ (.slice A5 a.wang.length q5)).setCell ⟨w.heap.size + 1 + 1, 10, none⟩ (.int .i64 a.width)).setCell ⟨w.heap.size + 1 + 1, 11, none⟩ (.int .i64 a.height)).heap.size := by simp [World.setCell]
  clear H5
  generalize (((w5.setCell ⟨w.heap.size + 1 + 1, 9, none⟩ (.slice A5 a.wang.length q5)).setCell ⟨w.heap.size + 1 + 1, 10, none⟩ (.int .i64 a.width)).setCell ⟨w.heap.size + 1 + 1, 11, none⟩ (.int .i64 a.height)) = x5 at *
  have HALL : ((#[.int .i64 a.kind, .int .i64 a.reg.w, .slice A1 a.reg.rows.length q1, .slice A2 a.pieces.length q2, .slice A3 a.masks.length q3, .string a.text, .int .i64 a.prime, .slice A4 a.weights.length q4, .int .i64 a.mask, .slice A5 a.wang.length q5, .int .i64 a.width, .int .i64 a.height] : Array Value).all (·.oneCell')) = true := by simp [Value.oneCell']
  go_wp2_with (first
    | (refine wpList_load_row rfl 54 _ rfl (w.heap.size + 1 + 1) rfl 54 _ _ _ K5.h0 Tryz.underlying54 rfl (by kernel_rfl) ?_)
    | (refine wpList_store_row rfl 54 _ _ rfl (w.heap.size + 1) #[.int .i64 a.kind, .int .i64 a.reg.w, .slice A1 a.reg.rows.length q1, .slice A2 a.pieces.length q2, .slice A3 a.masks.length q3, .string a.text, .int .i64 a.prime, .slice A4 a.weights.length q4, .int .i64 a.mask, .slice A5 a.wang.length q5, .int .i64 a.width, .int .i64 a.height] rfl rfl 54 _ K5.h1 (by kernel_rfl) rfl HALL ?_))
  have M := K5.g1.setAll #[.int .i64 a.kind, .int .i64 a.reg.w, .slice A1 a.reg.rows.length q1, .slice A2 a.pieces.length q2, .slice A3 a.masks.length q3, .string a.text, .int .i64 a.prime, .slice A4 a.weights.length q4, .int .i64 a.mask, .slice A5 a.wang.length q5, .int .i64 a.width, .int .i64 a.height]
  refine bodyPost_ret (v := .agg #[.int .i64 a.kind, .int .i64 a.reg.w, .slice A1 a.reg.rows.length q1, .slice A2 a.pieces.length q2, .slice A3 a.masks.length q3, .string a.text, .int .i64 a.prime, .slice A4 a.weights.length q4, .int .i64 a.mask, .slice A5 a.wang.length q5, .int .i64 a.width, .int .i64 a.height]) (results_cell_row Tryz.results25 _ _ (w.heap.size + 1) 54 _ _ _ rfl M.h0 Tryz.underlying54 rfl (by kernel_rfl)) rfl ?_
  refine ⟨_, rfl, ?_, M.below⟩
  refine ⟨_, _, _, _, _, rfl, ?_, ?_, ?_, ?_, ?_⟩
  · have z : IntsRd _ W.heap.size w1.heap.size (.slice A1 a.reg.rows.length q1) a.reg.rows := M.drop.drop.drop.drop.drop.drop.drop.h0.1
    exact z.more (by omega) (by simp; omega)
  · have z : CellSSRd _ x1.heap.size w2.heap.size (.slice A2 a.pieces.length q2) a.pieces := M.drop.drop.drop.drop.drop.drop.h0.1
    exact z.more (by omega) (by simp; omega)
  · have z : IntsRd _ x2.heap.size w3.heap.size (.slice A3 a.masks.length q3) a.masks := M.drop.drop.drop.drop.drop.h0.1
    exact z.more (by omega) (by simp; omega)
  · have z : IntsRd _ x3.heap.size w4.heap.size (.slice A4 a.weights.length q4) a.weights := M.drop.drop.drop.drop.h0.1
    exact z.more (by omega) (by simp; omega)
  · have z : WangsRd _ x4.heap.size w5.heap.size (.slice A5 a.wang.length q5) a.wang := M.drop.drop.drop.h0.1
    exact z.more (by omega) (by simp; omega)

end Go.Proofs.YtppbkiajcpdkiaaGreatDoor

namespace Go.Proofs.YtppbkiajcpdkiaaGreatDoor
open Go.RowKit

/-- the masks' slice is no longer than its memory -/
def CapC (v : Value) : Prop := ∀ (cs : Array Value) (A : Option Addr) (n c : Nat), v = .agg cs → cs[4]? = some (.slice A n c) → n ≤ c
theorem CapC.mk {v0 v1 v2 v3 v5 v6 v7 v8 v9 v10 v11 : Value} {A : Option Addr} {n c : Nat} (h : n ≤ c) : CapC (.agg #[v0, v1, v2, v3, .slice A n c, v5, v6, v7, v8, v9, v10, v11]) := by
  intro cs A' n' c' h1 h2
  injection h1 with h1
  subst h1
  have h3 : (.slice A n c : Value) = .slice A' n' c' := Option.some.inj h2
  injection h3 with _ h4 h5
  omega
theorem OI.capC {w : World} {lo hi sz n n' c : Nat} {e : TypeId} {A : Option Addr} {xs : List Value} (h : OI w lo hi e sz (.slice A n' c) n xs) : n' ≤ c := by
  rcases OI.cases h with ⟨h1, _⟩ | ⟨g, c', cs, h1, h2, h3, h4, _⟩
  · injection h1 with _ h2 h3
    omega
  · injection h1 with _ h5 h6
    omega
set_option maxRecDepth 100000 in
set_option maxHeartbeats 6400000 in
theorem toClaimC_c {v : Value} {a : Clm} (w : World) (h : ClmRd w 0 w.heap.size v a) (hz : SzOk a) :
    Calls Tryz.prog 25 #[v] w fun e w' => ∃ v', e = .returned v' ∧ ClmRd w' w.heap.size w'.heap.size v' a ∧ CapC v' ∧ Below w.heap.size w w' := by
  obtain ⟨s1, s2, s3, s4, s5, rfl, g1, g2, g3, g4, g5⟩ := h
  obtain ⟨z1, z2, z3, z4, z5, z6⟩ := hz
  have Z3 := Lib.hid z3
  clear z3
  unfold clmV
  have H := (((Sep.start w).box 49 #[.int .i64 a.kind, .int .i64 a.reg.w, s1, s2, s3, .string a.text, .int .i64 a.prime, s4, .int .i64 a.mask, s5, .int .i64 a.width, .int .i64 a.height]).box 54 #[.int .i64 0, .int .i64 0, .slice none 0 0, .slice none 0 0, .slice none 0 0, .string ⟨#[]⟩, .int .i64 0, .slice none 0 0, .int .i64 0, .slice none 0 0, .int .i64 0, .int .i64 0]).box 54 #[.int .i64 a.kind, .int .i64 0, .slice none 0 0, .slice none 0 0, .slice none 0 0, .string ⟨#[]⟩, .int .i64 0, .slice none 0 0, .int .i64 0, .slice none 0 0, .int .i64 0, .int .i64 0]
  simp only [World.size_alloc] at H
  go_enter Tryz.func25, Tryz.ntmps25
  go_wp2_with fail
  have hw : w.heap.size ≤ (((w.alloc (.cells #[.int .i64 a.kind, .int .i64 a.reg.w, s1, s2, s3, .string a.text, .int .i64 a.prime, s4, .int .i64 a.mask, s5, .int .i64 a.width, .int .i64 a.height] 49)).alloc (.cells #[.int .i64 0, .int .i64 0, .slice none 0 0, .slice none 0 0, .slice none 0 0, .string ⟨#[]⟩, .int .i64 0, .slice none 0 0, .int .i64 0, .slice none 0 0, .int .i64 0, .int .i64 0] 54)).alloc (.cells #[.int .i64 a.kind, .int .i64 0, .slice none 0 0, .slice none 0 0, .slice none 0 0, .string ⟨#[]⟩, .int .i64 0, .slice none 0 0, .int .i64 0, .slice none 0 0, .int .i64 0, .int .i64 0] 54)).heap.size := H.size
  generalize (((w.alloc (.cells #[.int .i64 a.kind, .int .i64 a.reg.w, s1, s2, s3, .string a.text, .int .i64 a.prime, s4, .int .i64 a.mask, s5, .int .i64 a.width, .int .i64 a.height] 49)).alloc (.cells #[.int .i64 0, .int .i64 0, .slice none 0 0, .slice none 0 0, .slice none 0 0, .string ⟨#[]⟩, .int .i64 0, .slice none 0 0, .int .i64 0, .slice none 0 0, .int .i64 0, .int .i64 0] 54)).alloc (.cells #[.int .i64 a.kind, .int .i64 0, .slice none 0 0, .slice none 0 0, .slice none 0 0, .string ⟨#[]⟩, .int .i64 0, .slice none 0 0, .int .i64 0, .slice none 0 0, .int .i64 0, .int .i64 0] 54)) = W at *
  refine (toRegion_c (x := a.reg) W ⟨s1, rfl, ((g1.keep (SameIn.of_below H.below (Nat.le_refl _))).more (Nat.le_refl _) H.size)⟩ z1).mono ?_
  rintro e w1 ⟨v1, rfl, o1, b1⟩
  obtain ⟨t1, rfl, o1⟩ := o1
  obtain ⟨A1, q1, rfl, _, _⟩ := o1.rd
  have H1 := (H.area b1 (P := fun u => IntsRd u W.heap.size w1.heap.size (.slice A1 a.reg.rows.length q1) a.reg.rows) (fun u u' hs hp => hp.keep hs) o1.rd).p3'
  have t1 : W.heap.size ≤ w1.heap.size := b1.size
  clear b1 o1 H
  have f1 := H1.h0.frozen 1
  have y1 : w1.cell? ⟨w.heap.size + 1 + 1, 1, none⟩ = some (.int .i64 0) := H1.h0.cell 1
  have f2 := H1.h0.frozen 2
  have y2 : w1.cell? ⟨w.heap.size + 1 + 1, 2, none⟩ = some (.slice none 0 0) := H1.h0.cell 2
  have c3 : w1.cell? ⟨w.heap.size, 3, none⟩ = some (s2) := H1.h2.cell 3
  go_wp2_with fail
  clear f1 y1 f2 y2 c3
  have K1 : Sep w ((w1.setCell ⟨w.heap.size + 1 + 1, 1, none⟩ (.int .i64 a.reg.w)).setCell ⟨w.heap.size + 1 + 1, 2, none⟩ (.slice A1 a.reg.rows.length q1)) (Res.box (w.heap.size + 1 + 1) 54 #[.int .i64 a.kind, .int .i64 a.reg.w, .slice A1 a.reg.rows.length q1, .slice none 0 0, .slice none 0 0, .string ⟨#[]⟩, .int .i64 0, .slice none 0 0, .int .i64 0, .slice none 0 0, .int .i64 0, .int .i64 0] :: _) := ((H1.set_ 1 (.int .i64 a.reg.w)).set_ 2 (.slice A1 a.reg.rows.length q1))
  have l1 : w1.heap.size ≤ ((w1.setCell ⟨w.heap.size + 1 + 1, 1, none⟩ (.int .i64 a.reg.w)).setCell ⟨w.heap.size + 1 + 1, 2, none⟩ (.slice A1 a.reg.rows.length q1)).heap.size := by simp [World.setCell]
  clear H1
  generalize ((w1.setCell ⟨w.heap.size + 1 + 1, 1, none⟩ (.int .i64 a.reg.w)).setCell ⟨w.heap.size + 1 + 1, 2, none⟩ (.slice A1 a.reg.rows.length q1)) = x1 at *
  refine (toCellSSW_c (l := a.pieces) x1 ((g2.keep (SameIn.of_below K1.below (Nat.le_refl _))).more (Nat.le_refl _) K1.size) z2 Z3.out).mono ?_
  rintro e w2 ⟨v2, rfl, o2, b2⟩
  obtain ⟨us2, ⟨A2, q2, rfl, m2, d2⟩, e2⟩ := o2
  replace d2 := (⟨us2, ⟨A2, q2, rfl, m2, d2⟩, e2⟩ : CellSSRd w2 _ _ (.slice A2 a.pieces.length q2) a.pieces)
  have o2 := d2
  clear d2 e2 m2
  have H2 := (K1.area b2 (P := fun u => CellSSRd u x1.heap.size w2.heap.size (.slice A2 a.pieces.length q2) a.pieces) (fun u u' hs hp => hp.keep hs) o2).p3'
  have t2 : x1.heap.size ≤ w2.heap.size := b2.size
  clear b2 o2 K1
  have f3 := H2.h0.frozen 3
  have y3 : w2.cell? ⟨w.heap.size + 1 + 1, 3, none⟩ = some (.slice none 0 0) := H2.h0.cell 3
  have c4 : w2.cell? ⟨w.heap.size, 4, none⟩ = some (s3) := H2.h2.cell 4
  go_wp2_with fail
  clear f3 y3 c4
  have K2 : Sep w (w2.setCell ⟨w.heap.size + 1 + 1, 3, none⟩ (.slice A2 a.pieces.length q2)) (Res.box (w.heap.size + 1 + 1) 54 #[.int .i64 a.kind, .int .i64 a.reg.w, .slice A1 a.reg.rows.length q1, .slice A2 a.pieces.length q2, .slice none 0 0, .string ⟨#[]⟩, .int .i64 0, .slice none 0 0, .int .i64 0, .slice none 0 0, .int .i64 0, .int .i64 0] :: _) := (H2.set_ 3 (.slice A2 a.pieces.length q2))
  have l2 : w2.heap.size ≤ (w2.setCell ⟨w.heap.size + 1 + 1, 3, none⟩ (.slice A2 a.pieces.length q2)).heap.size := by simp [World.setCell]
  clear H2
  generalize (w2.setCell ⟨w.heap.size + 1 + 1, 3, none⟩ (.slice A2 a.pieces.length q2)) = x2 at *
  refine (toIntS_c (x := a.masks) x2 ((g3.keep (SameIn.of_below K2.below (Nat.le_refl _))).more (Nat.le_refl _) K2.size) z4).mono ?_
  rintro e w3 ⟨v3, rfl, o3, b3⟩
  obtain ⟨A3, q3, rfl, _, _⟩ := o3.rd
  have HCAP := Lib.hid (OI.capC o3)
  have H3 := (K2.area b3 (P := fun u => IntsRd u x2.heap.size w3.heap.size (.slice A3 a.masks.length q3) a.masks) (fun u u' hs hp => hp.keep hs) o3.rd).p3'
  have t3 : x2.heap.size ≤ w3.heap.size := b3.size
  clear b3 o3 K2
  have f4 := H3.h0.frozen 4
  have y4 : w3.cell? ⟨w.heap.size + 1 + 1, 4, none⟩ = some (.slice none 0 0) := H3.h0.cell 4
  have f5 := H3.h0.frozen 5
  have y5 : w3.cell? ⟨w.heap.size + 1 + 1, 5, none⟩ = some (.string ⟨#[]⟩) := H3.h0.cell 5
  have f6 := H3.h0.frozen 6
  have y6 : w3.cell? ⟨w.heap.size + 1 + 1, 6, none⟩ = some (.int .i64 0) := H3.h0.cell 6
  have c5 : w3.cell? ⟨w.heap.size, 5, none⟩ = some (.string a.text) := H3.h2.cell 5
  have c6 : w3.cell? ⟨w.heap.size, 6, none⟩ = some (.int .i64 a.prime) := H3.h2.cell 6
  have c7 : w3.cell? ⟨w.heap.size, 7, none⟩ = some (s4) := H3.h2.cell 7
  go_wp2_with fail
  clear f4 y4 f5 y5 f6 y6 c5 c6 c7
  have K3 : Sep w (((w3.setCell ⟨w.heap.size + 1 + 1, 4, none⟩ (.slice A3 a.masks.length q3)).setCell ⟨w.heap.size + 1 + 1, 5, none⟩ (.string a.text)).setCell ⟨w.heap.size + 1 + 1, 6, none⟩ (.int .i64 a.prime)) (Res.box (w.heap.size + 1 + 1) 54 #[.int .i64 a.kind, .int .i64 a.reg.w, .slice A1 a.reg.rows.length q1, .slice A2 a.pieces.length q2, .slice A3 a.masks.length q3, .string a.text, .int .i64 a.prime, .slice none 0 0, .int .i64 0, .slice none 0 0, .int .i64 0, .int .i64 0] :: _) := (((H3.set_ 4 (.slice A3 a.masks.length q3)).set_ 5 (.string a.text)).set_ 6 (.int .i64 a.prime))
  have l3 : w3.heap.size ≤ (((w3.setCell ⟨w.heap.size + 1 + 1, 4, none⟩ (.slice A3 a.masks.length q3)).setCell ⟨w.heap.size + 1 + 1, 5, none⟩ (.string a.text)).setCell ⟨w.heap.size + 1 + 1, 6, none⟩ (.int .i64 a.prime)).heap.size := by simp [World.setCell]
  clear H3
  generalize (((w3.setCell ⟨w.heap.size + 1 + 1, 4, none⟩ (.slice A3 a.masks.length q3)).setCell ⟨w.heap.size + 1 + 1, 5, none⟩ (.string a.text)).setCell ⟨w.heap.size + 1 + 1, 6, none⟩ (.int .i64 a.prime)) = x3 at *
  refine (toIntS_c (x := a.weights) x3 ((g4.keep (SameIn.of_below K3.below (Nat.le_refl _))).more (Nat.le_refl _) K3.size) z5).mono ?_
  rintro e w4 ⟨v4, rfl, o4, b4⟩
  obtain ⟨A4, q4, rfl, _, _⟩ := o4.rd
  have H4 := (K3.area b4 (P := fun u => IntsRd u x3.heap.size w4.heap.size (.slice A4 a.weights.length q4) a.weights) (fun u u' hs hp => hp.keep hs) o4.rd).p3'
  have t4 : x3.heap.size ≤ w4.heap.size := b4.size
  clear b4 o4 K3
  have f7 := H4.h0.frozen 7
  have y7 : w4.cell? ⟨w.heap.size + 1 + 1, 7, none⟩ = some (.slice none 0 0) := H4.h0.cell 7
  have f8 := H4.h0.frozen 8
  have y8 : w4.cell? ⟨w.heap.size + 1 + 1, 8, none⟩ = some (.int .i64 0) := H4.h0.cell 8
  have c8 : w4.cell? ⟨w.heap.size, 8, none⟩ = some (.int .i64 a.mask) := H4.h2.cell 8
  have c9 : w4.cell? ⟨w.heap.size, 9, none⟩ = some (s5) := H4.h2.cell 9
  go_wp2_with fail
  clear f7 y7 f8 y8 c8 c9
  have K4 : Sep w ((w4.setCell ⟨w.heap.size + 1 + 1, 7, none⟩ (.slice A4 a.weights.length q4)).setCell ⟨w.heap.size + 1 + 1, 8, none⟩ (.int .i64 a.mask)) (Res.box (w.heap.size + 1 + 1) 54 #[.int .i64 a.kind, .int .i64 a.reg.w, .slice A1 a.reg.rows.length q1, .slice A2 a.pieces.length q2, .slice A3 a.masks.length q3, .string a.text, .int .i64 a.prime, .slice A4 a.weights.length q4, .int .i64 a.mask, .slice none 0 0, .int .i64 0, .int .i64 0] :: _) := ((H4.set_ 7 (.slice A4 a.weights.length q4)).set_ 8 (.int .i64 a.mask))
  have l4 : w4.heap.size ≤ ((w4.setCell ⟨w.heap.size + 1 + 1, 7, none⟩ (.slice A4 a.weights.length q4)).setCell ⟨w.heap.size + 1 + 1, 8, none⟩ (.int .i64 a.mask)).heap.size := by simp [World.setCell]
  clear H4
  generalize ((w4.setCell ⟨w.heap.size + 1 + 1, 7, none⟩ (.slice A4 a.weights.length q4)).setCell ⟨w.heap.size + 1 + 1, 8, none⟩ (.int .i64 a.mask)) = x4 at *
  refine (toWangS_c (l := a.wang) x4 ((g5.keep (SameIn.of_below K4.below (Nat.le_refl _))).more (Nat.le_refl _) K4.size) z6).mono ?_
  rintro e w5 ⟨v5, rfl, o5, b5⟩
  obtain ⟨A5, q5, rfl, _, _⟩ := o5.rd
  have H5 := (K4.area b5 (P := fun u => WangsRd u x4.heap.size w5.heap.size (.slice A5 a.wang.length q5) a.wang) (fun u u' hs hp => hp.keep hs) o5.rd).p3'
  have t5 : x4.heap.size ≤ w5.heap.size := b5.size
  clear b5 o5 K4
  have f9 := H5.h0.frozen 9
  have y9 : w5.cell? ⟨w.heap.size + 1 + 1, 9, none⟩ = some (.slice none 0 0) := H5.h0.cell 9
  have f10 := H5.h0.frozen 10
  have y10 : w5.cell? ⟨w.heap.size + 1 + 1, 10, none⟩ = some (.int .i64 0) := H5.h0.cell 10
  have f11 := H5.h0.frozen 11
  have y11 : w5.cell? ⟨w.heap.size + 1 + 1, 11, none⟩ = some (.int .i64 0) := H5.h0.cell 11
  have c10 : w5.cell? ⟨w.heap.size, 10, none⟩ = some (.int .i64 a.width) := H5.h2.cell 10
  have c11 : w5.cell? ⟨w.heap.size, 11, none⟩ = some (.int .i64 a.height) := H5.h2.cell 11
  go_upto_region 13 with fail
  clear f9 y9 f10 y10 f11 y11 c10 c11
  have K5 : Sep w (((w5.setCell ⟨w.heap.size + 1 + 1, 9, none⟩ (.slice A5 a.wang.length q5)).setCell ⟨w.heap.size + 1 + 1, 10, none⟩ (.int .i64 a.width)).setCell ⟨w.heap.size + 1 + 1, 11, none⟩ (.int .i64 a.height)) (Res.box (w.heap.size + 1 + 1) 54 #[.int .i64 a.kind, .int .i64 a.reg.w, .slice A1 a.reg.rows.length q1, .slice A2 a.pieces.length q2, .slice A3 a.masks.length q3, .string a.text, .int .i64 a.prime, .slice A4 a.weights.length q4, .int .i64 a.mask, .slice A5 a.wang.length q5, .int .i64 a.width, .int .i64 a.height] :: _) := (((H5.set_ 9 (.slice A5 a.wang.length q5)).set_ 10 (.int .i64 a.width)).set_ 11 (.int .i64 a.height))
  have l5 : w5.heap.size ≤ (((w5.setCell ⟨w.heap.size + 1 + 1, 9, none⟩ (.slice A5 a.wang.length q5)).setCell ⟨w.heap.size + 1 + 1, 10, none⟩ (.int .i64 a.width)).setCell ⟨w.heap.size + 1 + 1, 11, none⟩ (.int .i64 a.height)).heap.size := by simp [World.setCell]
  clear H5
  generalize (((w5.setCell ⟨w.heap.size + 1 + 1, 9, none⟩ (.slice A5 a.wang.length q5)).setCell ⟨w.heap.size + 1 + 1, 10, none⟩ (.int .i64 a.width)).setCell ⟨w.heap.size + 1 + 1, 11, none⟩ (.int .i64 a.height)) = x5 at *
  have HALL : ((#[.int .i64 a.kind, .int .i64 a.reg.w, .slice A1 a.reg.rows.length q1, .slice A2 a.pieces.length q2, .slice A3 a.masks.length q3, .string a.text, .int .i64 a.prime, .slice A4 a.weights.length q4, .int .i64 a.mask, .slice A5 a.wang.length q5, .int .i64 a.width, .int .i64 a.height] : Array Value).all (·.oneCell')) = true := by simp [Value.oneCell']
  go_wp2_with (first
    | (refine wpList_load_row rfl 54 _ rfl (w.heap.size + 1 + 1) rfl 54 _ _ _ K5.h0 Tryz.underlying54 rfl (by kernel_rfl) ?_)
    | (refine wpList_store_row rfl 54 _ _ rfl (w.heap.size + 1) #[.int .i64 a.kind, .int .i64 a.reg.w, .slice A1 a.reg.rows.length q1, .slice A2 a.pieces.length q2, .slice A3 a.masks.length q3, .string a.text, .int .i64 a.prime, .slice A4 a.weights.length q4, .int .i64 a.mask, .slice A5 a.wang.length q5, .int .i64 a.width, .int .i64 a.height] rfl rfl 54 _ K5.h1 (by kernel_rfl) rfl HALL ?_))
  have M := K5.g1.setAll #[.int .i64 a.kind, .int .i64 a.reg.w, .slice A1 a.reg.rows.length q1, .slice A2 a.pieces.length q2, .slice A3 a.masks.length q3, .string a.text, .int .i64 a.prime, .slice A4 a.weights.length q4, .int .i64 a.mask, .slice A5 a.wang.length q5, .int .i64 a.width, .int .i64 a.height]
  refine bodyPost_ret (v := .agg #[.int .i64 a.kind, .int .i64 a.reg.w, .slice A1 a.reg.rows.length q1, .slice A2 a.pieces.length q2, .slice A3 a.masks.length q3, .string a.text, .int .i64 a.prime, .slice A4 a.weights.length q4, .int .i64 a.mask, .slice A5 a.wang.length q5, .int .i64 a.width, .int .i64 a.height]) (results_cell_row Tryz.results25 _ _ (w.heap.size + 1) 54 _ _ _ rfl M.h0 Tryz.underlying54 rfl (by kernel_rfl)) rfl ?_
  refine ⟨_, rfl, ?_, CapC.mk HCAP.out, M.below⟩
  refine ⟨_, _, _, _, _, rfl, ?_, ?_, ?_, ?_, ?_⟩
  · have z : IntsRd _ W.heap.size w1.heap.size (.slice A1 a.reg.rows.length q1) a.reg.rows := M.drop.drop.drop.drop.drop.drop.drop.h0.1
    exact z.more (by omega) (by simp; omega)
  · have z : CellSSRd _ x1.heap.size w2.heap.size (.slice A2 a.pieces.length q2) a.pieces := M.drop.drop.drop.drop.drop.drop.h0.1
    exact z.more (by omega) (by simp; omega)
  · have z : IntsRd _ x2.heap.size w3.heap.size (.slice A3 a.masks.length q3) a.masks := M.drop.drop.drop.drop.drop.h0.1
    exact z.more (by omega) (by simp; omega)
  · have z : IntsRd _ x3.heap.size w4.heap.size (.slice A4 a.weights.length q4) a.weights := M.drop.drop.drop.drop.h0.1
    exact z.more (by omega) (by simp; omega)
  · have z : WangsRd _ x4.heap.size w5.heap.size (.slice A5 a.wang.length q5) a.wang := M.drop.drop.drop.h0.1
    exact z.more (by omega) (by simp; omega)

end Go.Proofs.YtppbkiajcpdkiaaGreatDoor
