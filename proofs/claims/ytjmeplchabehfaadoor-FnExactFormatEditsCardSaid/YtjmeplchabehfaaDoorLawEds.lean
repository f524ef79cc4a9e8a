
/-
  The walks over edits: the law's helpers.
-/
import Derived.Test.YtjmeplchabehfaaDoorProg
import Derived.Test.YtjmeplchabehfaaDoorKinds
namespace Go.Proofs.YtjmeplchabehfaaDoor
open Go.RowKit

set_option maxRecDepth 100000 in
set_option maxHeartbeats 400000 in
theorem toEdit_any (a : Bool) (x y : Int) (w : World) :
    Calls Tryd.prog 20 #[.agg #[.bool a, .int .i64 x, .int .i64 y]] w fun e w' => e = .returned (.agg #[.bool a, .int .i64 x, .int .i64 y]) ∧ Below w.heap.size w w' := by
  go_enter Tryd.func20, Tryd.ntmps20
  go_wp2
  refine bodyPost_ret (v := .agg #[.bool a, .int .i64 x, .int .i64 y]) (by simp [results, Tryd.results20, go_sem]) rfl ⟨rfl, ?_⟩
  exact (((Below.refl _ _).alloc (Nat.le_refl _) _).alloc (by simp) _).alloc (by simp; omega) _

set_option maxRecDepth 100000 in
theorem infoEdit : (Tryd.prog.info? 40).map (fun i => (i.zero, i.size, i.bytes)) = some (some (.agg #[.bool false, .int .i64 0, .int .i64 0]), 3, 24) := by kernel_rfl

set_option maxRecDepth 100000 in
set_option maxHeartbeats 400000 in
theorem toEditS_any (A : Option Addr) (n c : Nat) (l : List Ed) (w : World) (hn : n ≤ 1048576) (hr : Rd w 0 w.heap.size 3 A n (edc l)) :
    Calls Tryd.prog 8 #[.slice A n c] w fun e w' => ∃ v, e = .returned v ∧ w'.ownsRow w.heap.size 40 3 v n (edc l) ∧ Below w.heap.size w w' := by
  obtain ⟨i0, hi, hz0, hz1, hz2⟩ := info_parts infoEdit
  have hmk := fun W => run_make_rowN (P := Tryd.prog) 25 40 i0 _ Tryd.underlying25 hi hz0 .i64 .i64 n n (Nat.le_refl _) (by rw [hz2]; omega) (by omega) W
  rw [hz1] at hmk
  have hll : l.length = n := by have := hr.1; rw [edc_length] at this; omega
  go_enter Tryd.func8, Tryd.ntmps8
  go_wp2
  clear hmk
  go_loopw [4] (fun i wr => ∃ k : Nat, k ≤ n ∧ i = .int .i64 k ∧ (∃ cs, Blk wr w.heap.size 40 cs ∧ cs.size = n * 3 ∧ cs.toList.take (k * 3) = (edc l).take (k * 3)) ∧ Below w.heap.size w wr) (fun i _ => n - (intOf i).toNat)
  case atStart => exact ⟨0, Nat.zero_le _, rfl, ⟨_, Blk.new _ _ _, by simp [size_madeCells], by simp⟩, (Below.refl _ _).alloc (Nat.le_refl _) _⟩
  case round =>
    obtain ⟨k, hk, rfl, ⟨cs, hblk, hcs, htk⟩, hbel⟩ := hrel
    have Hll := Lib.hid hll
    clear hll
    by_cases hlt : k < n
    · obtain ⟨b, off, a, rfl, _, hb, hla, q1, q2, q3⟩ := (hr.below hbel (Nat.le_refl _)).at3 hlt
      have HB := Lib.hid hblk
      clear hr hblk
      go_wp2_with fail
      refine (toEdit_any _ _ _ _).mono ?_
      rintro e w1 ⟨rfl, hb1⟩
      have hblk1 := HB.out.below hb1 HB.out.lt
      have hlt1 := hblk1.lt
      obtain ⟨u0, g0⟩ : ∃ u, w1.cell? ⟨w.heap.size, k * 3, none⟩ = some u := ⟨_, by rw [hblk1.cell, Array.getElem?_eq_getElem (by omega)]⟩
      obtain ⟨u1, g1⟩ : ∃ u, w1.cell? ⟨w.heap.size, k * 3 + 1, none⟩ = some u := ⟨_, by rw [hblk1.cell, Array.getElem?_eq_getElem (by omega)]⟩
      obtain ⟨u2, g2⟩ : ∃ u, w1.cell? ⟨w.heap.size, k * 3 + 2, none⟩ = some u := ⟨_, by rw [hblk1.cell, Array.getElem?_eq_getElem (by omega)]⟩
      have f0 := hblk1.frozen (k * 3)
      have f1 := hblk1.frozen (k * 3 + 1)
      have f2 := hblk1.frozen (k * 3 + 2)
      have HB1 := Lib.hid hblk1
      have HC := Lib.hid hcs
      have HT := Lib.hid htk
      clear hblk1 HB hcs htk
      go_wp2
      go_roundw
      case rel =>
        have q := fl3_at (f := fun e : Ed => Value.bool e.add) (g := fun e => .int .i64 e.x) (h := fun e => .int .i64 e.y) hla
        have F := fill3 (w := w) HB1.out HC.out hlt HT.out q.1 q.2.1 q.2.2 (hbel.trans (hb1.mono hbel.size))
        exact ⟨k + 1, by omega, by go_num, F.1, F.2⟩
      case measure => simp [intOf]; omega
    · go_wp2
      go_ret
      have hkn : k = n := by omega
      subst hkn
      exact ⟨_, rfl, own_of_blk hblk (Nat.le_refl _) hcs (by rw [htk, List.take_of_length_le (by rw [edc_length]; have := Hll.out; omega)]) (by unfold maxLen; omega), hbel⟩

set_option maxRecDepth 100000 in
set_option maxHeartbeats 400000 in
theorem eqEdit_same (a : Bool) (x y : Int) (w : World) :
    Calls Tryd.prog 23 #[.agg #[.bool a, .int .i64 x, .int .i64 y], .agg #[.bool a, .int .i64 x, .int .i64 y]] w fun e w' => e = .returned (.bool true) ∧ Below w.heap.size w w' := by
  go_enter Tryd.func23, Tryd.ntmps23
  go_wp2
  go_ret
  exact ⟨rfl, ((Below.refl _ _).alloc (Nat.le_refl _) _).alloc (by simp) _⟩

set_option maxRecDepth 100000 in
set_option maxHeartbeats 400000 in
theorem eqEditS_same (A : Option Addr) (c : Nat) (A' : Option Addr) (c' : Nat) (n : Nat) (l : List Ed) (w : World) (hn : n ≤ maxLen) (hr : Rd w 0 w.heap.size 3 A n (edc l)) (hr' : Rd w 0 w.heap.size 3 A' n (edc l)) :
    Calls Tryd.prog 10 #[.slice A n c, .slice A' n c'] w fun e w' => e = .returned (.bool true) ∧ Below w.heap.size w w' := by
  unfold maxLen at hn
  go_enter Tryd.func10, Tryd.ntmps10
  go_wp2
  go_loopw [5] (fun i wr => ∃ k : Nat, k ≤ n ∧ i = .int .i64 k ∧ Below w.heap.size w wr) (fun i _ => n - (intOf i).toNat)
  case atStart => exact ⟨0, Nat.zero_le _, rfl, Below.refl _ _⟩
  case round =>
    obtain ⟨k, hk, rfl, hbel⟩ := hrel
    by_cases hlt : k < n
    · obtain ⟨b, off, a, rfl, _, hb, hla, q1, q2, q3⟩ := (hr.below hbel (Nat.le_refl _)).at3 hlt
      obtain ⟨b', off', a', rfl, _, hb', hla', q1', q2', q3'⟩ := (hr'.below hbel (Nat.le_refl _)).at3 hlt
      obtain rfl : a = a' := by rw [hla] at hla'; injection hla'
      clear hr hr' hla hla'
      go_wp2_with fail
      go_still_tail 8, (by kernel_rfl)
      change wpList _ _ _ _ _ wr.drew
      have hbel2 := below_drew hbel
      generalize wr.drew = w2 at *
      go_wp2_with fail
      refine (eqEdit_same _ _ _ _).mono ?_
      rintro e w1 ⟨rfl, hb1⟩
      go_wp2
      go_roundw
      case rel => exact ⟨k + 1, by omega, by go_num, hbel2.trans (hb1.mono hbel2.size)⟩
      case measure => simp [intOf]; omega
    · go_wp2
      go_ret
      exact ⟨rfl, hbel⟩
set_option maxRecDepth 100000 in
set_option maxHeartbeats 400000 in
theorem szEditS_any (A : Option Addr) (n c : Nat) (l : Int) (w : World) (h : n ≤ maxLen) (h1 : 0 ≤ l) (h2 : l ≤ 1048576):
    Calls Tryd.prog 6 #[.slice A n c, .int .i64 l] w fun e w' => e = .returned (.int .i64 (if l < n then -1 else l - n)) ∧ w = w' := by
  unfold maxLen at h
  by_cases hn : l < n
  · go_enter Tryd.func6, Tryd.ntmps6
    go_wp2
    go_ret
    exact ⟨rfl, rfl⟩
  · go_enter Tryd.func6, Tryd.ntmps6
    go_wp2
    go_ret
    exact ⟨rfl, rfl⟩

set_option maxRecDepth 100000 in
theorem toEditS_c {v : Value} {x : List Ed} (w : World) (h : EdsRd w 0 w.heap.size v x) (hn : x.length ≤ 1048576) :
    Calls Tryd.prog 8 #[v] w fun e w' => ∃ v', e = .returned v' ∧ EdsIn w' w.heap.size w'.heap.size v' x ∧ Below w.heap.size w w' := by
  obtain ⟨A, c, rfl, hm, hr⟩ := h
  refine (toEditS_any A _ c x w hn hr).mono ?_
  rintro e w' ⟨v', rfl, ho, hb⟩
  exact ⟨v', rfl, EdsIn.mk ho rfl rfl, hb⟩
set_option maxRecDepth 100000 in
theorem eqEditS_c {v v' : Value} {x : List Ed} (w : World) (h : EdsRd w 0 w.heap.size v x) (h' : EdsRd w 0 w.heap.size v' x) :
    Calls Tryd.prog 10 #[v, v'] w fun e w' => e = .returned (.bool true) ∧ Below w.heap.size w w' := by
  obtain ⟨A, c, rfl, hm, hr⟩ := h
  obtain ⟨A', c', rfl, _, hr'⟩ := h'
  exact eqEditS_same A c A' c' _ x w hm hr hr'
set_option maxRecDepth 100000 in
theorem szEditS_c {v : Value} {x : List Ed} (l : Int) (w : World) (h : EdsRd w 0 w.heap.size v x) (h1 : 0 ≤ l) (h2 : l ≤ 1048576):
    Calls Tryd.prog 6 #[v, .int .i64 l] w fun e w' => e = .returned (.int .i64 (if l < x.length then -1 else l - x.length)) ∧ w = w' := by
  obtain ⟨A, c, rfl, hm, hr⟩ := h
  exact szEditS_any A _ c l w hm h1 h2
end Go.Proofs.YtjmeplchabehfaaDoor
