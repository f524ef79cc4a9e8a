
/-
  The laws' helpers over []int and Region.
-/
import Derived.Test.YtoccedebiacbiaaDoorProg
import Derived.Test.YtoccedebiacbiaaDoorKinds
namespace Go.Proofs.YtoccedebiacbiaaDoor
open Go.RowKit

set_option maxRecDepth 100000 in
theorem infoInt : (Tryd.prog.info? 3).map (fun i => (i.zero, i.size, i.bytes)) = some (some (.int .i64 0), 1, 8) := by kernel_rfl

set_option maxRecDepth 100000 in
set_option maxHeartbeats 400000 in
theorem szIntS_c {v : Value} {x : List Int} (l : Int) (w : World) (h : IntsRd w 0 w.heap.size v x) (h1 : 0 ≤ l) (h2 : l ≤ 1048576):
    Calls Tryd.prog 9 #[v, .int .i64 l] w fun e w' => e = .returned (.int .i64 (if l < x.length then -1 else l - x.length)) ∧ w = w' := by
  obtain ⟨A, c, rfl, hm, hr⟩ := h
  unfold maxLen at hm
  generalize x.length = n at *
  by_cases hn : l < n
  all_goals
    go_enter Tryd.func9, Tryd.ntmps9
    go_wp2
    go_ret
    exact ⟨rfl, rfl⟩

set_option maxRecDepth 100000 in
set_option maxHeartbeats 400000 in
theorem toIntS_c {v : Value} {x : List Int} (w : World) (h : IntsRd w 0 w.heap.size v x) (hn : x.length ≤ 1048576) :
    Calls Tryd.prog 21 #[v] w fun e w' => ∃ v', e = .returned v' ∧ IntsIn w' w.heap.size w'.heap.size v' x ∧ Below w.heap.size w w' := by
  obtain ⟨A, c, rfl, hm, hr⟩ := h
  obtain ⟨n, hx⟩ : ∃ n, n = x.length := ⟨_, rfl⟩
  rw [← hx] at hn hr
  obtain ⟨i0, hi, hz0, hz1, hz2⟩ := info_parts infoInt
  have hmk := fun W => run_make_rowN (P := Tryd.prog) 22 3 i0 _ Tryd.underlying22 hi hz0 .i64 .i64 n n (Nat.le_refl _) (by rw [hz2]; omega) (by omega) W
  rw [hz1] at hmk
  rw [← hx]
  have Hx := Lib.hid hx
  clear hx hm
  go_enter Tryd.func21, Tryd.ntmps21
  go_wp2
  clear hmk
  go_loopw [4] (fun i wr => ∃ k : Nat, k ≤ n ∧ i = .int .i64 k ∧ (∃ cs, Blk wr w.heap.size 3 cs ∧ cs.size = n * 1 ∧ cs.toList.take (k * 1) = (ic x).take (k * 1)) ∧ Below w.heap.size w wr) (fun i _ => n - (intOf i).toNat)
  case atStart => exact ⟨0, Nat.zero_le _, rfl, ⟨_, Blk.new _ _ _, by simp [size_madeCells], by simp⟩, (Below.refl _ _).alloc (Nat.le_refl _) _⟩
  case round =>
    obtain ⟨k, hk, rfl, ⟨cs, hblk, hcs, htk⟩, hbel⟩ := hrel
    by_cases hlt : k < n
    · obtain ⟨b, off, a, rfl, _, hb, hla, q1⟩ := (hr.keep (SameIn.of_below hbel (Nat.le_refl _))).at1 hlt
      obtain ⟨u0, g0⟩ : ∃ u, wr.cell? ⟨w.heap.size, k, none⟩ = some u := ⟨_, by rw [hblk.cell, Array.getElem?_eq_getElem (by omega)]⟩
      have f0 := hblk.frozen k
      have hsz := hblk.lt
      have HB := Lib.hid hblk
      have HC := Lib.hid hcs
      have HT := Lib.hid htk
      clear hr hblk hcs htk
      go_wp2
      go_roundw
      case rel =>
        have F := fill1 (w := w) HB.out HC.out hlt HT.out (ic_at hla) hbel
        exact ⟨k + 1, by omega, by go_num, F.1, F.2⟩
      case measure => simp [intOf]; omega
    · go_wp2
      go_ret
      have hkn : k = n := by omega
      subst hkn
      exact ⟨_, rfl, IntsIn.mk (own_of_blk hblk (Nat.le_refl _) hcs rfl (by unfold maxLen; omega)) Hx.out (by rw [htk, List.take_of_length_le (by rw [ic_length, Nat.mul_one, Hx.out]; exact Nat.le_refl _)]), hbel⟩

set_option maxRecDepth 100000 in
set_option maxHeartbeats 400000 in
theorem eqIntS_c {v v' : Value} {x : List Int} (w : World) (h : IntsRd w 0 w.heap.size v x) (h' : IntsRd w 0 w.heap.size v' x) :
    Calls Tryd.prog 34 #[v, v'] w fun e w' => e = .returned (.bool true) ∧ Below w.heap.size w w' := by
  obtain ⟨A, c, rfl, hm, hr⟩ := h
  obtain ⟨A', c', rfl, _, hr'⟩ := h'
  obtain ⟨n, hx⟩ : ∃ n, n = x.length := ⟨_, rfl⟩
  rw [← hx] at hm hr hr' ⊢
  clear hx
  unfold maxLen at hm
  go_enter Tryd.func34, Tryd.ntmps34
  go_wp2
  go_loopw [5] (fun i wr => ∃ k : Nat, k ≤ n ∧ i = .int .i64 k ∧ Below w.heap.size w wr) (fun i _ => n - (intOf i).toNat)
  case atStart => exact ⟨0, Nat.zero_le _, rfl, Below.refl _ _⟩
  case round =>
    obtain ⟨k, hk, rfl, hbel⟩ := hrel
    by_cases hlt : k < n
    · obtain ⟨b, off, a, rfl, _, hb, hla, q1⟩ := (hr.keep (SameIn.of_below hbel (Nat.le_refl _))).at1 hlt
      obtain ⟨b', off', a', rfl, _, hb', hla', q1'⟩ := (hr'.keep (SameIn.of_below hbel (Nat.le_refl _))).at1 hlt
      obtain rfl : a = a' := by rw [hla] at hla'; injection hla'
      clear hr hr' hla hla'
      go_wp2_with fail
      go_quiet (fail)
      go_wp2
      go_roundw
      case rel => exact ⟨k + 1, by omega, by go_num, below_drewN hbel _⟩
      case measure => simp [intOf]; omega
    · go_wp2
      go_ret
      exact ⟨rfl, hbel⟩

/-! regions -/
set_option maxRecDepth 100000 in
set_option maxHeartbeats 400000 in
theorem szRegion_c {v : Value} {x : Reg} (l : Int) (w : World) (h : RegRd w 0 w.heap.size v x) (h1 : 0 ≤ l) (h2 : l ≤ 1048576) :
    Calls Tryd.prog 4 #[v, .int .i64 l] w fun e w' => e = .returned (.int .i64 (if l < x.rows.length then -1 else l - x.rows.length)) ∧ Below w.heap.size w w' := by
  obtain ⟨s, rfl, hs⟩ := h
  have hsn := hs
  obtain ⟨A, c, rfl, hm, hr⟩ := hs
  by_cases hn : l < x.rows.length
  all_goals
    go_enter Tryd.func4, Tryd.ntmps4
    go_wp2_with fail
    refine (szIntS_c _ _ ((hsn.keep (SameIn.alloc (Nat.le_refl _) _)).more (Nat.le_refl _) (by simp)) h1 h2).mono ?_
    rintro e w' ⟨rfl, rfl⟩
    first
      | rw [if_pos hn]
      | (have hn2 : ¬ l < x.rows.length := by omega
         rw [if_neg hn2])
    go_wp2
    go_ret
    exact ⟨rfl, (Below.refl _ _).alloc (Nat.le_refl _) _⟩

set_option maxRecDepth 100000 in
set_option maxHeartbeats 400000 in
theorem toRegion_c {v : Value} {x : Reg} (w : World) (h : RegRd w 0 w.heap.size v x) (hn : x.rows.length ≤ 1048576) :
    Calls Tryd.prog 6 #[v] w fun e w' => ∃ v', e = .returned v' ∧ RegIn w' w.heap.size w'.heap.size v' x ∧ Below w.heap.size w w' := by
  obtain ⟨s, rfl, hs⟩ := h
  go_enter Tryd.func6, Tryd.ntmps6
  go_wp2_with fail
  have hb0 : Below w.heap.size w (((w.alloc (.cells #[.int .i64 x.w, s] 24)).alloc (.cells #[.int .i64 0, .slice none 0 0] 27)).alloc (.cells #[.int .i64 x.w, .slice none 0 0] 27)) :=
    (((Below.refl _ _).alloc (Nat.le_refl _) _).alloc (by simp) _).alloc (by simp; omega) _
  have B1 : Blk (((w.alloc (.cells #[.int .i64 x.w, s] 24)).alloc (.cells #[.int .i64 0, .slice none 0 0] 27)).alloc (.cells #[.int .i64 x.w, .slice none 0 0] 27)) (w.heap.size + 1) 27 #[.int .i64 0, .slice none 0 0] := by
    have := (Blk.new (w.alloc (.cells #[.int .i64 x.w, s] 24)) 27 #[.int .i64 0, .slice none 0 0]).alloc (.cells #[.int .i64 x.w, .slice none 0 0] 27)
    simpa using this
  have B2 : Blk (((w.alloc (.cells #[.int .i64 x.w, s] 24)).alloc (.cells #[.int .i64 0, .slice none 0 0] 27)).alloc (.cells #[.int .i64 x.w, .slice none 0 0] 27)) (w.heap.size + 1 + 1) 27 #[.int .i64 x.w, .slice none 0 0] := by
    have := Blk.new ((w.alloc (.cells #[.int .i64 x.w, s] 24)).alloc (.cells #[.int .i64 0, .slice none 0 0] 27)) 27 #[.int .i64 x.w, .slice none 0 0]
    simpa using this
  have hsz : w.heap.size + 3 = (((w.alloc (.cells #[.int .i64 x.w, s] 24)).alloc (.cells #[.int .i64 0, .slice none 0 0] 27)).alloc (.cells #[.int .i64 x.w, .slice none 0 0] 27)).heap.size := by simp
  have hs3 := hs.keep (SameIn.of_below hb0 (Nat.le_refl _))
  generalize (((w.alloc (.cells #[.int .i64 x.w, s] 24)).alloc (.cells #[.int .i64 0, .slice none 0 0] 27)).alloc (.cells #[.int .i64 x.w, .slice none 0 0] 27)) = W3 at *
  refine (toIntS_c _ (hs3.more (Nat.le_refl _) (by omega)) hn).mono ?_
  rintro e w1 ⟨v', rfl, ho, hb1⟩
  have B1' := B1.below hb1 (by omega)
  have B2' := B2.below hb1 (by omega)
  have c10 := B1'.cell 0
  have c11 := B1'.cell 1
  have c20 := B2'.cell 0
  have c21 := B2'.cell 1
  have f10 := B1'.frozen 0
  have f11 := B1'.frozen 1
  have f20 := B2'.frozen 0
  have f21 := B2'.frozen 1
  simp at c10 c11 c20 c21
  have hsz' := hb1.size
  have HZ : w.heap.size + 3 ≤ W3.heap.size := by omega
  clear hsz B1 B2
  obtain ⟨A', c', rfl, _, _⟩ := ho.rd
  have Ho := Lib.hid ho
  clear ho
  go_wp2
  refine bodyPost_ret (v := .agg #[.int .i64 x.w, .slice A' x.rows.length c']) (by simp [results, Tryd.results6, go_sem, *]) rfl ⟨_, rfl, ?_⟩
  refine ⟨⟨_, rfl, ?_⟩, ?_⟩
  · have h1 := ((Ho.out.keep (SameIn.setCell (p := ⟨w.heap.size + 1 + 1, 1, none⟩) (by simp; omega) (.slice A' x.rows.length c'))).keep (SameIn.setCell (p := ⟨w.heap.size + 1, 0, none⟩) (by simp; omega) (.int .i64 x.w))).keep (SameIn.setCell (p := ⟨w.heap.size + 1, 1, none⟩) (by simp; omega) (.slice A' x.rows.length c'))
    exact OI.base h1 (by omega) (by simp)
  · exact ((((hb0.trans (hb1.mono (by omega))).setCell (by simp; omega) _).setCell (by simp) _).setCell (by simp) _)

set_option maxRecDepth 100000 in
set_option maxHeartbeats 400000 in
theorem eqRegion_c {v v' : Value} {x : Reg} (w : World) (h : RegRd w 0 w.heap.size v x) (h' : RegRd w 0 w.heap.size v' x) :
    Calls Tryd.prog 8 #[v, v'] w fun e w' => e = .returned (.bool true) ∧ Below w.heap.size w w' := by
  obtain ⟨s, rfl, hs⟩ := h
  obtain ⟨s', rfl, hs'⟩ := h'
  have hb0 : Below w.heap.size w ((w.alloc (.cells #[.int .i64 x.w, s] 27)).alloc (.cells #[.int .i64 x.w, s'] 27)) := ((Below.refl _ _).alloc (Nat.le_refl _) _).alloc (by simp) _
  go_enter Tryd.func8, Tryd.ntmps8
  go_wp2_with fail
  refine (eqIntS_c _ ((hs.keep (SameIn.of_below hb0 (Nat.le_refl _))).more (Nat.le_refl _) hb0.size) ((hs'.keep (SameIn.of_below hb0 (Nat.le_refl _))).more (Nat.le_refl _) hb0.size)).mono ?_
  rintro e w' ⟨rfl, hb1⟩
  go_wp2
  go_ret
  exact ⟨rfl, hb0.trans (hb1.mono hb0.size)⟩

end Go.Proofs.YtoccedebiacbiaaDoor
