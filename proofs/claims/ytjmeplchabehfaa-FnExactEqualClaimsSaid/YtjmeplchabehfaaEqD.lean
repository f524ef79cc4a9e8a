
/-
  x
-/
import Derived.Test.YtjmeplchabehfaaEqC
namespace Go.Proofs.Ytjmeplchabehfaa
open Go.RowKit
set_option maxRecDepth 100000 in
set_option maxHeartbeats 3200000 in
theorem spec_eqClaims_c {v v' : Value} {a b : Clm} (w : World) (h : ClmRd w 0 w.heap.size v a) (h' : ClmRd w 0 w.heap.size v' b) :
    Calls Try.prog 8 #[v, v'] w fun e w' => e = .returned (.bool (same a b)) ∧ Below w.heap.size w w' := by
  obtain ⟨s1, s2, s3, s4, s5, rfl, g1, g2, g3, g4, g5⟩ := h
  obtain ⟨t1, t2, t3, t4, t5, rfl, k1, k2, k3, k4, k5⟩ := h'
  obtain ⟨R, hR⟩ : ∃ R, R = same a b := ⟨_, rfl⟩
  rw [← hR]
  obtain ⟨ak, ar, aps, am, at', ap, aw, ama, ag, ai, ah⟩ := a
  obtain ⟨bk, br, bps, bm, bt, bp, bw, bma, bg, bi, bh⟩ := b
  unfold clmV
  dsimp only at g1 g2 g3 g4 g5 k1 k2 k3 k4 k5 ⊢
  have hF : ¬ (ak = bk ∧ ar = br ∧ aps = bps ∧ am = bm ∧ at' = bt ∧ ap = bp ∧ aw = bw ∧ ama = bma ∧ ag = bg ∧ ai = bi ∧ ah = bh) → R = false := fun h => by
    rw [hR]
    refine same_f fun e => h ?_
    injection e with e1 e2 e3 e4 e5 e6 e7 e8 e9 e10 e11
    exact ⟨e1, e2, e3, e4, e5, e6, e7, e8, e9, e10, e11⟩
  have hT : (ak = bk ∧ ar = br ∧ aps = bps ∧ am = bm ∧ at' = bt ∧ ap = bp ∧ aw = bw ∧ ama = bma ∧ ag = bg ∧ ai = bi ∧ ah = bh) → R = true := fun h => by
    rw [hR]
    obtain ⟨rfl, rfl, rfl, rfl, rfl, rfl, rfl, rfl, rfl, rfl, rfl⟩ := h
    exact same_t rfl
  have HF := Lib.hid hF
  have HT := Lib.hid hT
  clear hR hF hT
  have H := ((Sep.start w).box 35 #[.int .i64 ak, .int .i64 ar.w, s1, s2, s3, .string at', .int .i64 ap, s4, .int .i64 ama, s5, .int .i64 ai, .int .i64 ah]).box 35 #[.int .i64 bk, .int .i64 br.w, t1, t2, t3, .string bt, .int .i64 bp, t4, .int .i64 bma, t5, .int .i64 bi, .int .i64 bh]
  simp only [World.size_alloc] at H
  have c0 : ((w.alloc (.cells #[.int .i64 ak, .int .i64 ar.w, s1, s2, s3, .string at', .int .i64 ap, s4, .int .i64 ama, s5, .int .i64 ai, .int .i64 ah] 35)).alloc (.cells #[.int .i64 bk, .int .i64 br.w, t1, t2, t3, .string bt, .int .i64 bp, t4, .int .i64 bma, t5, .int .i64 bi, .int .i64 bh] 35)).cell? ⟨w.heap.size, 0, none⟩ = some (.int .i64 ak) := H.h1.cell 0
  have d0 : ((w.alloc (.cells #[.int .i64 ak, .int .i64 ar.w, s1, s2, s3, .string at', .int .i64 ap, s4, .int .i64 ama, s5, .int .i64 ai, .int .i64 ah] 35)).alloc (.cells #[.int .i64 bk, .int .i64 br.w, t1, t2, t3, .string bt, .int .i64 bp, t4, .int .i64 bma, t5, .int .i64 bi, .int .i64 bh] 35)).cell? ⟨w.heap.size + 1, 0, none⟩ = some (.int .i64 bk) := H.h0.cell 0
  have c1 : ((w.alloc (.cells #[.int .i64 ak, .int .i64 ar.w, s1, s2, s3, .string at', .int .i64 ap, s4, .int .i64 ama, s5, .int .i64 ai, .int .i64 ah] 35)).alloc (.cells #[.int .i64 bk, .int .i64 br.w, t1, t2, t3, .string bt, .int .i64 bp, t4, .int .i64 bma, t5, .int .i64 bi, .int .i64 bh] 35)).cell? ⟨w.heap.size, 1, none⟩ = some (.int .i64 ar.w) := H.h1.cell 1
  have d1 : ((w.alloc (.cells #[.int .i64 ak, .int .i64 ar.w, s1, s2, s3, .string at', .int .i64 ap, s4, .int .i64 ama, s5, .int .i64 ai, .int .i64 ah] 35)).alloc (.cells #[.int .i64 bk, .int .i64 br.w, t1, t2, t3, .string bt, .int .i64 bp, t4, .int .i64 bma, t5, .int .i64 bi, .int .i64 bh] 35)).cell? ⟨w.heap.size + 1, 1, none⟩ = some (.int .i64 br.w) := H.h0.cell 1
  have c2 : ((w.alloc (.cells #[.int .i64 ak, .int .i64 ar.w, s1, s2, s3, .string at', .int .i64 ap, s4, .int .i64 ama, s5, .int .i64 ai, .int .i64 ah] 35)).alloc (.cells #[.int .i64 bk, .int .i64 br.w, t1, t2, t3, .string bt, .int .i64 bp, t4, .int .i64 bma, t5, .int .i64 bi, .int .i64 bh] 35)).cell? ⟨w.heap.size, 2, none⟩ = some (s1) := H.h1.cell 2
  have d2 : ((w.alloc (.cells #[.int .i64 ak, .int .i64 ar.w, s1, s2, s3, .string at', .int .i64 ap, s4, .int .i64 ama, s5, .int .i64 ai, .int .i64 ah] 35)).alloc (.cells #[.int .i64 bk, .int .i64 br.w, t1, t2, t3, .string bt, .int .i64 bp, t4, .int .i64 bma, t5, .int .i64 bi, .int .i64 bh] 35)).cell? ⟨w.heap.size + 1, 2, none⟩ = some (t1) := H.h0.cell 2
  by_cases h1 : ak = bk
  rotate_left
  · obtain rfl : R = false := HF.out (fun h => h1 h.1)
    have e1 : (ak == bk) = false := by simpa using h1
    clear h1
    go_enter Try.func8, Try.ntmps8
    go_wp2
    go_ret
    exact ⟨rfl, H.below⟩
  subst h1
  go_enter Try.func8, Try.ntmps8
  go_wp2_with fail
  clear c0 d0 c1 d1 c2 d2
  generalize ((w.alloc (.cells #[.int .i64 ak, .int .i64 ar.w, s1, s2, s3, .string at', .int .i64 ap, s4, .int .i64 ama, s5, .int .i64 ai, .int .i64 ah] 35)).alloc (.cells #[.int .i64 ak, .int .i64 br.w, t1, t2, t3, .string bt, .int .i64 bp, t4, .int .i64 bma, t5, .int .i64 bi, .int .i64 bh] 35)) = W at *
  refine (spec_eqReg_c (a := ar) (b := br) W ⟨s1, rfl, ((g1.keep (SameIn.of_below H.below (Nat.le_refl _))).more (Nat.le_refl _) H.size)⟩ ⟨t1, rfl, ((k1.keep (SameIn.of_below H.below (Nat.le_refl _))).more (Nat.le_refl _) H.size)⟩).mono ?_
  rintro e w1 ⟨rfl, b1⟩
  have H1 := H.step b1
  clear b1 H
  by_cases hh : ar = br
  rotate_left
  · obtain rfl : R = false := HF.out (fun h => hh h.2.1)
    rw [same_f hh]
    clear hh
    go_wp2
    go_ret
    exact ⟨rfl, H1.below⟩
  rw [same_t hh]
  subst hh
  have c3 : w1.cell? ⟨w.heap.size, 3, none⟩ = some (s2) := H1.h1.cell 3
  have d3 : w1.cell? ⟨w.heap.size + 1, 3, none⟩ = some (t2) := H1.h0.cell 3
  go_wp2_with fail
  clear c3 d3
  refine (spec_eqPieces_c (a := aps) (b := bps) w1 ((g2.keep (SameIn.of_below H1.below (Nat.le_refl _))).more (Nat.le_refl _) H1.size) ((k2.keep (SameIn.of_below H1.below (Nat.le_refl _))).more (Nat.le_refl _) H1.size)).mono ?_
  rintro e w2 ⟨rfl, b2⟩
  have H2 := H1.step b2
  clear b2 H1
  by_cases hh : aps = bps
  rotate_left
  · obtain rfl : R = false := HF.out (fun h => hh h.2.2.1)
    rw [same_f hh]
    clear hh
    go_wp2
    go_ret
    exact ⟨rfl, H2.below⟩
  rw [same_t hh]
  subst hh
  have c4 : w2.cell? ⟨w.heap.size, 4, none⟩ = some (s3) := H2.h1.cell 4
  have d4 : w2.cell? ⟨w.heap.size + 1, 4, none⟩ = some (t3) := H2.h0.cell 4
  go_wp2_with fail
  clear c4 d4
  refine (spec_same_c (a := am) (b := bm) w2 ((g3.keep (SameIn.of_below H2.below (Nat.le_refl _))).more (Nat.le_refl _) H2.size) ((k3.keep (SameIn.of_below H2.below (Nat.le_refl _))).more (Nat.le_refl _) H2.size)).mono ?_
  rintro e w3 ⟨rfl, b3⟩
  have H3 := H2.step b3
  clear b3 H2
  by_cases hh : am = bm
  rotate_left
  · obtain rfl : R = false := HF.out (fun h => hh h.2.2.2.1)
    rw [same_f hh]
    clear hh
    go_wp2
    go_ret
    exact ⟨rfl, H3.below⟩
  rw [same_t hh]
  subst hh
  have c5 : w3.cell? ⟨w.heap.size, 5, none⟩ = some (.string at') := H3.h1.cell 5
  have d5 : w3.cell? ⟨w.heap.size + 1, 5, none⟩ = some (.string bt) := H3.h0.cell 5
  have c6 : w3.cell? ⟨w.heap.size, 6, none⟩ = some (.int .i64 ap) := H3.h1.cell 6
  have d6 : w3.cell? ⟨w.heap.size + 1, 6, none⟩ = some (.int .i64 bp) := H3.h0.cell 6
  have c7 : w3.cell? ⟨w.heap.size, 7, none⟩ = some (s4) := H3.h1.cell 7
  have d7 : w3.cell? ⟨w.heap.size + 1, 7, none⟩ = some (t4) := H3.h0.cell 7
  by_cases hh : at' = bt
  rotate_left
  · obtain rfl : R = false := HF.out (fun h => hh h.2.2.2.2.1)
    have h5 := hh
    have e1 : (at'.toList == bt.toList) = false := by
      rw [Lib.toList_data, Lib.toList_data, beq_eq_false_iff_ne]
      intro e
      exact h5 (by cases at'; cases bt; simp at e; rw [e])
    clear h5
    clear hh
    go_wp2
    go_ret
    exact ⟨rfl, H3.below⟩
  subst hh
  have e5 : (at'.toList == at'.toList) = true := by simp
  by_cases hh : ap = bp
  rotate_left
  · obtain rfl : R = false := HF.out (fun h => hh h.2.2.2.2.2.1)
    have e1 : (ap == bp) = false := by simpa using hh
    clear hh
    go_wp2
    go_ret
    exact ⟨rfl, H3.below⟩
  subst hh
  go_wp2_with fail
  clear e5
  clear c5 d5 c6 d6 c7 d7
  refine (spec_same_c (a := aw) (b := bw) w3 ((g4.keep (SameIn.of_below H3.below (Nat.le_refl _))).more (Nat.le_refl _) H3.size) ((k4.keep (SameIn.of_below H3.below (Nat.le_refl _))).more (Nat.le_refl _) H3.size)).mono ?_
  rintro e w4 ⟨rfl, b4⟩
  have H4 := H3.step b4
  clear b4 H3
  by_cases hh : aw = bw
  rotate_left
  · obtain rfl : R = false := HF.out (fun h => hh h.2.2.2.2.2.2.1)
    rw [same_f hh]
    clear hh
    go_wp2
    go_ret
    exact ⟨rfl, H4.below⟩
  rw [same_t hh]
  subst hh
  have c8 : w4.cell? ⟨w.heap.size, 8, none⟩ = some (.int .i64 ama) := H4.h1.cell 8
  have d8 : w4.cell? ⟨w.heap.size + 1, 8, none⟩ = some (.int .i64 bma) := H4.h0.cell 8
  have c9 : w4.cell? ⟨w.heap.size, 9, none⟩ = some (s5) := H4.h1.cell 9
  have d9 : w4.cell? ⟨w.heap.size + 1, 9, none⟩ = some (t5) := H4.h0.cell 9
  by_cases hh : ama = bma
  rotate_left
  · obtain rfl : R = false := HF.out (fun h => hh h.2.2.2.2.2.2.2.1)
    have e1 : (ama == bma) = false := by simpa using hh
    clear hh
    go_wp2
    go_ret
    exact ⟨rfl, H4.below⟩
  subst hh
  go_wp2_with fail
  clear c8 d8 c9 d9
  refine (spec_eqWangs_c (a := ag) (b := bg) w4 ((g5.keep (SameIn.of_below H4.below (Nat.le_refl _))).more (Nat.le_refl _) H4.size) ((k5.keep (SameIn.of_below H4.below (Nat.le_refl _))).more (Nat.le_refl _) H4.size)).mono ?_
  rintro e w5 ⟨rfl, b5⟩
  have H5 := H4.step b5
  clear b5 H4
  by_cases hh : ag = bg
  rotate_left
  · obtain rfl : R = false := HF.out (fun h => hh h.2.2.2.2.2.2.2.2.1)
    rw [same_f hh]
    clear hh
    go_wp2
    go_ret
    exact ⟨rfl, H5.below⟩
  rw [same_t hh]
  subst hh
  have c10 : w5.cell? ⟨w.heap.size, 10, none⟩ = some (.int .i64 ai) := H5.h1.cell 10
  have d10 : w5.cell? ⟨w.heap.size + 1, 10, none⟩ = some (.int .i64 bi) := H5.h0.cell 10
  have c11 : w5.cell? ⟨w.heap.size, 11, none⟩ = some (.int .i64 ah) := H5.h1.cell 11
  have d11 : w5.cell? ⟨w.heap.size + 1, 11, none⟩ = some (.int .i64 bh) := H5.h0.cell 11
  by_cases hh : ai = bi
  rotate_left
  · obtain rfl : R = false := HF.out (fun h => hh h.2.2.2.2.2.2.2.2.2.1)
    have e1 : (ai == bi) = false := by simpa using hh
    clear hh
    go_wp2
    go_ret
    exact ⟨rfl, H5.below⟩
  subst hh
  by_cases hh : ah = bh
  rotate_left
  · obtain rfl : R = false := HF.out (fun h => hh h.2.2.2.2.2.2.2.2.2.2)
    have e1 : (ah == bh) = false := by simpa using hh
    clear hh
    go_wp2
    go_ret
    exact ⟨rfl, H5.below⟩
  subst hh
  obtain rfl : R = true := HT.out (by simp)
  go_wp2
  go_ret
  exact ⟨rfl, H5.below⟩
end Go.Proofs.Ytjmeplchabehfaa
