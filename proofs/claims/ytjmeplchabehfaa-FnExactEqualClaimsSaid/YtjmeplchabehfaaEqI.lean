
/-
  The walk of the program's EqualClaims.
-/
import Derived.Test.YtjmeplchabehfaaEqC
namespace Go.Proofs.Ytjmeplchabehfaa
open Go.RowKit
theorem ne_at {α : Type} {a b : List α} {k : Nat} {x y : α} (hx : a[k]? = some x) (hy : b[k]? = some y) (h : ¬ x = y) : ¬ a = b := fun e => h (by subst e; rw [hx] at hy; injection hy)
theorem eq_all {α : Type} {a b : List α} (hl : a.length = b.length) (h : ∀ (j : Nat) (x y : α), j < a.length → a[j]? = some x → b[j]? = some y → x = y) : a = b :=
  List.ext_getElem hl fun j h1 h2 => h j _ _ h1 (List.getElem?_eq_getElem h1) (List.getElem?_eq_getElem h2)
set_option maxRecDepth 100000 in
set_option maxHeartbeats 6400000 in
theorem impl_eqClaims_c {v v' : Value} {a b : Clm} (w : World) (h : ClmRd w 0 w.heap.size v a) (h' : ClmRd w 0 w.heap.size v' b) :
    Calls Try.prog 10 #[v, v'] w fun e w' => e = .returned (.bool (same a b)) ∧ Below w.heap.size w w' := by
  obtain ⟨s1, s2, s3, s4, s5, rfl, g1, g2, g3, g4, g5⟩ := h
  obtain ⟨t1, t2, t3, t4, t5, rfl, k1, k2, k3, k4, k5⟩ := h'
  obtain ⟨R, hR⟩ : ∃ R, R = same a b := ⟨_, rfl⟩
  rw [← hR]
  obtain ⟨ak, ar, aps, am, at', ap, aw, ama, ag, ai, ah⟩ := a
  obtain ⟨bk, br, bps, bm, bt, bp, bw, bma, bg, bi, bh⟩ := b
  unfold clmV
  dsimp only at g1 g2 g3 g4 g5 k1 k2 k3 k4 k5 ⊢
  have hF : ¬ (ak = bk ∧ ar = br ∧ aps = bps ∧ am = bm ∧ at' = bt ∧ ap = bp ∧ aw = bw ∧ ama = bma ∧ ag = bg ∧ ai = bi ∧ ah = bh) → R = false := fun h => by
    rw [hR]
    refine same_f fun e => h ?_
    injection e with e1 e2 e3 e4 e5 e6 e7 e8 e9 e10 e11
    exact ⟨e1, e2, e3, e4, e5, e6, e7, e8, e9, e10, e11⟩
  have hT : (ak = bk ∧ ar = br ∧ aps = bps ∧ am = bm ∧ at' = bt ∧ ap = bp ∧ aw = bw ∧ ama = bma ∧ ag = bg ∧ ai = bi ∧ ah = bh) → R = true := fun h => by
    rw [hR]
    obtain ⟨rfl, rfl, rfl, rfl, rfl, rfl, rfl, rfl, rfl, rfl, rfl⟩ := h
    exact same_t rfl
  have HF := Lib.hid hF
  have HT := Lib.hid hT
  clear hR hF hT
  have H := ((Sep.start w).box 35 #[.int .i64 ak, .int .i64 ar.w, s1, s2, s3, .string at', .int .i64 ap, s4, .int .i64 ama, s5, .int .i64 ai, .int .i64 ah]).box 35 #[.int .i64 bk, .int .i64 br.w, t1, t2, t3, .string bt, .int .i64 bp, t4, .int .i64 bma, t5, .int .i64 bi, .int .i64 bh]
  simp only [World.size_alloc] at H
  obtain ⟨vs2, ⟨A2, q2, rfl, m2, r2'⟩, z2⟩ := g2
  obtain ⟨us2, ⟨B2, r2, rfl, n2, y2'⟩, x2⟩ := k2
  obtain ⟨A5, q5, rfl, m5, r5'⟩ := g5
  obtain ⟨B5, r5, rfl, n5, y5'⟩ := k5
  unfold maxLen at m2 n2 m5 n5
  have c0 : ((w.alloc (.cells #[.int .i64 ak, .int .i64 ar.w, s1, .slice A2 aps.length q2, s3, .string at', .int .i64 ap, s4, .int .i64 ama, .slice A5 ag.length q5, .int .i64 ai, .int .i64 ah] 35)).alloc (.cells #[.int .i64 bk, .int .i64 br.w, t1, .slice B2 bps.length r2, t3, .string bt, .int .i64 bp, t4, .int .i64 bma, .slice B5 bg.length r5, .int .i64 bi, .int .i64 bh] 35)).cell? ⟨w.heap.size, 0, none⟩ = some (.int .i64 ak) := H.h1.cell 0
  have d0 : ((w.alloc (.cells #[.int .i64 ak, .int .i64 ar.w, s1, .slice A2 aps.length q2, s3, .string at', .int .i64 ap, s4, .int .i64 ama, .slice A5 ag.length q5, .int .i64 ai, .int .i64 ah] 35)).alloc (.cells #[.int .i64 bk, .int .i64 br.w, t1, .slice B2 bps.length r2, t3, .string bt, .int .i64 bp, t4, .int .i64 bma, .slice B5 bg.length r5, .int .i64 bi, .int .i64 bh] 35)).cell? ⟨w.heap.size + 1, 0, none⟩ = some (.int .i64 bk) := H.h0.cell 0
  have c1 : ((w.alloc (.cells #[.int .i64 ak, .int .i64 ar.w, s1, .slice A2 aps.length q2, s3, .string at', .int .i64 ap, s4, .int .i64 ama, .slice A5 ag.length q5, .int .i64 ai, .int .i64 ah] 35)).alloc (.cells #[.int .i64 bk, .int .i64 br.w, t1, .slice B2 bps.length r2, t3, .string bt, .int .i64 bp, t4, .int .i64 bma, .slice B5 bg.length r5, .int .i64 bi, .int .i64 bh] 35)).cell? ⟨w.heap.size, 1, none⟩ = some (.int .i64 ar.w) := H.h1.cell 1
  have d1 : ((w.alloc (.cells #[.int .i64 ak, .int .i64 ar.w, s1, .slice A2 aps.length q2, s3, .string at', .int .i64 ap, s4, .int .i64 ama, .slice A5 ag.length q5, .int .i64 ai, .int .i64 ah] 35)).alloc (.cells #[.int .i64 bk, .int .i64 br.w, t1, .slice B2 bps.length r2, t3, .string bt, .int .i64 bp, t4, .int .i64 bma, .slice B5 bg.length r5, .int .i64 bi, .int .i64 bh] 35)).cell? ⟨w.heap.size + 1, 1, none⟩ = some (.int .i64 br.w) := H.h0.cell 1
  have c2 : ((w.alloc (.cells #[.int .i64 ak, .int .i64 ar.w, s1, .slice A2 aps.length q2, s3, .string at', .int .i64 ap, s4, .int .i64 ama, .slice A5 ag.length q5, .int .i64 ai, .int .i64 ah] 35)).alloc (.cells #[.int .i64 bk, .int .i64 br.w, t1, .slice B2 bps.length r2, t3, .string bt, .int .i64 bp, t4, .int .i64 bma, .slice B5 bg.length r5, .int .i64 bi, .int .i64 bh] 35)).cell? ⟨w.heap.size, 2, none⟩ = some (s1) := H.h1.cell 2
  have d2 : ((w.alloc (.cells #[.int .i64 ak, .int .i64 ar.w, s1, .slice A2 aps.length q2, s3, .string at', .int .i64 ap, s4, .int .i64 ama, .slice A5 ag.length q5, .int .i64 ai, .int .i64 ah] 35)).alloc (.cells #[.int .i64 bk, .int .i64 br.w, t1, .slice B2 bps.length r2, t3, .string bt, .int .i64 bp, t4, .int .i64 bma, .slice B5 bg.length r5, .int .i64 bi, .int .i64 bh] 35)).cell? ⟨w.heap.size + 1, 2, none⟩ = some (t1) := H.h0.cell 2
  by_cases h1 : ak = bk
  rotate_left
  · obtain rfl : R = false := HF.out (fun h => h1 h.1)
    have e1 : (ak == bk) = false := by simpa using h1
    have e2 : (ak != bk) = true := by simp [bne, e1]
    clear h1
    go_enter Try.func10, Try.ntmps10
    go_wp2
    go_ret
    exact ⟨rfl, H.below⟩
  subst h1
  go_enter Try.func10, Try.ntmps10
  go_wp2_with fail
  clear c0 d0 c1 d1 c2 d2
  generalize ((w.alloc (.cells #[.int .i64 ak, .int .i64 ar.w, s1, .slice A2 aps.length q2, s3, .string at', .int .i64 ap, s4, .int .i64 ama, .slice A5 ag.length q5, .int .i64 ai, .int .i64 ah] 35)).alloc (.cells #[.int .i64 ak, .int .i64 br.w, t1, .slice B2 bps.length r2, t3, .string bt, .int .i64 bp, t4, .int .i64 bma, .slice B5 bg.length r5, .int .i64 bi, .int .i64 bh] 35)) = W at *
  refine (impl_eqReg_c (a := ar) (b := br) W ⟨s1, rfl, ((g1.keep (SameIn.of_below H.below (Nat.le_refl _))).more (Nat.le_refl _) H.size)⟩ ⟨t1, rfl, ((k1.keep (SameIn.of_below H.below (Nat.le_refl _))).more (Nat.le_refl _) H.size)⟩).mono ?_
  rintro e w1 ⟨rfl, b1⟩
  have H1 := H.step b1
  clear b1 H
  by_cases hh : ar = br
  rotate_left
  · obtain rfl : R = false := HF.out (fun h => hh h.2.1)
    rw [same_f hh]
    clear hh
    go_wp2
    go_ret
    exact ⟨rfl, H1.below⟩
  rw [same_t hh]
  subst hh
  have c3 : w1.cell? ⟨w.heap.size, 3, none⟩ = some (.slice A2 aps.length q2) := H1.h1.cell 3
  have d3 : w1.cell? ⟨w.heap.size + 1, 3, none⟩ = some (.slice B2 bps.length r2) := H1.h0.cell 3
  have c4 : w1.cell? ⟨w.heap.size, 4, none⟩ = some (s3) := H1.h1.cell 4
  have d4 : w1.cell? ⟨w.heap.size + 1, 4, none⟩ = some (t3) := H1.h0.cell 4
  by_cases hh : aps.length = bps.length
  rotate_left
  · obtain rfl : R = false := HF.out (fun h => hh (by rw [h.2.2.1]))
    have e1 : ((aps.length : Int) == (bps.length : Int)) = false := by simp; omega
    have e2 : ((aps.length : Int) != (bps.length : Int)) = true := by simp only [bne, e1]; rfl
    clear hh
    go_wp2
    go_ret
    exact ⟨rfl, H1.below⟩
  have LPe : ((aps.length : Int) == (bps.length : Int)) = true := by simp; omega
  have LPn : ((aps.length : Int) != (bps.length : Int)) = false := by simp only [bne, LPe]; rfl
  have LP := Lib.hid hh
  clear hh
  go_wp2_with fail
  clear c3 d3 c4 d4
  clear LPe LPn
  refine (impl_sameInts_c (a := am) (b := bm) w1 ((g3.keep (SameIn.of_below H1.below (Nat.le_refl _))).more (Nat.le_refl _) H1.size) ((k3.keep (SameIn.of_below H1.below (Nat.le_refl _))).more (Nat.le_refl _) H1.size)).mono ?_
  rintro e w2 ⟨rfl, b2⟩
  have H2 := H1.step b2
  clear b2 H1
  by_cases hh : am = bm
  rotate_left
  · obtain rfl : R = false := HF.out (fun h => hh h.2.2.2.1)
    rw [same_f hh]
    clear hh
    go_wp2
    go_ret
    exact ⟨rfl, H2.below⟩
  rw [same_t hh]
  subst hh
  have c5 : w2.cell? ⟨w.heap.size, 5, none⟩ = some (.string at') := H2.h1.cell 5
  have d5 : w2.cell? ⟨w.heap.size + 1, 5, none⟩ = some (.string bt) := H2.h0.cell 5
  have c6 : w2.cell? ⟨w.heap.size, 6, none⟩ = some (.int .i64 ap) := H2.h1.cell 6
  have d6 : w2.cell? ⟨w.heap.size + 1, 6, none⟩ = some (.int .i64 bp) := H2.h0.cell 6
  have c7 : w2.cell? ⟨w.heap.size, 7, none⟩ = some (s4) := H2.h1.cell 7
  have d7 : w2.cell? ⟨w.heap.size + 1, 7, none⟩ = some (t4) := H2.h0.cell 7
  by_cases hh : at' = bt
  rotate_left
  · obtain rfl : R = false := HF.out (fun h => hh h.2.2.2.2.1)
    have h5 := hh
    have e1 : (at'.toList == bt.toList) = false := by
      rw [Lib.toList_data, Lib.toList_data, beq_eq_false_iff_ne]
      intro e
      exact h5 (by cases at'; cases bt; simp at e; rw [e])
    have e2 : (at'.toList != bt.toList) = true := by simp only [bne, e1]; rfl
    clear h5
    clear hh
    go_wp2
    go_ret
    exact ⟨rfl, H2.below⟩
  subst hh
  have e5 : (at'.toList == at'.toList) = true := by simp
  by_cases hh : ap = bp
  rotate_left
  · obtain rfl : R = false := HF.out (fun h => hh h.2.2.2.2.2.1)
    have e1 : (ap == bp) = false := by simpa using hh
    have e2 : (ap != bp) = true := by simp [bne, e1]
    clear hh
    go_wp2
    go_ret
    exact ⟨rfl, H2.below⟩
  subst hh
  go_wp2_with fail
  clear e5
  clear c5 d5 c6 d6 c7 d7
  refine (impl_sameInts_c (a := aw) (b := bw) w2 ((g4.keep (SameIn.of_below H2.below (Nat.le_refl _))).more (Nat.le_refl _) H2.size) ((k4.keep (SameIn.of_below H2.below (Nat.le_refl _))).more (Nat.le_refl _) H2.size)).mono ?_
  rintro e w3 ⟨rfl, b3⟩
  have H3 := H2.step b3
  clear b3 H2
  by_cases hh : aw = bw
  rotate_left
  · obtain rfl : R = false := HF.out (fun h => hh h.2.2.2.2.2.2.1)
    rw [same_f hh]
    clear hh
    go_wp2
    go_ret
    exact ⟨rfl, H3.below⟩
  rw [same_t hh]
  subst hh
  have c8 : w3.cell? ⟨w.heap.size, 8, none⟩ = some (.int .i64 ama) := H3.h1.cell 8
  have d8 : w3.cell? ⟨w.heap.size + 1, 8, none⟩ = some (.int .i64 bma) := H3.h0.cell 8
  have c9 : w3.cell? ⟨w.heap.size, 9, none⟩ = some (.slice A5 ag.length q5) := H3.h1.cell 9
  have d9 : w3.cell? ⟨w.heap.size + 1, 9, none⟩ = some (.slice B5 bg.length r5) := H3.h0.cell 9
  have c10 : w3.cell? ⟨w.heap.size, 10, none⟩ = some (.int .i64 ai) := H3.h1.cell 10
  have d10 : w3.cell? ⟨w.heap.size + 1, 10, none⟩ = some (.int .i64 bi) := H3.h0.cell 10
  have c11 : w3.cell? ⟨w.heap.size, 11, none⟩ = some (.int .i64 ah) := H3.h1.cell 11
  have d11 : w3.cell? ⟨w.heap.size + 1, 11, none⟩ = some (.int .i64 bh) := H3.h0.cell 11
  have c3 : w3.cell? ⟨w.heap.size, 3, none⟩ = some (.slice A2 aps.length q2) := H3.h1.cell 3
  have d3 : w3.cell? ⟨w.heap.size + 1, 3, none⟩ = some (.slice B2 bps.length r2) := H3.h0.cell 3
  by_cases hh : ama = bma
  rotate_left
  · obtain rfl : R = false := HF.out (fun h => hh h.2.2.2.2.2.2.2.1)
    have e1 : (ama == bma) = false := by simpa using hh
    have e2 : (ama != bma) = true := by simp [bne, e1]
    clear hh
    go_wp2
    go_ret
    exact ⟨rfl, H3.below⟩
  subst hh
  by_cases hh : ag.length = bg.length
  rotate_left
  · obtain rfl : R = false := HF.out (fun h => hh (by rw [h.2.2.2.2.2.2.2.2.1]))
    have e1 : ((ag.length : Int) == (bg.length : Int)) = false := by simp; omega
    have e2 : ((ag.length : Int) != (bg.length : Int)) = true := by simp only [bne, e1]; rfl
    clear hh
    go_wp2
    go_ret
    exact ⟨rfl, H3.below⟩
  have LGe : ((ag.length : Int) == (bg.length : Int)) = true := by simp; omega
  have LGn : ((ag.length : Int) != (bg.length : Int)) = false := by simp only [bne, LGe]; rfl
  have LG := Lib.hid hh
  clear hh
  by_cases hh : ai = bi
  rotate_left
  · obtain rfl : R = false := HF.out (fun h => hh h.2.2.2.2.2.2.2.2.2.1)
    have e1 : (ai == bi) = false := by simpa using hh
    have e2 : (ai != bi) = true := by simp [bne, e1]
    clear hh
    go_wp2
    go_ret
    exact ⟨rfl, H3.below⟩
  subst hh
  by_cases hh : ah = bh
  rotate_left
  · obtain rfl : R = false := HF.out (fun h => hh h.2.2.2.2.2.2.2.2.2.2)
    have e1 : (ah == bh) = false := by simpa using hh
    have e2 : (ah != bh) = true := by simp [bne, e1]
    clear hh
    go_wp2
    go_ret
    exact ⟨rfl, H3.below⟩
  subst hh
  go_wp2
  clear LGe LGn
  clear c8 d8 c9 d9 c10 d10 c11 d11 c3 d3
  go_loopw [92] (fun i wr => ∃ k : Nat, k ≤ aps.length ∧ i = .int .i64 k ∧ Hid (∀ (j : Nat) (x y : _), j < k → aps[j]? = some x → bps[j]? = some y → x = y) ∧ Sep w wr [Res.box (w.heap.size + 1) 35 #[.int .i64 ak, .int .i64 ar.w, t1, .slice B2 bps.length r2, t3, .string at', .int .i64 ap, t4, .int .i64 ama, .slice B5 bg.length r5, .int .i64 ai, .int .i64 ah], Res.box w.heap.size 35 #[.int .i64 ak, .int .i64 ar.w, s1, .slice A2 aps.length q2, s3, .string at', .int .i64 ap, s4, .int .i64 ama, .slice A5 ag.length q5, .int .i64 ai, .int .i64 ah]]) (fun i _ => aps.length - (intOf i).toNat)
  case atStart => exact ⟨0, Nat.zero_le _, rfl, Lib.hid (fun j _ _ h => absurd h (by omega)), H3⟩
  case round =>
    clear H3
    obtain ⟨k, hk, rfl, HK, H⟩ := hrel
    by_cases hlt : k < aps.length
    · have c3 : wr.cell? ⟨w.heap.size, 3, none⟩ = some (.slice A2 aps.length q2) := H.h1.cell 3
      have d3 : wr.cell? ⟨w.heap.size + 1, 3, none⟩ = some (.slice B2 bps.length r2) := H.h0.cell 3
      obtain ⟨bb, off, x, vx, rfl, _, hb, hla, q1, hx⟩ := (r2'.below H.below (Nat.le_refl _)).slot (z2.keep (SameIn.of_below H.below (Nat.le_refl _))) rfl hlt
      have hlt2 : k < bps.length := by have := LP.out; omega
      obtain ⟨bb', off', y, vy, rfl, _, hb', hla', q1', hy⟩ := (y2'.below H.below (Nat.le_refl _)).slot (x2.keep (SameIn.of_below H.below (Nat.le_refl _))) rfl hlt2
      have HLA := Lib.hid hla
      have HLA' := Lib.hid hla'
      replace hx := hx.more (Nat.le_refl _) H.size
      replace hy := hy.more (Nat.le_refl _) H.size
      clear hla hla'
      go_wp2_with fail
      go_still_tail 10, (by kernel_rfl)
      change wpList _ _ _ _ _ wr.drew
      have H' := H.drew
      clear q1 q1' c3 d3 H
      go_wp2_with fail
      refine (impl_eqShapes_c (a := x) (b := y) wr.drew hx hy).mono ?_
      rintro e w20 ⟨rfl, b2⟩
      have H2 := H'.step b2
      clear H' b2 hx hy
      by_cases hxy : x = y
      · subst hxy
        rw [same_t rfl]
        have hk2 := alike_succ HK.out HLA.out HLA'.out
        have HK2 := Lib.hid hk2
        clear hk2
        go_wp2
        go_roundw
        case rel => exact ⟨k + 1, by omega, by go_num, HK2, H2⟩
        case measure => simp [intOf]; omega
      · obtain rfl : R = false := HF.out (fun h => ne_at HLA.out HLA'.out hxy h.2.2.1)
        rw [same_f hxy]
        clear hxy
        go_wp2
        go_ret
        exact ⟨rfl, H2.below⟩
    · obtain rfl : k = aps.length := by omega
      have hps : aps = bps := eq_all LP.out HK.out
      have c9 : wr.cell? ⟨w.heap.size, 9, none⟩ = some (.slice A5 ag.length q5) := H.h1.cell 9
      go_wp2
      clear c9
      obtain ⟨wo, hwo⟩ : ∃ wo : World, wo = wr := ⟨_, rfl⟩
      subst hwo
      have HPS := Lib.hid hps
      clear hps
      go_loopw [111] (fun i wr => ∃ k : Nat, k ≤ ag.length ∧ i = .int .i64 k ∧ Hid (∀ (j : Nat) (x y : _), j < k → ag[j]? = some x → bg[j]? = some y → x = y) ∧ Sep w wr [Res.box (w.heap.size + 1) 35 #[.int .i64 ak, .int .i64 ar.w, t1, .slice B2 bps.length r2, t3, .string at', .int .i64 ap, t4, .int .i64 ama, .slice B5 bg.length r5, .int .i64 ai, .int .i64 ah], Res.box w.heap.size 35 #[.int .i64 ak, .int .i64 ar.w, s1, .slice A2 aps.length q2, s3, .string at', .int .i64 ap, s4, .int .i64 ama, .slice A5 ag.length q5, .int .i64 ai, .int .i64 ah]]) (fun i _ => ag.length - (intOf i).toNat)
      case atStart => exact ⟨0, Nat.zero_le _, rfl, Lib.hid (fun j _ _ h => absurd h (by omega)), H⟩
      case round =>
        clear H
        obtain ⟨k, hk, rfl, HK, H⟩ := hrel
        by_cases hlt : k < ag.length
        · have c9 : wr.cell? ⟨w.heap.size, 9, none⟩ = some (.slice A5 ag.length q5) := H.h1.cell 9
          have d9 : wr.cell? ⟨w.heap.size + 1, 9, none⟩ = some (.slice B5 bg.length r5) := H.h0.cell 9
          have hlt2 : k < bg.length := by have := LG.out; omega
          obtain ⟨bb, off, x, rfl, _, hb, hla, q1, q2', q3, q4⟩ := (r5'.below H.below (Nat.le_refl _)).at4 hlt
          obtain ⟨bb', off', y, rfl, _, hb', hla', q1', q2'', q3', q4'⟩ := (y5'.below H.below (Nat.le_refl _)).at4 hlt2
          by_cases hxy : x = y
          · subst hxy
            have heq : ∀ n, (Op.equal 78 (.agg #[.int .i64 x.top, .int .i64 x.right, .int .i64 x.bottom, .int .i64 x.left]) (.agg #[.int .i64 x.top, .int .i64 x.right, .int .i64 x.bottom, .int .i64 x.left])).run Try.prog (wr.drewN n) = .ok true (wr.drewN n) := fun n => by have := run_equal_wang (wr.drewN n) x x; rw [same_t rfl] at this; exact this
            have hk2 := alike_succ HK.out hla hla'
            have HK2 := Lib.hid hk2
            clear hla hla' hk2
            go_wp2_with fail
            go_quiet (fail)
            have H2 := H.drewN nq
            clear heq q1 q2' q1' q2'' q3 q4 q3' q4' c9 d9 H
            generalize wr.drewN nq = w21 at *
            go_wp2
            go_roundw
            case rel => exact ⟨k + 1, by omega, by go_num, HK2, H2⟩
            case measure => simp [intOf]; omega
          · obtain rfl : R = false := HF.out (fun h => ne_at hla hla' hxy h.2.2.2.2.2.2.2.2.1)
            have hne : ∀ n, (Op.equal 78 (.agg #[.int .i64 x.top, .int .i64 x.right, .int .i64 x.bottom, .int .i64 x.left]) (.agg #[.int .i64 y.top, .int .i64 y.right, .int .i64 y.bottom, .int .i64 y.left])).run Try.prog (wr.drewN n) = .ok false (wr.drewN n) := fun n => by have := run_equal_wang (wr.drewN n) x y; rw [same_f hxy] at this; exact this
            have HXY := Lib.hid hxy
            clear hla hla' hxy
            go_wp2_with fail
            refine wp_region_quiet_lit (by kernel_rfl) (by kernel_rfl) ?_
            repeat (go_big_quiet_step (fail))
            go_big_quiet_want
            go_big_quiet_op
            refine ⟨.bool true, fun aa => ?_, ?_⟩
            · by_cases h1 : x.top = y.top
              · by_cases h2 : x.right = y.right
                · by_cases h3 : x.bottom = y.bottom
                  · have h4 : ¬ x.left = y.left := fun h4 => HXY.out (Wg.ext h1 h2 h3 h4)
                    simp [h1, h2, h3, h4]
                  · simp [h1, h2, h3]
                · simp [h1, h2]
              · simp [h1]
            go_big_quiet_on
            refine wpQuiet_nil ?_
            intro _ hwq'
            obtain ⟨nq, hwq''⟩ := hwq'
            subst hwq''
            have H2 := H.drewN nq
            clear hne q1 q2' q1' q2'' q3 q4 q3' q4' c9 d9 H
            generalize wr.drewN nq = w21 at *
            go_wp2
            go_ret
            exact ⟨rfl, H2.below⟩
        · obtain rfl : k = ag.length := by omega
          obtain rfl : R = true := HT.out (by have h1 := HPS.out; have h2 := eq_all LG.out HK.out; simp [h1, h2])
          go_wp2
          go_ret
          exact ⟨rfl, H.below⟩
end Go.Proofs.Ytjmeplchabehfaa
