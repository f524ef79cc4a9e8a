
/-
  The law FnExactEqualClaims, walked by contracts.
-/
import Derived.Test.YtjmeplchabehfaaEqD
import Derived.Test.YtjmeplchabehfaaEqI
import Derived.Test.YtjmeplchabehfaaLawClmT
import Derived.Deep.DeepCutAuto
namespace Go.Proofs.Ytjmeplchabehfaa
open Go.RowKit

set_option maxRecDepth 100000 in
set_option maxHeartbeats 6400000 in
theorem law_EqualClaims (va : Value) (a : Clm) (vb : Value) (b : Clm) (w : World) (ha : ClmRd w 0 w.heap.size va a) (hta : a.text.size ≤ maxLen) (hb : ClmRd w 0 w.heap.size vb b) (htb : b.text.size ≤ maxLen) :
    Calls Try.prog 3 #[va, vb] w fun e w' => e = .returned (.bool true) ∧ Below w.heap.size w w' := by
  obtain ⟨s1, s2, s3, s4, s5, hva, _, _, _, _, _⟩ := id ha
  obtain ⟨t1, t2, t3, t4, t5, hvb, _, _, _, _, _⟩ := id hb
  unfold clmV at hva hvb
  subst hva
  subst hvb
  have H := ((Sep.start w).box 28 #[.int .i64 a.kind, .int .i64 a.reg.w, s1, s2, s3, .string a.text, .int .i64 a.prime, s4, .int .i64 a.mask, s5, .int .i64 a.width, .int .i64 a.height]).box 28 #[.int .i64 b.kind, .int .i64 b.reg.w, t1, t2, t3, .string b.text, .int .i64 b.prime, t4, .int .i64 b.mask, t5, .int .i64 b.width, .int .i64 b.height]
  simp only [World.size_alloc] at H
  go_enter Try.func3, Try.ntmps3
  go_wp2_with (refine wpList_load_row rfl 28 _ rfl (w.heap.size) rfl 28 _ _ _ H.h1 Try.underlying28 rfl (by kernel_rfl) ?_)
  generalize ((w.alloc (.cells #[.int .i64 a.kind, .int .i64 a.reg.w, s1, s2, s3, .string a.text, .int .i64 a.prime, s4, .int .i64 a.mask, s5, .int .i64 a.width, .int .i64 a.height] 28)).alloc (.cells #[.int .i64 b.kind, .int .i64 b.reg.w, t1, t2, t3, .string b.text, .int .i64 b.prime, t4, .int .i64 b.mask, t5, .int .i64 b.width, .int .i64 b.height] 28)) = W at *
  refine (szClaim_c (a := a) 1048576 W ((ha.keep (SameIn.of_below H.below (Nat.le_refl _))).more (Nat.le_refl _) H.size) hta (by omega) (by omega)).mono ?_
  rintro e w1 ⟨m1, rfl, j1, i1, z1, b1⟩
  have H1 := H.step b1
  clear b1 H
  by_cases k1 : m1 < 0
  · go_wp2
    go_ret
    exact ⟨rfl, H1.below⟩
  have j1' : 0 ≤ m1 := by omega
  have hza := z1 j1'
  have HZA := Lib.hid hza
  clear z1 hza k1
  go_wp2_with (refine wpList_load_row rfl 28 _ rfl (w.heap.size + 1) rfl 28 _ _ _ H1.h0 Try.underlying28 rfl (by kernel_rfl) ?_)
  refine (szClaim_c (a := b) m1 w1 ((hb.keep (SameIn.of_below H1.below (Nat.le_refl _))).more (Nat.le_refl _) H1.size) htb (by omega) (by omega)).mono ?_
  rintro e w2 ⟨m2, rfl, j2, i2, z2, b2⟩
  have H2 := H1.step b2
  clear b2 H1
  by_cases k2 : m2 < 0
  · go_wp2
    go_ret
    exact ⟨rfl, H2.below⟩
  have j2' : 0 ≤ m2 := by omega
  have hzb := z2 j2'
  have HZB := Lib.hid hzb
  clear z2 hzb k2
  go_wp2_with fail
  have c0 : w2.cell? ⟨w.heap.size, 0, none⟩ = some (.int .i64 a.kind) := H2.h1.cell 0
  have c1 : w2.cell? ⟨w.heap.size, 1, none⟩ = some (.int .i64 a.reg.w) := H2.h1.cell 1
  have c2 : w2.cell? ⟨w.heap.size, 2, none⟩ = some (s1) := H2.h1.cell 2
  have c3 : w2.cell? ⟨w.heap.size, 3, none⟩ = some (s2) := H2.h1.cell 3
  have c4 : w2.cell? ⟨w.heap.size, 4, none⟩ = some (s3) := H2.h1.cell 4
  have c5 : w2.cell? ⟨w.heap.size, 5, none⟩ = some (.string a.text) := H2.h1.cell 5
  have c6 : w2.cell? ⟨w.heap.size, 6, none⟩ = some (.int .i64 a.prime) := H2.h1.cell 6
  have c7 : w2.cell? ⟨w.heap.size, 7, none⟩ = some (s4) := H2.h1.cell 7
  have c8 : w2.cell? ⟨w.heap.size, 8, none⟩ = some (.int .i64 a.mask) := H2.h1.cell 8
  have c9 : w2.cell? ⟨w.heap.size, 9, none⟩ = some (s5) := H2.h1.cell 9
  have c10 : w2.cell? ⟨w.heap.size, 10, none⟩ = some (.int .i64 a.width) := H2.h1.cell 10
  have c11 : w2.cell? ⟨w.heap.size, 11, none⟩ = some (.int .i64 a.height) := H2.h1.cell 11
  have d0 : w2.cell? ⟨w.heap.size + 1, 0, none⟩ = some (.int .i64 b.kind) := H2.h0.cell 0
  have d1 : w2.cell? ⟨w.heap.size + 1, 1, none⟩ = some (.int .i64 b.reg.w) := H2.h0.cell 1
  have d2 : w2.cell? ⟨w.heap.size + 1, 2, none⟩ = some (t1) := H2.h0.cell 2
  have d3 : w2.cell? ⟨w.heap.size + 1, 3, none⟩ = some (t2) := H2.h0.cell 3
  have d4 : w2.cell? ⟨w.heap.size + 1, 4, none⟩ = some (t3) := H2.h0.cell 4
  have d5 : w2.cell? ⟨w.heap.size + 1, 5, none⟩ = some (.string b.text) := H2.h0.cell 5
  have d6 : w2.cell? ⟨w.heap.size + 1, 6, none⟩ = some (.int .i64 b.prime) := H2.h0.cell 6
  have d7 : w2.cell? ⟨w.heap.size + 1, 7, none⟩ = some (t4) := H2.h0.cell 7
  have d8 : w2.cell? ⟨w.heap.size + 1, 8, none⟩ = some (.int .i64 b.mask) := H2.h0.cell 8
  have d9 : w2.cell? ⟨w.heap.size + 1, 9, none⟩ = some (t5) := H2.h0.cell 9
  have d10 : w2.cell? ⟨w.heap.size + 1, 10, none⟩ = some (.int .i64 b.width) := H2.h0.cell 10
  have d11 : w2.cell? ⟨w.heap.size + 1, 11, none⟩ = some (.int .i64 b.height) := H2.h0.cell 11
  go_cut [6] (fun s wx => s = .bool (same a b) ∧ Sep w wx [Res.box (w.heap.size + 1) 28 #[.int .i64 b.kind, .int .i64 b.reg.w, t1, t2, t3, .string b.text, .int .i64 b.prime, t4, .int .i64 b.mask, t5, .int .i64 b.width, .int .i64 b.height], Res.box (w.heap.size) 28 #[.int .i64 a.kind, .int .i64 a.reg.w, s1, s2, s3, .string a.text, .int .i64 a.prime, s4, .int .i64 a.mask, s5, .int .i64 a.width, .int .i64 a.height]])
  case first =>
    go_region_with ((first
      | (go_at_call 9; (with_reducible refine (toClaim_c (a := a) _ (by exact ((ha.keep (SameIn.of_below (below_drew H2.below) (Nat.le_refl _))).more (Nat.le_refl _) (le_drew H2.size))) HZA.out).mono ?_); rintro e w3 ⟨v3, rfl, o3, b3⟩; replace b3 := below_undrew b3; have H3 := H2.step b3; have x0 : w3.cell? ⟨w.heap.size, 0, none⟩ = some (.int .i64 a.kind) := H3.h1.cell 0; have x1 : w3.cell? ⟨w.heap.size, 1, none⟩ = some (.int .i64 a.reg.w) := H3.h1.cell 1; have x2 : w3.cell? ⟨w.heap.size, 2, none⟩ = some (s1) := H3.h1.cell 2; have x3 : w3.cell? ⟨w.heap.size, 3, none⟩ = some (s2) := H3.h1.cell 3; have x4 : w3.cell? ⟨w.heap.size, 4, none⟩ = some (s3) := H3.h1.cell 4; have x5 : w3.cell? ⟨w.heap.size, 5, none⟩ = some (.string a.text) := H3.h1.cell 5; have x6 : w3.cell? ⟨w.heap.size, 6, none⟩ = some (.int .i64 a.prime) := H3.h1.cell 6; have x7 : w3.cell? ⟨w.heap.size, 7, none⟩ = some (s4) := H3.h1.cell 7; have x8 : w3.cell? ⟨w.heap.size, 8, none⟩ = some (.int .i64 a.mask) := H3.h1.cell 8; have x9 : w3.cell? ⟨w.heap.size, 9, none⟩ = some (s5) := H3.h1.cell 9; have x10 : w3.cell? ⟨w.heap.size, 10, none⟩ = some (.int .i64 a.width) := H3.h1.cell 10; have x11 : w3.cell? ⟨w.heap.size, 11, none⟩ = some (.int .i64 a.height) := H3.h1.cell 11; have y0 : w3.cell? ⟨w.heap.size + 1, 0, none⟩ = some (.int .i64 b.kind) := H3.h0.cell 0; have y1 : w3.cell? ⟨w.heap.size + 1, 1, none⟩ = some (.int .i64 b.reg.w) := H3.h0.cell 1; have y2 : w3.cell? ⟨w.heap.size + 1, 2, none⟩ = some (t1) := H3.h0.cell 2; have y3 : w3.cell? ⟨w.heap.size + 1, 3, none⟩ = some (t2) := H3.h0.cell 3; have y4 : w3.cell? ⟨w.heap.size + 1, 4, none⟩ = some (t3) := H3.h0.cell 4; have y5 : w3.cell? ⟨w.heap.size + 1, 5, none⟩ = some (.string b.text) := H3.h0.cell 5; have y6 : w3.cell? ⟨w.heap.size + 1, 6, none⟩ = some (.int .i64 b.prime) := H3.h0.cell 6; have y7 : w3.cell? ⟨w.heap.size + 1, 7, none⟩ = some (t4) := H3.h0.cell 7; have y8 : w3.cell? ⟨w.heap.size + 1, 8, none⟩ = some (.int .i64 b.mask) := H3.h0.cell 8; have y9 : w3.cell? ⟨w.heap.size + 1, 9, none⟩ = some (t5) := H3.h0.cell 9; have y10 : w3.cell? ⟨w.heap.size + 1, 10, none⟩ = some (.int .i64 b.width) := H3.h0.cell 10; have y11 : w3.cell? ⟨w.heap.size + 1, 11, none⟩ = some (.int .i64 b.height) := H3.h0.cell 11)
      | (go_at_call 9; (with_reducible refine (toClaim_c (a := b) _ (by exact ((hb.keep (SameIn.of_below H3.below (Nat.le_refl _))).more (Nat.le_refl _) H3.size)) HZB.out).mono ?_); rintro e w4 ⟨v4, rfl, o4, b4⟩; have H4 := H3.step b4)
      | (go_at_call 8; (with_reducible refine (spec_eqClaims_c (a := a) (b := b) _ (by exact (o3.keep (SameIn.of_below b4 (Nat.le_refl _))).more (Nat.zero_le _) b4.size) (by exact o4.more (Nat.zero_le _) (Nat.le_refl _))).mono ?_); rintro e w5 ⟨rfl, b5⟩; have H5 := H4.step b5)))
    all_goals (go_wp2_with fail; go_meet; exact ⟨rfl, H5⟩)
  case rest =>
  obtain ⟨rfl, H5⟩ := hcut
  clear c0 c1 c2 c3 c4 c5 c6 c7 c8 c9 c10 c11 d0 d1 d2 d3 d4 d5 d6 d7 d8 d9 d10 d11 H2
  generalize hwc : wc = w5 at *
  clear hwc
  go_wp2_with (refine wpList_load_row rfl 28 _ rfl (w.heap.size) rfl 28 _ _ _ H5.h1 Try.underlying28 rfl (by kernel_rfl) ?_)
  refine (toClaim_c (a := a) w5 ((ha.keep (SameIn.of_below H5.below (Nat.le_refl _))).more (Nat.le_refl _) H5.size) HZA.out).mono ?_
  rintro e w6 ⟨v6, rfl, o6, b6⟩
  obtain ⟨_, _, _, _, _, hv6, ⟨A61, c61, rfl, _, _⟩, ⟨_, ⟨A62, c62, rfl, _, _⟩, _⟩, ⟨A63, c63, rfl, _, _⟩, ⟨A64, c64, rfl, _, _⟩, ⟨A65, c65, rfl, _, _⟩⟩ := id o6
  unfold clmV at hv6
  subst hv6
  replace o6 := o6.more (Nat.zero_le _) (Nat.le_refl _)
  have H6 := (H5.step b6).box 35 #[.int .i64 a.kind, .int .i64 a.reg.w, .slice A61 a.reg.rows.length c61, .slice A62 a.pieces.length c62, .slice A63 a.masks.length c63, .string a.text, .int .i64 a.prime, .slice A64 a.weights.length c64, .int .i64 a.mask, .slice A65 a.wang.length c65, .int .i64 a.width, .int .i64 a.height]
  have K6 := (Sep.start w6).box 35 #[.int .i64 a.kind, .int .i64 a.reg.w, .slice A61 a.reg.rows.length c61, .slice A62 a.pieces.length c62, .slice A63 a.masks.length c63, .string a.text, .int .i64 a.prime, .slice A64 a.weights.length c64, .int .i64 a.mask, .slice A65 a.wang.length c65, .int .i64 a.width, .int .i64 a.height]
  clear b6 H5
  go_wp2_with (refine wpList_load_row rfl 28 _ rfl (w.heap.size + 1) rfl 28 _ _ _ H6.h1 Try.underlying28 rfl (by kernel_rfl) ?_)
  generalize hx6 : w6.alloc (.cells #[.int .i64 a.kind, .int .i64 a.reg.w, .slice A61 a.reg.rows.length c61, .slice A62 a.pieces.length c62, .slice A63 a.masks.length c63, .string a.text, .int .i64 a.prime, .slice A64 a.weights.length c64, .int .i64 a.mask, .slice A65 a.wang.length c65, .int .i64 a.width, .int .i64 a.height] 35) = w7 at *
  clear hx6
  refine (toClaim_c (a := b) w7 ((hb.keep (SameIn.of_below H6.below (Nat.le_refl _))).more (Nat.le_refl _) H6.size) HZB.out).mono ?_
  rintro e w8 ⟨v8, rfl, o8, b8⟩
  obtain ⟨_, _, _, _, _, hv8, ⟨A81, c81, rfl, _, _⟩, ⟨_, ⟨A82, c82, rfl, _, _⟩, _⟩, ⟨A83, c83, rfl, _, _⟩, ⟨A84, c84, rfl, _, _⟩, ⟨A85, c85, rfl, _, _⟩⟩ := id o8
  unfold clmV at hv8
  subst hv8
  replace o8 := o8.more (Nat.zero_le _) (Nat.le_refl _)
  have H8 := (H6.step b8).box 35 #[.int .i64 b.kind, .int .i64 b.reg.w, .slice A81 b.reg.rows.length c81, .slice A82 b.pieces.length c82, .slice A83 b.masks.length c83, .string b.text, .int .i64 b.prime, .slice A84 b.weights.length c84, .int .i64 b.mask, .slice A85 b.wang.length c85, .int .i64 b.width, .int .i64 b.height]
  have K8 := (K6.step b8).box 35 #[.int .i64 b.kind, .int .i64 b.reg.w, .slice A81 b.reg.rows.length c81, .slice A82 b.pieces.length c82, .slice A83 b.masks.length c83, .string b.text, .int .i64 b.prime, .slice A84 b.weights.length c84, .int .i64 b.mask, .slice A85 b.wang.length c85, .int .i64 b.width, .int .i64 b.height]
  have L8 := (Sep.start w8).box 35 #[.int .i64 b.kind, .int .i64 b.reg.w, .slice A81 b.reg.rows.length c81, .slice A82 b.pieces.length c82, .slice A83 b.masks.length c83, .string b.text, .int .i64 b.prime, .slice A84 b.weights.length c84, .int .i64 b.mask, .slice A85 b.wang.length c85, .int .i64 b.width, .int .i64 b.height]
  clear b8 H6 K6
  go_wp2_with (first
    | (refine wpList_load_row rfl 35 _ rfl (w6.heap.size) rfl 35 _ _ _ H8.h1 Try.underlying35 rfl (by kernel_rfl) ?_)
    | (refine wpList_load_row rfl 35 _ rfl (w8.heap.size) rfl 35 _ _ _ H8.h0 Try.underlying35 rfl (by kernel_rfl) ?_))
  generalize hx8 : w8.alloc (.cells #[.int .i64 b.kind, .int .i64 b.reg.w, .slice A81 b.reg.rows.length c81, .slice A82 b.pieces.length c82, .slice A83 b.masks.length c83, .string b.text, .int .i64 b.prime, .slice A84 b.weights.length c84, .int .i64 b.mask, .slice A85 b.wang.length c85, .int .i64 b.width, .int .i64 b.height] 35) = w9 at *
  clear hx8
  refine (impl_eqClaims_c (a := a) (b := b) w9 ((o6.keep (SameIn.of_below K8.below (Nat.le_refl _))).more (Nat.le_refl _) K8.size) ((o8.keep (SameIn.of_below L8.below (Nat.le_refl _))).more (Nat.le_refl _) L8.size)).mono ?_
  rintro e w10 ⟨rfl, b10⟩
  have H10 := H8.step b10
  have K10 := K8.step b10
  have L10 := L8.step b10
  clear b10 H8 K8 L8
  go_wp2_with fail
  have c0 : w10.cell? ⟨w6.heap.size, 0, none⟩ = some (.int .i64 a.kind) := H10.h1.cell 0
  have c1 : w10.cell? ⟨w6.heap.size, 1, none⟩ = some (.int .i64 a.reg.w) := H10.h1.cell 1
  have c2 : w10.cell? ⟨w6.heap.size, 2, none⟩ = some (.slice A61 a.reg.rows.length c61) := H10.h1.cell 2
  have c3 : w10.cell? ⟨w6.heap.size, 3, none⟩ = some (.slice A62 a.pieces.length c62) := H10.h1.cell 3
  have c4 : w10.cell? ⟨w6.heap.size, 4, none⟩ = some (.slice A63 a.masks.length c63) := H10.h1.cell 4
  have c5 : w10.cell? ⟨w6.heap.size, 5, none⟩ = some (.string a.text) := H10.h1.cell 5
  have c6 : w10.cell? ⟨w6.heap.size, 6, none⟩ = some (.int .i64 a.prime) := H10.h1.cell 6
  have c7 : w10.cell? ⟨w6.heap.size, 7, none⟩ = some (.slice A64 a.weights.length c64) := H10.h1.cell 7
  have c8 : w10.cell? ⟨w6.heap.size, 8, none⟩ = some (.int .i64 a.mask) := H10.h1.cell 8
  have c9 : w10.cell? ⟨w6.heap.size, 9, none⟩ = some (.slice A65 a.wang.length c65) := H10.h1.cell 9
  have c10 : w10.cell? ⟨w6.heap.size, 10, none⟩ = some (.int .i64 a.width) := H10.h1.cell 10
  have c11 : w10.cell? ⟨w6.heap.size, 11, none⟩ = some (.int .i64 a.height) := H10.h1.cell 11
  have d0 : w10.cell? ⟨w.heap.size, 0, none⟩ = some (.int .i64 a.kind) := H10.h3.cell 0
  have d1 : w10.cell? ⟨w.heap.size, 1, none⟩ = some (.int .i64 a.reg.w) := H10.h3.cell 1
  have d2 : w10.cell? ⟨w.heap.size, 2, none⟩ = some (s1) := H10.h3.cell 2
  have d3 : w10.cell? ⟨w.heap.size, 3, none⟩ = some (s2) := H10.h3.cell 3
  have d4 : w10.cell? ⟨w.heap.size, 4, none⟩ = some (s3) := H10.h3.cell 4
  have d5 : w10.cell? ⟨w.heap.size, 5, none⟩ = some (.string a.text) := H10.h3.cell 5
  have d6 : w10.cell? ⟨w.heap.size, 6, none⟩ = some (.int .i64 a.prime) := H10.h3.cell 6
  have d7 : w10.cell? ⟨w.heap.size, 7, none⟩ = some (s4) := H10.h3.cell 7
  have d8 : w10.cell? ⟨w.heap.size, 8, none⟩ = some (.int .i64 a.mask) := H10.h3.cell 8
  have d9 : w10.cell? ⟨w.heap.size, 9, none⟩ = some (s5) := H10.h3.cell 9
  have d10 : w10.cell? ⟨w.heap.size, 10, none⟩ = some (.int .i64 a.width) := H10.h3.cell 10
  have d11 : w10.cell? ⟨w.heap.size, 11, none⟩ = some (.int .i64 a.height) := H10.h3.cell 11
  go_cut [39] (fun s wx => s = .bool false ∧ Sep w wx [Res.box (w8.heap.size) 35 #[.int .i64 b.kind, .int .i64 b.reg.w, .slice A81 b.reg.rows.length c81, .slice A82 b.pieces.length c82, .slice A83 b.masks.length c83, .string b.text, .int .i64 b.prime, .slice A84 b.weights.length c84, .int .i64 b.mask, .slice A85 b.wang.length c85, .int .i64 b.width, .int .i64 b.height], Res.box (w6.heap.size) 35 #[.int .i64 a.kind, .int .i64 a.reg.w, .slice A61 a.reg.rows.length c61, .slice A62 a.pieces.length c62, .slice A63 a.masks.length c63, .string a.text, .int .i64 a.prime, .slice A64 a.weights.length c64, .int .i64 a.mask, .slice A65 a.wang.length c65, .int .i64 a.width, .int .i64 a.height], Res.box (w.heap.size + 1) 28 #[.int .i64 b.kind, .int .i64 b.reg.w, t1, t2, t3, .string b.text, .int .i64 b.prime, t4, .int .i64 b.mask, t5, .int .i64 b.width, .int .i64 b.height], Res.box (w.heap.size) 28 #[.int .i64 a.kind, .int .i64 a.reg.w, s1, s2, s3, .string a.text, .int .i64 a.prime, s4, .int .i64 a.mask, s5, .int .i64 a.width, .int .i64 a.height]] ∧ Sep w6 wx [Res.box (w8.heap.size) 35 #[.int .i64 b.kind, .int .i64 b.reg.w, .slice A81 b.reg.rows.length c81, .slice A82 b.pieces.length c82, .slice A83 b.masks.length c83, .string b.text, .int .i64 b.prime, .slice A84 b.weights.length c84, .int .i64 b.mask, .slice A85 b.wang.length c85, .int .i64 b.width, .int .i64 b.height], Res.box (w6.heap.size) 35 #[.int .i64 a.kind, .int .i64 a.reg.w, .slice A61 a.reg.rows.length c61, .slice A62 a.pieces.length c62, .slice A63 a.masks.length c63, .string a.text, .int .i64 a.prime, .slice A64 a.weights.length c64, .int .i64 a.mask, .slice A65 a.wang.length c65, .int .i64 a.width, .int .i64 a.height]] ∧ Sep w8 wx [Res.box (w8.heap.size) 35 #[.int .i64 b.kind, .int .i64 b.reg.w, .slice A81 b.reg.rows.length c81, .slice A82 b.pieces.length c82, .slice A83 b.masks.length c83, .string b.text, .int .i64 b.prime, .slice A84 b.weights.length c84, .int .i64 b.mask, .slice A85 b.wang.length c85, .int .i64 b.width, .int .i64 b.height]])
  case first =>
    go_region_with ((first
      | (go_at_call 9; (with_reducible refine (toClaim_c (a := a) _ (by exact ((ha.keep (SameIn.of_below (below_drew H10.below) (Nat.le_refl _))).more (Nat.le_refl _) (le_drew H10.size))) HZA.out).mono ?_); rintro e u11 ⟨q11, rfl, r11, s11⟩; replace s11 := below_undrew s11; have M11 := H10.step s11; have N11 := K10.step s11; have O11 := L10.step s11; have x0 : u11.cell? ⟨w6.heap.size, 0, none⟩ = some (.int .i64 a.kind) := M11.h1.cell 0; have x1 : u11.cell? ⟨w6.heap.size, 1, none⟩ = some (.int .i64 a.reg.w) := M11.h1.cell 1; have x2 : u11.cell? ⟨w6.heap.size, 2, none⟩ = some (.slice A61 a.reg.rows.length c61) := M11.h1.cell 2; have x3 : u11.cell? ⟨w6.heap.size, 3, none⟩ = some (.slice A62 a.pieces.length c62) := M11.h1.cell 3; have x4 : u11.cell? ⟨w6.heap.size, 4, none⟩ = some (.slice A63 a.masks.length c63) := M11.h1.cell 4; have x5 : u11.cell? ⟨w6.heap.size, 5, none⟩ = some (.string a.text) := M11.h1.cell 5; have x6 : u11.cell? ⟨w6.heap.size, 6, none⟩ = some (.int .i64 a.prime) := M11.h1.cell 6; have x7 : u11.cell? ⟨w6.heap.size, 7, none⟩ = some (.slice A64 a.weights.length c64) := M11.h1.cell 7; have x8 : u11.cell? ⟨w6.heap.size, 8, none⟩ = some (.int .i64 a.mask) := M11.h1.cell 8; have x9 : u11.cell? ⟨w6.heap.size, 9, none⟩ = some (.slice A65 a.wang.length c65) := M11.h1.cell 9; have x10 : u11.cell? ⟨w6.heap.size, 10, none⟩ = some (.int .i64 a.width) := M11.h1.cell 10; have x11 : u11.cell? ⟨w6.heap.size, 11, none⟩ = some (.int .i64 a.height) := M11.h1.cell 11; have y0 : u11.cell? ⟨w.heap.size, 0, none⟩ = some (.int .i64 a.kind) := M11.h3.cell 0; have y1 : u11.cell? ⟨w.heap.size, 1, none⟩ = some (.int .i64 a.reg.w) := M11.h3.cell 1; have y2 : u11.cell? ⟨w.heap.size, 2, none⟩ = some (s1) := M11.h3.cell 2; have y3 : u11.cell? ⟨w.heap.size, 3, none⟩ = some (s2) := M11.h3.cell 3; have y4 : u11.cell? ⟨w.heap.size, 4, none⟩ = some (s3) := M11.h3.cell 4; have y5 : u11.cell? ⟨w.heap.size, 5, none⟩ = some (.string a.text) := M11.h3.cell 5; have y6 : u11.cell? ⟨w.heap.size, 6, none⟩ = some (.int .i64 a.prime) := M11.h3.cell 6; have y7 : u11.cell? ⟨w.heap.size, 7, none⟩ = some (s4) := M11.h3.cell 7; have y8 : u11.cell? ⟨w.heap.size, 8, none⟩ = some (.int .i64 a.mask) := M11.h3.cell 8; have y9 : u11.cell? ⟨w.heap.size, 9, none⟩ = some (s5) := M11.h3.cell 9; have y10 : u11.cell? ⟨w.heap.size, 10, none⟩ = some (.int .i64 a.width) := M11.h3.cell 10; have y11 : u11.cell? ⟨w.heap.size, 11, none⟩ = some (.int .i64 a.height) := M11.h3.cell 11)
      | (go_at_call 11; (with_reducible refine (eqClaim_c (a := a) _ (by exact ((o6.keep (SameIn.of_below N11.below (Nat.le_refl _))).more (Nat.le_refl _) N11.size)) (by exact r11.more (Nat.zero_le _) (Nat.le_refl _))).mono ?_); rintro e z11 ⟨rfl, k11⟩; have M11' := M11.step k11; have N11' := N11.step k11; have O11' := O11.step k11)))
    all_goals (go_wp2_with fail; go_meet; exact ⟨rfl, M11', N11', O11'⟩)
  case rest =>
  clear c0 c1 c2 c3 c4 c5 c6 c7 c8 c9 c10 c11 d0 d1 d2 d3 d4 d5 d6 d7 d8 d9 d10 d11 H10 K10 L10
  obtain ⟨rfl, H11, K11, L11⟩ := hcut
  generalize hwc : wc = w11 at *
  clear hwc
  go_wp2_with fail
  have c0 : w11.cell? ⟨w8.heap.size, 0, none⟩ = some (.int .i64 b.kind) := H11.h0.cell 0
  have c1 : w11.cell? ⟨w8.heap.size, 1, none⟩ = some (.int .i64 b.reg.w) := H11.h0.cell 1
  have c2 : w11.cell? ⟨w8.heap.size, 2, none⟩ = some (.slice A81 b.reg.rows.length c81) := H11.h0.cell 2
  have c3 : w11.cell? ⟨w8.heap.size, 3, none⟩ = some (.slice A82 b.pieces.length c82) := H11.h0.cell 3
  have c4 : w11.cell? ⟨w8.heap.size, 4, none⟩ = some (.slice A83 b.masks.length c83) := H11.h0.cell 4
  have c5 : w11.cell? ⟨w8.heap.size, 5, none⟩ = some (.string b.text) := H11.h0.cell 5
  have c6 : w11.cell? ⟨w8.heap.size, 6, none⟩ = some (.int .i64 b.prime) := H11.h0.cell 6
  have c7 : w11.cell? ⟨w8.heap.size, 7, none⟩ = some (.slice A84 b.weights.length c84) := H11.h0.cell 7
  have c8 : w11.cell? ⟨w8.heap.size, 8, none⟩ = some (.int .i64 b.mask) := H11.h0.cell 8
  have c9 : w11.cell? ⟨w8.heap.size, 9, none⟩ = some (.slice A85 b.wang.length c85) := H11.h0.cell 9
  have c10 : w11.cell? ⟨w8.heap.size, 10, none⟩ = some (.int .i64 b.width) := H11.h0.cell 10
  have c11 : w11.cell? ⟨w8.heap.size, 11, none⟩ = some (.int .i64 b.height) := H11.h0.cell 11
  have d0 : w11.cell? ⟨w.heap.size + 1, 0, none⟩ = some (.int .i64 b.kind) := H11.h2.cell 0
  have d1 : w11.cell? ⟨w.heap.size + 1, 1, none⟩ = some (.int .i64 b.reg.w) := H11.h2.cell 1
  have d2 : w11.cell? ⟨w.heap.size + 1, 2, none⟩ = some (t1) := H11.h2.cell 2
  have d3 : w11.cell? ⟨w.heap.size + 1, 3, none⟩ = some (t2) := H11.h2.cell 3
  have d4 : w11.cell? ⟨w.heap.size + 1, 4, none⟩ = some (t3) := H11.h2.cell 4
  have d5 : w11.cell? ⟨w.heap.size + 1, 5, none⟩ = some (.string b.text) := H11.h2.cell 5
  have d6 : w11.cell? ⟨w.heap.size + 1, 6, none⟩ = some (.int .i64 b.prime) := H11.h2.cell 6
  have d7 : w11.cell? ⟨w.heap.size + 1, 7, none⟩ = some (t4) := H11.h2.cell 7
  have d8 : w11.cell? ⟨w.heap.size + 1, 8, none⟩ = some (.int .i64 b.mask) := H11.h2.cell 8
  have d9 : w11.cell? ⟨w.heap.size + 1, 9, none⟩ = some (t5) := H11.h2.cell 9
  have d10 : w11.cell? ⟨w.heap.size + 1, 10, none⟩ = some (.int .i64 b.width) := H11.h2.cell 10
  have d11 : w11.cell? ⟨w.heap.size + 1, 11, none⟩ = some (.int .i64 b.height) := H11.h2.cell 11
  go_cut [44] (fun s wx => s = .bool false ∧ Sep w wx [Res.box (w8.heap.size) 35 #[.int .i64 b.kind, .int .i64 b.reg.w, .slice A81 b.reg.rows.length c81, .slice A82 b.pieces.length c82, .slice A83 b.masks.length c83, .string b.text, .int .i64 b.prime, .slice A84 b.weights.length c84, .int .i64 b.mask, .slice A85 b.wang.length c85, .int .i64 b.width, .int .i64 b.height], Res.box (w6.heap.size) 35 #[.int .i64 a.kind, .int .i64 a.reg.w, .slice A61 a.reg.rows.length c61, .slice A62 a.pieces.length c62, .slice A63 a.masks.length c63, .string a.text, .int .i64 a.prime, .slice A64 a.weights.length c64, .int .i64 a.mask, .slice A65 a.wang.length c65, .int .i64 a.width, .int .i64 a.height], Res.box (w.heap.size + 1) 28 #[.int .i64 b.kind, .int .i64 b.reg.w, t1, t2, t3, .string b.text, .int .i64 b.prime, t4, .int .i64 b.mask, t5, .int .i64 b.width, .int .i64 b.height], Res.box (w.heap.size) 28 #[.int .i64 a.kind, .int .i64 a.reg.w, s1, s2, s3, .string a.text, .int .i64 a.prime, s4, .int .i64 a.mask, s5, .int .i64 a.width, .int .i64 a.height]] ∧ Sep w6 wx [Res.box (w8.heap.size) 35 #[.int .i64 b.kind, .int .i64 b.reg.w, .slice A81 b.reg.rows.length c81, .slice A82 b.pieces.length c82, .slice A83 b.masks.length c83, .string b.text, .int .i64 b.prime, .slice A84 b.weights.length c84, .int .i64 b.mask, .slice A85 b.wang.length c85, .int .i64 b.width, .int .i64 b.height], Res.box (w6.heap.size) 35 #[.int .i64 a.kind, .int .i64 a.reg.w, .slice A61 a.reg.rows.length c61, .slice A62 a.pieces.length c62, .slice A63 a.masks.length c63, .string a.text, .int .i64 a.prime, .slice A64 a.weights.length c64, .int .i64 a.mask, .slice A65 a.wang.length c65, .int .i64 a.width, .int .i64 a.height]] ∧ Sep w8 wx [Res.box (w8.heap.size) 35 #[.int .i64 b.kind, .int .i64 b.reg.w, .slice A81 b.reg.rows.length c81, .slice A82 b.pieces.length c82, .slice A83 b.masks.length c83, .string b.text, .int .i64 b.prime, .slice A84 b.weights.length c84, .int .i64 b.mask, .slice A85 b.wang.length c85, .int .i64 b.width, .int .i64 b.height]])
  case first =>
    go_region_with ((first
      | (go_at_call 9; (with_reducible refine (toClaim_c (a := b) _ (by exact ((hb.keep (SameIn.of_below (below_drew H11.below) (Nat.le_refl _))).more (Nat.le_refl _) (le_drew H11.size))) HZB.out).mono ?_); rintro e u12 ⟨q12, rfl, r12, s12⟩; replace s12 := below_undrew s12; have M12 := H11.step s12; have N12 := K11.step s12; have O12 := L11.step s12; have x0 : u12.cell? ⟨w8.heap.size, 0, none⟩ = some (.int .i64 b.kind) := M12.h0.cell 0; have x1 : u12.cell? ⟨w8.heap.size, 1, none⟩ = some (.int .i64 b.reg.w) := M12.h0.cell 1; have x2 : u12.cell? ⟨w8.heap.size, 2, none⟩ = some (.slice A81 b.reg.rows.length c81) := M12.h0.cell 2; have x3 : u12.cell? ⟨w8.heap.size, 3, none⟩ = some (.slice A82 b.pieces.length c82) := M12.h0.cell 3; have x4 : u12.cell? ⟨w8.heap.size, 4, none⟩ = some (.slice A83 b.masks.length c83) := M12.h0.cell 4; have x5 : u12.cell? ⟨w8.heap.size, 5, none⟩ = some (.string b.text) := M12.h0.cell 5; have x6 : u12.cell? ⟨w8.heap.size, 6, none⟩ = some (.int .i64 b.prime) := M12.h0.cell 6; have x7 : u12.cell? ⟨w8.heap.size, 7, none⟩ = some (.slice A84 b.weights.length c84) := M12.h0.cell 7; have x8 : u12.cell? ⟨w8.heap.size, 8, none⟩ = some (.int .i64 b.mask) := M12.h0.cell 8; have x9 : u12.cell? ⟨w8.heap.size, 9, none⟩ = some (.slice A85 b.wang.length c85) := M12.h0.cell 9; have x10 : u12.cell? ⟨w8.heap.size, 10, none⟩ = some (.int .i64 b.width) := M12.h0.cell 10; have x11 : u12.cell? ⟨w8.heap.size, 11, none⟩ = some (.int .i64 b.height) := M12.h0.cell 11; have y0 : u12.cell? ⟨w.heap.size + 1, 0, none⟩ = some (.int .i64 b.kind) := M12.h2.cell 0; have y1 : u12.cell? ⟨w.heap.size + 1, 1, none⟩ = some (.int .i64 b.reg.w) := M12.h2.cell 1; have y2 : u12.cell? ⟨w.heap.size + 1, 2, none⟩ = some (t1) := M12.h2.cell 2; have y3 : u12.cell? ⟨w.heap.size + 1, 3, none⟩ = some (t2) := M12.h2.cell 3; have y4 : u12.cell? ⟨w.heap.size + 1, 4, none⟩ = some (t3) := M12.h2.cell 4; have y5 : u12.cell? ⟨w.heap.size + 1, 5, none⟩ = some (.string b.text) := M12.h2.cell 5; have y6 : u12.cell? ⟨w.heap.size + 1, 6, none⟩ = some (.int .i64 b.prime) := M12.h2.cell 6; have y7 : u12.cell? ⟨w.heap.size + 1, 7, none⟩ = some (t4) := M12.h2.cell 7; have y8 : u12.cell? ⟨w.heap.size + 1, 8, none⟩ = some (.int .i64 b.mask) := M12.h2.cell 8; have y9 : u12.cell? ⟨w.heap.size + 1, 9, none⟩ = some (t5) := M12.h2.cell 9; have y10 : u12.cell? ⟨w.heap.size + 1, 10, none⟩ = some (.int .i64 b.width) := M12.h2.cell 10; have y11 : u12.cell? ⟨w.heap.size + 1, 11, none⟩ = some (.int .i64 b.height) := M12.h2.cell 11)
      | (go_at_call 11; (with_reducible refine (eqClaim_c (a := b) _ (by exact ((o8.keep (SameIn.of_below O12.below (Nat.le_refl _))).more (Nat.le_refl _) O12.size)) (by exact r12.more (Nat.zero_le _) (Nat.le_refl _))).mono ?_); rintro e z12 ⟨rfl, k12⟩; have M12' := M12.step k12; have N12' := N12.step k12; have O12' := O12.step k12)))
    all_goals (go_wp2_with fail; go_meet; exact ⟨rfl, M12', N12', O12'⟩)
  case rest =>
  clear c0 c1 c2 c3 c4 c5 c6 c7 c8 c9 c10 c11 d0 d1 d2 d3 d4 d5 d6 d7 d8 d9 d10 d11 H11 K11 L11
  obtain ⟨rfl, H12, K12, L12⟩ := hcut
  generalize hwc : wc = w12 at *
  clear hwc
  go_wp2
  go_ret
  exact ⟨rfl, H12.below⟩
end Go.Proofs.Ytjmeplchabehfaa
