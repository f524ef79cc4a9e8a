
/-
  The law FnExactFormatClaim, walked by contracts.
-/
import Derived.Test.YtjoglffhdoneoaaGreatDoorFcX
import Derived.Test.YtjoglffhdoneoaaGreatDoorFcI
import Derived.Deep.DeepCutAuto
namespace Go.Proofs.YtjoglffhdoneoaaGreatDoor
open Go.RowKit

set_option maxRecDepth 100000 in
set_option maxHeartbeats 6400000 in
theorem law_FormatClaim (va : Value) (a : Clm) (w : World) (ha : ClmRd w 0 w.heap.size va a) (hta : a.text.size ≤ maxLen) :
    Calls Tryz.prog 4 #[va] w fun e w' => e = .returned (.bool true) ∧ Below w.heap.size w w' := by
  obtain ⟨s1, s2, s3, s4, s5, hva, _, _, _, _, _⟩ := id ha
  unfold clmV at hva
  subst hva
  have H := (Sep.start w).box 46 #[.int .i64 a.kind, .int .i64 a.reg.w, s1, s2, s3, .string a.text, .int .i64 a.prime, s4, .int .i64 a.mask, s5, .int .i64 a.width, .int .i64 a.height]
  go_enter Tryz.func4, Tryz.ntmps4
  go_wp2_with (refine wpList_load_row rfl 46 _ rfl (w.heap.size) rfl 46 _ _ _ H.h0 Tryz.underlying46 rfl (by kernel_rfl) ?_)
  generalize (w.alloc (.cells #[.int .i64 a.kind, .int .i64 a.reg.w, s1, s2, s3, .string a.text, .int .i64 a.prime, s4, .int .i64 a.mask, s5, .int .i64 a.width, .int .i64 a.height] 46)) = W at *
  refine (szClaim_c (a := a) 1048576 W ((ha.keep (SameIn.of_below H.below (Nat.le_refl _))).more (Nat.le_refl _) H.size) hta (by omega) (by omega)).mono ?_
  rintro e w1 ⟨m1, rfl, j1, i1, z1, b1⟩
  have H1 := H.step b1
  clear b1 H
  by_cases k1 : m1 < 0
  · go_wp2
    go_ret
    exact ⟨rfl, H1.below⟩
  have j1' : 0 ≤ m1 := by omega
  have hza := z1 j1'
  have HZA := Lib.hid hza
  clear z1 hza k1
  go_wp2_with (refine wpList_load_row rfl 46 _ rfl (w.heap.size) rfl 46 _ _ _ H1.h0 Tryz.underlying46 rfl (by kernel_rfl) ?_)
  refine (toClaim_c (a := a) w1 ((ha.keep (SameIn.of_below H1.below (Nat.le_refl _))).more (Nat.le_refl _) H1.size) HZA.out).mono ?_
  rintro e w2 ⟨v2, rfl, o2, b2⟩
  have H2 := H1.step b2
  clear b2 H1
  replace o2 := o2.more (Nat.zero_le _) (Nat.le_refl _)
  have HSP := Lib.hid (spec_fc_c (C := a) w2 o2 HZA.out.1 HZA.out.2.1 HZA.out.2.2.1 hta)
  clear o2
  go_wp2_with fail
  refine (HSP.out).mono ?_
  rintro e w3 ⟨rfl, b3⟩
  have H3 := H2.step b3
  clear b3 H2 HSP
  obtain ⟨R, hR⟩ : ∃ R, R = fcB a := ⟨_, rfl⟩
  rw [← hR]
  have HR := Lib.hid hR
  clear hR
  go_wp2_with (refine wpList_load_row rfl 46 _ rfl (w.heap.size) rfl 46 _ _ _ H3.h0 Tryz.underlying46 rfl (by kernel_rfl) ?_)
  refine (toClaim_c (a := a) w3 ((ha.keep (SameIn.of_below H3.below (Nat.le_refl _))).more (Nat.le_refl _) H3.size) HZA.out).mono ?_
  rintro e w4 ⟨v4, rfl, o4, b4⟩
  obtain ⟨_, _, _, _, _, hv4, ⟨A1, c1, rfl, _, _⟩, ⟨_, ⟨A2, c2, rfl, _, _⟩, _⟩, ⟨A3, c3, rfl, _, _⟩, ⟨A4, c4, rfl, _, _⟩, ⟨A5, c5, rfl, _, _⟩⟩ := id o4
  unfold clmV at hv4
  subst hv4
  replace o4 := o4.more (Nat.zero_le _) (Nat.le_refl _)
  have H4 := (H3.step b4).box 32 #[.int .i64 a.kind, .int .i64 a.reg.w, .slice A1 a.reg.rows.length c1, .slice A2 a.pieces.length c2, .slice A3 a.masks.length c3, .string a.text, .int .i64 a.prime, .slice A4 a.weights.length c4, .int .i64 a.mask, .slice A5 a.wang.length c5, .int .i64 a.width, .int .i64 a.height]
  have K4 := (Sep.start w4).box 32 #[.int .i64 a.kind, .int .i64 a.reg.w, .slice A1 a.reg.rows.length c1, .slice A2 a.pieces.length c2, .slice A3 a.masks.length c3, .string a.text, .int .i64 a.prime, .slice A4 a.weights.length c4, .int .i64 a.mask, .slice A5 a.wang.length c5, .int .i64 a.width, .int .i64 a.height]
  clear b4 H3
  go_wp2_with (refine wpList_load_row rfl 32 _ rfl (w4.heap.size) rfl 32 _ _ _ H4.h0 Tryz.underlying32 rfl (by kernel_rfl) ?_)
  generalize hx : w4.alloc (.cells #[.int .i64 a.kind, .int .i64 a.reg.w, .slice A1 a.reg.rows.length c1, .slice A2 a.pieces.length c2, .slice A3 a.masks.length c3, .string a.text, .int .i64 a.prime, .slice A4 a.weights.length c4, .int .i64 a.mask, .slice A5 a.wang.length c5, .int .i64 a.width, .int .i64 a.height] 32) = w5 at *
  clear hx
  have HIM := Lib.hid (impl_fc_c (C := a) w5 ((o4.keep (SameIn.of_below K4.below (Nat.le_refl _))).more (Nat.le_refl _) K4.size) HZA.out.1 HZA.out.2.1 HZA.out.2.2.1 hta)
  rw [← HR.out] at HIM
  refine (HIM.out).mono ?_
  rintro e w6 ⟨rfl, b6⟩
  have H6 := H4.step b6
  have K6 := K4.step b6
  clear b6 H4 K4 HIM
  go_wp2_with fail
  have x0 : w6.cell? ⟨w4.heap.size, 0, none⟩ = some (.int .i64 a.kind) := H6.h0.cell 0
  have x1 : w6.cell? ⟨w4.heap.size, 1, none⟩ = some (.int .i64 a.reg.w) := H6.h0.cell 1
  have x2 : w6.cell? ⟨w4.heap.size, 2, none⟩ = some (.slice A1 a.reg.rows.length c1) := H6.h0.cell 2
  have x3 : w6.cell? ⟨w4.heap.size, 3, none⟩ = some (.slice A2 a.pieces.length c2) := H6.h0.cell 3
  have x4 : w6.cell? ⟨w4.heap.size, 4, none⟩ = some (.slice A3 a.masks.length c3) := H6.h0.cell 4
  have x5 : w6.cell? ⟨w4.heap.size, 5, none⟩ = some (.string a.text) := H6.h0.cell 5
  have x6 : w6.cell? ⟨w4.heap.size, 6, none⟩ = some (.int .i64 a.prime) := H6.h0.cell 6
  have x7 : w6.cell? ⟨w4.heap.size, 7, none⟩ = some (.slice A4 a.weights.length c4) := H6.h0.cell 7
  have x8 : w6.cell? ⟨w4.heap.size, 8, none⟩ = some (.int .i64 a.mask) := H6.h0.cell 8
  have x9 : w6.cell? ⟨w4.heap.size, 9, none⟩ = some (.slice A5 a.wang.length c5) := H6.h0.cell 9
  have x10 : w6.cell? ⟨w4.heap.size, 10, none⟩ = some (.int .i64 a.width) := H6.h0.cell 10
  have x11 : w6.cell? ⟨w4.heap.size, 11, none⟩ = some (.int .i64 a.height) := H6.h0.cell 11
  have y0 : w6.cell? ⟨w.heap.size, 0, none⟩ = some (.int .i64 a.kind) := H6.h1.cell 0
  have y1 : w6.cell? ⟨w.heap.size, 1, none⟩ = some (.int .i64 a.reg.w) := H6.h1.cell 1
  have y2 : w6.cell? ⟨w.heap.size, 2, none⟩ = some (s1) := H6.h1.cell 2
  have y3 : w6.cell? ⟨w.heap.size, 3, none⟩ = some (s2) := H6.h1.cell 3
  have y4 : w6.cell? ⟨w.heap.size, 4, none⟩ = some (s3) := H6.h1.cell 4
  have y5 : w6.cell? ⟨w.heap.size, 5, none⟩ = some (.string a.text) := H6.h1.cell 5
  have y6 : w6.cell? ⟨w.heap.size, 6, none⟩ = some (.int .i64 a.prime) := H6.h1.cell 6
  have y7 : w6.cell? ⟨w.heap.size, 7, none⟩ = some (s4) := H6.h1.cell 7
  have y8 : w6.cell? ⟨w.heap.size, 8, none⟩ = some (.int .i64 a.mask) := H6.h1.cell 8
  have y9 : w6.cell? ⟨w.heap.size, 9, none⟩ = some (s5) := H6.h1.cell 9
  have y10 : w6.cell? ⟨w.heap.size, 10, none⟩ = some (.int .i64 a.width) := H6.h1.cell 10
  have y11 : w6.cell? ⟨w.heap.size, 11, none⟩ = some (.int .i64 a.height) := H6.h1.cell 11
  go_cut [26] (fun s wx => s = .bool false ∧ Below w.heap.size w wx)
  case first =>
    go_region_with ((first
      | (go_at_call 20; (with_reducible refine (toClaim_c (a := a) _ (by exact ((ha.keep (SameIn.of_below (below_drew H6.below) (Nat.le_refl _))).more (Nat.le_refl _) (le_drew H6.size))) HZA.out).mono ?_); rintro e u7 ⟨q7, rfl, r7, s7⟩; replace s7 := below_undrew s7; have M7 := H6.step s7; have N7 := K6.step s7; have p0 : u7.cell? ⟨w4.heap.size, 0, none⟩ = some (.int .i64 a.kind) := M7.h0.cell 0; have p1 : u7.cell? ⟨w4.heap.size, 1, none⟩ = some (.int .i64 a.reg.w) := M7.h0.cell 1; have p2 : u7.cell? ⟨w4.heap.size, 2, none⟩ = some (.slice A1 a.reg.rows.length c1) := M7.h0.cell 2; have p3 : u7.cell? ⟨w4.heap.size, 3, none⟩ = some (.slice A2 a.pieces.length c2) := M7.h0.cell 3; have p4 : u7.cell? ⟨w4.heap.size, 4, none⟩ = some (.slice A3 a.masks.length c3) := M7.h0.cell 4; have p5 : u7.cell? ⟨w4.heap.size, 5, none⟩ = some (.string a.text) := M7.h0.cell 5; have p6 : u7.cell? ⟨w4.heap.size, 6, none⟩ = some (.int .i64 a.prime) := M7.h0.cell 6; have p7 : u7.cell? ⟨w4.heap.size, 7, none⟩ = some (.slice A4 a.weights.length c4) := M7.h0.cell 7; have p8 : u7.cell? ⟨w4.heap.size, 8, none⟩ = some (.int .i64 a.mask) := M7.h0.cell 8; have p9 : u7.cell? ⟨w4.heap.size, 9, none⟩ = some (.slice A5 a.wang.length c5) := M7.h0.cell 9; have p10 : u7.cell? ⟨w4.heap.size, 10, none⟩ = some (.int .i64 a.width) := M7.h0.cell 10; have p11 : u7.cell? ⟨w4.heap.size, 11, none⟩ = some (.int .i64 a.height) := M7.h0.cell 11; have q0 : u7.cell? ⟨w.heap.size, 0, none⟩ = some (.int .i64 a.kind) := M7.h1.cell 0; have q1 : u7.cell? ⟨w.heap.size, 1, none⟩ = some (.int .i64 a.reg.w) := M7.h1.cell 1; have q2 : u7.cell? ⟨w.heap.size, 2, none⟩ = some (s1) := M7.h1.cell 2; have q3 : u7.cell? ⟨w.heap.size, 3, none⟩ = some (s2) := M7.h1.cell 3; have q4 : u7.cell? ⟨w.heap.size, 4, none⟩ = some (s3) := M7.h1.cell 4; have q5 : u7.cell? ⟨w.heap.size, 5, none⟩ = some (.string a.text) := M7.h1.cell 5; have q6 : u7.cell? ⟨w.heap.size, 6, none⟩ = some (.int .i64 a.prime) := M7.h1.cell 6; have q7 : u7.cell? ⟨w.heap.size, 7, none⟩ = some (s4) := M7.h1.cell 7; have q8 : u7.cell? ⟨w.heap.size, 8, none⟩ = some (.int .i64 a.mask) := M7.h1.cell 8; have q9 : u7.cell? ⟨w.heap.size, 9, none⟩ = some (s5) := M7.h1.cell 9; have q10 : u7.cell? ⟨w.heap.size, 10, none⟩ = some (.int .i64 a.width) := M7.h1.cell 10; have q11 : u7.cell? ⟨w.heap.size, 11, none⟩ = some (.int .i64 a.height) := M7.h1.cell 11)
      | (go_at_call 11; (with_reducible refine (eqClaim_c (a := a) _ (by exact ((o4.keep (SameIn.of_below N7.below (Nat.le_refl _))).more (Nat.le_refl _) N7.size)) (by exact r7.more (Nat.zero_le _) (Nat.le_refl _))).mono ?_); rintro e z7 ⟨rfl, k7⟩; have M8 := M7.step k7)))
    all_goals (go_wp2_with fail; go_meet; exact ⟨rfl, M8.below⟩)
  case rest =>
  clear x0 x1 x2 x3 x4 x5 x6 x7 x8 x9 x10 x11 y0 y1 y2 y3 y4 y5 y6 y7 y8 y9 y10 y11 H6 K6
  obtain ⟨rfl, hb⟩ := hcut
  generalize hwc : wc = w9 at *
  clear hwc
  go_wp2
  go_ret
  exact ⟨rfl, hb⟩
end Go.Proofs.YtjoglffhdoneoaaGreatDoor
