
/-
  Helpers of the laws: a claim of a period marked, and held.
-/
import Derived.Test.YtlfeognjnlppkaaWangL
import Derived.Test.YtlfeognjnlppkaaWangM
namespace Go.Proofs.Ytlfeognjnlppkaa
open Go.RowKit

theorem searchW_len {l : List Wg} {wd h : Nat} : ∀ (k : Nat) (f g : List Nat), searchW l wd h k f = some g → g.length = f.length + k := by
  intro k
  induction k with
  | zero =>
    intro f g hg
    unfold searchW at hg
    split at hg
    · injection hg with hg; subst hg; rfl
    · cases hg
  | succ k ih =>
    intro f g hg
    unfold searchW at hg
    obtain ⟨t, _, ht⟩ := List.exists_of_findSome?_eq_some hg
    split at ht
    · have := ih _ _ ht
      rw [List.length_append] at this
      simp at this
      omega
    · cases ht
theorem period_len {l f : List _} {a b : Nat} (h : period l = some (f, a, b)) : f.length ≤ 9 := by
  unfold period at h
  split at h
  · obtain ⟨i, hi, h⟩ := List.exists_of_findSome?_eq_some h
    obtain ⟨j, hj, h⟩ := List.exists_of_findSome?_eq_some h
    unfold tryAt at h
    split at h
    · obtain ⟨g, hg, h⟩ := Option.map_eq_some_iff.1 h
      injection h with h1 h2
      subst h1
      have := searchW_len _ _ _ hg
      have h2 := Nat.mul_div_le (i + 1) (j + 1)
      have h3 := List.mem_range.1 hi
      simp at this
      omega
    · cases h
  · cases h

section
variable {w0 : World} {v : Value} {L : List Res}
set_option maxRecDepth 100000 in
theorem markIntS_s {x : List Int} (k0 : Int) (w : World) (hn : x.length ≤ 1048576) (hk0 : 0 ≤ k0) (hk1 : k0 ≤ 1000000000000) (H : Sep w0 w (Res.row v 3 1 x.length (ic x) :: L)) :
    Calls Try.prog 41 #[v, .int .i64 k0] w fun e w' => e = .returned (.int .i64 (k0 + (x.length : Int))) ∧ Sep w0 w' (Res.row v 3 1 x.length (ic (Ints.mk k0 x)) :: L) := by
  rcases OI.cases (OI.mk H.h0) with ⟨rfl, h0⟩ | ⟨g, c, cs, rfl, h1, h2, h3, h4, hb, h5, h6⟩
  · obtain rfl := List.eq_nil_of_length_eq_zero h0
    refine (markIntS_nil k0 w).mono ?_
    rintro e w' ⟨rfl, rfl⟩
    exact ⟨by simp, H⟩
  · refine (markIntS_any g _ c k0 x cs w rfl hn hk0 hk1 hb (by rw [h5]; omega)).mono ?_
    rintro e w' ⟨rfl, hg, cs', hb', hs', ht'⟩
    exact ⟨rfl, H.turn (Only.of_grown hg) (OI.of_blk hb' h1 hb'.lt h3 h4 (by rw [hs', h5]) (by simpa using ht')).1 (fun _ hb => .inl hb)⟩
set_option maxRecDepth 100000 in
theorem markWangS_s {x : List Wg} (k0 : Int) (w : World) (hn : x.length ≤ 1048576) (hk0 : 0 ≤ k0) (hk1 : k0 ≤ 1000000000000) (H : Sep w0 w (Res.row v 62 4 x.length (wgc x) :: L)) :
    Calls Try.prog 16 #[v, .int .i64 k0] w fun e w' => e = .returned (.int .i64 (k0 + 4 * (x.length : Int))) ∧ Sep w0 w' (Res.row v 62 4 x.length (wgc (Wgs.mk k0 x)) :: L) := by
  rcases OI.cases (OI.mk H.h0) with ⟨rfl, h0⟩ | ⟨g, c, cs, rfl, h1, h2, h3, h4, hb, h5, h6⟩
  · obtain rfl := List.eq_nil_of_length_eq_zero h0
    refine (markWangS_nil k0 w).mono ?_
    rintro e w' ⟨rfl, rfl⟩
    exact ⟨by simp, H⟩
  · refine (markWangS_any g _ c k0 x cs w rfl hn hk0 hk1 hb (by rw [h5]; omega)).mono ?_
    rintro e w' ⟨rfl, hg, cs', hb', hs', ht'⟩
    exact ⟨rfl, H.turn (Only.of_grown hg) (OI.of_blk hb' h1 hb'.lt h3 h4 (by rw [hs', h5]) ht').1 (fun _ hb => .inl hb)⟩
end

set_option maxRecDepth 100000 in
set_option maxHeartbeats 800000 in
theorem markCellSS_nil (k0 : Int) (w : World) :
    Calls Try.prog 40 #[.slice none 0 0, .int .i64 k0] w fun e w' => e = .returned (.int .i64 k0) ∧ w = w' := by
  go_enter Try.func40, Try.ntmps40
  go_wp2
  refine wp_loop_rounds 1 ?_
  rw [rounds_succ]
  go_wp2
  go_ret
  exact ⟨rfl, rfl⟩
set_option maxRecDepth 100000 in
set_option maxHeartbeats 800000 in
theorem heldCellSS_nil (k0 : Int) (w : World) :
    Calls Try.prog 43 #[.slice none 0 0, .int .i64 k0] w fun e w' => e = .returned (.int .i64 k0) ∧ w = w' := by
  go_enter Try.func43, Try.ntmps43
  go_wp2
  refine wp_loop_rounds 1 ?_
  rw [rounds_succ]
  go_wp2
  go_ret
  exact ⟨rfl, rfl⟩
set_option maxRecDepth 100000 in
set_option maxHeartbeats 800000 in
theorem heldIntS_nil (k0 : Int) (w : World) :
    Calls Try.prog 44 #[.slice none 0 0, .int .i64 k0] w fun e w' => e = .returned (.int .i64 k0) ∧ w = w' := by
  go_enter Try.func44, Try.ntmps44
  go_wp2
  refine wp_loop_rounds 1 ?_
  rw [rounds_succ]
  go_wp2
  go_ret
  exact ⟨rfl, rfl⟩

set_option maxRecDepth 100000 in
set_option maxHeartbeats 800000 in
theorem markPer_s {w0 : World} {L : List Res} {v1 v2 : Value} {M : List Int} {G : List Wg} (kk xx yy : Int) (k0 : Int) (w : World) (hn : M.length ≤ 1048576) (hn2 : G.length ≤ 1048576) (hk0 : 0 ≤ k0) (hk1 : k0 ≤ 1000000000)
    (H : Sep w0 w (Res.row v1 3 1 M.length (ic M) :: Res.row v2 62 4 G.length (wgc G) :: L)) :
    Calls Try.prog 17 #[.agg #[.int .i64 kk, .int .i64 0, .slice none 0 0, .slice none 0 0, v1, .string ⟨#[]⟩, .int .i64 0, .slice none 0 0, .int .i64 0, v2, .int .i64 xx, .int .i64 yy], .int .i64 k0] w fun e w' => e = .returned (.int .i64 (k0 + (M.length : Int) + 4 * (G.length : Int))) ∧
      Sep w0 w' (Res.row v1 3 1 M.length (ic (Ints.mk k0 M)) :: Res.row v2 62 4 G.length (wgc (Wgs.mk (k0 + (M.length : Int)) G)) :: L) := by
  have H0 := H.box 38 #[.int .i64 kk, .int .i64 0, .slice none 0 0, .slice none 0 0, v1, .string ⟨#[]⟩, .int .i64 0, .slice none 0 0, .int .i64 0, v2, .int .i64 xx, .int .i64 yy]
  clear H
  have c1 : (w.alloc (.cells #[.int .i64 kk, .int .i64 0, .slice none 0 0, .slice none 0 0, v1, .string ⟨#[]⟩, .int .i64 0, .slice none 0 0, .int .i64 0, v2, .int .i64 xx, .int .i64 yy] 38)).cell? ⟨w.heap.size, 1, none⟩ = some (.int .i64 0) := H0.h0.cell 1
  have c2 : (w.alloc (.cells #[.int .i64 kk, .int .i64 0, .slice none 0 0, .slice none 0 0, v1, .string ⟨#[]⟩, .int .i64 0, .slice none 0 0, .int .i64 0, v2, .int .i64 xx, .int .i64 yy] 38)).cell? ⟨w.heap.size, 2, none⟩ = some (.slice none 0 0) := H0.h0.cell 2
  go_enter Try.func17, Try.ntmps17
  go_wp2_with fail
  clear c1 c2
  generalize w.alloc (.cells #[.int .i64 kk, .int .i64 0, .slice none 0 0, .slice none 0 0, v1, .string ⟨#[]⟩, .int .i64 0, .slice none 0 0, .int .i64 0, v2, .int .i64 xx, .int .i64 yy] 38) = W at *
  refine (markRegion_c (lo := W.heap.size) (hi := W.heap.size) (x := ⟨0, []⟩) k0 W (by simp) hk0 (by omega) (Nat.le_refl _) ⟨_, rfl, IntsIn.nil⟩).mono ?_
  rintro e w1 ⟨he, _, ho⟩
  obtain rfl : e = .returned (.int .i64 k0) := by rw [he]; simp
  have H1 := H0.step (ho.below (Nat.le_refl _) (Nat.le_refl _))
  clear he ho H0
  have c3 : w1.cell? ⟨w.heap.size, 3, none⟩ = some (.slice none 0 0) := H1.h0.cell 3
  go_wp2_with fail
  clear c3
  refine (markCellSS_nil k0 w1).mono ?_
  rintro e w2 ⟨rfl, rfl⟩
  have c4 : w1.cell? ⟨w.heap.size, 4, none⟩ = some v1 := H1.h0.cell 4
  go_wp2_with fail
  clear c4
  refine (markIntS_s (x := M) k0 w1 hn hk0 (by omega) H1.g1).mono ?_
  rintro e w3 ⟨rfl, H3⟩
  clear H1
  obtain ⟨k1, hk⟩ : ∃ k1 : Int, k1 = k0 + (M.length : Int) := ⟨_, rfl⟩
  rw [← hk]
  have j1 : 0 ≤ k1 := by omega
  have j2 : k1 ≤ 1000000000000 := by omega
  have HK := Lib.hid hk
  clear hk
  have c7 : w3.cell? ⟨w.heap.size, 7, none⟩ = some (.slice none 0 0) := H3.h1.cell 7
  go_wp2_with fail
  clear c7
  refine (markIntS_nil k1 w3).mono ?_
  rintro e w4 ⟨rfl, rfl⟩
  have c9 : w3.cell? ⟨w.heap.size, 9, none⟩ = some v2 := H3.h1.cell 9
  go_wp2_with fail
  clear c9
  refine (markWangS_s (x := G) k1 w3 hn2 j1 j2 H3.g2).mono ?_
  rintro e w5 ⟨rfl, H5⟩
  have H6 := H5.g1
  clear H3 H5
  go_wp2
  go_ret
  rw [← HK.out]
  exact ⟨rfl, H6.onTail (by intro q hq; simp only [List.mem_cons] at *; grind) H6.drop.drop2⟩

set_option maxRecDepth 100000 in
set_option maxHeartbeats 800000 in
theorem heldPer_c {v1 v2 : Value} {M : List Int} {G : List Wg} (kk xx yy : Int) (k0 : Int) (w : World) (hn : M.length ≤ 1048576) (hn2 : G.length ≤ 1048576) (hk0 : 0 ≤ k0) (hk1 : k0 ≤ 1000000000)
    (h1 : IntsRd w 0 w.heap.size v1 (Ints.mk k0 M)) (h2 : WangsRd w 0 w.heap.size v2 (Wgs.mk (k0 + (M.length : Int)) G)) :
    Calls Try.prog 18 #[.agg #[.int .i64 kk, .int .i64 0, .slice none 0 0, .slice none 0 0, v1, .string ⟨#[]⟩, .int .i64 0, .slice none 0 0, .int .i64 0, v2, .int .i64 xx, .int .i64 yy], .int .i64 k0] w fun e w' => e = .returned (.int .i64 (k0 + (M.length : Int) + 4 * (G.length : Int))) ∧ Below w.heap.size w w' := by
  have H0 := (Sep.start w).box 38 #[.int .i64 kk, .int .i64 0, .slice none 0 0, .slice none 0 0, v1, .string ⟨#[]⟩, .int .i64 0, .slice none 0 0, .int .i64 0, v2, .int .i64 xx, .int .i64 yy]
  have c1 : (w.alloc (.cells #[.int .i64 kk, .int .i64 0, .slice none 0 0, .slice none 0 0, v1, .string ⟨#[]⟩, .int .i64 0, .slice none 0 0, .int .i64 0, v2, .int .i64 xx, .int .i64 yy] 38)).cell? ⟨w.heap.size, 1, none⟩ = some (.int .i64 0) := H0.h0.cell 1
  have c2 : (w.alloc (.cells #[.int .i64 kk, .int .i64 0, .slice none 0 0, .slice none 0 0, v1, .string ⟨#[]⟩, .int .i64 0, .slice none 0 0, .int .i64 0, v2, .int .i64 xx, .int .i64 yy] 38)).cell? ⟨w.heap.size, 2, none⟩ = some (.slice none 0 0) := H0.h0.cell 2
  go_enter Try.func18, Try.ntmps18
  go_wp2_with fail
  clear c1 c2
  generalize w.alloc (.cells #[.int .i64 kk, .int .i64 0, .slice none 0 0, .slice none 0 0, v1, .string ⟨#[]⟩, .int .i64 0, .slice none 0 0, .int .i64 0, v2, .int .i64 xx, .int .i64 yy] 38) = W at *
  refine (heldRegion_c (x := ⟨0, []⟩) k0 W (by simp) hk0 (by omega) ⟨_, rfl, IntsIn.nil.rd⟩).mono ?_
  rintro e w1 ⟨he, b1⟩
  obtain rfl : e = .returned (.int .i64 k0) := by rw [he]; simp
  have H1 := H0.step b1
  clear he b1 H0
  have c3 : w1.cell? ⟨w.heap.size, 3, none⟩ = some (.slice none 0 0) := H1.h0.cell 3
  go_wp2_with fail
  clear c3
  refine (heldCellSS_nil k0 w1).mono ?_
  rintro e w2 ⟨rfl, rfl⟩
  have c4 : w1.cell? ⟨w.heap.size, 4, none⟩ = some v1 := H1.h0.cell 4
  go_wp2_with fail
  clear c4
  refine (heldIntS_c (x := M) k0 w1 hn hk0 (by omega) ((h1.keep (SameIn.of_below H1.below (Nat.le_refl _))).more (Nat.le_refl _) H1.size)).mono ?_
  rintro e w3 ⟨rfl, rfl⟩
  obtain ⟨k1, hk⟩ : ∃ k1 : Int, k1 = k0 + (M.length : Int) := ⟨_, rfl⟩
  rw [← hk] at h2 ⊢
  have j1 : 0 ≤ k1 := by omega
  have j2 : k1 ≤ 1000000000000 := by omega
  have HK := Lib.hid hk
  clear hk
  have c7 : w1.cell? ⟨w.heap.size, 7, none⟩ = some (.slice none 0 0) := H1.h0.cell 7
  go_wp2_with fail
  clear c7
  refine (heldIntS_nil k1 w1).mono ?_
  rintro e w4 ⟨rfl, rfl⟩
  have c9 : w1.cell? ⟨w.heap.size, 9, none⟩ = some v2 := H1.h0.cell 9
  go_wp2_with fail
  clear c9
  refine (heldWangS_c (x := G) k1 w1 hn2 j1 j2 ((h2.keep (SameIn.of_below H1.below (Nat.le_refl _))).more (Nat.le_refl _) H1.size)).mono ?_
  rintro e w5 ⟨rfl, rfl⟩
  go_wp2
  go_ret
  rw [← HK.out]
  exact ⟨rfl, H1.below⟩
end Go.Proofs.Ytlfeognjnlppkaa
