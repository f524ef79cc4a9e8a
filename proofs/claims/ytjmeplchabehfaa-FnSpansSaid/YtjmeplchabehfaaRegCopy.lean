
/-
  The walks over regions: copies.
-/
import Derived.Test.YtjmeplchabehfaaSepApp
import Derived.Test.YtjmeplchabehfaaRegB
import Derived.Test.YtjmeplchabehfaaCwWalks
namespace Go.Proofs.Ytjmeplchabehfaa
open Go.RowKit

set_option maxRecDepth 100000 in
theorem infoIntC : (Try.prog.info? 3).map (fun i => (i.zero, i.size, i.bytes)) = some (some (.int .i64 0), 1, 8) := by kernel_rfl

/-- is a within b .. c? (not to be taken apart by a walk) -/
def inR (a b c : Int) : Bool := decide (b ≤ a) && decide (a ≤ c)
theorem inR_t {a b c : Int} (h1 : b ≤ a) (h2 : a ≤ c) : inR a b c = true := by simp [inR, h1, h2]
theorem inR_f {a b c : Int} (h : ¬ (b ≤ a ∧ a ≤ c)) : inR a b c = false := by simp [inR]; omega
set_option maxRecDepth 100000 in
theorem between_r (a b c : Int) (w : World) : Calls Try.prog 94 #[.int .i64 a, .int .i64 b, .int .i64 c] w fun e w' => e = .returned (.bool (inR a b c)) ∧ w = w' := between_any a b c w
set_option maxRecDepth 100000 in
theorem l1In_r (a b c : Int) (w : World) : Calls Try.prog 97 #[.int .i64 a, .int .i64 b, .int .i64 c] w fun e w' => e = .returned (.bool (inR a b c)) ∧ w = w' := l1In_any a b c w

set_option maxRecDepth 100000 in
set_option maxHeartbeats 400000 in
theorem impl_copyInts_c {v : Value} {l : List Int} (w : World) (h : IntsRd w 0 w.heap.size v l) (hn : l.length ≤ 1048576) :
    Calls Try.prog 139 #[v] w fun e w' => ∃ v', e = .returned v' ∧ IntsIn w' w.heap.size w'.heap.size v' l ∧ Below w.heap.size w w' := by
  obtain ⟨A, c, rfl, hm, hr⟩ := h
  obtain ⟨j0, hj, y0, y1, y2⟩ := info_parts infoIntC
  have H := (Sep.start w).nil 3 1
  go_enter Try.func139, Try.ntmps139
  go_wp2_with (at_builtin; refine wpList_app rfl _ _ 22 rfl 3 j0 _ 1 8 Try.underlying22 hj y0 y1 y2 rfl (by decide) _ _ _ rfl H A _ c (ic l) rfl hr ic_one (by unfold maxLen; omega) (by omega) ?_; intro v' w' H1)
  go_ret
  exact ⟨v', rfl, IntsIn.mk H1.oi.1 (by simp) (by simp), H1.below⟩

set_option maxRecDepth 100000 in
set_option maxHeartbeats 800000 in
theorem spec_copy_c {v : Value} {r : Reg} (w : World) (h : RegRd w 0 w.heap.size v r) (hn : r.rows.length ≤ 1048576) :
    Calls Try.prog 126 #[v] w fun e w' => ∃ v', e = .returned v' ∧ RegIn w' w.heap.size w'.heap.size v' r ∧ Below w.heap.size w w' := by
  obtain ⟨s, rfl, hs⟩ := h
  obtain ⟨A, c, rfl, hm, hr⟩ := id hs
  obtain ⟨j0, hj, y0, y1, y2⟩ := info_parts infoIntC
  have H := ((Sep.start w).box 31 #[.int .i64 r.w, .slice A r.rows.length c]).box 31 #[.int .i64 0, .slice none 0 0]
  simp only [World.size_alloc] at H
  go_enter Try.func126, Try.ntmps126
  go_wp2_with fail
  generalize (w.alloc (.cells #[.int .i64 r.w, .slice A r.rows.length c] 31)).alloc (.cells #[.int .i64 0, .slice none 0 0] 31) = W at *
  have x0 := H.h1.cell 0
  have x1 := H.h1.cell 1
  simp at x0 x1
  have hrw := hr.keep (SameIn.of_below H.below (Nat.le_refl _))
  have hrl : Rd (W.alloc (.cells #[] 3)).drew 0 w.heap.size 1 A r.rows.length (ic r.rows) := hrw.keep (SameIn.alloc H.size _)
  go_region_held3 (fun w' => w'.cell? ⟨w.heap.size, 0, none⟩ = some (.int .i64 r.w) ∧ w'.cell? ⟨w.heap.size, 1, none⟩ = some (.slice A r.rows.length c))
    (first | ((try dsimp only); refine ⟨?_, ?_⟩ <;> assumption) | go_keep)
    ((refine step_app rfl _ _ 22 (by rfl) 3 j0 _ 1 8 Try.underlying22 hj y0 y1 y2 rfl (by decide) _ _ _ (by rfl) ((H.rowBox 3 #[] 1 0 rfl (by decide)).drew) A _ c (ic r.rows) (by rfl) hrl ic_one (by unfold maxLen; omega) (by omega) ?_; intro v1 w1 H1; simp only [Nat.zero_add] at H1; obtain ⟨A1, c1, rfl, _, _, _⟩ := Res.row_at H1.h0; have z0 := H1.h2.cell 0; have z1 := H1.h2.cell 1; have t0 := H1.h1.cell 0; have t1 := H1.h1.cell 1; have f0 := H1.h1.frozen 0; have f1 := H1.h1.frozen 1; simp at z0 z1 t0 t1))
  have H2 := ((H1.g1.set_ 0 (.int .i64 r.w)).set_ 1 (.slice A1 r.rows.length c1)).p1
  have u0 := H2.h1.cell 0
  have u1 := H2.h1.cell 1
  simp at u0 u1
  go_wp2
  exact bodyPost_ret (v := .agg #[.int .i64 r.w, .slice A1 r.rows.length c1]) (by simp [results, Try.results126, go_sem, u0, u1]) rfl ⟨_, rfl, ⟨_, rfl, H2.oi⟩, H2.below⟩
set_option maxRecDepth 100000 in
set_option maxHeartbeats 800000 in
theorem impl_copyRegion_c {v : Value} {r : Reg} (w : World) (h : RegRd w 0 w.heap.size v r) (hn : r.rows.length ≤ 1048576) :
    Calls Try.prog 125 #[v] w fun e w' => ∃ v', e = .returned v' ∧ RegIn w' w.heap.size w'.heap.size v' r ∧ Below w.heap.size w w' := by
  obtain ⟨s, rfl, hs⟩ := h
  obtain ⟨A, c, rfl, hm, hr⟩ := id hs
  obtain ⟨j0, hj, y0, y1, y2⟩ := info_parts infoIntC
  have H := ((Sep.start w).box 31 #[.int .i64 r.w, .slice A r.rows.length c]).box 31 #[.int .i64 0, .slice none 0 0]
  simp only [World.size_alloc] at H
  go_enter Try.func125, Try.ntmps125
  go_wp2_with fail
  generalize (w.alloc (.cells #[.int .i64 r.w, .slice A r.rows.length c] 31)).alloc (.cells #[.int .i64 0, .slice none 0 0] 31) = W at *
  have x0 := H.h1.cell 0
  have x1 := H.h1.cell 1
  simp at x0 x1
  have hsw := (hs.keep (SameIn.of_below H.below (Nat.le_refl _))).more (Nat.le_refl _) H.size
  go_region_held3 (fun w' => w'.cell? ⟨w.heap.size, 0, none⟩ = some (.int .i64 r.w) ∧ w'.cell? ⟨w.heap.size, 1, none⟩ = some (.slice A r.rows.length c))
    (first | ((try dsimp only); refine ⟨?_, ?_⟩ <;> assumption) | go_keep)
    ((first | (go_at_call 139; (with_reducible refine (impl_copyInts_c _ (by exact (hsw.keep SameIn.drew).more (Nat.le_refl _) (le_drew (Nat.le_refl _))) hn).mono ?_); rintro e w1 ⟨v1, rfl, o1, b1⟩; replace b1 := below_undrew b1; have H1 := H.step b1; obtain ⟨A1, c1, rfl, _, _⟩ := o1.rd; have z0 := H1.h1.cell 0; have z1 := H1.h1.cell 1; have t0 := H1.h0.cell 0; have t1 := H1.h0.cell 1; have f0 := H1.h0.frozen 0; have f1 := H1.h0.frozen 1; simp at z0 z1 t0 t1)))
  have H2 := (((H.oiNew b1 o1).g1.set_ 0 (.int .i64 r.w)).set_ 1 (.slice A1 r.rows.length c1)).p1
  have u0 := H2.h1.cell 0
  have u1 := H2.h1.cell 1
  simp at u0 u1
  go_wp2
  exact bodyPost_ret (v := .agg #[.int .i64 r.w, .slice A1 r.rows.length c1]) (by simp [results, Try.results125, go_sem, u0, u1]) rfl ⟨_, rfl, ⟨_, rfl, H2.oi⟩, H2.below⟩
end Go.Proofs.Ytjmeplchabehfaa
