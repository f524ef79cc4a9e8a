
/-
  The law's way of blanks, and that it is the program's.
-/
import Derived.Test.YtjmeplchabehfaaWayL2
import Derived.Test.YtjmeplchabehfaaWayK
namespace Go.Proofs.Ytjmeplchabehfaa
open Go.RowKit

theorem aroundC_all (c : Cell) : aroundC true c = roundsL c := by
  unfold aroundC
  rw [List.filter_eq_self]
  intro a _
  simp [nr]
theorem wayC_block {r : Reg} (hv : r.valid = true) : wayC r false true true = r.blockWay := by
  have e1 : aroundC true = roundsL := funext aroundC_all
  unfold wayC Reg.blockWay
  rw [e1, hv]
  rfl

set_option maxRecDepth 100000 in
set_option maxHeartbeats 1600000 in
theorem spec_blockway_c {v : Value} {r : Reg} (w : World) (h : RegRd w 0 w.heap.size v r) :
    Calls Try.prog 32 #[v] w fun en w' => ∃ v', en = .returned (.tuple #[v', .bool r.blockWay.isSome]) ∧ CellsIn w' w.heap.size w'.heap.size v' (r.blockWay.getD []) ∧ Below w.heap.size w w' := by
  obtain ⟨s, rfl, hs⟩ := h
  obtain ⟨R, hR⟩ : ∃ R, R = r.blockWay := ⟨_, rfl⟩
  rw [← hR]
  have H := (Sep.start w).box 31 #[.int .i64 r.w, s]
  have HR := Lib.hid hR
  clear hR
  go_enter Try.func32, Try.ntmps32
  go_wp2_with fail
  generalize w.alloc (.cells #[.int .i64 r.w, s] 31) = W at *
  refine (spec_IsRegion_c (r := r) W ⟨s, rfl, ((hs.keep (SameIn.of_below H.below (Nat.le_refl _))).more (Nat.le_refl _) H.size)⟩).mono ?_
  rintro e w1 ⟨rfl, hb1⟩
  have H1 := H.step hb1
  clear hb1 H
  cases hq : r.valid
  · have hn : R = none := by rw [HR.out, Reg.blockWay, hq]; rfl
    subst hn
    have H2 := H1.rowBox 62 #[] 2 0 rfl (by decide)
    clear hq H1
    go_wp2
    go_ret2
    exact ⟨_, rfl, CellsIn.mk H2.oi.1 rfl rfl, H2.below⟩
  · have hv : r.Valid := Reg.valid_iff.1 hq
    have hw := wayC_block hq
    rw [← HR.out] at hw
    have HW := Lib.hid hw
    have c0 := H1.h0.cell 0
    have c1 := H1.h0.cell 1
    simp at c0 c1
    clear hw hq
    go_wp2_with fail
    clear c0 c1
    refine (l30_block (r := r) w1 ⟨s, rfl, ((hs.keep (SameIn.of_below H1.below (Nat.le_refl _))).more (Nat.le_refl _) H1.size)⟩ hv).mono ?_
    rintro e w2 ⟨v2, rfl, ov, hb2⟩
    rw [HW.out] at ov ⊢
    have ov2 : CellsIn w2 w.heap.size w2.heap.size v2 (R.getD []) := ⟨own_more ov.1 H1.size, ov.2⟩
    have H2 := H1.step hb2
    clear hb2 ov H1
    go_wp2
    go_ret2
    exact ⟨_, rfl, ov2, H2.below⟩

set_option maxRecDepth 100000 in
theorem spec_isblocked_c {v : Value} {r : Reg} (w : World) (h : RegRd w 0 w.heap.size v r) :
    Calls Try.prog 34 #[v] w fun en w' => en = .returned (.bool r.blockWay.isSome) ∧ Below w.heap.size w w' := by
  obtain ⟨s, rfl, hs⟩ := h
  have hbel : Below w.heap.size w (w.alloc (.cells #[.int .i64 r.w, s] 31)) := (Below.refl _ _).alloc (Nat.le_refl _) _
  have BX : Blk (w.alloc (.cells #[.int .i64 r.w, s] 31)) w.heap.size 31 #[.int .i64 r.w, s] := Blk.new _ _ _
  have HZ : w.heap.size + 1 ≤ (w.alloc (.cells #[.int .i64 r.w, s] 31)).heap.size := by simp
  go_enter Try.func34, Try.ntmps34
  go_wp2_with fail
  generalize w.alloc (.cells #[.int .i64 r.w, s] 31) = W at *
  refine (spec_blockway_c (r := r) _ ⟨_, rfl, ((hs.keep (SameIn.of_below hbel (Nat.le_refl _))).more (Nat.le_refl _) (by omega))⟩).mono ?_
  rintro en w1 ⟨vv, rfl, ov, hb1⟩
  have hbel1 := hbel.trans (hb1.mono (by omega))
  clear hbel BX hb1 ov
  go_wp2
  go_ret
  exact ⟨rfl, hbel1⟩
end Go.Proofs.Ytjmeplchabehfaa
