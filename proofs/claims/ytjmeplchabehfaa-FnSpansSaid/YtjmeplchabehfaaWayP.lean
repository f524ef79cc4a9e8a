
/-
  The law's ways across the board, and that they are the program's.
-/
import Derived.Test.YtjmeplchabehfaaWayL1
import Derived.Test.YtjmeplchabehfaaWayS
namespace Go.Proofs.Ytjmeplchabehfaa
open Go.RowKit

theorem roundsL_eq (c : Cell) : roundsL c = [⟨c.x - 1, c.y - 1⟩, ⟨c.x, c.y - 1⟩, ⟨c.x + 1, c.y - 1⟩, ⟨c.x - 1, c.y⟩, ⟨c.x + 1, c.y⟩, ⟨c.x - 1, c.y + 1⟩, ⟨c.x, c.y + 1⟩, ⟨c.x + 1, c.y + 1⟩] := by
  simp only [roundsL, roundsTo, rowR, List.range, List.range.loop, List.flatMap_cons, List.flatMap_nil, List.append_nil]
  simp
  omega
theorem nearB_mk (c : Cell) (a b : Int) : nearB c ⟨c.x + a, c.y + b⟩ = (a * a + b * b == 1) := by
  have h1 : c.x - (c.x + a) = -a := by omega
  have h2 : c.y - (c.y + b) = -b := by omega
  simp only [nearB, h1, h2, Int.neg_mul_neg]
theorem aroundC_false (c : Cell) : aroundC false c = sidesL c := by
  have h : ∀ a b : Int, nr false c ⟨c.x + a, c.y + b⟩ = (a * a + b * b == 1) := fun a b => by simp [nr, nearB_mk]
  have e : roundsL c = [⟨c.x + -1, c.y + -1⟩, ⟨c.x + 0, c.y + -1⟩, ⟨c.x + 1, c.y + -1⟩, ⟨c.x + -1, c.y + 0⟩, ⟨c.x + 1, c.y + 0⟩, ⟨c.x + -1, c.y + 1⟩, ⟨c.x + 0, c.y + 1⟩, ⟨c.x + 1, c.y + 1⟩] := by
    rw [roundsL_eq]; simp [Int.sub_eq_add_neg]
  unfold aroundC
  rw [e]
  simp only [List.filter_cons, h, List.filter_nil]
  simp [sidesL, Int.sub_eq_add_neg]
theorem aroundC_true (c : Cell) : aroundC true c = roundsL c := by
  unfold aroundC
  rw [List.filter_eq_self]
  intro a _
  simp [nr]
theorem opnC_true {r : Reg} : opnC r true = r.opn := by
  funext c
  unfold opnC Reg.opn inB
  by_cases h : 0 ≤ c.x ∧ c.x < r.w ∧ 0 ≤ c.y ∧ c.y < r.rows.length
  · simp only [h]; simp
  · simp only [h, decide_false, Reg.has_out h]; simp
theorem wayC_span {r : Reg} (hv : r.valid = true) : wayC r true false false = r.spanWay := by
  have e1 : aroundC false = sidesL := funext aroundC_false
  have e2 : doneC r false = r.far := by funext c; simp [doneC, Reg.far]
  have e3 : startC false (sideC r false) = colTo r.rows.length := by simp [startC, sideC, colTo]
  unfold wayC Reg.spanWay
  rw [e1, e2, opnC_true, e3, hv]
  rfl

set_option maxRecDepth 100000 in
set_option maxHeartbeats 1600000 in
theorem spec_spanway_c {v : Value} {r : Reg} (w : World) (h : RegRd w 0 w.heap.size v r) :
    Calls Try.prog 30 #[v] w fun en w' => ∃ v', en = .returned (.tuple #[v', .bool r.spanWay.isSome]) ∧ CellsIn w' w.heap.size w'.heap.size v' (r.spanWay.getD []) ∧ Below w.heap.size w w' := by
  obtain ⟨s, rfl, hs⟩ := h
  obtain ⟨R, hR⟩ : ∃ R, R = r.spanWay := ⟨_, rfl⟩
  rw [← hR]
  have H := (Sep.start w).box 31 #[.int .i64 r.w, s]
  have HR := Lib.hid hR
  clear hR
  go_enter Try.func30, Try.ntmps30
  go_wp2_with fail
  generalize w.alloc (.cells #[.int .i64 r.w, s] 31) = W at *
  refine (spec_IsRegion_c (r := r) W ⟨s, rfl, ((hs.keep (SameIn.of_below H.below (Nat.le_refl _))).more (Nat.le_refl _) H.size)⟩).mono ?_
  rintro e w1 ⟨rfl, hb1⟩
  have H1 := H.step hb1
  clear hb1 H
  cases hq : r.valid
  · have hn : R = none := by rw [HR.out, Reg.spanWay, hq]; rfl
    subst hn
    have H2 := H1.rowBox 62 #[] 2 0 rfl (by decide)
    clear hq H1
    go_wp2
    go_ret2
    exact ⟨_, rfl, CellsIn.mk H2.oi.1 rfl rfl, H2.below⟩
  · have hv : r.Valid := Reg.valid_iff.1 hq
    have hw := wayC_span hq
    rw [← HR.out] at hw
    have HW := Lib.hid hw
    have c0 := H1.h0.cell 0
    have c1 := H1.h0.cell 1
    simp at c0 c1
    clear hw hq
    go_wp2_with fail
    clear c0 c1
    refine (l30_span (r := r) w1 ⟨s, rfl, ((hs.keep (SameIn.of_below H1.below (Nat.le_refl _))).more (Nat.le_refl _) H1.size)⟩ hv).mono ?_
    rintro e w2 ⟨v2, rfl, ov, hb2⟩
    rw [HW.out] at ov ⊢
    have ov2 : CellsIn w2 w.heap.size w2.heap.size v2 (R.getD []) := ⟨own_more ov.1 H1.size, ov.2⟩
    have H2 := H1.step hb2
    clear hb2 ov H1
    go_wp2
    go_ret2
    exact ⟨_, rfl, ov2, H2.below⟩

set_option maxRecDepth 100000 in
theorem spec_isspanning_c {v : Value} {r : Reg} (w : World) (h : RegRd w 0 w.heap.size v r) :
    Calls Try.prog 33 #[v] w fun en w' => en = .returned (.bool r.spanWay.isSome) ∧ Below w.heap.size w w' := by
  obtain ⟨s, rfl, hs⟩ := h
  have hbel : Below w.heap.size w (w.alloc (.cells #[.int .i64 r.w, s] 31)) := (Below.refl _ _).alloc (Nat.le_refl _) _
  have BX : Blk (w.alloc (.cells #[.int .i64 r.w, s] 31)) w.heap.size 31 #[.int .i64 r.w, s] := Blk.new _ _ _
  have HZ : w.heap.size + 1 ≤ (w.alloc (.cells #[.int .i64 r.w, s] 31)).heap.size := by simp
  go_enter Try.func33, Try.ntmps33
  go_wp2_with fail
  generalize w.alloc (.cells #[.int .i64 r.w, s] 31) = W at *
  refine (spec_spanway_c (r := r) _ ⟨_, rfl, ((hs.keep (SameIn.of_below hbel (Nat.le_refl _))).more (Nat.le_refl _) (by omega))⟩).mono ?_
  rintro en w1 ⟨vv, rfl, ov, hb1⟩
  have hbel1 := hbel.trans (hb1.mono (by omega))
  clear hbel BX hb1 ov
  go_wp2
  go_ret
  exact ⟨rfl, hbel1⟩
end Go.Proofs.Ytjmeplchabehfaa
