
/-
  The walks of what compares lists: numbers, cells, tiles, shapes. Each answers whether they are the same.
-/
import Derived.Test.YtghpkfihdcjlaaaGreatDoorMapCell
import Derived.Test.YtghpkfihdcjlaaaGreatDoorSepX
namespace Go.Proofs.YtghpkfihdcjlaaaGreatDoor
open Go.RowKit

noncomputable def same {α : Type} (a b : α) : Bool := @decide (a = b) (Classical.propDecidable _)
theorem same_t {α : Type} {a b : α} (h : a = b) : same a b = true := @decide_eq_true _ (Classical.propDecidable _) h
theorem same_f {α : Type} {a b : α} (h : ¬ a = b) : same a b = false := @decide_eq_false _ (Classical.propDecidable _) h
theorem same_far {α : Type} {a b : List α} (h : ¬ a.length = b.length) : same a b = false := same_f fun e => h (by rw [e])
theorem same_at {α : Type} {a b : List α} {k : Nat} {x y : α} (hx : a[k]? = some x) (hy : b[k]? = some y) (h : ¬ x = y) : same a b = false := same_f fun e => h (by subst e; rw [hx] at hy; injection hy)
theorem same_all {α : Type} {a b : List α} (hl : a.length = b.length) (h : ∀ (j : Nat) (x y : α), j < a.length → a[j]? = some x → b[j]? = some y → x = y) : same a b = true := by
  refine same_t (List.ext_getElem hl fun j h1 h2 => ?_)
  exact h j _ _ h1 (List.getElem?_eq_getElem h1) (List.getElem?_eq_getElem h2)
/-- one element more is alike -/
theorem alike_succ {α : Type} {a b : List α} {k : Nat} {x : α} (h : ∀ (j : Nat) (x y : α), j < k → a[j]? = some x → b[j]? = some y → x = y) (hx : a[k]? = some x) (hy : b[k]? = some x) : ∀ (j : Nat) (x y : α), j < k + 1 → a[j]? = some x → b[j]? = some y → x = y := by
  intro j u v hj h1 h2
  by_cases e : j = k
  · subst e; rw [hx] at h1; rw [hy] at h2; injection h1 with h1; injection h2 with h2; rw [← h1, ← h2]
  · exact h j u v (by omega) h1 h2

set_option maxRecDepth 100000 in
set_option maxHeartbeats 1600000 in
theorem spec_eqShapes_c {v v' : Value} {a b : List Cell} (w : World) (h : CellsRd w 0 w.heap.size v a) (h' : CellsRd w 0 w.heap.size v' b) :
    Calls Tryz.prog 11 #[v, v'] w fun e w' => e = .returned (.bool (same a b)) ∧ Below w.heap.size w w' := by
  obtain ⟨A, c, rfl, hm, hr⟩ := h
  obtain ⟨A', c', rfl, hm', hr'⟩ := h'
  obtain ⟨R, hR⟩ : ∃ R, R = same a b := ⟨_, rfl⟩
  rw [← hR]
  unfold maxLen at hm hm'
  by_cases hl : a.length = b.length
  rotate_left
  · have hRe : R = false := by rw [hR]; exact same_far hl
    subst hRe
    have e1 : ((a.length : Int) == (b.length : Int)) = false := by simp; omega
    clear hR hr hr'
    go_enter Tryz.func11, Tryz.ntmps11
    go_wp2
    go_ret
    exact ⟨rfl, Below.refl _ _⟩
  have HR := Lib.hid hR
  have HL := Lib.hid hl
  rw [← hl] at hr' ⊢
  clear hl hR
  go_enter Tryz.func11, Tryz.ntmps11
  go_wp2
  go_loopw [5] (fun i wr => ∃ k : Nat, k ≤ a.length ∧ i = .int .i64 k ∧ Hid (∀ (j : Nat) (x y : _), j < k → a[j]? = some x → b[j]? = some y → x = y) ∧ Below w.heap.size w wr) (fun i _ => a.length - (intOf i).toNat)
  case atStart => exact ⟨0, Nat.zero_le _, rfl, Lib.hid (fun j _ _ h => absurd h (by omega)), Below.refl _ _⟩
  case round =>
    obtain ⟨k, hk, rfl, HK, hbel⟩ := hrel
    by_cases hlt : k < a.length
    · obtain ⟨bb, off, x, rfl, _, hb, hla, q1, q2⟩ := (hr.below hbel (Nat.le_refl _)).at2 hlt
      obtain ⟨bb', off', y, rfl, _, hb', hla', q1', q2'⟩ := (hr'.below hbel (Nat.le_refl _)).at2 hlt
      by_cases hxy : x = y
      · subst hxy
        have heq : ∀ n, (Op.equal 46 (.agg #[.int .i64 x.x, .int .i64 x.y]) (.agg #[.int .i64 x.x, .int .i64 x.y])).run Tryz.prog (wr.drewN n) = .ok true (wr.drewN n) := fun n => by have := run_equal_cell (wr.drewN n) x x; rw [decide_eq_true rfl] at this; exact this
        have hk2 := alike_succ HK.out hla hla'
        have HK2 := Lib.hid hk2
        clear hr hr' hla hla' hk2
        go_wp2_with fail
        go_quiet (fail)
        clear heq q1 q2 q1' q2'
        have hbel2 := below_drewN hbel nq
        generalize wr.drewN nq = w2 at *
        go_wp2
        go_roundw
        case rel => exact ⟨k + 1, by omega, by go_num, HK2, hbel2⟩
        case measure => simp [intOf]; omega
      · have hRe : R = false := by rw [HR.out]; exact same_at hla hla' hxy
        subst hRe
        have hne : ∀ n, (Op.equal 46 (.agg #[.int .i64 x.x, .int .i64 x.y]) (.agg #[.int .i64 y.x, .int .i64 y.y])).run Tryz.prog (wr.drewN n) = .ok false (wr.drewN n) := fun n => by have := run_equal_cell (wr.drewN n) x y; rw [decide_eq_false hxy] at this; exact this
        have HXY := Lib.hid hxy
        clear hr hr' hla hla' hxy
        go_wp2_with fail
        refine wp_region_quiet_lit (by kernel_rfl) (by kernel_rfl) ?_
        repeat (go_big_quiet_step (fail))
        go_big_quiet_want
        go_big_quiet_op
        refine ⟨.bool true, fun aa => ?_, ?_⟩
        · by_cases hx : x.x = y.x
          · have hy : ¬ x.y = y.y := fun hy => HXY.out (by cases x; cases y; simp at hx hy; subst hx; subst hy; rfl)
            simp [hx, hy]
          · simp [hx]
        go_big_quiet_on
        refine wpQuiet_nil ?_
        intro _ hwq'
        obtain ⟨nq, hwq''⟩ := hwq'
        subst hwq''
        clear hne q1 q2 q1' q2'
        have hbel2 := below_drewN hbel nq
        generalize wr.drewN nq = w2 at *
        go_wp2
        go_ret
        exact ⟨rfl, hbel2⟩
    · obtain rfl : k = a.length := by omega
      have hRe : R = true := by rw [HR.out]; exact same_all HL.out HK.out
      subst hRe
      go_wp2
      go_ret
      exact ⟨rfl, hbel⟩
end Go.Proofs.YtghpkfihdcjlaaaGreatDoor
