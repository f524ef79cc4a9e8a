
/-
  The walks behind 'ClaimWord': the program's and the reference's.
-/
import Derived.Test.YtjoglffhdoneoaaGreatDoorProg
import Derived.Test.YtjoglffhdoneoaaGreatDoorCommon
namespace Go.Proofs.YtjoglffhdoneoaaGreatDoor
open Go.RowKit

set_option maxRecDepth 100000 in
set_option maxHeartbeats 400000 in
theorem between_any (a b c : Int) (w : World) :
    Calls Tryz.prog 88 #[.int .i64 a, .int .i64 b, .int .i64 c] w fun e w' => e = .returned (.bool (decide (b ≤ a) && decide (a ≤ c))) ∧ w = w' := by
  by_cases h1 : b ≤ a <;> by_cases h2 : a ≤ c
  all_goals
    go_enter Tryz.func88, Tryz.ntmps88
    go_wp2
    go_ret
    simp_all
set_option maxRecDepth 100000 in
set_option maxHeartbeats 400000 in
theorem l1In_any (a b c : Int) (w : World) :
    Calls Tryz.prog 83 #[.int .i64 a, .int .i64 b, .int .i64 c] w fun e w' => e = .returned (.bool (decide (b ≤ a) && decide (a ≤ c))) ∧ w = w' := by
  by_cases h1 : b ≤ a <;> by_cases h2 : a ≤ c
  all_goals
    go_enter Tryz.func83, Tryz.ntmps83
    go_wp2
    go_ret
    simp_all

def wordOf (k : Int) : ByteArray :=
  if k = 1 then ⟨#[116, 105, 108, 105, 110, 103]⟩ else if k = 2 then ⟨#[110, 111, 110, 101]⟩ else if k = 3 then ⟨#[119, 101, 105, 103, 104, 116, 115]⟩ else
  if k = 4 then ⟨#[112, 97, 99, 107, 105, 110, 103]⟩ else if k = 5 then ⟨#[112, 101, 114, 105, 111, 100]⟩ else if k = 6 then ⟨#[117, 110, 105, 113, 117, 101]⟩ else ⟨#[]⟩

set_option maxRecDepth 100000 in
set_option maxHeartbeats 400000 in
theorem impl_word (k : Int) (w : World) :
    Calls Tryz.prog 54 #[.int .i64 k] w fun e w' => e = .returned (.string (wordOf k)) ∧ Below w.heap.size w w' := by
  by_cases h : 1 ≤ k ∧ k ≤ 6
  · have h0 : (decide (1 ≤ k) && decide (k ≤ 6)) = true := by simp [h]
    have hk : k = 1 ∨ k = 2 ∨ k = 3 ∨ k = 4 ∨ k = 5 ∨ k = 6 := by omega
    rcases hk with rfl | rfl | rfl | rfl | rfl | rfl
    all_goals
      clear h
      go_enter Tryz.func54, Tryz.ntmps54
      go_wp2_with (go_at_call 88; refine (between_any _ _ _ _).mono ?_; rintro e w' ⟨rfl, rfl⟩)
      go_ret
      exact ⟨rfl, (Below.refl _ _).alloc (Nat.le_refl _) _⟩
  · have h0 : (decide (1 ≤ k) && decide (k ≤ 6)) = false := by simp; omega
    have hw : wordOf k = ⟨#[]⟩ := by unfold wordOf; repeat (rw [if_neg (by omega)])
    go_enter Tryz.func54, Tryz.ntmps54
    go_wp2_with (go_at_call 88; refine (between_any _ _ _ _).mono ?_; rintro e w' ⟨rfl, rfl⟩)
    go_ret
    exact ⟨by rw [hw]; rfl, Below.refl _ _⟩
set_option maxRecDepth 100000 in
set_option maxHeartbeats 400000 in
theorem spec_word (k : Int) (w : World) :
    Calls Tryz.prog 44 #[.int .i64 k] w fun e w' => e = .returned (.string (wordOf k)) ∧ Below w.heap.size w w' := by
  by_cases h : 1 ≤ k ∧ k ≤ 6
  · have h0 : (decide (1 ≤ k) && decide (k ≤ 6)) = true := by simp [h]
    have hk : k = 1 ∨ k = 2 ∨ k = 3 ∨ k = 4 ∨ k = 5 ∨ k = 6 := by omega
    rcases hk with rfl | rfl | rfl | rfl | rfl | rfl
    all_goals
      clear h
      go_enter Tryz.func44, Tryz.ntmps44
      go_wp2_with (go_at_call 83; refine (l1In_any _ _ _ _).mono ?_; rintro e w' ⟨rfl, rfl⟩)
      go_ret
      exact ⟨rfl, (Below.refl _ _).alloc (Nat.le_refl _) _⟩
  · have h0 : (decide (1 ≤ k) && decide (k ≤ 6)) = false := by simp; omega
    have hw : wordOf k = ⟨#[]⟩ := by unfold wordOf; repeat (rw [if_neg (by omega)])
    go_enter Tryz.func44, Tryz.ntmps44
    go_wp2_with (go_at_call 83; refine (l1In_any _ _ _ _).mono ?_; rintro e w' ⟨rfl, rfl⟩)
    go_ret
    exact ⟨by rw [hw]; rfl, Below.refl _ _⟩

end Go.Proofs.YtjoglffhdoneoaaGreatDoor
