
/-
  The tables of the program and of the reference, at every size.
-/
import Derived.Test.YtjmeplchabehfaaSpanTabI1
import Derived.Test.YtjmeplchabehfaaSpanTabI2
import Derived.Test.YtjmeplchabehfaaSpanTabI3
import Derived.Test.YtjmeplchabehfaaSpanTabI4
import Derived.Test.YtjmeplchabehfaaSpanTabS1
import Derived.Test.YtjmeplchabehfaaSpanTabS2
import Derived.Test.YtjmeplchabehfaaSpanTabS3
import Derived.Test.YtjmeplchabehfaaSpanTabS4
namespace Go.Proofs.Ytjmeplchabehfaa
open Go.RowKit

def tabOf (x y : Int) : List Int := if 1 ≤ x ∧ x ≤ 4 ∧ 1 ≤ y ∧ y ≤ 4 ∧ x * y ≤ 12 then spanTab x.toNat y.toNat else []
theorem tab_lit {a b : Nat} {x y : Int} (h : 1 ≤ a ∧ a ≤ 4 ∧ 1 ≤ b ∧ b ≤ 4 ∧ a * b ≤ 12) (hx : x = (a : Int)) (hy : y = (b : Int)) : tabOf x y = spanTab a b := by
  subst hx
  subst hy
  obtain ⟨h1, h2, h3, h4, h5⟩ := h
  unfold tabOf
  rw [if_pos ⟨by omega, by omega, by omega, by omega, by exact_mod_cast h5⟩, Int.toNat_natCast, Int.toNat_natCast]
theorem tabOf_len {x y : Int} : (tabOf x y).length ≤ 1048576 := by
  unfold tabOf
  split
  · rename_i h
    obtain ⟨h1, h2, h3, h4, h5⟩ := h
    have hx : x = 1 ∨ x = 2 ∨ x = 3 ∨ x = 4 := by omega
    have hy : y = 1 ∨ y = 2 ∨ y = 3 ∨ y = 4 := by omega
    unfold spanTab
    rw [tabTo_length]
    rcases hx with rfl | rfl | rfl | rfl <;> rcases hy with rfl | rfl | rfl | rfl <;> decide
  · simp
set_option maxRecDepth 100000 in
set_option maxHeartbeats 800000 in
theorem impl_tab_no {x y : Int} (w : World) (h : ¬ (1 ≤ x ∧ x ≤ 4)) : Calls Try.prog 42 #[.int .i64 x, .int .i64 y] w fun e w' => ∃ v, e = .returned v ∧ IntsIn w' w.heap.size w'.heap.size v [] ∧ Below w.heap.size w w' := by
  have hr1 := inR_f (a := x) (b := 1) (c := 4) h
  skip
  clear h
  go_enter Try.func42, Try.ntmps42
  go_wp2_with (go_at_call 94; refine (between_r _ _ _ _).mono ?_; rintro e w' ⟨rfl, rfl⟩)
  go_ret
  exact ⟨_, rfl, IntsIn.nil, Below.refl _ _⟩
set_option maxRecDepth 100000 in
set_option maxHeartbeats 800000 in
theorem impl_tab_no2 {x y : Int} (w : World) (h1 : 1 ≤ x ∧ x ≤ 4) (h : ¬ (1 ≤ y ∧ y ≤ 4)) : Calls Try.prog 42 #[.int .i64 x, .int .i64 y] w fun e w' => ∃ v, e = .returned v ∧ IntsIn w' w.heap.size w'.heap.size v [] ∧ Below w.heap.size w w' := by
  have hr1 := inR_t (a := x) (b := 1) (c := 4) h1.1 h1.2
  have hr2 := inR_f (a := y) (b := 1) (c := 4) h
  skip
  clear h h1
  go_enter Try.func42, Try.ntmps42
  go_wp2_with (go_at_call 94; refine (between_r _ _ _ _).mono ?_; rintro e w' ⟨rfl, rfl⟩)
  go_ret
  exact ⟨_, rfl, IntsIn.nil, Below.refl _ _⟩
set_option maxRecDepth 100000 in
set_option maxHeartbeats 800000 in
theorem impl_tab_no3 (w : World) : Calls Try.prog 42 #[.int .i64 4, .int .i64 4] w fun e w' => ∃ v, e = .returned v ∧ IntsIn w' w.heap.size w'.heap.size v [] ∧ Below w.heap.size w w' := by
  have hr1 : inR 4 1 4 = true := by decide
  skip
  go_enter Try.func42, Try.ntmps42
  go_wp2_with (go_at_call 94; refine (between_r _ _ _ _).mono ?_; rintro e w' ⟨rfl, rfl⟩)
  go_ret
  exact ⟨_, rfl, IntsIn.nil, Below.refl _ _⟩
set_option maxRecDepth 100000 in
theorem impl_tab_c (w : World) (x y : Int) : Calls Try.prog 42 #[.int .i64 x, .int .i64 y] w fun e w' => ∃ v, e = .returned v ∧ IntsIn w' w.heap.size w'.heap.size v (tabOf x y) ∧ Below w.heap.size w w' := by
  by_cases hx : 1 ≤ x ∧ x ≤ 4
  · by_cases hy : 1 ≤ y ∧ y ≤ 4
    · have hx' : x = 1 ∨ x = 2 ∨ x = 3 ∨ x = 4 := by omega
      have hy' : y = 1 ∨ y = 2 ∨ y = 3 ∨ y = 4 := by omega
      clear hx hy
      rcases hx' with rfl | rfl | rfl | rfl <;> rcases hy' with rfl | rfl | rfl | rfl
      · rw [tab_lit (a := 1) (b := 1) (x := 1) (y := 1) (by decide) rfl rfl]; exact impl_tab_1_1 w
      · rw [tab_lit (a := 1) (b := 2) (x := 1) (y := 2) (by decide) rfl rfl]; exact impl_tab_1_2 w
      · rw [tab_lit (a := 1) (b := 3) (x := 1) (y := 3) (by decide) rfl rfl]; exact impl_tab_1_3 w
      · rw [tab_lit (a := 1) (b := 4) (x := 1) (y := 4) (by decide) rfl rfl]; exact impl_tab_1_4 w
      · rw [tab_lit (a := 2) (b := 1) (x := 2) (y := 1) (by decide) rfl rfl]; exact impl_tab_2_1 w
      · rw [tab_lit (a := 2) (b := 2) (x := 2) (y := 2) (by decide) rfl rfl]; exact impl_tab_2_2 w
      · rw [tab_lit (a := 2) (b := 3) (x := 2) (y := 3) (by decide) rfl rfl]; exact impl_tab_2_3 w
      · rw [tab_lit (a := 2) (b := 4) (x := 2) (y := 4) (by decide) rfl rfl]; exact impl_tab_2_4 w
      · rw [tab_lit (a := 3) (b := 1) (x := 3) (y := 1) (by decide) rfl rfl]; exact impl_tab_3_1 w
      · rw [tab_lit (a := 3) (b := 2) (x := 3) (y := 2) (by decide) rfl rfl]; exact impl_tab_3_2 w
      · rw [tab_lit (a := 3) (b := 3) (x := 3) (y := 3) (by decide) rfl rfl]; exact impl_tab_3_3 w
      · rw [tab_lit (a := 3) (b := 4) (x := 3) (y := 4) (by decide) rfl rfl]; exact impl_tab_3_4 w
      · rw [tab_lit (a := 4) (b := 1) (x := 4) (y := 1) (by decide) rfl rfl]; exact impl_tab_4_1 w
      · rw [tab_lit (a := 4) (b := 2) (x := 4) (y := 2) (by decide) rfl rfl]; exact impl_tab_4_2 w
      · rw [tab_lit (a := 4) (b := 3) (x := 4) (y := 3) (by decide) rfl rfl]; exact impl_tab_4_3 w
      · have e : tabOf 4 4 = [] := by unfold tabOf; rw [if_neg (by decide)]
        rw [e]; exact impl_tab_no3 w
    · have e : tabOf x y = [] := by unfold tabOf; rw [if_neg (by omega)]
      rw [e]
      exact impl_tab_no2 w hx hy
  · have e : tabOf x y = [] := by unfold tabOf; rw [if_neg (by omega)]
    rw [e]
    exact impl_tab_no w hx
set_option maxRecDepth 100000 in
set_option maxHeartbeats 800000 in
theorem spec_tab_no {x y : Int} (w : World) (h : ¬ (1 ≤ x ∧ x ≤ 4)) : Calls Try.prog 44 #[.int .i64 x, .int .i64 y] w fun e w' => ∃ v, e = .returned v ∧ IntsIn w' w.heap.size w'.heap.size v [] ∧ Below w.heap.size w w' := by
  have hr1 := inR_f (a := x) (b := 1) (c := 4) h
  have H := (Sep.start w).rowBox 3 #[] 1 0 rfl (by decide)
  clear h
  go_enter Try.func44, Try.ntmps44
  go_wp2_with (go_at_call 97; refine (l1In_r _ _ _ _).mono ?_; rintro e w' ⟨rfl, rfl⟩)
  go_ret
  exact ⟨_, rfl, IntsIn.mk H.oi.1 rfl rfl, H.below⟩
set_option maxRecDepth 100000 in
set_option maxHeartbeats 800000 in
theorem spec_tab_no2 {x y : Int} (w : World) (h1 : 1 ≤ x ∧ x ≤ 4) (h : ¬ (1 ≤ y ∧ y ≤ 4)) : Calls Try.prog 44 #[.int .i64 x, .int .i64 y] w fun e w' => ∃ v, e = .returned v ∧ IntsIn w' w.heap.size w'.heap.size v [] ∧ Below w.heap.size w w' := by
  have hr1 := inR_t (a := x) (b := 1) (c := 4) h1.1 h1.2
  have hr2 := inR_f (a := y) (b := 1) (c := 4) h
  have H := (Sep.start w).rowBox 3 #[] 1 0 rfl (by decide)
  clear h h1
  go_enter Try.func44, Try.ntmps44
  go_wp2_with (go_at_call 97; refine (l1In_r _ _ _ _).mono ?_; rintro e w' ⟨rfl, rfl⟩)
  go_ret
  exact ⟨_, rfl, IntsIn.mk H.oi.1 rfl rfl, H.below⟩
set_option maxRecDepth 100000 in
set_option maxHeartbeats 800000 in
theorem spec_tab_no3 (w : World) : Calls Try.prog 44 #[.int .i64 4, .int .i64 4] w fun e w' => ∃ v, e = .returned v ∧ IntsIn w' w.heap.size w'.heap.size v [] ∧ Below w.heap.size w w' := by
  have hr1 : inR 4 1 4 = true := by decide
  have H := (Sep.start w).rowBox 3 #[] 1 0 rfl (by decide)
  go_enter Try.func44, Try.ntmps44
  go_wp2_with (go_at_call 97; refine (l1In_r _ _ _ _).mono ?_; rintro e w' ⟨rfl, rfl⟩)
  go_ret
  exact ⟨_, rfl, IntsIn.mk H.oi.1 rfl rfl, H.below⟩
set_option maxRecDepth 100000 in
theorem spec_tab_c (w : World) (x y : Int) : Calls Try.prog 44 #[.int .i64 x, .int .i64 y] w fun e w' => ∃ v, e = .returned v ∧ IntsIn w' w.heap.size w'.heap.size v (tabOf x y) ∧ Below w.heap.size w w' := by
  by_cases hx : 1 ≤ x ∧ x ≤ 4
  · by_cases hy : 1 ≤ y ∧ y ≤ 4
    · have hx' : x = 1 ∨ x = 2 ∨ x = 3 ∨ x = 4 := by omega
      have hy' : y = 1 ∨ y = 2 ∨ y = 3 ∨ y = 4 := by omega
      clear hx hy
      rcases hx' with rfl | rfl | rfl | rfl <;> rcases hy' with rfl | rfl | rfl | rfl
      · rw [tab_lit (a := 1) (b := 1) (x := 1) (y := 1) (by decide) rfl rfl]; exact spec_tab_1_1 w
      · rw [tab_lit (a := 1) (b := 2) (x := 1) (y := 2) (by decide) rfl rfl]; exact spec_tab_1_2 w
      · rw [tab_lit (a := 1) (b := 3) (x := 1) (y := 3) (by decide) rfl rfl]; exact spec_tab_1_3 w
      · rw [tab_lit (a := 1) (b := 4) (x := 1) (y := 4) (by decide) rfl rfl]; exact spec_tab_1_4 w
      · rw [tab_lit (a := 2) (b := 1) (x := 2) (y := 1) (by decide) rfl rfl]; exact spec_tab_2_1 w
      · rw [tab_lit (a := 2) (b := 2) (x := 2) (y := 2) (by decide) rfl rfl]; exact spec_tab_2_2 w
      · rw [tab_lit (a := 2) (b := 3) (x := 2) (y := 3) (by decide) rfl rfl]; exact spec_tab_2_3 w
      · rw [tab_lit (a := 2) (b := 4) (x := 2) (y := 4) (by decide) rfl rfl]; exact spec_tab_2_4 w
      · rw [tab_lit (a := 3) (b := 1) (x := 3) (y := 1) (by decide) rfl rfl]; exact spec_tab_3_1 w
      · rw [tab_lit (a := 3) (b := 2) (x := 3) (y := 2) (by decide) rfl rfl]; exact spec_tab_3_2 w
      · rw [tab_lit (a := 3) (b := 3) (x := 3) (y := 3) (by decide) rfl rfl]; exact spec_tab_3_3 w
      · rw [tab_lit (a := 3) (b := 4) (x := 3) (y := 4) (by decide) rfl rfl]; exact spec_tab_3_4 w
      · rw [tab_lit (a := 4) (b := 1) (x := 4) (y := 1) (by decide) rfl rfl]; exact spec_tab_4_1 w
      · rw [tab_lit (a := 4) (b := 2) (x := 4) (y := 2) (by decide) rfl rfl]; exact spec_tab_4_2 w
      · rw [tab_lit (a := 4) (b := 3) (x := 4) (y := 3) (by decide) rfl rfl]; exact spec_tab_4_3 w
      · have e : tabOf 4 4 = [] := by unfold tabOf; rw [if_neg (by decide)]
        rw [e]; exact spec_tab_no3 w
    · have e : tabOf x y = [] := by unfold tabOf; rw [if_neg (by omega)]
      rw [e]
      exact spec_tab_no2 w hx hy
  · have e : tabOf x y = [] := by unfold tabOf; rw [if_neg (by omega)]
    rw [e]
    exact spec_tab_no w hx
end Go.Proofs.Ytjmeplchabehfaa
