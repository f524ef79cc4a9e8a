
/-
  IsPrime, both walks (the same as in FcX: import one of them only).
-/
import Derived.Test.YtldggeldabaodaaGreatCwWalks
import Derived.Deep.DeepCutAuto
namespace Go.Proofs.YtldggeldabaodaaGreat
open Go.RowKit

def prm (p : Int) : Bool := p == 2 || p == 3 || p == 5
set_option maxRecDepth 100000 in
set_option maxHeartbeats 400000 in
theorem spec_prime_c (p : Int) (w : World) : Calls Tryz.prog 62 #[.int .i64 p] w fun e w' => e = .returned (.bool (prm p)) ∧ w = w' := by
  by_cases h2 : p = 2
  · subst h2
    go_enter Tryz.func62, Tryz.ntmps62
    go_wp2
    go_ret
    exact ⟨rfl, rfl⟩
  · have e2 : (p == 2) = false := by simpa using h2
    by_cases h3 : p = 3
    · subst h3
      go_enter Tryz.func62, Tryz.ntmps62
      go_wp2
      go_ret
      exact ⟨rfl, rfl⟩
    · have e3 : (p == 3) = false := by simpa using h3
      have HP : Hid (prm p = (p == 5)) := Lib.hid (by unfold prm; rw [e2, e3]; rfl)
      obtain ⟨R, hR⟩ : ∃ R, R = prm p := ⟨_, rfl⟩
      rw [← hR] at HP ⊢
      clear hR
      go_enter Tryz.func62, Tryz.ntmps62
      go_wp2
      go_ret
      exact ⟨by rw [HP.out]; rfl, rfl⟩
set_option maxRecDepth 100000 in
set_option maxHeartbeats 400000 in
theorem impl_prime_c (p : Int) (w : World) : Calls Tryz.prog 69 #[.int .i64 p] w fun e w' => e = .returned (.bool (prm p)) ∧ w = w' := by
  by_cases h2 : p = 2
  · subst h2
    go_enter Tryz.func69, Tryz.ntmps69
    go_wp2
    go_ret
    exact ⟨rfl, rfl⟩
  · have e2 : (p == 2) = false := by simpa using h2
    by_cases h3 : p = 3
    · subst h3
      go_enter Tryz.func69, Tryz.ntmps69
      go_wp2
      go_ret
      exact ⟨rfl, rfl⟩
    · have e3 : (p == 3) = false := by simpa using h3
      have HP : Hid (prm p = (p == 5)) := Lib.hid (by unfold prm; rw [e2, e3]; rfl)
      obtain ⟨R, hR⟩ : ∃ R, R = prm p := ⟨_, rfl⟩
      rw [← hR] at HP ⊢
      clear hR
      go_enter Tryz.func69, Tryz.ntmps69
      go_wp2
      go_ret
      exact ⟨by rw [HP.out]; rfl, rfl⟩
end Go.Proofs.YtldggeldabaodaaGreat
