
/-
  The library's binary search, over the closure of putShape.
-/
import Derived.Test.YtjkppigjajknaaaGreatDoorCmpS
namespace Go.Proofs.YtjkppigjajknaaaGreatDoor
open Go.RowKit

set_option maxRecDepth 100000 in
set_option maxHeartbeats 1600000 in
theorem search_c (pa pb : Value) (n : Nat) (p : Nat → Bool) (w : World) (hn : n ≤ 1000000)
    (hf : ∀ (i : Nat) (w' : World), i < n → Below w.heap.size w w' → Calls Tryz.prog 219 #[.int .i64 i, pa, pb] w' fun e w'' => e = .returned (.bool (p i)) ∧ Below w'.heap.size w' w'')
    (hmono : ∀ i j, i ≤ j → j < n → p i = true → p j = true) :
    Calls Tryz.prog 218 #[.int .i64 n, .func (.func 219) #[] #[pa, pb]] w fun e w' => ∃ k : Nat, k ≤ n ∧ e = .returned (.int .i64 k) ∧ Below w.heap.size w w' ∧ (∀ i, i < k → p i = false) ∧ (∀ i, k ≤ i → i < n → p i = true) := by
  have HF := Lib.hid hf
  have HM := Lib.hid hmono
  clear hf hmono
  go_enter Tryz.func218, Tryz.ntmps218
  go_wp2
  go_loopw [5, 6] (fun iv jv wx => ∃ i j : Nat, i ≤ j ∧ j ≤ n ∧ iv = .int .i64 i ∧ jv = .int .i64 j ∧ Hid (∀ a, a < i → p a = false) ∧ Hid (∀ a, j ≤ a → a < n → p a = true) ∧ Below w.heap.size w wx) (fun iv jv _ => (intOf jv).toNat - (intOf iv).toNat)
  case atStart => exact ⟨0, n, Nat.zero_le _, Nat.le_refl _, rfl, rfl, Lib.hid (fun a ha => absurd ha (by omega)), Lib.hid (fun a h1 h2 => absurd h1 (by omega)), Below.refl _ _⟩
  case round =>
    obtain ⟨i, j, hij, hjn, rfl, rfl, HI, HJ, hbel⟩ := hrel
    by_cases hlt : i < j
    · obtain ⟨h, hh⟩ : ∃ h, h = (i + j) / 2 := ⟨_, rfl⟩
      have HC := Lib.hid (HF.out h wr (by omega) hbel)
      have e1 : ((i : Int) + (j : Int)) / 2 = (h : Int) := by omega
      have h1 : i ≤ h := by omega
      have h2 : h < j := by omega
      have e2 : ((i : Int) + (j : Int)) / 2 ^ 1 = (h : Int) := by omega
      clear hh
      go_wp2_with fail
      refine (HC.out).mono ?_
      rintro e w2 ⟨rfl, b2⟩
      have hb2 := hbel.trans (b2.mono hbel.size)
      clear hbel b2 HC e1 e2
      obtain ⟨f, hf⟩ : ∃ f, f = p h := ⟨_, rfl⟩
      rw [← hf]
      have HFP := Lib.hid hf
      clear hf
      cases f
      · have HI2 : Hid (∀ a, a < h + 1 → p a = false) := Lib.hid fun a ha => by
          cases hp : p a
          · rfl
          · have := HM.out a h (by omega) (by omega) hp
            rw [← HFP.out] at this; cases this
        go_wp2
        go_roundw
        case rel => exact ⟨h + 1, j, by omega, hjn, by go_num, rfl, HI2, HJ, hb2⟩
        case measure => simp [intOf]; omega
      · have HJ2 : Hid (∀ a, h ≤ a → a < n → p a = true) := Lib.hid fun a h1 h2 => HM.out h a h1 h2 HFP.out.symm
        go_wp2
        go_roundw
        case rel => exact ⟨i, h, h1, by omega, rfl, rfl, HI, HJ2, hb2⟩
        case measure => simp [intOf]; omega
    · obtain rfl : i = j := by omega
      go_wp2
      go_ret
      exact ⟨i, hjn, rfl, hbel, HI.out, HJ.out⟩
end Go.Proofs.YtjkppigjajknaaaGreatDoor
