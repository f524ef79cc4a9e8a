
/-
  Whether a number is in a list: both walks.
-/
import Derived.Test.YtfildenelgbmlaaGreatDoorRegData
import Derived.Test.YtfildenelgbmlaaGreatDoorSepX
import Derived.Test.YtfildenelgbmlaaGreatDoorCwWalks
import Derived.Deep.DeepCutAuto
namespace Go.Proofs.YtfildenelgbmlaaGreatDoor
open Go.RowKit

def hasI (l : List Int) (x : Int) : Bool := decide (x ∈ l)
set_option maxRecDepth 100000 in
set_option maxHeartbeats 800000 in
theorem spec_hasI_c {v : Value} {l : List Int} {x : Int} (w : World) (h : IntsRd w 0 w.heap.size v l) (hl : l.length ≤ 1048576) :
    Calls Tryz.prog 122 #[v, .int .i64 x] w fun e w' => e = .returned (.bool (hasI l x)) ∧ w = w' := by
  obtain ⟨A, c, rfl, hm, hr⟩ := h
  obtain ⟨n, hn⟩ : ∃ n, n = l.length := ⟨_, rfl⟩
  rw [← hn] at hl hr ⊢
  obtain ⟨R, hR⟩ : ∃ R, R = hasI l x := ⟨_, rfl⟩
  rw [← hR]
  have HN := Lib.hid hn
  have HR := Lib.hid hr
  have HRR := Lib.hid hR
  clear hn hr hR hm
  go_enter Tryz.func122, Tryz.ntmps122
  go_wp2
  go_loopw [5] (fun iv wx => ∃ i : Nat, i ≤ n ∧ iv = .int .i64 i ∧ Hid (∀ j < i, l[j]? ≠ some x) ∧ w = wx) (fun iv _ => n - (intOf iv).toNat)
  case atStart => exact ⟨0, Nat.zero_le _, rfl, Lib.hid (fun j hj => absurd hj (Nat.not_lt_zero _)), rfl⟩
  case round =>
    obtain ⟨i, hi, rfl, HK, rfl⟩ := hrel
    by_cases hlt : i < n
    · have hlti : (i : Int) < (n : Int) := by omega
      obtain ⟨y, hy⟩ : ∃ y, l[i]? = some y := ⟨l[i]'(by rw [← HN.out]; exact hlt), List.getElem?_eq_getElem _⟩
      obtain ⟨b, off, hA1, _, hb, hc⟩ := HR.out.2 (by omega)
      subst hA1
      have y1 := hc i (.int .i64 y) (by simp [ic, hy])
      have HY := Lib.hid hy
      clear hc hb hy
      by_cases he : y = x
      · have heq : (y == x) = true := by simpa using he
        obtain rfl : R = true := by rw [HRR.out, hasI]; exact decide_eq_true (by rw [← he]; exact List.mem_of_getElem? HY.out)
        clear he
        go_wp2
        go_ret
        exact ⟨rfl, rfl⟩
      · have heq : (y == x) = false := by simpa using he
        have HK2 : Hid (∀ j < i + 1, l[j]? ≠ some x) := Lib.hid fun j hj => by
          rcases Nat.lt_or_ge j i with h | h
          · exact HK.out j h
          · obtain rfl : j = i := by omega
            rw [HY.out]
            intro h
            injection h with h
            exact he h
        clear he
        go_wp2
        go_roundw
        case rel => exact ⟨i + 1, by omega, by go_num, HK2, trivial⟩
        case measure => simp [intOf]; omega
    · obtain rfl : i = n := by omega
      obtain rfl : R = false := by
        rw [HRR.out, hasI]
        refine decide_eq_false fun h => ?_
        obtain ⟨j, hj⟩ := List.getElem?_of_mem h
        exact HK.out j (by have := (List.getElem?_eq_some_iff.1 hj).1; rw [HN.out]; exact this) hj
      go_wp2
      go_ret
      exact ⟨rfl, rfl⟩
set_option maxRecDepth 100000 in
set_option maxHeartbeats 800000 in
theorem impl_hasI_c {v : Value} {l : List Int} {x : Int} (w : World) (h : IntsRd w 0 w.heap.size v l) (hl : l.length ≤ 1048576) :
    Calls Tryz.prog 115 #[v, .int .i64 x] w fun e w' => e = .returned (.bool (hasI l x)) ∧ w = w' := by
  obtain ⟨A, c, rfl, hm, hr⟩ := h
  obtain ⟨n, hn⟩ : ∃ n, n = l.length := ⟨_, rfl⟩
  rw [← hn] at hl hr ⊢
  obtain ⟨R, hR⟩ : ∃ R, R = hasI l x := ⟨_, rfl⟩
  rw [← hR]
  have HN := Lib.hid hn
  have HR := Lib.hid hr
  have HRR := Lib.hid hR
  clear hn hr hR hm
  go_enter Tryz.func115, Tryz.ntmps115
  go_wp2
  go_loopw [9] (fun iv wx => ∃ i : Nat, i ≤ n ∧ iv = .int .i64 i ∧ Hid (∀ j < i, l[j]? ≠ some x) ∧ w = wx) (fun iv _ => n - (intOf iv).toNat)
  case atStart => exact ⟨0, Nat.zero_le _, rfl, Lib.hid (fun j hj => absurd hj (Nat.not_lt_zero _)), rfl⟩
  case round =>
    obtain ⟨i, hi, rfl, HK, rfl⟩ := hrel
    by_cases hlt : i < n
    · have hlti : (i : Int) < (n : Int) := by omega
      obtain ⟨y, hy⟩ : ∃ y, l[i]? = some y := ⟨l[i]'(by rw [← HN.out]; exact hlt), List.getElem?_eq_getElem _⟩
      obtain ⟨b, off, hA1, _, hb, hc⟩ := HR.out.2 (by omega)
      subst hA1
      have y1 := hc i (.int .i64 y) (by simp [ic, hy])
      have HY := Lib.hid hy
      clear hc hb hy
      by_cases he : y = x
      · have heq : (y == x) = true := by simpa using he
        obtain rfl : R = true := by rw [HRR.out, hasI]; exact decide_eq_true (by rw [← he]; exact List.mem_of_getElem? HY.out)
        clear he
        go_wp2
        go_ret
        exact ⟨rfl, rfl⟩
      · have heq : (y == x) = false := by simpa using he
        have HK2 : Hid (∀ j < i + 1, l[j]? ≠ some x) := Lib.hid fun j hj => by
          rcases Nat.lt_or_ge j i with h | h
          · exact HK.out j h
          · obtain rfl : j = i := by omega
            rw [HY.out]
            intro h
            injection h with h
            exact he h
        clear he
        go_wp2
        go_roundw
        case rel => exact ⟨i + 1, by omega, by go_num, HK2, trivial⟩
        case measure => simp [intOf]; omega
    · obtain rfl : i = n := by omega
      obtain rfl : R = false := by
        rw [HRR.out, hasI]
        refine decide_eq_false fun h => ?_
        obtain ⟨j, hj⟩ := List.getElem?_of_mem h
        exact HK.out j (by have := (List.getElem?_eq_some_iff.1 hj).1; rw [HN.out]; exact this) hj
      go_wp2
      go_ret
      exact ⟨rfl, rfl⟩
end Go.Proofs.YtfildenelgbmlaaGreatDoor
