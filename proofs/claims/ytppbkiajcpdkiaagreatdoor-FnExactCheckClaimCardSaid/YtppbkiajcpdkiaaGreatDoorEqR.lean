
/-
  The walk of the reference's 'EqualRegions'.
-/
import Derived.Test.YtppbkiajcpdkiaaGreatDoorEqV
namespace Go.Proofs.YtppbkiajcpdkiaaGreatDoor
open Go.RowKit

set_option maxRecDepth 100000 in
set_option maxHeartbeats 3200000 in
theorem spec_eqReg_c {v v' : Value} {a b : Reg} (w : World) (h : RegRd w 0 w.heap.size v a) (h' : RegRd w 0 w.heap.size v' b) :
    Calls Tryz.prog 11 #[v, v'] w fun e w' => e = .returned (.bool (same a b)) ∧ Below w.heap.size w w' := by
  obtain ⟨s, rfl, hs⟩ := h
  obtain ⟨s', rfl, hs'⟩ := h'
  obtain ⟨aw, ar⟩ := a
  obtain ⟨bw, br⟩ := b
  dsimp only at hs hs'
  obtain ⟨A, c, rfl, hm, hr⟩ := hs
  obtain ⟨A', c', rfl, hm', hr'⟩ := hs'
  unfold maxLen at hm hm'
  have H := ((Sep.start w).box 29 #[.int .i64 aw, .slice A ar.length c]).box 29 #[.int .i64 bw, .slice A' br.length c']
  simp only [World.size_alloc] at H
  obtain ⟨R, hR⟩ : ∃ R, R = same (⟨aw, ar⟩ : Reg) ⟨bw, br⟩ := ⟨_, rfl⟩
  rw [← hR]
  rw [same_reg] at hR
  dsimp only at hR
  have HR := Lib.hid hR
  clear hR
  have c0 : ((w.alloc (.cells #[.int .i64 aw, .slice A ar.length c] 29)).alloc (.cells #[.int .i64 bw, .slice A' br.length c'] 29)).cell? ⟨w.heap.size, 0, none⟩ = some (.int .i64 aw) := H.h1.cell 0
  have c1 : ((w.alloc (.cells #[.int .i64 aw, .slice A ar.length c] 29)).alloc (.cells #[.int .i64 bw, .slice A' br.length c'] 29)).cell? ⟨w.heap.size, 1, none⟩ = some (.slice A ar.length c) := H.h1.cell 1
  have d0 : ((w.alloc (.cells #[.int .i64 aw, .slice A ar.length c] 29)).alloc (.cells #[.int .i64 bw, .slice A' br.length c'] 29)).cell? ⟨w.heap.size + 1, 0, none⟩ = some (.int .i64 bw) := H.h0.cell 0
  have d1 : ((w.alloc (.cells #[.int .i64 aw, .slice A ar.length c] 29)).alloc (.cells #[.int .i64 bw, .slice A' br.length c'] 29)).cell? ⟨w.heap.size + 1, 1, none⟩ = some (.slice A' br.length c') := H.h0.cell 1
  by_cases hw : aw = bw
  rotate_left
  · have hRe : R = false := by rw [HR.out, decide_eq_false hw, Bool.false_and]
    subst hRe
    have e1 : (aw == bw) = false := by simpa using hw
    clear hw
    go_enter Tryz.func11, Tryz.ntmps11
    go_wp2
    go_ret
    exact ⟨rfl, H.below⟩
  subst hw
  by_cases hl : ar.length = br.length
  rotate_left
  · have hRe : R = false := by rw [HR.out, same_far hl, Bool.and_false]
    subst hRe
    have e1 : ((ar.length : Int) == (br.length : Int)) = false := by simp; omega
    clear hl
    go_enter Tryz.func11, Tryz.ntmps11
    go_wp2
    go_ret
    exact ⟨rfl, H.below⟩
  have HL := Lib.hid hl
  obtain ⟨n, hn⟩ : ∃ n, n = ar.length := ⟨_, rfl⟩
  rw [← hl, ← hn] at hr' d1 H c1 c0 d0
  rw [← hn] at hr hm
  rw [← hl, ← hn]
  have HN := Lib.hid hn
  clear hl hn
  go_enter Tryz.func11, Tryz.ntmps11
  go_wp2
  clear c0 c1 d0 d1
  generalize (w.alloc (.cells #[.int .i64 aw, .slice A n c] 29)).alloc (.cells #[.int .i64 aw, .slice A' n c'] 29) = W at *
  go_loopw [5] (fun i wr => ∃ k : Nat, k ≤ n ∧ i = .int .i64 k ∧ Hid (∀ (j : Nat) (x y : _), j < k → ar[j]? = some x → br[j]? = some y → x = y) ∧ Sep w wr [Res.box (w.heap.size + 1) 29 #[.int .i64 aw, .slice A' n c'], Res.box w.heap.size 29 #[.int .i64 aw, .slice A n c]]) (fun i _ => n - (intOf i).toNat)
  case atStart => exact ⟨0, Nat.zero_le _, rfl, Lib.hid (fun j _ _ h => absurd h (by omega)), H⟩
  case round =>
    clear H
    obtain ⟨k, hk, rfl, HK, H⟩ := hrel
    have c1 : wr.cell? ⟨w.heap.size, 1, none⟩ = some (.slice A n c) := H.h1.cell 1
    have d1 : wr.cell? ⟨w.heap.size + 1, 1, none⟩ = some (.slice A' n c') := H.h0.cell 1
    by_cases hlt : k < n
    · obtain ⟨bb, off, x, rfl, _, hb, hla, q1⟩ := Rd.at1 (f := fun n : Int => .int .i64 n) (hr.below H.below (Nat.le_refl _)) hlt
      obtain ⟨bb', off', y, rfl, _, hb', hla', q1'⟩ := Rd.at1 (f := fun n : Int => .int .i64 n) (hr'.below H.below (Nat.le_refl _)) hlt
      by_cases hxy : x = y
      · subst hxy
        have hk2 := alike_succ HK.out hla hla'
        have HK2 := Lib.hid hk2
        clear hr hr' hla hla' hk2
        go_wp2_with fail
        go_quiet (fail)
        have H2 := H.drewN nq
        clear H c1 d1 q1 q1'
        generalize wr.drewN nq = w2 at *
        go_wp2
        go_roundw
        case rel => exact ⟨k + 1, by omega, by go_num, HK2, H2⟩
        case measure => simp [intOf]; omega
      · have hRe : R = false := by rw [HR.out, same_at hla hla' hxy, Bool.and_false]
        subst hRe
        have e1 : (x == y) = false := by simpa using hxy
        clear hr hr' hla hla' hxy
        go_wp2_with fail
        go_quiet (fail)
        have H2 := H.drewN nq
        clear H c1 d1 q1 q1'
        generalize wr.drewN nq = w2 at *
        go_wp2
        go_ret
        exact ⟨rfl, H2.below⟩
    · obtain rfl : k = n := by omega
      have hRe : R = true := by rw [HR.out, same_all HL.out (by rw [← HN.out]; exact HK.out)]; simp
      subst hRe
      go_wp2
      go_ret
      exact ⟨rfl, H.below⟩

end Go.Proofs.YtppbkiajcpdkiaaGreatDoor
