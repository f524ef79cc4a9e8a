
/-
  The walks of 'EqualClaims': the program's and the reference's.
-/
import Derived.Test.YtjmeplchabehfaaEqV
import Derived.Lib.Strings
namespace Go.Proofs.Ytjmeplchabehfaa
open Go.RowKit

set_option maxRecDepth 100000 in
set_option maxHeartbeats 3200000 in
theorem spec_eqReg_c {v v' : Value} {a b : Reg} (w : World) (h : RegRd w 0 w.heap.size v a) (h' : RegRd w 0 w.heap.size v' b) :
    Calls Try.prog 48 #[v, v'] w fun e w' => e = .returned (.bool (same a b)) ∧ Below w.heap.size w w' := by
  obtain ⟨s, rfl, hs⟩ := h
  obtain ⟨s', rfl, hs'⟩ := h'
  obtain ⟨aw, ar⟩ := a
  obtain ⟨bw, br⟩ := b
  dsimp only at hs hs'
  obtain ⟨A, c, rfl, hm, hr⟩ := hs
  obtain ⟨A', c', rfl, hm', hr'⟩ := hs'
  unfold maxLen at hm hm'
  have H := ((Sep.start w).box 31 #[.int .i64 aw, .slice A ar.length c]).box 31 #[.int .i64 bw, .slice A' br.length c']
  simp only [World.size_alloc] at H
  obtain ⟨R, hR⟩ : ∃ R, R = same (⟨aw, ar⟩ : Reg) ⟨bw, br⟩ := ⟨_, rfl⟩
  rw [← hR]
  rw [same_reg] at hR
  dsimp only at hR
  have HR := Lib.hid hR
  clear hR
  have c0 : ((w.alloc (.cells #[.int .i64 aw, .slice A ar.length c] 31)).alloc (.cells #[.int .i64 bw, .slice A' br.length c'] 31)).cell? ⟨w.heap.size, 0, none⟩ = some (.int .i64 aw) := H.h1.cell 0
  have c1 : ((w.alloc (.cells #[.int .i64 aw, .slice A ar.length c] 31)).alloc (.cells #[.int .i64 bw, .slice A' br.length c'] 31)).cell? ⟨w.heap.size, 1, none⟩ = some (.slice A ar.length c) := H.h1.cell 1
  have d0 : ((w.alloc (.cells #[.int .i64 aw, .slice A ar.length c] 31)).alloc (.cells #[.int .i64 bw, .slice A' br.length c'] 31)).cell? ⟨w.heap.size + 1, 0, none⟩ = some (.int .i64 bw) := H.h0.cell 0
  have d1 : ((w.alloc (.cells #[.int .i64 aw, .slice A ar.length c] 31)).alloc (.cells #[.int .i64 bw, .slice A' br.length c'] 31)).cell? ⟨w.heap.size + 1, 1, none⟩ = some (.slice A' br.length c') := H.h0.cell 1
  by_cases hw : aw = bw
  rotate_left
  · have hRe : R = false := by rw [HR.out, decide_eq_false hw, Bool.false_and]
    subst hRe
    have e1 : (aw == bw) = false := by simpa using hw
    clear hw
    go_enter Try.func48, Try.ntmps48
    go_wp2
    go_ret
    exact ⟨rfl, H.below⟩
  subst hw
  by_cases hl : ar.length = br.length
  rotate_left
  · have hRe : R = false := by rw [HR.out, same_far hl, Bool.and_false]
    subst hRe
    have e1 : ((ar.length : Int) == (br.length : Int)) = false := by simp; omega
    clear hl
    go_enter Try.func48, Try.ntmps48
    go_wp2
    go_ret
    exact ⟨rfl, H.below⟩
  have HL := Lib.hid hl
  obtain ⟨n, hn⟩ : ∃ n, n = ar.length := ⟨_, rfl⟩
  rw [← hl, ← hn] at hr' d1 H c1 c0 d0
  rw [← hn] at hr hm
  rw [← hl, ← hn]
  have HN := Lib.hid hn
  clear hl hn
  go_enter Try.func48, Try.ntmps48
  go_wp2
  clear c0 c1 d0 d1
  generalize (w.alloc (.cells #[.int .i64 aw, .slice A n c] 31)).alloc (.cells #[.int .i64 aw, .slice A' n c'] 31) = W at *
  go_loopw [5] (fun i wr => ∃ k : Nat, k ≤ n ∧ i = .int .i64 k ∧ Hid (∀ (j : Nat) (x y : _), j < k → ar[j]? = some x → br[j]? = some y → x = y) ∧ Sep w wr [Res.box (w.heap.size + 1) 31 #[.int .i64 aw, .slice A' n c'], Res.box w.heap.size 31 #[.int .i64 aw, .slice A n c]]) (fun i _ => n - (intOf i).toNat)
  case atStart => exact ⟨0, Nat.zero_le _, rfl, Lib.hid (fun j _ _ h => absurd h (by omega)), H⟩
  case round =>
    clear H
    obtain ⟨k, hk, rfl, HK, H⟩ := hrel
    have c1 : wr.cell? ⟨w.heap.size, 1, none⟩ = some (.slice A n c) := H.h1.cell 1
    have d1 : wr.cell? ⟨w.heap.size + 1, 1, none⟩ = some (.slice A' n c') := H.h0.cell 1
    by_cases hlt : k < n
    · obtain ⟨bb, off, x, rfl, _, hb, hla, q1⟩ := Rd.at1 (f := fun n : Int => .int .i64 n) (hr.below H.below (Nat.le_refl _)) hlt
      obtain ⟨bb', off', y, rfl, _, hb', hla', q1'⟩ := Rd.at1 (f := fun n : Int => .int .i64 n) (hr'.below H.below (Nat.le_refl _)) hlt
      by_cases hxy : x = y
      · subst hxy
        have hk2 := alike_succ HK.out hla hla'
        have HK2 := Lib.hid hk2
        clear hr hr' hla hla' hk2
        go_wp2_with fail
        go_quiet (fail)
        have H2 := H.drewN nq
        clear H c1 d1 q1 q1'
        generalize wr.drewN nq = w2 at *
        go_wp2
        go_roundw
        case rel => exact ⟨k + 1, by omega, by go_num, HK2, H2⟩
        case measure => simp [intOf]; omega
      · have hRe : R = false := by rw [HR.out, same_at hla hla' hxy, Bool.and_false]
        subst hRe
        have e1 : (x == y) = false := by simpa using hxy
        clear hr hr' hla hla' hxy
        go_wp2_with fail
        go_quiet (fail)
        have H2 := H.drewN nq
        clear H c1 d1 q1 q1'
        generalize wr.drewN nq = w2 at *
        go_wp2
        go_ret
        exact ⟨rfl, H2.below⟩
    · obtain rfl : k = n := by omega
      have hRe : R = true := by rw [HR.out, same_all HL.out (by rw [← HN.out]; exact HK.out)]; simp
      subst hRe
      go_wp2
      go_ret
      exact ⟨rfl, H.below⟩

/-- a claim -/
structure Clm where
  kind : Int
  reg : Reg
  pieces : List (List Cell)
  masks : List Int
  text : ByteArray
  prime : Int
  weights : List Int
  mask : Int
  wang : List Wg
  width : Int
  height : Int
def clmV (ak aw ap am' ai ah : Int) (at' : ByteArray) (s1 s2 s3 s4 s5 : Value) : Value := .agg #[.int .i64 ak, .int .i64 aw, s1, s2, s3, .string at', .int .i64 ap, s4, .int .i64 am', s5, .int .i64 ai, .int .i64 ah]
def ClmRd (w : World) (lo hi : Nat) (v : Value) (a : Clm) : Prop := ∃ s1 s2 s3 s4 s5, v = clmV a.kind a.reg.w a.prime a.mask a.width a.height a.text s1 s2 s3 s4 s5 ∧
  IntsRd w lo hi s1 a.reg.rows ∧ CellSSRd w lo hi s2 a.pieces ∧ IntsRd w lo hi s3 a.masks ∧ IntsRd w lo hi s4 a.weights ∧ WangsRd w lo hi s5 a.wang
section
variable {w w' : World} {lo hi lo' hi' : Nat} {v : Value} {a : Clm}
theorem ClmRd.keep (h : ClmRd w lo hi v a) (hs : SameIn lo hi w w') : ClmRd w' lo hi v a := by
  obtain ⟨s1, s2, s3, s4, s5, rfl, h1, h2, h3, h4, h5⟩ := h
  exact ⟨s1, s2, s3, s4, s5, rfl, h1.keep hs, h2.keep hs, h3.keep hs, h4.keep hs, h5.keep hs⟩
theorem ClmRd.more (h : ClmRd w lo hi v a) (h1 : lo' ≤ lo) (h2 : hi ≤ hi') : ClmRd w lo' hi' v a := by
  obtain ⟨s1, s2, s3, s4, s5, rfl, g1, g2, g3, g4, g5⟩ := h
  exact ⟨s1, s2, s3, s4, s5, rfl, g1.more h1 h2, g2.more h1 h2, g3.more h1 h2, g4.more h1 h2, g5.more h1 h2⟩
end
end Go.Proofs.Ytjmeplchabehfaa
