
/-
  Wang tiles: the walk of the program's test of fitting.
-/
import Derived.Test.YtlfeognjnlppkaaDoorWangB
namespace Go.Proofs.YtlfeognjnlppkaaDoor
open Go.RowKit

set_option maxRecDepth 100000 in
set_option maxHeartbeats 3200000 in
theorem impl_fits_c {v vf : Value} {l : List Wg} {f : List Nat} (wd t : Nat) (w : World) (h : WangsRd w 0 w.heap.size v l) (hf : IntsRd w 0 w.heap.size vf (fc (f ++ [t]))) (hin : inT l f) (ht : t < l.length) (hl : l.length ≤ 6) (hw1 : 1 ≤ wd) (hw4 : wd ≤ 4) (hn16 : f.length ≤ 16) :
    Calls Tryd.prog 79 #[v, .int .i64 wd, vf] w fun e w' => e = .returned (.bool (fitsW l wd f t)) ∧ Below w.heap.size w w' := by
  obtain ⟨A, c, rfl, hmm, hr⟩ := h
  obtain ⟨A', c', rfl, hm', hr'⟩ := hf
  rw [fc_length] at hm' hr' ⊢
  obtain ⟨R, hR⟩ : ∃ R, R = fitsW l wd f t := ⟨_, rfl⟩
  rw [← hR]
  have HR := Lib.hid hR
  obtain ⟨n, hn⟩ : ∃ n, n = f.length := ⟨_, rfl⟩
  obtain ⟨m, hm⟩ : ∃ m, m = (f ++ [t]).length := ⟨_, rfl⟩
  rw [← hm] at hm' hr' ⊢
  rw [← hn] at hn16
  have hmn : m = n + 1 := by rw [hm, hn]; simp
  have HN := Lib.hid hn
  have hnm : n < m := by omega
  have e0 : (m : Int) - 1 = (n : Int) := by omega
  clear hR hn hmm hm' hm
  obtain ⟨b, off, hA, hb, htile⟩ := hr.shapeT (by omega)
  subst hA
  obtain ⟨bq, oq, hAq, hbq, hcell⟩ := hr'.shapeF (by omega)
  subst hAq
  have HTL := Lib.hid htile
  have HCL := Lib.hid hcell
  clear htile hr hr' hcell
  obtain ⟨tt, hlt, c1, c2, c3, c4⟩ := HTL.out t ht
  obtain ⟨t', ht', x0⟩ := HCL.out n hnm
  obtain rfl : t = t' := by rw [List.getElem?_append_right (by rw [← HN.out]; omega)] at ht'; simpa [← HN.out] using ht'
  have HLT := Lib.hid hlt
  have HMN := Lib.hid hmn
  clear hlt ht' hmn
  have hW : Below w.heap.size w (w.alloc (.cells #[.int .i64 tt.top, .int .i64 tt.right, .int .i64 tt.bottom, .int .i64 tt.left] 43)) := (Below.refl _ _).alloc (Nat.le_refl _) _
  have BX : Blk (w.alloc (.cells #[.int .i64 tt.top, .int .i64 tt.right, .int .i64 tt.bottom, .int .i64 tt.left] 43)) w.heap.size 43 #[.int .i64 tt.top, .int .i64 tt.right, .int .i64 tt.bottom, .int .i64 tt.left] := Blk.new _ _ _
  go_enter Tryd.func79, Tryd.ntmps79
  go_wp2_with fail
  clear c1 c2 c3 c4 x0
  generalize w.alloc (.cells #[.int .i64 tt.top, .int .i64 tt.right, .int .i64 tt.bottom, .int .i64 tt.left] 43) = W at *
  have HTW : Hid (∀ k, k < l.length → ∃ t, l[k]? = some t ∧ W.cell? ⟨b, off + k * 4, none⟩ = some (.int .i64 t.top) ∧ W.cell? ⟨b, off + k * 4 + 1, none⟩ = some (.int .i64 t.right) ∧ W.cell? ⟨b, off + k * 4 + 2, none⟩ = some (.int .i64 t.bottom) ∧ W.cell? ⟨b, off + k * 4 + 3, none⟩ = some (.int .i64 t.left)) := Lib.hid fun k hk => by
    obtain ⟨t, h0, h1, h2, h3, h4⟩ := HTL.out k hk
    exact ⟨t, h0, (hW.cell hb).trans h1, (hW.cell hb).trans h2, (hW.cell hb).trans h3, (hW.cell hb).trans h4⟩
  have HCW : Hid (∀ k, k < m → ∃ x, (f ++ [t])[k]? = some x ∧ W.cell? ⟨bq, oq + k, none⟩ = some (.int .i64 (x : Int))) := Lib.hid fun k hk => by
    obtain ⟨x, h0, h1⟩ := HCL.out k hk
    exact ⟨x, h0, (hW.cell hbq).trans h1⟩
  have k0 : W.cell? ⟨w.heap.size, 0, none⟩ = some (.int .i64 tt.top) := BX.cell 0
  have k3 : W.cell? ⟨w.heap.size, 3, none⟩ = some (.int .i64 tt.left) := BX.cell 3
  have hrem1 : Int.tmod (n : Int) (wd : Int) = ((n % wd : Nat) : Int) := by rw [Int.tmod_eq_emod_of_nonneg (by omega)]; exact (Int.natCast_emod n wd).symm
  obtain ⟨r, hrw⟩ : ∃ r, r = n % wd := ⟨_, rfl⟩
  rw [← hrw] at hrem1
  have hrem2 : (n : Int) % (wd : Int) = (r : Int) := by rw [hrw]; exact (Int.natCast_emod n wd).symm
  have hrl : r < wd := by rw [hrw]; exact Nat.mod_lt _ (by omega)
  have hrem3 : IntKind.i64.wrap (Int.tmod (n : Int) (wd : Int)) = (r : Int) := by rw [hrem1]; exact IntWalk.i64_in _ (by omega)
  have hrem4 : IntKind.i64.wrap ((n : Int) % (wd : Int)) = (r : Int) := by rw [hrem2]; exact IntWalk.i64_in _ (by omega)
  have HRW := Lib.hid hrw
  have hmn' : n + 1 = m := HMN.out.symm
  have hnm1 : n ≤ m - 1 := by omega
  clear hrw BX hmn' HTL HCL
  by_cases hr0 : r = 0
  · subst hr0
    by_cases hnw : n < wd
    · have hd : decide (n < wd) = true := by simp; omega
      obtain rfl : R = true := by rw [HR.out]; exact fits_yes (.inl (by rw [← HN.out]; exact HRW.out.symm)) (.inl (by rw [← HN.out]; exact hnw))
      go_quiet (fail)
      go_wp2
      go_ret
      exact ⟨rfl, below_drewN hW _⟩
    · have hd : decide (n < wd) = false := by simp; omega
      obtain ⟨y, hy, y1⟩ := HCW.out (n - wd) (by omega)
      obtain ⟨q, hq⟩ : ∃ q, q = n - wd := ⟨_, rfl⟩
      have hyq : f[f.length - wd]? = some y := by rw [← HN.out, ← hy, List.getElem?_append_left (by rw [← HN.out]; omega)]
      have HYQ := Lib.hid hyq
      rw [← hq] at y1
      have e3 : (n : Int) - (wd : Int) = (q : Int) := by omega
      have e4 : IntKind.i64.wrap ((n : Int) - (wd : Int)) = (q : Int) := by rw [e3]; exact IntWalk.i64_in _ (by omega)
      have hyl : y < l.length := hin y (List.mem_of_getElem? hyq)
      obtain ⟨ty, hty, t1, t2, t3, t4⟩ := HTW.out y hyl
      have HTY := Lib.hid hty
      have hqn : q < m := by omega
      clear hy hq hyq hty
      by_cases hco : ty.bottom = tt.top
      · obtain rfl : R = true := by rw [HR.out]; exact fits_yes (.inl (by rw [← HN.out]; exact HRW.out.symm)) (.inr ⟨y, ty, tt, HYQ.out, HTY.out, HLT.out, hco⟩)
        have f1 : (ty.bottom == tt.top) = true := by simpa using hco
        clear hco
        go_quiet (fail)
        go_wp2
        go_ret
        exact ⟨rfl, below_drewN hW _⟩
      · obtain rfl : R = false := by rw [HR.out]; exact fits_top (by rw [← HN.out]; exact hnw) HYQ.out HTY.out HLT.out hco
        have f1 : (ty.bottom == tt.top) = false := by simpa using hco
        clear hco
        go_quiet (fail)
        go_wp2
        go_ret
        exact ⟨rfl, below_drewN hW _⟩
  · have hn1 : 1 ≤ n := by
      rcases Nat.eq_zero_or_pos n with h0 | h0
      · exact absurd (by rw [HRW.out, h0]; exact Nat.zero_mod _) hr0
      · exact h0
    obtain ⟨x, hx, x1⟩ := HCW.out (n - 1) (by omega)
    obtain ⟨p, hp⟩ : ∃ p, p = n - 1 := ⟨_, rfl⟩
    have hxp : f[f.length - 1]? = some x := by rw [← HN.out, ← hx, List.getElem?_append_left (by rw [← HN.out]; omega)]
    have HXP := Lib.hid hxp
    rw [← hp] at x1
    have e1 : (n : Int) - 1 = (p : Int) := by omega
    have e2 : IntKind.i64.wrap ((n : Int) - 1) = (p : Int) := by rw [e1]; exact IntWalk.i64_in _ (by omega)
    have hxl : x < l.length := hin x (List.mem_of_getElem? hxp)
    obtain ⟨tx, htx, a1, a2, a3, a4⟩ := HTW.out x hxl
    have HTX := Lib.hid htx
    have hpn : p < m := by omega
    have hrp : ((r : Int) == 0) = false := by simp; omega
    have hrne : ¬ f.length % wd = 0 := by rw [← HN.out, ← HRW.out]; exact hr0
    have HRNE := Lib.hid hrne
    clear hx hp hxp htx hrne
    by_cases hco : tx.right = tt.left
    · have f0 : (tx.right == tt.left) = true := by simpa using hco
      have HCO := Lib.hid hco
      clear hco
      by_cases hnw : n < wd
      · have hd : decide (n < wd) = true := by simp; omega
        obtain rfl : R = true := by rw [HR.out]; exact fits_yes (.inr ⟨x, tx, tt, HXP.out, HTX.out, HLT.out, HCO.out⟩) (.inl (by rw [← HN.out]; exact hnw))
        go_quiet (fail)
        go_wp2
        go_ret
        exact ⟨rfl, below_drewN hW _⟩
      · have hd : decide (n < wd) = false := by simp; omega
        obtain ⟨y, hy, y1⟩ := HCW.out (n - wd) (by omega)
        obtain ⟨q, hq⟩ : ∃ q, q = n - wd := ⟨_, rfl⟩
        have hyq : f[f.length - wd]? = some y := by rw [← HN.out, ← hy, List.getElem?_append_left (by rw [← HN.out]; omega)]
        have HYQ := Lib.hid hyq
        rw [← hq] at y1
        have e3 : (n : Int) - (wd : Int) = (q : Int) := by omega
        have e4 : IntKind.i64.wrap ((n : Int) - (wd : Int)) = (q : Int) := by rw [e3]; exact IntWalk.i64_in _ (by omega)
        have hyl : y < l.length := hin y (List.mem_of_getElem? hyq)
        obtain ⟨ty, hty, t1, t2, t3, t4⟩ := HTW.out y hyl
        have HTY := Lib.hid hty
        have hqn : q < m := by omega
        clear hy hq hyq hty
        by_cases hco : ty.bottom = tt.top
        · obtain rfl : R = true := by rw [HR.out]; exact fits_yes (.inr ⟨x, tx, tt, HXP.out, HTX.out, HLT.out, HCO.out⟩) (.inr ⟨y, ty, tt, HYQ.out, HTY.out, HLT.out, hco⟩)
          have f1 : (ty.bottom == tt.top) = true := by simpa using hco
          clear hco
          go_quiet (fail)
          go_wp2
          go_ret
          exact ⟨rfl, below_drewN hW _⟩
        · obtain rfl : R = false := by rw [HR.out]; exact fits_top (by rw [← HN.out]; exact hnw) HYQ.out HTY.out HLT.out hco
          have f1 : (ty.bottom == tt.top) = false := by simpa using hco
          clear hco
          go_quiet (fail)
          go_wp2
          go_ret
          exact ⟨rfl, below_drewN hW _⟩
    · obtain rfl : R = false := by rw [HR.out]; exact fits_left HRNE.out HXP.out HTX.out HLT.out hco
      have f0 : (tx.right == tt.left) = false := by simpa using hco
      clear hco
      go_quiet (fail)
      go_wp2
      go_ret
      exact ⟨rfl, below_drewN hW _⟩
end Go.Proofs.YtlfeognjnlppkaaDoor
