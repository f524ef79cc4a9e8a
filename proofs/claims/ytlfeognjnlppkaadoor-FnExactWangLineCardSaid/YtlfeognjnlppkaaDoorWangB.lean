
/-
  Wang tiles laid row by row: the walks of both tests of fitting.
-/
import Derived.Test.YtlfeognjnlppkaaDoorWangA
namespace Go.Proofs.YtlfeognjnlppkaaDoor
open Go.RowKit

/-- a fill: indices of tiles -/
def fc (f : List Nat) : List Int := f.map fun n : Nat => (n : Int)
theorem fc_length {f : List Nat} : (fc f).length = f.length := by simp [fc]
theorem fc_append (f g : List Nat) : fc (f ++ g) = fc f ++ fc g := by simp [fc]
theorem fc_at {f : List Nat} {k x : Nat} (h : f[k]? = some x) : (fc f)[k]? = some (x : Int) := by simp [fc, h]
theorem Rd.atF {w : World} {lo hi n k : Nat} {A : Option Addr} {f : List Nat} (hr : Rd w lo hi 1 A n (ic (fc f))) (hk : k < n) : ∃ b off x, A = some ⟨b, off, none⟩ ∧ lo ≤ b ∧ b < hi ∧ f[k]? = some x ∧ w.cell? ⟨b, off + k, none⟩ = some (.int .i64 (x : Int)) := by
  obtain ⟨b, off, a, e, h1, h2, h3, h4⟩ := Rd.at1 (f := fun n : Int => Value.int .i64 n) hr hk
  simp only [fc, List.getElem?_map, Option.map_eq_some_iff] at h3
  obtain ⟨x, hx, rfl⟩ := h3
  exact ⟨b, off, x, e, h1, h2, hx, h4⟩
def tileAt (l : List Wg) (i : Nat) : Wg := l.getD i ⟨0, 0, 0, 0⟩
theorem tileAt_of {l : List Wg} {i : Nat} {t : Wg} (h : l[i]? = some t) : tileAt l i = t := by rw [tileAt, List.getD, h]; rfl
def fitsW (l : List Wg) (w : Nat) (f : List Nat) (t : Nat) : Bool :=
  (decide (f.length % w = 0) || decide ((tileAt l (f.getD (f.length - 1) 0)).right = (tileAt l t).left)) && (decide (f.length < w) || decide ((tileAt l (f.getD (f.length - w) 0)).bottom = (tileAt l t).top))
theorem getD_of {f : List Nat} {k x : Nat} (h : f[k]? = some x) : f.getD k 0 = x := by rw [List.getD_eq_getElem?_getD, h]; rfl
theorem fits_left {l : List Wg} {w t x : Nat} {f : List Nat} {a b : Wg} (h : ¬ f.length % w = 0) (hx : f[f.length - 1]? = some x) (ha : l[x]? = some a) (hb : l[t]? = some b) (hn : ¬ a.right = b.left) : fitsW l w f t = false := by
  unfold fitsW
  rw [getD_of hx, tileAt_of ha, tileAt_of hb, decide_eq_false h, decide_eq_false hn]; rfl
theorem fits_top {l : List Wg} {w t x : Nat} {f : List Nat} {a b : Wg} (h : ¬ f.length < w) (hx : f[f.length - w]? = some x) (ha : l[x]? = some a) (hb : l[t]? = some b) (hn : ¬ a.bottom = b.top) : fitsW l w f t = false := by
  unfold fitsW
  rw [getD_of hx, tileAt_of ha, tileAt_of hb, decide_eq_false h, decide_eq_false hn, Bool.or_false, Bool.and_false]
theorem fits_yes {l : List Wg} {w t : Nat} {f : List Nat} (h1 : f.length % w = 0 ∨ ∃ x a b, f[f.length - 1]? = some x ∧ l[x]? = some a ∧ l[t]? = some b ∧ a.right = b.left) (h2 : f.length < w ∨ ∃ x a b, f[f.length - w]? = some x ∧ l[x]? = some a ∧ l[t]? = some b ∧ a.bottom = b.top) : fitsW l w f t = true := by
  unfold fitsW
  rw [Bool.and_eq_true]
  constructor
  · rcases h1 with h | ⟨x, a, b, hx, ha, hb, hn⟩
    · rw [decide_eq_true h]; rfl
    · rw [getD_of hx, tileAt_of ha, tileAt_of hb, decide_eq_true hn, Bool.or_true]
  · rcases h2 with h | ⟨x, a, b, hx, ha, hb, hn⟩
    · rw [decide_eq_true h]; rfl
    · rw [getD_of hx, tileAt_of ha, tileAt_of hb, decide_eq_true hn, Bool.or_true]
theorem Rd.shapeF {w : World} {lo hi n : Nat} {A : Option Addr} {f : List Nat} (hr : Rd w lo hi 1 A n (ic (fc f))) (hn : 0 < n) : ∃ b off, A = some ⟨b, off, none⟩ ∧ b < hi ∧ ∀ k, k < n → ∃ x, f[k]? = some x ∧ w.cell? ⟨b, off + k, none⟩ = some (.int .i64 (x : Int)) := by
  obtain ⟨b, off, x, e, h1, h2, h3, h4⟩ := hr.atF hn
  refine ⟨b, off, e, h2, fun k hk => ?_⟩
  obtain ⟨b', off', x', e', h1', h2', h3', h4'⟩ := hr.atF hk
  rw [e] at e'
  injection e' with e'
  injection e' with e1 e2 _
  subst e1 e2
  exact ⟨x', h3', h4'⟩
theorem Rd.shapeT {w : World} {lo hi n : Nat} {A : Option Addr} {l : List Wg} (hr : Rd w lo hi 4 A n (wgc l)) (hn : 0 < n) : ∃ b off, A = some ⟨b, off, none⟩ ∧ b < hi ∧ ∀ k, k < n → ∃ t, l[k]? = some t ∧ w.cell? ⟨b, off + k * 4, none⟩ = some (.int .i64 t.top) ∧ w.cell? ⟨b, off + k * 4 + 1, none⟩ = some (.int .i64 t.right) ∧ w.cell? ⟨b, off + k * 4 + 2, none⟩ = some (.int .i64 t.bottom) ∧ w.cell? ⟨b, off + k * 4 + 3, none⟩ = some (.int .i64 t.left) := by
  obtain ⟨b, off, x, e, h1, h2, h3, _⟩ := hr.at4 hn
  refine ⟨b, off, e, h2, fun k hk => ?_⟩
  obtain ⟨b', off', x', e', h1', h2', h3', h4'⟩ := hr.at4 hk
  rw [e] at e'
  injection e' with e'
  injection e' with e1 e2 _
  subst e1 e2
  exact ⟨x', h3', h4'⟩
/-- all indices are of tiles -/
def inT (l : List Wg) (f : List Nat) : Prop := ∀ x ∈ f, x < l.length

set_option maxRecDepth 100000 in
set_option maxHeartbeats 3200000 in
theorem spec_fits_c {v vf : Value} {l : List Wg} {f : List Nat} (wd t : Nat) (w : World) (h : WangsRd w 0 w.heap.size v l) (hf : IntsRd w 0 w.heap.size vf (fc f)) (hin : inT l f) (ht : t < l.length) (hl : l.length ≤ 6) (hw1 : 1 ≤ wd) (hw4 : wd ≤ 4) (hn16 : f.length ≤ 16) :
    Calls Tryd.prog 75 #[v, .int .i64 wd, vf, .int .i64 t] w fun e w' => e = .returned (.bool (fitsW l wd f t)) ∧ Below w.heap.size w w' := by
  obtain ⟨A, c, rfl, hm, hr⟩ := h
  obtain ⟨A', c', rfl, hm', hr'⟩ := hf
  rw [fc_length] at hm' hr' ⊢
  obtain ⟨R, hR⟩ : ∃ R, R = fitsW l wd f t := ⟨_, rfl⟩
  rw [← hR]
  have HR := Lib.hid hR
  obtain ⟨n, hn⟩ : ∃ n, n = f.length := ⟨_, rfl⟩
  rw [← hn] at hm' hr' hn16 ⊢
  have HN := Lib.hid hn
  clear hR hn hm hm'
  obtain ⟨b, off, hA, hb, htile⟩ := hr.shapeT (by omega)
  subst hA
  have HTL := Lib.hid htile
  clear htile hr
  obtain ⟨tt, hlt, c1, c2, c3, c4⟩ := HTL.out t ht
  have HLT := Lib.hid hlt
  have hrem1 : Int.tmod (n : Int) (wd : Int) = ((n % wd : Nat) : Int) := by rw [Int.tmod_eq_emod_of_nonneg (by omega)]; exact (Int.natCast_emod n wd).symm
  obtain ⟨r, hrw⟩ : ∃ r, r = n % wd := ⟨_, rfl⟩
  rw [← hrw] at hrem1
  have hrem2 : (n : Int) % (wd : Int) = (r : Int) := by rw [hrw]; exact (Int.natCast_emod n wd).symm
  have hrl : r < wd := by rw [hrw]; exact Nat.mod_lt _ (by omega)
  have hrem3 : IntKind.i64.wrap (Int.tmod (n : Int) (wd : Int)) = (r : Int) := by rw [hrem1]; exact IntWalk.i64_in _ (by omega)
  have hrem4 : IntKind.i64.wrap ((n : Int) % (wd : Int)) = (r : Int) := by rw [hrem2]; exact IntWalk.i64_in _ (by omega)
  have HRW := Lib.hid hrw
  clear hlt hrw
  by_cases hn0 : n = 0
  · subst hn0
    obtain rfl : r = 0 := by rw [HRW.out]; exact Nat.zero_mod _
    have hd : decide (0 < wd) = true := by simp; omega
    obtain rfl : R = true := by rw [HR.out]; exact fits_yes (.inl (by rw [← HN.out]; exact Nat.zero_mod _)) (.inl (by rw [← HN.out]; omega))
    go_enter Tryd.func75, Tryd.ntmps75
    go_wp2_with fail
    go_quiet (fail)
    have hb1 : Below w.heap.size w (w.drewN nq) := below_drewN (Below.refl _ _) nq
    simp only [show ∀ b o, w.cell? ⟨b, o, none⟩ = (w.drewN nq).cell? ⟨b, o, none⟩ from fun _ _ => rfl] at c1 c2 c3 c4 
    generalize w.drewN nq = w1 at *
    go_wp2_with fail
    go_quiet (fail)
    go_wp2
    go_ret
    exact ⟨rfl, below_drewN hb1 _⟩
  · obtain ⟨bq, oq, hAq, hbq, hcell⟩ := hr'.shapeF (by omega)
    subst hAq
    clear hr'
    by_cases hr0 : r = 0
    · subst hr0
      by_cases hnw : n < wd
      · have hd : decide (n < wd) = true := by simp; omega
        obtain rfl : R = true := by rw [HR.out]; exact fits_yes (.inl (by rw [← HN.out]; exact HRW.out.symm)) (.inl (by rw [← HN.out]; exact hnw))
        go_enter Tryd.func75, Tryd.ntmps75
        go_wp2_with fail
        go_quiet (fail)
        have hb1 : Below w.heap.size w (w.drewN nq) := below_drewN (Below.refl _ _) nq
        simp only [show ∀ b o, w.cell? ⟨b, o, none⟩ = (w.drewN nq).cell? ⟨b, o, none⟩ from fun _ _ => rfl] at c1 c2 c3 c4 
        generalize w.drewN nq = w1 at *
        go_wp2_with fail
        go_quiet (fail)
        go_wp2
        go_ret
        exact ⟨rfl, below_drewN hb1 _⟩
      · have hd : decide (n < wd) = false := by simp; omega
        obtain ⟨y, hy, y1⟩ := hcell (n - wd) (by omega)
        obtain ⟨q, hq⟩ : ∃ q, q = n - wd := ⟨_, rfl⟩
        have hyq : f[f.length - wd]? = some y := by rw [← HN.out]; exact hy
        have HYQ := Lib.hid hyq
        rw [← hq] at y1
        have e3 : (n : Int) - (wd : Int) = (q : Int) := by omega
        have e4 : IntKind.i64.wrap ((n : Int) - (wd : Int)) = (q : Int) := by rw [e3]; exact IntWalk.i64_in _ (by omega)
        have hyl : y < l.length := hin y (List.mem_of_getElem? hy)
        obtain ⟨ty, hty, t1, t2, t3, t4⟩ := HTL.out y hyl
        have HTY := Lib.hid hty
        have hqn : q < n := by omega
        clear hy hq hyq hty
        by_cases hco : ty.bottom = tt.top
        · obtain rfl : R = true := by rw [HR.out]; exact fits_yes (.inl (by rw [← HN.out]; exact HRW.out.symm)) (.inr ⟨y, ty, tt, HYQ.out, HTY.out, HLT.out, hco⟩)
          have f1 : (ty.bottom == tt.top) = true := by simpa using hco
          clear hco
          go_enter Tryd.func75, Tryd.ntmps75
          go_wp2_with fail
          go_quiet (fail)
          have hb1 : Below w.heap.size w (w.drewN nq) := below_drewN (Below.refl _ _) nq
          simp only [show ∀ b o, w.cell? ⟨b, o, none⟩ = (w.drewN nq).cell? ⟨b, o, none⟩ from fun _ _ => rfl] at c1 c2 c3 c4 y1 t1 t2 t3 t4
          generalize w.drewN nq = w1 at *
          go_wp2_with fail
          go_quiet (fail)
          go_wp2
          go_ret
          exact ⟨rfl, below_drewN hb1 _⟩
        · obtain rfl : R = false := by rw [HR.out]; exact fits_top (by rw [← HN.out]; exact hnw) HYQ.out HTY.out HLT.out hco
          have f1 : (ty.bottom == tt.top) = false := by simpa using hco
          clear hco
          go_enter Tryd.func75, Tryd.ntmps75
          go_wp2_with fail
          go_quiet (fail)
          have hb1 : Below w.heap.size w (w.drewN nq) := below_drewN (Below.refl _ _) nq
          simp only [show ∀ b o, w.cell? ⟨b, o, none⟩ = (w.drewN nq).cell? ⟨b, o, none⟩ from fun _ _ => rfl] at c1 c2 c3 c4 y1 t1 t2 t3 t4
          generalize w.drewN nq = w1 at *
          go_wp2_with fail
          go_quiet (fail)
          go_wp2
          go_ret
          exact ⟨rfl, below_drewN hb1 _⟩
    · obtain ⟨x, hx, x1⟩ := hcell (n - 1) (by omega)
      obtain ⟨p, hp⟩ : ∃ p, p = n - 1 := ⟨_, rfl⟩
      have hxp : f[f.length - 1]? = some x := by rw [← HN.out]; exact hx
      have HXP := Lib.hid hxp
      rw [← hp] at x1
      have e1 : (n : Int) - 1 = (p : Int) := by omega
      have e2 : IntKind.i64.wrap ((n : Int) - 1) = (p : Int) := by rw [e1]; exact IntWalk.i64_in _ (by omega)
      have hxl : x < l.length := hin x (List.mem_of_getElem? hx)
      obtain ⟨tx, htx, a1, a2, a3, a4⟩ := HTL.out x hxl
      have HTX := Lib.hid htx
      have hpn : p < n := by omega
      have hrp : decide (0 < r) = true := by simp; omega
      have hrne : ¬ f.length % wd = 0 := by rw [← HN.out, ← HRW.out]; exact hr0
      have HRNE := Lib.hid hrne
      clear hx hp hxp htx hrne
      by_cases hco : tx.right = tt.left
      · have f0 : (tx.right != tt.left) = false := by simpa using hco
        have HCO := Lib.hid hco
        clear hco
        by_cases hnw : n < wd
        · have hd : decide (n < wd) = true := by simp; omega
          obtain rfl : R = true := by rw [HR.out]; exact fits_yes (.inr ⟨x, tx, tt, HXP.out, HTX.out, HLT.out, HCO.out⟩) (.inl (by rw [← HN.out]; exact hnw))
          go_enter Tryd.func75, Tryd.ntmps75
          go_wp2_with fail
          go_quiet (fail)
          have hb1 : Below w.heap.size w (w.drewN nq) := below_drewN (Below.refl _ _) nq
          simp only [show ∀ b o, w.cell? ⟨b, o, none⟩ = (w.drewN nq).cell? ⟨b, o, none⟩ from fun _ _ => rfl] at c1 c2 c3 c4 
          generalize w.drewN nq = w1 at *
          go_wp2_with fail
          go_quiet (fail)
          go_wp2
          go_ret
          exact ⟨rfl, below_drewN hb1 _⟩
        · have hd : decide (n < wd) = false := by simp; omega
          obtain ⟨y, hy, y1⟩ := hcell (n - wd) (by omega)
          obtain ⟨q, hq⟩ : ∃ q, q = n - wd := ⟨_, rfl⟩
          have hyq : f[f.length - wd]? = some y := by rw [← HN.out]; exact hy
          have HYQ := Lib.hid hyq
          rw [← hq] at y1
          have e3 : (n : Int) - (wd : Int) = (q : Int) := by omega
          have e4 : IntKind.i64.wrap ((n : Int) - (wd : Int)) = (q : Int) := by rw [e3]; exact IntWalk.i64_in _ (by omega)
          have hyl : y < l.length := hin y (List.mem_of_getElem? hy)
          obtain ⟨ty, hty, t1, t2, t3, t4⟩ := HTL.out y hyl
          have HTY := Lib.hid hty
          have hqn : q < n := by omega
          clear hy hq hyq hty
          by_cases hco : ty.bottom = tt.top
          · obtain rfl : R = true := by rw [HR.out]; exact fits_yes (.inr ⟨x, tx, tt, HXP.out, HTX.out, HLT.out, HCO.out⟩) (.inr ⟨y, ty, tt, HYQ.out, HTY.out, HLT.out, hco⟩)
            have f1 : (ty.bottom == tt.top) = true := by simpa using hco
            clear hco
            go_enter Tryd.func75, Tryd.ntmps75
            go_wp2_with fail
            go_quiet (fail)
            have hb1 : Below w.heap.size w (w.drewN nq) := below_drewN (Below.refl _ _) nq
            simp only [show ∀ b o, w.cell? ⟨b, o, none⟩ = (w.drewN nq).cell? ⟨b, o, none⟩ from fun _ _ => rfl] at c1 c2 c3 c4 y1 t1 t2 t3 t4
            generalize w.drewN nq = w1 at *
            go_wp2_with fail
            go_quiet (fail)
            go_wp2
            go_ret
            exact ⟨rfl, below_drewN hb1 _⟩
          · obtain rfl : R = false := by rw [HR.out]; exact fits_top (by rw [← HN.out]; exact hnw) HYQ.out HTY.out HLT.out hco
            have f1 : (ty.bottom == tt.top) = false := by simpa using hco
            clear hco
            go_enter Tryd.func75, Tryd.ntmps75
            go_wp2_with fail
            go_quiet (fail)
            have hb1 : Below w.heap.size w (w.drewN nq) := below_drewN (Below.refl _ _) nq
            simp only [show ∀ b o, w.cell? ⟨b, o, none⟩ = (w.drewN nq).cell? ⟨b, o, none⟩ from fun _ _ => rfl] at c1 c2 c3 c4 y1 t1 t2 t3 t4
            generalize w.drewN nq = w1 at *
            go_wp2_with fail
            go_quiet (fail)
            go_wp2
            go_ret
            exact ⟨rfl, below_drewN hb1 _⟩
      · obtain rfl : R = false := by rw [HR.out]; exact fits_left HRNE.out HXP.out HTX.out HLT.out hco
        have f0 : (tx.right != tt.left) = true := by simpa using hco
        clear hco
        go_enter Tryd.func75, Tryd.ntmps75
        go_wp2_with fail
        go_quiet (fail)
        go_wp2
        go_ret
        exact ⟨rfl, below_drewN (Below.refl _ _) _⟩
end Go.Proofs.YtlfeognjnlppkaaDoor
