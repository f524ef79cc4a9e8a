
/-
  Helpers of the laws: a list of Wang tiles marked, and held.
-/
import Derived.Test.YtlfeognjnlppkaaLawWangs
namespace Go.Proofs.Ytlfeognjnlppkaa
open Go.RowKit

theorem mark4 {w w1 : World} {g T m k : Nat} {cs : Array Value} {xs : List Value} {u0 u1 u2 u3 : Value} (hb : Blk w1 g T cs) (hs : cs.size = m) (hk : k * 4 + 4 ≤ m) (h : cs.toList.take (k * 4) = xs.take (k * 4))
    (h0 : xs[k * 4]? = some u0) (h1 : xs[k * 4 + 1]? = some u1) (h2 : xs[k * 4 + 2]? = some u2) (h3 : xs[k * 4 + 3]? = some u3) (hg : w.grownBy w1 (some g)) :
    w.grownBy ((((w1.setCell ⟨g, k * 4, none⟩ u0).setCell ⟨g, k * 4 + 1, none⟩ u1).setCell ⟨g, k * 4 + 2, none⟩ u2).setCell ⟨g, k * 4 + 3, none⟩ u3) (some g) ∧
    (∃ cs', Blk ((((w1.setCell ⟨g, k * 4, none⟩ u0).setCell ⟨g, k * 4 + 1, none⟩ u1).setCell ⟨g, k * 4 + 2, none⟩ u2).setCell ⟨g, k * 4 + 3, none⟩ u3) g T cs' ∧ cs'.size = m ∧ cs'.toList.take ((k + 1) * 4) = xs.take ((k + 1) * 4)) := by
  refine ⟨only_setCell (only_setCell (only_setCell (only_setCell hg (.inl rfl) _) (.inl rfl) _) (.inl rfl) _) (.inl rfl) _, ⟨_, (((hb.set_ _ _).set_ _ _).set_ _ _).set_ _ _, by simp [hs], ?_⟩⟩
  rw [show (k + 1) * 4 = k * 4 + 3 + 1 by omega]
  exact fill_one (fill_one (fill_one (fill_one h (by omega) h0) (by simp; omega) h1) (by simp; omega) h2) (by simp; omega) h3
def Wgs.mk (k : Int) (l : List Wg) : List Wg := (List.range l.length).map fun i : Nat => ⟨k + 4 * (i : Int), k + 4 * (i : Int) + 1, k + 4 * (i : Int) + 1 + 1, k + 4 * (i : Int) + 1 + 1 + 1⟩
theorem Wgs.mk_length {k : Int} {l : List Wg} : (Wgs.mk k l).length = l.length := by simp [Wgs.mk]
theorem Wgs.mk_at {k : Int} {l : List Wg} {i : Nat} (h : i < l.length) : (Wgs.mk k l)[i]? = some ⟨k + 4 * (i : Int), k + 4 * (i : Int) + 1, k + 4 * (i : Int) + 1 + 1, k + 4 * (i : Int) + 1 + 1 + 1⟩ := by simp [Wgs.mk, h]
theorem wgc_at {l : List Wg} {k : Nat} {a : Wg} (h : l[k]? = some a) : (wgc l)[k * 4]? = some (.int .i64 a.top) ∧ (wgc l)[k * 4 + 1]? = some (.int .i64 a.right) ∧ (wgc l)[k * 4 + 2]? = some (.int .i64 a.bottom) ∧ (wgc l)[k * 4 + 3]? = some (.int .i64 a.left) := fl4_at h

set_option maxRecDepth 100000 in
set_option maxHeartbeats 1600000 in
theorem markWangS_any (g n c : Nat) (k0 : Int) (x : List Wg) (cs : Array Value) (w : World) (hx : x.length = n) (hn : n ≤ 1048576) (hk0 : 0 ≤ k0) (hk1 : k0 ≤ 1000000000000) (hb : Blk w g 62 cs) (hc : n * 4 ≤ cs.size) :
    Calls Try.prog 16 #[.slice (some ⟨g, 0, none⟩) n c, .int .i64 k0] w fun e w' => e = .returned (.int .i64 (k0 + 4 * (n : Int))) ∧ w.grownBy w' (some g) ∧
      ∃ cs', Blk w' g 62 cs' ∧ cs'.size = cs.size ∧ cs'.toList.take (n * 4) = wgc (Wgs.mk k0 x) := by
  have Hx := Lib.hid hx
  clear hx
  go_enter Try.func16, Try.ntmps16
  go_wp2
  go_loopw [1, 5] (fun kk i wr => ∃ k : Nat, k ≤ n ∧ i = .int .i64 k ∧ kk = .int .i64 (k0 + 4 * (k : Int)) ∧ w.grownBy wr (some g) ∧
    ∃ cs', Blk wr g 62 cs' ∧ cs'.size = cs.size ∧ cs'.toList.take (k * 4) = (wgc (Wgs.mk k0 x)).take (k * 4)) (fun _ i _ => n - (intOf i).toNat)
  case atStart => exact ⟨0, Nat.zero_le _, rfl, by simp, World.grownBy.refl _ _, cs, hb, rfl, by simp⟩
  case round =>
    obtain ⟨k, hk, rfl, rfl, hg, cs', hblk, hcs, htk⟩ := hrel
    by_cases hlt : k < n
    · obtain ⟨u0, g0⟩ : ∃ u, wr.cell? ⟨g, k * 4, none⟩ = some u := ⟨_, by rw [hblk.cell, Array.getElem?_eq_getElem (by omega)]⟩
      obtain ⟨u1, g1⟩ : ∃ u, wr.cell? ⟨g, k * 4 + 1, none⟩ = some u := ⟨_, by rw [hblk.cell, Array.getElem?_eq_getElem (by omega)]⟩
      obtain ⟨u2, g2⟩ : ∃ u, wr.cell? ⟨g, k * 4 + 2, none⟩ = some u := ⟨_, by rw [hblk.cell, Array.getElem?_eq_getElem (by omega)]⟩
      obtain ⟨u3, g3⟩ : ∃ u, wr.cell? ⟨g, k * 4 + 3, none⟩ = some u := ⟨_, by rw [hblk.cell, Array.getElem?_eq_getElem (by omega)]⟩
      have f0 := hblk.frozen (k * 4)
      have f1 := hblk.frozen (k * 4 + 1)
      have f2 := hblk.frozen (k * 4 + 2)
      have f3 := hblk.frozen (k * 4 + 3)
      have HB := Lib.hid hblk
      have HC := Lib.hid hcs
      have HT := Lib.hid htk
      clear hblk hb hcs htk
      go_wp2
      go_roundw
      case rel =>
        have q := wgc_at (Wgs.mk_at (k := k0) (l := x) (by rw [Hx.out]; exact hlt))
        have F := mark4 HB.out HC.out (by omega) HT.out q.1 q.2.1 q.2.2.1 q.2.2.2 hg
        exact ⟨k + 1, by omega, by go_num, by go_num, F.1, F.2⟩
      case measure => simp [intOf]; omega
    · go_wp2
      go_ret
      have hkn : k = n := by omega
      subst hkn
      exact ⟨rfl, hg, cs', hblk, hcs, by rw [htk, List.take_of_length_le (by rw [wgc_length, Wgs.mk_length, Hx.out]; exact Nat.le_refl _)]⟩

set_option maxRecDepth 100000 in
set_option maxHeartbeats 1600000 in
theorem heldWangS_c {lo hi : Nat} {v : Value} {x : List Wg} (k0 : Int) (w : World) (hn : x.length ≤ 1048576) (hk0 : 0 ≤ k0) (hk1 : k0 ≤ 1000000000000) (h : WangsRd w lo hi v (Wgs.mk k0 x)) :
    Calls Try.prog 45 #[v, .int .i64 k0] w fun e w' => e = .returned (.int .i64 (k0 + 4 * (x.length : Int))) ∧ w = w' := by
  obtain ⟨A, c, rfl, hm, hr⟩ := h
  rw [Wgs.mk_length] at hr ⊢
  obtain ⟨n, hx⟩ : ∃ n, n = x.length := ⟨_, rfl⟩
  rw [← hx] at hn hr ⊢
  have Hx := Lib.hid hx
  clear hx hm
  go_enter Try.func45, Try.ntmps45
  go_wp2
  go_loop [1, 5] (fun kk i => ∃ k : Nat, k ≤ n ∧ i = .int .i64 k ∧ kk = .int .i64 (k0 + 4 * (k : Int))) (fun _ i => n - (intOf i).toNat)
  case atStart => exact ⟨0, Nat.zero_le _, rfl, by simp⟩
  case round =>
    obtain ⟨k, hk, rfl, rfl⟩ := hrel
    by_cases hlt : k < n
    · obtain ⟨b, off, a, rfl, _, hb, hla, q1, q2, q3, q4⟩ := hr.at4 hlt
      have ha : (⟨k0 + 4 * (k : Int), k0 + 4 * (k : Int) + 1, k0 + 4 * (k : Int) + 1 + 1, k0 + 4 * (k : Int) + 1 + 1 + 1⟩ : Wg) = a := by rw [Wgs.mk_at (by rw [← Hx.out]; exact hlt)] at hla; exact Option.some.inj hla
      subst ha
      clear hr hla
      go_wp2
      go_round
      case rel => exact ⟨k + 1, by omega, by go_num, by go_num⟩
      case measure => simp [intOf]; omega
    · go_wp2
      go_ret
      have hkn : k = n := by omega
      subst hkn
      exact ⟨rfl, rfl⟩

set_option maxRecDepth 100000 in
set_option maxHeartbeats 800000 in
theorem markWangS_nil (k0 : Int) (w : World) :
    Calls Try.prog 16 #[.slice none 0 0, .int .i64 k0] w fun e w' => e = .returned (.int .i64 k0) ∧ w = w' := by
  go_enter Try.func16, Try.ntmps16
  go_wp2
  refine wp_loop_rounds 1 ?_
  rw [rounds_succ]
  go_wp2
  go_ret
  exact ⟨rfl, rfl⟩

set_option maxRecDepth 100000 in
theorem markWangS_c {lo hi : Nat} {v : Value} {x : List Wg} (k0 : Int) (w : World) (hn : x.length ≤ 1048576) (hk0 : 0 ≤ k0) (hk1 : k0 ≤ 1000000000000) (h : WangsIn w lo hi v x) :
    Calls Try.prog 16 #[v, .int .i64 k0] w fun e w' => e = .returned (.int .i64 (k0 + 4 * (x.length : Int))) ∧ WangsIn w' lo hi v (Wgs.mk k0 x) ∧ Out lo hi w w' := by
  rcases OI.cases h with ⟨rfl, h0⟩ | ⟨g, c, cs, rfl, h1, h2, h3, h4, hb, h5, h6⟩
  · obtain rfl := List.eq_nil_of_length_eq_zero h0
    refine (markWangS_nil k0 w).mono ?_
    rintro e w' ⟨rfl, rfl⟩
    exact ⟨by simp, WangsIn.nil, Out.refl _⟩
  · refine (markWangS_any g _ c k0 x cs w rfl hn hk0 hk1 hb (by rw [h5]; omega)).mono ?_
    rintro e w' ⟨rfl, hg, cs', hb', hs', ht'⟩
    refine ⟨rfl, ?_, Out.of_only hg h1 h2⟩
    unfold WangsIn
    rw [Wgs.mk_length]
    exact OI.of_blk hb' h1 h2 h3 h4 (by rw [hs', h5]) ht'
end Go.Proofs.Ytlfeognjnlppkaa
