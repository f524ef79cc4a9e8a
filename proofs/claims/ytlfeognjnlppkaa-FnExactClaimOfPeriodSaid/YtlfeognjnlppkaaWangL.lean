
/-
  The walk of the program's 'ClaimOfPeriod': its answer's memory is its own.
-/
import Derived.Test.YtlfeognjnlppkaaWangK
namespace Go.Proofs.Ytlfeognjnlppkaa
open Go.RowKit

set_option maxRecDepth 100000 in
set_option maxHeartbeats 800000 in
theorem copyWang_c {v : Value} {x : List Wg} (w : World) (h : WangsRd w 0 w.heap.size v x) (hn : x.length ≤ 1048576) :
    Calls Try.prog 34 #[v] w fun e w' => ∃ v', e = .returned v' ∧ WangsIn w' w.heap.size w'.heap.size v' x ∧ Below w.heap.size w w' := by
  obtain ⟨i0, hi, hz0, hz1, hz2⟩ := info_parts infoWang
  obtain ⟨A, c, rfl, hm, hr⟩ := h
  have H := (Sep.start w).nil 62 4
  obtain ⟨n, hx⟩ : ∃ n, n = x.length := ⟨_, rfl⟩
  rw [← hx] at hr hn ⊢
  have HX := Lib.hid hx
  clear hm hx
  go_enter Try.func34, Try.ntmps34
  go_wp2_with (at_builtin; refine wpList_app rfl _ _ 36 rfl 62 i0 _ 4 32 Try.underlying36 hi hz0 hz1 hz2 rfl (by decide) _ _ _ rfl H _ _ _ _ rfl hr wgc_one (by unfold maxLen; omega) (by omega) ?_; intro v1 w1 H1; clear H hr)
  go_ret
  exact ⟨_, rfl, WangsIn.mk H1.oi.1 (by rw [← HX.out]; omega) rfl, H1.below⟩

/-- what the program's claim is: its value, and what it owns -/
def CPost (l : List Wg) (r : Option Per) (w : World) (e : Ending) (w' : World) : Prop := ∃ v1 v2 L, e = .returned (.tuple #[.agg (perV r v1 v2), .bool r.isSome]) ∧
  Sep w w' (Res.row v1 3 1 (perM r).length (ic (perM r)) :: Res.row v2 62 4 (perG l r).length (wgc (perG l r)) :: L)
set_option maxRecDepth 100000 in
set_option maxHeartbeats 3200000 in
theorem impl_claimPer_c {v : Value} {l : List Wg} (w : World) (h : WangsRd w 0 w.heap.size v l) (hn : l.length ≤ 1048576) :
    Calls Try.prog 13 #[v] w (CPost l (period l) w) := by
  have H := (Sep.start w).box 38 (perV none (.slice none 0 0) (.slice none 0 0))
  have HL := Lib.hid h
  obtain ⟨A, c, rfl, hm0, hr0⟩ := id h
  clear h hr0
  obtain ⟨S, hS⟩ : ∃ S, S = period l := ⟨_, rfl⟩
  rw [← hS]
  have HPER := Lib.hid (impl_period_c (l := l) _ ((HL.out.keep (SameIn.of_below H.below (Nat.le_refl _))).more (Nat.le_refl _) H.size))
  rw [← hS] at HPER
  clear hS
  go_enter Try.func13, Try.ntmps13
  go_wp2_with fail
  refine (HPER.out).mono ?_
  intro e w1 hp
  obtain ⟨v1, x, y, rfl, hres, b1⟩ := hp
  clear HPER
  cases S with
  | none =>
    have H1 := H.step b1
    clear hres b1 H
    have HALL : (((perV none (.slice none 0 0) (.slice none 0 0)) : Array Value).all (·.oneCell')) = true := by simp [Value.oneCell']
    go_wp2_with ((refine wpList_store_row rfl 38 _ _ rfl w.heap.size (perV none (.slice none 0 0) (.slice none 0 0)) rfl rfl 38 _ H1.h0 (by kernel_rfl) rfl HALL ?_))
    have M := H1.setAll (perV none (.slice none 0 0) (.slice none 0 0))
    refine bodyPost_ret (v := .tuple #[.agg (perV none (.slice none 0 0) (.slice none 0 0)), .bool false]) (results_cell_tmp Try.results13 _ _ w.heap.size 38 _ _ _ rfl M.h0 Try.underlying38 rfl (by kernel_rfl)) rfl ?_
    exact ⟨_, _, _, rfl, (M.nil 62 4).nil 3 1⟩
  | some p =>
    obtain ⟨f, a, b⟩ := p
    obtain ⟨rfl, rfl, hi1⟩ := hres f a b rfl
    have H2 := H.oiNew b1 hi1
    obtain ⟨A1, c1, rfl, _, _⟩ := hi1.rd
    clear H b1
    go_wp2_with fail
    refine (copyWang_c (x := l) w1 ((HL.out.keep (SameIn.of_below H2.below (Nat.le_refl _))).more (Nat.le_refl _) H2.size) hn).mono ?_
    rintro e w2 ⟨v2, rfl, hi2, b2⟩
    have H3 := H2.oiNew b2 hi2
    obtain ⟨A2, c2, rfl, _, _⟩ := hi2.rd
    clear H2 b2
    have HALL : ((perV (some (f, a, b)) (.slice A1 (fc f).length c1) (.slice A2 l.length c2) : Array Value).all (·.oneCell')) = true := by simp [Value.oneCell']
    go_wp2_with (refine wpList_store_row rfl 38 _ _ rfl w.heap.size (perV (some (f, a, b)) (.slice A1 (fc f).length c1) (.slice A2 l.length c2)) rfl rfl 38 _ H3.g2.h0 (by kernel_rfl) rfl HALL ?_)
    have M := H3.g2.setAll (perV (some (f, a, b)) (.slice A1 (fc f).length c1) (.slice A2 l.length c2))
    refine bodyPost_ret (v := .tuple #[.agg (perV (some (f, a, b)) (.slice A1 (fc f).length c1) (.slice A2 l.length c2)), .bool true]) (results_cell_tmp Try.results13 _ _ w.heap.size 38 _ _ _ rfl M.h0 Try.underlying38 rfl (by kernel_rfl)) rfl ?_
    exact ⟨_, _, _, rfl, M.drop.g1⟩
end Go.Proofs.Ytlfeognjnlppkaa
