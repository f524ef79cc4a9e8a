
/-
  The program's way of blanks, from the first row to the last one.
-/
import Derived.Test.YtjmeplchabehfaaWayB
import Derived.Test.YtjmeplchabehfaaWayL
namespace Go.Proofs.Ytjmeplchabehfaa
open Go.RowKit

set_option maxRecDepth 100000 in
set_option maxHeartbeats 1600000 in
theorem block1_c {r : Reg} {s : Value} {g g2 lo hi : Nat} (c : Cell) (w : World) (hb : Blk w g 31 #[.int .i64 r.w, s]) (hb2 : Blk w g2 3 #[.int .i64 r.rows.length]) (hs : IntsRd w lo hi s r.rows) (hhi : hi ≤ w.heap.size) (hv : r.Valid) :
    Calls Try.prog 93 #[cv c, .pointer (some ⟨g, 0, none⟩), .pointer (some ⟨g2, 0, none⟩)] w fun e w' => e = .returned (.bool (opnC r false c)) ∧ Below w.heap.size w w' := by
  obtain ⟨x, y⟩ := c
  unfold cv
  have hbel : Below w.heap.size w (w.alloc (.cells #[.int .i64 x, .int .i64 y] 62)) := (Below.refl _ _).alloc (Nat.le_refl _) _
  have c0 := hb.cell 0
  have c1 := hb.cell 1
  have c2 := hb2.cell 0
  simp at c0 c1 c2
  have hl := hb.lt
  have hl2 := hb2.lt
  have v1 := hv.1
  have v2 := hv.2.1
  have v3 := hv.2.2.1
  have v4 := hv.2.2.2.1
  simp only
  obtain ⟨R, hR⟩ : ∃ R, R = opnC r false ⟨x, y⟩ := ⟨_, rfl⟩
  rw [← hR]
  have HR := Lib.hid hR
  clear hR
  by_cases hx : 0 ≤ x ∧ x < r.w
  · have hp : (decide ((0 : Int) ≤ x) && decide (x ≤ r.w - 1)) = true := by simp; omega
    by_cases hy : 0 ≤ y ∧ y < r.rows.length
    · have hq : (decide ((0 : Int) ≤ y) && decide (y ≤ (r.rows.length : Int) - 1)) = true := by simp; omega
      have he : R = !r.has x y := by rw [HR.out, opnC, inB]; simp [hx, hy]
      have HE := Lib.hid he
      clear he
      go_enter Try.func93, Try.ntmps93
      go_wp2_with (go_at_call 94; refine (between_any _ _ _ _).mono ?_; rintro e w' ⟨rfl, rfl⟩)
      refine (impl_has_c (r := r) _ _ _ ⟨_, rfl, ((hs.keep (SameIn.alloc hhi _)).more (Nat.zero_le _) (by simp; omega))⟩ hv).mono ?_
      rintro e w2 ⟨rfl, hb2⟩
      go_wp2
      go_ret
      exact ⟨by rw [HE.out]; rfl, hbel.trans (hb2.mono (by simp))⟩
    · have hq : (decide ((0 : Int) ≤ y) && decide (y ≤ (r.rows.length : Int) - 1)) = false := by simp; omega
      have he : R = false := by rw [HR.out, opnC, inB]; simp; omega
      subst he
      go_enter Try.func93, Try.ntmps93
      go_wp2_with (go_at_call 94; refine (between_any _ _ _ _).mono ?_; rintro e w' ⟨rfl, rfl⟩)
      go_ret
      exact ⟨rfl, hbel⟩
  · have hp : (decide ((0 : Int) ≤ x) && decide (x ≤ r.w - 1)) = false := by simp; omega
    have he : R = false := by rw [HR.out, opnC, inB]; simp; omega
    subst he
    go_enter Try.func93, Try.ntmps93
    go_wp2_with (go_at_call 94; refine (between_any _ _ _ _).mono ?_; rintro e w' ⟨rfl, rfl⟩)
    go_ret
    exact ⟨rfl, hbel⟩
set_option maxRecDepth 100000 in
set_option maxHeartbeats 800000 in
theorem block2_c {r : Reg} {g2 : Nat} (c : Cell) (w : World) (hb2 : Blk w g2 3 #[.int .i64 r.rows.length]) (hv : r.Valid) :
    Calls Try.prog 96 #[cv c, .pointer (some ⟨g2, 0, none⟩)] w fun e w' => e = .returned (.bool (c.y == (r.rows.length : Int) - 1)) ∧ Below w.heap.size w w' := by
  obtain ⟨x, y⟩ := c
  unfold cv
  have hbel : Below w.heap.size w (w.alloc (.cells #[.int .i64 x, .int .i64 y] 62)) := (Below.refl _ _).alloc (Nat.le_refl _) _
  have c2 := hb2.cell 0
  simp at c2
  have hl2 := hb2.lt
  have v3 := hv.2.2.1
  have v4 := hv.2.2.2.1
  go_enter Try.func96, Try.ntmps96
  go_wp2
  go_ret
  exact ⟨rfl, hbel⟩

theorem startC_nd {rows : Bool} {n : Nat} : (startC rows n).Nodup := startC_nodup
def Reg.blockWay (r : Reg) : Option (List Cell) := if r.valid then bfs roundsL (opnC r false) (doneC r true) 37 (roots (opnC r false) (startC true r.w.toNat)) 0 else none

set_option maxRecDepth 100000 in
set_option maxHeartbeats 3200000 in
theorem impl_blockway_c {v : Value} {r : Reg} (w : World) (h : RegRd w 0 w.heap.size v r) :
    Calls Try.prog 31 #[v] w fun en w' => ∃ v', en = .returned (.tuple #[v', .bool r.blockWay.isSome]) ∧ CellsIn w' w.heap.size w'.heap.size v' (r.blockWay.getD []) ∧ Below w.heap.size w w' := by
  obtain ⟨s, rfl, hs⟩ := h
  obtain ⟨A, c, rfl, hm, hr⟩ := id hs
  obtain ⟨i0, hi, hz0, hz1, hz2⟩ := info_parts infoCell
  obtain ⟨R, hR⟩ : ∃ R, R = r.blockWay := ⟨_, rfl⟩
  rw [← hR]
  have H := (Sep.start w).box 31 #[.int .i64 r.w, .slice A r.rows.length c]
  go_enter Try.func31, Try.ntmps31
  go_wp2_with fail
  generalize w.alloc (.cells #[.int .i64 r.w, .slice A r.rows.length c] 31) = W at *
  refine (impl_IsRegion_c (r := r) _ ⟨_, rfl, ((hs.keep (SameIn.of_below H.below (Nat.le_refl _))).more (Nat.le_refl _) H.size)⟩).mono ?_
  rintro en w1 ⟨rfl, hb1⟩
  have H1 := H.step hb1
  clear H hb1
  cases hq : r.valid
  · have hn : R = none := by rw [hR, Reg.blockWay, hq]; rfl
    subst hn
    clear hR
    have hbel1 := H1.below
    go_wp2
    go_ret2
    exact ⟨_, rfl, CellsIn.nil, hbel1⟩
  · have hv : r.Valid := Reg.valid_iff.1 hq
    have hR2 : R = bfs roundsL (opnC r false) (doneC r true) 37 (roots (opnC r false) (startC true r.w.toNat)) 0 := by rw [hR, Reg.blockWay, hq]; rfl
    obtain ⟨wn, hwn⟩ : ∃ wn : Nat, wn = r.w.toNat := ⟨_, rfl⟩
    have hww : r.w = (wn : Int) := by have := hv.1; omega
    rw [← hwn] at hR2
    have HR := Lib.hid hR2
    have HV := Lib.hid hv
    have hw6 := hv.2.1
    have hw1 := hv.1
    have c0 := H1.h0.cell 0
    simp at c0
    have HW := Lib.hid hww
    clear hR hR2 hv hq hr hwn hww
    go_wp2
    clear c0
    have H1a := H1.nil 62 2
    go_loopw [4, 13] (fun o i wr => ∃ k : Nat, k ≤ wn ∧ i = .int .i64 k ∧ Sep w wr [Res.row o 62 2 (startC true k).length (cc (startC true k)), Res.box w.heap.size 31 #[.int .i64 r.w, .slice A r.rows.length c]]) (fun _ i _ => wn - (intOf i).toNat)
    case atStart => exact ⟨0, Nat.zero_le _, rfl, H1a⟩
    case round =>
      clear H1 H1a
      obtain ⟨k, hk, rfl, H⟩ := hrel
      have hwl : r.w ≤ 6 := hw6
      by_cases hlt : k < wn
      · have hlw : (k : Int) < r.w := by rw [HW.out]; omega
        have hcl : (startC true k).length = k := startC_length
        have hst : startC true (k + 1) = startC true k ++ [⟨k, 0⟩] := startC_succ
        have HCL := Lib.hid hcl
        have HST := Lib.hid hst
        have hl6 : (startC true k).length ≤ 6 := by omega
        have hkw : (k : Int) ≤ 6 := by omega
        clear hcl hst
        go_wp2_with (at_builtin; refine wpList_append_own_at _ rfl _ _ 42 rfl 0 62 i0 _ 2 16 Try.underlying42 hi hz0 hz1 hz2 rfl (by decide) _ _ _ rfl (H.alloc _).h0 ⟨wr.heap.size, 0, none⟩ 1 1 [.int .i64 (k : Int), .int .i64 0] rfl rfl (news_alloc wr #[.int .i64 (k : Int), .int .i64 0] _) (by intro u hu; simp at hu; rcases hu with rfl | rfl <;> rfl) (by unfold maxLen; omega) (by omega) (Nat.zero_le _) ?_; intro v' w3 how hgrow _ hat; have H3 := (H.alloc (.cells #[.int .i64 (k : Int), .int .i64 0] 62)).app how hgrow hat; clear how hgrow hat H)
        have H4 : Sep w w3 [Res.row v' 62 2 (startC true (k + 1)).length (cc (startC true (k + 1))), Res.box w.heap.size 31 #[.int .i64 r.w, .slice A r.rows.length c]] := by
          rw [HST.out, cc_append, List.length_append]; exact H3
        clear H3
        go_wp2
        go_roundw
        case rel => exact ⟨k + 1, by omega, by go_num, H4⟩
        case measure => simp [intOf]; omega
      · obtain rfl : k = wn := by omega
        have hlw : ¬ (k : Int) < r.w := by rw [HW.out]; omega
        have hst := (CellsIn.mk H.oi.1 rfl rfl).rd.more (Nat.zero_le _) (Nat.le_refl _)
        have c1 := H.h1.cell 1
        simp at c1
        have H3 := H.box 3 #[.int .i64 r.rows.length]
        have hst3 := hst.keep (SameIn.alloc (Nat.le_refl _) (.cells #[.int .i64 r.rows.length] 3))
        clear hst
        have hw6n : k ≤ 6 := by have := HW.out; omega
        go_wp2_with fail
        clear c1
        obtain ⟨g2, hg2⟩ : ∃ g2, g2 = wr.heap.size := ⟨_, rfl⟩
        rw [← hg2] at H3 hst3 ⊢
        clear H
        generalize wr.alloc (.cells #[.int .i64 r.rows.length] 3) = W3 at *
        refine (blockFrom roundsL (opnC r false) (doneC r true) w.heap.size g2 W3 (gridC r) (hst3.more (Nat.le_refl _) (Nat.le_of_lt H3.h0.lt)) startC_nd (gridC_length HV.out) (fun c h => gridC_mem (by rw [opnC] at h; simp only [Bool.and_eq_true] at h; exact h.1)) (fun c h => inB_near HV.out (by rw [opnC] at h; simp only [Bool.and_eq_true] at h; exact h.1)) (fun c => by rw [roundsL]; exact roundsTo_le) (by rw [startC_length]; exact hw6n)
          (fun c W hn => rounds_c c W hn)
          (fun c W hb => block1_c c W ((H3.step hb).h2) ((H3.step hb).h0) ((hs.keep (SameIn.of_below (H3.below.trans (hb.mono H3.size)) (Nat.le_refl _)))) (by have := hb.size; have := H3.size; omega) HV.out)
          (fun c W hb => by have := block2_c (r := r) c W ((H3.step hb).h0) HV.out; simpa [doneC] using this)).mono ?_
        rintro en w2 ⟨vv, rfl, ov, hb2⟩
        rw [← HR.out] at ov ⊢
        have H4 := H3.step hb2
        have ov2 : CellsIn w2 w.heap.size w2.heap.size vv (R.getD []) := ⟨own_more ov.1 H3.size, ov.2⟩
        clear ov hb2 H3 hst3
        go_wp2
        go_ret2
        exact ⟨_, rfl, ov2, H4.below⟩

set_option maxRecDepth 100000 in
theorem impl_isblocked_c {v : Value} {r : Reg} (w : World) (h : RegRd w 0 w.heap.size v r) :
    Calls Try.prog 28 #[v] w fun en w' => en = .returned (.bool r.blockWay.isSome) ∧ Below w.heap.size w w' := by
  obtain ⟨s, rfl, hs⟩ := h
  have hbel : Below w.heap.size w (w.alloc (.cells #[.int .i64 r.w, s] 31)) := (Below.refl _ _).alloc (Nat.le_refl _) _
  have BX : Blk (w.alloc (.cells #[.int .i64 r.w, s] 31)) w.heap.size 31 #[.int .i64 r.w, s] := Blk.new _ _ _
  have HZ : w.heap.size + 1 ≤ (w.alloc (.cells #[.int .i64 r.w, s] 31)).heap.size := by simp
  go_enter Try.func28, Try.ntmps28
  go_wp2_with fail
  generalize w.alloc (.cells #[.int .i64 r.w, s] 31) = W at *
  refine (impl_blockway_c (r := r) _ ⟨_, rfl, ((hs.keep (SameIn.of_below hbel (Nat.le_refl _))).more (Nat.le_refl _) (by omega))⟩).mono ?_
  rintro en w1 ⟨vv, rfl, ov, hb1⟩
  have hbel1 := hbel.trans (hb1.mono (by omega))
  clear hbel BX hb1 ov
  go_wp2
  go_ret
  exact ⟨rfl, hbel1⟩
end Go.Proofs.Ytjmeplchabehfaa
