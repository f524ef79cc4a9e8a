
/-
  Shapes turned: the reference's walk. The order of shapes, on both sides. A shape put into an ordered list, once: the reference's walk.
-/
import Derived.Test.YtghpkfihdcjlaaaMotC
import Derived.Test.YtghpkfihdcjlaaaPairR
namespace Go.Proofs.Ytghpkfihdcjlaaa
open Go.RowKit

/-- a shape carried by a motion, in its corner -/
def turnS (m : Nat) (s : List Cell) : List Cell := corner (sortC (s.map (carryC m)))
theorem turn_sml {m : Nat} {s : List Cell} {b : Int} (h : ∀ c ∈ s, Sml b c) : ∀ c ∈ sortC (s.map (carryC m)), Sml b c := fun c hc => by
  rw [mem_sortC] at hc
  obtain ⟨d, hd, rfl⟩ := List.mem_map.1 hc
  exact carryC_sml (h d hd)
theorem sortC_pos {s : List Cell} (h : 1 ≤ s.length) : 1 ≤ (sortC s).length := by
  obtain ⟨c, hc⟩ := List.exists_mem_of_ne_nil s (by intro e; rw [e] at h; simp at h)
  exact List.length_pos_of_mem (mem_sortC.2 hc)
theorem map_take_c {m k : Nat} {s : List Cell} {d : Cell} (h : s[k]? = some d) : cc ((s.take k).map (carryC m)) ++ [Value.int .i64 (carryC m d).x, .int .i64 (carryC m d).y] = cc ((s.take (k + 1)).map (carryC m)) := by
  rw [List.take_add_one, h, List.map_append, cc_append]; rfl
set_option maxRecDepth 100000 in
set_option maxHeartbeats 1600000 in
theorem spec_turn_c {v : Value} {s : List Cell} (m : Nat) (w : World) (h : CellsRd w 0 w.heap.size v s) (hm : m < 8) (h1 : 1 ≤ s.length) (h8 : s.length ≤ 64) (hs : ∀ c ∈ s, Sml 100 c) :
    Calls Try.prog 46 #[v, .int .i64 m] w fun e w' => ∃ v', e = .returned v' ∧ CellsIn w' w.heap.size w'.heap.size v' (turnS m s) ∧ Below w.heap.size w w' := by
  obtain ⟨i0, hi, hz0, hz1, hz2⟩ := info_parts infoCellS
  obtain ⟨A, c, rfl, hm', hr⟩ := h
  have H0 := (Sep.start w).rowBox 41 #[] 2 0 rfl (by decide)
  have HR := Lib.hid hr
  have HS := Lib.hid hs
  clear hr hs
  go_enter Try.func46, Try.ntmps46
  go_wp2
  go_loopw [5, 6] (fun ov iv wx => ∃ i : Nat, i ≤ s.length ∧ iv = .int .i64 i ∧ Sep w wx [Res.row ov 41 2 i (cc ((s.take i).map (carryC m)))]) (fun _ iv _ => s.length - (intOf iv).toNat)
  case atStart => exact ⟨0, Nat.zero_le _, rfl, H0⟩
  case round =>
    clear H0
    obtain ⟨i, his, rfl, H⟩ := hrel
    by_cases hlt : i < s.length
    · obtain ⟨b, off, d, rfl, _, hb, hla, q1, q2⟩ := (HR.out.below H.below (Nat.le_refl _)).at2 hlt
      have HC := Lib.hid (spec_apply_c d m wr hm (HS.out d (List.mem_of_getElem? hla)))
      have HT := Lib.hid (map_take_c (m := m) hla)
      clear hla
      go_wp2_with fail
      refine (HC.out).mono ?_
      rintro e w1 ⟨rfl, b1⟩
      have H1 := H.step b1
      clear H HC b1 q1 q2
      go_wp2_with (at_builtin; refine wpList_app rfl _ _ 24 rfl 41 i0 _ 2 16 Try.underlying24 hi hz0 hz1 hz2 rfl (by decide) _ _ _ rfl (H1.alloc _) _ _ _ [.int .i64 (carryC m d).x, .int .i64 (carryC m d).y] rfl (Rd.fresh w1 _ #[.int .i64 (carryC m d).x, .int .i64 (carryC m d).y] 2 1 rfl) oc2 (by unfold maxLen; omega) (by omega) ?_; intro v2 w2 H2; clear H1)
      rw [HT.out] at H2
      go_roundw
      case rel => exact ⟨i + 1, by omega, by go_num, H2⟩
      case measure => simp [intOf]; omega
    · obtain rfl : i = s.length := by omega
      rw [List.take_length] at H
      have HLn : Hid ((s.map (carryC m)).length = s.length) := Lib.hid (by simp)
      have hrd : CellsRd wr 0 wr.heap.size u5 (s.map (carryC m)) := by
        have := H.oi.sr.more (Nat.zero_le _) (Nat.le_refl _)
        rw [← HLn.out] at this
        exact this
      have HSC := Lib.hid (spec_sort_c wr hrd (by rw [HLn.out]; exact h8))
      obtain ⟨A5, c5, rfl, _, _, _⟩ := Res.row_at H.h0
      have hbel := H.below
      clear H hrd
      go_wp2_with fail
      refine (HSC.out).mono ?_
      rintro e w1 ⟨v1, rfl, o1, b1⟩
      have hb1 := hbel.trans (b1.mono hbel.size)
      have HCO := Lib.hid (l2CornerB_c w1 (o1.rd.more (Nat.zero_le _) (Nat.le_refl _)) (sortC_pos (by rw [HLn.out]; exact h1)) (Nat.le_trans sortC_len (by rw [HLn.out]; exact h8)) (turn_sml HS.out))
      obtain ⟨A1, c1, rfl, _, _⟩ := o1.rd
      clear hbel b1 o1 HSC
      go_wp2_with fail
      refine (HCO.out).mono ?_
      rintro e w2 ⟨v2, rfl, o2, b2⟩
      have hb2 := hb1.trans (b2.mono hb1.size)
      have HO : CellsIn w2 w.heap.size w2.heap.size v2 (turnS m s) := OI.base o2 hb1.size (Nat.le_refl _)
      go_wp2
      go_ret
      exact ⟨_, rfl, HO, hb2⟩
end Go.Proofs.Ytghpkfihdcjlaaa

namespace Go.Proofs.Ytghpkfihdcjlaaa
open Go.RowKit

set_option maxRecDepth 100000 in
theorem infoCellsP : (Try.prog.info? 24).map (fun i => (i.zero, i.size, i.bytes)) = some (some (.slice none 0 0), 1, 24) := by kernel_rfl
structure PutAt (s : List Cell) (M : List (List Cell)) (k : Nat) : Prop where
  le : k ≤ M.length
  hi : ∀ (j : Nat) (r : List Cell), k ≤ j → M[j]? = some r → cmpS s r < 0
  lo : ∀ r : List Cell, 0 < k → M[k - 1]? = some r → ¬ cmpS s r < 0
def PutPost (vs : List Value) (M : List (List Cell)) (v u : Value) (s : List Cell) (w : World) (e : Ending) (w' : World) : Prop :=
  ∃ v', e = .returned v' ∧ Below w.heap.size w w' ∧ ∃ k, PutAt s M k ∧ ((0 < k ∧ M[k - 1]? = some s ∧ v' = v) ∨ (¬ (0 < k ∧ M[k - 1]? = some s) ∧ OI w' w.heap.size w'.heap.size 24 1 v' (M.length + 1) (vs.take k ++ u :: vs.drop k)))
theorem slots_one {w : World} {lo hi : Nat} {vs : List Value} {l : List (List Cell)} (h : SlotsRd w lo hi vs l) : ∀ u ∈ vs, u.oneCell' = true := by
  intro u hu
  obtain ⟨i, hi⟩ := List.getElem?_of_mem hu
  have hl : i < l.length := by have := (List.getElem?_eq_some_iff.1 hi).1; rw [h.1] at this; exact this
  obtain ⟨x, hx, A, c, rfl, _⟩ := h.2 i l[i] (List.getElem?_eq_getElem hl)
  rw [hx] at hi
  injection hi with hi
  subst hi
  rfl
theorem ocv2 {v : Value} (h : v.oneCell' = true) : ∀ u ∈ [v], u.oneCell' = true := by intro u hu; simp at hu; subst hu; exact h
end Go.Proofs.Ytghpkfihdcjlaaa
