
/-
  Shapes turned: the reference's walk. The order of shapes, on both sides.
-/
import Derived.Test.YtdbneilhgckhjaaDoorMotC
namespace Go.Proofs.YtdbneilhgckhjaaDoor
open Go.RowKit

/-- a shape carried by a motion, in its corner -/
def turnS (m : Nat) (s : List Cell) : List Cell := corner (sortC (s.map (carryC m)))
theorem turn_sml {m : Nat} {s : List Cell} {b : Int} (h : ∀ c ∈ s, Sml b c) : ∀ c ∈ sortC (s.map (carryC m)), Sml b c := fun c hc => by
  rw [mem_sortC] at hc
  obtain ⟨d, hd, rfl⟩ := List.mem_map.1 hc
  exact carryC_sml (h d hd)
theorem sortC_pos {s : List Cell} (h : 1 ≤ s.length) : 1 ≤ (sortC s).length := by
  obtain ⟨c, hc⟩ := List.exists_mem_of_ne_nil s (by intro e; rw [e] at h; simp at h)
  exact List.length_pos_of_mem (mem_sortC.2 hc)
theorem map_take_c {m k : Nat} {s : List Cell} {d : Cell} (h : s[k]? = some d) : cc ((s.take k).map (carryC m)) ++ [Value.int .i64 (carryC m d).x, .int .i64 (carryC m d).y] = cc ((s.take (k + 1)).map (carryC m)) := by
  rw [List.take_add_one, h, List.map_append, cc_append]; rfl
set_option maxRecDepth 100000 in
set_option maxHeartbeats 1600000 in
theorem spec_turn_c {v : Value} {s : List Cell} (m : Nat) (w : World) (h : CellsRd w 0 w.heap.size v s) (hm : m < 8) (h1 : 1 ≤ s.length) (h8 : s.length ≤ 64) (hs : ∀ c ∈ s, Sml 100 c) :
    Calls Tryd.prog 127 #[v, .int .i64 m] w fun e w' => ∃ v', e = .returned v' ∧ CellsIn w' w.heap.size w'.heap.size v' (turnS m s) ∧ Below w.heap.size w w' := by
  obtain ⟨i0, hi, hz0, hz1, hz2⟩ := info_parts infoCellS
  obtain ⟨A, c, rfl, hm', hr⟩ := h
  have H0 := (Sep.start w).rowBox 73 #[] 2 0 rfl (by decide)
  have HR := Lib.hid hr
  have HS := Lib.hid hs
  clear hr hs
  go_enter Tryd.func127, Tryd.ntmps127
  go_wp2
  go_loopw [5, 6] (fun ov iv wx => ∃ i : Nat, i ≤ s.length ∧ iv = .int .i64 i ∧ Sep w wx [Res.row ov 73 2 i (cc ((s.take i).map (carryC m)))]) (fun _ iv _ => s.length - (intOf iv).toNat)
  case atStart => exact ⟨0, Nat.zero_le _, rfl, H0⟩
  case round =>
    clear H0
    obtain ⟨i, his, rfl, H⟩ := hrel
    by_cases hlt : i < s.length
    · obtain ⟨b, off, d, rfl, _, hb, hla, q1, q2⟩ := (HR.out.below H.below (Nat.le_refl _)).at2 hlt
      have HC := Lib.hid (spec_apply_c d m wr hm (HS.out d (List.mem_of_getElem? hla)))
      have HT := Lib.hid (map_take_c (m := m) hla)
      clear hla
      go_wp2_with fail
      refine (HC.out).mono ?_
      rintro e w1 ⟨rfl, b1⟩
      have H1 := H.step b1
      clear H HC b1 q1 q2
      go_wp2_with (at_builtin; refine wpList_app rfl _ _ 53 rfl 73 i0 _ 2 16 Tryd.underlying53 hi hz0 hz1 hz2 rfl (by decide) _ _ _ rfl (H1.alloc _) _ _ _ [.int .i64 (carryC m d).x, .int .i64 (carryC m d).y] rfl (Rd.fresh w1 _ #[.int .i64 (carryC m d).x, .int .i64 (carryC m d).y] 2 1 rfl) oc2 (by unfold maxLen; omega) (by omega) ?_; intro v2 w2 H2; clear H1)
      rw [HT.out] at H2
      go_roundw
      case rel => exact ⟨i + 1, by omega, by go_num, H2⟩
      case measure => simp [intOf]; omega
    · obtain rfl : i = s.length := by omega
      rw [List.take_length] at H
      have HLn : Hid ((s.map (carryC m)).length = s.length) := Lib.hid (by simp)
      have hrd : CellsRd wr 0 wr.heap.size u5 (s.map (carryC m)) := by
        have := H.oi.sr.more (Nat.zero_le _) (Nat.le_refl _)
        rw [← HLn.out] at this
        exact this
      have HSC := Lib.hid (spec_sort_c wr hrd (by rw [HLn.out]; exact h8))
      obtain ⟨A5, c5, rfl, _, _, _⟩ := Res.row_at H.h0
      have hbel := H.below
      clear H hrd
      go_wp2_with fail
      refine (HSC.out).mono ?_
      rintro e w1 ⟨v1, rfl, o1, b1⟩
      have hb1 := hbel.trans (b1.mono hbel.size)
      have HCO := Lib.hid (l2CornerB_c w1 (o1.rd.more (Nat.zero_le _) (Nat.le_refl _)) (sortC_pos (by rw [HLn.out]; exact h1)) (Nat.le_trans sortC_len (by rw [HLn.out]; exact h8)) (turn_sml HS.out))
      obtain ⟨A1, c1, rfl, _, _⟩ := o1.rd
      clear hbel b1 o1 HSC
      go_wp2_with fail
      refine (HCO.out).mono ?_
      rintro e w2 ⟨v2, rfl, o2, b2⟩
      have hb2 := hb1.trans (b2.mono hb1.size)
      have HO : CellsIn w2 w.heap.size w2.heap.size v2 (turnS m s) := OI.base o2 hb1.size (Nat.le_refl _)
      go_wp2
      go_ret
      exact ⟨_, rfl, HO, hb2⟩
end Go.Proofs.YtdbneilhgckhjaaDoor
