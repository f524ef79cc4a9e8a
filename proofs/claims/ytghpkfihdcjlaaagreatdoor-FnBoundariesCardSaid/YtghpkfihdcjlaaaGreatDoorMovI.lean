
/-
  Shapes moved and turned: the program's loops.
-/
import Derived.Test.YtghpkfihdcjlaaaGreatDoorMotAB
import Derived.Test.YtghpkfihdcjlaaaGreatDoorSepX
namespace Go.Proofs.YtghpkfihdcjlaaaGreatDoor
open Go.RowKit

set_option maxRecDepth 100000 in
theorem infoCellI : (Tryz.prog.info? 46).map (fun i => (i.zero, i.size, i.bytes)) = some (some (.agg #[.int .i64 0, .int .i64 0]), 2, 16) := by kernel_rfl
def moveS (s : List Cell) (x y : Int) : List Cell := s.map fun c => ⟨c.x + x, c.y + y⟩
theorem moveS_len {s : List Cell} {x y : Int} : (moveS s x y).length = s.length := by simp [moveS]
theorem map_take_g {f : Cell → Cell} {k : Nat} {s : List Cell} {d : Cell} (h : s[k]? = some d) : cc ((s.take k).map f) ++ [Value.int .i64 (f d).x, .int .i64 (f d).y] = cc ((s.take (k + 1)).map f) := by
  rw [List.take_add_one, h, List.map_append, cc_append]; rfl
set_option maxRecDepth 100000 in
set_option maxHeartbeats 1600000 in
theorem impl_moved_c {v : Value} {s : List Cell} (x y : Int) (w : World) (h : CellsRd w 0 w.heap.size v s) (h8 : s.length ≤ 64) (hs : ∀ c ∈ s, Sml 100 c) (hx : -100 ≤ x ∧ x ≤ 100) (hy : -100 ≤ y ∧ y ≤ 100) :
    Calls Tryz.prog 62 #[v, .int .i64 x, .int .i64 y] w fun e w' => ∃ v', e = .returned v' ∧ CellsIn w' w.heap.size w'.heap.size v' (moveS s x y) ∧ Below w.heap.size w w' := by
  obtain ⟨i0, hi, hz0, hz1, hz2⟩ := info_parts infoCellI
  obtain ⟨A, c, rfl, hm', hr⟩ := h
  have H0 := (Sep.start w).nil 46 2
  have HR := Lib.hid hr
  have HS := Lib.hid hs
  clear hr hs
  obtain ⟨x1, x2⟩ := hx
  obtain ⟨y1, y2⟩ := hy
  go_enter Tryz.func62, Tryz.ntmps62
  go_wp2
  go_loopw [7, 12] (fun ov iv wx => ∃ i : Nat, i ≤ s.length ∧ iv = .int .i64 i ∧ Sep w wx [Res.row ov 46 2 i (cc ((s.take i).map fun c => ⟨c.x + x, c.y + y⟩))]) (fun _ iv _ => s.length - (intOf iv).toNat)
  case atStart => exact ⟨0, Nat.zero_le _, rfl, H0⟩
  case round =>
    clear H0
    obtain ⟨i, his, rfl, H⟩ := hrel
    by_cases hlt : i < s.length
    · obtain ⟨b, off, d, rfl, _, hb, hla, q1, q2⟩ := (HR.out.below H.below (Nat.le_refl _)).at2 hlt
      obtain ⟨⟨d1, d2⟩, d3, d4⟩ := HS.out d (List.mem_of_getElem? hla)
      have HT := Lib.hid (map_take_g (f := fun c => ⟨c.x + x, c.y + y⟩) hla)
      have H1 := H.box 46 #[.int .i64 d.x, .int .i64 d.y]
      have z1 : IntKind.i64.wrap (d.x + x) = d.x + x := IntWalk.i64_in _ (by omega)
      have z2 : IntKind.i64.wrap (d.y + y) = d.y + y := IntWalk.i64_in _ (by omega)
      clear hla H
      go_upto_region 5 with fail
      obtain ⟨g, hg⟩ : ∃ g, g = wr.heap.size := ⟨_, rfl⟩
      rw [← hg] at H1 ⊢
      generalize wr.alloc (.cells #[.int .i64 d.x, .int .i64 d.y] 46) = W at *
      clear hg q1 q2
      have k0 : W.cell? ⟨g, 0, none⟩ = some (.int .i64 d.x) := H1.h0.cell 0
      have k1 : W.cell? ⟨g, 1, none⟩ = some (.int .i64 d.y) := H1.h0.cell 1
      have H2 := H1.drop
      clear H1
      go_wp2_with (at_builtin; refine wpList_app rfl _ _ 24 rfl 46 i0 _ 2 16 Tryz.underlying24 hi hz0 hz1 hz2 rfl (by decide) _ _ _ rfl (H2.alloc _) _ _ _ [.int .i64 (d.x + x), .int .i64 (d.y + y)] rfl (Rd.fresh W _ #[.int .i64 (d.x + x), .int .i64 (d.y + y)] 2 1 rfl) oc2 (by unfold maxLen; omega) (by omega) ?_; intro v2 w2 H3; clear H2 k0 k1)
      rw [HT.out] at H3
      clear z1 z2
      go_roundw
      case rel => exact ⟨i + 1, by omega, by go_num, H3⟩
      case measure => simp [intOf]; omega
    · obtain rfl : i = s.length := by omega
      rw [List.take_length] at H
      have HL : Hid (s.length = (moveS s x y).length) := Lib.hid moveS_len.symm
      go_wp2
      go_ret
      have HO : CellsIn wr w.heap.size wr.heap.size u7 (moveS s x y) := by unfold CellsIn; rw [← HL.out]; exact H.oi
      exact ⟨_, rfl, HO, H.below⟩
end Go.Proofs.YtghpkfihdcjlaaaGreatDoor
