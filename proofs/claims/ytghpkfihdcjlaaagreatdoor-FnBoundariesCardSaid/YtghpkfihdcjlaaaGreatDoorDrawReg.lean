
/-
  The law's drawing of regions.
-/
import Derived.Test.YtghpkfihdcjlaaaGreatDoorDraw
import Derived.Test.YtghpkfihdcjlaaaGreatDoorRect
import Derived.Test.YtghpkfihdcjlaaaGreatDoorFlipX
namespace Go.Proofs.YtghpkfihdcjlaaaGreatDoor
open Go.RowKit

theorem Cur.map {w0 w w' : World} {g : Nat} {l : List UInt8} {L L' : List Res} (h : Cur w0 w g l L) (f : ∀ X, Sep w0 w (X :: L) → Sep w0 w' (X :: L')) : Cur w0 w' g l L' := by
  obtain ⟨A, c, i, hh, h1, h2, h3, h4, h5, H⟩ := h
  exact ⟨A, c, i, hh, h1, h2, h3, h4, h5, f _ H⟩
theorem Reg.less_valid {r : Reg} (hv : r.Valid) {x y : Int} : (r.less x y).Valid ∧ (r.less x y).w = r.w := by
  unfold Reg.less
  split
  · rename_i h
    simp only [Reg.isIn, Bool.and_eq_true] at h
    by_cases hc : 0 ≤ x ∧ x < r.w ∧ 0 ≤ y ∧ y < r.rows.length
    · exact ⟨Reg.flip_valid hv (by omega), rfl⟩
    · rw [Reg.has_out hc] at h; cases h.2
  · exact ⟨hv, rfl⟩

set_option maxRecDepth 100000 in
set_option maxHeartbeats 800000 in
theorem l1Pick_c {g b n : Nat} {l : List UInt8} {w0 w : World} {L : List Res} {xs : List Int} (hn : xs.length = n) (h1 : 1 ≤ n) (h2 : n ≤ 1000) (H : Cur w0 w g l (Res.row (.slice (some ⟨b, 0, none⟩) n n) 3 1 n (ic xs) :: L)) :
    Calls Tryz.prog 69 #[.pointer (some ⟨g, 0, none⟩), .slice (some ⟨b, 0, none⟩) n n] w fun e w' => ∃ x : Int, e = .returned (.int .i64 x) ∧ x ∈ xs ∧ Cur w0 w' g l (Res.row (.slice (some ⟨b, 0, none⟩) n n) 3 1 n (ic xs) :: L) := by
  go_enter Tryz.func69, Tryz.ntmps69
  go_wp2_with fail
  refine (l1Below_c (n : Int) H (by omega)).mono ?_
  rintro e w1 ⟨x, rfl, hx1, hx2, hx3, H1⟩
  have hxn := hx2 (by omega)
  obtain ⟨k, rfl⟩ := Int.eq_ofNat_of_zero_le hx1
  have hk : k < xs.length := by omega
  have r0 := own_cell1 H1.sep.h0 (List.getElem?_eq_getElem hk)
  simp only [Nat.zero_add] at r0
  have hmem := List.getElem_mem hk
  generalize xs[k] = a at *
  clear hx2 hx3 H
  go_wp2
  go_ret
  exact ⟨a, rfl, hmem, H1⟩

end Go.Proofs.YtghpkfihdcjlaaaGreatDoor
