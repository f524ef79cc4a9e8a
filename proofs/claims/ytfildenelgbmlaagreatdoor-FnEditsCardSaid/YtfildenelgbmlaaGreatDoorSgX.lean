
/-
  Have two regions the same grid? Plain, and the program's walk.
-/
import Derived.Test.YtfildenelgbmlaaGreatDoorRegX
namespace Go.Proofs.YtfildenelgbmlaaGreatDoor
open Go.RowKit

def sameGrid (a b : Reg) : Bool := a.valid && b.valid && decide (a.w = b.w) && decide (a.rows.length = b.rows.length)
set_option maxRecDepth 100000 in
set_option maxHeartbeats 1600000 in
theorem sameGrid_c {v v' : Value} {a b : Reg} (w : World) (h : RegRd w 0 w.heap.size v a) (h' : RegRd w 0 w.heap.size v' b) :
    Calls Tryz.prog 109 #[v, v'] w fun e w' => e = .returned (.bool (sameGrid a b)) ∧ Below w.heap.size w w' := by
  obtain ⟨s, rfl, hs⟩ := h
  obtain ⟨A, c, rfl, hm, hr⟩ := id hs
  obtain ⟨s', rfl, hs'⟩ := h'
  obtain ⟨A', c', rfl, hm', hr'⟩ := id hs'
  unfold maxLen at hm hm'
  have hbel : Below w.heap.size w ((w.alloc (.cells #[.int .i64 a.w, .slice A a.rows.length c] 36)).alloc (.cells #[.int .i64 b.w, .slice A' b.rows.length c'] 36)) := ((Below.refl _ _).alloc (Nat.le_refl _) _).alloc (by simp) _
  have B0 : Blk ((w.alloc (.cells #[.int .i64 a.w, .slice A a.rows.length c] 36)).alloc (.cells #[.int .i64 b.w, .slice A' b.rows.length c'] 36)) w.heap.size 36 #[.int .i64 a.w, .slice A a.rows.length c] := (Blk.new _ _ _).alloc _
  have B1 : Blk ((w.alloc (.cells #[.int .i64 a.w, .slice A a.rows.length c] 36)).alloc (.cells #[.int .i64 b.w, .slice A' b.rows.length c'] 36)) (w.heap.size + 1) 36 #[.int .i64 b.w, .slice A' b.rows.length c'] := by
    have := Blk.new (w.alloc (.cells #[.int .i64 a.w, .slice A a.rows.length c] 36)) 36 #[.int .i64 b.w, .slice A' b.rows.length c']
    simpa using this
  have hsz : ((w.alloc (.cells #[.int .i64 a.w, .slice A a.rows.length c] 36)).alloc (.cells #[.int .i64 b.w, .slice A' b.rows.length c'] 36)).heap.size = w.heap.size + 2 := by simp
  obtain ⟨g, hg⟩ : ∃ g, g = sameGrid a b := ⟨_, rfl⟩
  rw [← hg]
  have HG := Lib.hid hg
  clear hg
  go_enter Tryz.func109, Tryz.ntmps109
  go_wp2_with fail
  generalize ((w.alloc (.cells #[.int .i64 a.w, .slice A a.rows.length c] 36)).alloc (.cells #[.int .i64 b.w, .slice A' b.rows.length c'] 36)) = W at *
  refine (impl_IsRegion_c (r := a) _ ⟨_, rfl, ((hs.keep (SameIn.of_below hbel (Nat.le_refl _))).more (Nat.le_refl _) (by omega))⟩).mono ?_
  rintro e w1 ⟨rfl, hb1⟩
  have B0' := B0.below hb1 (by omega)
  have B1' := B1.below hb1 (by omega)
  have hbel1 := hbel.trans (hb1.mono (by omega))
  cases ha : a.valid
  · obtain rfl : g = false := by rw [HG.out]; simp [sameGrid, ha]
    clear B0 B1 B0' B1'
    go_wp2
    go_ret
    exact ⟨rfl, hbel1⟩
  · have c00 := B0'.cell 0
    have c01 := B0'.cell 1
    have c10 := B1'.cell 0
    have c11 := B1'.cell 1
    simp at c00 c01 c10 c11
    have HS := Lib.hid hsz
    have hsz1 := hb1.size
    clear hsz B0 B1
    go_wp2_with fail
    refine (impl_IsRegion_c (r := b) _ ⟨_, rfl, ((hs'.keep (SameIn.of_below hbel1 (Nat.le_refl _))).more (Nat.le_refl _) (by have := HS.out; omega))⟩).mono ?_
    rintro e w2 ⟨rfl, hb2⟩
    have B0 := B0'.below hb2 B0'.lt
    have B1 := B1'.below hb2 B1'.lt
    have hbel2 := hbel1.trans (hb2.mono (by have := HS.out; omega))
    cases hb : b.valid
    · obtain rfl : g = false := by rw [HG.out]; simp [sameGrid, hb]
      clear B0 B1 B0' B1' c00 c01 c10 c11
      go_wp2
      go_ret
      exact ⟨rfl, hbel2⟩
    · clear c00 c01 c10 c11
      have c00 := B0.cell 0
      have c01 := B0.cell 1
      have c10 := B1.cell 0
      have c11 := B1.cell 1
      simp at c00 c01 c10 c11
      by_cases hw : a.w = b.w
      · have e1 : (a.w == b.w) = true := by simp [hw]
        by_cases hl : a.rows.length = b.rows.length
        · have e2 : ((a.rows.length : Int) == (b.rows.length : Int)) = true := by simp [hl]
          obtain rfl : g = true := by rw [HG.out]; simp [sameGrid, ha, hb, hw, hl]
          clear B0 B1 B0' B1' ha hb hw hl
          go_wp2
          go_ret
          exact ⟨rfl, hbel2⟩
        · have e2 : ((a.rows.length : Int) == (b.rows.length : Int)) = false := by simp; omega
          obtain rfl : g = false := by rw [HG.out]; simp [sameGrid, hl]
          clear B0 B1 B0' B1' ha hb hw
          go_wp2
          go_ret
          exact ⟨rfl, hbel2⟩
      · have e1 : (a.w == b.w) = false := by simp [hw]
        obtain rfl : g = false := by rw [HG.out]; simp [sameGrid, hw]
        clear B0 B1 B0' B1' ha hb
        go_wp2
        go_ret
        exact ⟨rfl, hbel2⟩

end Go.Proofs.YtfildenelgbmlaaGreatDoor
