
/-
  The walks over regions: copies. Regions in plain Lean: a place is turned; edits one by one. No program in sight. The walks over regions: is a place a cell, a cell removed.
-/
import Derived.Test.YtjkppigjajknaaaGreatDoorSepX
import Derived.Test.YtjkppigjajknaaaGreatDoorRegX
import Derived.Test.YtjkppigjajknaaaGreatDoorCwWalks
import Derived.Test.YtjkppigjajknaaaGreatDoorShpX
import Derived.IntWalk
namespace Go.Proofs.YtjkppigjajknaaaGreatDoor
open Go.RowKit

set_option maxRecDepth 100000 in
theorem infoIntC : (Tryz.prog.info? 3).map (fun i => (i.zero, i.size, i.bytes)) = some (some (.int .i64 0), 1, 8) := by kernel_rfl

set_option maxRecDepth 100000 in
set_option maxHeartbeats 400000 in
theorem impl_copyInts_c {v : Value} {l : List Int} (w : World) (h : IntsRd w 0 w.heap.size v l) (hn : l.length ≤ 1048576) :
    Calls Tryz.prog 140 #[v] w fun e w' => ∃ v', e = .returned v' ∧ IntsIn w' w.heap.size w'.heap.size v' l ∧ Below w.heap.size w w' := by
  obtain ⟨A, c, rfl, hm, hr⟩ := h
  obtain ⟨j0, hj, y0, y1, y2⟩ := info_parts infoIntC
  have H := (Sep.start w).nil 3 1
  go_enter Tryz.func140, Tryz.ntmps140
  go_wp2_with (at_builtin; refine wpList_app rfl _ _ 29 rfl 3 j0 _ 1 8 Tryz.underlying29 hj y0 y1 y2 rfl (by decide) _ _ _ rfl H A _ c (ic l) rfl hr ic_one (by unfold maxLen; omega) (by omega) ?_; intro v' w' H1)
  go_ret
  exact ⟨v', rfl, IntsIn.mk H1.oi.1 (by simp) (by simp), H1.below⟩

end Go.Proofs.YtjkppigjajknaaaGreatDoor

namespace Go.Proofs.YtjkppigjajknaaaGreatDoor
open Go.RowKit

def Reg.flip (r : Reg) (x y : Nat) : Reg := ⟨r.w, r.rows.set y (((r.row y) ^^^ 2 ^ x : Nat) : Int)⟩
theorem Reg.flip_len {r : Reg} {x y : Nat} : (r.flip x y).rows.length = r.rows.length := by simp [Reg.flip]
theorem Reg.flip_valid {r : Reg} (hv : r.Valid) {x y : Nat} (hx : (x : Int) < r.w) : (r.flip x y).Valid := by
  obtain ⟨h1, h2, h3, h4, h5⟩ := id hv
  refine ⟨h1, h2, by rw [Reg.flip_len]; exact h3, by rw [Reg.flip_len]; exact h4, fun a ha => ?_⟩
  rcases List.mem_or_eq_of_mem_set ha with h | rfl
  · exact h5 a h
  · have hlt : r.row y ^^^ 2 ^ x < 2 ^ r.w.toNat := Nat.xor_lt_two_pow (Reg.row_lt hv y) (Nat.pow_lt_pow_right (by decide) (by omega))
    refine ⟨Int.natCast_nonneg _, ?_⟩
    have : ((r.row y ^^^ 2 ^ x : Nat) : Int) < ((2 ^ r.w.toNat : Nat) : Int) := by exact_mod_cast hlt
    simpa [Reg.flip] using this
theorem xor_small : ∀ m, m < 64 → ∀ x, x < 6 → (m.testBit x = false → m ^^^ 2 ^ x = m + 2 ^ x) ∧ (m.testBit x = true → m ^^^ 2 ^ x = m - 2 ^ x ∧ 2 ^ x ≤ m) := by decide +kernel
theorem Reg.flip_add {r : Reg} (hv : r.Valid) {x y : Nat} (hx : (x : Int) < r.w) (hy : y < r.rows.length) (h : r.has x y = false) : r.row y ^^^ 2 ^ x = r.row y + 2 ^ x := by
  have h1 := Nat.lt_of_lt_of_le (Reg.row_lt hv y) (Reg.two_pow_le hv)
  have h2 := hv.2.1
  rw [Reg.has_eq hx hy] at h
  exact (xor_small _ h1 x (by omega)).1 h
theorem Reg.flip_sub {r : Reg} (hv : r.Valid) {x y : Nat} (hx : (x : Int) < r.w) (hy : y < r.rows.length) (h : r.has x y = true) : r.row y ^^^ 2 ^ x = r.row y - 2 ^ x ∧ 2 ^ x ≤ r.row y := by
  have h1 := Nat.lt_of_lt_of_le (Reg.row_lt hv y) (Reg.two_pow_le hv)
  have h2 := hv.2.1
  rw [Reg.has_eq hx hy] at h
  exact (xor_small _ h1 x (by omega)).2 h
def Reg.inn (r : Reg) (x y : Int) : Bool := decide (0 ≤ x ∧ x < r.w ∧ 0 ≤ y ∧ y < r.rows.length)
def Reg.apply1 (r : Reg) (e : Ed) : Option Reg := if r.inn e.x e.y && (r.has e.x e.y != e.add) then some (r.flip e.x.toNat e.y.toNat) else none
def Reg.applyTo (r : Reg) (l : List Ed) : Option Reg := l.foldlM Reg.apply1 r
def Reg.applyEds (r : Reg) (l : List Ed) : Option Reg := if r.valid && decide (l.length ≤ 40) then r.applyTo l else none
theorem Reg.apply1_valid {r r' : Reg} (hv : r.Valid) {e : Ed} (h : r.apply1 e = some r') : r'.Valid ∧ r'.w = r.w ∧ r'.rows.length = r.rows.length := by
  unfold Reg.apply1 at h
  split at h
  · rename_i hc
    injection h with h
    subst h
    simp [Reg.inn] at hc
    exact ⟨Reg.flip_valid hv (by omega), rfl, Reg.flip_len⟩
  · cases h
theorem Reg.applyTo_nil {r : Reg} : r.applyTo [] = some r := rfl
theorem Reg.applyTo_succ {r out : Reg} {l : List Ed} {k : Nat} {e : Ed} (h : r.applyTo (l.take k) = some out) (he : l[k]? = some e) : r.applyTo (l.take (k + 1)) = out.apply1 e := by
  have hk := (List.getElem?_eq_some_iff.1 he).1
  have e' := (List.getElem?_eq_some_iff.1 he).2
  unfold Reg.applyTo at h ⊢
  rw [List.take_succ_eq_append_getElem hk, List.foldlM_append, h, e']
  simp
theorem Reg.applyTo_stop {r out : Reg} {l : List Ed} {k : Nat} {e : Ed} (h : r.applyTo (l.take k) = some out) (he : l[k]? = some e) (hn : out.apply1 e = none) : r.applyTo l = none := by
  have hk := (List.getElem?_eq_some_iff.1 he).1
  have e' := (List.getElem?_eq_some_iff.1 he).2
  have hs := Reg.applyTo_succ h he
  have : r.applyTo (l.take (k + 1) ++ l.drop (k + 1)) = none := by
    unfold Reg.applyTo at hs ⊢
    rw [List.foldlM_append, hs, hn]
    rfl
  rwa [List.take_append_drop] at this
end Go.Proofs.YtjkppigjajknaaaGreatDoor

namespace Go.Proofs.YtjkppigjajknaaaGreatDoor
open Go.RowKit

def Reg.isIn (r : Reg) (x y : Int) : Bool := r.valid && r.has x y
def Reg.less (r : Reg) (x y : Int) : Reg := if r.isIn x y then r.flip x.toNat y.toNat else r
theorem Reg.less_len {r : Reg} {x y : Int} : (r.less x y).rows.length = r.rows.length := by
  unfold Reg.less
  split
  · exact Reg.flip_len
  · rfl
theorem andNot_small : ∀ m, m < 64 → ∀ x, x < 6 → m.testBit x = true → m &&& (18446744073709551616 - (2 ^ x + 1)) = m ^^^ 2 ^ x := by decide +kernel

set_option maxRecDepth 100000 in
set_option maxHeartbeats 800000 in
theorem spec_inRegion_c {v : Value} {r : Reg} (x y : Int) (w : World) (h : RegRd w 0 w.heap.size v r) :
    Calls Tryz.prog 195 #[v, .int .i64 x, .int .i64 y] w fun en w' => en = .returned (.bool (r.isIn x y)) ∧ Below w.heap.size w w' := by
  obtain ⟨s, rfl, hs⟩ := h
  have H := (Sep.start w).box 36 #[.int .i64 r.w, s]
  obtain ⟨q, hq⟩ : ∃ q, q = r.isIn x y := ⟨_, rfl⟩
  rw [← hq]
  have HQ := Lib.hid hq
  clear hq
  go_enter Tryz.func195, Tryz.ntmps195
  go_wp2_with fail
  generalize w.alloc (.cells #[.int .i64 r.w, s] 36) = W at *
  refine (spec_IsRegion_c (r := r) W ⟨s, rfl, (hs.keep (SameIn.of_below H.below (Nat.le_refl _))).more (Nat.le_refl _) H.size⟩).mono ?_
  rintro e w1 ⟨rfl, b1⟩
  have H1 := H.step b1
  clear b1 H
  cases hv : r.valid
  · have hq0 : q = false := by rw [HQ.out, Reg.isIn, hv]; rfl
    subst hq0
    clear hv
    have hB := H1.below
    go_wp2
    go_ret
    exact ⟨rfl, hB⟩
  · have hq0 : q = r.has x y := by rw [HQ.out, Reg.isIn, hv]; rfl
    have HQ2 := Lib.hid hq0
    have hV := Reg.valid_iff.1 hv
    have c0 := H1.h0.cell 0
    have c1 := H1.h0.cell 1
    simp at c0 c1
    clear hv hq0
    go_wp2_with fail
    clear c0 c1
    refine (spec_has_c (r := r) x y w1 ⟨s, rfl, (hs.keep (SameIn.of_below H1.below (Nat.le_refl _))).more (Nat.le_refl _) H1.size⟩ hV).mono ?_
    rintro e w2 ⟨rfl, b2⟩
    rw [← HQ2.out]
    have H2 := H1.step b2
    clear b2 H1
    have hB := H2.below
    go_wp2
    go_ret
    exact ⟨rfl, hB⟩

theorem shl_one {x : Nat} (h : 2 ^ x ≤ 64) : wrap64 ((2 ^ x : Nat) : Int) = ((2 ^ x : Nat) : Int) := by
  generalize 2 ^ x = p at *
  exact IntWalk.wrap64_in _ ⟨by omega, by omega⟩
end Go.Proofs.YtjkppigjajknaaaGreatDoor
