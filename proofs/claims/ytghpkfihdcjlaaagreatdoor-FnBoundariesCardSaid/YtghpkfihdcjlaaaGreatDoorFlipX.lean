
/-
  The walks over regions: copies. Regions in plain Lean: a place is turned; edits one by one. No program in sight. The walks over regions: is a place a cell, a cell removed.
-/
import Derived.Test.YtghpkfihdcjlaaaGreatDoorSepX
import Derived.Test.YtghpkfihdcjlaaaGreatDoorRegX
import Derived.Test.YtghpkfihdcjlaaaGreatDoorCwWalks
import Derived.Test.YtghpkfihdcjlaaaGreatDoorShpX
import Derived.IntWalk
namespace Go.Proofs.YtghpkfihdcjlaaaGreatDoor
open Go.RowKit

set_option maxRecDepth 100000 in
theorem infoIntC : (Tryz.prog.info? 3).map (fun i => (i.zero, i.size, i.bytes)) = some (some (.int .i64 0), 1, 8) := by kernel_rfl


end Go.Proofs.YtghpkfihdcjlaaaGreatDoor

namespace Go.Proofs.YtghpkfihdcjlaaaGreatDoor
open Go.RowKit

def Reg.flip (r : Reg) (x y : Nat) : Reg := ⟨r.w, r.rows.set y (((r.row y) ^^^ 2 ^ x : Nat) : Int)⟩
theorem Reg.flip_len {r : Reg} {x y : Nat} : (r.flip x y).rows.length = r.rows.length := by simp [Reg.flip]
theorem Reg.flip_valid {r : Reg} (hv : r.Valid) {x y : Nat} (hx : (x : Int) < r.w) : (r.flip x y).Valid := by
  obtain ⟨h1, h2, h3, h4, h5⟩ := id hv
  refine ⟨h1, h2, by rw [Reg.flip_len]; exact h3, by rw [Reg.flip_len]; exact h4, fun a ha => ?_⟩
  rcases List.mem_or_eq_of_mem_set ha with h | rfl
  · exact h5 a h
  · have hlt : r.row y ^^^ 2 ^ x < 2 ^ r.w.toNat := Nat.xor_lt_two_pow (Reg.row_lt hv y) (Nat.pow_lt_pow_right (by decide) (by omega))
    refine ⟨Int.natCast_nonneg _, ?_⟩
    have : ((r.row y ^^^ 2 ^ x : Nat) : Int) < ((2 ^ r.w.toNat : Nat) : Int) := by exact_mod_cast hlt
    simpa [Reg.flip] using this
theorem xor_small : ∀ m, m < 64 → ∀ x, x < 6 → (m.testBit x = false → m ^^^ 2 ^ x = m + 2 ^ x) ∧ (m.testBit x = true → m ^^^ 2 ^ x = m - 2 ^ x ∧ 2 ^ x ≤ m) := by decide +kernel
theorem Reg.flip_add {r : Reg} (hv : r.Valid) {x y : Nat} (hx : (x : Int) < r.w) (hy : y < r.rows.length) (h : r.has x y = false) : r.row y ^^^ 2 ^ x = r.row y + 2 ^ x := by
  have h1 := Nat.lt_of_lt_of_le (Reg.row_lt hv y) (Reg.two_pow_le hv)
  have h2 := hv.2.1
  rw [Reg.has_eq hx hy] at h
  exact (xor_small _ h1 x (by omega)).1 h
theorem Reg.flip_sub {r : Reg} (hv : r.Valid) {x y : Nat} (hx : (x : Int) < r.w) (hy : y < r.rows.length) (h : r.has x y = true) : r.row y ^^^ 2 ^ x = r.row y - 2 ^ x ∧ 2 ^ x ≤ r.row y := by
  have h1 := Nat.lt_of_lt_of_le (Reg.row_lt hv y) (Reg.two_pow_le hv)
  have h2 := hv.2.1
  rw [Reg.has_eq hx hy] at h
  exact (xor_small _ h1 x (by omega)).2 h
def Reg.inn (r : Reg) (x y : Int) : Bool := decide (0 ≤ x ∧ x < r.w ∧ 0 ≤ y ∧ y < r.rows.length)
def Reg.apply1 (r : Reg) (e : Ed) : Option Reg := if r.inn e.x e.y && (r.has e.x e.y != e.add) then some (r.flip e.x.toNat e.y.toNat) else none
def Reg.applyTo (r : Reg) (l : List Ed) : Option Reg := l.foldlM Reg.apply1 r
def Reg.applyEds (r : Reg) (l : List Ed) : Option Reg := if r.valid && decide (l.length ≤ 40) then r.applyTo l else none
theorem Reg.apply1_valid {r r' : Reg} (hv : r.Valid) {e : Ed} (h : r.apply1 e = some r') : r'.Valid ∧ r'.w = r.w ∧ r'.rows.length = r.rows.length := by
  unfold Reg.apply1 at h
  split at h
  · rename_i hc
    injection h with h
    subst h
    simp [Reg.inn] at hc
    exact ⟨Reg.flip_valid hv (by omega), rfl, Reg.flip_len⟩
  · cases h
theorem Reg.applyTo_nil {r : Reg} : r.applyTo [] = some r := rfl
theorem Reg.applyTo_succ {r out : Reg} {l : List Ed} {k : Nat} {e : Ed} (h : r.applyTo (l.take k) = some out) (he : l[k]? = some e) : r.applyTo (l.take (k + 1)) = out.apply1 e := by
  have hk := (List.getElem?_eq_some_iff.1 he).1
  have e' := (List.getElem?_eq_some_iff.1 he).2
  unfold Reg.applyTo at h ⊢
  rw [List.take_succ_eq_append_getElem hk, List.foldlM_append, h, e']
  simp
theorem Reg.applyTo_stop {r out : Reg} {l : List Ed} {k : Nat} {e : Ed} (h : r.applyTo (l.take k) = some out) (he : l[k]? = some e) (hn : out.apply1 e = none) : r.applyTo l = none := by
  have hk := (List.getElem?_eq_some_iff.1 he).1
  have e' := (List.getElem?_eq_some_iff.1 he).2
  have hs := Reg.applyTo_succ h he
  have : r.applyTo (l.take (k + 1) ++ l.drop (k + 1)) = none := by
    unfold Reg.applyTo at hs ⊢
    rw [List.foldlM_append, hs, hn]
    rfl
  rwa [List.take_append_drop] at this
end Go.Proofs.YtghpkfihdcjlaaaGreatDoor

namespace Go.Proofs.YtghpkfihdcjlaaaGreatDoor
open Go.RowKit

def Reg.isIn (r : Reg) (x y : Int) : Bool := r.valid && r.has x y
def Reg.less (r : Reg) (x y : Int) : Reg := if r.isIn x y then r.flip x.toNat y.toNat else r
theorem Reg.less_len {r : Reg} {x y : Int} : (r.less x y).rows.length = r.rows.length := by
  unfold Reg.less
  split
  · exact Reg.flip_len
  · rfl
theorem andNot_small : ∀ m, m < 64 → ∀ x, x < 6 → m.testBit x = true → m &&& (18446744073709551616 - (2 ^ x + 1)) = m ^^^ 2 ^ x := by decide +kernel

theorem shl_one {x : Nat} (h : 2 ^ x ≤ 64) : wrap64 ((2 ^ x : Nat) : Int) = ((2 ^ x : Nat) : Int) := by
  generalize 2 ^ x = p at *
  exact IntWalk.wrap64_in _ ⟨by omega, by omega⟩
end Go.Proofs.YtghpkfihdcjlaaaGreatDoor
