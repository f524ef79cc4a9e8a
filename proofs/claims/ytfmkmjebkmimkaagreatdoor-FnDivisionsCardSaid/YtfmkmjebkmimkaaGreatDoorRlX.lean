
/-
  A region's text: both walks.
-/
import Derived.Test.YtfmkmjebkmimkaaGreatDoorArX
import Derived.Test.YtfmkmjebkmimkaaGreatDoorCellX
import Derived.Deep.DeepCutAuto
import Derived.Test.YtfmkmjebkmimkaaGreatDoorProg
import Derived.Test.YtfmkmjebkmimkaaGreatDoorCommon
import Derived.Test.YtfmkmjebkmimkaaGreatDoorStrX
namespace Go.Proofs.YtfmkmjebkmimkaaGreatDoor
open Go.RowKit
def chR (b : Bool) : ByteArray := if b then ⟨#[35]⟩ else ⟨#[46]⟩
/-- a row's first k signs -/
def rowS (r : Reg) (y : Nat) : Nat → ByteArray
  | 0 => ⟨#[]⟩
  | k + 1 => rowS r y k ++ chR (r.has k y)
/-- the first k rows -/
def fmtS (r : Reg) : Nat → ByteArray
  | 0 => ⟨#[]⟩
  | k + 1 => (if k = 0 then fmtS r k else fmtS r k ++ ⟨#[47]⟩) ++ rowS r k r.w.toNat
theorem rowS_size {r : Reg} {y : Nat} : ∀ k, (rowS r y k).size = k
  | 0 => rfl
  | k + 1 => by
    rw [rowS, ByteArray.size_append, rowS_size k]
    unfold chR
    split <;> rfl
theorem fmtS_size {r : Reg} (hw : r.w.toNat ≤ 6) : ∀ y, (fmtS r y).size ≤ 7 * y
  | 0 => Nat.le_refl _
  | y + 1 => by
    have h := fmtS_size hw y
    rw [fmtS, ByteArray.size_append, rowS_size]
    split
    · omega
    · rw [ByteArray.size_append, show (⟨#[47]⟩ : ByteArray).size = 1 from rfl]; omega
def fmtR (r : Reg) : ByteArray := if r.valid then fmtS r r.rows.length else ⟨#[]⟩
theorem ba_empty (a : ByteArray) : a ++ ⟨#[]⟩ = a := by apply ByteArray.ext; simp [ByteArray.data_append]
theorem ba_assoc (a b c : ByteArray) : a ++ b ++ c = a ++ (b ++ c) := ByteArray.append_assoc
end Go.Proofs.YtfmkmjebkmimkaaGreatDoor

namespace Go.Proofs.YtfmkmjebkmimkaaGreatDoor
open Go.RowKit

def rowsB (r : Reg) (k : Nat) : List ByteArray := (List.range k).map fun y => rowS r y r.w.toNat
theorem rowsB_succ (r : Reg) (k : Nat) : rowsB r (k + 1) = rowsB r k ++ [rowS r k r.w.toNat] := by unfold rowsB; rw [List.range_succ, List.map_append]; rfl
theorem rowsB_len (r : Reg) (k : Nat) : (rowsB r k).length = k := by simp [rowsB]
theorem fmtS_join (r : Reg) : ∀ k, fmtS r k = joinB ⟨#[47]⟩ (rowsB r k)
  | 0 => rfl
  | k + 1 => by
    rw [rowsB_succ, fmtS]
    by_cases h : k = 0
    · subst h
      rw [if_pos rfl]
      show fmtS r 0 ++ _ = joinB _ ([] ++ [_])
      rw [List.nil_append, joinB_one, fmtS]
      apply ByteArray.ext; simp [ByteArray.data_append]
    · rw [if_neg h, joinB_snoc _ _ _ (fun e => h (by have := rowsB_len r k; rw [e] at this; simpa using this.symm)), fmtS_join r k]
end Go.Proofs.YtfmkmjebkmimkaaGreatDoor
