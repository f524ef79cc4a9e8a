
/-
  A law's parameter of bytes.
-/
import Derived.Test.YtghpkfihdcjlaaaGreatDoorViewX
import Derived.Test.YtghpkfihdcjlaaaGreatDoorDraw
namespace Go.Proofs.YtghpkfihdcjlaaaGreatDoor
open Go.ChangeShapes Go.WideShapes Go.ChangeAt Go.RowKit Go.Deep

section
variable {H : Type} {enc : TypeId × Value → H} {W : World} {base : Nat} {spare : Nat → Bool} {held : Bool} {v : Value} {d : DataW H} {p : List MemPlace}
set_option maxRecDepth 100000 in
theorem elem_byte {w : World} {base : Nat} (m : Nat) (cs : List Value) (y : DataW H × List MemPlace) (_ : cs.length = 1) (h : DataW.trod enc Tryz.prog w base spare held m 5 cs = some y) : ∃ a : UInt8, cs = [.int .u8 (a.toNat : Int)] ∧ True := by
  obtain ⟨n, rfl, _, hw⟩ := DataW.trod_int Tryz.underlying5 h
  simp [Lit.wf, IntKind.min, IntKind.max, IntKind.signed, IntKind.bits] at hw
  refine ⟨UInt8.ofNat n.toNat, ?_, trivial⟩
  have e : (UInt8.ofNat n.toNat).toNat = n.toNat := by simp; omega
  rw [e, Int.toNat_of_nonneg (by omega)]
theorem bc_flat (l : List UInt8) : (l.flatMap fun a : UInt8 => [Value.int .u8 (a.toNat : Int)]) = bcU l := by
  induction l with
  | nil => rfl
  | cons a l ih => simp only [List.flatMap_cons, ih]; rfl
set_option maxRecDepth 100000 in
theorem view_Bytes {r : Reach} (hv : Value.okWide Tryz.prog W r base 22 v) (h : DataW.Trod enc Tryz.prog W 0 spare held 22 v d p) : ∃ l : List UInt8, BytesRd W 0 W.heap.size v l := by
  obtain ⟨A, n, c, rfl⟩ := okWide_slice Tryz.underlying22 hv
  obtain ⟨fuel, hf⟩ := h
  obtain ⟨l, h1, h2, _⟩ := view_cells (fun a : UInt8 => [.int .u8 (a.toNat : Int)]) (fun _ => True) (fun _ => rfl) (by decide) Tryz.underlying22 (by kernel_rfl) elem_byte (by simpa [Value.cells] using hf)
  refine ⟨l, ?_⟩
  unfold BytesRd
  rw [h1, ← bc_flat]
  exact h2
end
end Go.Proofs.YtghpkfihdcjlaaaGreatDoor
