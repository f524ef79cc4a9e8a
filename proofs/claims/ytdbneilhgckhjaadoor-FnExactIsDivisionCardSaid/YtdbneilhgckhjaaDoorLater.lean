
/-
  A region that draws its order, whose operations read old memory and call functions that make memory and hand back plain values: one walk. No program in sight.
-/
import Derived.Test.YtdbneilhgckhjaaDoorSep
import Derived.Deep.Quiet
namespace Go.Proofs.YtdbneilhgckhjaaDoor
open Go.RowKit

/-- a world behind W: all that was there is as it was -/
structure Later (W : World) where
  w : World
  h : Below W.heap.size W w
instance Later.some_ (W : World) : Nonempty (Later W) := ⟨⟨W, Below.refl _ _⟩⟩
section
variable {P : Program} {W : World}
theorem wp_region_later {id : Nat} {Q : Exit → Act → World → Prop} {a : Act} {l : List Oper} (hm : P.follows .mixedOrders = true) (hB : Region.lexB .any l.toArray = true)
    (h : wpQuiet P l.toArray (fun w' => ∃ u : Later W, w' = u.w) (fun a' => ∀ w', (∃ u : Later W, w' = u.w) → Q .normal a' w') l a) : (Code.region id l.toArray true).wp P Q a W :=
  wp_region_quiet (C := fun w' => ∃ u : Later W, w' = u.w) hm hB ⟨⟨_, below_drew (Below.refl _ _)⟩, rfl⟩ (by simpa using h)
theorem Later.cell {p : Addr} {v : Value} (h : W.cell? p = some v) (hp : p.block < W.heap.size) : ∀ u : Later W, u.w.cell? p = some v := fun u => (u.h.cell hp).trans h
theorem Later.call {u : Later W} {f : FuncId} {args : Array Value} {v : Value} (h : Calls P f args u.w fun e w' => e = .returned v ∧ Below u.w.heap.size u.w w') : Calls P f args u.w fun e w'' => e = .returned v ∧ ∃ u' : Later W, w'' = u'.w :=
  h.mono fun _ _ ⟨he, hb⟩ => ⟨he, ⟨⟨_, u.h.trans (hb.mono u.h.size)⟩, rfl⟩⟩
theorem Later.same {u : Later W} {f : FuncId} {args : Array Value} {v : Value} (h : Calls P f args u.w fun e w' => e = .returned v ∧ u.w = w') : Calls P f args u.w fun e w'' => e = .returned v ∧ ∃ u' : Later W, w'' = u'.w :=
  h.mono fun _ _ ⟨he, hb⟩ => ⟨he, ⟨u, hb.symm⟩⟩
theorem Later.reg {u : Later W} {v : Value} {r : Reg} (h : RegRd W 0 W.heap.size v r) : RegRd u.w 0 u.w.heap.size v r := (h.keep (SameIn.of_below u.h (Nat.le_refl _))).more (Nat.le_refl _) u.h.size
theorem Later.ints {u : Later W} {v : Value} {r : List Int} (h : IntsRd W 0 W.heap.size v r) : IntsRd u.w 0 u.w.heap.size v r := (h.keep (SameIn.of_below u.h (Nat.le_refl _))).more (Nat.le_refl _) u.h.size
theorem Later.cells {u : Later W} {v : Value} {r : List Cell} (h : CellsRd W 0 W.heap.size v r) : CellsRd u.w 0 u.w.heap.size v r := (h.keep (SameIn.of_below u.h (Nat.le_refl _))).more (Nat.le_refl _) u.h.size
/-- facts on cells of the things of a list -/
theorem Sep.later {w0 w : World} {L : List Res} (h : Sep w0 w L) (u : Later w) : Sep w0 u.w L := h.step u.h
end
end Go.Proofs.YtdbneilhgckhjaaDoor
