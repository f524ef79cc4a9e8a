
/-
  A map from cells to cells that the call itself makes: what a look-up and a store do. And the '==' of cells.
-/
import Derived.Test.YtlfeognjnlppkaaDoorProg
import Derived.Test.YtlfeognjnlppkaaDoorKinds
import Derived.MapKept
import Derived.ChangeMaps4
namespace Go.Proofs.YtlfeognjnlppkaaDoor
open Go.RowKit

def cv (c : Cell) : Value := .agg #[.int .i64 c.x, .int .i64 c.y]
set_option maxRecDepth 100000 in
theorem intSize : Tryd.prog.cellsOf 3 = 1 := by kernel_rfl

/-- block b is a map that holds these cells, in the order in which they came in -/
def MapIs (w : World) (b : Nat) (l : List (Cell × Cell)) : Prop := ∃ es clock, w.heap[b]? = some (.map es clock) ∧ es.toList.map (fun e => (e.key, e.val)) = l.map fun p => (cv p.1, cv p.2)
theorem MapIs.keep {w w' : World} {b : Nat} {l : List (Cell × Cell)} (h : MapIs w b l) (hb : w'.heap[b]? = w.heap[b]?) : MapIs w' b l := by
  obtain ⟨es, cl, h1, h2⟩ := h
  exact ⟨es, cl, hb.trans h1, h2⟩
theorem MapIs.lt {w : World} {b : Nat} {l : List (Cell × Cell)} (h : MapIs w b l) : b < w.heap.size := by
  obtain ⟨es, cl, h1, h2⟩ := h
  exact (Array.getElem?_eq_some_iff.1 h1).1
theorem MapIs.made (w : World) : MapIs (w.alloc (.map #[] 0)) w.heap.size [] := ⟨#[], 0, heap_alloc_new w _, rfl⟩

set_option maxRecDepth 100000 in
theorem run_checkKey_int (w : World) (em : Bool) (n : Nat) (x : Int) : (Instr.checkKey em (n + 1) 3 (.int .i64 x)).run Tryd.prog w = .ok () w := by
  have hu : Tryd.prog.underlying 3 = some (.int .i64) := Tryd.underlying3
  unfold Instr.checkKey
  simp [Sem.run_bind, run_underlying hu]
/-- what a cell is mapped to -/
def mapAt (l : List (Cell × Cell)) (c : Cell) : Option Cell := (l.find? fun p => decide (c = p.1)).map (·.2)

end Go.Proofs.YtlfeognjnlppkaaDoor
