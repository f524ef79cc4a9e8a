
/-
  Shapes moved and turned: the program's loops.
-/
import Derived.Test.YtoccedebiacbiaaDoorMotAB
import Derived.Test.YtoccedebiacbiaaDoorSepX
namespace Go.Proofs.YtoccedebiacbiaaDoor
open Go.RowKit

set_option maxRecDepth 100000 in
theorem infoCellI : (Tryd.prog.info? 52).map (fun i => (i.zero, i.size, i.bytes)) = some (some (.agg #[.int .i64 0, .int .i64 0]), 2, 16) := by kernel_rfl
def moveS (s : List Cell) (x y : Int) : List Cell := s.map fun c => ⟨c.x + x, c.y + y⟩
theorem moveS_len {s : List Cell} {x y : Int} : (moveS s x y).length = s.length := by simp [moveS]
theorem map_take_g {f : Cell → Cell} {k : Nat} {s : List Cell} {d : Cell} (h : s[k]? = some d) : cc ((s.take k).map f) ++ [Value.int .i64 (f d).x, .int .i64 (f d).y] = cc ((s.take (k + 1)).map f) := by
  rw [List.take_add_one, h, List.map_append, cc_append]; rfl
end Go.Proofs.YtoccedebiacbiaaDoor
