
/-
  Shapes: the border of a shape: one step, pinched corners: both sides.
-/
import Derived.Test.YtbdffadhieljbaaGreatDoorShpP
import Derived.Test.YtbdffadhieljbaaGreatDoorShpI
namespace Go.Proofs.YtbdffadhieljbaaGreatDoor
open Go.RowKit

theorem results_ct {P : Program} {fn : Func} {p q : Tmp} {ty : TypeId} (h : fn.results = #[.cell p ty, .tmp q]) (tmps : Array Value) (w : World) (g : Nat) (t : TypeId) (cs : Array Value) (fr : Nat × Nat) (d : TypeDesc)
    (hp : tmps.getD p undef = .pointer (some ⟨g, 0, none⟩)) (hg : w.heap[g]? = some (.cells cs t fr))
    (hu : P.underlying ty = some d) (hd : (match d with | .struct _ | .array _ _ => true | _ => false) = true) (hi : (P.info? ty).map (·.size) = some cs.size) :
    (results fn tmps).run P w = .ok (.tuple #[.agg cs, tmps.getD q undef]) w := by
  have hp' : tmps[p]?.getD undef = .pointer (some ⟨g, 0, none⟩) := by simpa using hp
  simp [results, h, hp', asAddr, run_loadVar_row w g t ty cs fr d hg hu hd hi]
set_option maxRecDepth 100000 in
theorem impl_step_c (c : Cell) (d : Nat) (w : World) (hd : d < 4) (hx : -100 ≤ c.x ∧ c.x ≤ 100) (hy : -100 ≤ c.y ∧ c.y ≤ 100) :
    Calls Tryz.prog 104 #[.agg #[.int .i64 c.x, .int .i64 c.y], .int .u8 (dirB d)] w fun e w' => e = .returned (.tuple #[.agg #[.int .i64 (stepC c d).x, .int .i64 (stepC c d).y], .bool true]) ∧ Below w.heap.size w w' := by
  have h4 : d = 0 ∨ d = 1 ∨ d = 2 ∨ d = 3 := by omega
  clear hd
  rcases h4 with rfl | rfl | rfl | rfl
  ·
    change Calls _ _ #[_, .int .u8 114] _ fun e w' => e = .returned (.tuple #[.agg #[.int .i64 (c.x + 1), .int .i64 (c.y)], .bool true]) ∧ Below w.heap.size w w'
    have H1 := ((Sep.start w).box 39 #[.int .i64 (c.x + 1), .int .i64 (c.y)]).box 39 #[.int .i64 (c.x + 1), .int .i64 (c.y)]
    simp only [World.size_alloc] at H1
    go_enter Tryz.func104, Tryz.ntmps104
    go_wp2
    refine bodyPost_ret (v := .tuple #[.agg #[.int .i64 (c.x + 1), .int .i64 (c.y)], .bool true]) (results_ct Tryz.results104 _ _ (w.heap.size + 1) 39 _ _ _ rfl H1.h0 Tryz.underlying39 rfl (by kernel_rfl)) rfl ?_
    exact ⟨rfl, H1.below⟩
  ·
    change Calls _ _ #[_, .int .u8 100] _ fun e w' => e = .returned (.tuple #[.agg #[.int .i64 (c.x), .int .i64 (c.y + 1)], .bool true]) ∧ Below w.heap.size w w'
    have H1 := ((Sep.start w).box 39 #[.int .i64 (c.x), .int .i64 (c.y + 1)]).box 39 #[.int .i64 (c.x), .int .i64 (c.y + 1)]
    simp only [World.size_alloc] at H1
    go_enter Tryz.func104, Tryz.ntmps104
    go_wp2
    refine bodyPost_ret (v := .tuple #[.agg #[.int .i64 (c.x), .int .i64 (c.y + 1)], .bool true]) (results_ct Tryz.results104 _ _ (w.heap.size + 1) 39 _ _ _ rfl H1.h0 Tryz.underlying39 rfl (by kernel_rfl)) rfl ?_
    exact ⟨rfl, H1.below⟩
  ·
    change Calls _ _ #[_, .int .u8 108] _ fun e w' => e = .returned (.tuple #[.agg #[.int .i64 (c.x - 1), .int .i64 (c.y)], .bool true]) ∧ Below w.heap.size w w'
    have H1 := ((Sep.start w).box 39 #[.int .i64 (c.x - 1), .int .i64 (c.y)]).box 39 #[.int .i64 (c.x - 1), .int .i64 (c.y)]
    simp only [World.size_alloc] at H1
    go_enter Tryz.func104, Tryz.ntmps104
    go_wp2
    refine bodyPost_ret (v := .tuple #[.agg #[.int .i64 (c.x - 1), .int .i64 (c.y)], .bool true]) (results_ct Tryz.results104 _ _ (w.heap.size + 1) 39 _ _ _ rfl H1.h0 Tryz.underlying39 rfl (by kernel_rfl)) rfl ?_
    exact ⟨rfl, H1.below⟩
  ·
    change Calls _ _ #[_, .int .u8 117] _ fun e w' => e = .returned (.tuple #[.agg #[.int .i64 (c.x), .int .i64 (c.y - 1)], .bool true]) ∧ Below w.heap.size w w'
    have H1 := ((Sep.start w).box 39 #[.int .i64 (c.x), .int .i64 (c.y - 1)]).box 39 #[.int .i64 (c.x), .int .i64 (c.y - 1)]
    simp only [World.size_alloc] at H1
    go_enter Tryz.func104, Tryz.ntmps104
    go_wp2
    refine bodyPost_ret (v := .tuple #[.agg #[.int .i64 (c.x), .int .i64 (c.y - 1)], .bool true]) (results_ct Tryz.results104 _ _ (w.heap.size + 1) 39 _ _ _ rfl H1.h0 Tryz.underlying39 rfl (by kernel_rfl)) rfl ?_
    exact ⟨rfl, H1.below⟩
end Go.Proofs.YtbdffadhieljbaaGreatDoor
