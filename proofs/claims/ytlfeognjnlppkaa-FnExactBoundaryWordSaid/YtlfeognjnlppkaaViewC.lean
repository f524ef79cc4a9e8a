
/-
  What a law's parameters hold: shapes, lists of shapes, tiles, claims.
-/
import Derived.Test.YtlfeognjnlppkaaViews
import Derived.Test.YtlfeognjnlppkaaEqC
namespace Go.Proofs.Ytlfeognjnlppkaa
open Go.ChangeShapes Go.WideShapes Go.ChangeAt Go.RowKit Go.Deep

section
variable {H : Type} {enc : TypeId × Value → H} {W : World} {base : Nat} {spare : Nat → Bool} {held : Bool} {v : Value} {d : DataW H} {p : List MemPlace}
set_option maxRecDepth 100000 in
theorem slice_of {t e fuel : Nat} {v : Value} {x : DataW H × List MemPlace} (ht : Try.prog.underlying t = some (.slice e)) (h : DataW.trod enc Try.prog W 0 spare held fuel t [v] = some x) : ∃ A n c, v = .slice A n c := by
  rcases open_slice ht h with ⟨g1, _⟩ | ⟨a, len, cap, m, k, D, Pl, hcs, _⟩
  · simp at g1; exact ⟨_, _, _, g1⟩
  · simp at hcs; exact ⟨_, _, _, hcs⟩
set_option maxRecDepth 100000 in
theorem oneInt : Try.prog.cellsOf 3 = 1 := by kernel_rfl
set_option maxRecDepth 100000 in
theorem elem_cell {w : World} {base : Nat} (m : Nat) (cs : List Value) (y : DataW H × List MemPlace) (hl : cs.length = 2) (h : DataW.trod enc Try.prog w base spare held m 55 cs = some y) :
    ∃ a : Cell, cs = [.int .i64 a.x, .int .i64 a.y] ∧ (I64 a.x ∧ I64 a.y) := by
  obtain ⟨n, hp⟩ := struct_parts Try.underlying55 h
  match cs, hl with
  | [b, c], _ =>
    obtain ⟨_, h1⟩ := hp 0 _ rfl
    obtain ⟨_, h2⟩ := hp 1 _ rfl
    obtain ⟨x1, e1, _, w1⟩ := DataW.trod_int Try.underlying3 h1
    obtain ⟨x2, e2, _, w2⟩ := DataW.trod_int Try.underlying3 h2
    simp [oneInt] at e1 e2
    subst e1 e2
    exact ⟨⟨x1, x2⟩, rfl, i64_of_wf w1, i64_of_wf w2⟩
set_option maxRecDepth 100000 in
theorem cells_Cells {fuel : Nat} {A : Option Addr} {n c : Nat} {x : DataW H × List MemPlace} (hf : DataW.trod enc Try.prog W 0 spare held fuel 22 [.slice A n c] = some x) : ∃ l : List Cell, CellsRd W 0 W.heap.size (.slice A n c) l ∧ ∀ a ∈ l, I64 a.x ∧ I64 a.y := by
  obtain ⟨l, h1, h2, h3⟩ := view_cells (fun a : Cell => [.int .i64 a.x, .int .i64 a.y]) (fun a => I64 a.x ∧ I64 a.y) (fun _ => rfl) (by decide) Try.underlying22 (by kernel_rfl) elem_cell hf
  refine ⟨l, ?_, h3⟩
  unfold CellsRd
  rw [h1]
  exact h2
set_option maxRecDepth 100000 in
theorem view_Cells {r : Reach} (hv : Value.okWide Try.prog W r base 22 v) (h : DataW.Trod enc Try.prog W 0 spare held 22 v d p) : ∃ l : List Cell, CellsRd W 0 W.heap.size v l ∧ ∀ a ∈ l, I64 a.x ∧ I64 a.y := by
  obtain ⟨A, n, c, rfl⟩ := okWide_slice Try.underlying22 hv
  obtain ⟨fuel, hf⟩ := h
  exact cells_Cells (by simpa [Value.cells] using hf)
set_option maxRecDepth 100000 in
theorem elem_wang {w : World} {base : Nat} (m : Nat) (cs : List Value) (y : DataW H × List MemPlace) (hl : cs.length = 4) (h : DataW.trod enc Try.prog w base spare held m 64 cs = some y) :
    ∃ a : Wg, cs = [.int .i64 a.top, .int .i64 a.right, .int .i64 a.bottom, .int .i64 a.left] ∧ (I64 a.top ∧ I64 a.right ∧ I64 a.bottom ∧ I64 a.left) := by
  obtain ⟨n, hp⟩ := struct_parts Try.underlying64 h
  match cs, hl with
  | [a, b, c, e], _ =>
    obtain ⟨_, h1⟩ := hp 0 _ rfl
    obtain ⟨_, h2⟩ := hp 1 _ rfl
    obtain ⟨_, h3⟩ := hp 2 _ rfl
    obtain ⟨_, h4⟩ := hp 3 _ rfl
    obtain ⟨x1, e1, _, w1⟩ := DataW.trod_int Try.underlying3 h1
    obtain ⟨x2, e2, _, w2⟩ := DataW.trod_int Try.underlying3 h2
    obtain ⟨x3, e3, _, w3⟩ := DataW.trod_int Try.underlying3 h3
    obtain ⟨x4, e4, _, w4⟩ := DataW.trod_int Try.underlying3 h4
    simp [oneInt] at e1 e2 e3 e4
    subst e1 e2 e3 e4
    exact ⟨⟨x1, x2, x3, x4⟩, rfl, i64_of_wf w1, i64_of_wf w2, i64_of_wf w3, i64_of_wf w4⟩
set_option maxRecDepth 100000 in
theorem cells_Wangs {fuel : Nat} {A : Option Addr} {n c : Nat} {x : DataW H × List MemPlace} (hf : DataW.trod enc Try.prog W 0 spare held fuel 30 [.slice A n c] = some x) : ∃ l : List Wg, WangsRd W 0 W.heap.size (.slice A n c) l ∧ ∀ a ∈ l, I64 a.top ∧ I64 a.right ∧ I64 a.bottom ∧ I64 a.left := by
  obtain ⟨l, h1, h2, h3⟩ := view_cells (fun a : Wg => [.int .i64 a.top, .int .i64 a.right, .int .i64 a.bottom, .int .i64 a.left]) (fun a => I64 a.top ∧ I64 a.right ∧ I64 a.bottom ∧ I64 a.left) (fun _ => rfl) (by decide) Try.underlying30 (by kernel_rfl) elem_wang hf
  refine ⟨l, ?_, h3⟩
  unfold WangsRd
  rw [h1]
  exact h2
set_option maxRecDepth 100000 in
theorem view_Wangs {r : Reach} (hv : Value.okWide Try.prog W r base 30 v) (h : DataW.Trod enc Try.prog W 0 spare held 30 v d p) : ∃ l : List Wg, WangsRd W 0 W.heap.size v l ∧ ∀ a ∈ l, I64 a.top ∧ I64 a.right ∧ I64 a.bottom ∧ I64 a.left := by
  obtain ⟨A, n, c, rfl⟩ := okWide_slice Try.underlying30 hv
  obtain ⟨fuel, hf⟩ := h
  exact cells_Wangs (by simpa [Value.cells] using hf)
set_option maxRecDepth 100000 in
theorem elem_slot (m : Nat) (cs : List Value) (y : DataW H × List MemPlace) (hl : cs.length = 1) (h : DataW.trod enc Try.prog W 0 spare held m 22 cs = some y) :
    ∃ a : List Cell × Value, cs = [a.2] ∧ (CellsRd W 0 W.heap.size a.2 a.1 ∧ ∀ c ∈ a.1, I64 c.x ∧ I64 c.y) := by
  match cs, hl with
  | [x], _ =>
    obtain ⟨A, n, c, rfl⟩ := slice_of Try.underlying22 h
    obtain ⟨l, h1, h2⟩ := cells_Cells h
    exact ⟨(l, _), rfl, h1, h2⟩
theorem slots_flat (l : List (List Cell × Value)) : (l.flatMap fun a : List Cell × Value => [a.2]) = l.map (·.2) := by
  induction l with
  | nil => rfl
  | cons a l ih => simp only [List.flatMap_cons, ih]; rfl
end
end Go.Proofs.Ytlfeognjnlppkaa
