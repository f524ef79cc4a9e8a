
/-
  What a law's parameters hold: shapes, lists of shapes.
-/
import Derived.Test.YtelneohlpljblaaGreatDoorViews
import Derived.Test.YtelneohlpljblaaGreatDoorEqV
namespace Go.Proofs.YtelneohlpljblaaGreatDoor
open Go.ChangeShapes Go.WideShapes Go.ChangeAt Go.RowKit Go.Deep

section
variable {H : Type} {enc : TypeId × Value → H} {W : World} {base : Nat} {spare : Nat → Bool} {held : Bool} {v : Value} {d : DataW H} {p : List MemPlace}
set_option maxRecDepth 100000 in
theorem slice_of {t e fuel : Nat} {v : Value} {x : DataW H × List MemPlace} (ht : Tryz.prog.underlying t = some (.slice e)) (h : DataW.trod enc Tryz.prog W 0 spare held fuel t [v] = some x) : ∃ A n c, v = .slice A n c := by
  rcases open_slice ht h with ⟨g1, _⟩ | ⟨a, len, cap, m, k, D, Pl, hcs, _⟩
  · simp at g1; exact ⟨_, _, _, g1⟩
  · simp at hcs; exact ⟨_, _, _, hcs⟩
set_option maxRecDepth 100000 in
theorem oneInt : Tryz.prog.cellsOf 3 = 1 := by kernel_rfl
set_option maxRecDepth 100000 in
theorem elem_cell {w : World} {base : Nat} (m : Nat) (cs : List Value) (y : DataW H × List MemPlace) (hl : cs.length = 2) (h : DataW.trod enc Tryz.prog w base spare held m 62 cs = some y) :
    ∃ a : Cell, cs = [.int .i64 a.x, .int .i64 a.y] ∧ (I64 a.x ∧ I64 a.y) := by
  obtain ⟨n, hp⟩ := struct_parts Tryz.underlying62 h
  match cs, hl with
  | [b, c], _ =>
    obtain ⟨_, h1⟩ := hp 0 _ rfl
    obtain ⟨_, h2⟩ := hp 1 _ rfl
    obtain ⟨x1, e1, _, w1⟩ := DataW.trod_int Tryz.underlying3 h1
    obtain ⟨x2, e2, _, w2⟩ := DataW.trod_int Tryz.underlying3 h2
    simp [oneInt] at e1 e2
    subst e1 e2
    exact ⟨⟨x1, x2⟩, rfl, i64_of_wf w1, i64_of_wf w2⟩
set_option maxRecDepth 100000 in
theorem cells_Cells {fuel : Nat} {A : Option Addr} {n c : Nat} {x : DataW H × List MemPlace} (hf : DataW.trod enc Tryz.prog W 0 spare held fuel 22 [.slice A n c] = some x) : ∃ l : List Cell, CellsRd W 0 W.heap.size (.slice A n c) l ∧ ∀ a ∈ l, I64 a.x ∧ I64 a.y := by
  obtain ⟨l, h1, h2, h3⟩ := view_cells (fun a : Cell => [.int .i64 a.x, .int .i64 a.y]) (fun a => I64 a.x ∧ I64 a.y) (fun _ => rfl) (by decide) Tryz.underlying22 (by kernel_rfl) elem_cell hf
  refine ⟨l, ?_, h3⟩
  unfold CellsRd
  rw [h1]
  exact h2
set_option maxRecDepth 100000 in
theorem view_Cells {r : Reach} (hv : Value.okWide Tryz.prog W r base 22 v) (h : DataW.Trod enc Tryz.prog W 0 spare held 22 v d p) : ∃ l : List Cell, CellsRd W 0 W.heap.size v l ∧ ∀ a ∈ l, I64 a.x ∧ I64 a.y := by
  obtain ⟨A, n, c, rfl⟩ := okWide_slice Tryz.underlying22 hv
  obtain ⟨fuel, hf⟩ := h
  exact cells_Cells (by simpa [Value.cells] using hf)
set_option maxRecDepth 100000 in
theorem elem_slot (m : Nat) (cs : List Value) (y : DataW H × List MemPlace) (hl : cs.length = 1) (h : DataW.trod enc Tryz.prog W 0 spare held m 22 cs = some y) :
    ∃ a : List Cell × Value, cs = [a.2] ∧ (CellsRd W 0 W.heap.size a.2 a.1 ∧ ∀ c ∈ a.1, I64 c.x ∧ I64 c.y) := by
  match cs, hl with
  | [x], _ =>
    obtain ⟨A, n, c, rfl⟩ := slice_of Tryz.underlying22 h
    obtain ⟨l, h1, h2⟩ := cells_Cells h
    exact ⟨(l, _), rfl, h1, h2⟩
theorem slots_flat (l : List (List Cell × Value)) : (l.flatMap fun a : List Cell × Value => [a.2]) = l.map (·.2) := by
  induction l with
  | nil => rfl
  | cons a l ih => simp only [List.flatMap_cons, ih]; rfl
set_option maxRecDepth 100000 in
theorem cells_CellSS {fuel : Nat} {A : Option Addr} {n c : Nat} {x : DataW H × List MemPlace} (hf : DataW.trod enc Tryz.prog W 0 spare held fuel 45 [.slice A n c] = some x) : ∃ l : List (List Cell), CellSSRd W 0 W.heap.size (.slice A n c) l ∧ ∀ u ∈ l, ∀ a ∈ u, I64 a.x ∧ I64 a.y := by
  obtain ⟨l, h1, h2, h3⟩ := view_cells (fun a : List Cell × Value => [a.2]) (fun a => CellsRd W 0 W.heap.size a.2 a.1 ∧ ∀ c ∈ a.1, I64 c.x ∧ I64 c.y) (fun _ => rfl) (by decide) Tryz.underlying45 (by kernel_rfl) elem_slot hf
  rw [slots_flat] at h2
  refine ⟨l.map (·.1), ⟨l.map (·.2), by rw [List.length_map, h1]; exact h2, by simp, fun i u hu => ?_⟩, fun u hu => ?_⟩
  · rw [List.getElem?_map] at hu ⊢
    cases hl : l[i]? with
    | none => rw [hl] at hu; simp at hu
    | some a =>
      rw [hl] at hu
      simp at hu
      subst hu
      exact ⟨a.2, rfl, (h3 a (List.mem_of_getElem? hl)).1⟩
  · obtain ⟨a, ha, rfl⟩ := List.mem_map.1 hu
    exact (h3 a ha).2
set_option maxRecDepth 100000 in
theorem view_CellSS {r : Reach} (hv : Value.okWide Tryz.prog W r base 45 v) (h : DataW.Trod enc Tryz.prog W 0 spare held 45 v d p) : ∃ l : List (List Cell), CellSSRd W 0 W.heap.size v l ∧ ∀ u ∈ l, ∀ a ∈ u, I64 a.x ∧ I64 a.y := by
  obtain ⟨A, n, c, rfl⟩ := okWide_slice Tryz.underlying45 hv
  obtain ⟨fuel, hf⟩ := h
  exact cells_CellSS (by simpa [Value.cells] using hf)
end
end Go.Proofs.YtelneohlpljblaaGreatDoor
