
/-
  What a law's parameters hold: shapes, lists of shapes, tiles, claims.
-/
import Derived.Test.YtjmeplchabehfaaViews
import Derived.Test.YtjmeplchabehfaaEqC
namespace Go.Proofs.Ytjmeplchabehfaa
open Go.ChangeShapes Go.WideShapes Go.ChangeAt Go.RowKit Go.Deep

section
variable {H : Type} {enc : TypeId × Value → H} {W : World} {base : Nat} {spare : Nat → Bool} {held : Bool} {v : Value} {d : DataW H} {p : List MemPlace}
set_option maxRecDepth 100000 in
theorem slice_of {t e fuel : Nat} {v : Value} {x : DataW H × List MemPlace} (ht : Try.prog.underlying t = some (.slice e)) (h : DataW.trod enc Try.prog W 0 spare held fuel t [v] = some x) : ∃ A n c, v = .slice A n c := by
  rcases open_slice ht h with ⟨g1, _⟩ | ⟨a, len, cap, m, k, D, Pl, hcs, _⟩
  · simp at g1; exact ⟨_, _, _, g1⟩
  · simp at hcs; exact ⟨_, _, _, hcs⟩
set_option maxRecDepth 100000 in
theorem oneInt : Try.prog.cellsOf 3 = 1 := by kernel_rfl
set_option maxRecDepth 100000 in
theorem elem_cell {w : World} {base : Nat} (m : Nat) (cs : List Value) (y : DataW H × List MemPlace) (hl : cs.length = 2) (h : DataW.trod enc Try.prog w base spare held m 85 cs = some y) :
    ∃ a : Cell, cs = [.int .i64 a.x, .int .i64 a.y] ∧ (I64 a.x ∧ I64 a.y) := by
  obtain ⟨n, hp⟩ := struct_parts Try.underlying85 h
  match cs, hl with
  | [b, c], _ =>
    obtain ⟨_, h1⟩ := hp 0 _ rfl
    obtain ⟨_, h2⟩ := hp 1 _ rfl
    obtain ⟨x1, e1, _, w1⟩ := DataW.trod_int Try.underlying3 h1
    obtain ⟨x2, e2, _, w2⟩ := DataW.trod_int Try.underlying3 h2
    simp [oneInt] at e1 e2
    subst e1 e2
    exact ⟨⟨x1, x2⟩, rfl, i64_of_wf w1, i64_of_wf w2⟩
set_option maxRecDepth 100000 in
theorem cells_Cells {fuel : Nat} {A : Option Addr} {n c : Nat} {x : DataW H × List MemPlace} (hf : DataW.trod enc Try.prog W 0 spare held fuel 38 [.slice A n c] = some x) : ∃ l : List Cell, CellsRd W 0 W.heap.size (.slice A n c) l ∧ ∀ a ∈ l, I64 a.x ∧ I64 a.y := by
  obtain ⟨l, h1, h2, h3⟩ := view_cells (fun a : Cell => [.int .i64 a.x, .int .i64 a.y]) (fun a => I64 a.x ∧ I64 a.y) (fun _ => rfl) (by decide) Try.underlying38 (by kernel_rfl) elem_cell hf
  refine ⟨l, ?_, h3⟩
  unfold CellsRd
  rw [h1]
  exact h2
set_option maxRecDepth 100000 in
theorem view_Cells {r : Reach} (hv : Value.okWide Try.prog W r base 38 v) (h : DataW.Trod enc Try.prog W 0 spare held 38 v d p) : ∃ l : List Cell, CellsRd W 0 W.heap.size v l ∧ ∀ a ∈ l, I64 a.x ∧ I64 a.y := by
  obtain ⟨A, n, c, rfl⟩ := okWide_slice Try.underlying38 hv
  obtain ⟨fuel, hf⟩ := h
  exact cells_Cells (by simpa [Value.cells] using hf)
set_option maxRecDepth 100000 in
theorem elem_wang {w : World} {base : Nat} (m : Nat) (cs : List Value) (y : DataW H × List MemPlace) (hl : cs.length = 4) (h : DataW.trod enc Try.prog w base spare held m 91 cs = some y) :
    ∃ a : Wg, cs = [.int .i64 a.top, .int .i64 a.right, .int .i64 a.bottom, .int .i64 a.left] ∧ (I64 a.top ∧ I64 a.right ∧ I64 a.bottom ∧ I64 a.left) := by
  obtain ⟨n, hp⟩ := struct_parts Try.underlying91 h
  match cs, hl with
  | [a, b, c, e], _ =>
    obtain ⟨_, h1⟩ := hp 0 _ rfl
    obtain ⟨_, h2⟩ := hp 1 _ rfl
    obtain ⟨_, h3⟩ := hp 2 _ rfl
    obtain ⟨_, h4⟩ := hp 3 _ rfl
    obtain ⟨x1, e1, _, w1⟩ := DataW.trod_int Try.underlying3 h1
    obtain ⟨x2, e2, _, w2⟩ := DataW.trod_int Try.underlying3 h2
    obtain ⟨x3, e3, _, w3⟩ := DataW.trod_int Try.underlying3 h3
    obtain ⟨x4, e4, _, w4⟩ := DataW.trod_int Try.underlying3 h4
    simp [oneInt] at e1 e2 e3 e4
    subst e1 e2 e3 e4
    exact ⟨⟨x1, x2, x3, x4⟩, rfl, i64_of_wf w1, i64_of_wf w2, i64_of_wf w3, i64_of_wf w4⟩
set_option maxRecDepth 100000 in
theorem cells_Wangs {fuel : Nat} {A : Option Addr} {n c : Nat} {x : DataW H × List MemPlace} (hf : DataW.trod enc Try.prog W 0 spare held fuel 26 [.slice A n c] = some x) : ∃ l : List Wg, WangsRd W 0 W.heap.size (.slice A n c) l ∧ ∀ a ∈ l, I64 a.top ∧ I64 a.right ∧ I64 a.bottom ∧ I64 a.left := by
  obtain ⟨l, h1, h2, h3⟩ := view_cells (fun a : Wg => [.int .i64 a.top, .int .i64 a.right, .int .i64 a.bottom, .int .i64 a.left]) (fun a => I64 a.top ∧ I64 a.right ∧ I64 a.bottom ∧ I64 a.left) (fun _ => rfl) (by decide) Try.underlying26 (by kernel_rfl) elem_wang hf
  refine ⟨l, ?_, h3⟩
  unfold WangsRd
  rw [h1]
  exact h2
set_option maxRecDepth 100000 in
theorem view_Wangs {r : Reach} (hv : Value.okWide Try.prog W r base 26 v) (h : DataW.Trod enc Try.prog W 0 spare held 26 v d p) : ∃ l : List Wg, WangsRd W 0 W.heap.size v l ∧ ∀ a ∈ l, I64 a.top ∧ I64 a.right ∧ I64 a.bottom ∧ I64 a.left := by
  obtain ⟨A, n, c, rfl⟩ := okWide_slice Try.underlying26 hv
  obtain ⟨fuel, hf⟩ := h
  exact cells_Wangs (by simpa [Value.cells] using hf)
set_option maxRecDepth 100000 in
theorem elem_slot (m : Nat) (cs : List Value) (y : DataW H × List MemPlace) (hl : cs.length = 1) (h : DataW.trod enc Try.prog W 0 spare held m 38 cs = some y) :
    ∃ a : List Cell × Value, cs = [a.2] ∧ (CellsRd W 0 W.heap.size a.2 a.1 ∧ ∀ c ∈ a.1, I64 c.x ∧ I64 c.y) := by
  match cs, hl with
  | [x], _ =>
    obtain ⟨A, n, c, rfl⟩ := slice_of Try.underlying38 h
    obtain ⟨l, h1, h2⟩ := cells_Cells h
    exact ⟨(l, _), rfl, h1, h2⟩
theorem slots_flat (l : List (List Cell × Value)) : (l.flatMap fun a : List Cell × Value => [a.2]) = l.map (·.2) := by
  induction l with
  | nil => rfl
  | cons a l ih => simp only [List.flatMap_cons, ih]; rfl
set_option maxRecDepth 100000 in
theorem cells_CellSS {fuel : Nat} {A : Option Addr} {n c : Nat} {x : DataW H × List MemPlace} (hf : DataW.trod enc Try.prog W 0 spare held fuel 25 [.slice A n c] = some x) : ∃ l : List (List Cell), CellSSRd W 0 W.heap.size (.slice A n c) l ∧ ∀ u ∈ l, ∀ a ∈ u, I64 a.x ∧ I64 a.y := by
  obtain ⟨l, h1, h2, h3⟩ := view_cells (fun a : List Cell × Value => [a.2]) (fun a => CellsRd W 0 W.heap.size a.2 a.1 ∧ ∀ c ∈ a.1, I64 c.x ∧ I64 c.y) (fun _ => rfl) (by decide) Try.underlying25 (by kernel_rfl) elem_slot hf
  rw [slots_flat] at h2
  refine ⟨l.map (·.1), ⟨l.map (·.2), by rw [List.length_map, h1]; exact h2, by simp, fun i u hu => ?_⟩, fun u hu => ?_⟩
  · rw [List.getElem?_map] at hu ⊢
    cases hl : l[i]? with
    | none => rw [hl] at hu; simp at hu
    | some a =>
      rw [hl] at hu
      simp at hu
      subst hu
      exact ⟨a.2, rfl, (h3 a (List.mem_of_getElem? hl)).1⟩
  · obtain ⟨a, ha, rfl⟩ := List.mem_map.1 hu
    exact (h3 a ha).2
set_option maxRecDepth 100000 in
theorem view_CellSS {r : Reach} (hv : Value.okWide Try.prog W r base 25 v) (h : DataW.Trod enc Try.prog W 0 spare held 25 v d p) : ∃ l : List (List Cell), CellSSRd W 0 W.heap.size v l ∧ ∀ u ∈ l, ∀ a ∈ u, I64 a.x ∧ I64 a.y := by
  obtain ⟨A, n, c, rfl⟩ := okWide_slice Try.underlying25 hv
  obtain ⟨fuel, hf⟩ := h
  exact cells_CellSS (by simpa [Value.cells] using hf)
set_option maxRecDepth 100000 in
set_option maxHeartbeats 800000 in
theorem view_Claim {r : Reach} (hv : Value.okWide Try.prog W r base 28 v) (h : DataW.Trod enc Try.prog W 0 spare held 28 v d p) : ∃ a : Clm, ClmRd W 0 W.heap.size v a ∧ a.text.size ≤ maxLen := by
  obtain ⟨cs, rfl, hsz⟩ := okWide_struct Try.underlying28 hv
  obtain ⟨fuel, hf⟩ := h
  have h12 : Try.prog.cellsOf 28 = 12 := by kernel_rfl
  rw [h12] at hsz
  simp only [Value.cells] at hf
  obtain ⟨l⟩ := cs
  have hl : l.length = 12 := hsz
  obtain ⟨n, hp⟩ := struct_parts Try.underlying28 hf
  match l, hl with
  | [c0, c1, c2, c3, c4, c5, c6, c7, c8, c9, c10, c11], _ =>
    have cR : Try.prog.cellsOf 24 = 2 := by kernel_rfl
    have cI : Try.prog.cellsOf 22 = 1 := by kernel_rfl
    have cP : Try.prog.cellsOf 25 = 1 := by kernel_rfl
    have cW : Try.prog.cellsOf 26 = 1 := by kernel_rfl
    have cS : Try.prog.cellsOf 9 = 1 := by kernel_rfl
    obtain ⟨_, h0⟩ := hp 0 _ rfl
    change DataW.trod enc Try.prog W 0 spare held n 3 (([c0, c1, c2, c3, c4, c5, c6, c7, c8, c9, c10, c11].drop 0).take (Try.prog.cellsOf 3)) = some _ at h0
    rw [oneInt] at h0
    change DataW.trod enc Try.prog W 0 spare held n 3 [c0] = some _ at h0
    obtain ⟨_, h1⟩ := hp 1 _ rfl
    change DataW.trod enc Try.prog W 0 spare held n 24 (([c0, c1, c2, c3, c4, c5, c6, c7, c8, c9, c10, c11].drop 1).take (Try.prog.cellsOf 24)) = some _ at h1
    rw [cR] at h1
    change DataW.trod enc Try.prog W 0 spare held n 24 [c1, c2] = some _ at h1
    obtain ⟨_, h2⟩ := hp 2 _ rfl
    change DataW.trod enc Try.prog W 0 spare held n 25 (([c0, c1, c2, c3, c4, c5, c6, c7, c8, c9, c10, c11].drop 3).take (Try.prog.cellsOf 25)) = some _ at h2
    rw [cP] at h2
    change DataW.trod enc Try.prog W 0 spare held n 25 [c3] = some _ at h2
    obtain ⟨_, h3⟩ := hp 3 _ rfl
    change DataW.trod enc Try.prog W 0 spare held n 22 (([c0, c1, c2, c3, c4, c5, c6, c7, c8, c9, c10, c11].drop 4).take (Try.prog.cellsOf 22)) = some _ at h3
    rw [cI] at h3
    change DataW.trod enc Try.prog W 0 spare held n 22 [c4] = some _ at h3
    obtain ⟨_, h4⟩ := hp 4 _ rfl
    change DataW.trod enc Try.prog W 0 spare held n 9 (([c0, c1, c2, c3, c4, c5, c6, c7, c8, c9, c10, c11].drop 5).take (Try.prog.cellsOf 9)) = some _ at h4
    rw [cS] at h4
    change DataW.trod enc Try.prog W 0 spare held n 9 [c5] = some _ at h4
    obtain ⟨_, h5⟩ := hp 5 _ rfl
    change DataW.trod enc Try.prog W 0 spare held n 3 (([c0, c1, c2, c3, c4, c5, c6, c7, c8, c9, c10, c11].drop 6).take (Try.prog.cellsOf 3)) = some _ at h5
    rw [oneInt] at h5
    change DataW.trod enc Try.prog W 0 spare held n 3 [c6] = some _ at h5
    obtain ⟨_, h6⟩ := hp 6 _ rfl
    change DataW.trod enc Try.prog W 0 spare held n 22 (([c0, c1, c2, c3, c4, c5, c6, c7, c8, c9, c10, c11].drop 7).take (Try.prog.cellsOf 22)) = some _ at h6
    rw [cI] at h6
    change DataW.trod enc Try.prog W 0 spare held n 22 [c7] = some _ at h6
    obtain ⟨_, h7⟩ := hp 7 _ rfl
    change DataW.trod enc Try.prog W 0 spare held n 3 (([c0, c1, c2, c3, c4, c5, c6, c7, c8, c9, c10, c11].drop 8).take (Try.prog.cellsOf 3)) = some _ at h7
    rw [oneInt] at h7
    change DataW.trod enc Try.prog W 0 spare held n 3 [c8] = some _ at h7
    obtain ⟨_, h8⟩ := hp 8 _ rfl
    change DataW.trod enc Try.prog W 0 spare held n 26 (([c0, c1, c2, c3, c4, c5, c6, c7, c8, c9, c10, c11].drop 9).take (Try.prog.cellsOf 26)) = some _ at h8
    rw [cW] at h8
    change DataW.trod enc Try.prog W 0 spare held n 26 [c9] = some _ at h8
    obtain ⟨_, h9⟩ := hp 9 _ rfl
    change DataW.trod enc Try.prog W 0 spare held n 3 (([c0, c1, c2, c3, c4, c5, c6, c7, c8, c9, c10, c11].drop 10).take (Try.prog.cellsOf 3)) = some _ at h9
    rw [oneInt] at h9
    change DataW.trod enc Try.prog W 0 spare held n 3 [c10] = some _ at h9
    obtain ⟨_, h10⟩ := hp 10 _ rfl
    change DataW.trod enc Try.prog W 0 spare held n 3 (([c0, c1, c2, c3, c4, c5, c6, c7, c8, c9, c10, c11].drop 11).take (Try.prog.cellsOf 3)) = some _ at h10
    rw [oneInt] at h10
    change DataW.trod enc Try.prog W 0 spare held n 3 [c11] = some _ at h10
    clear hp hf
    obtain ⟨x0, e0, _, _⟩ := DataW.trod_int Try.underlying3 h0
    obtain ⟨n1, hp1⟩ := struct_parts Try.underlying24 h1
    obtain ⟨_, g1⟩ := hp1 0 _ rfl
    change DataW.trod enc Try.prog W 0 spare held n1 3 (([c1, c2].drop 0).take (Try.prog.cellsOf 3)) = some _ at g1
    rw [oneInt] at g1
    change DataW.trod enc Try.prog W 0 spare held n1 3 [c1] = some _ at g1
    obtain ⟨_, g2⟩ := hp1 1 _ rfl
    change DataW.trod enc Try.prog W 0 spare held n1 22 (([c1, c2].drop 1).take (Try.prog.cellsOf 22)) = some _ at g2
    rw [cI] at g2
    change DataW.trod enc Try.prog W 0 spare held n1 22 [c2] = some _ at g2
    clear hp1
    obtain ⟨x1, e1, _, _⟩ := DataW.trod_int Try.underlying3 g1
    obtain ⟨A2, k2, q2, rfl⟩ := slice_of Try.underlying22 g2
    obtain ⟨A3, k3, q3, rfl⟩ := slice_of Try.underlying25 h2
    obtain ⟨A4, k4, q4, rfl⟩ := slice_of Try.underlying22 h3
    obtain ⟨x5, e5, _, w5⟩ := DataW.trod_string Try.underlying9 h4
    obtain ⟨x6, e6, _, _⟩ := DataW.trod_int Try.underlying3 h5
    obtain ⟨A7, k7, q7, rfl⟩ := slice_of Try.underlying22 h6
    obtain ⟨x8, e8, _, _⟩ := DataW.trod_int Try.underlying3 h7
    obtain ⟨A9, k9, q9, rfl⟩ := slice_of Try.underlying26 h8
    obtain ⟨x10, e10, _, _⟩ := DataW.trod_int Try.underlying3 h9
    obtain ⟨x11, e11, _, _⟩ := DataW.trod_int Try.underlying3 h10
    simp at e0 e1 e5 e6 e8 e10 e11
    subst e0 e1 e5 e6 e8 e10 e11
    obtain ⟨l2, r2, _⟩ := cells_Ints g2
    obtain ⟨l3, r3, _⟩ := cells_CellSS h2
    obtain ⟨l4, r4, _⟩ := cells_Ints h3
    obtain ⟨l7, r7, _⟩ := cells_Ints h6
    obtain ⟨l9, r9, _⟩ := cells_Wangs h8
    exact ⟨⟨x0, ⟨x1, l2⟩, l3, l4, x5, x6, l7, x8, l9, x10, x11⟩, ⟨_, _, _, _, _, rfl, r2, r3, r4, r7, r9⟩, w5⟩
end
end Go.Proofs.Ytjmeplchabehfaa
