
/-
  What a law's parameters hold: shapes, lists of shapes, tiles, claims.
-/
import Derived.Test.YtlfeognjnlppkaaDoorViews
import Derived.Test.YtlfeognjnlppkaaDoorEqC
namespace Go.Proofs.YtlfeognjnlppkaaDoor
open Go.ChangeShapes Go.WideShapes Go.ChangeAt Go.RowKit Go.Deep

section
variable {H : Type} {enc : TypeId × Value → H} {W : World} {base : Nat} {spare : Nat → Bool} {held : Bool} {v : Value} {d : DataW H} {p : List MemPlace}
set_option maxRecDepth 100000 in
theorem slice_of {t e fuel : Nat} {v : Value} {x : DataW H × List MemPlace} (ht : Tryd.prog.underlying t = some (.slice e)) (h : DataW.trod enc Tryd.prog W 0 spare held fuel t [v] = some x) : ∃ A n c, v = .slice A n c := by
  rcases open_slice ht h with ⟨g1, _⟩ | ⟨a, len, cap, m, k, D, Pl, hcs, _⟩
  · simp at g1; exact ⟨_, _, _, g1⟩
  · simp at hcs; exact ⟨_, _, _, hcs⟩
set_option maxRecDepth 100000 in
theorem oneInt : Tryd.prog.cellsOf 3 = 1 := by kernel_rfl
set_option maxRecDepth 100000 in
theorem elem_wang {w : World} {base : Nat} (m : Nat) (cs : List Value) (y : DataW H × List MemPlace) (hl : cs.length = 4) (h : DataW.trod enc Tryd.prog w base spare held m 45 cs = some y) :
    ∃ a : Wg, cs = [.int .i64 a.top, .int .i64 a.right, .int .i64 a.bottom, .int .i64 a.left] ∧ (I64 a.top ∧ I64 a.right ∧ I64 a.bottom ∧ I64 a.left) := by
  obtain ⟨n, hp⟩ := struct_parts Tryd.underlying45 h
  match cs, hl with
  | [a, b, c, e], _ =>
    obtain ⟨_, h1⟩ := hp 0 _ rfl
    obtain ⟨_, h2⟩ := hp 1 _ rfl
    obtain ⟨_, h3⟩ := hp 2 _ rfl
    obtain ⟨_, h4⟩ := hp 3 _ rfl
    obtain ⟨x1, e1, _, w1⟩ := DataW.trod_int Tryd.underlying3 h1
    obtain ⟨x2, e2, _, w2⟩ := DataW.trod_int Tryd.underlying3 h2
    obtain ⟨x3, e3, _, w3⟩ := DataW.trod_int Tryd.underlying3 h3
    obtain ⟨x4, e4, _, w4⟩ := DataW.trod_int Tryd.underlying3 h4
    simp [oneInt] at e1 e2 e3 e4
    subst e1 e2 e3 e4
    exact ⟨⟨x1, x2, x3, x4⟩, rfl, i64_of_wf w1, i64_of_wf w2, i64_of_wf w3, i64_of_wf w4⟩
set_option maxRecDepth 100000 in
theorem cells_Wangs {fuel : Nat} {A : Option Addr} {n c : Nat} {x : DataW H × List MemPlace} (hf : DataW.trod enc Tryd.prog W 0 spare held fuel 24 [.slice A n c] = some x) : ∃ l : List Wg, WangsRd W 0 W.heap.size (.slice A n c) l ∧ ∀ a ∈ l, I64 a.top ∧ I64 a.right ∧ I64 a.bottom ∧ I64 a.left := by
  obtain ⟨l, h1, h2, h3⟩ := view_cells (fun a : Wg => [.int .i64 a.top, .int .i64 a.right, .int .i64 a.bottom, .int .i64 a.left]) (fun a => I64 a.top ∧ I64 a.right ∧ I64 a.bottom ∧ I64 a.left) (fun _ => rfl) (by decide) Tryd.underlying24 (by kernel_rfl) elem_wang hf
  refine ⟨l, ?_, h3⟩
  unfold WangsRd
  rw [h1]
  exact h2
set_option maxRecDepth 100000 in
theorem view_Wangs {r : Reach} (hv : Value.okWide Tryd.prog W r base 24 v) (h : DataW.Trod enc Tryd.prog W 0 spare held 24 v d p) : ∃ l : List Wg, WangsRd W 0 W.heap.size v l ∧ ∀ a ∈ l, I64 a.top ∧ I64 a.right ∧ I64 a.bottom ∧ I64 a.left := by
  obtain ⟨A, n, c, rfl⟩ := okWide_slice Tryd.underlying24 hv
  obtain ⟨fuel, hf⟩ := h
  exact cells_Wangs (by simpa [Value.cells] using hf)
end
end Go.Proofs.YtlfeognjnlppkaaDoor
