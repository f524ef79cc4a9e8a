
/-
  What a law's parameters hold: shapes, lists of shapes, tiles, claims; a claim's mask too (never import beside ViewC).
-/
import Derived.Test.YtppbkiajcpdkiaaGreatDoorViewX
import Derived.Test.YtppbkiajcpdkiaaGreatDoorEqC
namespace Go.Proofs.YtppbkiajcpdkiaaGreatDoor
open Go.ChangeShapes Go.WideShapes Go.ChangeAt Go.RowKit Go.Deep

section
variable {H : Type} {enc : TypeId × Value → H} {W : World} {base : Nat} {spare : Nat → Bool} {held : Bool} {v : Value} {d : DataW H} {p : List MemPlace}
set_option maxRecDepth 100000 in
theorem elem_wang {w : World} {base : Nat} (m : Nat) (cs : List Value) (y : DataW H × List MemPlace) (hl : cs.length = 4) (h : DataW.trod enc Tryz.prog w base spare held m 138 cs = some y) :
    ∃ a : Wg, cs = [.int .i64 a.top, .int .i64 a.right, .int .i64 a.bottom, .int .i64 a.left] ∧ (I64 a.top ∧ I64 a.right ∧ I64 a.bottom ∧ I64 a.left) := by
  obtain ⟨n, hp⟩ := struct_parts Tryz.underlying138 h
  match cs, hl with
  | [a, b, c, e], _ =>
    obtain ⟨_, h1⟩ := hp 0 _ rfl
    obtain ⟨_, h2⟩ := hp 1 _ rfl
    obtain ⟨_, h3⟩ := hp 2 _ rfl
    obtain ⟨_, h4⟩ := hp 3 _ rfl
    obtain ⟨x1, e1, _, w1⟩ := DataW.trod_int Tryz.underlying3 h1
    obtain ⟨x2, e2, _, w2⟩ := DataW.trod_int Tryz.underlying3 h2
    obtain ⟨x3, e3, _, w3⟩ := DataW.trod_int Tryz.underlying3 h3
    obtain ⟨x4, e4, _, w4⟩ := DataW.trod_int Tryz.underlying3 h4
    simp [oneInt] at e1 e2 e3 e4
    subst e1 e2 e3 e4
    exact ⟨⟨x1, x2, x3, x4⟩, rfl, i64_of_wf w1, i64_of_wf w2, i64_of_wf w3, i64_of_wf w4⟩
set_option maxRecDepth 100000 in
theorem cells_Wangs {fuel : Nat} {A : Option Addr} {n c : Nat} {x : DataW H × List MemPlace} (hf : DataW.trod enc Tryz.prog W 0 spare held fuel 47 [.slice A n c] = some x) : ∃ l : List Wg, WangsRd W 0 W.heap.size (.slice A n c) l ∧ ∀ a ∈ l, I64 a.top ∧ I64 a.right ∧ I64 a.bottom ∧ I64 a.left := by
  obtain ⟨l, h1, h2, h3⟩ := view_cells (fun a : Wg => [.int .i64 a.top, .int .i64 a.right, .int .i64 a.bottom, .int .i64 a.left]) (fun a => I64 a.top ∧ I64 a.right ∧ I64 a.bottom ∧ I64 a.left) (fun _ => rfl) (by decide) Tryz.underlying47 (by kernel_rfl) elem_wang hf
  refine ⟨l, ?_, h3⟩
  unfold WangsRd
  rw [h1]
  exact h2
set_option maxRecDepth 100000 in
theorem view_Wangs {r : Reach} (hv : Value.okWide Tryz.prog W r base 47 v) (h : DataW.Trod enc Tryz.prog W 0 spare held 47 v d p) : ∃ l : List Wg, WangsRd W 0 W.heap.size v l ∧ ∀ a ∈ l, I64 a.top ∧ I64 a.right ∧ I64 a.bottom ∧ I64 a.left := by
  obtain ⟨A, n, c, rfl⟩ := okWide_slice Tryz.underlying47 hv
  obtain ⟨fuel, hf⟩ := h
  exact cells_Wangs (by simpa [Value.cells] using hf)
set_option maxRecDepth 100000 in
set_option maxHeartbeats 800000 in
theorem view_Claim {r : Reach} (hv : Value.okWide Tryz.prog W r base 49 v) (h : DataW.Trod enc Tryz.prog W 0 spare held 49 v d p) : ∃ a : Clm, ClmRd W 0 W.heap.size v a ∧ (a.text.size ≤ maxLen ∧ I64 a.mask) := by
  obtain ⟨cs, rfl, hsz⟩ := okWide_struct Tryz.underlying49 hv
  obtain ⟨fuel, hf⟩ := h
  have h12 : Tryz.prog.cellsOf 49 = 12 := by kernel_rfl
  rw [h12] at hsz
  simp only [Value.cells] at hf
  obtain ⟨l⟩ := cs
  have hl : l.length = 12 := hsz
  obtain ⟨n, hp⟩ := struct_parts Tryz.underlying49 hf
  match l, hl with
  | [c0, c1, c2, c3, c4, c5, c6, c7, c8, c9, c10, c11], _ =>
    have cR : Tryz.prog.cellsOf 45 = 2 := by kernel_rfl
    have cI : Tryz.prog.cellsOf 27 = 1 := by kernel_rfl
    have cP : Tryz.prog.cellsOf 46 = 1 := by kernel_rfl
    have cW : Tryz.prog.cellsOf 47 = 1 := by kernel_rfl
    have cS : Tryz.prog.cellsOf 9 = 1 := by kernel_rfl
    obtain ⟨_, h0⟩ := hp 0 _ rfl
    change DataW.trod enc Tryz.prog W 0 spare held n 3 (([c0, c1, c2, c3, c4, c5, c6, c7, c8, c9, c10, c11].drop 0).take (Tryz.prog.cellsOf 3)) = some _ at h0
    rw [oneInt] at h0
    change DataW.trod enc Tryz.prog W 0 spare held n 3 [c0] = some _ at h0
    obtain ⟨_, h1⟩ := hp 1 _ rfl
    change DataW.trod enc Tryz.prog W 0 spare held n 45 (([c0, c1, c2, c3, c4, c5, c6, c7, c8, c9, c10, c11].drop 1).take (Tryz.prog.cellsOf 45)) = some _ at h1
    rw [cR] at h1
    change DataW.trod enc Tryz.prog W 0 spare held n 45 [c1, c2] = some _ at h1
    obtain ⟨_, h2⟩ := hp 2 _ rfl
    change DataW.trod enc Tryz.prog W 0 spare held n 46 (([c0, c1, c2, c3, c4, c5, c6, c7, c8, c9, c10, c11].drop 3).take (Tryz.prog.cellsOf 46)) = some _ at h2
    rw [cP] at h2
    change DataW.trod enc Tryz.prog W 0 spare held n 46 [c3] = some _ at h2
    obtain ⟨_, h3⟩ := hp 3 _ rfl
    change DataW.trod enc Tryz.prog W 0 spare held n 27 (([c0, c1, c2, c3, c4, c5, c6, c7, c8, c9, c10, c11].drop 4).take (Tryz.prog.cellsOf 27)) = some _ at h3
    rw [cI] at h3
    change DataW.trod enc Tryz.prog W 0 spare held n 27 [c4] = some _ at h3
    obtain ⟨_, h4⟩ := hp 4 _ rfl
    change DataW.trod enc Tryz.prog W 0 spare held n 9 (([c0, c1, c2, c3, c4, c5, c6, c7, c8, c9, c10, c11].drop 5).take (Tryz.prog.cellsOf 9)) = some _ at h4
    rw [cS] at h4
    change DataW.trod enc Tryz.prog W 0 spare held n 9 [c5] = some _ at h4
    obtain ⟨_, h5⟩ := hp 5 _ rfl
    change DataW.trod enc Tryz.prog W 0 spare held n 3 (([c0, c1, c2, c3, c4, c5, c6, c7, c8, c9, c10, c11].drop 6).take (Tryz.prog.cellsOf 3)) = some _ at h5
    rw [oneInt] at h5
    change DataW.trod enc Tryz.prog W 0 spare held n 3 [c6] = some _ at h5
    obtain ⟨_, h6⟩ := hp 6 _ rfl
    change DataW.trod enc Tryz.prog W 0 spare held n 27 (([c0, c1, c2, c3, c4, c5, c6, c7, c8, c9, c10, c11].drop 7).take (Tryz.prog.cellsOf 27)) = some _ at h6
    rw [cI] at h6
    change DataW.trod enc Tryz.prog W 0 spare held n 27 [c7] = some _ at h6
    obtain ⟨_, h7⟩ := hp 7 _ rfl
    change DataW.trod enc Tryz.prog W 0 spare held n 3 (([c0, c1, c2, c3, c4, c5, c6, c7, c8, c9, c10, c11].drop 8).take (Tryz.prog.cellsOf 3)) = some _ at h7
    rw [oneInt] at h7
    change DataW.trod enc Tryz.prog W 0 spare held n 3 [c8] = some _ at h7
    obtain ⟨_, h8⟩ := hp 8 _ rfl
    change DataW.trod enc Tryz.prog W 0 spare held n 47 (([c0, c1, c2, c3, c4, c5, c6, c7, c8, c9, c10, c11].drop 9).take (Tryz.prog.cellsOf 47)) = some _ at h8
    rw [cW] at h8
    change DataW.trod enc Tryz.prog W 0 spare held n 47 [c9] = some _ at h8
    obtain ⟨_, h9⟩ := hp 9 _ rfl
    change DataW.trod enc Tryz.prog W 0 spare held n 3 (([c0, c1, c2, c3, c4, c5, c6, c7, c8, c9, c10, c11].drop 10).take (Tryz.prog.cellsOf 3)) = some _ at h9
    rw [oneInt] at h9
    change DataW.trod enc Tryz.prog W 0 spare held n 3 [c10] = some _ at h9
    obtain ⟨_, h10⟩ := hp 10 _ rfl
    change DataW.trod enc Tryz.prog W 0 spare held n 3 (([c0, c1, c2, c3, c4, c5, c6, c7, c8, c9, c10, c11].drop 11).take (Tryz.prog.cellsOf 3)) = some _ at h10
    rw [oneInt] at h10
    change DataW.trod enc Tryz.prog W 0 spare held n 3 [c11] = some _ at h10
    clear hp hf
    obtain ⟨x0, e0, _, _⟩ := DataW.trod_int Tryz.underlying3 h0
    obtain ⟨n1, hp1⟩ := struct_parts Tryz.underlying45 h1
    obtain ⟨_, g1⟩ := hp1 0 _ rfl
    change DataW.trod enc Tryz.prog W 0 spare held n1 3 (([c1, c2].drop 0).take (Tryz.prog.cellsOf 3)) = some _ at g1
    rw [oneInt] at g1
    change DataW.trod enc Tryz.prog W 0 spare held n1 3 [c1] = some _ at g1
    obtain ⟨_, g2⟩ := hp1 1 _ rfl
    change DataW.trod enc Tryz.prog W 0 spare held n1 27 (([c1, c2].drop 1).take (Tryz.prog.cellsOf 27)) = some _ at g2
    rw [cI] at g2
    change DataW.trod enc Tryz.prog W 0 spare held n1 27 [c2] = some _ at g2
    clear hp1
    obtain ⟨x1, e1, _, _⟩ := DataW.trod_int Tryz.underlying3 g1
    obtain ⟨A2, k2, q2, rfl⟩ := slice_of Tryz.underlying27 g2
    obtain ⟨A3, k3, q3, rfl⟩ := slice_of Tryz.underlying46 h2
    obtain ⟨A4, k4, q4, rfl⟩ := slice_of Tryz.underlying27 h3
    obtain ⟨x5, e5, _, w5⟩ := DataW.trod_string Tryz.underlying9 h4
    obtain ⟨x6, e6, _, _⟩ := DataW.trod_int Tryz.underlying3 h5
    obtain ⟨A7, k7, q7, rfl⟩ := slice_of Tryz.underlying27 h6
    obtain ⟨x8, e8, _, w8⟩ := DataW.trod_int Tryz.underlying3 h7
    obtain ⟨A9, k9, q9, rfl⟩ := slice_of Tryz.underlying47 h8
    obtain ⟨x10, e10, _, _⟩ := DataW.trod_int Tryz.underlying3 h9
    obtain ⟨x11, e11, _, _⟩ := DataW.trod_int Tryz.underlying3 h10
    simp at e0 e1 e5 e6 e8 e10 e11
    subst e0 e1 e5 e6 e8 e10 e11
    obtain ⟨l2, r2, _⟩ := cells_Ints g2
    obtain ⟨l3, r3, _⟩ := cells_CellSS h2
    obtain ⟨l4, r4, _⟩ := cells_Ints h3
    obtain ⟨l7, r7, _⟩ := cells_Ints h6
    obtain ⟨l9, r9, _⟩ := cells_Wangs h8
    exact ⟨⟨x0, ⟨x1, l2⟩, l3, l4, x5, x6, l7, x8, l9, x10, x11⟩, ⟨_, _, _, _, _, rfl, r2, r3, r4, r7, r9⟩, ⟨w5, i64_of_wf w8⟩⟩
end
end Go.Proofs.YtppbkiajcpdkiaaGreatDoor
