
/-
  What a law's parameters hold, read off the reading of the arguments. What a law's parameters hold: shapes, lists of shapes.
-/
import Derived.Test.YtghpkfihdcjlaaaGreatDoorProg
import Derived.Test.YtghpkfihdcjlaaaGreatDoorKinds
import Derived.ProofKit
import Derived.OpenShut
import Derived.Deep.Slices
import Derived.Lib.SmallJoins
import Derived.Test.YtghpkfihdcjlaaaGreatDoorEqV
namespace Go.Proofs.YtghpkfihdcjlaaaGreatDoor
open Go.ChangeShapes Go.WideShapes Go.ChangeAt Go.RowKit Go.Deep

theorem i64_of_wf {n : Int} (h : (Lit.int .i64 n).wf = true) : I64 n := by
  simp [Lit.wf, IntKind.min, IntKind.max, IntKind.signed, IntKind.bits] at h
  exact ⟨by omega, by omega⟩

section
variable {H : Type} {enc : TypeId × Value → H} {P : Program} {w : World} {base : Nat} {spare : Nat → Bool} {held : Bool}
/-- a slice whose elements read as cells, at every index up to its length -/
theorem view_cells {α : Type} {t e sz fuel : Nat} {A : Option Addr} {n c : Nat} {x : DataW H × List MemPlace} (f : α → List Value) (Q : α → Prop) (hf : ∀ a, (f a).length = sz) (hsz : 0 < sz) (ht : P.underlying t = some (.slice e)) (hc : P.cellsOf e = sz)
    (helem : ∀ (m : Nat) (cs : List Value) y, cs.length = sz → DataW.trod enc P w base spare held m e cs = some y → ∃ a, cs = f a ∧ Q a)
    (h : DataW.trod enc P w base spare held fuel t [.slice A n c] = some x) : ∃ l : List α, l.length = n ∧ SR w 0 w.heap.size sz (.slice A n c) n (l.flatMap f) ∧ ∀ a ∈ l, Q a := by
  rcases open_slice ht h with ⟨h1, h2⟩ | ⟨a, len, cap, m, k, D, Pl, hcs, _, hl, hm, hmm, hx, hel⟩
  · simp at h1
    obtain ⟨rfl, rfl, rfl⟩ := h1
    exact ⟨[], rfl, ⟨none, 0, rfl, Nat.zero_le _, Rd.nil⟩, by simp⟩
  · simp at hcs
    obtain ⟨rfl, rfl, rfl⟩ := hcs
    have hlm : n ≤ m := by rw [hmm]; split <;> omega
    have each : ∀ i, i < n → ∃ q : List Value, w.cells? base (a.add (i * sz)) sz = some q ∧ ∃ a', q = f a' ∧ Q a' := fun i hi => by
      obtain ⟨cs', g1, g2⟩ := hel i (by omega)
      rw [hc] at g1
      obtain ⟨_, hlen, _⟩ := World.cells?_some g1
      exact ⟨cs', g1, helem _ _ _ hlen g2⟩
    have key : ∀ k, k ≤ n → ∃ l : List α, l.length = k ∧ (∀ a ∈ l, Q a) ∧ ∀ j u, (l.flatMap f)[j]? = some u → w.cell? (a.add j) = some u := by
      intro k
      induction k with
      | zero => intro _; exact ⟨[], rfl, by simp, by simp⟩
      | succ k ih =>
        intro hk
        obtain ⟨l, h1, h2, h3⟩ := ih (by omega)
        obtain ⟨q, g1, a', rfl, ha⟩ := each k (by omega)
        refine ⟨l ++ [a'], by simp [h1], ?_, ?_⟩
        · intro b hb
          rcases List.mem_append.1 hb with hb | hb
          · exact h2 b hb
          · simp at hb; subst hb; exact ha
        · intro j u hu
          have hfl : (l.flatMap f).length = k * sz := by
            rw [← h1]
            clear h1 h2 h3 hu
            induction l with
            | nil => simp
            | cons y l ih2 => simp only [List.flatMap_cons, List.length_append, hf, ih2, List.length_cons, Nat.add_mul]; omega
          by_cases hj : j < k * sz
          · rw [List.flatMap_append, List.getElem?_append_left (by omega)] at hu
            exact h3 j u hu
          · rw [List.flatMap_append, List.getElem?_append_right (by omega), hfl] at hu
            simp only [List.flatMap_cons, List.flatMap_nil, List.append_nil] at hu
            obtain ⟨_, _, g3⟩ := World.cells?_some g1
            have hjs : j - k * sz < sz := by have hh := (List.getElem?_eq_some_iff.1 hu).1; rw [hf a'] at hh; exact hh
            have := g3 (j - k * sz) hjs
            rw [hu, add_add] at this
            rwa [show k * sz + (j - k * sz) = j by omega] at this
    obtain ⟨l, h1, h2, h3⟩ := key n (Nat.le_refl _)
    have hfl : (l.flatMap f).length = n * sz := by
      rw [← h1]
      clear h1 h2 h3
      induction l with
      | nil => simp
      | cons y l ih2 => simp only [List.flatMap_cons, List.length_append, hf, ih2, List.length_cons, Nat.add_mul]; omega
    refine ⟨l, h1, ⟨_, _, rfl, by omega, hfl, fun hn => ?_⟩, h2⟩
    have h0 : (l.flatMap f)[0]? = some ((l.flatMap f)[0]'(by rw [hfl]; exact Nat.mul_pos hn hsz)) := List.getElem?_eq_getElem _
    have hspot := World.cell?_spot (h3 0 _ h0)
    obtain ⟨b, off, spot⟩ := a
    have hs : spot = none := by simpa [Addr.add] using hspot
    subst hs
    refine ⟨b, off, rfl, Nat.zero_le _, ?_, fun j u hu => ?_⟩
    · have := h3 0 _ h0
      exact World.block_lt_of_cell? w _ (by simpa [Addr.add] using this)
    · have := h3 j u hu
      rw [add_plain] at this
      exact this
end

section
variable {H : Type} {enc : TypeId × Value → H} {W : World} {base : Nat} {spare : Nat → Bool} {held : Bool} {t : TypeId} {v : Value} {d : DataW H} {p : List MemPlace}
set_option maxRecDepth 100000 in
theorem view_int {r : Reach} (hv : Value.okWide Tryz.prog W r base 3 v) (h : DataW.Trod enc Tryz.prog W 0 spare held 3 v d p) : ∃ n, v = .int .i64 n ∧ I64 n := by
  obtain ⟨n, rfl⟩ := okWide_int Tryz.underlying3 hv
  obtain ⟨fuel, hf⟩ := h
  obtain ⟨n', h, hx, hw⟩ := DataW.trod_int Tryz.underlying3 hf
  simp [Value.cells] at h
  subst h
  exact ⟨_, rfl, i64_of_wf hw⟩
set_option maxRecDepth 100000 in
theorem view_bool {r : Reach} (hv : Value.okWide Tryz.prog W r base 4 v) (_ : DataW.Trod enc Tryz.prog W 0 spare held 4 v d p) : ∃ n, v = .bool n := okWide_bool Tryz.underlying4 hv
set_option maxRecDepth 100000 in
theorem view_str {r : Reach} (hv : Value.okWide Tryz.prog W r base 9 v) (h : DataW.Trod enc Tryz.prog W 0 spare held 9 v d p) : ∃ s, v = .string s ∧ s.size ≤ maxLen := by
  obtain ⟨s, rfl⟩ := okWide_string Tryz.underlying9 hv
  obtain ⟨fuel, hf⟩ := h
  obtain ⟨s', h, hx, hs⟩ := DataW.trod_string Tryz.underlying9 hf
  simp [Value.cells] at h
  subst h
  exact ⟨_, rfl, hs⟩

set_option maxRecDepth 100000 in
theorem elem_int {w : World} {base : Nat} (m : Nat) (cs : List Value) (y : DataW H × List MemPlace) (_ : cs.length = 1) (h : DataW.trod enc Tryz.prog w base spare held m 3 cs = some y) : ∃ a : Int, cs = [.int .i64 a] ∧ I64 a := by
  obtain ⟨n, rfl, _, hw⟩ := DataW.trod_int Tryz.underlying3 h
  exact ⟨n, rfl, i64_of_wf hw⟩
theorem ic_flat (l : List Int) : (l.flatMap fun a : Int => [Value.int .i64 a]) = ic l := by
  induction l with
  | nil => rfl
  | cons a l ih => simp only [List.flatMap_cons, ih]; rfl
set_option maxRecDepth 100000 in
theorem cells_Ints {fuel : Nat} {A : Option Addr} {n c : Nat} {x : DataW H × List MemPlace} (hf : DataW.trod enc Tryz.prog W 0 spare held fuel 73 [.slice A n c] = some x) : ∃ l : List Int, IntsRd W 0 W.heap.size (.slice A n c) l ∧ ∀ a ∈ l, I64 a := by
  obtain ⟨l, h1, h2, h3⟩ := view_cells (fun a : Int => [.int .i64 a]) I64 (fun _ => rfl) (by decide) Tryz.underlying73 (by kernel_rfl) elem_int hf
  refine ⟨l, ?_, h3⟩
  unfold IntsRd
  rw [h1, ← ic_flat]
  exact h2
set_option maxRecDepth 100000 in
theorem view_Ints {r : Reach} (hv : Value.okWide Tryz.prog W r base 73 v) (h : DataW.Trod enc Tryz.prog W 0 spare held 73 v d p) : ∃ l : List Int, IntsRd W 0 W.heap.size v l ∧ ∀ a ∈ l, I64 a := by
  obtain ⟨A, n, c, rfl⟩ := okWide_slice Tryz.underlying73 hv
  obtain ⟨fuel, hf⟩ := h
  exact cells_Ints (by simpa [Value.cells] using hf)
theorem struct_parts {P : Program} {w : World} {base m t : Nat} {fs : Array Field} {cs : List Value} {y : DataW H × List MemPlace} (ht : P.underlying t = some (.struct fs)) (h : DataW.trod enc P w base spare held m t cs = some y) :
    ∃ n, ∀ (i : Nat) (f : Field), fs[i]? = some f → ∃ z, DataW.trod enc P w base spare held n f.type ((cs.drop f.offset).take (P.cellsOf f.type)) = some z := by
  obtain ⟨xs, n, _, _, _, hl, hf⟩ := DataW.trod_struct ht h
  refine ⟨n, fun i f hi => ?_⟩
  have hs : i < xs.length := by rw [hl]; exact (Array.getElem?_eq_some_iff.1 hi).1
  exact ⟨xs[i], by rw [hf i f hi]; exact List.getElem?_eq_getElem hs⟩
end
end Go.Proofs.YtghpkfihdcjlaaaGreatDoor

namespace Go.Proofs.YtghpkfihdcjlaaaGreatDoor
open Go.ChangeShapes Go.WideShapes Go.ChangeAt Go.RowKit Go.Deep

section
variable {H : Type} {enc : TypeId × Value → H} {W : World} {base : Nat} {spare : Nat → Bool} {held : Bool} {v : Value} {d : DataW H} {p : List MemPlace}
set_option maxRecDepth 100000 in
theorem slice_of {t e fuel : Nat} {v : Value} {x : DataW H × List MemPlace} (ht : Tryz.prog.underlying t = some (.slice e)) (h : DataW.trod enc Tryz.prog W 0 spare held fuel t [v] = some x) : ∃ A n c, v = .slice A n c := by
  rcases open_slice ht h with ⟨g1, _⟩ | ⟨a, len, cap, m, k, D, Pl, hcs, _⟩
  · simp at g1; exact ⟨_, _, _, g1⟩
  · simp at hcs; exact ⟨_, _, _, hcs⟩
set_option maxRecDepth 100000 in
theorem oneInt : Tryz.prog.cellsOf 3 = 1 := by kernel_rfl
theorem slots_flat (l : List (List Cell × Value)) : (l.flatMap fun a : List Cell × Value => [a.2]) = l.map (·.2) := by
  induction l with
  | nil => rfl
  | cons a l ih => simp only [List.flatMap_cons, ih]; rfl
end
end Go.Proofs.YtghpkfihdcjlaaaGreatDoor
