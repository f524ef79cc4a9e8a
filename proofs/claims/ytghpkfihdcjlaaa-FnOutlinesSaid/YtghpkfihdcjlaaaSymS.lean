
/-
  The symmetries of a shape: both walks.
-/
import Derived.Test.YtghpkfihdcjlaaaOriX
import Derived.Test.YtghpkfihdcjlaaaOriS
namespace Go.Proofs.Ytghpkfihdcjlaaa
open Go.RowKit

theorem shp_srtS {s : List Cell} (h : isShape s = true) : Srt s := List.pairwise_iff_getElem.2 fun _ j hi hj hij => shp_pair h (List.getElem?_eq_getElem hi) j hij (List.getElem?_eq_getElem hj)
theorem sort_shpS {s : List Cell} (h : isShape s = true) : sortC s = s := sortC_is (shp_srtS h) fun _ => Iff.rfl
noncomputable def symB (s : List Cell) (m : Nat) : Bool := same (turnS m s) (corner s)
/-- the symmetries below i -/
noncomputable def symZ (s : List Cell) (i : Nat) : List Int := ((List.range i).filter (symB s)).map fun (n : Nat) => (n : Int)
theorem symZ_yes {s : List Cell} {i : Nat} (h : symB s i = true) : symZ s (i + 1) = symZ s i ++ [(i : Int)] := by
  rw [symZ, List.range_succ, List.filter_append, List.map_append]
  simp [symZ, h]
theorem symZ_no {s : List Cell} {i : Nat} (h : symB s i = false) : symZ s (i + 1) = symZ s i := by
  rw [symZ, List.range_succ, List.filter_append, List.map_append]
  simp [symZ, h]
theorem symZ_len {s : List Cell} (i : Nat) : (symZ s i).length ≤ i := by
  rw [symZ, List.length_map]
  exact Nat.le_trans (List.length_filter_le _ _) (by simp)
set_option maxRecDepth 100000 in
theorem infoIntSy : (Try.prog.info? 3).map (fun i => (i.zero, i.size, i.bytes)) = some (some (.int .i64 0), 1, 8) := by kernel_rfl
theorem sml_of {s : List Cell} (h : isShape s = true) (n : Int) (hn : 10 ≤ n) : ∀ c ∈ s, Sml n c := fun c hc => by
  obtain ⟨⟨h1, h2⟩, h3, h4⟩ := shp_on h hc
  exact ⟨⟨by omega, by omega⟩, by omega, by omega⟩
end Go.Proofs.Ytghpkfihdcjlaaa
