
/-
  Read-only memory as a thing of a walk's list. No program in sight. Orientations as lists of rows that are only read.
-/
import Derived.Test.YtjkppigjajknaaaGreatDoorSepX
import Derived.Test.YtjkppigjajknaaaGreatDoorOriS
import Derived.Test.YtjkppigjajknaaaGreatDoorEqV
namespace Go.Proofs.YtjkppigjajknaaaGreatDoor
open Go.RowKit

/-- what lies in an area of memory, read only -/
def Res.area (lo hi : Nat) (P : World → Prop) (hk : ∀ w w', SameIn lo hi w w' → P w → P w') : Res :=
  ⟨fun b => lo ≤ b ∧ b < hi, fun w => P w ∧ (lo < hi → hi ≤ w.heap.size), fun {w w'} hs h => ⟨hk w w' (fun b h1 h2 => hs b ⟨h1, h2⟩) h.1, fun hlt => by
    have := hs (hi - 1) ⟨by omega, by omega⟩
    have h1 : w.heap[hi - 1]? = some (w.heap[hi - 1]'(by have := h.2 hlt; omega)) := Array.getElem?_eq_getElem _
    rw [h1] at this
    have := (Array.getElem?_eq_some_iff.1 this).1
    omega⟩, fun {w b} h hb => by
    obtain ⟨h1, h2⟩ : lo ≤ b ∧ b < hi := hb
    have := h.2 (by omega)
    omega⟩
theorem Sep.area {w0 w w' : World} {L : List Res} (H : Sep w0 w L) (hb : Below w.heap.size w w') {P : World → Prop} (hk : ∀ u u', SameIn w.heap.size w'.heap.size u u' → P u → P u') (hp : P w') : Sep w0 w' (Res.area w.heap.size w'.heap.size P hk :: L) :=
  H.new hb ⟨hp, fun _ => Nat.le_refl _⟩ fun _ hb => hb.1
/-- a range of blocks, as it was in W -/
def Res.same (lo hi : Nat) (W : World) : Res := Res.area lo hi (fun u => SameIn lo hi W u) (fun _ _ hs h => h.trans hs)
theorem Sep.same {w0 w w' : World} {L : List Res} (H : Sep w0 w L) (hb : Below w.heap.size w w') : Sep w0 w' (Res.same w.heap.size w'.heap.size w' :: L) := H.area hb _ (SameIn.refl _)
theorem same_of {lo hi : Nat} {W w : World} (h : (Res.same lo hi W).holds w) : SameIn lo hi W w := h.1
theorem same_cell {lo hi b o : Nat} {W w : World} (h : (Res.same lo hi W).holds w) (h1 : lo ≤ b) (h2 : b < hi) : w.cell? ⟨b, o, none⟩ = W.cell? ⟨b, o, none⟩ := World.cell?_of_block (h.1 b h1 h2)
end Go.Proofs.YtjkppigjajknaaaGreatDoor

namespace Go.Proofs.YtjkppigjajknaaaGreatDoor
open Go.RowKit

theorem orients_sml {s : List Cell} (h : isShape s = true) : ∀ t ∈ orients s, ∀ c ∈ t, Sml 20 c := by
  intro t ht c hc
  obtain ⟨m, _, rfl⟩ := orients_row 8 t ht
  unfold turnS at hc
  have h1 : ∀ d ∈ sortC (s.map (carryC m)), Sml 7 d := fun d hd => by
    obtain ⟨e, he, rfl⟩ := List.mem_map.1 (mem_sortC.1 hd)
    obtain ⟨⟨a1, a2⟩, a3, a4⟩ := shp_on h he
    exact carryC_sml ⟨⟨by omega, by omega⟩, by omega, by omega⟩
  have h2 := mem_shift.1 hc
  have h3 := h1 _ h2
  have hpos : 1 ≤ (sortC (s.map (carryC m))).length := List.length_pos_of_mem h2
  have h4 := sml_min h1 hpos
  unfold Sml at h3 ⊢
  simp only at h3
  omega
theorem orients_len8 {s : List Cell} (h : isShape s = true) : ∀ t ∈ orients s, t.length ≤ 8 := fun t ht => by
  have h1 := orients_len t ht
  have h2 := shp_len h
  omega
theorem Sep.shpsRdNew {w w' : World} {v : Value} {n : Nat} {e : TypeId} {P : List (Value × List Cell)} (h : Sep w w' [Res.row v e 1 n (P.map Prod.fst), Res.shps P]) (hn : n = P.length) : CellSSRd w' w.heap.size w'.heap.size v (P.map Prod.snd) := by
  subst hn
  refine ⟨P.map Prod.fst, ?_, by simp, fun i r hr => ?_⟩
  · rw [List.length_map]
    exact h.oi.sr
  · rw [List.getElem?_map] at hr
    obtain ⟨p, hp, rfl⟩ := Option.map_eq_some_iff.1 hr
    exact ⟨p.1, by rw [List.getElem?_map, hp]; rfl, (h.g1.shpsOi (List.mem_of_getElem? hp)).sr⟩
end Go.Proofs.YtjkppigjajknaaaGreatDoor
