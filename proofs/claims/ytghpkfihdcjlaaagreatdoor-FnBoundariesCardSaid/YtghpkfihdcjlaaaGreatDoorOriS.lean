
/-
  The orientations of a shape, and congruence: the reference's walks.
-/
import Derived.Test.YtghpkfihdcjlaaaGreatDoorOriP
namespace Go.Proofs.YtghpkfihdcjlaaaGreatDoor
open Go.RowKit

theorem Sep.shpsOi {w0 w : World} {L : List Res} {P : List (Value × List Cell)} (h : Sep w0 w (Res.shps P :: L)) {p : Value × List Cell} (hp : p ∈ P) : OI w w0.heap.size w.heap.size 46 2 p.1 p.2.length (cc p.2) := by
  have h1 := ShpsAt.own h.h0 p hp
  refine ⟨⟨h1.1, ?_⟩, fun k hk => own_lt h1 k hk⟩
  rcases h1.2 with hn | ⟨g, cap, cur, e, hbg, rest⟩
  · exact .inl hn
  · exact .inr ⟨g, cap, cur, e, h.2.1 g ⟨p, hp, by rw [e]; rfl⟩, rest⟩
theorem shp_sml {s : List Cell} (h : isShape s = true) : ∀ c ∈ s, Sml 100 c := fun c hc => by
  obtain ⟨⟨h1, h2⟩, h3, h4⟩ := shp_on h hc
  exact ⟨⟨by omega, by omega⟩, ⟨by omega, by omega⟩⟩
theorem pmap_ins {P : List (Value × List Cell)} {u : Value} {r : List Cell} {k : Nat} : (P.take k ++ (u, r) :: P.drop k).map Prod.fst = (P.map Prod.fst).take k ++ u :: (P.map Prod.fst).drop k ∧ (P.take k ++ (u, r) :: P.drop k).map Prod.snd = (P.map Prod.snd).take k ++ r :: (P.map Prod.snd).drop k := by
  constructor <;> simp [List.map_take, List.map_drop]
end Go.Proofs.YtghpkfihdcjlaaaGreatDoor
