
/-
  A list of shapes that a walk owns: the shapes lie apart from each other.
-/
import Derived.Test.YtghpkfihdcjlaaaGreatDoorCmpS
import Derived.Test.YtghpkfihdcjlaaaGreatDoorEqV
namespace Go.Proofs.YtghpkfihdcjlaaaGreatDoor
open Go.RowKit

structure ShpsAt (w : World) (P : List (Value × List Cell)) : Prop where
  own : ∀ p ∈ P, w.ownsRow 0 46 2 p.1 p.2.length (cc p.2)
  apart : P.Pairwise fun p q => ∀ b, p.1.ownBlock = some b → q.1.ownBlock ≠ some b
def Res.shps (P : List (Value × List Cell)) : Res := ⟨fun b => ∃ p ∈ P, p.1.ownBlock = some b, fun w => ShpsAt w P,
  fun hs h => ⟨fun p hp => own_keep (h.own p hp) fun b hb => hs b ⟨p, hp, hb⟩, h.apart⟩,
  fun h ⟨p, hp, hb⟩ => own_lt (h.own p hp) _ hb⟩
section
variable {w0 w w' : World} {L : List Res} {P Q : List (Value × List Cell)}
theorem Sep.shpsNil (h : Sep w0 w L) : Sep w0 w (Res.shps [] :: L) :=
  h.new (Below.refl _ _) ⟨fun p hp => by simp at hp, List.Pairwise.nil⟩ (fun b ⟨p, hp, _⟩ => by simp at hp)
theorem Sep.shpsPerm (h : Sep w0 w (Res.shps P :: L)) (hp : P.Perm Q) : Sep w0 w (Res.shps Q :: L) := by
  refine ⟨⟨fun p hq => ShpsAt.own h.h0 p (hp.mem_iff.2 hq), ?_⟩, fun b ⟨p, hq, hb⟩ => h.2.1 b ⟨p, hp.mem_iff.2 hq, hb⟩, fun q hq b ⟨p, hp', hb⟩ => h.2.2.1 q hq b ⟨p, hp.mem_iff.2 hp', hb⟩, h.drop⟩
  refine (hp.pairwise_iff ?_).1 (ShpsAt.apart h.h0)
  intro p q hpq b hb hb'
  exact hpq b hb' hb
theorem Sep.shpsCons {u : Value} {n : Nat} {r : List Cell} (h : Sep w0 w (Res.shps P :: Res.row u 46 2 n (cc r) :: L)) (hn : n = r.length) : Sep w0 w (Res.shps ((u, r) :: P) :: L) := by
  subst hn
  refine ⟨⟨?_, ?_⟩, ?_, ?_, h.drop.drop⟩
  · intro p hp
    rcases List.mem_cons.1 hp with rfl | hp
    · exact h.h1
    · exact ShpsAt.own h.h0 p hp
  · refine List.pairwise_cons.2 ⟨fun q hq b hb hb' => ?_, ShpsAt.apart h.h0⟩
    exact h.2.2.1 (Res.row u 46 2 r.length (cc r)) (by simp) b ⟨q, hq, hb'⟩ hb
  · intro b ⟨p, hp, hb⟩
    rcases List.mem_cons.1 hp with rfl | hp
    · exact h.drop.2.1 b hb
    · exact h.2.1 b ⟨p, hp, hb⟩
  · intro q hq b ⟨p, hp, hb⟩
    rcases List.mem_cons.1 hp with rfl | hp
    · exact h.drop.2.2.1 q hq b hb
    · exact h.2.2.1 q (by simp [hq]) b ⟨p, hp, hb⟩
/-- a new shape comes in at place k -/
theorem Sep.shpsIns {u : Value} {n : Nat} {r : List Cell} (h : Sep w0 w (Res.shps P :: Res.row u 46 2 n (cc r) :: L)) (hn : n = r.length) (k : Nat) : Sep w0 w (Res.shps (P.take k ++ (u, r) :: P.drop k) :: L) :=
  (h.shpsCons hn).shpsPerm (by
    have := List.perm_middle (a := (u, r)) (l₁ := P.take k) (l₂ := P.drop k)
    rw [List.take_append_drop] at this
    exact this.symm)
theorem ShpsAt.rd (h : ShpsAt w P) {p : Value × List Cell} (hp : p ∈ P) : CellsRd w 0 w.heap.size p.1 p.2 := OI.sr (lo := 0) ⟨h.own p hp, fun k hk => own_lt (h.own p hp) k hk⟩
theorem Sep.shpsRd {v : Value} {n : Nat} {e : TypeId} (h : Sep w0 w (Res.row v e 1 n (P.map Prod.fst) :: Res.shps P :: L)) (hn : n = P.length) : CellSSRd w 0 w.heap.size v (P.map Prod.snd) := by
  subst hn
  refine ⟨P.map Prod.fst, ?_, by simp, fun i u hu => ?_⟩
  · rw [List.length_map]
    exact (Sep.oi h).sr.more (Nat.zero_le _) (Nat.le_refl _)
  · rw [List.getElem?_map] at hu
    obtain ⟨p, hp, rfl⟩ := Option.map_eq_some_iff.1 hu
    exact ⟨p.1, by rw [List.getElem?_map, hp]; rfl, ShpsAt.rd h.h1 (List.mem_of_getElem? hp)⟩
end
section
variable {w : World} {lo hi sz n g o k : Nat} {xs : List Value}
theorem Rd.take (h : Rd w lo hi sz (some ⟨g, o, none⟩) n xs) (hk : k ≤ n) : Rd w lo hi sz (some ⟨g, o, none⟩) k (xs.take (k * sz)) := by
  refine ⟨by rw [List.length_take, h.1]; exact Nat.min_eq_left (Nat.mul_le_mul_right _ hk), fun h0 => ?_⟩
  obtain ⟨b, off, e, h1, h2, h3⟩ := h.2 (by omega)
  refine ⟨b, off, e, h1, h2, fun j u hu => ?_⟩
  rw [List.getElem?_take] at hu
  split at hu
  · exact h3 j u hu
  · cases hu
theorem Rd.drop (h : Rd w lo hi sz (some ⟨g, o, none⟩) n xs) : Rd w lo hi sz (some ⟨g, o + k * sz, none⟩) (n - k) (xs.drop (k * sz)) := by
  refine ⟨by rw [List.length_drop, h.1, Nat.sub_mul], fun h0 => ?_⟩
  obtain ⟨b, off, e, h1, h2, h3⟩ := h.2 (by omega)
  injection e with e
  injection e with e1 e2
  subst e1 e2
  refine ⟨g, o + k * sz, rfl, h1, h2, fun j u hu => ?_⟩
  rw [List.getElem?_drop] at hu
  have := h3 _ u hu
  rwa [← Nat.add_assoc] at this
end
end Go.Proofs.YtghpkfihdcjlaaaGreatDoor
