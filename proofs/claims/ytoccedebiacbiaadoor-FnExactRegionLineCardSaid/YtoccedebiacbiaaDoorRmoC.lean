
/-
  Motions of a grid: a motion is one-to-one, and turns the grid's sides (plain).
-/
import Derived.Test.YtoccedebiacbiaaDoorRmoA
namespace Go.Proofs.YtoccedebiacbiaaDoor

theorem mvK_inj {g g' : GPl} : ∀ k, mvK g k = mvK g' k → g = g'
  | 0, h => h
  | k + 1, h => by
    apply mvK_inj k
    simp only [mvK, GPl.mk.injEq] at h
    obtain ⟨a, b, c, d⟩ := h
    generalize mvK g k = p at a b c d ⊢
    generalize mvK g' k = q at a b c d ⊢
    obtain ⟨p1, p2, p3, p4⟩ := p
    obtain ⟨q1, q2, q3, q4⟩ := q
    simp only at a b c d
    simp only [GPl.mk.injEq]
    exact ⟨b, a, d, by omega⟩

theorem mvC_inj {w h x y x' y' : Int} {m : Nat} (e : mvC w h m x y = mvC w h m x' y') : x = x' ∧ y = y' := by
  have e1 := mvK_inj _ e
  simp only [mvF, GPl.mk.injEq] at e1
  obtain ⟨-, -, e2, e3⟩ := e1
  refine ⟨?_, e3⟩
  split at e2 <;> omega

theorem mvK_sides {g : GPl} : ∀ k, (mvK g k).w = (if k % 2 = 0 then g.w else g.h) ∧ (mvK g k).h = (if k % 2 = 0 then g.h else g.w)
  | 0 => ⟨rfl, rfl⟩
  | k + 1 => by
    obtain ⟨a, b⟩ := mvK_sides (g := g) k
    rcases Nat.mod_two_eq_zero_or_one k with e | e
    · have e1 : (k + 1) % 2 = 1 := by omega
      simp only [e, if_true] at a b
      refine ⟨?_, ?_⟩ <;> simp [mvK, e1, a, b]
    · have e1 : (k + 1) % 2 = 0 := by omega
      simp [e] at a b
      refine ⟨?_, ?_⟩ <;> simp [mvK, e1, a, b]

theorem mvC_sides (w h x y : Int) (m : Nat) : (mvC w h m x y).w = (if m % 2 = 0 then w else h) ∧ (mvC w h m x y).h = (if m % 2 = 0 then h else w) := by
  have e := mvK_sides (g := mvF w h m x y) (m % 4)
  have e1 : m % 4 % 2 = m % 2 := by omega
  rw [e1] at e
  exact e

/-- The number of a place in rows of its own grid, carried: in range and one-to-one. -/
theorem mvC_place {w h x y : Int} {m : Nat} (hg : GPl.ok ⟨w, h, x, y⟩) (hok : m % 2 = 0 ∨ w = h) :
    0 ≤ (mvC w h m x y).x ∧ (mvC w h m x y).x < w ∧ 0 ≤ (mvC w h m x y).y ∧ (mvC w h m x y).y < h := by
  obtain ⟨o1, o2, o3, o4, -, -⟩ := mvC_ok (m := m) hg
  obtain ⟨s1, s2⟩ := mvC_sides w h x y m
  rcases hok with e | e
  · simp only [e, if_true] at s1 s2
    rw [s1] at o2
    rw [s2] at o4
    exact ⟨o1, o2, o3, o4⟩
  · subst e
    have t1 : (mvC w w m x y).w = w := by rw [s1]; split <;> rfl
    have t2 : (mvC w w m x y).h = w := by rw [s2]; split <;> rfl
    rw [t1] at o2
    rw [t2] at o4
    exact ⟨o1, o2, o3, o4⟩

theorem rowNo_inj {w x y x' y' : Int} (h1 : 0 ≤ x) (h2 : x < w) (h3 : 0 ≤ x') (h4 : x' < w) (e : y * w + x = y' * w + x') : x = x' ∧ y = y' := by
  have e1 : (y * w + x) % w = x := by rw [Int.add_comm, Int.add_mul_emod_self_right]; exact Int.emod_eq_of_lt h1 h2
  have e2 : (y' * w + x') % w = x' := by rw [Int.add_comm, Int.add_mul_emod_self_right]; exact Int.emod_eq_of_lt h3 h4
  have ex : x = x' := by rw [← e1, ← e2, e]
  refine ⟨ex, ?_⟩
  subst ex
  have e3 : y * w = y' * w := by omega
  exact Int.eq_of_mul_eq_mul_right (by omega) e3
end Go.Proofs.YtoccedebiacbiaaDoor
