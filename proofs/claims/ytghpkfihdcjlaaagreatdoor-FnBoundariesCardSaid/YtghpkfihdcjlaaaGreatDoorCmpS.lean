
/-
  The order of shapes: plain, and the walks of both sides.
-/
import Derived.Test.YtghpkfihdcjlaaaGreatDoorMotAB
import Derived.Test.YtghpkfihdcjlaaaGreatDoorSepX
import Derived.Test.YtghpkfihdcjlaaaGreatDoorEqW
namespace Go.Proofs.YtghpkfihdcjlaaaGreatDoor
open Go.RowKit

def lexC : List Cell → List Cell → Int
  | a :: p, b :: q => if befB a b then -1 else if befB b a then 1 else lexC p q
  | _, _ => 0
def cmpS (a b : List Cell) : Int := if a.length < b.length then -1 else if b.length < a.length then 1 else lexC a b
theorem lexC_self : ∀ a : List Cell, lexC a a = 0
  | [] => rfl
  | c :: a => by simp [lexC, bef_irr, lexC_self a]
theorem lexC_zero : ∀ {a b : List Cell}, a.length = b.length → lexC a b = 0 → a = b
  | [], [], _, _ => rfl
  | [], _ :: _, h, _ => by simp at h
  | _ :: _, [], h, _ => by simp at h
  | x :: a, y :: b, h, h0 => by
    simp only [lexC] at h0
    split at h0
    · omega
    · split at h0
      · omega
      · rename_i h1 h2
        rcases bef_tri x y with e | e | e
        · exact absurd e h1
        · rw [e, lexC_zero (by simpa using h) h0]
        · exact absurd e h2
theorem cmpS_self {a : List Cell} : cmpS a a = 0 := by simp [cmpS, lexC_self]
theorem cmpS_zero {a b : List Cell} (h : cmpS a b = 0) : a = b := by
  unfold cmpS at h
  split at h
  · omega
  · split at h
    · omega
    · exact lexC_zero (by omega) h
theorem lexC_neg : ∀ (a b : List Cell), lexC b a = - lexC a b
  | [], [] => rfl
  | [], _ :: _ => rfl
  | _ :: _, [] => rfl
  | x :: a, y :: b => by
    simp only [lexC]
    by_cases h1 : befB x y = true
    · rw [if_pos h1, if_neg (by rw [bef_asym h1]; exact Bool.false_ne_true), if_pos h1]; rfl
    · by_cases h2 : befB y x = true
      · simp [h1, h2]
      · simp [h1, h2, lexC_neg a b]
theorem cmpS_neg (a b : List Cell) : cmpS b a = - cmpS a b := by
  unfold cmpS
  by_cases h1 : a.length < b.length
  · rw [if_neg (by omega), if_pos h1, if_pos h1]; rfl
  · by_cases h2 : b.length < a.length
    · rw [if_pos h2, if_neg h1, if_pos h2]
    · rw [if_neg h2, if_neg h1, if_neg h1, if_neg h2, lexC_neg]
theorem lexC_trans : ∀ {a b c : List Cell}, a.length = b.length → b.length = c.length → lexC a b < 0 → lexC b c < 0 → lexC a c < 0
  | [], b, c, h1, _, h3, _ => by cases b <;> simp [lexC] at h3
  | _ :: _, [], c, h1, _, _, _ => by simp at h1
  | _ :: _, _ :: _, [], _, h2, _, _ => by simp at h2
  | x :: a, y :: b, z :: c, h1, h2, h3, h4 => by
    simp only [lexC] at h3 h4 ⊢
    by_cases hxy : befB x y = true
    · by_cases hyz : befB y z = true
      · rw [if_pos (bef_trans hxy hyz)]; omega
      · rw [if_neg hyz] at h4
        by_cases hzy : befB z y = true
        · rw [if_pos hzy] at h4; omega
        · rcases bef_tri y z with e | e | e
          · exact absurd e hyz
          · subst e; rw [if_pos hxy]; omega
          · exact absurd e hzy
    · rw [if_neg hxy] at h3
      by_cases hyx : befB y x = true
      · rw [if_pos hyx] at h3; omega
      · rw [if_neg hyx] at h3
        rcases bef_tri x y with e | e | e
        · exact absurd e hxy
        · subst e
          by_cases hyz : befB x z = true
          · rw [if_pos hyz]; omega
          · rw [if_neg hyz] at h4 ⊢
            by_cases hzy : befB z x = true
            · rw [if_pos hzy] at h4; omega
            · rw [if_neg hzy] at h4 ⊢
              exact lexC_trans (by simpa using h1) (by simpa using h2) h3 h4
        · exact absurd e hyx
theorem cmpS_trans {a b c : List Cell} (h1 : cmpS a b < 0) (h2 : cmpS b c < 0) : cmpS a c < 0 := by
  unfold cmpS at h1 h2 ⊢
  by_cases l1 : a.length < b.length
  · by_cases l2 : b.length < c.length
    · rw [if_pos (by omega)]; omega
    · rw [if_neg l2] at h2
      by_cases l3 : c.length < b.length
      · rw [if_pos l3] at h2; omega
      · rw [if_pos (by omega)]; omega
  · rw [if_neg l1] at h1
    by_cases l4 : b.length < a.length
    · rw [if_pos l4] at h1; omega
    · rw [if_neg l4] at h1
      by_cases l2 : b.length < c.length
      · rw [if_pos (by omega)]; omega
      · rw [if_neg l2] at h2
        by_cases l3 : c.length < b.length
        · rw [if_pos l3] at h2; omega
        · rw [if_neg l3] at h2
          rw [if_neg (by omega), if_neg (by omega)]
          exact lexC_trans (by omega) (by omega) h1 h2
theorem lexC_at {a b : List Cell} {k : Nat} {x y : Cell} (ha : a[k]? = some x) (hb : b[k]? = some y) : lexC (a.drop k) (b.drop k) = if befB x y then -1 else if befB y x then 1 else lexC (a.drop (k + 1)) (b.drop (k + 1)) := by
  obtain ⟨h1, rfl⟩ := List.getElem?_eq_some_iff.1 ha
  obtain ⟨h2, rfl⟩ := List.getElem?_eq_some_iff.1 hb
  rw [List.drop_eq_getElem_cons h1, List.drop_eq_getElem_cons h2]; rfl
theorem lexC_end {a b : List Cell} {k : Nat} (h : a.length ≤ k) : lexC (a.drop k) (b.drop k) = 0 := by rw [List.drop_of_length_le h]; rfl

end Go.Proofs.YtghpkfihdcjlaaaGreatDoor
