
/-
  Shapes: the border word: what it is.
-/
import Derived.Test.YtlfeognjnlppkaaShpT
import Derived.Test.YtlfeognjnlppkaaShpL
namespace Go.Proofs.Ytlfeognjnlppkaa
open Go.RowKit

noncomputable def bordOk (s : List Cell) : Bool := connS s && decide (holesZ s = 0) && !pinS s
theorem shp_first {s : List Cell} (h : isShape s = true) {a : Cell} (ha : s[0]? = some a) : edge s a 0 = true := by
  have key : ∀ x y : Int, y < a.y → hs s x y = false := fun x y hy => by
    rw [Bool.eq_false_iff]
    intro hm
    obtain ⟨j, hj⟩ := List.getElem?_of_mem (hs_iff.1 hm)
    cases j with
    | zero =>
      rw [ha] at hj
      cases hj
      simp only at hy
      omega
    | succ j =>
      have := shp_pair h ha (j + 1) (by omega) hj
      unfold befB at this
      simp at this
      omega
  unfold edge
  rw [key a.x (a.y - 1) (by omega)]
  have : hs s a.x a.y = true := hs_iff.2 (List.mem_of_getElem? ha)
  rw [this]
  rfl
structure BordIs (s : List Cell) (a : Cell) (K : Nat) : Prop where
  bord : Bord s a
  lo : 1 ≤ K
  hi : K ≤ 81
  home : wlk s a K = a
  away : ∀ k, 1 ≤ k → k < K → wlk s a k ≠ a
theorem bord_ex {s : List Cell} (h : isShape s = true) (hp : pinS s = false) {a : Cell} (ha : s[0]? = some a) : ∃ K, BordIs s a K := by
  have hb : Bord s a := ⟨fun c hc => shp_on h hc, hp, shp_first h ha⟩
  obtain ⟨K, h1, h2, h3, h4⟩ := hb.round
  exact ⟨K, hb, h1, h2, h3, h4⟩
theorem BordIs.len {s : List Cell} {a : Cell} {K K' : Nat} (h : BordIs s a K) (h' : BordIs s a K') : K = K' := by
  apply Classical.byContradiction
  intro hn
  by_cases hl : K < K'
  · exact h'.away K h.lo hl h.home
  · exact h.away K' h'.lo (by omega) h'.home
open Classical in
noncomputable def bordW (s : List Cell) : List UInt8 := if h : ∃ a K, bordOk s = true ∧ s[0]? = some a ∧ BordIs s a K then wrd s h.choose h.choose_spec.choose else []
theorem bordW_no {s : List Cell} (h : bordOk s = false) : bordW s = [] := by
  unfold bordW
  rw [dif_neg]
  rintro ⟨a, K, h1, _⟩
  rw [h] at h1
  cases h1
theorem bordW_yes {s : List Cell} (h : bordOk s = true) {a : Cell} {K : Nat} (ha : s[0]? = some a) (hb : BordIs s a K) : bordW s = wrd s a K := by
  have hex : ∃ a K, bordOk s = true ∧ s[0]? = some a ∧ BordIs s a K := ⟨a, K, h, ha, hb⟩
  unfold bordW
  rw [dif_pos hex]
  obtain ⟨_, h2, h3⟩ := hex.choose_spec.choose_spec
  generalize hex.choose_spec.choose = K' at *
  generalize hex.choose = a' at *
  rw [ha] at h2
  cases h2
  rw [hb.len h3]
theorem outD_0 {s : List Cell} {a : Cell} {K : Nat} (h : BordIs s a K) : outD s a = 0 := outD_is h.bord.free (by decide) h.bord.first
abbrev wstr (l : List UInt8) : ByteArray := ⟨l.toArray⟩
theorem wstr_size {l : List UInt8} : (wstr l).size = l.length := List.size_toArray
theorem wstr_app {l : List UInt8} {b : UInt8} : wstr l ++ wstr [b] = wstr (l ++ [b]) := by
  unfold wstr
  apply ByteArray.ext
  simp
end Go.Proofs.Ytlfeognjnlppkaa
