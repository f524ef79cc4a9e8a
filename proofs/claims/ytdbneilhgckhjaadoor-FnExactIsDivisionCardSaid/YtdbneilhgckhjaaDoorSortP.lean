
/-
  Sorting by insertion, swap by swap. Plain.
-/
import Derived.Test.YtdbneilhgckhjaaDoorMotB
namespace Go.Proofs.YtdbneilhgckhjaaDoor
open Go.RowKit

theorem le_trans' {a b c : Cell} (h1 : befB b a = false) (h2 : befB c b = false) : befB c a = false := by
  cases h : befB c a
  · rfl
  · rcases bef_tri a b with e | e | e
    · rw [bef_trans h e] at h2; cases h2
    · subst e; rw [h] at h2; cases h2
    · rw [e] at h1; cases h1
/-- the first i cells are in order -/
def WS (d : List Cell) (i : Nat) : Prop := ∀ (p q : Nat) (a b : Cell), p < q → q < i → d[p]? = some a → d[q]? = some b → befB b a = false
/-- .. all but the one at j, which comes from behind -/
def WJ (d : List Cell) (i j : Nat) : Prop := ∀ (p q : Nat) (a b : Cell), p < q → q ≤ i → q ≠ j → d[p]? = some a → d[q]? = some b → befB b a = false
theorem WS.one {d : List Cell} : WS d 1 := fun p q _ _ h1 h2 => by omega
theorem WS.start {d : List Cell} {i : Nat} (h : WS d i) : WJ d i i := fun p q a b h1 h2 h3 => h p q a b h1 (by omega)
theorem WJ.zero {d : List Cell} {i : Nat} (h : WJ d i 0) : WS d (i + 1) := fun p q a b h1 h2 => h p q a b h1 (by omega) (by omega)
theorem WJ.stop {d : List Cell} {i j : Nat} {x y : Cell} (h : WJ d i j) (hj : 0 < j) (hx : d[j]? = some x) (hy : d[j - 1]? = some y) (hb : befB x y = false) : WS d (i + 1) := fun p q a b h1 h2 h3 h4 => by
  by_cases e : q = j
  · subst e
    rw [hx] at h4
    injection h4 with h4
    subst h4
    by_cases e2 : p = q - 1
    · subst e2
      rw [hy] at h3
      injection h3 with h3
      subst h3
      exact hb
    · exact le_trans' (h p (q - 1) a y (by omega) (by omega) (by omega) h3 hy) hb
  · exact h p q a b h1 (by omega) e h3 h4
def swapC (d : List Cell) (i j : Nat) (x y : Cell) : List Cell := (d.set i y).set j x
theorem WJ.swap {d : List Cell} {i j : Nat} {x y : Cell} (h : WJ d i j) (hj : 0 < j) (hji : j ≤ i) (hx : d[j]? = some x) (hy : d[j - 1]? = some y) (hb : befB x y = true) : WJ (swapC d j (j - 1) x y) i (j - 1) := fun p q a b h1 h2 h3 h4 h5 => by
  have hjl : j < d.length := (List.getElem?_eq_some_iff.1 hx).1
  have g1 : ∀ m, m ≠ j → m ≠ j - 1 → (swapC d j (j - 1) x y)[m]? = d[m]? := fun m e1 e2 => by
    unfold swapC
    rw [List.getElem?_set_ne (fun e => e2 e.symm), List.getElem?_set_ne (fun e => e1 e.symm)]
  have g2 : (swapC d j (j - 1) x y)[j - 1]? = some x := by
    unfold swapC
    rw [List.getElem?_set_self (by rw [List.length_set]; omega)]
  have g3 : (swapC d j (j - 1) x y)[j]? = some y := by
    unfold swapC
    rw [List.getElem?_set_ne (by omega), List.getElem?_set_self hjl]
  by_cases e1 : q = j
  · subst e1
    rw [g3] at h5
    injection h5 with h5
    subst h5
    by_cases e2 : p = q - 1
    · subst e2
      rw [g2] at h4
      injection h4 with h4
      subst h4
      exact bef_asym hb
    · rw [g1 p (by omega) e2] at h4
      exact h p (q - 1) a y (by omega) (by omega) (by omega) h4 hy
  · rw [g1 q e1 h3] at h5
    by_cases e2 : p = j - 1
    · subst e2
      rw [g2] at h4
      injection h4 with h4
      subst h4
      exact h j q x b (by omega) h2 e1 hx h5
    · by_cases e3 : p = j
      · subst e3
        rw [g3] at h4
        injection h4 with h4
        subst h4
        exact h (p - 1) q y b (by omega) h2 e1 hy h5
      · rw [g1 p e3 e2] at h4
        exact h p q a b h1 h2 e1 h4 h5
theorem swapC_len {d : List Cell} {i j : Nat} {x y : Cell} : (swapC d i j x y).length = d.length := by simp [swapC]
theorem mem_swapC {d : List Cell} {i j : Nat} {x y : Cell} (hij : i ≠ j) (hx : d[i]? = some x) (hy : d[j]? = some y) (c : Cell) : c ∈ swapC d i j x y ↔ c ∈ d := by
  have hi : i < d.length := (List.getElem?_eq_some_iff.1 hx).1
  have hj : j < d.length := (List.getElem?_eq_some_iff.1 hy).1
  have g1 : ∀ m, m ≠ i → m ≠ j → (swapC d i j x y)[m]? = d[m]? := fun m e1 e2 => by
    unfold swapC
    rw [List.getElem?_set_ne (fun e => e2 e.symm), List.getElem?_set_ne (fun e => e1 e.symm)]
  have g2 : (swapC d i j x y)[j]? = some x := by
    unfold swapC
    rw [List.getElem?_set_self (by rw [List.length_set]; exact hj)]
  have g3 : (swapC d i j x y)[i]? = some y := by
    unfold swapC
    rw [List.getElem?_set_ne (fun e => hij e.symm), List.getElem?_set_self hi]
  constructor
  · intro h
    obtain ⟨m, hm⟩ := List.getElem?_of_mem h
    by_cases e1 : m = i
    · subst e1; rw [g3] at hm; injection hm with hm; subst hm; exact List.mem_of_getElem? hy
    · by_cases e2 : m = j
      · subst e2; rw [g2] at hm; injection hm with hm; subst hm; exact List.mem_of_getElem? hx
      · rw [g1 m e1 e2] at hm; exact List.mem_of_getElem? hm
  · intro h
    obtain ⟨m, hm⟩ := List.getElem?_of_mem h
    by_cases e1 : m = i
    · subst e1; rw [hx] at hm; injection hm with hm; subst hm; exact List.mem_of_getElem? g2
    · by_cases e2 : m = j
      · subst e2; rw [hy] at hm; injection hm with hm; subst hm; exact List.mem_of_getElem? g3
      · rw [← g1 m e1 e2] at hm; exact List.mem_of_getElem? hm
/-- what the program's second pass keeps of the first k: each that is not as the one ahead of it -/
def dedupT (d : List Cell) : Nat → List Cell
  | 0 => []
  | k + 1 => match d[k]? with
    | none => dedupT d k
    | some c => if 0 < k ∧ d[k - 1]? = some c then dedupT d k else dedupT d k ++ [c]
theorem dedup_all {d : List Cell} (h : WS d d.length) : ∀ k, k ≤ d.length → Srt (dedupT d k) ∧ (∀ c, c ∈ dedupT d k ↔ c ∈ d.take k)
  | 0, _ => ⟨List.Pairwise.nil, fun c => by simp [dedupT]⟩
  | k + 1, hk => by
    obtain ⟨h1, h2⟩ := dedup_all h k (by omega)
    obtain ⟨c, hc⟩ : ∃ c, d[k]? = some c := ⟨d[k], List.getElem?_eq_getElem (by omega)⟩
    have ht : ∀ e, e ∈ d.take (k + 1) ↔ e ∈ d.take k ∨ e = c := fun e => by rw [List.take_add_one, hc]; simp
    simp only [dedupT, hc]
    by_cases hp : 0 < k ∧ d[k - 1]? = some c
    · rw [if_pos hp]
      refine ⟨h1, fun e => (h2 e).trans ?_⟩
      rw [ht]
      constructor
      · exact .inl
      · rintro (he | rfl)
        · exact he
        · refine List.mem_of_getElem? (i := k - 1) ?_
          rw [List.getElem?_take, if_pos (by omega)]
          exact hp.2
    · rw [if_neg hp]
      refine ⟨?_, fun e => ?_⟩
      · unfold Srt
        rw [List.pairwise_append]
        refine ⟨h1, List.pairwise_singleton _ _, fun a ha b hb => ?_⟩
        simp at hb
        subst hb
        obtain ⟨j, hj⟩ := List.getElem?_of_mem ((h2 a).1 ha)
        rw [List.getElem?_take] at hj
        split at hj
        · rename_i hjk
          rcases bef_tri a b with e | e | e
          · exact e
          · subst e
            exfalso
            apply hp
            refine ⟨by omega, ?_⟩
            by_cases e : j = k - 1
            · subst e; exact hj
            · obtain ⟨m, hm⟩ : ∃ m, d[k - 1]? = some m := ⟨d[k - 1], List.getElem?_eq_getElem (by omega)⟩
              have x1 := h j (k - 1) a m (by omega) (by omega) hj hm
              have x2 := h (k - 1) k m a (by omega) (by omega) hm hc
              rcases bef_tri a m with y | y | y
              · rw [y] at x2; cases x2
              · rw [hm, y]
              · rw [y] at x1; cases x1
          · have := h j k a b hjk (by omega) hj hc
            rw [e] at this; cases this
        · cases hj
      · rw [List.mem_append, ht, h2 e, List.mem_singleton]
theorem dedup_sort {d s : List Cell} (h : WS d d.length) (hm : ∀ c, c ∈ d ↔ c ∈ s) : dedupT d d.length = sortC s := by
  obtain ⟨h1, h2⟩ := dedup_all h d.length (Nat.le_refl _)
  refine (sortC_is h1 fun c => ?_).symm
  rw [h2, List.take_length, hm]
end Go.Proofs.YtdbneilhgckhjaaDoor
