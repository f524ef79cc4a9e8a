
/-
  The orientations of a shape, in order. Plain.
-/
import Derived.Test.YtghpkfihdcjlaaaGreatDoorPutSD
namespace Go.Proofs.YtghpkfihdcjlaaaGreatDoor
open Go.RowKit

theorem pw_ext {α : Type} {r : α → α → Prop} (irr : ∀ a, ¬ r a a) (asy : ∀ a b, r a b → ¬ r b a) : ∀ {a b : List α}, a.Pairwise r → b.Pairwise r → (∀ c, c ∈ a ↔ c ∈ b) → a = b
  | [], [], _, _, _ => rfl
  | [], y :: b, _, _, h => by have := (h y).2 List.mem_cons_self; simp at this
  | x :: a, [], _, _, h => by have := (h x).1 List.mem_cons_self; simp at this
  | x :: a, y :: b, ha, hb, h => by
    have ha' := List.pairwise_cons.1 ha
    have hb' := List.pairwise_cons.1 hb
    have hxy : x = y := by
      rcases List.mem_cons.1 ((h x).1 List.mem_cons_self) with e | hx
      · exact e
      · rcases List.mem_cons.1 ((h y).2 List.mem_cons_self) with e | hy
        · exact e.symm
        · exact absurd (hb'.1 x hx) (asy _ _ (ha'.1 y hy))
    subst hxy
    congr 1
    refine pw_ext irr asy ha'.2 hb'.2 fun c => ?_
    have hc := h c
    rw [List.mem_cons, List.mem_cons] at hc
    constructor
    · intro hm
      rcases hc.1 (.inr hm) with rfl | hm'
      · exact absurd (ha'.1 c hm) (irr c)
      · exact hm'
    · intro hm
      rcases hc.2 (.inr hm) with rfl | hm'
      · exact absurd (hb'.1 c hm) (irr c)
      · exact hm'
def SrtS (M : List (List Cell)) : Prop := M.Pairwise fun a b => cmpS a b < 0
theorem cmpS_irr (a : List Cell) : ¬ cmpS a a < 0 := by rw [cmpS_self]; omega
theorem cmpS_asy (a b : List Cell) (h : cmpS a b < 0) : ¬ cmpS b a < 0 := by rw [cmpS_neg]; omega
theorem cmpS_tri (a b : List Cell) : cmpS a b < 0 ∨ a = b ∨ cmpS b a < 0 := by
  by_cases h1 : cmpS a b < 0
  · exact .inl h1
  · by_cases h2 : cmpS b a < 0
    · exact .inr (.inr h2)
    · rw [cmpS_neg] at h2
      exact .inr (.inl (cmpS_zero (by omega)))
theorem srtS_ext {a b : List (List Cell)} (ha : SrtS a) (hb : SrtS b) (h : ∀ c, c ∈ a ↔ c ∈ b) : a = b := pw_ext cmpS_irr cmpS_asy ha hb h
def insS (s : List Cell) (M : List (List Cell)) : List (List Cell) := M.filter (fun d => decide (cmpS d s < 0)) ++ s :: M.filter (fun d => decide (cmpS s d < 0))
theorem mem_insS {c d : List Cell} {l : List (List Cell)} : d ∈ insS c l ↔ d = c ∨ d ∈ l := by
  unfold insS
  rw [List.mem_append, List.mem_cons, List.mem_filter, List.mem_filter, decide_eq_true_iff, decide_eq_true_iff]
  constructor
  · rintro (h | h | h)
    · exact .inr h.1
    · exact .inl h
    · exact .inr h.1
  · rintro (h | h)
    · exact .inr (.inl h)
    · rcases cmpS_tri d c with hb | rfl | hb
      · exact .inl ⟨h, hb⟩
      · exact .inr (.inl rfl)
      · exact .inr (.inr ⟨h, hb⟩)
theorem srtS_insS {c : List Cell} {l : List (List Cell)} (h : SrtS l) : SrtS (insS c l) := by
  unfold insS SrtS
  rw [List.pairwise_append, List.pairwise_cons]
  refine ⟨h.filter _, ⟨fun d hd => of_decide_eq_true (List.mem_filter.1 hd).2, h.filter _⟩, fun a ha b hb => ?_⟩
  have h1 : cmpS a c < 0 := of_decide_eq_true (List.mem_filter.1 ha).2
  rcases List.mem_cons.1 hb with rfl | hb
  · exact h1
  · exact cmpS_trans h1 (of_decide_eq_true (List.mem_filter.1 hb).2)
theorem insS_has {c : List Cell} {l : List (List Cell)} (h : SrtS l) (hc : c ∈ l) : insS c l = l := srtS_ext (srtS_insS h) h fun d => by
  rw [mem_insS]
  constructor
  · rintro (rfl | h)
    · exact hc
    · exact h
  · exact .inr
theorem insS_put {c : List Cell} {l : List (List Cell)} {k : Nat} (h : SrtS l) (h1 : ∀ d ∈ l.drop k, cmpS c d < 0) (h2 : ∀ d ∈ l.take k, cmpS d c < 0) : insS c l = l.take k ++ c :: l.drop k := by
  refine srtS_ext (srtS_insS h) ?_ fun d => ?_
  · unfold SrtS
    rw [List.pairwise_append, List.pairwise_cons]
    refine ⟨h.take, ⟨h1, h.drop⟩, fun a ha b hb => ?_⟩
    rcases List.mem_cons.1 hb with rfl | hb
    · exact h2 a ha
    · exact cmpS_trans (h2 a ha) (h1 b hb)
  · rw [mem_insS, List.mem_append, List.mem_cons]
    constructor
    · rintro (rfl | hm)
      · exact .inr (.inl rfl)
      · rw [← List.take_append_drop k l, List.mem_append] at hm
        rcases hm with hm | hm
        · exact .inl hm
        · exact .inr (.inr hm)
    · rintro (hm | rfl | hm)
      · exact .inr (List.mem_of_mem_take hm)
      · exact .inl rfl
      · exact .inr (List.mem_of_mem_drop hm)
theorem mem_dropI {α : Type} {l : List α} {k : Nat} {d : α} (h : d ∈ l.drop k) : ∃ j, k ≤ j ∧ l[j]? = some d := by
  obtain ⟨j, hj⟩ := List.getElem?_of_mem h
  rw [List.getElem?_drop] at hj
  exact ⟨k + j, by omega, hj⟩
theorem mem_takeI {α : Type} {l : List α} {k : Nat} {d : α} (h : d ∈ l.take k) : ∃ j, j < k ∧ l[j]? = some d := by
  obtain ⟨j, hj⟩ := List.getElem?_of_mem h
  rw [List.getElem?_take] at hj
  split at hj
  · exact ⟨j, by assumption, hj⟩
  · cases hj
theorem srtS_lt {l : List (List Cell)} (h : SrtS l) {i j : Nat} {a b : List Cell} (hij : i < j) (ha : l[i]? = some a) (hb : l[j]? = some b) : cmpS a b < 0 := by
  obtain ⟨hi, rfl⟩ := List.getElem?_eq_some_iff.1 ha
  obtain ⟨hj, rfl⟩ := List.getElem?_eq_some_iff.1 hb
  exact List.pairwise_iff_getElem.1 h i j hi hj hij
theorem PutAt.ins {s : List Cell} {M : List (List Cell)} {k : Nat} (h : PutAt s M k) (hs : SrtS M) (hn : ¬ (0 < k ∧ M[k - 1]? = some s)) : insS s M = M.take k ++ s :: M.drop k := by
  refine insS_put hs (fun d hd => ?_) (fun d hd => ?_)
  · obtain ⟨j, hj, hd⟩ := mem_dropI hd
    exact h.hi j d hj hd
  · obtain ⟨j, hj, hd⟩ := mem_takeI hd
    obtain ⟨q, hq⟩ : ∃ q, M[k - 1]? = some q := ⟨M[k - 1]'(by have := h.le; omega), List.getElem?_eq_getElem _⟩
    have h0 : 0 < k := by omega
    have hqs : cmpS q s < 0 := by
      rcases cmpS_tri s q with e | e | e
      · exact absurd e (h.lo q h0 hq)
      · subst e; exact absurd ⟨h0, hq⟩ hn
      · exact e
    by_cases e : j = k - 1
    · subst e
      rw [hq] at hd
      injection hd with hd
      subst hd
      exact hqs
    · exact cmpS_trans (srtS_lt hs (by omega) hd hq) hqs
def orientsTo (s : List Cell) : Nat → List (List Cell)
  | 0 => []
  | k + 1 => insS (turnS k s) (orientsTo s k)
def orients (s : List Cell) : List (List Cell) := orientsTo s 8
theorem orients_srt {s : List Cell} : ∀ k, SrtS (orientsTo s k)
  | 0 => List.Pairwise.nil
  | k + 1 => srtS_insS (orients_srt k)
theorem turnS_len {m : Nat} {s : List Cell} : (turnS m s).length ≤ s.length := by
  unfold turnS corner
  rw [shift_length]
  exact Nat.le_trans sortC_len (by simp)
theorem orients_row {s : List Cell} : ∀ k, ∀ r ∈ orientsTo s k, ∃ m, m < k ∧ r = turnS m s
  | 0, r, h => by simp [orientsTo] at h
  | k + 1, r, h => by
    rcases mem_insS.1 h with rfl | h
    · exact ⟨k, by omega, rfl⟩
    · obtain ⟨m, hm, e⟩ := orients_row k r h
      exact ⟨m, by omega, e⟩
theorem orients_len {s : List Cell} {k : Nat} : ∀ r ∈ orientsTo s k, r.length ≤ s.length := fun r h => by
  obtain ⟨m, _, rfl⟩ := orients_row k r h
  exact turnS_len
theorem insS_len {c : List Cell} {l : List (List Cell)} : (insS c l).length ≤ l.length + 1 := by
  unfold insS
  rw [List.length_append, List.length_cons]
  have h : ∀ l : List (List Cell), (l.filter fun d => decide (cmpS d c < 0)).length + (l.filter fun d => decide (cmpS c d < 0)).length ≤ l.length := fun l => by
    induction l with
    | nil => simp
    | cons a l ih =>
      simp only [List.filter_cons, List.length_cons]
      by_cases h1 : cmpS a c < 0
      · have h2 := cmpS_asy a c h1
        simp only [h1, h2, decide_true, decide_false, if_true, Bool.false_eq_true, if_false, List.length_cons]
        omega
      · simp only [h1, decide_false, Bool.false_eq_true, if_false]
        split
        · rw [List.length_cons]; omega
        · omega
  have := h l
  omega
theorem orients_le {s : List Cell} : ∀ k, (orientsTo s k).length ≤ k
  | 0 => Nat.le_refl _
  | k + 1 => Nat.le_trans insS_len (Nat.succ_le_succ (orients_le k))
theorem orients_pos {s : List Cell} {k : Nat} (h : 0 < k) : 0 < (orientsTo s k).length := by
  obtain ⟨j, rfl⟩ : ∃ j, k = j + 1 := ⟨k - 1, by omega⟩
  exact List.length_pos_of_mem (mem_insS.2 (.inl rfl))
def canonS (s : List Cell) : List Cell := (orients s).headD []
noncomputable def congr (a b : List Cell) : Bool := isShape a && isShape b && same (canonS a) (canonS b)
end Go.Proofs.YtghpkfihdcjlaaaGreatDoor
