
/-
  Motions: a cell carried by one: the walks of both sides. Cells put in order, each once. Plain.
-/
import Derived.Test.YtghpkfihdcjlaaaGreatDoorShpX
import Derived.Deep.DeepCutAuto
namespace Go.Proofs.YtghpkfihdcjlaaaGreatDoor
open Go.RowKit

def rotC : Nat → Cell → Cell
  | 0, c => c
  | k + 1, c => ⟨-(rotC k c).y, (rotC k c).x⟩
def flipC (m : Nat) (c : Cell) : Cell := if 4 ≤ m then ⟨-c.x, c.y⟩ else c
def carryC (m : Nat) (c : Cell) : Cell := rotC (m % 4) (flipC m c)
theorem rotC_sml {b : Int} {c : Cell} (h : Sml b c) : ∀ k, Sml b (rotC k c)
  | 0 => h
  | k + 1 => by
    obtain ⟨⟨h1, h2⟩, h3, h4⟩ := rotC_sml h k
    exact ⟨⟨by simp only [rotC]; omega, by simp only [rotC]; omega⟩, ⟨by simp only [rotC]; omega, by simp only [rotC]; omega⟩⟩
theorem flipC_sml {b : Int} {c : Cell} {m : Nat} (h : Sml b c) : Sml b (flipC m c) := by
  obtain ⟨⟨h1, h2⟩, h3, h4⟩ := h
  unfold flipC
  split
  · exact ⟨⟨by simp only; omega, by simp only; omega⟩, h3, h4⟩
  · exact ⟨⟨h1, h2⟩, h3, h4⟩
theorem carryC_sml {b : Int} {c : Cell} {m : Nat} (h : Sml b c) : Sml b (carryC m c) := rotC_sml (flipC_sml h) _

end Go.Proofs.YtghpkfihdcjlaaaGreatDoor

namespace Go.Proofs.YtghpkfihdcjlaaaGreatDoor
open Go.RowKit

def Srt (l : List Cell) : Prop := l.Pairwise fun a b => befB a b = true
theorem bef_iff {a b : Cell} : befB a b = true ↔ a.y < b.y ∨ (a.y = b.y ∧ a.x < b.x) := by simp [befB]
theorem bef_tri (a b : Cell) : befB a b = true ∨ a = b ∨ befB b a = true := by
  rw [bef_iff, bef_iff]
  by_cases h : a = b
  · exact .inr (.inl h)
  · obtain ⟨ax, ay⟩ := a
    obtain ⟨bx, by'⟩ := b
    simp only [Cell.mk.injEq] at h
    simp only
    omega
theorem bef_asym {a b : Cell} (h : befB a b = true) : befB b a = false := by
  cases hb : befB b a
  · rfl
  · rw [bef_iff] at h hb; omega
theorem srt_ext : ∀ {a b : List Cell}, Srt a → Srt b → (∀ c, c ∈ a ↔ c ∈ b) → a = b
  | [], [], _, _, _ => rfl
  | [], y :: b, _, _, h => by have := (h y).2 List.mem_cons_self; simp at this
  | x :: a, [], _, _, h => by have := (h x).1 List.mem_cons_self; simp at this
  | x :: a, y :: b, ha, hb, h => by
    have ha' := List.pairwise_cons.1 ha
    have hb' := List.pairwise_cons.1 hb
    have hxy : x = y := by
      rcases List.mem_cons.1 ((h x).1 List.mem_cons_self) with e | hx
      · exact e
      · rcases List.mem_cons.1 ((h y).2 List.mem_cons_self) with e | hy
        · exact e.symm
        · have h1 := hb'.1 x hx
          rw [bef_asym (ha'.1 y hy)] at h1
          cases h1
    subst hxy
    congr 1
    refine srt_ext ha'.2 hb'.2 fun c => ?_
    have hc := h c
    rw [List.mem_cons, List.mem_cons] at hc
    constructor
    · intro hm
      rcases hc.1 (.inr hm) with rfl | hm'
      · have := ha'.1 c hm; rw [bef_irr] at this; cases this
      · exact hm'
    · intro hm
      rcases hc.2 (.inr hm) with rfl | hm'
      · have := hb'.1 c hm; rw [bef_irr] at this; cases this
      · exact hm'
def insC (c : Cell) (l : List Cell) : List Cell := l.filter (fun d => befB d c) ++ c :: l.filter (fun d => befB c d)
theorem mem_insC {c d : Cell} {l : List Cell} : d ∈ insC c l ↔ d = c ∨ d ∈ l := by
  unfold insC
  rw [List.mem_append, List.mem_cons, List.mem_filter, List.mem_filter]
  constructor
  · rintro (h | h | h)
    · exact .inr h.1
    · exact .inl h
    · exact .inr h.1
  · rintro (h | h)
    · exact .inr (.inl h)
    · rcases bef_tri d c with hb | rfl | hb
      · exact .inl ⟨h, hb⟩
      · exact .inr (.inl rfl)
      · exact .inr (.inr ⟨h, hb⟩)
theorem srt_insC {c : Cell} {l : List Cell} (h : Srt l) : Srt (insC c l) := by
  unfold insC Srt
  rw [List.pairwise_append, List.pairwise_cons]
  refine ⟨h.filter _, ⟨fun d hd => (List.mem_filter.1 hd).2, h.filter _⟩, fun a ha b hb => ?_⟩
  have h1 := (List.mem_filter.1 ha).2
  rcases List.mem_cons.1 hb with rfl | hb
  · exact h1
  · exact bef_trans h1 (List.mem_filter.1 hb).2
def sortC (s : List Cell) : List Cell := s.foldl (fun l c => insC c l) []
theorem sortC_snoc {s : List Cell} {c : Cell} : sortC (s ++ [c]) = insC c (sortC s) := by simp [sortC]
theorem fold_srt : ∀ (s l : List Cell), Srt l → Srt (s.foldl (fun l c => insC c l) l) ∧ ∀ d, d ∈ s.foldl (fun l c => insC c l) l ↔ d ∈ s ∨ d ∈ l
  | [], l, h => ⟨h, fun d => by simp⟩
  | c :: s, l, h => by
    have ih := fold_srt s (insC c l) (srt_insC h)
    refine ⟨ih.1, fun d => (ih.2 d).trans ?_⟩
    rw [mem_insC, List.mem_cons]
    constructor
    · rintro (h | h | h)
      · exact .inl (.inr h)
      · exact .inl (.inl h)
      · exact .inr h
    · rintro ((h | h) | h)
      · exact .inr (.inl h)
      · exact .inl h
      · exact .inr (.inr h)
theorem srt_sortC {s : List Cell} : Srt (sortC s) := (fold_srt s [] List.Pairwise.nil).1
theorem mem_sortC {s : List Cell} {d : Cell} : d ∈ sortC s ↔ d ∈ s := by
  have := (fold_srt s [] List.Pairwise.nil).2 d
  simpa [sortC] using this
theorem sortC_is {s l : List Cell} (h : Srt l) (hm : ∀ c, c ∈ l ↔ c ∈ s) : sortC s = l := srt_ext srt_sortC h fun c => mem_sortC.trans (hm c).symm
theorem insC_has {c : Cell} {l : List Cell} (h : Srt l) (hc : c ∈ l) : insC c l = l := srt_ext (srt_insC h) h fun d => by
  rw [mem_insC]
  constructor
  · rintro (rfl | h)
    · exact hc
    · exact h
  · exact .inr
theorem srt_nodup {l : List Cell} (h : Srt l) : l.Nodup := h.imp fun {a b} hab e => by subst e; rw [bef_irr] at hab; cases hab
theorem srt_lt {l : List Cell} (h : Srt l) {i j : Nat} {a b : Cell} (hij : i < j) (ha : l[i]? = some a) (hb : l[j]? = some b) : befB a b = true := by
  obtain ⟨hi, rfl⟩ := List.getElem?_eq_some_iff.1 ha
  obtain ⟨hj, rfl⟩ := List.getElem?_eq_some_iff.1 hb
  exact List.pairwise_iff_getElem.1 h i j hi hj hij
/-- where the walk puts c -/
theorem insC_at {c : Cell} {l : List Cell} {k : Nat} (h : Srt l) (h1 : ∀ (j : Nat) (d : Cell), k ≤ j → l[j]? = some d → befB c d = true) (h2 : ∀ (j : Nat) (d : Cell), j < k → l[j]? = some d → befB d c = true) : insC c l = l.take k ++ c :: l.drop k := by
  have hd : ∀ d ∈ l.drop k, befB c d = true := fun d hd => by
    obtain ⟨j, hj⟩ := List.getElem?_of_mem hd
    rw [List.getElem?_drop] at hj
    exact h1 (k + j) d (by omega) hj
  have ht : ∀ d ∈ l.take k, befB d c = true := fun d hd => by
    obtain ⟨j, hj⟩ := List.getElem?_of_mem hd
    rw [List.getElem?_take] at hj
    split at hj
    · exact h2 j d (by assumption) hj
    · cases hj
  refine srt_ext (srt_insC h) ?_ fun d => ?_
  · unfold Srt
    rw [List.pairwise_append, List.pairwise_cons]
    refine ⟨h.take, ⟨hd, h.drop⟩, fun a ha b hb => ?_⟩
    rcases List.mem_cons.1 hb with rfl | hb
    · exact ht a ha
    · exact bef_trans (ht a ha) (hd b hb)
  · rw [mem_insC, List.mem_append, List.mem_cons]
    constructor
    · rintro (rfl | hm)
      · exact .inr (.inl rfl)
      · rw [← List.take_append_drop k l, List.mem_append] at hm
        rcases hm with hm | hm
        · exact .inl hm
        · exact .inr (.inr hm)
    · rintro (hm | rfl | hm)
      · exact .inr (List.mem_of_mem_take hm)
      · exact .inl rfl
      · exact .inr (List.mem_of_mem_drop hm)
theorem sortC_len {s : List Cell} : (sortC s).length ≤ s.length := nodup_len (srt_nodup srt_sortC) fun _ h => mem_sortC.1 h
end Go.Proofs.YtghpkfihdcjlaaaGreatDoor
