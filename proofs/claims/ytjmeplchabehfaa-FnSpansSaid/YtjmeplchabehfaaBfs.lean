
/-
  A search by breadth in plain Lean: the list of the cells that have been seen, each with the cell that it was seen from.
-/
import Derived.Test.YtjmeplchabehfaaMapCell
namespace Go.Proofs.Ytjmeplchabehfaa

def addN (opn : Cell → Bool) (p : Cell) (S : List (Cell × Cell)) (d : Cell) : List (Cell × Cell) := if (mapAt S d).isSome then S else if opn d then S ++ [(d, p)] else S
def expand (around : Cell → List Cell) (opn : Cell → Bool) (S : List (Cell × Cell)) (p : Cell) : List (Cell × Cell) := (around p).foldl (addN opn p) S
def wayGo (S : List (Cell × Cell)) : Nat → Cell → List Cell → List Cell
  | 0, _, acc => acc
  | f + 1, c, acc => if (mapAt S c).getD ⟨0, 0⟩ = c then acc else wayGo S f ((mapAt S c).getD ⟨0, 0⟩) ((mapAt S c).getD ⟨0, 0⟩ :: acc)
def bfs (around : Cell → List Cell) (opn done : Cell → Bool) : Nat → List (Cell × Cell) → Nat → Option (List Cell)
  | 0, _, _ => none
  | f + 1, S, i =>
    match S[i]? with
    | none => none
    | some (c, _) => if done c then some (wayGo S S.length c [c]) else bfs around opn done f (expand around opn S c) (i + 1)
def roots (opn : Cell → Bool) (l : List Cell) : List (Cell × Cell) := (l.filter opn).map fun c => (c, c)

/-- all keys differ, all are open, each was seen from itself or from an earlier one -/
structure BInv (opn : Cell → Bool) (S : List (Cell × Cell)) : Prop where
  nodup : (S.map (·.1)).Nodup
  opens : ∀ p ∈ S, opn p.1 = true
  chain : ∀ (j : Nat) (c p : Cell), S[j]? = some (c, p) → c = p ∨ ∃ (k : Nat) (q : Cell), k < j ∧ S[k]? = some (p, q)

theorem mapAt_none {S : List (Cell × Cell)} {c : Cell} : mapAt S c = none ↔ c ∉ S.map (·.1) := by
  unfold mapAt
  rw [Option.map_eq_none_iff, List.find?_eq_none]
  simp only [decide_eq_true_eq, List.mem_map, not_exists, not_and]
  exact ⟨fun h p hp e => h p hp e.symm, fun h p hp e => h p hp e.symm⟩
theorem mapAt_some {S : List (Cell × Cell)} (h : (S.map (·.1)).Nodup) {j : Nat} {c p : Cell} (hj : S[j]? = some (c, p)) : mapAt S c = some p := by
  induction S generalizing j with
  | nil => simp at hj
  | cons x S ih =>
    simp only [List.map_cons, List.nodup_cons] at h
    cases j with
    | zero => simp at hj; subst hj; simp [mapAt]
    | succ j =>
      simp at hj
      have hne : c ≠ x.1 := fun e => h.1 (by rw [← e]; exact List.mem_map.2 ⟨(c, p), List.mem_of_getElem? hj, rfl⟩)
      have := ih h.2 hj
      unfold mapAt at this ⊢
      simp [hne, this]
theorem BInv.nil (opn : Cell → Bool) : BInv opn [] := ⟨by simp, by simp, by simp⟩
theorem BInv.snoc {opn : Cell → Bool} {S : List (Cell × Cell)} (h : BInv opn S) {d p : Cell} (hd : mapAt S d = none) (ho : opn d = true) (hp : d = p ∨ ∃ (k : Nat) (q : Cell), S[k]? = some (p, q)) : BInv opn (S ++ [(d, p)]) := by
  refine ⟨?_, ?_, ?_⟩
  · rw [List.map_append, List.nodup_append]
    refine ⟨h.nodup, by simp, fun a ha b hb => ?_⟩
    simp at hb
    subst hb
    exact fun e => mapAt_none.1 hd (e ▸ ha)
  · intro q hq
    rcases List.mem_append.1 hq with hq | hq
    · exact h.opens q hq
    · simp at hq; subst hq; exact ho
  · intro j c q hj
    by_cases hl : j < S.length
    · rw [List.getElem?_append_left hl] at hj
      rcases h.chain j c q hj with e | ⟨k, q', hk, hkq⟩
      · exact .inl e
      · exact .inr ⟨k, q', hk, by rw [List.getElem?_append_left (by omega)]; exact hkq⟩
    · rw [List.getElem?_append_right (by omega)] at hj
      have hj0 : j - S.length = 0 := by
        rcases Nat.eq_zero_or_pos (j - S.length) with h0 | h0
        · exact h0
        · rw [List.getElem?_eq_none (by simp; omega)] at hj; cases hj
      rw [hj0] at hj
      simp at hj
      obtain ⟨rfl, rfl⟩ := hj
      rcases hp with e | ⟨k, q', hkq⟩
      · exact .inl e
      · have hk := (List.getElem?_eq_some_iff.1 hkq).1
        exact .inr ⟨k, q', by omega, by rw [List.getElem?_append_left hk]; exact hkq⟩
theorem nodup_le {α : Type} [DecidableEq α] {l G : List α} (h : l.Nodup) (hs : ∀ a ∈ l, a ∈ G) : l.length ≤ G.length := by
  induction l generalizing G with
  | nil => simp
  | cons a l ih =>
    rw [List.nodup_cons] at h
    have hm := hs a (by simp)
    have := ih (G := G.erase a) h.2 (fun b hb => (List.mem_erase_of_ne (fun e => h.1 (by rw [← e]; exact hb))).2 (hs b (by simp [hb])))
    rw [List.length_erase_of_mem hm] at this
    have hp : 0 < G.length := List.length_pos_of_mem hm
    simp
    omega
theorem BInv.len {opn : Cell → Bool} {S : List (Cell × Cell)} (h : BInv opn S) {G : List Cell} (hG : ∀ c, opn c = true → c ∈ G) : S.length ≤ G.length := by
  have := nodup_le h.nodup (G := G) (fun a ha => by
    obtain ⟨p, hp, rfl⟩ := List.mem_map.1 ha
    exact hG _ (h.opens p hp))
  simpa using this
theorem addN_keep {opn : Cell → Bool} {p d : Cell} {S : List (Cell × Cell)} : ∃ T, addN opn p S d = S ++ T := by
  unfold addN
  split
  · exact ⟨[], by simp⟩
  · split
    · exact ⟨_, rfl⟩
    · exact ⟨[], by simp⟩
theorem BInv.addN {opn : Cell → Bool} {p d : Cell} {S : List (Cell × Cell)} (h : BInv opn S) (hp : ∃ (k : Nat) (q : Cell), S[k]? = some (p, q)) : BInv opn (addN opn p S d) := by
  unfold Go.Proofs.Ytjmeplchabehfaa.addN
  split
  · exact h
  · rename_i hn
    split
    · rename_i ho
      exact h.snoc (by simpa using hn) ho (.inr hp)
    · exact h
theorem fold_inv {opn : Cell → Bool} {p : Cell} (l : List Cell) : ∀ {S : List (Cell × Cell)} (_ : BInv opn S) (_ : ∃ (k : Nat) (q : Cell), S[k]? = some (p, q)), BInv opn (l.foldl (addN opn p) S) ∧ ∃ T, l.foldl (addN opn p) S = S ++ T := by
  induction l with
  | nil => intro S h _; exact ⟨h, [], by simp⟩
  | cons d l ih =>
    intro S h hp
    obtain ⟨T, hT⟩ := addN_keep (opn := opn) (p := p) (d := d) (S := S)
    have h1 := h.addN (d := d) hp
    have hp1 : ∃ (k : Nat) (q : Cell), (addN opn p S d)[k]? = some (p, q) := by
      obtain ⟨k, q, hk⟩ := hp
      exact ⟨k, q, by rw [hT, List.getElem?_append_left (List.getElem?_eq_some_iff.1 hk).1]; exact hk⟩
    obtain ⟨h2, T', hT'⟩ := ih h1 hp1
    exact ⟨h2, T ++ T', by rw [List.foldl_cons, hT', hT, List.append_assoc]⟩
theorem roots_take {opn : Cell → Bool} {l : List Cell} {k : Nat} {c : Cell} (h : l[k]? = some c) : roots opn (l.take (k + 1)) = roots opn (l.take k) ++ if opn c = true then [(c, c)] else [] := by
  unfold roots
  have hk := (List.getElem?_eq_some_iff.1 h).1
  have e : l[k] = c := (List.getElem?_eq_some_iff.1 h).2
  rw [List.take_succ_eq_append_getElem hk, List.filter_append, List.map_append, e]
  congr 1
  cases hq : opn c <;> simp [hq]
theorem roots_new {opn : Cell → Bool} {l : List Cell} (hn : l.Nodup) {k : Nat} {c : Cell} (h : l[k]? = some c) : mapAt (roots opn (l.take k)) c = none := by
  rw [mapAt_none]
  intro hm
  simp only [roots, List.map_map, List.mem_map, List.mem_filter] at hm
  obtain ⟨d, ⟨hd, _⟩, e⟩ := hm
  simp at e
  subst e
  obtain ⟨j, hj, e⟩ := List.getElem_of_mem hd
  rw [List.getElem_take] at e
  have hk := (List.getElem?_eq_some_iff.1 h).1
  have e2 : l[k] = d := (List.getElem?_eq_some_iff.1 h).2
  rw [List.length_take] at hj
  exact List.pairwise_iff_getElem.1 hn j k (by omega) hk (by omega) (by rw [e, e2])
theorem roots_inv {opn : Cell → Bool} {l : List Cell} (hn : l.Nodup) : ∀ k, k ≤ l.length → BInv opn (roots opn (l.take k)) := by
  intro k
  induction k with
  | zero => intro _; exact BInv.nil opn
  | succ k ih =>
    intro hk
    have hc := List.getElem?_eq_getElem (show k < l.length by omega)
    rw [roots_take hc]
    split
    · rename_i ho
      exact (ih (by omega)).snoc (roots_new hn hc) ho (.inl rfl)
    · rw [List.append_nil]; exact ih (by omega)
theorem bfs_end {around : Cell → List Cell} {opn done : Cell → Bool} {f i : Nat} {S : List (Cell × Cell)} (h : S.length ≤ i) : bfs around opn done f S i = none := by
  cases f with
  | zero => rfl
  | succ f => simp [bfs, List.getElem?_eq_none h]
end Go.Proofs.Ytjmeplchabehfaa
