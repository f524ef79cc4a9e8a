
/-
  A search by breadth in plain Lean: its way is short. What a search without an answer has seen: a set that is closed. What a search's answer is: a way from a start to an end.
-/
import Derived.Test.YtjmeplchabehfaaBfs
import Derived.Test.YtjmeplchabehfaaWayS
import Derived.Test.YtjmeplchabehfaaWayK
namespace Go.Proofs.Ytjmeplchabehfaa

theorem wayGo_len {S : List (Cell × Cell)} : ∀ (f : Nat) (c : Cell) (acc : List Cell), (wayGo S f c acc).length ≤ acc.length + f
  | 0, _, _ => Nat.le_refl _
  | f + 1, c, acc => by
    unfold wayGo
    split
    · omega
    · have := wayGo_len (S := S) f ((mapAt S c).getD ⟨0, 0⟩) ((mapAt S c).getD ⟨0, 0⟩ :: acc)
      simp at this ⊢
      omega
theorem addN_len {opn : Cell → Bool} {p d : Cell} {S : List (Cell × Cell)} : (addN opn p S d).length ≤ S.length + 1 := by
  unfold addN
  split
  · omega
  · split
    · simp
    · omega
theorem fold_len {opn : Cell → Bool} {p : Cell} : ∀ (l : List Cell) (S : List (Cell × Cell)), (l.foldl (addN opn p) S).length ≤ S.length + l.length
  | [], _ => Nat.le_refl _
  | d :: l, S => by
    have h1 := fold_len (opn := opn) (p := p) l (addN opn p S d)
    have h2 := addN_len (opn := opn) (p := p) (d := d) (S := S)
    simp at h1 ⊢
    omega
theorem bfs_len {around : Cell → List Cell} {opn done : Cell → Bool} (har : ∀ c, (around c).length ≤ 9) : ∀ (f : Nat) (S : List (Cell × Cell)) (i : Nat) (l : List Cell), bfs around opn done f S i = some l → l.length ≤ S.length + 9 * f + 1
  | 0, _, _, _, h => by cases h
  | f + 1, S, i, l, h => by
    unfold bfs at h
    split at h
    · cases h
    · rename_i c _ _
      split at h
      · injection h with h
        subst h
        have := wayGo_len (S := S) S.length c [c]
        simp at this
        omega
      · have h1 := bfs_len har f _ _ l h
        have h2 := fold_len (opn := opn) (p := c) (around c) S
        have h3 := har c
        unfold expand at h1
        omega
theorem roots_len {opn : Cell → Bool} {l : List Cell} : (roots opn l).length ≤ l.length := by unfold roots; rw [List.length_map]; exact List.length_filter_le _ _
theorem spanWay_len {r : Reg} : (r.spanWay.getD []).length ≤ 1048576 := by
  unfold Reg.spanWay
  split
  · rename_i hv
    have hv4 := (Reg.valid_iff.1 hv).2.2.2.1
    cases h : bfs sidesL r.opn r.far 37 (roots r.opn (colTo r.rows.length)) 0 with
    | none => simp
    | some l =>
      have h1 := bfs_len (fun c => by simp [sidesL]) _ _ _ _ h
      have h2 := roots_len (opn := r.opn) (l := colTo r.rows.length)
      rw [colTo_length] at h2
      simp
      omega
  · simp
theorem blockWay_len {r : Reg} : (r.blockWay.getD []).length ≤ 1048576 := by
  unfold Reg.blockWay
  split
  · rename_i hv
    have hv2 := (Reg.valid_iff.1 hv).2.1
    cases h : bfs roundsL (opnC r false) (doneC r true) 37 (roots (opnC r false) (startC true r.w.toNat)) 0 with
    | none => simp
    | some l =>
      have h1 := bfs_len (fun c => by rw [roundsL]; exact roundsTo_le) _ _ _ _ h
      have h2 := roots_len (opn := opnC r false) (l := startC true r.w.toNat)
      rw [startC_length] at h2
      simp
      omega
  · simp
end Go.Proofs.Ytjmeplchabehfaa

namespace Go.Proofs.Ytjmeplchabehfaa

theorem addN_keys {opn : Cell → Bool} {p d : Cell} {S : List (Cell × Cell)} (ho : opn d = true) : d ∈ (addN opn p S d).map (·.1) := by
  unfold addN
  split
  · rename_i hs
    cases hm : mapAt S d with
    | none => rw [hm] at hs; simp at hs
    | some q =>
      apply Classical.byContradiction
      intro hc
      rw [mapAt_none.2 hc] at hm
      exact absurd hm (by simp)
  · simp
theorem fold_keys {opn : Cell → Bool} {p : Cell} : ∀ (l : List Cell) (S : List (Cell × Cell)), (∀ x ∈ S.map (·.1), x ∈ (l.foldl (addN opn p) S).map (·.1)) ∧ ∀ d ∈ l, opn d = true → d ∈ (l.foldl (addN opn p) S).map (·.1)
  | [], S => ⟨fun _ h => h, fun _ h => by simp at h⟩
  | a :: l, S => by
    obtain ⟨i1, i2⟩ := fold_keys (opn := opn) (p := p) l (addN opn p S a)
    obtain ⟨T, hT⟩ := addN_keep (opn := opn) (p := p) (d := a) (S := S)
    refine ⟨fun x hx => i1 x ?_, fun d hd ho => ?_⟩
    · rw [hT, List.map_append]; exact List.mem_append_left _ hx
    · rcases List.mem_cons.1 hd with rfl | hd
      · exact i1 _ (addN_keys ho)
      · exact i2 d hd ho
theorem bfs_none {around : Cell → List Cell} {opn done : Cell → Bool} {G : List Cell} (hG : ∀ c, opn c = true → c ∈ G) : ∀ (f : Nat) (S : List (Cell × Cell)) (i : Nat), BInv opn S → G.length < i + f → bfs around opn done f S i = none →
    ∃ S', BInv opn S' ∧ (∃ T, S' = S ++ T) ∧ ∀ (j : Nat) (c p : Cell), i ≤ j → S'[j]? = some (c, p) → done c = false ∧ ∀ d ∈ around c, opn d = true → d ∈ S'.map (·.1)
  | 0, S, i, hB, hf, _ => ⟨S, hB, ⟨[], by simp⟩, fun j c p hj h => by
      have := (List.getElem?_eq_some_iff.1 h).1
      have := hB.len hG
      omega⟩
  | f + 1, S, i, hB, hf, hn => by
    cases hs : S[i]? with
    | none => exact ⟨S, hB, ⟨[], by simp⟩, fun j c p hj h => by
        have := (List.getElem?_eq_some_iff.1 h).1
        have := List.getElem?_eq_none_iff.1 hs
        omega⟩
    | some e =>
      obtain ⟨c, p⟩ := e
      simp only [bfs, hs] at hn
      cases hd : done c
      · rw [hd] at hn
        simp only [Bool.false_eq_true, if_false] at hn
        obtain ⟨hB1, T, hT⟩ := fold_inv (around c) hB (p := c) ⟨i, p, hs⟩
        obtain ⟨S', hB', ⟨T', hT'⟩, hc'⟩ := bfs_none hG f (expand around opn S c) (i + 1) hB1 (by omega) hn
        refine ⟨S', hB', ⟨T ++ T', ?_⟩, fun j c' p' hj h => ?_⟩
        · rw [hT', expand, hT, List.append_assoc]
        · by_cases hji : j = i
          · subst hji
            have e : S'[j]? = S[j]? := by rw [hT', expand, hT, List.append_assoc, List.getElem?_append_left (List.getElem?_eq_some_iff.1 hs).1]
            rw [e, hs] at h
            injection h with h
            injection h with h1 h2
            subst h1
            refine ⟨hd, fun d hda ho => ?_⟩
            rw [hT', List.map_append]
            exact List.mem_append_left _ ((fold_keys (around c) S).2 d hda ho)
          · exact hc' j c' p' (by omega) h
      · rw [hd] at hn
        simp at hn
/-- no way: a set that holds each open start, is closed under steps, is open, and holds no end -/
theorem bfs_shut {around : Cell → List Cell} {opn done : Cell → Bool} {l G : List Cell} (hl : l.Nodup) (hG : ∀ c, opn c = true → c ∈ G) {f : Nat} (hf : G.length < f) (hn : bfs around opn done f (roots opn l) 0 = none) :
    ∃ K : List Cell, (∀ c ∈ K, opn c = true) ∧ (∀ c ∈ l, opn c = true → c ∈ K) ∧ (∀ c ∈ K, done c = false) ∧ ∀ c ∈ K, ∀ d ∈ around c, opn d = true → d ∈ K := by
  have hB : BInv opn (roots opn l) := by
    have := roots_inv (opn := opn) hl l.length (Nat.le_refl _)
    rwa [List.take_length] at this
  obtain ⟨S', hB', ⟨T, hT⟩, hc⟩ := bfs_none hG f _ 0 hB (by omega) hn
  have hat : ∀ c ∈ S'.map (·.1), ∃ (j : Nat) (p : Cell), S'[j]? = some (c, p) := by
    intro c hcm
    obtain ⟨⟨c', p⟩, hm, rfl⟩ := List.mem_map.1 hcm
    obtain ⟨j, hj⟩ := List.mem_iff_getElem?.1 hm
    exact ⟨j, p, hj⟩
  refine ⟨S'.map (·.1), ?_, ?_, ?_, ?_⟩
  · intro c hcm
    obtain ⟨q, hm, rfl⟩ := List.mem_map.1 hcm
    exact hB'.opens q hm
  · intro c hcl ho
    rw [hT, List.map_append]
    refine List.mem_append_left _ ?_
    unfold roots
    rw [List.map_map]
    exact List.mem_map.2 ⟨c, List.mem_filter.2 ⟨hcl, ho⟩, rfl⟩
  · intro c hcm
    obtain ⟨j, p, hj⟩ := hat c hcm
    exact (hc j c p (Nat.zero_le _) hj).1
  · intro c hcm
    obtain ⟨j, p, hj⟩ := hat c hcm
    exact (hc j c p (Nat.zero_le _) hj).2
end Go.Proofs.Ytjmeplchabehfaa

namespace Go.Proofs.Ytjmeplchabehfaa

def linked (around : Cell → List Cell) : List Cell → Prop
  | a :: b :: t => b ∈ around a ∧ linked around (b :: t)
  | _ => True
/-- each entry is a start or was seen from the side -/
def From (around : Cell → List Cell) (l : List Cell) (S : List (Cell × Cell)) : Prop := ∀ e ∈ S, (e.1 = e.2 ∧ e.1 ∈ l) ∨ e.1 ∈ around e.2
theorem From.roots {around : Cell → List Cell} {opn : Cell → Bool} {l : List Cell} : From around l (roots opn l) := by
  intro e he
  unfold Go.Proofs.Ytjmeplchabehfaa.roots at he
  obtain ⟨c, hc, rfl⟩ := List.mem_map.1 he
  exact .inl ⟨rfl, (List.mem_filter.1 hc).1⟩
theorem From.fold {around : Cell → List Cell} {opn : Cell → Bool} {l : List Cell} {p : Cell} : ∀ (m : List Cell) (S : List (Cell × Cell)), (∀ d ∈ m, d ∈ around p) → From around l S → From around l (m.foldl (addN opn p) S)
  | [], _, _, h => h
  | a :: m, S, hm, h => by
    refine From.fold m _ (fun d hd => hm d (List.mem_cons_of_mem _ hd)) ?_
    unfold addN
    split
    · exact h
    · split
      · intro e he
        rcases List.mem_append.1 he with he | he
        · exact h e he
        · simp at he
          subst he
          exact .inr (hm a (List.mem_cons_self ..))
      · exact h
theorem wayGo_way {around : Cell → List Cell} {opn : Cell → Bool} {l : List Cell} {S : List (Cell × Cell)} (hB : BInv opn S) (hF : From around l S) (har : ∀ c, c ∉ around c) :
    ∀ (f : Nat) (c : Cell) (t : List Cell) (j : Nat) (p : Cell), S[j]? = some (c, p) → j ≤ f → linked around (c :: t) → (∀ x ∈ c :: t, opn x = true) →
      ∃ (a : Cell) (u : List Cell), wayGo S f c (c :: t) = a :: u ∧ a ∈ l ∧ linked around (a :: u) ∧ (∀ x ∈ a :: u, opn x = true) ∧ (a :: u).getLast? = (c :: t).getLast?
  | f, c, t, j, p, hj, hf, hl, ho => by
    have hm : mapAt S c = some p := mapAt_some hB.nodup hj
    have hmem := List.mem_iff_getElem?.2 ⟨j, hj⟩
    by_cases hcp : c = p
    · subst hcp
      have hcl : c ∈ l := by
        rcases hF _ hmem with h | h
        · exact h.2
        · exact absurd h (har c)
      refine ⟨c, t, ?_, hcl, hl, ho, rfl⟩
      cases f with
      | zero => rfl
      | succ f => simp [wayGo, hm]
    · obtain ⟨k, q, hk, hkp⟩ : ∃ (k : Nat) (q : Cell), k < j ∧ S[k]? = some (p, q) := by
        rcases hB.chain j c p hj with h | h
        · exact absurd h hcp
        · exact h
      have hlk : c ∈ around p := by
        rcases hF _ hmem with h | h
        · exact absurd h.1 hcp
        · exact h
      cases f with
      | zero => omega
      | succ f =>
        have hop : opn p = true := hB.opens _ (List.mem_iff_getElem?.2 ⟨k, hkp⟩)
        obtain ⟨a, u, e, h1, h2, h3, h4⟩ := wayGo_way hB hF har f p (c :: t) k q hkp (by omega) ⟨hlk, hl⟩ (by
          intro x hx
          rcases List.mem_cons.1 hx with rfl | hx
          · exact hop
          · exact ho x hx)
        refine ⟨a, u, ?_, h1, h2, h3, by rw [h4]; simp [List.getLast?_cons_cons]⟩
        have hpc : ¬ p = c := fun h => hcp h.symm
        simp only [wayGo, hm, Option.getD_some, if_neg hpc]
        exact e
theorem bfs_some {around : Cell → List Cell} {opn done : Cell → Bool} {l : List Cell} (har : ∀ c, c ∉ around c) : ∀ (f : Nat) (S : List (Cell × Cell)) (i : Nat) (P : List Cell), BInv opn S → From around l S → bfs around opn done f S i = some P →
    ∃ (a : Cell) (u : List Cell) (z : Cell), P = a :: u ∧ a ∈ l ∧ linked around P ∧ (∀ x ∈ P, opn x = true) ∧ P.getLast? = some z ∧ done z = true
  | 0, S, i, P, _, _, h => by simp [bfs] at h
  | f + 1, S, i, P, hB, hF, h => by
    cases hs : S[i]? with
    | none => simp [bfs, hs] at h
    | some e =>
      obtain ⟨c, p⟩ := e
      simp only [bfs, hs] at h
      cases hd : done c
      · rw [hd] at h
        simp only [Bool.false_eq_true, if_false] at h
        obtain ⟨hB1, _, _⟩ := fold_inv (around c) hB (p := c) ⟨i, p, hs⟩
        exact bfs_some har f _ (i + 1) P hB1 (From.fold _ _ (fun _ h => h) hF) h
      · rw [hd] at h
        simp only [if_true] at h
        injection h with h
        obtain ⟨a, u, e, h1, h2, h3, h4⟩ := wayGo_way hB hF har S.length c [] i p hs (by have := (List.getElem?_eq_some_iff.1 hs).1; omega) trivial (by
          intro x hx
          simp at hx
          subst hx
          exact hB.opens _ (List.mem_iff_getElem?.2 ⟨i, hs⟩))
        rw [e] at h
        subst h
        exact ⟨a, u, c, rfl, h1, h2, h3, by rw [h4]; rfl, hd⟩
end Go.Proofs.Ytjmeplchabehfaa
