
/-
  Holes: what the program counts, in plain Lean; that it is one more than what the reference counts.
-/
import Derived.Test.YtlfeognjnlppkaaShpL
import Derived.Test.YtlfeognjnlppkaaShpF
namespace Go.Proofs.Ytlfeognjnlppkaa

/-- the neighbours in the program's order -/
def nbi (c : Cell) (e : Nat) : Cell := match e with
  | 0 => ⟨c.x, c.y - 1⟩
  | 1 => ⟨c.x - 1, c.y⟩
  | 2 => ⟨c.x + 1, c.y⟩
  | _ => ⟨c.x, c.y + 1⟩
theorem nbi_adj {c : Cell} {e : Nat} (he : e < 4) : Adj c (nbi c e) := by
  have h4 : e = 0 ∨ e = 1 ∨ e = 2 ∨ e = 3 := by omega
  rcases h4 with rfl | rfl | rfl | rfl
  · exact ⟨3, by omega, rfl⟩
  · exact ⟨2, by omega, rfl⟩
  · exact ⟨0, by omega, rfl⟩
  · exact ⟨1, by omega, rfl⟩
theorem adj_nbi {b c : Cell} (h : Adj b c) : ∃ e, e < 4 ∧ c = nbi b e := by
  obtain ⟨d, hd, rfl⟩ := h
  have h4 : d = 0 ∨ d = 1 ∨ d = 2 ∨ d = 3 := by omega
  rcases h4 with rfl | rfl | rfl | rfl
  · exact ⟨2, by omega, rfl⟩
  · exact ⟨3, by omega, rfl⟩
  · exact ⟨1, by omega, rfl⟩
  · exact ⟨0, by omega, rfl⟩
/-- a search from r: T in order, the first i done, of the next one d directions -/
structure Fle (fr : Cell → Bool) (B : Cell → Prop) (r : Cell) (T : List Cell) (i d : Nat) : Prop where
  nodup : T.Nodup
  reach : ∀ c ∈ T, Rch fr r c ∧ ¬ B c ∧ fr c = true
  root : r ∈ T
  done : ∀ (j : Nat) (b c : Cell) (e : Nat), T[j]? = some b → e < 4 → (j < i ∨ j = i ∧ e < d) → c = nbi b e → fr c = true → c ∈ T ∨ B c
section
variable {fr : Cell → Bool} {B : Cell → Prop} {r : Cell} {T : List Cell} {i d : Nat}
theorem Fle.start (hr : fr r = true) (hB : ¬ B r) : Fle fr B r [r] 0 0 :=
  ⟨by simp, fun c hc => by simp at hc; subst hc; exact ⟨.base, hB, hr⟩, by simp, fun j b c e _ _ hj => by omega⟩
theorem Fle.skip (h : Fle fr B r T i d) {b : Cell} (hb : T[i]? = some b) (hs : fr (nbi b d) = true → nbi b d ∈ T ∨ B (nbi b d)) : Fle fr B r T i (d + 1) :=
  ⟨h.nodup, h.reach, h.root, fun j b' c e hj he hle hc hf => by
    by_cases hl : j < i ∨ j = i ∧ e < d
    · exact h.done j b' c e hj he hl hc hf
    · obtain ⟨rfl, rfl⟩ : j = i ∧ e = d := by omega
      rw [hb] at hj
      injection hj with hj
      subst hj
      subst hc
      exact hs hf⟩
theorem Fle.add (h : Fle fr B r T i d) {b : Cell} (hb : T[i]? = some b) (hd : d < 4) (hf : fr (nbi b d) = true) (hT : ¬ nbi b d ∈ T) (hB : ¬ B (nbi b d)) : Fle fr B r (T ++ [nbi b d]) i (d + 1) := by
  have hi : i < T.length := (List.getElem?_eq_some_iff.1 hb).1
  refine ⟨List.nodup_append.2 ⟨h.nodup, by simp, fun x hx y hy => by simp at hy; subst hy; exact fun e => hT (e ▸ hx)⟩, fun c hc => ?_, List.mem_append.2 (.inl h.root), fun j b' c e hj he hle hc hf' => ?_⟩
  · rcases List.mem_append.1 hc with hc | hc
    · exact h.reach c hc
    · simp at hc
      subst hc
      exact ⟨.step (h.reach b (List.mem_of_getElem? hb)).1 (nbi_adj hd) hf, hB, hf⟩
  · rw [List.getElem?_append_left (by omega)] at hj
    by_cases hl : j < i ∨ j = i ∧ e < d
    · rcases h.done j b' c e hj he hl hc hf' with h1 | h1
      · exact .inl (List.mem_append.2 (.inl h1))
      · exact .inr h1
    · obtain ⟨rfl, rfl⟩ : j = i ∧ e = d := by omega
      rw [hb] at hj
      injection hj with hj
      subst hj
      subst hc
      exact .inl (by simp)
theorem Fle.next (h : Fle fr B r T i d) (hd : 4 ≤ d) : Fle fr B r T (i + 1) 0 :=
  ⟨h.nodup, h.reach, h.root, fun j b c e hj he hle hc hf => h.done j b c e hj he (by omega) hc hf⟩
/-- at the end: all that is reached -/
theorem Fle.end_ (h : Fle fr B r T i d) (hi : T.length ≤ i) (hB : ∀ b c, B b → Adj b c → fr c = true → B c) (c : Cell) : c ∈ T ↔ Rch fr r c := by
  constructor
  · exact fun hc => (h.reach c hc).1
  · intro hc
    have hr := (h.reach r h.root)
    induction hc with
    | base => exact h.root
    | @step b c hb hadj hf ih =>
      obtain ⟨e, he, rfl⟩ := adj_nbi hadj
      obtain ⟨j, hj, ej⟩ := List.getElem_of_mem ih
      rcases h.done j b _ e (by rw [List.getElem?_eq_getElem hj, ej]) he (by omega) rfl hf with h1 | h1
      · exact h1
      · exact absurd h1 (Rch.out hB (.step hb (nbi_adj he) hf) hr.2.2 hr.2.1)
theorem Fle.len (h : Fle fr B r T i d) {G : List Cell} (hG : ∀ c, fr c = true → c ∈ G) : T.length ≤ G.length := nodup_len h.nodup fun c hc => hG c (h.reach c hc).2.2
end
/-- a place of the grid is a cell of the shape -/
def shpAt (s : List Cell) (c : Cell) : Prop := (⟨c.x - 1, c.y - 1⟩ : Cell) ∈ s
def frG (s : List Cell) (c : Cell) : Bool := inR c.x 0 9 && inR c.y 0 9 && !decide ((⟨c.x - 1, c.y - 1⟩ : Cell) ∈ s)
theorem frG_iff {s : List Cell} {c : Cell} : frG s c = true ↔ (0 ≤ c.x ∧ c.x ≤ 9) ∧ (0 ≤ c.y ∧ c.y ≤ 9) ∧ ¬ shpAt s c := by
  unfold frG
  rw [Bool.and_eq_true, Bool.and_eq_true, inR_iff, inR_iff]
  simp [and_assoc, shpAt]
def rootG (s : List Cell) (q : Cell) : Prop := frG s q = true ∧ ∀ p, befB p q = true → frG s p = true → ¬ Rch (frG s) p q
structure KInv (s : List Cell) (S L : List Cell) (at_ : Cell) : Prop where
  sub : ∀ c ∈ S, frG s c = true
  why : ∀ c ∈ S, ∃ r ∈ L, Rch (frG s) r c
  closed : ∀ b c, b ∈ S → Adj b c → frG s c = true → c ∈ S
  scan : ∀ q, befB q at_ = true → frG s q = true → q ∈ S
  lnodup : L.Nodup
  roots : ∀ q, q ∈ L ↔ rootG s q ∧ befB q at_ = true
  lsub : ∀ q ∈ L, q ∈ S
section
variable {s S L T : List Cell} {a b r : Cell}
theorem KInv.move (h : KInv s S L a) (hb : ∀ q, frG s q = true → (befB q b = true ↔ befB q a = true)) : KInv s S L b :=
  ⟨h.sub, h.why, h.closed, fun q hq hf => h.scan q ((hb q hf).1 hq) hf, h.lnodup, fun q => by
    rw [h.roots]
    constructor
    · rintro ⟨h1, h2⟩; exact ⟨h1, (hb q h1.1).2 h2⟩
    · rintro ⟨h1, h2⟩; exact ⟨h1, (hb q h1.1).1 h2⟩, h.lsub⟩
/-- what has been seen is no new root -/
theorem KInv.old (h : KInv s S L a) {q : Cell} (hq : rootG s q) (hm : q ∈ S) (hb : ∀ r, befB r a = true → befB r q = true) : False := by
  obtain ⟨r, hr, h2⟩ := h.why q hm
  have h3 := (h.roots r).1 hr
  exact hq.2 r (hb r h3.2) h3.1.1 h2
theorem KInv.skip {x y : Int} (h : KInv s S L ⟨x, y⟩) (hs : frG s ⟨x, y⟩ = true → (⟨x, y⟩ : Cell) ∈ S) : KInv s S L ⟨x + 1, y⟩ :=
  ⟨h.sub, h.why, h.closed, fun q hq hf => by
    rcases bef_step.1 hq with h1 | rfl
    · exact h.scan q h1 hf
    · exact hs hf, h.lnodup, fun q => by
    rw [h.roots]
    constructor
    · rintro ⟨h1, h2⟩; exact ⟨h1, bef_step.2 (.inl h2)⟩
    · rintro ⟨h1, h2⟩
      refine ⟨h1, ?_⟩
      rcases bef_step.1 h2 with h3 | rfl
      · exact h3
      · exact absurd (hs h1.1) fun hm => h.old h1 hm (fun _ hr => hr), h.lsub⟩
theorem KInv.root {x y : Int} (h : KInv s S L ⟨x, y⟩) (hf : frG s ⟨x, y⟩ = true) (hn : ¬ (⟨x, y⟩ : Cell) ∈ S) : rootG s ⟨x, y⟩ :=
  ⟨hf, fun p hp hpf hr => hn (hr.into (B := (· ∈ S)) h.closed (h.scan p hp hpf))⟩
/-- a hole has been flooded -/
theorem KInv.add {x y : Int} (h : KInv s S L ⟨x, y⟩) (hf : frG s ⟨x, y⟩ = true) (hn : ¬ (⟨x, y⟩ : Cell) ∈ S) {i d : Nat} (hT : Fle (frG s) (· ∈ S) ⟨x, y⟩ T i d) (hi : T.length ≤ i) : KInv s (S ++ T) (L ++ [⟨x, y⟩]) ⟨x + 1, y⟩ := by
  have hend := hT.end_ hi h.closed
  have hroot := h.root hf hn
  refine ⟨fun c hc => ?_, fun c hc => ?_, fun b c hb hadj hfc => ?_, fun q hq hfq => ?_, ?_, fun q => ?_, fun q hq => ?_⟩
  · rcases List.mem_append.1 hc with hc | hc
    · exact h.sub c hc
    · exact (hT.reach c hc).2.2
  · rcases List.mem_append.1 hc with hc | hc
    · obtain ⟨r, hr, h1⟩ := h.why c hc
      exact ⟨r, List.mem_append.2 (.inl hr), h1⟩
    · exact ⟨⟨x, y⟩, by simp, (hT.reach c hc).1⟩
  · rcases List.mem_append.1 hb with hb | hb
    · exact List.mem_append.2 (.inl (h.closed b c hb hadj hfc))
    · exact List.mem_append.2 (.inr ((hend c).2 (.step ((hend b).1 hb) hadj hfc)))
  · rcases bef_step.1 hq with h1 | rfl
    · exact List.mem_append.2 (.inl (h.scan q h1 hfq))
    · exact List.mem_append.2 (.inr hT.root)
  · refine List.nodup_append.2 ⟨h.lnodup, by simp, fun p hp q hq e => ?_⟩
    simp at hq
    subst hq
    subst e
    exact hn (h.lsub _ hp)
  · rw [List.mem_append, h.roots, List.mem_singleton]
    constructor
    · rintro (⟨h1, h2⟩ | rfl)
      · exact ⟨h1, bef_step.2 (.inl h2)⟩
      · exact ⟨hroot, bef_step.2 (.inr rfl)⟩
    · rintro ⟨h1, h2⟩
      rcases bef_step.1 h2 with h3 | rfl
      · exact .inl ⟨h1, h3⟩
      · exact .inr rfl
  · rcases List.mem_append.1 hq with hq | hq
    · exact List.mem_append.2 (.inl (h.lsub q hq))
    · simp at hq
      subst hq
      exact List.mem_append.2 (.inr hT.root)
theorem KInv.row {x y : Int} (h : KInv s S L ⟨x, y⟩) (hx : 10 ≤ x) : KInv s S L ⟨0, y + 1⟩ := h.move fun q hf => by
  rw [frG_iff] at hf
  obtain ⟨u, v⟩ := q
  simp only [befB, Bool.or_eq_true, Bool.and_eq_true, decide_eq_true_eq] at *
  omega
theorem KInv.start : KInv s [] [] ⟨0, 0⟩ := by
  have hno : ∀ q, befB q ⟨0, 0⟩ = true → frG s q = true → False := fun q hq hf => by
    rw [frG_iff] at hf
    simp only [befB, Bool.or_eq_true, Bool.and_eq_true, decide_eq_true_eq] at hq
    omega
  exact ⟨fun c hc => by simp at hc, fun c hc => by simp at hc, fun b c hb => by simp at hb, fun q hq hf => (hno q hq hf).elim, by simp, fun q => ⟨fun h => by simp at h, fun h => (hno q h.2 h.1.1).elim⟩, fun q hq => by simp at hq⟩
theorem frG_grid : ∀ c, frG s c = true → c ∈ gridL 0 0 10 10 := fun c hc => by
  have := frG_iff.1 hc
  exact gridL_mem (by omega) (by omega) (by omega) (by omega)
theorem KInv.llen (h : KInv s S L a) : L.length ≤ 100 := Nat.le_trans (nodup_len h.lnodup fun q hq => frG_grid q (h.sub q (h.lsub q hq))) (by rw [gridL_len]; exact Nat.le_refl _)
theorem KInv.last {y : Int} (h : KInv s S L ⟨0, y⟩) (hy : 10 ≤ y) (q : Cell) : q ∈ L ↔ rootG s q := by
  rw [h.roots]
  constructor
  · exact fun hh => hh.1
  · intro hq
    refine ⟨hq, ?_⟩
    have := frG_iff.1 hq.1
    simp only [befB, Bool.or_eq_true, Bool.and_eq_true, decide_eq_true_eq]
    omega
end
end Go.Proofs.Ytlfeognjnlppkaa
