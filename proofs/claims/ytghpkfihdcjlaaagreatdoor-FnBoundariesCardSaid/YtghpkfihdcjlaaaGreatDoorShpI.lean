
/-
  Floods: what is reached within a set of places; a search by a queue. Plain Lean.
-/
import Derived.Test.YtghpkfihdcjlaaaGreatDoorShpX
namespace Go.Proofs.YtghpkfihdcjlaaaGreatDoor

/-- the neighbour in one of four directions -/
def nbr (c : Cell) (d : Nat) : Cell := match d with
  | 0 => ⟨c.x + 1, c.y⟩
  | 1 => ⟨c.x, c.y + 1⟩
  | 2 => ⟨c.x - 1, c.y⟩
  | _ => ⟨c.x, c.y - 1⟩
def Adj (b c : Cell) : Prop := ∃ d, d < 4 ∧ c = nbr b d
theorem Adj.symm {b c : Cell} (h : Adj b c) : Adj c b := by
  obtain ⟨d, hd, rfl⟩ := h
  have h4 : d = 0 ∨ d = 1 ∨ d = 2 ∨ d = 3 := by omega
  rcases h4 with rfl | rfl | rfl | rfl
  · exact ⟨2, by omega, by cases b; simp [nbr]⟩
  · exact ⟨3, by omega, by cases b; simp [nbr]⟩
  · exact ⟨0, by omega, by cases b; simp [nbr]⟩
  · exact ⟨1, by omega, by cases b; simp [nbr]⟩
theorem Adj.near {b c : Cell} (h : Adj b c) : b.x - 1 ≤ c.x ∧ c.x ≤ b.x + 1 ∧ b.y - 1 ≤ c.y ∧ c.y ≤ b.y + 1 := by
  obtain ⟨d, hd, rfl⟩ := h
  have h4 : d = 0 ∨ d = 1 ∨ d = 2 ∨ d = 3 := by omega
  rcases h4 with rfl | rfl | rfl | rfl <;> simp [nbr] <;> omega
inductive Rch (fr : Cell → Bool) (a : Cell) : Cell → Prop where
  | base : Rch fr a a
  | step {b c : Cell} : Rch fr a b → Adj b c → fr c = true → Rch fr a c
section
variable {fr : Cell → Bool} {a b c : Cell}
theorem Rch.free (h : Rch fr a b) (ha : fr a = true) : fr b = true := by cases h <;> assumption
theorem Rch.trans (h : Rch fr a b) (k : Rch fr b c) : Rch fr a c := by
  induction k with
  | base => exact h
  | step _ hn hf ih => exact .step ih hn hf
theorem Rch.symm (h : Rch fr a b) (ha : fr a = true) : Rch fr b a := by
  induction h with
  | base => exact .base
  | step hb hn hf ih => exact Rch.trans (.step .base hn.symm (hb.free ha)) ih
/-- what is closed keeps a way inside or outside -/
theorem Rch.out {B : Cell → Prop} (hB : ∀ b c, B b → Adj b c → fr c = true → B c) (h : Rch fr a b) (ha : fr a = true) (hn : ¬ B a) : ¬ B b := by
  induction h with
  | base => exact hn
  | step hb hadj _ ih => exact fun hc => ih (hB _ _ hc hadj.symm (hb.free ha))
theorem Rch.into {B : Cell → Prop} (hB : ∀ b c, B b → Adj b c → fr c = true → B c) (h : Rch fr a b) (hn : B a) : B b := by
  induction h with
  | base => exact hn
  | step _ hadj hf ih => exact hB _ _ ih hadj hf
end
/-- a search from r: T in order, the first i done, of the next one d directions -/
structure Fld (fr : Cell → Bool) (B : Cell → Prop) (r : Cell) (T : List Cell) (i d : Nat) : Prop where
  nodup : T.Nodup
  reach : ∀ c ∈ T, Rch fr r c ∧ ¬ B c ∧ fr c = true
  root : r ∈ T
  done : ∀ (j : Nat) (b c : Cell) (e : Nat), T[j]? = some b → e < 4 → (j < i ∨ j = i ∧ e < d) → c = nbr b e → fr c = true → c ∈ T ∨ B c
section
variable {fr : Cell → Bool} {B : Cell → Prop} {r : Cell} {T : List Cell} {i d : Nat}
theorem Fld.start (hr : fr r = true) (hB : ¬ B r) : Fld fr B r [r] 0 0 :=
  ⟨by simp, fun c hc => by simp at hc; subst hc; exact ⟨.base, hB, hr⟩, by simp, fun j b c e _ _ hj => by omega⟩
theorem Fld.skip (h : Fld fr B r T i d) {b : Cell} (hb : T[i]? = some b) (hs : fr (nbr b d) = true → nbr b d ∈ T ∨ B (nbr b d)) : Fld fr B r T i (d + 1) :=
  ⟨h.nodup, h.reach, h.root, fun j b' c e hj he hle hc hf => by
    by_cases hl : j < i ∨ j = i ∧ e < d
    · exact h.done j b' c e hj he hl hc hf
    · obtain ⟨rfl, rfl⟩ : j = i ∧ e = d := by omega
      rw [hb] at hj
      injection hj with hj
      subst hj
      subst hc
      exact hs hf⟩
theorem Fld.add (h : Fld fr B r T i d) {b : Cell} (hb : T[i]? = some b) (hd : d < 4) (hf : fr (nbr b d) = true) (hT : ¬ nbr b d ∈ T) (hB : ¬ B (nbr b d)) : Fld fr B r (T ++ [nbr b d]) i (d + 1) := by
  have hi : i < T.length := (List.getElem?_eq_some_iff.1 hb).1
  refine ⟨List.nodup_append.2 ⟨h.nodup, by simp, fun x hx y hy => by simp at hy; subst hy; exact fun e => hT (e ▸ hx)⟩, fun c hc => ?_, List.mem_append.2 (.inl h.root), fun j b' c e hj he hle hc hf' => ?_⟩
  · rcases List.mem_append.1 hc with hc | hc
    · exact h.reach c hc
    · simp at hc
      subst hc
      exact ⟨.step (h.reach b (List.mem_of_getElem? hb)).1 ⟨d, hd, rfl⟩ hf, hB, hf⟩
  · rw [List.getElem?_append_left (by omega)] at hj
    by_cases hl : j < i ∨ j = i ∧ e < d
    · rcases h.done j b' c e hj he hl hc hf' with h1 | h1
      · exact .inl (List.mem_append.2 (.inl h1))
      · exact .inr h1
    · obtain ⟨rfl, rfl⟩ : j = i ∧ e = d := by omega
      rw [hb] at hj
      injection hj with hj
      subst hj
      subst hc
      exact .inl (by simp)
theorem Fld.next (h : Fld fr B r T i d) (hd : 4 ≤ d) : Fld fr B r T (i + 1) 0 :=
  ⟨h.nodup, h.reach, h.root, fun j b c e hj he hle hc hf => h.done j b c e hj he (by omega) hc hf⟩
/-- at the end: all that is reached -/
theorem Fld.end_ (h : Fld fr B r T i d) (hi : T.length ≤ i) (hB : ∀ b c, B b → Adj b c → fr c = true → B c) (c : Cell) : c ∈ T ↔ Rch fr r c := by
  constructor
  · exact fun hc => (h.reach c hc).1
  · intro hc
    have hr := (h.reach r h.root)
    induction hc with
    | base => exact h.root
    | @step b c hb hadj hf ih =>
      obtain ⟨e, he, rfl⟩ := hadj
      obtain ⟨j, hj, ej⟩ := List.getElem_of_mem ih
      rcases h.done j b _ e (by rw [List.getElem?_eq_getElem hj, ej]) he (by omega) rfl hf with h1 | h1
      · exact h1
      · exact absurd h1 (Rch.out hB (.step hb ⟨e, he, rfl⟩ hf) hr.2.2 hr.2.1)
theorem Fld.len (h : Fld fr B r T i d) {G : List Cell} (hG : ∀ c, fr c = true → c ∈ G) : T.length ≤ G.length := nodup_len h.nodup fun c hc => hG c (h.reach c hc).2.2
end
/-- a grid's places -/
def gridL (x0 y0 : Int) (w h : Nat) : List Cell := (List.range h).flatMap fun j : Nat => (List.range w).map fun i : Nat => ⟨x0 + (i : Int), y0 + (j : Int)⟩
theorem gridL_mem {x0 y0 : Int} {w h : Nat} {c : Cell} (h1 : x0 ≤ c.x) (h2 : c.x < x0 + (w : Int)) (h3 : y0 ≤ c.y) (h4 : c.y < y0 + (h : Int)) : c ∈ gridL x0 y0 w h := by
  refine List.mem_flatMap.2 ⟨(c.y - y0).toNat, List.mem_range.2 (by omega), List.mem_map.2 ⟨(c.x - x0).toNat, List.mem_range.2 (by omega), ?_⟩⟩
  cases c
  simp only at *
  congr 1 <;> omega
theorem gridL_len {x0 y0 : Int} {w : Nat} : ∀ {h : Nat}, (gridL x0 y0 w h).length = h * w
  | 0 => by simp [gridL]
  | h + 1 => by
    have ih := gridL_len (x0 := x0) (y0 := y0) (w := w) (h := h)
    unfold gridL at *
    rw [List.range_succ, List.flatMap_append, List.length_append, ih]
    simp [Nat.succ_mul]
/-- how many, if they are finitely many -/
noncomputable def cardP (p : Cell → Prop) : Nat := Classical.epsilon fun n => ∃ L : List Cell, L.Nodup ∧ (∀ q, q ∈ L ↔ p q) ∧ n = L.length
theorem cardP_eq {p : Cell → Prop} {L : List Cell} (hn : L.Nodup) (hL : ∀ q, q ∈ L ↔ p q) : cardP p = L.length := by
  have h := Classical.epsilon_spec (p := fun n => ∃ L : List Cell, L.Nodup ∧ (∀ q, q ∈ L ↔ p q) ∧ n = L.length) ⟨L.length, L, hn, hL, rfl⟩
  obtain ⟨M, hM, hm, e⟩ := h
  have h1 := nodup_len hM (fun q hq => (hL q).2 ((hm q).1 hq))
  have h2 := nodup_len hn (fun q hq => (hm q).2 ((hL q).1 hq))
  show Classical.epsilon _ = _
  rw [e]
  omega
end Go.Proofs.YtghpkfihdcjlaaaGreatDoor
