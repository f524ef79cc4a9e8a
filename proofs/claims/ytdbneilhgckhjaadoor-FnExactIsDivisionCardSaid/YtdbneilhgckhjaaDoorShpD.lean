
/-
  Shapes: what hangs together: plain Lean, and the walk of the reference's 'IsConnectedShape'.
-/
import Derived.Test.YtdbneilhgckhjaaDoorShpC
import Derived.Test.YtdbneilhgckhjaaDoorSepApp
namespace Go.Proofs.YtdbneilhgckhjaaDoor
open Go.RowKit

noncomputable def cdec (p : Prop) : Bool := @decide p (Classical.propDecidable p)
theorem cdec_t {p : Prop} (h : p) : cdec p = true := @decide_eq_true _ (Classical.propDecidable _) h
theorem cdec_f {p : Prop} (h : ¬ p) : cdec p = false := @decide_eq_false _ (Classical.propDecidable _) h
theorem cdec_eq {p : Prop} {b : Bool} (h : p ↔ b = true) : cdec p = b := by
  cases b
  · exact cdec_f fun hp => by have := h.1 hp; cases this
  · exact cdec_t (h.2 rfl)
/-- reached from a within s, side by side -/
inductive Hang (s : List Cell) (a : Cell) : Cell → Prop where
  | base : Hang s a a
  | step {b c : Cell} : Hang s a b → c ∈ s → sideB b c = true → Hang s a c
noncomputable def hangs (s : List Cell) : Bool := match s[0]? with
  | some a => cdec (∀ c ∈ s, Hang s a c)
  | none => false
theorem hangs_eq {s : List Cell} {a : Cell} {b : Bool} (ha : s[0]? = some a) (h : (∀ c ∈ s, Hang s a c) ↔ b = true) : hangs s = b := by
  unfold hangs
  rw [ha]
  exact cdec_eq h
theorem nodup_len {α : Type} [DecidableEq α] {l G : List α} (h : l.Nodup) (hs : ∀ a ∈ l, a ∈ G) : l.length ≤ G.length := by
  induction l generalizing G with
  | nil => simp
  | cons a l ih =>
    rw [List.nodup_cons] at h
    have hm := hs a (by simp)
    have := ih (G := G.erase a) h.2 (fun b hb => (List.mem_erase_of_ne (fun e => h.1 (by rw [← e]; exact hb))).2 (hs b (by simp [hb])))
    rw [List.length_erase_of_mem hm] at this
    have hp : 0 < G.length := List.length_pos_of_mem hm
    simp
    omega
theorem nodup_all {α : Type} [DecidableEq α] {l G : List α} (h : l.Nodup) (hs : ∀ a ∈ l, a ∈ G) (he : G.length ≤ l.length) : ∀ a ∈ G, a ∈ l := by
  intro a ha
  rcases Classical.em (a ∈ l) with hm | hm
  · exact hm
  · have := nodup_len (l := a :: l) (G := G) (List.nodup_cons.2 ⟨hm, h⟩) (fun b hb => by
      rcases List.mem_cons.1 hb with rfl | hb
      · exact ha
      · exact hs b hb)
    simp at this
    omega
theorem bef_trans {a b c : Cell} (h1 : befB a b = true) (h2 : befB b c = true) : befB a c = true := by
  simp only [befB, Bool.or_eq_true, Bool.and_eq_true, decide_eq_true_eq] at *
  omega
theorem bef_irr {a : Cell} : befB a a = false := by simp [befB]
theorem shp_at {s : List Cell} (h : isShape s = true) {i : Nat} (hi : i < s.length) : okAt s i = true := by
  unfold isShape at h
  rw [Bool.and_eq_true, List.all_eq_true] at h
  exact h.1 i (List.mem_range.2 hi)
theorem shp_len {s : List Cell} (h : isShape s = true) : 1 ≤ s.length ∧ s.length ≤ 8 := by
  unfold isShape at h
  rw [Bool.and_eq_true] at h
  have := inR_iff.1 h.2
  omega
theorem shp_on {s : List Cell} (h : isShape s = true) {c : Cell} (hc : c ∈ s) : On c := by
  obtain ⟨i, hi, rfl⟩ := List.getElem_of_mem hc
  have := shp_at h hi
  unfold okAt at this
  rw [List.getElem?_eq_getElem hi] at this
  simp only [Bool.and_eq_true] at this
  have h2 := this.1
  unfold okC at h2
  rw [Bool.and_eq_true] at h2
  exact ⟨inR_iff.1 h2.1, inR_iff.1 h2.2⟩
theorem shp_next {s : List Cell} (h : isShape s = true) {i : Nat} {b c : Cell} (hb : s[i]? = some b) (hc : s[i + 1]? = some c) : befB b c = true := by
  have hi : i + 1 < s.length := (List.getElem?_eq_some_iff.1 hc).1
  have h1 := shp_at h hi
  have ho : okC c = true := by
    have := h1
    unfold okAt at this
    rw [hc] at this
    simp only [Bool.and_eq_true] at this
    exact this.1
  rw [okAt_next hb hc ho] at h1
  exact h1
theorem shp_pair {s : List Cell} (h : isShape s = true) {i : Nat} {b : Cell} (hb : s[i]? = some b) : ∀ (j : Nat) {c : Cell}, i < j → s[j]? = some c → befB b c = true
  | 0, _, hj, _ => absurd hj (by omega)
  | j + 1, c, hj, hc => by
    have hlt : j + 1 < s.length := (List.getElem?_eq_some_iff.1 hc).1
    have hd : s[j]? = some s[j] := List.getElem?_eq_getElem (by omega)
    have hn := shp_next h hd hc
    by_cases e : i = j
    · subst e
      rw [hd] at hb
      injection hb with hb
      rw [← hb]
      exact hn
    · exact bef_trans (shp_pair h hb j (by omega) hd) hn
theorem shp_nodup {s : List Cell} (h : isShape s = true) : s.Nodup := by
  rw [List.nodup_iff_pairwise_ne, List.pairwise_iff_getElem]
  intro i j hi hj hij e
  have := shp_pair h (List.getElem?_eq_getElem hi) j hij (List.getElem?_eq_getElem hj)
  rw [e, bef_irr] at this
  cases this

/-- a search from a: all different, all reached -/
structure Sees (s : List Cell) (a : Cell) (S : List Cell) : Prop where
  nodup : S.Nodup
  sub : ∀ b ∈ S, b ∈ s
  reach : ∀ b ∈ S, Hang s a b
  mem : a ∈ S
theorem Sees.start {s : List Cell} {a : Cell} (ha : s[0]? = some a) : Sees s a [a] :=
  ⟨by simp, fun b hb => by simp at hb; subst hb; exact List.mem_of_getElem? ha, fun b hb => by simp at hb; subst hb; exact .base, by simp⟩
theorem Sees.add {s S : List Cell} {a b c : Cell} (h : Sees s a S) (hb : b ∈ S) (hc : c ∈ s) (hn : sideB b c = true) (hm : ¬ c ∈ S) : Sees s a (S ++ [c]) :=
  ⟨List.nodup_append.2 ⟨h.nodup, by simp, fun x hx y hy => by simp at hy; subst hy; exact fun e => hm (e ▸ hx)⟩,
   fun x hx => by
    rcases List.mem_append.1 hx with hx | hx
    · exact h.sub x hx
    · simp at hx; subst hx; exact hc,
   fun x hx => by
    rcases List.mem_append.1 hx with hx | hx
    · exact h.reach x hx
    · simp at hx; subst hx; exact .step (h.reach b hb) hc hn,
   List.mem_append.2 (.inl h.mem)⟩
theorem Sees.len {s S : List Cell} {a : Cell} (h : Sees s a S) : S.length ≤ s.length := nodup_len h.nodup h.sub
theorem Sees.end_ {s S : List Cell} {a : Cell} (h : Sees s a S) (hs : s.Nodup) (ha : s[0]? = some a) (hcl : ∀ (j : Nat) (b : Cell), S[j]? = some b → ∀ c ∈ s, sideB b c = true → c ∈ S) : hangs s = decide (S.length = s.length) := by
  refine hangs_eq ha ?_
  rw [decide_eq_true_eq]
  constructor
  · intro hall
    have hin : ∀ c, Hang s a c → c ∈ S := by
      intro c hc
      induction hc with
      | base => exact h.mem
      | step _ hcs hn ih =>
        obtain ⟨j, hj, e⟩ := List.getElem_of_mem ih
        exact hcl j _ (by rw [List.getElem?_eq_getElem hj, e]) _ hcs hn
    have h1 := h.len
    have h2 := nodup_len hs (fun c hc => hin c (hall c hc))
    omega
  · intro he c hc
    exact h.reach c (nodup_all h.nodup h.sub (by omega) c hc)
end Go.Proofs.YtdbneilhgckhjaaDoor
