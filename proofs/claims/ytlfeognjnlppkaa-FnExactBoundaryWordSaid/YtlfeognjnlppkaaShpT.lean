
/-
  Shapes: the way around a shape: plain.
-/
import Derived.Test.YtlfeognjnlppkaaShpR
namespace Go.Proofs.Ytlfeognjnlppkaa
open Go.RowKit

def outD (s : List Cell) (c : Cell) : Nat := if edge s c 0 then 0 else if edge s c 1 then 1 else if edge s c 2 then 2 else 3
def wlk (s : List Cell) (a : Cell) : Nat → Cell
  | 0 => a
  | n + 1 => stepC (wlk s a n) (outD s (wlk s a n))
/-- a step into a corner -/
def inE (s : List Cell) (q : Cell) : Nat → Bool
  | 0 => hs s (q.x - 1) q.y && !hs s (q.x - 1) (q.y - 1)
  | 1 => hs s (q.x - 1) (q.y - 1) && !hs s q.x (q.y - 1)
  | 2 => hs s q.x (q.y - 1) && !hs s q.x q.y
  | _ => hs s q.x q.y && !hs s (q.x - 1) q.y
theorem inE_eq {s : List Cell} {c : Cell} {d : Nat} (hd : d < 4) : inE s (stepC c d) d = edge s c d := by
  have h4 : d = 0 ∨ d = 1 ∨ d = 2 ∨ d = 3 := by omega
  rcases h4 with rfl | rfl | rfl | rfl <;> simp only [inE, edge, stepC, Int.add_sub_cancel]
theorem pinK_off {s : List Cell} (h : pinS s = false) (x y : Int) : pinK s x y = false := by
  rw [Bool.eq_false_iff]
  intro hk
  rw [pinK_pin hk] at h
  cases h
theorem edge_uniq {s : List Cell} {c : Cell} (h : pinS s = false) {d e : Nat} (hd : d < 4) (he : e < 4) (h1 : edge s c d = true) (h2 : edge s c e = true) : d = e := by
  have hp := pinK_off h c.x c.y
  have h4 : d = 0 ∨ d = 1 ∨ d = 2 ∨ d = 3 := by omega
  have h5 : e = 0 ∨ e = 1 ∨ e = 2 ∨ e = 3 := by omega
  unfold pinK at hp
  rcases h4 with rfl | rfl | rfl | rfl <;> rcases h5 with rfl | rfl | rfl | rfl <;> simp only [edge] at h1 h2 <;> first | rfl | (exfalso; revert hp h1 h2; generalize hs s (c.x - 1) (c.y - 1) = p; generalize hs s c.x (c.y - 1) = q; generalize hs s (c.x - 1) c.y = r; generalize hs s c.x c.y = t; revert p q r t; decide)
theorem inE_uniq {s : List Cell} {c : Cell} (h : pinS s = false) {d e : Nat} (hd : d < 4) (he : e < 4) (h1 : inE s c d = true) (h2 : inE s c e = true) : d = e := by
  have hp := pinK_off h c.x c.y
  have h4 : d = 0 ∨ d = 1 ∨ d = 2 ∨ d = 3 := by omega
  have h5 : e = 0 ∨ e = 1 ∨ e = 2 ∨ e = 3 := by omega
  unfold pinK at hp
  rcases h4 with rfl | rfl | rfl | rfl <;> rcases h5 with rfl | rfl | rfl | rfl <;> simp only [inE] at h1 h2 <;> first | rfl | (exfalso; revert hp h1 h2; generalize hs s (c.x - 1) (c.y - 1) = p; generalize hs s c.x (c.y - 1) = q; generalize hs s (c.x - 1) c.y = r; generalize hs s c.x c.y = t; revert p q r t; decide)
theorem in_out {s : List Cell} {c : Cell} {d : Nat} (hd : d < 4) (h1 : inE s c d = true) : edge s c ((d + 3) % 4) = true ∨ edge s c ((d + 4) % 4) = true ∨ edge s c ((d + 5) % 4) = true := by
  have h4 : d = 0 ∨ d = 1 ∨ d = 2 ∨ d = 3 := by omega
  rcases h4 with rfl | rfl | rfl | rfl <;> simp only [inE, edge, Nat.reduceAdd, Nat.reduceMod] at * <;> (revert h1; generalize hs s (c.x - 1) (c.y - 1) = p; generalize hs s c.x (c.y - 1) = q; generalize hs s (c.x - 1) c.y = r; generalize hs s c.x c.y = t; revert p q r t; decide)
theorem outD_lt (s : List Cell) (c : Cell) : outD s c < 4 := by
  unfold outD
  repeat' split
  all_goals omega
theorem outD_edge {s : List Cell} {c : Cell} {e : Nat} (he : e < 4) (h : edge s c e = true) : edge s c (outD s c) = true := by
  have h4 : e = 0 ∨ e = 1 ∨ e = 2 ∨ e = 3 := by omega
  unfold outD
  repeat' split
  all_goals try assumption
  rcases h4 with rfl | rfl | rfl | rfl
  · contradiction
  · contradiction
  · contradiction
  · exact h
theorem outD_is {s : List Cell} {c : Cell} (hp : pinS s = false) {e : Nat} (he : e < 4) (h : edge s c e = true) : outD s c = e := edge_uniq hp (outD_lt s c) he (outD_edge he h) h
theorem edge_on {s : List Cell} (hon : ∀ c ∈ s, On c) {c : Cell} {d : Nat} (h : edge s c d = true) : (0 ≤ c.x ∧ c.x ≤ 8) ∧ (0 ≤ c.y ∧ c.y ≤ 8) := by
  have key : ∀ x y : Int, hs s x y = true → (0 ≤ x ∧ x ≤ 7) ∧ (0 ≤ y ∧ y ≤ 7) := fun x y h => by
    obtain ⟨⟨a, b⟩, c, d⟩ := hon _ (hs_iff.1 h)
    simp only at *
    omega
  unfold edge at h
  split at h <;> (rw [Bool.and_eq_true] at h; have := key _ _ h.1; omega)
/-- what is asked of a shape -/
structure Bord (s : List Cell) (a : Cell) : Prop where
  on : ∀ c ∈ s, On c
  free : pinS s = false
  first : edge s a 0 = true
section
variable {s : List Cell} {a : Cell}
theorem Bord.edg (h : Bord s a) : ∀ n, edge s (wlk s a n) (outD s (wlk s a n)) = true
  | 0 => outD_edge (by decide) h.first
  | n + 1 => by
    have ih := h.edg n
    have hl := outD_lt s (wlk s a n)
    rw [← inE_eq hl] at ih
    have hm : ∀ k, k % 4 < 4 := fun k => Nat.mod_lt _ (by decide)
    rcases in_out hl ih with h1 | h1 | h1
    · exact outD_edge (hm _) h1
    · exact outD_edge (hm _) h1
    · exact outD_edge (hm _) h1
theorem Bord.turn (h : Bord s a) (n : Nat) : edge s (wlk s a (n + 1)) ((outD s (wlk s a n) + 3) % 4) = true ∨ edge s (wlk s a (n + 1)) ((outD s (wlk s a n) + 4) % 4) = true ∨ edge s (wlk s a (n + 1)) ((outD s (wlk s a n) + 5) % 4) = true := by
  have ih := h.edg n
  have hl := outD_lt s (wlk s a n)
  rw [← inE_eq hl] at ih
  exact in_out hl ih
theorem Bord.on_ (h : Bord s a) (n : Nat) : (0 ≤ (wlk s a n).x ∧ (wlk s a n).x ≤ 8) ∧ (0 ≤ (wlk s a n).y ∧ (wlk s a n).y ≤ 8) := edge_on h.on (h.edg n)
theorem Bord.back (h : Bord s a) {i j : Nat} (e : wlk s a (i + 1) = wlk s a (j + 1)) : wlk s a i = wlk s a j := by
  have h1 := h.edg i
  have h2 := h.edg j
  have l1 := outD_lt s (wlk s a i)
  have l2 := outD_lt s (wlk s a j)
  rw [← inE_eq l1] at h1
  rw [← inE_eq l2] at h2
  have e' : stepC (wlk s a i) (outD s (wlk s a i)) = stepC (wlk s a j) (outD s (wlk s a j)) := e
  rw [← e'] at h2
  have hd := inE_uniq h.free l1 l2 h1 h2
  rw [← hd] at e'
  generalize outD s (wlk s a i) = d at *
  generalize wlk s a i = p at *
  generalize wlk s a j = q at *
  obtain ⟨px, py⟩ := p
  obtain ⟨qx, qy⟩ := q
  have h4 : d = 0 ∨ d = 1 ∨ d = 2 ∨ d = 3 := by omega
  rcases h4 with rfl | rfl | rfl | rfl <;> (simp only [stepC, Cell.mk.injEq] at e' ⊢; omega)
theorem Bord.apart (h : Bord s a) {N : Nat} (hN : ∀ k, 1 ≤ k → k ≤ N → wlk s a k ≠ a) : ∀ i j, i < j → j ≤ N → wlk s a i ≠ wlk s a j
  | 0, j, hij, hj => fun e => hN j (by omega) hj e.symm
  | i + 1, j, hij, hj => fun e => by
    obtain ⟨k, rfl⟩ : ∃ k, j = k + 1 := ⟨j - 1, by omega⟩
    exact h.apart hN i k (by omega) (by omega) (h.back e)
theorem Bord.short (h : Bord s a) {N : Nat} (hN : ∀ k, 1 ≤ k → k ≤ N → wlk s a k ≠ a) : N < 81 := by
  have hnd : ((List.range (N + 1)).map (wlk s a)).Nodup := by
    rw [List.nodup_iff_pairwise_ne, List.pairwise_map]
    have hp : (List.range (N + 1)).Pairwise (· < ·) := List.pairwise_lt_range
    refine hp.imp_of_mem fun {i j} hi hj hij => h.apart hN i j hij ?_
    rw [List.mem_range] at hj
    omega
  have := nodup_len hnd (G := gridL 0 0 9 9) fun c hc => by
    obtain ⟨n, _, rfl⟩ := List.mem_map.1 hc
    obtain ⟨⟨a1, a2⟩, a3, a4⟩ := h.on_ n
    exact gridL_mem (by omega) (by omega) (by omega) (by omega)
  rw [gridL_len] at this
  simp at this
  omega
/-- how long the way around is -/
theorem Bord.round (h : Bord s a) : ∃ K, 1 ≤ K ∧ K ≤ 81 ∧ wlk s a K = a ∧ ∀ k, 1 ≤ k → k < K → wlk s a k ≠ a := by
  have hex : ∃ K, 1 ≤ K ∧ wlk s a K = a := by
    apply Classical.byContradiction
    intro hn
    have := h.short (N := 81) fun k h1 _ e => hn ⟨k, h1, e⟩
    omega
  have : ∀ m, (∃ K, K ≤ m ∧ 1 ≤ K ∧ wlk s a K = a) → ∃ K, 1 ≤ K ∧ wlk s a K = a ∧ ∀ k, 1 ≤ k → k < K → wlk s a k ≠ a := by
    intro m
    induction m with
    | zero => rintro ⟨K, h1, h2, _⟩; omega
    | succ m ih =>
      rintro ⟨K, h1, h2, h3⟩
      by_cases hc : ∃ K, K ≤ m ∧ 1 ≤ K ∧ wlk s a K = a
      · exact ih hc
      · exact ⟨K, h2, h3, fun k k1 k2 e => hc ⟨k, by omega, k1, e⟩⟩
  obtain ⟨K0, k1, k2⟩ := hex
  obtain ⟨K, h1, h2, h3⟩ := this K0 ⟨K0, Nat.le_refl _, k1, k2⟩
  refine ⟨K, h1, ?_, h2, h3⟩
  have := h.short (N := K - 1) fun k q1 q2 => h3 k q1 (by omega)
  omega
end
def dirU : Nat → UInt8
  | 0 => 114
  | 1 => 100
  | 2 => 108
  | _ => 117
def wrd (s : List Cell) (a : Cell) (n : Nat) : List UInt8 := (List.range n).map fun k => dirU (outD s (wlk s a k))
theorem wrd_succ {s : List Cell} {a : Cell} {n : Nat} : wrd s a (n + 1) = wrd s a n ++ [dirU (outD s (wlk s a n))] := by simp [wrd, List.range_succ]
theorem wrd_len {s : List Cell} {a : Cell} {n : Nat} : (wrd s a n).length = n := by simp [wrd]
end Go.Proofs.Ytlfeognjnlppkaa
