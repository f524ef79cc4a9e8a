
/-
  Holes: the program counts one more than the reference. Plain Lean.
-/
import Derived.Test.YtlfeognjnlppkaaShpM
namespace Go.Proofs.Ytlfeognjnlppkaa

section
variable {s : List Cell}
def up (s : List Cell) (q : Cell) : Cell := ⟨q.x + minX s + 1, q.y + minY s + 1⟩
def dn (s : List Cell) (q : Cell) : Cell := ⟨q.x - minX s - 1, q.y - minY s - 1⟩
theorem up_dn (q : Cell) : up s (dn s q) = q := by
  obtain ⟨x, y⟩ := q
  simp only [up, dn, Cell.mk.injEq]
  omega
theorem dn_up (q : Cell) : dn s (up s q) = q := by
  obtain ⟨x, y⟩ := q
  simp only [up, dn, Cell.mk.injEq]
  omega
theorem shp_up {q : Cell} : shpAt s (up s q) ↔ q ∈ corner s := by
  unfold shpAt up corner
  rw [mem_shift]
  rw [show (⟨q.x + minX s + 1 - 1, q.y + minY s + 1 - 1⟩ : Cell) = ⟨q.x + minX s, q.y + minY s⟩ by simp only [Cell.mk.injEq]; omega]
theorem adj_up {b c : Cell} (h : Adj b c) : Adj (up s b) (up s c) := by
  obtain ⟨d, hd, rfl⟩ := h
  refine ⟨d, hd, ?_⟩
  have h4 : d = 0 ∨ d = 1 ∨ d = 2 ∨ d = 3 := by omega
  rcases h4 with rfl | rfl | rfl | rfl <;> simp [up, nbr] <;> omega
theorem adj_dn {b c : Cell} (h : Adj b c) : Adj (dn s b) (dn s c) := by
  obtain ⟨d, hd, rfl⟩ := h
  refine ⟨d, hd, ?_⟩
  have h4 : d = 0 ∨ d = 1 ∨ d = 2 ∨ d = 3 := by omega
  rcases h4 with rfl | rfl | rfl | rfl <;> simp [dn, nbr] <;> omega
theorem frO_up (hs : isShape s = true) {q : Cell} (h : frO s q = true) : frG s (up s q) = true := by
  have h1 := shp_size hs
  have h2 := shp_min hs
  have h3 := frO_iff.1 h
  refine frG_iff.2 ⟨by unfold up; simp only; omega, by unfold up; simp only; omega, fun hm => h3.2.2 (shp_up.1 hm)⟩
theorem rch_up (hs : isShape s = true) {p q : Cell} (h : Rch (frO s) p q) : Rch (frG s) (up s p) (up s q) := by
  induction h with
  | base => exact .base
  | step _ hadj hf ih => exact .step ih (adj_up hadj) (frO_up hs hf)
theorem rchB_O {p q : Cell} (h : Rch (frB s) p q) : Rch (frO s) p q := by
  induction h with
  | base => exact .base
  | step _ hadj hf ih => exact .step ih hadj (frB_O hf)
/-- a place of the grid beside the box is free -/
theorem frG_out (_ : isShape s = true) {c : Cell} (h1 : 0 ≤ c.x ∧ c.x ≤ 9) (h2 : 0 ≤ c.y ∧ c.y ≤ 9) (h : c.x ≤ minX s ∨ minX s + wdOf s + 1 ≤ c.x ∨ c.y ≤ minY s ∨ minY s + htOf s + 1 ≤ c.y) : frG s c = true := by
  refine frG_iff.2 ⟨h1, h2, fun hm => ?_⟩
  rw [← up_dn (s := s) c, shp_up] at hm
  have h3 := corner_ge hm
  have h4 := corner_lt hm
  unfold dn at h3 h4
  simp only at h3 h4
  omega
theorem row0 (hs : isShape s = true) : ∀ k : Nat, k ≤ 9 → Rch (frG s) ⟨0, 0⟩ ⟨(k : Int), 0⟩
  | 0, _ => .base
  | k + 1, hk => by
    have := shp_min hs
    have e : (⟨((k + 1 : Nat) : Int), 0⟩ : Cell) = ⟨(⟨(k : Int), 0⟩ : Cell).x + 1, (⟨(k : Int), 0⟩ : Cell).y⟩ := by simp
    rw [e]
    refine .step (row0 hs k (by omega)) nb_x (frG_out hs ?_ ?_ (.inr (.inr (.inl ?_)))) <;> simp only <;> omega
theorem colX (hs : isShape s = true) {x : Int} (h0 : 0 ≤ x ∧ x ≤ 9) (h : x ≤ minX s ∨ minX s + wdOf s + 1 ≤ x) : ∀ k : Nat, k ≤ 9 → Rch (frG s) ⟨0, 0⟩ ⟨x, (k : Int)⟩
  | 0, _ => by
    have := row0 hs x.toNat (by omega)
    rwa [show ((x.toNat : Nat) : Int) = x by omega] at this
  | k + 1, hk => by
    have e : (⟨x, ((k + 1 : Nat) : Int)⟩ : Cell) = ⟨(⟨x, (k : Int)⟩ : Cell).x, (⟨x, (k : Int)⟩ : Cell).y + 1⟩ := by simp
    rw [e]
    refine .step (colX hs h0 h k (by omega)) nb_y (frG_out hs ?_ ?_ ?_) <;> simp only <;> omega
theorem rowY (hs : isShape s = true) {y : Int} (h0 : 0 ≤ y ∧ y ≤ 9) (h : y ≤ minY s ∨ minY s + htOf s + 1 ≤ y) : ∀ k : Nat, k ≤ 9 → Rch (frG s) ⟨0, 0⟩ ⟨(k : Int), y⟩
  | 0, _ => by
    have h1 := shp_min hs
    have := colX hs (x := 0) (by omega) (.inl (by omega)) y.toNat (by omega)
    rwa [show ((y.toNat : Nat) : Int) = y by omega] at this
  | k + 1, hk => by
    have e : (⟨((k + 1 : Nat) : Int), y⟩ : Cell) = ⟨(⟨(k : Int), y⟩ : Cell).x + 1, (⟨(k : Int), y⟩ : Cell).y⟩ := by simp
    rw [e]
    refine .step (rowY hs h0 h k (by omega)) nb_x (frG_out hs ?_ ?_ ?_) <;> simp only <;> omega
/-- what lies beside the box is outside -/
theorem outG (hs : isShape s = true) {c : Cell} (hf : frG s c = true) (hn : frB s (dn s c) = false) : Rch (frG s) ⟨0, 0⟩ c := by
  obtain ⟨h1, h2, h3⟩ := frG_iff.1 hf
  have h4 : ¬ frB s (dn s c) = true := by rw [hn]; exact Bool.false_ne_true
  rw [frB_iff] at h4
  have h5 : ¬ dn s c ∈ corner s := fun hm => h3 (by rw [← up_dn (s := s) c]; exact shp_up.2 hm)
  have h6 : ¬ ((0 ≤ (dn s c).x ∧ (dn s c).x ≤ wdOf s - 1) ∧ (0 ≤ (dn s c).y ∧ (dn s c).y ≤ htOf s - 1)) := fun hh => h4 ⟨hh.1, hh.2, h5⟩
  unfold dn at h6
  simp only at h6
  obtain ⟨x, y⟩ := c
  simp only at *
  by_cases hx : x ≤ minX s ∨ minX s + wdOf s + 1 ≤ x
  · have := colX hs h1 hx y.toNat (by omega)
    rwa [show ((y.toNat : Nat) : Int) = y by omega] at this
  · have := rowY hs h2 (by omega) x.toNat (by omega)
    rwa [show ((x.toNat : Nat) : Int) = x by omega] at this
theorem out_up (hs : isShape s = true) {q : Cell} (h : OutC s q) : Rch (frG s) ⟨0, 0⟩ (up s q) := by
  have h1 := rch_up hs h
  have h2 := shp_min hs
  have h3 : Rch (frG s) ⟨0, 0⟩ (up s ⟨-1, -1⟩) := by
    refine outG hs (frO_up hs (frO_start hs)) ?_
    rw [dn_up]
    cases hb : frB s ⟨-1, -1⟩ with
    | false => rfl
    | true => have := frB_iff.1 hb; simp only at this; omega
  exact h3.trans h1
/-- a hole's places stay among themselves -/
theorem hole_closed (hs : isShape s = true) {r : Cell} : ∀ b c, (∃ q, frB s q = true ∧ ¬ OutC s q ∧ Rch (frB s) r q ∧ b = up s q) → Adj b c → frG s c = true → ∃ q, frB s q = true ∧ ¬ OutC s q ∧ Rch (frB s) r q ∧ c = up s q := by
  rintro b c ⟨q, h1, h2, h3, rfl⟩ hadj hf
  have ha : Adj q (dn s c) := by have := adj_dn (s := s) hadj; rwa [dn_up] at this
  have hn := ha.near
  have hb := frB_iff.1 h1
  have hnc : ¬ dn s c ∈ corner s := fun hm => (frG_iff.1 hf).2.2 (by rw [← up_dn (s := s) c]; exact shp_up.2 hm)
  have hfo : frO s (dn s c) = true := frO_iff.2 ⟨by omega, by omega, hnc⟩
  have hno : ¬ OutC s (dn s c) := fun ho => h2 (.step ho ha.symm (frB_O h1))
  cases hfb : frB s (dn s c) with
  | false => exact absurd (ring_out hs hfo hfb) hno
  | true => exact ⟨dn s c, hfb, hno, .step h3 ha hfb, (up_dn c).symm⟩
theorem frG_zero (hs : isShape s = true) : frG s ⟨0, 0⟩ = true := by
  have := shp_min hs
  exact frG_out hs (by simp) (by simp) (.inl (by simp only; omega))
theorem in_hole (hs : isShape s = true) {q p : Cell} (h1 : frB s q = true) (h2 : ¬ OutC s q) (h : Rch (frG s) p (up s q)) (hp : frG s p = true) : ∃ p', frB s p' = true ∧ ¬ OutC s p' ∧ Rch (frB s) q p' ∧ p = up s p' :=
  (h.symm hp).into (B := fun c => ∃ p', frB s p' = true ∧ ¬ OutC s p' ∧ Rch (frB s) q p' ∧ c = up s p') (hole_closed hs) ⟨q, h1, h2, .base, rfl⟩
theorem bef_up {p q : Cell} : befB (up s p) (up s q) = befB p q := by
  have e1 : (p.y + minY s + 1 < q.y + minY s + 1) ↔ p.y < q.y := by omega
  have e2 : (p.y + minY s + 1 = q.y + minY s + 1) ↔ p.y = q.y := by omega
  have e3 : (p.x + minX s + 1 < q.x + minX s + 1) ↔ p.x < q.x := by omega
  simp only [befB, up, e1, e2, e3]
theorem root_iff (hs : isShape s = true) {q : Cell} : rootG s q ↔ q = ⟨0, 0⟩ ∨ ∃ p, rootS s p ∧ q = up s p := by
  constructor
  · rintro ⟨h1, h2⟩
    by_cases ho : Rch (frG s) ⟨0, 0⟩ q
    · left
      obtain ⟨x, y⟩ := q
      have := frG_iff.1 h1
      simp only at this
      rcases Classical.em ((⟨x, y⟩ : Cell) = ⟨0, 0⟩) with e | e
      · exact e
      · refine absurd ho (h2 ⟨0, 0⟩ ?_ (frG_zero hs))
        simp only [Cell.mk.injEq] at e
        simp only [befB, Bool.or_eq_true, Bool.and_eq_true, decide_eq_true_eq]
        omega
    · right
      cases hfb : frB s (dn s q) with
      | false => exact absurd (outG hs h1 hfb) ho
      | true =>
        refine ⟨dn s q, ⟨hfb, fun h => ho (by have := out_up hs h; rwa [up_dn] at this), fun p hp hpf hr => ?_⟩, (up_dn q).symm⟩
        have h3 := rch_up hs (rchB_O hr)
        rw [up_dn] at h3
        exact h2 (up s p) (by rw [← up_dn (s := s) q, bef_up]; exact hp) (frO_up hs (frB_O hpf)) h3
  · rintro (rfl | ⟨p, ⟨h1, h2, h3⟩, rfl⟩)
    · refine ⟨frG_zero hs, fun p hp hpf => ?_⟩
      have := frG_iff.1 hpf
      simp only [befB, Bool.or_eq_true, Bool.and_eq_true, decide_eq_true_eq] at hp
      omega
    · refine ⟨frO_up hs (frB_O h1), fun t ht htf hr => ?_⟩
      obtain ⟨t', k1, _, k3, rfl⟩ := in_hole hs h1 h2 hr htf
      rw [bef_up] at ht
      exact h3 t' ht k1 (k3.symm h1)
/-- the program's count -/
theorem count_eq (hs : isShape s = true) {L : List Cell} (hn : L.Nodup) (hL : ∀ q, q ∈ L ↔ rootG s q) : L.length = holesN s + 1 := by
  have hz : (⟨0, 0⟩ : Cell) ∈ L := (hL _).2 ((root_iff hs).2 (.inl rfl))
  have hup : ∀ p, rootS s p → up s p ≠ ⟨0, 0⟩ := fun p hp e => by
    have h1 := frB_iff.1 hp.1
    have h2 := shp_min hs
    simp only [up, Cell.mk.injEq] at e
    omega
  have hM : holesN s = ((L.erase ⟨0, 0⟩).map (dn s)).length := by
    refine cardP_eq ?_ fun q => ?_
    · refine List.Pairwise.map (R := fun a b => a ≠ b) (S := fun a b => a ≠ b) (dn s) (fun a b hab e => hab ?_) (List.Nodup.erase _ hn)
      rw [← up_dn (s := s) a, ← up_dn (s := s) b, e]
    · rw [List.mem_map]
      constructor
      · rintro ⟨p, hp, rfl⟩
        have h1 := (hn.mem_erase_iff).1 hp
        rcases (root_iff hs).1 ((hL p).1 h1.2) with h2 | ⟨t, ht, rfl⟩
        · exact absurd h2 h1.1
        · rw [dn_up]; exact ht
      · intro hq
        exact ⟨up s q, (hn.mem_erase_iff).2 ⟨hup q hq, (hL _).2 ((root_iff hs).2 (.inr ⟨q, hq, rfl⟩))⟩, dn_up q⟩
  rw [hM, List.length_map, List.length_erase_of_mem hz]
  have := List.length_pos_of_mem hz
  omega
end
end Go.Proofs.Ytlfeognjnlppkaa
