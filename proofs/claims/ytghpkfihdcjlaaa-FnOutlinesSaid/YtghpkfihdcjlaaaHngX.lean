
/-
  Hanging together, carried: copies of lines of DivQ (never import both).
-/
import Derived.Test.YtghpkfihdcjlaaaOriQ
import Derived.Test.YtghpkfihdcjlaaaMskX
namespace Go.Proofs.Ytghpkfihdcjlaaa
open Go.RowKit

/-! hanging together, carried -/
theorem side_comm {a b : Cell} (h : sideB a b = true) : sideB b a = true := by
  unfold sideB at *
  simp only [decide_eq_true_eq] at *
  have e1 : (b.x - a.x) * (b.x - a.x) = (a.x - b.x) * (a.x - b.x) := by rw [show b.x - a.x = -(a.x - b.x) by omega, Int.neg_mul_neg]
  have e2 : (b.y - a.y) * (b.y - a.y) = (a.y - b.y) * (a.y - b.y) := by rw [show b.y - a.y = -(a.y - b.y) by omega, Int.neg_mul_neg]
  rw [e1, e2]; exact h
theorem side_move {a b : Cell} {x y : Int} : sideB ⟨a.x - x, a.y - y⟩ ⟨b.x - x, b.y - y⟩ = sideB a b := by
  unfold sideB
  simp only
  rw [show a.x - x - (b.x - x) = a.x - b.x by omega, show a.y - y - (b.y - y) = a.y - b.y by omega]
theorem side_flip {a b : Cell} : sideB ⟨-a.x, a.y⟩ ⟨-b.x, b.y⟩ = sideB a b := by
  unfold sideB
  simp only
  rw [show -a.x - -b.x = -(a.x - b.x) by omega, Int.neg_mul_neg]
theorem side_rot {a b : Cell} : sideB ⟨-a.y, a.x⟩ ⟨-b.y, b.x⟩ = sideB a b := by
  unfold sideB
  simp only
  rw [show -a.y - -b.y = -(a.y - b.y) by omega, Int.neg_mul_neg, Int.add_comm]
theorem side_rotC {a b : Cell} : ∀ k, sideB (rotC k a) (rotC k b) = sideB a b
  | 0 => rfl
  | k + 1 => by
    show sideB ⟨-(rotC k a).y, (rotC k a).x⟩ ⟨-(rotC k b).y, (rotC k b).x⟩ = _
    rw [side_rot, side_rotC k]
theorem side_carry {k : Nat} {a b : Cell} : sideB (carryC k a) (carryC k b) = sideB a b := by
  unfold carryC
  rw [side_rotC]
  unfold flipC
  split
  · exact side_flip
  · rfl
theorem Hang.tr {s : List Cell} {a b c : Cell} (h : Hang s a b) (h2 : Hang s b c) : Hang s a c := by
  induction h2 with
  | base => exact h
  | step _ hm hs ih => exact .step ih hm hs
theorem Hang.back {s : List Cell} {a b : Cell} (h : Hang s a b) (ha : a ∈ s) : Hang s b a ∧ b ∈ s := by
  induction h with
  | base => exact ⟨.base, ha⟩
  | step _ hm hs ih => exact ⟨(Hang.step .base ih.2 (side_comm hs)).tr ih.1, hm⟩
theorem Hang.map {s s2 : List Cell} {f : Cell → Cell} (hf : ∀ a b, sideB (f a) (f b) = sideB a b) (hm : ∀ c ∈ s, f c ∈ s2) {a b : Cell} (h : Hang s a b) : Hang s2 (f a) (f b) := by
  induction h with
  | base => exact .base
  | step _ hc hs ih => exact .step ih (hm _ hc) (by rw [hf]; exact hs)
theorem cdec_iff {p : Prop} : cdec p = true ↔ p := by
  constructor
  · intro h
    by_cases hp : p
    · exact hp
    · rw [cdec_f hp] at h; cases h
  · exact cdec_t
theorem hangs_all {s : List Cell} (h : hangs s = true) : ∀ a ∈ s, ∀ b ∈ s, Hang s a b := by
  unfold hangs at h
  cases h0 : s[0]? with
  | none => rw [h0] at h; cases h
  | some c =>
    rw [h0] at h
    have h1 := cdec_iff.1 h
    have hc := List.mem_of_getElem? h0
    intro a ha b hb
    exact ((h1 a ha).back hc).1.tr (h1 b hb)
theorem hangs_of {s : List Cell} (h0 : s ≠ []) (h : ∀ a ∈ s, ∀ b ∈ s, Hang s a b) : hangs s = true := by
  unfold hangs
  cases s with
  | nil => exact absurd rfl h0
  | cons c s =>
    show cdec _ = true
    exact cdec_t (fun b hb => h c (List.mem_cons_self ..) b hb)
theorem hangs_map {s s2 : List Cell} {f : Cell → Cell} (hf : ∀ a b, sideB (f a) (f b) = sideB a b) (hm : ∀ d, d ∈ s2 ↔ ∃ c ∈ s, f c = d) (h : hangs s = true) : hangs s2 = true := by
  have h1 := hangs_all h
  have hs0 : s ≠ [] := by rintro rfl; rw [hangs_nil] at h; cases h
  refine hangs_of ?_ fun a ha b hb => ?_
  · rintro rfl
    obtain ⟨c, hc⟩ := List.exists_mem_of_ne_nil s hs0
    have := (hm (f c)).2 ⟨c, hc, rfl⟩
    cases this
  · obtain ⟨a', ha', rfl⟩ := (hm a).1 ha
    obtain ⟨b', hb', rfl⟩ := (hm b).1 hb
    exact (h1 a' ha' b' hb').map hf fun c hc => (hm (f c)).2 ⟨c, hc, rfl⟩
/-- turned and moved -/
def trC (k : Nat) (s : List Cell) (x y : Int) (c : Cell) : Cell := ⟨(carryC k c).x - (minX (sortC (s.map (carryC k))) - x), (carryC k c).y - (minY (sortC (s.map (carryC k))) - y)⟩
theorem mem_trC {k : Nat} {s : List Cell} {x y : Int} {d : Cell} : d ∈ moveS (turnS k s) x y ↔ ∃ c ∈ s, trC k s x y c = d := by
  unfold moveS turnS corner
  rw [List.mem_map]
  constructor
  · rintro ⟨e, he, rfl⟩
    obtain ⟨e2, he2, rfl⟩ := List.mem_map.1 (show e ∈ List.map _ _ from he)
    rw [mem_sortC] at he2
    obtain ⟨c, hc, rfl⟩ := List.mem_map.1 he2
    refine ⟨c, hc, ?_⟩
    unfold trC
    simp only [Cell.mk.injEq]
    omega
  · rintro ⟨c, hc, rfl⟩
    refine ⟨⟨(carryC k c).x - minX (sortC (s.map (carryC k))), (carryC k c).y - minY (sortC (s.map (carryC k)))⟩, List.mem_map.2 ⟨carryC k c, mem_sortC.2 (List.mem_map.2 ⟨c, hc, rfl⟩), rfl⟩, ?_⟩
    unfold trC
    simp only [Cell.mk.injEq]
    omega
theorem hangs_turn {k : Nat} {s : List Cell} {x y : Int} (h : hangs s = true) : hangs (moveS (turnS k s) x y) = true :=
  hangs_map (f := trC k s x y) (fun a b => by unfold trC; rw [side_move, side_carry]) (fun d => mem_trC) h
theorem carry_inj {k : Nat} {a b : Cell} (h : carryC k a = carryC k b) : a = b := by
  obtain ⟨ax, ay⟩ := a
  obtain ⟨bx, by_⟩ := b
  have hk : k % 4 = 0 ∨ k % 4 = 1 ∨ k % 4 = 2 ∨ k % 4 = 3 := by omega
  unfold carryC flipC at h
  by_cases h4 : 4 ≤ k
  · simp only [if_pos h4] at h
    rcases hk with e | e | e | e <;> (rw [e] at h; simp [rotC] at h; simp; omega)
  · simp only [if_neg h4] at h
    rcases hk with e | e | e | e <;> (rw [e] at h; simp [rotC] at h; simp; omega)
theorem nodup_same_len {a b : List Cell} (ha : a.Nodup) (hb : b.Nodup) (h : ∀ c, c ∈ a ↔ c ∈ b) : a.length = b.length :=
  Nat.le_antisymm (nodup_len ha fun c hc => (h c).1 hc) (nodup_len hb fun c hc => (h c).2 hc)
theorem nodup_map {s : List Cell} {f : Cell → Cell} (hf : ∀ a b, f a = f b → a = b) (h : s.Nodup) : (s.map f).Nodup := by
  unfold List.Nodup at *
  rw [List.pairwise_map]
  exact h.imp fun {a b} hab e => hab (hf a b e)
theorem turn_len {k : Nat} {s : List Cell} (h : s.Nodup) : (turnS k s).length = s.length := by
  unfold turnS corner
  rw [shift_length]
  have h2 : (s.map (carryC k)).Nodup := nodup_map (fun a b e => carry_inj e) h
  rw [nodup_same_len (srt_nodup srt_sortC) h2 (fun c => mem_sortC), List.length_map]
end Go.Proofs.Ytghpkfihdcjlaaa
