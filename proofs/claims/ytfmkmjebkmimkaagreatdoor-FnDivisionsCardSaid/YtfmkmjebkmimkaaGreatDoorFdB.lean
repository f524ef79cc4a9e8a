
/-
  A shape that is turned and moved has the same orientations: plain. Is a list of masks a tiling? Plain: what both sides compute; the tilings of the search are tilings. A tiling by one shape that hangs is a division: plain. What DivideInto finds is a division into so many parts: plain. The number of divisions and the divisors: plain.
-/
import Derived.Test.YtfmkmjebkmimkaaGreatDoorOriX
import Derived.Test.YtfmkmjebkmimkaaGreatDoorTilP
import Derived.Test.YtfmkmjebkmimkaaGreatDoorRepH
import Derived.Test.YtfmkmjebkmimkaaGreatDoorFreX
import Derived.Test.YtfmkmjebkmimkaaGreatDoorMskX
import Derived.Test.YtfmkmjebkmimkaaGreatDoorPkPU
import Derived.Test.YtfmkmjebkmimkaaGreatDoorDpX
import Derived.Test.YtfmkmjebkmimkaaGreatDoorFdA
namespace Go.Proofs.YtfmkmjebkmimkaaGreatDoor
open Go.RowKit

def nrm (s : List Cell) : List Cell := corner (sortC s)
theorem turnS_nrm {k : Nat} {s : List Cell} : turnS k s = nrm (s.map (carryC k)) := rfl
theorem nrm_ext {a b : List Cell} (h : ∀ c, c ∈ a ↔ c ∈ b) : nrm a = nrm b := by
  have e : sortC a = sortC b := srt_ext srt_sortC srt_sortC (fun c => by rw [mem_sortC, mem_sortC]; exact h c)
  unfold nrm
  rw [e]
theorem moveS_shift {s : List Cell} {x y : Int} : moveS s x y = shift s (-x) (-y) := by
  unfold moveS shift
  refine List.map_congr_left fun c _ => ?_
  simp only [Cell.mk.injEq]
  omega
theorem sortC_shift {s : List Cell} {x y : Int} : sortC (shift s x y) = shift (sortC s) x y := by
  rw [← sortC_move, moveS_shift, Int.neg_neg, Int.neg_neg]
theorem min_shift {f : Cell → Int} {l : List Cell} {x y d : Int} (hf : ∀ c : Cell, f ⟨c.x - x, c.y - y⟩ = f c - d) (h : 1 ≤ l.length) : mnTo f (shift l x y) (shift l x y).length = mnTo f l l.length - d := by
  obtain ⟨c, hc, e1⟩ := mnTo_mem (f := f) (l := shift l x y) _ (by rw [shift_length]; omega) (Nat.le_refl _)
  obtain ⟨c2, hc2, e2⟩ := mnTo_mem (f := f) (l := l) l.length h (Nat.le_refl _)
  obtain ⟨c1, hc1, rfl⟩ := List.mem_map.1 (show c ∈ l.map _ from hc)
  obtain ⟨i, hi⟩ := List.getElem?_of_mem hc1
  have h1 := mnTo_le (f := f) (l := l) l.length (Nat.le_refl _) i c1 (List.getElem?_eq_some_iff.1 hi).1 hi
  have hm : (⟨c2.x - x, c2.y - y⟩ : Cell) ∈ shift l x y := List.mem_map.2 ⟨c2, hc2, rfl⟩
  obtain ⟨j, hj⟩ := List.getElem?_of_mem hm
  have h2 := mnTo_le (f := f) (l := shift l x y) _ (Nat.le_refl _) j _ (List.getElem?_eq_some_iff.1 hj).1 hj
  rw [hf] at e1 h2
  omega
theorem corner_shift {l : List Cell} {x y : Int} : corner (shift l x y) = corner l := by
  by_cases h : 1 ≤ l.length
  · unfold corner minX minY
    rw [min_shift (f := (·.x)) (d := x) (fun c => rfl) h, min_shift (f := (·.y)) (d := y) (fun c => rfl) h]
    unfold shift
    rw [List.map_map]
    refine List.map_congr_left fun c _ => ?_
    simp only [Function.comp, Cell.mk.injEq]
    omega
  · have : l = [] := List.eq_nil_of_length_eq_zero (by omega)
    subst this
    rfl
theorem nrm_shift {s : List Cell} {x y : Int} : nrm (shift s x y) = nrm s := by
  unfold nrm; rw [sortC_shift, corner_shift]
theorem carry_lin {k : Nat} {c : Cell} {x y : Int} : carryC k ⟨c.x - x, c.y - y⟩ = ⟨(carryC k c).x - (carryC k ⟨x, y⟩).x, (carryC k c).y - (carryC k ⟨x, y⟩).y⟩ := by
  obtain ⟨cx, cy⟩ := c
  have hk : k % 4 = 0 ∨ k % 4 = 1 ∨ k % 4 = 2 ∨ k % 4 = 3 := by omega
  unfold carryC flipC
  by_cases h4 : 4 ≤ k
  · simp only [if_pos h4]
    rcases hk with e | e | e | e <;> (rw [e]; simp [rotC]; try omega)
  · simp only [if_neg h4]
    rcases hk with e | e | e | e <;> (rw [e]; simp [rotC]; try omega)
theorem map_carry_shift {k : Nat} {l : List Cell} {x y : Int} : (shift l x y).map (carryC k) = shift (l.map (carryC k)) (carryC k ⟨x, y⟩).x (carryC k ⟨x, y⟩).y := by
  unfold shift
  rw [List.map_map, List.map_map]
  refine List.map_congr_left fun c _ => ?_
  exact carry_lin
theorem nrm_map {k : Nat} {s : List Cell} : nrm ((nrm s).map (carryC k)) = nrm (s.map (carryC k)) := by
  have e : nrm s = shift (sortC s) (minX (sortC s)) (minY (sortC s)) := rfl
  rw [e, map_carry_shift, nrm_shift]
  refine nrm_ext fun c => ?_
  rw [List.mem_map, List.mem_map]
  constructor
  · rintro ⟨d, hd, e⟩; exact ⟨d, mem_sortC.1 hd, e⟩
  · rintro ⟨d, hd, e⟩; exact ⟨d, mem_sortC.2 hd, e⟩
/-- one motion behind another -/
def mulK (k i : Nat) : Nat := (if 4 ≤ k then k % 4 + (4 - i % 4) else k % 4 + i % 4) % 4 + if (4 ≤ k ∧ 4 ≤ i) ∨ (k < 4 ∧ i < 4) then 0 else 4
theorem mulK_lt {k i : Nat} : mulK k i < 8 := by
  unfold mulK
  split <;> split <;> omega
theorem carry_mul {k i : Nat} {c : Cell} (hk : k < 8) (hi : i < 8) : carryC k (carryC i c) = carryC (mulK k i) c := by
  obtain ⟨x, y⟩ := c
  have hk8 : k = 0 ∨ k = 1 ∨ k = 2 ∨ k = 3 ∨ k = 4 ∨ k = 5 ∨ k = 6 ∨ k = 7 := by omega
  have hi8 : i = 0 ∨ i = 1 ∨ i = 2 ∨ i = 3 ∨ i = 4 ∨ i = 5 ∨ i = 6 ∨ i = 7 := by omega
  rcases hk8 with rfl | rfl | rfl | rfl | rfl | rfl | rfl | rfl <;> rcases hi8 with rfl | rfl | rfl | rfl | rfl | rfl | rfl | rfl <;> simp [carryC, rotC, flipC, mulK]
theorem mulK_inv : ∀ j, j < 8 → ∀ i, i < 8 → ∃ k, k < 8 ∧ mulK k i = j := by decide
theorem turn_turn {k i : Nat} {s : List Cell} {x y : Int} (hk : k < 8) (hi : i < 8) : turnS k (moveS (turnS i s) x y) = turnS (mulK k i) s := by
  rw [turnS_nrm, moveS_shift, map_carry_shift, nrm_shift, turnS_nrm, nrm_map, turnS_nrm, List.map_map]
  congr 1
  refine List.map_congr_left fun c _ => ?_
  exact carry_mul hk hi
theorem orientsTo_mem {s r : List Cell} : ∀ {k : Nat}, r ∈ orientsTo s k ↔ ∃ m, m < k ∧ r = turnS m s
  | 0 => by simp [orientsTo]
  | k + 1 => by
    rw [orientsTo, mem_insS, orientsTo_mem (k := k)]
    constructor
    · rintro (rfl | ⟨m, hm, e⟩)
      · exact ⟨k, by omega, rfl⟩
      · exact ⟨m, by omega, e⟩
    · rintro ⟨m, hm, rfl⟩
      by_cases e : m = k
      · subst e; exact .inl rfl
      · exact .inr ⟨m, by omega, rfl⟩
/-- a shape that is turned and moved has the same orientations -/
theorem orients_moved {i : Nat} {s : List Cell} {x y : Int} (hi : i < 8) : orients (moveS (turnS i s) x y) = orients s := by
  refine srtS_ext (orients_srt 8) (orients_srt 8) fun r => ?_
  unfold orients
  rw [orientsTo_mem, orientsTo_mem]
  constructor
  · rintro ⟨k, hk, rfl⟩
    exact ⟨mulK k i, mulK_lt, turn_turn hk hi⟩
  · rintro ⟨j, hj, rfl⟩
    obtain ⟨k, hk, rfl⟩ := mulK_inv j hj i hi
    exact ⟨k, hk, (turn_turn hk hi).symm⟩
theorem congr_moved {i j : Nat} {s : List Cell} {x y x2 y2 : Int} (hi : i < 8) (hj : j < 8) (h1 : isShape (moveS (turnS i s) x y) = true) (h2 : isShape (moveS (turnS j s) x2 y2) = true) : congr (moveS (turnS i s) x y) (moveS (turnS j s) x2 y2) = true := by
  unfold congr canonS
  rw [h1, h2, orients_moved hi, orients_moved hj, same_t rfl]
  rfl
end Go.Proofs.YtfmkmjebkmimkaaGreatDoor

namespace Go.Proofs.YtfmkmjebkmimkaaGreatDoor
open Go.RowKit

/-- are the rest masks of placements, apart from what is used, in the order of their least bits, and have they all cells with it? -/
def isCov (A : List Int) (M : Nat) : Option Nat → Nat → List Int → Bool
  | _, u, [] => u == M
  | p, u, n :: t => hasI A n && ((u &&& n.toNat == 0) && ((match p with
    | none => true
    | some q => decide (q < lowB n.toNat)) && isCov A M (some (lowB n.toNat)) (u ||| n.toNat) t))
theorem disj_of {u m f : Nat} (h : u &&& f = 0) (hm : m &&& f = m) : u &&& m = 0 := by
  rw [← hm, ← Nat.and_assoc, Nat.and_comm u m, Nat.and_assoc, h, Nat.and_zero]
theorem fit_low {f m : Nat} (hf : f < 2 ^ 36) (h0 : f ≠ 0) (h : fitB f m = true) : lowB m = lowB f ∧ (f - m ≠ 0 → lowB f < lowB (f - m)) := by
  have hle := fit_le h
  have hand := fit_and h
  have hbit : m.testBit (lowB f) = true := by unfold fitB at h; simp only [Bool.and_eq_true] at h; exact h.1
  obtain ⟨b1, b2⟩ := lowB_bits h0 hf
  refine ⟨lowB_is (fitB_pos h) (by omega) hbit fun j hj => ?_, fun hne => ?_⟩
  · have : (m &&& f).testBit j = m.testBit j := by rw [hand]
    rw [Nat.testBit_and, b2 j hj, Bool.and_false] at this
    exact this.symm
  · obtain ⟨c1, c2⟩ := lowB_bits hne (by omega)
    rw [sub_test hand (by omega)] at c1
    rw [Bool.and_eq_true] at c1
    rcases Nat.lt_trichotomy (lowB f) (lowB (f - m)) with q | q | q
    · exact q
    · rw [← q, hbit] at c1; simp at c1
    · rw [b2 _ q] at c1; simp at c1
theorem or_rest {u f m : Nat} (hf : f < 2 ^ 64) (h : m &&& f = m) : (u ||| m) ||| (f - m) = u ||| f := by
  apply Nat.eq_of_testBit_eq
  intro i
  rw [Nat.testBit_or, Nat.testBit_or, Nat.testBit_or, sub_test h hf]
  have : (m &&& f).testBit i = m.testBit i := by rw [h]
  rw [Nat.testBit_and] at this
  revert this
  cases u.testBit i <;> cases f.testBit i <;> cases m.testBit i <;> simp
theorem disj_rest {u f m : Nat} (hf : f < 2 ^ 64) (h : m &&& f = m) (hu : u &&& f = 0) : (u ||| m) &&& (f - m) = 0 := by
  apply Nat.eq_of_testBit_eq
  intro i
  rw [Nat.testBit_and, Nat.testBit_or, sub_test h hf, Nat.zero_testBit]
  have h1 : (u &&& f).testBit i = false := by rw [hu, Nat.zero_testBit]
  rw [Nat.testBit_and] at h1
  revert h1
  cases u.testBit i <;> cases f.testBit i <;> cases m.testBit i <;> simp
/-- a tiling of the search is a tiling -/
theorem til_isCov {A : List Nat} {M : Nat} : ∀ (f : Nat), f < 2 ^ 36 → ∀ (u : Nat) (p : Option Nat) (t : List Nat), t ∈ til A f → u &&& f = 0 → u ||| f = M → (∀ q, p = some q → f ≠ 0 → q < lowB f) → isCov (nl A) M p u (nl t) = true := by
  intro f
  induction f using Nat.strongRecOn with
  | _ f ih =>
    intro hf u p t ht hu hM hp
    by_cases h0 : f = 0
    · subst h0
      rw [til_zero] at ht
      simp at ht
      subst ht
      rw [Nat.or_zero] at hM
      show (u == M) = true
      simpa using hM
    · rw [til_pos h0] at ht
      obtain ⟨m, hmA, ht⟩ := List.mem_flatMap.1 ht
      unfold tilAt at ht
      cases hfit : fitB f m
      · rw [hfit] at ht; simp at ht
      · rw [hfit, if_pos rfl] at ht
        obtain ⟨t', ht', rfl⟩ := List.mem_map.1 ht
        have hl := fit_low hf h0 hfit
        have hand := fit_and hfit
        show isCov (nl A) M p u ((m : Int) :: nl t') = true
        unfold isCov
        rw [Int.toNat_natCast, disj_of hu hand]
        have h1 : hasI (nl A) (m : Int) = true := decide_eq_true (List.mem_map.2 ⟨m, hmA, rfl⟩)
        rw [h1, ih (f - m) (fit_lt hfit) (by omega) _ _ t' ht' (disj_rest (by omega) hand hu) (by rw [or_rest (by omega) hand]; exact hM) (fun q hq hne => by injection hq with hq; rw [← hq, hl.1]; exact hl.2 hne)]
        cases p with
        | none => rfl
        | some q =>
          have := hp q rfl h0
          simp [hl.1, this]
theorem til_cover {A : List Nat} {M : Nat} (hM : M < 2 ^ 36) {t : List Nat} (h : t ∈ til A M) : isCov (nl A) M none 0 (nl t) = true :=
  til_isCov M hM 0 none t h (Nat.zero_and _) (Nat.zero_or _) (fun _ h => by cases h)
/-! the loop of both sides -/
theorem isCov_end {A : List Int} {M u : Nat} {p : Option Nat} {t : List Int} {i : Nat} (h : i = t.length) : isCov A M p u (t.drop i) = (u == M) := by
  rw [h, List.drop_length]; cases p <;> rfl
theorem dropI {t : List Int} {i : Nat} {n : Int} (h : t[i]? = some n) : t.drop i = n :: t.drop (i + 1) := by
  obtain ⟨h1, h2⟩ := List.getElem?_eq_some_iff.1 h
  rw [List.drop_eq_getElem_cons h1, h2]
theorem isCov_none {A : List Int} {M u : Nat} {n : Int} {t : List Int} : isCov A M none u (n :: t) = (hasI A n && ((u &&& n.toNat == 0) && isCov A M (some (lowB n.toNat)) (u ||| n.toNat) t)) := by
  conv => lhs; unfold isCov
  simp
theorem isCov_some {A : List Int} {M u q : Nat} {n : Int} {t : List Int} : isCov A M (some q) u (n :: t) = (hasI A n && ((u &&& n.toNat == 0) && (decide (q < lowB n.toNat) && isCov A M (some (lowB n.toNat)) (u ||| n.toNat) t))) := by
  conv => lhs; unfold isCov
theorem isCov_no {A : List Int} {M u : Nat} {p : Option Nat} {t : List Int} {i : Nat} {n : Int} (h : t[i]? = some n) (hb : hasI A n = false ∨ u &&& n.toNat ≠ 0 ∨ ∃ q, p = some q ∧ lowB n.toNat ≤ q) : isCov A M p u (t.drop i) = false := by
  rw [dropI h]
  rcases hb with hb | hb | ⟨q, rfl, hb⟩
  · cases p with
    | none => rw [isCov_none, hb]; rfl
    | some q => rw [isCov_some, hb]; rfl
  · have e : (u &&& n.toNat == 0) = false := by simpa using hb
    cases p with
    | none => rw [isCov_none, e]; simp
    | some q => rw [isCov_some, e]; simp
  · rw [isCov_some, show decide (q < lowB n.toNat) = false by simp; omega]; simp
theorem isCov_yes {A : List Int} {M u : Nat} {p : Option Nat} {t : List Int} {i : Nat} {n : Int} (h : t[i]? = some n) (h1 : hasI A n = true) (h2 : u &&& n.toNat = 0) (h3 : ∀ q, p = some q → q < lowB n.toNat) : isCov A M p u (t.drop i) = isCov A M (some (lowB n.toNat)) (u ||| n.toNat) (t.drop (i + 1)) := by
  have e : (u &&& n.toNat == 0) = true := by simpa using h2
  rw [dropI h]
  cases p with
  | none => rw [isCov_none, h1, e]; simp
  | some q => rw [isCov_some, h1, e, decide_eq_true (h3 q rfl)]; simp
end Go.Proofs.YtfmkmjebkmimkaaGreatDoor

namespace Go.Proofs.YtfmkmjebkmimkaaGreatDoor
open Go.RowKit

/-! hanging together, carried -/
theorem side_comm {a b : Cell} (h : sideB a b = true) : sideB b a = true := by
  unfold sideB at *
  simp only [decide_eq_true_eq] at *
  have e1 : (b.x - a.x) * (b.x - a.x) = (a.x - b.x) * (a.x - b.x) := by rw [show b.x - a.x = -(a.x - b.x) by omega, Int.neg_mul_neg]
  have e2 : (b.y - a.y) * (b.y - a.y) = (a.y - b.y) * (a.y - b.y) := by rw [show b.y - a.y = -(a.y - b.y) by omega, Int.neg_mul_neg]
  rw [e1, e2]; exact h
theorem side_move {a b : Cell} {x y : Int} : sideB ⟨a.x - x, a.y - y⟩ ⟨b.x - x, b.y - y⟩ = sideB a b := by
  unfold sideB
  simp only
  rw [show a.x - x - (b.x - x) = a.x - b.x by omega, show a.y - y - (b.y - y) = a.y - b.y by omega]
theorem side_flip {a b : Cell} : sideB ⟨-a.x, a.y⟩ ⟨-b.x, b.y⟩ = sideB a b := by
  unfold sideB
  simp only
  rw [show -a.x - -b.x = -(a.x - b.x) by omega, Int.neg_mul_neg]
theorem side_rot {a b : Cell} : sideB ⟨-a.y, a.x⟩ ⟨-b.y, b.x⟩ = sideB a b := by
  unfold sideB
  simp only
  rw [show -a.y - -b.y = -(a.y - b.y) by omega, Int.neg_mul_neg, Int.add_comm]
theorem side_rotC {a b : Cell} : ∀ k, sideB (rotC k a) (rotC k b) = sideB a b
  | 0 => rfl
  | k + 1 => by
    show sideB ⟨-(rotC k a).y, (rotC k a).x⟩ ⟨-(rotC k b).y, (rotC k b).x⟩ = _
    rw [side_rot, side_rotC k]
theorem side_carry {k : Nat} {a b : Cell} : sideB (carryC k a) (carryC k b) = sideB a b := by
  unfold carryC
  rw [side_rotC]
  unfold flipC
  split
  · exact side_flip
  · rfl
theorem Hang.tr {s : List Cell} {a b c : Cell} (h : Hang s a b) (h2 : Hang s b c) : Hang s a c := by
  induction h2 with
  | base => exact h
  | step _ hm hs ih => exact .step ih hm hs
theorem Hang.back {s : List Cell} {a b : Cell} (h : Hang s a b) (ha : a ∈ s) : Hang s b a ∧ b ∈ s := by
  induction h with
  | base => exact ⟨.base, ha⟩
  | step _ hm hs ih => exact ⟨(Hang.step .base ih.2 (side_comm hs)).tr ih.1, hm⟩
theorem Hang.map {s s2 : List Cell} {f : Cell → Cell} (hf : ∀ a b, sideB (f a) (f b) = sideB a b) (hm : ∀ c ∈ s, f c ∈ s2) {a b : Cell} (h : Hang s a b) : Hang s2 (f a) (f b) := by
  induction h with
  | base => exact .base
  | step _ hc hs ih => exact .step ih (hm _ hc) (by rw [hf]; exact hs)
theorem cdec_iff {p : Prop} : cdec p = true ↔ p := by
  constructor
  · intro h
    by_cases hp : p
    · exact hp
    · rw [cdec_f hp] at h; cases h
  · exact cdec_t
theorem hangs_all {s : List Cell} (h : hangs s = true) : ∀ a ∈ s, ∀ b ∈ s, Hang s a b := by
  unfold hangs at h
  cases h0 : s[0]? with
  | none => rw [h0] at h; cases h
  | some c =>
    rw [h0] at h
    have h1 := cdec_iff.1 h
    have hc := List.mem_of_getElem? h0
    intro a ha b hb
    exact ((h1 a ha).back hc).1.tr (h1 b hb)
theorem hangs_of {s : List Cell} (h0 : s ≠ []) (h : ∀ a ∈ s, ∀ b ∈ s, Hang s a b) : hangs s = true := by
  unfold hangs
  cases s with
  | nil => exact absurd rfl h0
  | cons c s =>
    show cdec _ = true
    exact cdec_t (fun b hb => h c (List.mem_cons_self ..) b hb)
theorem hangs_map {s s2 : List Cell} {f : Cell → Cell} (hf : ∀ a b, sideB (f a) (f b) = sideB a b) (hm : ∀ d, d ∈ s2 ↔ ∃ c ∈ s, f c = d) (h : hangs s = true) : hangs s2 = true := by
  have h1 := hangs_all h
  have hs0 : s ≠ [] := by rintro rfl; rw [hangs_nil] at h; cases h
  refine hangs_of ?_ fun a ha b hb => ?_
  · rintro rfl
    obtain ⟨c, hc⟩ := List.exists_mem_of_ne_nil s hs0
    have := (hm (f c)).2 ⟨c, hc, rfl⟩
    cases this
  · obtain ⟨a', ha', rfl⟩ := (hm a).1 ha
    obtain ⟨b', hb', rfl⟩ := (hm b).1 hb
    exact (h1 a' ha' b' hb').map hf fun c hc => (hm (f c)).2 ⟨c, hc, rfl⟩
/-- turned and moved -/
def trC (k : Nat) (s : List Cell) (x y : Int) (c : Cell) : Cell := ⟨(carryC k c).x - (minX (sortC (s.map (carryC k))) - x), (carryC k c).y - (minY (sortC (s.map (carryC k))) - y)⟩
theorem mem_trC {k : Nat} {s : List Cell} {x y : Int} {d : Cell} : d ∈ moveS (turnS k s) x y ↔ ∃ c ∈ s, trC k s x y c = d := by
  unfold moveS turnS corner
  rw [List.mem_map]
  constructor
  · rintro ⟨e, he, rfl⟩
    obtain ⟨e2, he2, rfl⟩ := List.mem_map.1 (show e ∈ List.map _ _ from he)
    rw [mem_sortC] at he2
    obtain ⟨c, hc, rfl⟩ := List.mem_map.1 he2
    refine ⟨c, hc, ?_⟩
    unfold trC
    simp only [Cell.mk.injEq]
    omega
  · rintro ⟨c, hc, rfl⟩
    refine ⟨⟨(carryC k c).x - minX (sortC (s.map (carryC k))), (carryC k c).y - minY (sortC (s.map (carryC k)))⟩, List.mem_map.2 ⟨carryC k c, mem_sortC.2 (List.mem_map.2 ⟨c, hc, rfl⟩), rfl⟩, ?_⟩
    unfold trC
    simp only [Cell.mk.injEq]
    omega
theorem hangs_turn {k : Nat} {s : List Cell} {x y : Int} (h : hangs s = true) : hangs (moveS (turnS k s) x y) = true :=
  hangs_map (f := trC k s x y) (fun a b => by unfold trC; rw [side_move, side_carry]) (fun d => mem_trC) h
theorem carry_inj {k : Nat} {a b : Cell} (h : carryC k a = carryC k b) : a = b := by
  obtain ⟨ax, ay⟩ := a
  obtain ⟨bx, by_⟩ := b
  have hk : k % 4 = 0 ∨ k % 4 = 1 ∨ k % 4 = 2 ∨ k % 4 = 3 := by omega
  unfold carryC flipC at h
  by_cases h4 : 4 ≤ k
  · simp only [if_pos h4] at h
    rcases hk with e | e | e | e <;> (rw [e] at h; simp [rotC] at h; simp; omega)
  · simp only [if_neg h4] at h
    rcases hk with e | e | e | e <;> (rw [e] at h; simp [rotC] at h; simp; omega)
theorem nodup_same_len {a b : List Cell} (ha : a.Nodup) (hb : b.Nodup) (h : ∀ c, c ∈ a ↔ c ∈ b) : a.length = b.length :=
  Nat.le_antisymm (nodup_len ha fun c hc => (h c).1 hc) (nodup_len hb fun c hc => (h c).2 hc)
theorem nodup_map {s : List Cell} {f : Cell → Cell} (hf : ∀ a b, f a = f b → a = b) (h : s.Nodup) : (s.map f).Nodup := by
  unfold List.Nodup at *
  rw [List.pairwise_map]
  exact h.imp fun {a b} hab e => hab (hf a b e)
theorem turn_len {k : Nat} {s : List Cell} (h : s.Nodup) : (turnS k s).length = s.length := by
  unfold turnS corner
  rw [shift_length]
  have h2 : (s.map (carryC k)).Nodup := nodup_map (fun a b e => carry_inj e) h
  rw [nodup_same_len (srt_nodup srt_sortC) h2 (fun c => mem_sortC), List.length_map]
/-! the grown shapes hang together, and have so many cells -/
theorem side_of {c d : Cell} (h : d ∈ sidesS c) : sideB c d = true := by
  unfold sidesS at h
  simp only [List.mem_cons, List.not_mem_nil, or_false] at h
  unfold sideB
  rw [decide_eq_true_eq]
  rcases h with rfl | rfl | rfl | rfl <;> simp only
  · rw [show c.x - (c.x + 1) = -1 by omega, Int.sub_self]; rfl
  · rw [show c.y - (c.y + 1) = -1 by omega, Int.sub_self]; rfl
  · rw [show c.x - (c.x - 1) = 1 by omega, Int.sub_self]; rfl
  · rw [show c.y - (c.y - 1) = 1 by omega, Int.sub_self]; rfl
theorem hangs_add {s : List Cell} {c d : Cell} (h : hangs s = true) (hc : c ∈ s) (hd : sideB c d = true) : hangs (s ++ [d]) = true := by
  have h1 := hangs_all h
  have hin : ∀ a ∈ s, a ∈ s ++ [d] := fun a ha => List.mem_append_left _ ha
  have hdm : d ∈ s ++ [d] := List.mem_append_right _ (List.mem_singleton.2 rfl)
  have h2 : ∀ a ∈ s, ∀ b ∈ s, Hang (s ++ [d]) a b := fun a ha b hb => (h1 a ha b hb).map (f := id) (fun _ _ => rfl) hin
  have hcd : Hang (s ++ [d]) c d := .step .base hdm hd
  have hdc := (hcd.back (hin c hc)).1
  refine hangs_of (by simp) fun a ha b hb => ?_
  rcases List.mem_append.1 ha with ha2 | ha2 <;> rcases List.mem_append.1 hb with hb2 | hb2
  · exact h2 a ha2 b hb2
  · rw [List.mem_singleton.1 hb2]
    exact (h2 a ha2 c hc).tr hcd
  · rw [List.mem_singleton.1 ha2]
    exact hdc.tr (h2 c hc b hb2)
  · rw [List.mem_singleton.1 ha2, List.mem_singleton.1 hb2]
    exact .base
theorem hangs_ext {s : List Cell} {d : Cell} (h : hangs (s ++ [d]) = true) : hangs (extC s d) = true :=
  hangs_map (f := fun c => ⟨c.x - minX (sortC (s ++ [d])), c.y - minY (sortC (s ++ [d]))⟩) (fun a b => side_move) (fun e => by
    unfold extC corner
    constructor
    · intro he
      obtain ⟨c, hc, rfl⟩ := List.mem_map.1 (show e ∈ List.map _ _ from he)
      exact ⟨c, mem_sortC.1 hc, rfl⟩
    · rintro ⟨c, hc, rfl⟩
      exact List.mem_map.2 ⟨c, mem_sortC.2 hc, rfl⟩) h
theorem ext_len {s : List Cell} {d : Cell} (hs : s.Nodup) (hd : d ∉ s) : (extC s d).length = s.length + 1 := by
  unfold extC corner
  rw [shift_length]
  have h2 : (s ++ [d]).Nodup := by
    rw [List.nodup_append]
    exact ⟨hs, by simp, fun a ha b hb e => by rw [List.mem_singleton] at hb; subst hb; subst e; exact hd ha⟩
  rw [nodup_same_len (srt_nodup srt_sortC) h2 (fun c => mem_sortC), List.length_append]
  rfl
theorem fixedN_hangs : ∀ (k : Nat) (t : List Cell), t ∈ fixedN k → hangs t = true ∧ t.length = k + 1
  | 0, t, h => by
    rw [fixedN, List.mem_singleton] at h
    subst h
    exact ⟨hangs_of (by simp) fun a ha b hb => by rw [List.mem_singleton] at ha hb; subst ha; subst hb; exact .base, rfl⟩
  | k + 1, t, h => by
    rcases mem_putL.1 (show t ∈ putL [] _ from h) with h | h
    · cases h
    · obtain ⟨s, hs, ht⟩ := List.mem_flatMap.1 h
      have h1 := fixedN_hangs k s hs
      have h0 := fixedN_row k s hs
      rcases mem_putL.1 (show t ∈ putL [] _ from ht) with h2 | h2
      · cases h2
      · obtain ⟨d, hd, hok, rfl⟩ := mem_extL.1 h2
        obtain ⟨c, hc, hdc⟩ := List.mem_flatMap.1 hd
        unfold extOk at hok
        rw [Bool.and_eq_true] at hok
        have hdn : d ∉ s := by simpa using hok.1
        exact ⟨hangs_ext (hangs_add h1.1 hc (side_of hdc)), by rw [ext_len (shp_nodup h0.1) hdn, h1.2]⟩
theorem freeS_hangs {n : Nat} {t : List Cell} (h : t ∈ freeS (n : Int)) : hangs t = true ∧ t.length = n ∧ isShape t = true := by
  have hf := (List.mem_filter.1 h).1
  unfold fixedS at hf
  split at hf
  · rename_i hn
    have hn := inR_iff.1 hn
    have h1 := fixedN_hangs _ t hf
    have h2 := fixedN_row _ t hf
    exact ⟨h1.1, by rw [h1.2]; omega, h2.1⟩
  · cases hf
end Go.Proofs.YtfmkmjebkmimkaaGreatDoor

namespace Go.Proofs.YtfmkmjebkmimkaaGreatDoor
open Go.RowKit

/-! the cells of a placement's mask are the shape, turned and moved -/
theorem maskFrom_bits {r : Reg} (hv : r.Valid) : ∀ {c : List Cell} {n m : Nat}, maskFrom r n c = some m → (∀ d ∈ c, r.has d.x d.y = true) ∧ ∀ i, m.testBit i = true ↔ n.testBit i = true ∨ ∃ d ∈ c, bitOf r d = i
  | [], n, m, h => by
    injection h with h
    subst h
    exact ⟨fun d hd => (by cases hd), fun i => (by simp)⟩
  | e :: c, n, m, h => by
    unfold maskFrom at h
    split at h
    · rename_i he
      have ih := maskFrom_bits hv h
      refine ⟨fun d hd => ?_, fun i => ?_⟩
      · rcases List.mem_cons.1 hd with rfl | hd
        · exact he.1
        · exact ih.1 d hd
      · rw [ih.2 i, add_bit he.2, Nat.testBit_or, Nat.testBit_two_pow, Bool.or_eq_true, decide_eq_true_eq]
        constructor
        · rintro ((h1 | h1) | ⟨d, hd, h1⟩)
          · exact .inl h1
          · exact .inr ⟨e, List.mem_cons_self .., h1⟩
          · exact .inr ⟨d, List.mem_cons_of_mem _ hd, h1⟩
        · rintro (h1 | ⟨d, hd, h1⟩)
          · exact .inl (.inl h1)
          · rcases List.mem_cons.1 hd with rfl | hd
            · exact .inl (.inr h1)
            · exact .inr ⟨d, hd, h1⟩
    · cases h
theorem bitCell_of {r : Reg} {d : Cell} (h : r.has d.x d.y = true) : bitCell r.w.toNat (bitOf r d) = d := by
  obtain ⟨h1, h2, h3, h4⟩ := has_in h
  obtain ⟨x, y⟩ := d
  simp only at h1 h2 h3 h4
  unfold bitCell bitOf
  simp only [Cell.mk.injEq]
  have hx : x.toNat < r.w.toNat := by omega
  have e1 : (y.toNat * r.w.toNat + x.toNat) % r.w.toNat = x.toNat := by rw [Nat.add_comm, Nat.add_mul_mod_self_right, Nat.mod_eq_of_lt hx]
  have e2 : (y.toNat * r.w.toNat + x.toNat) / r.w.toNat = y.toNat := by rw [Nat.add_comm, Nat.add_mul_div_right _ _ (by omega), Nat.div_eq_of_lt hx, Nat.zero_add]
  rw [e1, e2]
  omega
theorem mask_cells {r : Reg} (hv : r.Valid) {c : List Cell} {m : Nat} (hs : Srt c) (h : maskS r c = some m) : cellsM r.w.toNat m = c := by
  have hb := maskFrom_bits hv h
  refine srt_ext (srt_cellsTo 36) hs fun d => ?_
  unfold cellsM
  rw [mem_cellsTo]
  constructor
  · rintro ⟨i, hi, ht, rfl⟩
    rcases (hb.2 i).1 ht with h0 | ⟨e, he, rfl⟩
    · rw [Nat.zero_testBit] at h0; cases h0
    · rw [bitCell_of (hb.1 e he)]; exact he
  · intro hd
    have := hb.1 d hd
    exact ⟨bitOf r d, bitOf_lt hv this, (hb.2 _).2 (.inr ⟨d, hd, rfl⟩), (bitCell_of this).symm⟩
/-- a placement of one shape -/
theorem allN_one {r : Reg} {s : List Cell} {m : Nat} (h : m ∈ allN r [s]) : ∃ k x y, k < 8 ∧ maskS r (moveS (turnS k s) x y) = some m := by
  obtain ⟨n, hn, rfl⟩ := List.mem_map.1 h
  unfold allP at hn
  rw [mem_srtU] at hn
  obtain ⟨s2, hs, hn2⟩ := List.mem_flatMap.1 hn
  rw [List.mem_singleton.1 hs] at hn2
  clear hn
  unfold plc at hn2
  rw [mem_srtU] at hn2
  unfold plcRaw rawT at hn2
  obtain ⟨t, ht, hn⟩ := List.mem_flatMap.1 hn2
  obtain ⟨y, _, hn⟩ := List.mem_flatMap.1 hn
  obtain ⟨x, _, hn⟩ := List.mem_flatMap.1 hn
  unfold optI at hn
  cases hm : maskS r (moveS t x y) with
  | none => rw [hm] at hn; simp at hn
  | some m =>
    rw [hm] at hn
    simp at hn
    subst hn
    obtain ⟨k, hk, rfl⟩ := orients_row 8 t ht
    exact ⟨k, x, y, hk, by simpa using hm⟩
theorem srt_turned {k : Nat} {s : List Cell} {x y : Int} : Srt (moveS (turnS k s) x y) := by
  rw [moveS_shift]
  exact srt_shift (srt_shift srt_sortC)
theorem has_on {r : Reg} (hv : r.Valid) {d : Cell} (h : r.has d.x d.y = true) : On d := by
  obtain ⟨h1, h2, h3, h4⟩ := has_in h
  obtain ⟨v1, v2, v3, v4, _⟩ := hv
  unfold On
  omega
/-- the cells of a placement -/
structure PlcOk (r : Reg) (s : List Cell) (m : Nat) (k : Nat) (x y : Int) : Prop where
  k8 : k < 8
  cells : r.cellsOf (m : Int) = moveS (turnS k s) x y
  shp : isShape (moveS (turnS k s) x y) = true
  conn : connS (r.cellsOf (m : Int)) = true
  len : (cellsM r.w.toNat m).length = s.length
theorem plc_ok {r : Reg} (hv : r.Valid) {s : List Cell} (hs : isShape s = true) (hh : hangs s = true) (hp : arePcs [s] = true) {m : Nat} (h : m ∈ allN r [s]) : ∃ k x y, PlcOk r s m k x y := by
  obtain ⟨k, x, y, hk, hm⟩ := allN_one h
  have hsub := allN_sub hv hp m h
  have hmask : r.isMask (m : Int) = true := by unfold Reg.isMask; simp [hsub.1]
  have hcm := mask_cells hv srt_turned hm
  have hc : r.cellsOf (m : Int) = moveS (turnS k s) x y := by
    unfold Reg.cellsOf
    rw [hmask, if_pos rfl, Int.toNat_natCast]
    exact hcm
  have hl : (moveS (turnS k s) x y).length = s.length := by rw [moveS_len, turn_len (shp_nodup hs)]
  have hsl := shp_len hs
  have hshp : isShape (moveS (turnS k s) x y) = true := by
    rw [isShape_srt srt_turned (fun d hd => has_on hv ((maskFrom_bits hv hm).1 d hd)), hl]
    exact inR_iff.2 ⟨by omega, by omega⟩
  exact ⟨k, x, y, hk, hc, hshp, by rw [hc]; unfold connS; rw [hshp, hangs_turn hh]; rfl, by rw [hcm, hl]⟩
/-! along a tiling -/
def pv (p : Option Nat) (t : List Int) : Nat → Option Nat
  | 0 => p
  | i + 1 => (t[i]?).map fun y => lowB y.toNat
theorem usedTo_cons {n : Int} {t : List Int} : ∀ k, usedTo (n :: t) (k + 1) = n.toNat ||| usedTo t k
  | 0 => by simp [usedTo]
  | k + 1 => by
    show usedTo (n :: t) (k + 1) ||| ((n :: t).getD (k + 1) 0).toNat = n.toNat ||| (usedTo t k ||| (t.getD k 0).toNat)
    rw [usedTo_cons k, Nat.or_assoc]
    rfl
theorem isCov_at {A : List Int} {M : Nat} : ∀ {t : List Int} {p : Option Nat} {u : Nat}, isCov A M p u t = true → (∀ (i : Nat) (n : Int), t[i]? = some n → hasI A n = true ∧ (u ||| usedTo t i) &&& n.toNat = 0 ∧ ∀ q, pv p t i = some q → q < lowB n.toNat) ∧ u ||| usedTo t t.length = M
  | [], p, u, h => by
    refine ⟨fun i n hi => by simp at hi, ?_⟩
    have : (u == M) = true := by cases p <;> exact h
    rw [show usedTo [] ([] : List Int).length = 0 from rfl, Nat.or_zero]
    simpa using this
  | n :: t, p, u, h => by
    have h4 : hasI A n = true ∧ u &&& n.toNat = 0 ∧ (∀ q, p = some q → q < lowB n.toNat) ∧ isCov A M (some (lowB n.toNat)) (u ||| n.toNat) t = true := by
      cases p with
      | none =>
        rw [isCov_none] at h
        simp only [Bool.and_eq_true, beq_iff_eq] at h
        exact ⟨h.1, h.2.1, fun q hq => (by cases hq), h.2.2⟩
      | some q0 =>
        rw [isCov_some] at h
        simp only [Bool.and_eq_true, beq_iff_eq, decide_eq_true_eq] at h
        exact ⟨h.1, h.2.1, fun q hq => (by injection hq with hq; subst hq; exact h.2.2.1), h.2.2.2⟩
    obtain ⟨h1, h2, h3, h5⟩ := h4
    have ih := isCov_at h5
    refine ⟨fun i m hi => ?_, ?_⟩
    · cases i with
      | zero =>
        have hm : n = m := by simpa using hi
        subst hm
        exact ⟨h1, by rw [show usedTo (n :: t) 0 = 0 from rfl, Nat.or_zero]; exact h2, h3⟩
      | succ j =>
        have hj : t[j]? = some m := by simpa using hi
        have := ih.1 j m hj
        refine ⟨this.1, by rw [usedTo_cons, ← Nat.or_assoc]; exact this.2.1, ?_⟩
        cases j with
        | zero => exact this.2.2
        | succ j' => exact this.2.2
    · rw [List.length_cons, usedTo_cons, ← Nat.or_assoc]
      exact ih.2
/-- a tiling by one shape that hangs is a division -/
theorem til_div {r : Reg} (hv : r.Valid) {s : List Cell} (hs : isShape s = true) (hh : hangs s = true) (hp : arePcs [s] = true) {t : List Nat} (ht : t ∈ til (allN r [s]) r.mask) (h0 : t ≠ []) : isDiv r (nl t) = true := by
  have hM := Reg.mask_lt hv
  have hcov := isCov_at (til_cover hM ht)
  have hel : ∀ (i : Nat) (n : Int), (nl t)[i]? = some n → ∃ (m k : Nat) (x y : Int), n = ((m : Nat) : Int) ∧ m ∈ allN r [s] ∧ PlcOk r s m k x y := by
    intro i n hi
    obtain ⟨m, rfl, hm⟩ : ∃ m : Nat, n = (m : Int) ∧ m ∈ allN r [s] := by
      have := of_decide_eq_true (hcov.1 i n hi).1
      obtain ⟨m, h1, h2⟩ := List.mem_map.1 this
      exact ⟨m, h2.symm, h1⟩
    obtain ⟨k, x, y, hk⟩ := plc_ok hv hs hh hp hm
    exact ⟨m, k, x, y, rfl, hm, hk⟩
  have hlen : 0 < (nl t).length := by
    have : 0 < t.length := List.length_pos_iff.2 h0
    simpa [nl] using this
  obtain ⟨n0, hn0⟩ : ∃ n0, (nl t)[0]? = some n0 := ⟨(nl t)[0], List.getElem?_eq_getElem hlen⟩
  obtain ⟨m0, k0, x0, y0, rfl, hm0, hp0⟩ := hel 0 n0 hn0
  rw [isDiv_end (Reg.valid_iff.2 hv) hlen fun i hi => ?_]
  · have := hcov.2
    rw [Nat.zero_or] at this
    rw [this]
    exact beq_self_eq_true _
  · obtain ⟨n, hn⟩ : ∃ n, (nl t)[i]? = some n := ⟨(nl t)[i], List.getElem?_eq_getElem hi⟩
    obtain ⟨m, k, x, y, rfl, hm, hpk⟩ := hel i n hn
    have hc := hcov.1 i _ hn
    rw [okDiv_at hn, List.getD_eq_getElem?_getD, hn0]
    have e1 : r.isMask (m : Int) = true := connS_mask hpk.conn
    have e2 : (usedTo (nl t) i &&& (m : Int).toNat == 0) = true := by
      have := hc.2.1
      rw [Nat.zero_or] at this
      simpa using this
    have e3 : congr (r.cellsOf (m : Int)) (r.cellsOf ((some ((m0 : Nat) : Int)).getD 0)) = true := by
      show congr (r.cellsOf (m : Int)) (r.cellsOf (m0 : Int)) = true
      rw [hpk.cells, hp0.cells]
      exact congr_moved hpk.k8 hp0.k8 hpk.shp hp0.shp
    have e4 : (decide (i = 0) || decide (lowB ((nl t).getD (i - 1) 0).toNat < lowB (m : Int).toNat)) = true := by
      cases i with
      | zero => rfl
      | succ j =>
        obtain ⟨y', hy'⟩ : ∃ y', (nl t)[j]? = some y' := ⟨(nl t)[j]'(by omega), List.getElem?_eq_getElem _⟩
        have := hc.2.2 (lowB y'.toNat) (by show ((nl t)[j]?).map _ = _; rw [hy']; rfl)
        rw [Nat.add_sub_cancel, List.getD_eq_getElem?_getD, hy']
        simpa using this
    rw [e1, e2, hpk.conn, e3, e4]
    rfl
/-! how many parts -/
theorem cellsTo_bits {w m : Nat} : ∀ k, (cellsTo w m k).length = bitsN m k
  | 0 => rfl
  | k + 1 => by
    rw [cellsTo, List.length_append, cellsTo_bits k]
    show _ = bitsN m k + if m.testBit k then 1 else 0
    cases h : m.testBit k <;> rfl
theorem bitsN_cnt {m : Nat} : ∀ k, bitsN m k = cntTo m k
  | 0 => rfl
  | k + 1 => by
    unfold bitsN cntTo
    rw [bitsN_cnt k, Nat.testBit_eq_decide_div_mod_eq]
    have := Nat.mod_lt (m / 2 ^ k) (show 0 < 2 by decide)
    by_cases h : m / 2 ^ k % 2 = 1
    · simp [h]
    · simp [h]; omega
theorem til_count {A : List Nat} {c : Nat} (hA : ∀ m ∈ A, bitsN m 36 = c) : ∀ (f : Nat), f < 2 ^ 36 → ∀ t ∈ til A f, t.length * c = bitsN f 36 := by
  intro f
  induction f using Nat.strongRecOn with
  | _ f ih =>
    intro hf t ht
    by_cases h0 : f = 0
    · subst h0
      rw [til_zero] at ht
      obtain rfl := List.mem_singleton.1 ht
      rw [List.length_nil, Nat.zero_mul]
      decide
    · rw [til_pos h0] at ht
      obtain ⟨m, hm, ht⟩ := List.mem_flatMap.1 ht
      unfold tilAt at ht
      cases hfit : fitB f m
      · rw [hfit] at ht; simp at ht
      · rw [hfit, if_pos rfl] at ht
        obtain ⟨t', ht', rfl⟩ := List.mem_map.1 ht
        have h1 := ih (f - m) (fit_lt hfit) (by omega) t' ht'
        have h2 := bitsN_sub (fit_and hfit) (by omega) 36
        have h3 := hA m hm
        rw [List.length_cons, Nat.add_mul, Nat.one_mul]
        omega
theorem one_pcs {s : List Cell} (h : isShape s = true) : arePcs [s] = true := by
  unfold arePcs
  simp [h, inR]
theorem div_found {r : Reg} {k : Int} (h : divB r k = true) : ∃ s t, divL r k = nl t ∧ t ∈ til (allN r [s]) r.mask ∧ isShape s = true ∧ hangs s = true ∧ r.Valid ∧ divOk r k = true ∧ s.length = (areaR r).toNat / k.toNat := by
  cases hp : divP r k with
  | nil => rw [(div_no hp).2] at h; cases h
  | cons s P =>
    have hy := div_yes hp
    have hs : s ∈ divP r k := by rw [hp]; exact List.mem_cons_self ..
    unfold divP at hs
    split at hs
    · rename_i hok
      obtain ⟨h1, h2⟩ := List.mem_filter.1 hs
      have h3 := freeS_hangs h1
      unfold tileF findB at h2
      rw [Bool.and_eq_true] at h2
      obtain ⟨h4, h5⟩ := h2
      unfold ordB at h5
      obtain ⟨t, ht⟩ := Option.isSome_iff_exists.1 h5
      refine ⟨s, t, ?_, List.mem_of_getElem? ht, h3.2.2, h3.1, Reg.valid_iff.1 (Bool.and_eq_true_iff.1 h4).1, hok, h3.2.1⟩
      rw [hy.1]
      unfold findL ordR
      rw [if_pos h4, ht]
      rfl
    · cases hs
theorem divB_ne {r : Reg} {k : Int} : divB r k = !(divP r k).isEmpty := by
  cases hp : divP r k with
  | nil => rw [(div_no hp).2]; rfl
  | cons s P =>
    rw [(div_yes hp).2]
    have hs : s ∈ divP r k := by rw [hp]; exact List.mem_cons_self ..
    unfold divP at hs
    split at hs
    · exact (List.mem_filter.1 hs).2
    · cases hs
/-- what is found is a division into k parts -/
theorem div_law {r : Reg} {k : Int} (h : divB r k = true) : isDiv r (divL r k) = true ∧ ((divL r k).length : Int) = k := by
  obtain ⟨s, t, hL, ht, hs, hh, hv, hok, hsl⟩ := div_found h
  unfold divOk at hok
  simp only [Bool.and_eq_true, decide_eq_true_eq] at hok
  obtain ⟨⟨h1, h2⟩, h3⟩ := hok
  have h2 := inR_iff.1 h2
  have hp := one_pcs hs
  have hA : ∀ m ∈ allN r [s], bitsN m 36 = s.length := fun m hm => by
    obtain ⟨k', x, y, hk⟩ := plc_ok hv hs hh hp hm
    have := hk.len
    unfold cellsM at this
    rw [cellsTo_bits] at this
    exact this
  have hc := til_count hA r.mask (Reg.mask_lt hv) t ht
  have har : (areaR r).toNat = bitsN r.mask 36 := by
    unfold areaR
    rw [Reg.valid_iff.2 hv, if_pos rfl, cells_cnt hv, bitsN_cnt]
    rfl
  rw [← har, hsl] at hc
  obtain ⟨a, ha⟩ : ∃ a, a = (areaR r).toNat := ⟨_, rfl⟩
  rw [← ha] at hc h3
  obtain ⟨kk, hkk⟩ : ∃ kk : Nat, k = (kk : Int) := ⟨k.toNat, by omega⟩
  subst hkk
  rw [Int.toNat_natCast] at hc h3
  have ha1 : 1 ≤ a := by omega
  have hkd : kk * (a / kk) = a := by
    have := Nat.div_add_mod a kk
    omega
  have hq : 0 < a / kk := by
    rcases Nat.eq_zero_or_pos (a / kk) with e | e
    · rw [e, Nat.mul_zero] at hkd; omega
    · exact e
  have htl : t.length = kk := Nat.eq_of_mul_eq_mul_right hq (by rw [hc, hkd])
  have h0 : t ≠ [] := by
    rintro rfl
    rw [List.length_nil] at htl
    omega
  rw [hL]
  refine ⟨til_div hv hs hh hp ht h0, ?_⟩
  simp [nl, htl]
end Go.Proofs.YtfmkmjebkmimkaaGreatDoor

namespace Go.Proofs.YtfmkmjebkmimkaaGreatDoor
open Go.RowKit

theorem tile_cnt {r : Reg} {s : List Cell} (h : tileF r s = true) : 1 ≤ cntR r [s] ∧ cntR r [s] ≤ 2000 := by
  unfold tileF findB at h
  rw [Bool.and_eq_true] at h
  obtain ⟨h4, h5⟩ := h
  rw [cntR_yes h4]
  unfold ordB at h5
  obtain ⟨t, ht⟩ := Option.isSome_iff_exists.1 h5
  have := List.length_pos_of_mem (List.mem_of_getElem? ht)
  unfold cntU
  omega
theorem cdTo_bd {r : Reg} : ∀ (L : List (List Cell)) (n : Int), 0 ≤ n → n + 2000 * (L.length : Int) ≤ 1000000000000 → (∀ s ∈ L, 1 ≤ cntR r [s] ∧ cntR r [s] ≤ 2000) → n + (L.length : Int) ≤ L.foldl (fun n s => wrap64 (n + cntR r [s])) n ∧ L.foldl (fun n s => wrap64 (n + cntR r [s])) n ≤ n + 2000 * (L.length : Int)
  | [], n, _, _, _ => by simp
  | s :: L, n, h0, h1, hs => by
    have h := hs s (List.mem_cons_self ..)
    rw [List.length_cons] at h1 ⊢
    have e : wrap64 (n + cntR r [s]) = n + cntR r [s] := by unfold wrap64; omega
    have ih := cdTo_bd L (n + cntR r [s]) (by omega) (by omega) (fun t ht => hs t (List.mem_cons_of_mem _ ht))
    rw [List.foldl_cons, e]
    omega
theorem divP_tile {r : Reg} {k : Int} {s : List Cell} (h : s ∈ divP r k) : tileF r s = true ∧ divOk r k = true := by
  unfold divP at h
  split at h
  · rename_i hok
    exact ⟨(List.mem_filter.1 h).2, hok⟩
  · cases h
theorem cd_bd {r : Reg} {k : Int} : -1 ≤ cdR r k ∧ cdR r k ≤ 320000000 := by
  have hb := cdTo_bd (r := r) (divP r k) 0 (by omega) (by have := divP_len r k; omega) (fun s hs => tile_cnt (divP_tile hs).1)
  have hl := divP_len r k
  cases hk : cdOk r k
  · rw [cdR_no hk]; omega
  · rw [cdR_yes hk]; unfold cdTo; omega
theorem cd_pos {r : Reg} {k : Int} : decide (0 < cdR r k) = divB r k := by
  have hb := cdTo_bd (r := r) (divP r k) 0 (by omega) (by have := divP_len r k; omega) (fun s hs => tile_cnt (divP_tile hs).1)
  rw [divB_ne]
  cases hp : divP r k with
  | nil =>
    have : ¬ 0 < cdR r k := by
      cases hk : cdOk r k
      · rw [cdR_no hk]; omega
      · rw [cdR_yes hk, hp]; unfold cdTo; simp
    rw [decide_eq_false this]
    rfl
  | cons s P =>
    have hs : s ∈ divP r k := by rw [hp]; exact List.mem_cons_self ..
    have hok := (divP_tile hs).2
    have hk : cdOk r k = true := by
      unfold divOk at hok
      unfold cdOk
      exact (Bool.and_eq_true_iff.1 hok).1
    have hl : 0 < (divP r k).length := List.length_pos_of_mem hs
    have : 0 < cdR r k := by rw [cdR_yes hk]; unfold cdTo; omega
    rw [decide_eq_true this]
    rfl
theorem divs_in {r : Reg} {a : Int} (h : a ∈ divs r) : 1 ≤ a ∧ a ≤ 12 ∧ Int.tmod (areaR r) a = 0 := by
  unfold divs divsTo at h
  obtain ⟨j, hj, rfl⟩ := List.mem_map.1 h
  have hne : divP r ((j + 1 : Nat) : Int) ≠ [] := by
    intro e
    have := (List.mem_filter.1 hj).2
    rw [e] at this
    cases this
  obtain ⟨a, ha⟩ : ∃ a : Int, a = ((j + 1 : Nat) : Int) := ⟨_, rfl⟩
  rw [← ha] at hne ⊢
  clear h hj
  obtain ⟨s, hs⟩ := List.exists_mem_of_ne_nil _ hne
  have hok := (divP_tile hs).2
  unfold divOk at hok
  simp only [Bool.and_eq_true, decide_eq_true_eq] at hok
  obtain ⟨⟨h1, h2⟩, h3⟩ := hok
  have h2 := inR_iff.1 h2
  refine ⟨h2.1, h2.2, ?_⟩
  have e1 : areaR r = ((areaR r).toNat : Int) := by omega
  have e2 : a = (a.toNat : Int) := by omega
  rw [e1, e2, ← Int.ofNat_tmod, h3]
  rfl
end Go.Proofs.YtfmkmjebkmimkaaGreatDoor
