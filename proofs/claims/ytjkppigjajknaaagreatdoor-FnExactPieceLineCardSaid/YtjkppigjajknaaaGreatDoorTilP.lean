
/-
  Tilings in plain Lean: all tilings in the order of the search; what a visitor makes of them. No program in sight.
-/
import Derived.Test.YtjkppigjajknaaaGreatDoorPlcP
import Derived.Test.YtjkppigjajknaaaGreatDoorDivPX
namespace Go.Proofs.YtjkppigjajknaaaGreatDoor
open Go.RowKit

def fitB (free m : Nat) : Bool := m.testBit (lowB free) && (m &&& free == m)
/-- all tilings of what is free, in the order of the search -/
def til (A : List Nat) (free : Nat) : List (List Nat) :=
  if free = 0 then [[]] else A.flatMap fun m => if _h : m ≠ 0 ∧ free ≠ 0 then (if fitB free m then (til A (free - m)).map (m :: ·) else []) else []
termination_by free
decreasing_by omega
theorem fitB_pos {free m : Nat} (h : fitB free m = true) : m ≠ 0 := by
  rintro rfl
  simp [fitB] at h
theorem til_zero {A : List Nat} : til A 0 = [[]] := by rw [til]; simp
def tilAt (A : List Nat) (free m : Nat) : List (List Nat) := if fitB free m then (til A (free - m)).map (m :: ·) else []
theorem til_pos {A : List Nat} {free : Nat} (h : free ≠ 0) : til A free = A.flatMap (tilAt A free) := by
  rw [til, if_neg h]
  congr 1
  funext m
  unfold tilAt
  by_cases hm : m = 0
  · subst hm
    have : fitB free 0 = false := by
      cases hf : fitB free 0
      · rfl
      · exact absurd rfl (fitB_pos hf)
    simp [this]
  · rw [dif_pos ⟨hm, h⟩]
theorem tilAt_take {A : List Nat} {free m i : Nat} (h : A[i]? = some m) : (A.take (i + 1)).flatMap (tilAt A free) = (A.take i).flatMap (tilAt A free) ++ tilAt A free m := by
  rw [List.take_add_one, h]; simp
theorem take_more {α : Type} {X Y : List α} {k : Nat} (h : k ≤ (X.take k).length) : (X ++ Y).take k = X.take k := by
  rw [List.length_take] at h
  rw [List.take_append_of_le_length (by omega)]
theorem take_full {A : List Nat} {free i k : Nat} (h : k ≤ (((A.take i).flatMap (tilAt A free)).take k).length) : (A.flatMap (tilAt A free)).take k = ((A.take i).flatMap (tilAt A free)).take k := by
  have e : A.flatMap (tilAt A free) = (A.take i).flatMap (tilAt A free) ++ (A.drop i).flatMap (tilAt A free) := by rw [← List.flatMap_append, List.take_append_drop]
  rw [e, take_more h]
theorem fit_and {free m : Nat} (h : fitB free m = true) : m &&& free = m := by
  unfold fitB at h
  simp only [Bool.and_eq_true, beq_iff_eq] at h
  exact h.2
theorem fit_le {free m : Nat} (h : fitB free m = true) : m ≤ free := by rw [← fit_and h]; exact Nat.and_le_right
/-- the free cells get less -/
theorem fit_lt {free m : Nat} (h : fitB free m = true) : free - m < free := by have := fit_le h; have := fitB_pos h; omega
theorem or_add {m x : Nat} (hm : m < 2 ^ 64) (hx : x < 2 ^ 64) (h : m &&& x = 0) : m ||| x = m + x := by
  have hb : BitVec.ofNat 64 m &&& BitVec.ofNat 64 x = 0#64 := by
    apply BitVec.eq_of_toNat_eq
    rw [BitVec.toNat_and, BitVec.toNat_ofNat, BitVec.toNat_ofNat, Nat.mod_eq_of_lt hm, Nat.mod_eq_of_lt hx, h]; rfl
  have h1 := BitVec.toNat_add_of_and_eq_zero hb
  rw [BitVec.add_eq_or_of_and_eq_zero _ _ hb, BitVec.toNat_or, BitVec.toNat_ofNat, BitVec.toNat_ofNat, Nat.mod_eq_of_lt hm, Nat.mod_eq_of_lt hx] at h1
  exact h1
theorem sub_and {a m : Nat} (h : m &&& a = m) (ha : a < 2 ^ 64) : a &&& (2 ^ 64 - (m + 1)) = a - m := by
  have hm : m < 2 ^ 64 := by rw [← h]; exact Nat.lt_of_le_of_lt Nat.and_le_right ha
  have e : a = m + (a &&& (2 ^ 64 - (m + 1))) := by
    have h1 : m &&& (a &&& (2 ^ 64 - (m + 1))) = 0 := by
      apply Nat.eq_of_testBit_eq
      intro i
      rw [Nat.testBit_and, Nat.testBit_and, Nat.testBit_two_pow_sub_succ hm]
      cases m.testBit i <;> simp
    have h2 : m ||| (a &&& (2 ^ 64 - (m + 1))) = a := by
      apply Nat.eq_of_testBit_eq
      intro i
      rw [Nat.testBit_or, Nat.testBit_and, Nat.testBit_two_pow_sub_succ hm]
      have h3 : (m &&& a).testBit i = m.testBit i := by rw [h]
      rw [Nat.testBit_and] at h3
      by_cases hi : i < 64
      · cases hm : m.testBit i <;> cases ha : a.testBit i <;> simp_all
      · have : a.testBit i = false := Nat.testBit_lt_two_pow (Nat.lt_of_lt_of_le ha (Nat.pow_le_pow_right (by decide) (by omega)))
        rw [this] at h3 ⊢
        simpa using h3.symm
    conv => lhs; rw [← h2]
    exact or_add hm (Nat.lt_of_le_of_lt Nat.and_le_left ha) h1
  omega
theorem sub_test {a m : Nat} (h : m &&& a = m) (ha : a < 2 ^ 64) (i : Nat) : (a - m).testBit i = (a.testBit i && !m.testBit i) := by
  have hm : m < 2 ^ 64 := by rw [← h]; exact Nat.lt_of_le_of_lt Nat.and_le_right ha
  rw [← sub_and h ha, Nat.testBit_and, Nat.testBit_two_pow_sub_succ hm]
  by_cases hi : i < 64
  · simp [hi]
  · have : a.testBit i = false := Nat.testBit_lt_two_pow (Nat.lt_of_lt_of_le ha (Nat.pow_le_pow_right (by decide) (by omega)))
    rw [this]; simp
/-- how many of the first k bits are set -/
def bitsN (n : Nat) : Nat → Nat
  | 0 => 0
  | k + 1 => bitsN n k + if n.testBit k then 1 else 0
theorem bitsN_le {n : Nat} : ∀ k, bitsN n k ≤ k
  | 0 => Nat.le_refl _
  | k + 1 => by have := bitsN_le (n := n) k; unfold bitsN; split <;> omega
theorem bitsN_sub {a m : Nat} (h : m &&& a = m) (ha : a < 2 ^ 64) : ∀ k, bitsN (a - m) k + bitsN m k = bitsN a k
  | 0 => rfl
  | k + 1 => by
    have ih := bitsN_sub h ha k
    have h1 := sub_test h ha k
    have h3 : (m &&& a).testBit k = m.testBit k := by rw [h]
    rw [Nat.testBit_and] at h3
    unfold bitsN
    rw [h1]
    cases hm : m.testBit k <;> cases hb : a.testBit k <;> simp_all <;> omega
theorem bitsN_pos {n j : Nat} (h : n.testBit j = true) : ∀ k, j < k → 1 ≤ bitsN n k
  | 0, hk => absurd hk (Nat.not_lt_zero _)
  | k + 1, hk => by
    unfold bitsN
    by_cases e : j = k
    · subst e; rw [h]; simp
    · have := bitsN_pos h k (by omega); omega
theorem til_len {A : List Nat} : ∀ (free : Nat), free < 2 ^ 36 → ∀ t ∈ til A free, t.length ≤ bitsN free 36 := by
  intro free
  induction free using Nat.strongRecOn with
  | _ free ih =>
    intro hf t ht
    by_cases h0 : free = 0
    · subst h0
      rw [til_zero] at ht
      simp at ht
      subst ht
      simp
    · rw [til_pos h0] at ht
      obtain ⟨m, _, ht⟩ := List.mem_flatMap.1 ht
      unfold tilAt at ht
      cases hfit : fitB free m
      · rw [hfit] at ht; simp at ht
      · rw [hfit] at ht
        simp at ht
        obtain ⟨t', ht', rfl⟩ := ht
        have h1 := ih (free - m) (fit_lt hfit) (by omega) t' ht'
        have h2 := bitsN_sub (fit_and hfit) (by omega) 36
        have h3 : m.testBit (lowB free) = true := by unfold fitB at hfit; simp only [Bool.and_eq_true] at hfit; exact hfit.1
        have h4 : lowB free < 36 := by
          rcases Nat.lt_or_ge (lowB free) 36 with q | q
          · exact q
          · have := fit_le hfit
            rw [Nat.testBit_lt_two_pow (Nat.lt_of_lt_of_le (Nat.lt_of_le_of_lt this hf) (Nat.pow_le_pow_right (by decide) q))] at h3
            cases h3
        have h5 := bitsN_pos h3 36 h4
        simp only [List.length_cons]
        omega
theorem til_len36 {A : List Nat} {free : Nat} (hf : free < 2 ^ 36) {t : List Nat} (ht : t ∈ til A free) : t.length ≤ 36 := Nat.le_trans (til_len free hf t ht) (bitsN_le 36)

/-- what a visitor sees, till it says stop -/
def runV (go : List (List Nat) → List Nat → Bool) : List (List Nat) → List (List Nat) → List (List Nat) × Bool
  | seen, [] => (seen, true)
  | seen, t :: ts => if go seen t then runV go (seen ++ [t]) ts else (seen ++ [t], false)
theorem runV_app {go : List (List Nat) → List Nat → Bool} : ∀ {X Y seen : List (List Nat)}, runV go seen (X ++ Y) = if (runV go seen X).2 then runV go (runV go seen X).1 Y else runV go seen X
  | [], Y, seen => by simp [runV]
  | x :: X, Y, seen => by
    rw [List.cons_append]
    have e1 : runV go seen (x :: (X ++ Y)) = if go seen x then runV go (seen ++ [x]) (X ++ Y) else (seen ++ [x], false) := rfl
    have e2 : runV go seen (x :: X) = if go seen x then runV go (seen ++ [x]) X else (seen ++ [x], false) := rfl
    rw [e1, e2]
    cases go seen x
    · simp
    · simp only [if_true]
      exact runV_app
/-- the tilings that begin so -/
def tilL (pre : List Nat) (T : List (List Nat)) : List (List Nat) := T.map (pre ++ ·)
theorem tilL_at {A : List Nat} {free m : Nat} {pre : List Nat} (h : fitB free m = true) : tilL pre (tilAt A free m) = tilL (pre ++ [m]) (til A (free - m)) := by
  unfold tilAt tilL
  rw [if_pos h, List.map_map]
  apply List.map_congr_left
  intro t _
  simp
theorem tilL_no {A : List Nat} {free m : Nat} {pre : List Nat} (h : fitB free m = false) : tilL pre (tilAt A free m) = [] := by
  unfold tilAt tilL
  rw [if_neg (by rw [h]; simp)]; rfl
theorem flat_filter {α β : Type} {p : α → Bool} {f : α → List β} (h : ∀ a, p a = false → f a = []) : ∀ l : List α, l.flatMap f = (l.filter p).flatMap f
  | [] => rfl
  | a :: l => by
    rw [List.flatMap_cons, List.filter_cons]
    cases hp : p a
    · rw [h a hp]; simpa using flat_filter h l
    · simp [flat_filter h l]
theorem til_bit {A : List Nat} {free : Nat} (h : free ≠ 0) : til A free = (A.filter fun m => m.testBit (lowB free)).flatMap (tilAt A free) := by
  rw [til_pos h]
  refine flat_filter (fun m hm => ?_) A
  unfold tilAt fitB
  rw [hm]; rfl
end Go.Proofs.YtjkppigjajknaaaGreatDoor
