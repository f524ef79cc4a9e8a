
/-
  Strips: ways to fill a row with dominoes: the reference's count. Strips: the two ways to count the dominoes of a row agree. Plain. Dominoes on a region: the way from row to row and the way from place to place count the same. Plain. Dominoes on a region: rows of numbers, as they wrap round. Plain. CountDominoes: the reference's walk. Strips: what the program's inner function leaves in its row. Plain. Dominoes: the program's inner function of dominoWays, for rows of at most six places (lines of DomW: never import both). Dominoes: the program's dominoWays, for rows of at most six places. Maps from numbers to numbers, as they wrap round; a range over one. CountDominoes: the program's walk. Dominoes on a region: the number is small. Plain.
-/
import Derived.Test.YtoccedebiacbiaaDoorProg
import Derived.Test.YtoccedebiacbiaaDoorCwWalks
import Derived.Test.YtoccedebiacbiaaDoorRegData
import Derived.Test.YtoccedebiacbiaaDoorSepX
import Derived.Deep.DeepCutAuto
import Derived.Test.YtoccedebiacbiaaDoorRegX
import Derived.IntWalk
import Derived.Outline
import Derived.Laws.EntriesVeiled
import Derived.MapKept
import Derived.Maps.RangeRun
import Derived.Test.YtoccedebiacbiaaDoorMskX
import Derived.Deep.RegionHeld3
namespace Go.Proofs.YtoccedebiacbiaaDoor
open Go.RowKit

/-- in how many ways r places from x on are filled, where those of F are full and dominoes stand out at those of O -/
def fillR (F O : Nat → Bool) : Nat → Nat → Nat
  | 0, _ => 1
  | r + 1, x => if F x then (if O x then 0 else fillR F O r (x + 1)) else if O x then fillR F O r (x + 1) else match r with
    | 0 => 0
    | r' + 1 => if !F (x + 1) && !O (x + 1) then fillR F O r' (x + 2) else 0
theorem fillR_full {F O : Nat → Bool} {r x : Nat} (h : F x = true) : fillR F O (r + 1) x = if O x then 0 else fillR F O r (x + 1) := by cases r <;> simp [fillR, h]
theorem fillR_out {F O : Nat → Bool} {r x : Nat} (h : F x = false) (ho : O x = true) : fillR F O (r + 1) x = fillR F O r (x + 1) := by cases r <;> simp [fillR, h, ho]
theorem fillR_one {F O : Nat → Bool} {x : Nat} (h : F x = false) (ho : O x = false) : fillR F O 1 x = 0 := by simp [fillR, h, ho]
theorem fillR_two {F O : Nat → Bool} {r x : Nat} (h : F x = false) (ho : O x = false) : fillR F O (r + 2) x = if !F (x + 1) && !O (x + 1) then fillR F O r (x + 2) else 0 := by simp [fillR, h, ho]
theorem bit_test0 {m x : Nat} (hm : m < 9223372036854775808) : (bits .and .i64 ((m : Int) / 2 ^ x) 1 == 0) = !m.testBit x := by
  rw [← bit_test hm]
  have hd : m / 2 ^ x < 9223372036854775808 := Nat.lt_of_le_of_lt (Nat.div_le_self _ _) hm
  have e1 : ((m : Int) / 2 ^ x) = ((m / 2 ^ x : Nat) : Int) := by simp
  rw [e1, show (1 : Int) = ((1 : Nat) : Int) from rfl, i64_and_nat _ 1 hd (by decide), nat_mask1]
  have := Nat.mod_lt (m / 2 ^ x) (show 0 < 2 by decide)
  generalize (m / 2 ^ x) % 2 = t at *
  have h2 : t = 0 ∨ t = 1 := by omega
  rcases h2 with rfl | rfl <;> rfl
end Go.Proofs.YtoccedebiacbiaaDoor

namespace Go.Proofs.YtoccedebiacbiaaDoor

/-- what the program's inner function adds at c: r places are left from x on, d stands out so far -/
def outR (U : Nat → Bool) : Nat → Nat → Nat → Nat → Nat
  | 0, _, d, c => if c = d then 1 else 0
  | r + 1, x, d, c => if U x then outR U r (x + 1) d c else outR U r (x + 1) (d ||| 2 ^ x) c + match r with
    | 0 => 0
    | r' + 1 => if U (x + 1) then 0 else outR U r' (x + 2) d c
theorem outR_fill : ∀ w, w < 5 → ∀ a, a < 2 ^ w → ∀ c, c < 2 ^ w → outR a.testBit w 0 0 c = fillR a.testBit c.testBit w 0 := by decide +kernel
theorem outR_end {U : Nat → Bool} {x d c : Nat} : outR U 0 x d c = if c = d then 1 else 0 := rfl
theorem outR_full {U : Nat → Bool} {r x d c : Nat} (h : U x = true) : outR U (r + 1) x d c = outR U r (x + 1) d c := by cases r <;> simp [outR, h]
theorem outR_one {U : Nat → Bool} {x d c : Nat} (h : U x = false) : outR U 1 x d c = outR U 0 (x + 1) (d ||| 2 ^ x) c := by simp [outR, h]
theorem outR_two {U : Nat → Bool} {r x d c : Nat} (h : U x = false) : outR U (r + 2) x d c = outR U (r + 1) (x + 1) (d ||| 2 ^ x) c + if U (x + 1) then 0 else outR U r (x + 2) d c := by
  conv => lhs; unfold outR
  simp [h]
/-- the ways of a row, as a list -/
def domRow (w a : Nat) : List Int := (List.range (2 ^ w)).map fun c => ((fillR a.testBit c.testBit w 0 : Nat) : Int)
theorem domRow_len {w a : Nat} : (domRow w a).length = 2 ^ w := by simp [domRow]
/-- the matrix that leads from row to row -/
def domMat (w : Nat) : List (List Int) := (List.range (2 ^ w)).map (domRow w)
end Go.Proofs.YtoccedebiacbiaaDoor

namespace Go.Proofs.YtoccedebiacbiaaDoor

/-- the sum of f over the numbers below n -/
def sumN (f : Nat → Nat) : Nat → Nat
  | 0 => 0
  | n + 1 => sumN f n + f n
theorem sumN_succ {f : Nat → Nat} {n : Nat} : sumN f (n + 1) = sumN f n + f n := rfl
theorem sumN_congr {f g : Nat → Nat} : ∀ {n : Nat}, (∀ s, s < n → f s = g s) → sumN f n = sumN g n
  | 0, _ => rfl
  | n + 1, h => by rw [sumN_succ, sumN_succ, sumN_congr (fun s hs => h s (by omega)), h n (by omega)]
theorem sumN_zero {f : Nat → Nat} : ∀ {n : Nat}, (∀ s, s < n → f s = 0) → sumN f n = 0
  | 0, _ => rfl
  | n + 1, h => by rw [sumN_succ, sumN_zero (fun s hs => h s (by omega)), h n (by omega)]
theorem sumN_add {f g : Nat → Nat} : ∀ {n : Nat}, sumN (fun s => f s + g s) n = sumN f n + sumN g n
  | 0 => rfl
  | n + 1 => by rw [sumN_succ, sumN_succ, sumN_succ, sumN_add]; omega
theorem sumN_mul {f : Nat → Nat} {k : Nat} : ∀ {n : Nat}, sumN f n * k = sumN (fun s => f s * k) n
  | 0 => by simp [sumN]
  | n + 1 => by rw [sumN_succ, sumN_succ, Nat.add_mul, sumN_mul]
theorem sumN_mulL {f : Nat → Nat} {k : Nat} {n : Nat} : k * sumN f n = sumN (fun s => k * f s) n := by
  rw [Nat.mul_comm, sumN_mul]
  exact sumN_congr fun s _ => Nat.mul_comm _ _
theorem sumN_swap {F : Nat → Nat → Nat} {m : Nat} : ∀ {n : Nat}, sumN (fun s => sumN (fun t => F s t) m) n = sumN (fun t => sumN (fun s => F s t) n) m
  | 0 => (sumN_zero fun _ _ => rfl).symm
  | n + 1 => by
    rw [sumN_succ, sumN_swap, ← sumN_add]
    exact sumN_congr fun _ _ => rfl
/-- one where b is t -/
def isN (b t : Nat) : Nat := if b = t then 1 else 0
theorem sumN_is {f : Nat → Nat} {t : Nat} : ∀ {n : Nat}, t < n → sumN (fun s => isN s t * f s) n = f t
  | n + 1, h => by
    rw [sumN_succ]
    by_cases e : t = n
    · subst e
      rw [sumN_zero (fun s hs => by rw [isN, if_neg (by omega)]; simp), isN, if_pos rfl]
      simp
    · rw [sumN_is (by omega), isN, if_neg (fun h => e h.symm)]
      simp

/-- in how many ways the profile s at a place leads to b: is the place in, the one below, the one to the right -/
def stN (w : Nat) (i u r : Bool) (s b : Nat) : Nat :=
  if i then (if s % 2 = 1 then isN b (s / 2) else (if u then isN b (s / 2 ||| 2 ^ (w - 1)) else 0) + (if r && s / 2 % 2 == 0 then isN b (s / 2 ||| 1) else 0))
  else (if s % 2 = 1 then 0 else isN b (s / 2))
/-- the numbers of ways before place i -/
def vsN (w h : Nat) (I : Nat → Nat → Bool) : Nat → Nat → Nat
  | 0, b => isN b 0
  | i + 1, b => sumN (fun s => vsN w h I i s * stN w (I (i % w) (i / w)) (I (i % w) (i / w + 1)) (decide (i % w + 1 < w) && I (i % w + 1) (i / w)) s b) (2 ^ w)
/-- the numbers of ways before row y -/
def niN (w : Nat) (R : Nat → Nat) : Nat → Nat → Nat
  | 0, b => isN b 0
  | y + 1, b => sumN (fun d => if d &&& R y = d then niN w R y d * outR (fun j => d.testBit j || !(R y).testBit j) w 0 0 b else 0) (2 ^ w)

/-- from profile s with r places left from x on to b at the row's end -/
def psN (w : Nat) (R R' : Nat → Bool) : Nat → Nat → Nat → Nat → Nat
  | 0, _, s, b => isN b s
  | r + 1, x, s, b =>
    if R x then (if s % 2 = 1 then psN w R R' r (x + 1) (s / 2) b else (if R' x then psN w R R' r (x + 1) (s / 2 ||| 2 ^ (w - 1)) b else 0) + (if (decide (x + 1 < w) && R (x + 1)) && s / 2 % 2 == 0 then psN w R R' r (x + 1) (s / 2 ||| 1) b else 0))
    else (if s % 2 = 1 then 0 else psN w R R' r (x + 1) (s / 2) b)
theorem half_lt {w s : Nat} (hw : 1 ≤ w) (h : s < 2 ^ w) : s / 2 < 2 ^ (w - 1) := by
  obtain ⟨v, rfl⟩ : ∃ v, w = v + 1 := ⟨w - 1, by omega⟩
  rw [Nat.pow_succ] at h
  simp only [Nat.add_sub_cancel]
  omega
theorem top_lt {w s : Nat} (hw : 1 ≤ w) (h : s < 2 ^ w) : s / 2 ||| 2 ^ (w - 1) < 2 ^ w :=
  Nat.or_lt_two_pow (Nat.lt_of_lt_of_le (half_lt hw h) (Nat.pow_le_pow_right (by decide) (by omega))) (Nat.pow_lt_pow_right (by decide) (by omega))
theorem low_lt {w s : Nat} (hw : 2 ≤ w) (h : s < 2 ^ w) : s / 2 ||| 1 < 2 ^ w :=
  Nat.or_lt_two_pow (Nat.lt_of_lt_of_le (half_lt (by omega) h) (Nat.pow_le_pow_right (by decide) (by omega))) (Nat.one_lt_two_pow (by omega))
/-- a step and the rest of the row -/
theorem ps_step {w r x s b : Nat} {R R' : Nat → Bool} (hw : 1 ≤ w) (hs : s < 2 ^ w) :
    sumN (fun t => stN w (R x) (R' x) (decide (x + 1 < w) && R (x + 1)) s t * psN w R R' r (x + 1) t b) (2 ^ w) = psN w R R' (r + 1) x s b := by
  have h2 : s / 2 < 2 ^ w := Nat.lt_of_lt_of_le (half_lt hw hs) (Nat.pow_le_pow_right (by decide) (by omega))
  conv => rhs; unfold psN
  unfold stN
  by_cases hR : R x = true
  · rw [hR]
    simp only [if_true]
    by_cases hf : s % 2 = 1
    · rw [if_pos hf]
      simp only [if_pos hf]
      exact sumN_is h2
    · rw [if_neg hf]
      simp only [if_neg hf, Nat.add_mul]
      rw [sumN_add]
      congr 1
      · by_cases hu : R' x = true
        · rw [hu]
          simp only [if_true]
          exact sumN_is (top_lt hw hs)
        · simp only [hu]
          exact sumN_zero fun _ _ => by simp
      · by_cases hr : ((decide (x + 1 < w) && R (x + 1)) && s / 2 % 2 == 0) = true
        · rw [if_pos hr]
          simp only [if_pos hr]
          have h1 : x + 1 < w := by simp at hr; exact hr.1.1
          exact sumN_is (low_lt (by omega) hs)
        · rw [if_neg hr]
          simp only [if_neg hr]
          exact sumN_zero fun _ _ => by simp
  · rw [if_neg hR]
    simp only [if_neg hR]
    by_cases hf : s % 2 = 1
    · rw [if_pos hf]
      simp only [if_pos hf]
      exact sumN_zero fun _ _ => by simp
    · rw [if_neg hf]
      simp only [if_neg hf]
      exact sumN_is h2
/-- the way through a part of a row -/
theorem vs_row {w h y b : Nat} {I : Nat → Nat → Bool} (hw : 1 ≤ w) : ∀ (r x : Nat), x + r = w →
    sumN (fun s => vsN w h I (w * y + x) s * psN w (fun j => I j y) (fun j => I j (y + 1)) r x s b) (2 ^ w) = sumN (fun s => vsN w h I (w * y + w) s * isN b s) (2 ^ w)
  | 0, x, hx => by
    obtain rfl : x = w := by omega
    rfl
  | r + 1, x, hx => by
    rw [← vs_row (h := h) (I := I) (y := y) (b := b) hw r (x + 1) (by omega)]
    have e1 : (w * y + x) % w = x := by rw [Nat.mul_add_mod]; exact Nat.mod_eq_of_lt (by omega)
    have e2 : (w * y + x) / w = y := by rw [Nat.mul_add_div (by omega), Nat.div_eq_of_lt (by omega)]; rfl
    have e3 : ∀ t, vsN w h I (w * y + (x + 1)) t = sumN (fun s => vsN w h I (w * y + x) s * stN w (I x y) (I x (y + 1)) (decide (x + 1 < w) && I (x + 1) y) s t) (2 ^ w) := fun t => by
      rw [show w * y + (x + 1) = w * y + x + 1 from rfl, vsN, e1, e2]
    have e4 : ∀ t, vsN w h I (w * y + (x + 1)) t * psN w (fun j => I j y) (fun j => I j (y + 1)) r (x + 1) t b = sumN (fun s => vsN w h I (w * y + x) s * (stN w (I x y) (I x (y + 1)) (decide (x + 1 < w) && I (x + 1) y) s t * psN w (fun j => I j y) (fun j => I j (y + 1)) r (x + 1) t b)) (2 ^ w) := fun t => by
      rw [e3, sumN_mul]
      exact sumN_congr fun s _ => Nat.mul_assoc _ _ _
    rw [sumN_congr (g := fun t => sumN (fun s => vsN w h I (w * y + x) s * (stN w (I x y) (I x (y + 1)) (decide (x + 1 < w) && I (x + 1) y) s t * psN w (fun j => I j y) (fun j => I j (y + 1)) r (x + 1) t b)) (2 ^ w)) (n := 2 ^ w) (fun t _ => e4 t), sumN_swap]
    refine sumN_congr fun s hs => ?_
    rw [← sumN_mulL, ps_step (R := fun j => I j y) (R' := fun j => I j (y + 1)) hw hs]
theorem vs_next {w h y b : Nat} {I : Nat → Nat → Bool} (hw : 1 ≤ w) (hb : b < 2 ^ w) :
    vsN w h I (w * (y + 1)) b = sumN (fun s => vsN w h I (w * y) s * psN w (fun j => I j y) (fun j => I j (y + 1)) w 0 s b) (2 ^ w) := by
  have h1 := vs_row (h := h) (y := y) (b := b) (I := I) hw w 0 (by omega)
  rw [Nat.add_zero] at h1
  rw [h1, Nat.mul_add, Nat.mul_one]
  rw [sumN_congr (g := fun s => isN s b * vsN w h I (w * y + w) s) (fun s _ => by rw [Nat.mul_comm]; unfold isN; by_cases e : b = s <;> simp [e, eq_comm])]
  exact (sumN_is hb).symm

/-- what stands out in the end holds what stood out before -/
theorem outR_sub {U : Nat → Bool} : ∀ (n r : Nat), r ≤ n → ∀ x o b, outR U r x o b ≠ 0 → ∀ j, o.testBit j = true → b.testBit j = true
  | 0, r, hr, x, o, b, h, j, hj => by
    obtain rfl : r = 0 := by omega
    rw [outR_end] at h
    by_cases e : b = o
    · rw [e]; exact hj
    · rw [if_neg e] at h; exact absurd rfl h
  | n + 1, 0, _, x, o, b, h, j, hj => by
    rw [outR_end] at h
    by_cases e : b = o
    · rw [e]; exact hj
    · rw [if_neg e] at h; exact absurd rfl h
  | n + 1, 1, hr, x, o, b, h, j, hj => by
    cases hU : U x
    · rw [outR_one hU] at h
      exact outR_sub n 0 (by omega) (x + 1) _ b h j (by rw [Nat.testBit_or, hj]; rfl)
    · rw [outR_full hU] at h
      exact outR_sub n 0 (by omega) (x + 1) _ b h j hj
  | n + 1, r + 2, hr, x, o, b, h, j, hj => by
    cases hU : U x
    · rw [outR_two hU] at h
      by_cases h1 : outR U (r + 1) (x + 1) (o ||| 2 ^ x) b = 0
      · rw [h1, Nat.zero_add] at h
        by_cases h2 : U (x + 1) = true
        · rw [if_pos h2] at h; exact absurd rfl h
        · rw [if_neg h2] at h
          exact outR_sub n r (by omega) (x + 2) _ b h j hj
      · exact outR_sub n (r + 1) (by omega) (x + 1) _ b h1 j (by rw [Nat.testBit_or, hj]; rfl)
    · rw [outR_full hU] at h
      exact outR_sub n (r + 1) (by omega) (x + 1) _ b h j hj
theorem sub_iff {b m : Nat} : b &&& m = b ↔ ∀ j, b.testBit j = true → m.testBit j = true := by
  constructor
  · intro h j hj
    rw [← h, Nat.testBit_and, Bool.and_eq_true] at hj
    exact hj.2
  · intro h
    apply Nat.eq_of_testBit_eq
    intro j
    rw [Nat.testBit_and]
    cases hb : b.testBit j
    · rfl
    · rw [h j hb]; rfl
theorem or_top {a k : Nat} (h : a < 2 ^ k) : a ||| 2 ^ k = a + 2 ^ k := by
  have := Nat.two_pow_add_eq_or_of_lt h 1
  rw [Nat.mul_one] at this
  rw [Nat.or_comm, ← this, Nat.add_comm]
theorem or_even {a : Nat} (h : a % 2 = 0) : a ||| 1 = a + 1 := by
  have h2 : 2 ∣ a := Nat.dvd_of_mod_eq_zero h
  obtain ⟨k, rfl⟩ := h2
  have := Nat.two_pow_add_eq_or_of_lt (i := 1) (b := 1) (by decide) k
  simpa using this.symm
theorem half_sum {d o x r : Nat} : (d / 2 ^ x + o * 2 ^ (r + 1)) / 2 = d / 2 ^ (x + 1) + o * 2 ^ r := by
  rw [Nat.pow_succ, ← Nat.mul_assoc, Nat.add_mul_div_right _ _ (by decide), Nat.div_div_eq_div_mul, ← Nat.pow_succ]
theorem odd_sum {d o x r : Nat} : (d / 2 ^ x + o * 2 ^ (r + 1)) % 2 = 1 ↔ d.testBit x = true := by
  rw [Nat.pow_succ, ← Nat.mul_assoc, Nat.add_mul_mod_self_right, Nat.testBit_eq_decide_div_mod_eq]
  simp
theorem sum_lt {d o x r w : Nat} (hw : x + (r + 1) = w) (hd : d < 2 ^ w) (ho : o < 2 ^ x) : d / 2 ^ (x + 1) + o * 2 ^ r < 2 ^ (w - 1) := by
  subst hw
  have h1 : d / 2 ^ (x + 1) < 2 ^ r := by
    rw [Nat.div_lt_iff_lt_mul (Nat.two_pow_pos _), ← Nat.pow_add]
    have : r + (x + 1) = x + (r + 1) := by omega
    rw [this]; exact hd
  have h2 : o * 2 ^ r + 2 ^ r ≤ 2 ^ x * 2 ^ r := by
    rw [← Nat.succ_mul]
    exact Nat.mul_le_mul_right _ ho
  rw [← Nat.pow_add] at h2
  have : x + (r + 1) - 1 = x + r := by omega
  rw [this]
  omega
theorem ps_out {w d m m' : Nat} {U : Nat → Bool} (hU : ∀ j, U j = (d.testBit j || !m.testBit j)) (hm : m < 2 ^ w) (hd : d < 2 ^ w) (hc : ∀ j, d.testBit j = true → m.testBit j = true) {b : Nat} : ∀ (n r : Nat), r ≤ n → ∀ x o, x + r = w → o < 2 ^ x → o &&& m' = o →
    psN w m.testBit m'.testBit r x (d / 2 ^ x + o * 2 ^ r) b = if b &&& m' = b then outR U r x o b else 0
  | n, 0, _, x, o, hx, ho, hs => by
    obtain rfl : x = w := by omega
    rw [Nat.div_eq_of_lt hd, Nat.pow_zero, Nat.mul_one, Nat.zero_add, outR_end, psN, isN]
    by_cases e : b = o
    · subst e; rw [if_pos rfl, if_pos hs]
    · rw [if_neg e]; simp
  | 0, r + 1, h, _, _, _, _, _ => absurd h (by omega)
  | n + 1, r + 1, hr, x, o, hx, ho, hs => by
    have ho1 : o < 2 ^ (x + 1) := Nat.lt_of_lt_of_le ho (Nat.pow_le_pow_right (by decide) (by omega))
    have i1 := ps_out hU hm hd hc (b := b) n r (by omega) (x + 1) o (by omega) ho1 hs
    rw [psN, half_sum]
    by_cases hR : m.testBit x = true
    · rw [if_pos hR]
      by_cases hf : d.testBit x = true
      · rw [if_pos (odd_sum.2 hf), i1, outR_full (by rw [hU, hf]; rfl)]
      · rw [if_neg (fun h => hf (odd_sum.1 h))]
        have hU0 : U x = false := by
          rw [hU, hR]
          simpa using hf
        have ht : (if m'.testBit x = true then psN w m.testBit m'.testBit r (x + 1) (d / 2 ^ (x + 1) + o * 2 ^ r ||| 2 ^ (w - 1)) b else 0) = if b &&& m' = b then outR U r (x + 1) (o ||| 2 ^ x) b else 0 := by
          by_cases hu : m'.testBit x = true
          · rw [if_pos hu, or_top (sum_lt hx hd ho)]
            have e1 : d / 2 ^ (x + 1) + o * 2 ^ r + 2 ^ (w - 1) = d / 2 ^ (x + 1) + (o ||| 2 ^ x) * 2 ^ r := by
              rw [or_top ho, Nat.add_mul, ← Nat.pow_add, show w - 1 = x + r by omega]
              omega
            rw [e1]
            refine ps_out hU hm hd hc n r (by omega) (x + 1) _ (by omega) ?_ ?_
            · rw [or_top ho, Nat.pow_succ]; omega
            · rw [sub_iff]
              intro j hj
              rw [Nat.testBit_or, Bool.or_eq_true] at hj
              rcases hj with hj | hj
              · exact sub_iff.1 hs j hj
              · rw [Nat.testBit_two_pow] at hj
                obtain rfl : x = j := by simpa using hj
                exact hu
          · rw [if_neg hu]
            by_cases hb : b &&& m' = b
            · rw [if_pos hb]
              by_cases hz : outR U r (x + 1) (o ||| 2 ^ x) b = 0
              · exact hz.symm
              · exfalso
                have := outR_sub r r (Nat.le_refl _) (x + 1) _ b hz x (by rw [Nat.testBit_or, Nat.testBit_two_pow_self, Bool.or_true])
                exact hu (sub_iff.1 hb x this)
            · rw [if_neg hb]
        rw [ht]
        cases r with
        | zero =>
          have hxw : decide (x + 1 < w) = false := decide_eq_false (by omega)
          rw [hxw, outR_one hU0]
          simp
        | succ r =>
          have hxw : decide (x + 1 < w) = true := decide_eq_true (by omega)
          rw [outR_two hU0, hxw, Bool.true_and]
          have hU1 : U (x + 1) = !(m.testBit (x + 1) && (d / 2 ^ (x + 1) + o * 2 ^ (r + 1)) % 2 == 0) := by
            rw [hU]
            have := odd_sum (d := d) (o := o) (x := x + 1) (r := r)
            cases hd1 : d.testBit (x + 1)
            · rw [hd1] at this
              have h0 : (d / 2 ^ (x + 1) + o * 2 ^ (r + 1)) % 2 = 0 := by
                have : ¬ (d / 2 ^ (x + 1) + o * 2 ^ (r + 1)) % 2 = 1 := fun h => Bool.noConfusion (this.1 h)
                omega
              rw [h0]
              cases m.testBit (x + 1) <;> rfl
            · rw [hd1] at this
              rw [this.2 rfl]
              cases m.testBit (x + 1) <;> rfl
          have hr2 : (if (m.testBit (x + 1) && (d / 2 ^ (x + 1) + o * 2 ^ (r + 1)) % 2 == 0) = true then psN w m.testBit m'.testBit (r + 1) (x + 1) (d / 2 ^ (x + 1) + o * 2 ^ (r + 1) ||| 1) b else 0) = if b &&& m' = b then (if U (x + 1) = true then 0 else outR U r (x + 2) o b) else 0 := by
            by_cases hq : (m.testBit (x + 1) && (d / 2 ^ (x + 1) + o * 2 ^ (r + 1)) % 2 == 0) = true
            · have hU1' : ¬ U (x + 1) = true := by rw [hU1, hq]; decide
              rw [if_pos hq]
              simp only [if_neg hU1']
              rw [Bool.and_eq_true, beq_iff_eq] at hq
              rw [or_even hq.2, psN, if_pos hq.1, if_pos (by omega)]
              have e2 : (d / 2 ^ (x + 1) + o * 2 ^ (r + 1) + 1) / 2 = d / 2 ^ (x + 2) + o * 2 ^ r := by
                rw [show (d / 2 ^ (x + 1) + o * 2 ^ (r + 1) + 1) / 2 = (d / 2 ^ (x + 1) + o * 2 ^ (r + 1)) / 2 by omega, half_sum]
              rw [e2]
              exact ps_out hU hm hd hc n r (by omega) (x + 2) o (by omega) (Nat.lt_of_lt_of_le ho (Nat.pow_le_pow_right (by decide) (by omega))) hs
            · have hU1' : U (x + 1) = true := by rw [hU1]; cases hz : (m.testBit (x + 1) && (d / 2 ^ (x + 1) + o * 2 ^ (r + 1)) % 2 == 0) with | true => exact absurd hz hq | false => rfl
              rw [if_neg hq]
              simp only [if_pos hU1']
              simp
          rw [hr2]
          by_cases hb : b &&& m' = b
          · simp only [if_pos hb]
          · simp only [if_neg hb]
    · rw [if_neg hR]
      have hf : ¬ d.testBit x = true := fun h => hR (hc x h)
      rw [if_neg (fun h => hf (odd_sum.1 h)), i1, outR_full (by rw [hU]; simp [hR])]
/-- both ways, at the start of each row -/
theorem vs_ni {w h : Nat} {R : Nat → Nat} (hw : 1 ≤ w) (hR : ∀ y, R y < 2 ^ w) : ∀ (y b : Nat), b < 2 ^ w →
    vsN w h (fun x y => (R y).testBit x) (w * y) b = if b &&& R y = b then niN w R y b else 0
  | 0, b, hb => by
    rw [Nat.mul_zero, vsN, niN, isN]
    by_cases e : b = 0
    · subst e; simp
    · simp [e]
  | y + 1, b, hb => by
    rw [vs_next hw hb, niN]
    have : ∀ s, s < 2 ^ w → vsN w h (fun x y => (R y).testBit x) (w * y) s * psN w (fun j => (R y).testBit j) (fun j => (R (y + 1)).testBit j) w 0 s b = if b &&& R (y + 1) = b then (if s &&& R y = s then niN w R y s * outR (fun j => s.testBit j || !(R y).testBit j) w 0 0 b else 0) else 0 := by
      intro s hs
      rw [vs_ni hw hR y s hs]
      by_cases hsub : s &&& R y = s
      · rw [if_pos hsub, if_pos hsub]
        have := ps_out (U := fun j => s.testBit j || !(R y).testBit j) (m' := R (y + 1)) (fun _ => rfl) (hR y) hs (sub_iff.1 hsub) (b := b) w w (Nat.le_refl _) 0 0 (by omega) (by decide) (by simp)
        rw [Nat.pow_zero, Nat.div_one, Nat.zero_mul, Nat.add_zero] at this
        have e : psN w (fun j => (R y).testBit j) (fun j => (R (y + 1)).testBit j) w 0 s b = if b &&& R (y + 1) = b then outR (fun j => s.testBit j || !(R y).testBit j) w 0 0 b else 0 := this
        rw [e]
        split <;> simp
      · rw [if_neg hsub, if_neg hsub]
        simp
    rw [sumN_congr (fun s hs => this s hs)]
    by_cases hb2 : b &&& R (y + 1) = b
    · simp only [if_pos hb2]
    · simp only [if_neg hb2]
      exact sumN_zero fun _ _ => rfl
/-- both ways in the end -/
theorem vs_end {w h : Nat} {R : Nat → Nat} (hw : 1 ≤ w) (hR : ∀ y, R y < 2 ^ w) : vsN w h (fun x y => (R y).testBit x) (w * h) 0 = niN w R h 0 := by
  rw [vs_ni hw hR h 0 (Nat.two_pow_pos _)]
  simp
end Go.Proofs.YtoccedebiacbiaaDoor

namespace Go.Proofs.YtoccedebiacbiaaDoor
open Go.RowKit

/-- a row that holds f's numbers, as they wrap round -/
def VL (f : Nat → Nat) (n : Nat) : List Int := (List.range n).map fun b => wrap64 ((f b : Nat) : Int)
theorem VL_len {f : Nat → Nat} {n : Nat} : (VL f n).length = n := by simp [VL]
theorem VL_at {f : Nat → Nat} {n b : Nat} (h : b < n) : (VL f n)[b]? = some (wrap64 ((f b : Nat) : Int)) := by
  rw [VL, List.getElem?_map, List.getElem?_range h]
  rfl
theorem VL_congr {f g : Nat → Nat} {n : Nat} (h : ∀ b, b < n → f b = g b) : VL f n = VL g n :=
  List.map_congr_left fun b hb => by rw [h b (List.mem_range.1 hb)]
theorem wr_add (a b : Int) : wrap64 (wrap64 a + wrap64 b) = wrap64 (a + b) := by
  unfold wrap64
  omega
theorem VL_set {f : Nat → Nat} {n t k : Nat} (ht : t < n) : (VL f n).set t (wrap64 (wrap64 ((f t : Nat) : Int) + wrap64 ((k : Nat) : Int))) = VL (fun b => f b + k * isN b t) n := by
  apply List.ext_getElem?
  intro b
  by_cases hb : b < n
  · by_cases e : b = t
    · subst e
      rw [List.getElem?_set_self (by rw [VL_len]; exact hb), VL_at hb, wr_add, isN, if_pos rfl, Nat.mul_one, Int.natCast_add]
    · rw [List.getElem?_set_ne (fun h => e h.symm), VL_at hb, VL_at hb, isN, if_neg e, Nat.mul_zero, Nat.add_zero]
  · rw [List.getElem?_eq_none (by rw [List.length_set, VL_len]; omega), List.getElem?_eq_none (by rw [VL_len]; omega)]
theorem VL_zero {n : Nat} : VL (fun _ => 0) n = List.replicate n 0 := by
  apply List.ext_getElem?
  intro b
  by_cases hb : b < n
  · rw [VL_at hb, List.getElem?_replicate, if_pos hb]; simp [wrap64]
  · rw [List.getElem?_eq_none (by rw [VL_len]; omega), List.getElem?_eq_none (by rw [List.length_replicate]; omega)]
theorem VL_skip {f g : Nat → Nat} {n k : Nat} (h : wrap64 ((k : Nat) : Int) = 0) : VL (fun b => f b + k * g b) n = VL f n := by
  refine List.map_congr_left fun b _ => ?_
  have hk : ((k : Nat) : Int) % 18446744073709551616 = 0 := by unfold wrap64 at h; omega
  obtain ⟨q, hq⟩ := Int.dvd_of_emod_eq_zero hk
  rw [Int.natCast_add, Int.natCast_mul, hq, Int.mul_assoc]
  generalize q * ((g b : Nat) : Int) = z
  unfold wrap64
  omega
theorem stN_of (w s b : Nat) (u r : Bool) (h : s % 2 = 1) : stN w false u r s b = 0 := by simp [stN, h]
theorem stN_oe (w s b : Nat) (u r : Bool) (h : ¬ s % 2 = 1) : stN w false u r s b = isN b (s / 2) := by simp [stN, h]
theorem stN_if (w s b : Nat) (u r : Bool) (h : s % 2 = 1) : stN w true u r s b = isN b (s / 2) := by simp [stN, h]
theorem stN_ie (w s b : Nat) (u r : Bool) (h : ¬ s % 2 = 1) : stN w true u r s b = (if u then isN b (s / 2 ||| 2 ^ (w - 1)) else 0) + (if r && s / 2 % 2 == 0 then isN b (s / 2 ||| 1) else 0) := by simp [stN, h]
/-- the numbers of the next row while the profiles below s are done -/
def nxN (w h : Nat) (I : Nat → Nat → Bool) (i s b : Nat) : Nat := sumN (fun s => vsN w h I i s * stN w (I (i % w) (i / w)) (I (i % w) (i / w + 1)) (decide (i % w + 1 < w) && I (i % w + 1) (i / w)) s b) s
theorem nxN_zero {w h i b : Nat} {I : Nat → Nat → Bool} : nxN w h I i 0 b = 0 := rfl
theorem nxN_succ {w h i s b : Nat} {I : Nat → Nat → Bool} : nxN w h I i (s + 1) b = nxN w h I i s b + vsN w h I i s * stN w (I (i % w) (i / w)) (I (i % w) (i / w + 1)) (decide (i % w + 1 < w) && I (i % w + 1) (i / w)) s b := rfl
theorem nxN_all {w h i b : Nat} {I : Nat → Nat → Bool} : nxN w h I i (2 ^ w) b = vsN w h I (i + 1) b := rfl
/-- is a place of the grid in -/
def Reg.inI (r : Reg) (x y : Nat) : Bool := r.has (x : Int) (y : Int)
/-- the rows, and empty ones behind them -/
def Reg.rowZ (r : Reg) (y : Nat) : Nat := if y < r.rows.length then r.row y else 0
theorem row_ltZ {r : Reg} (hv : r.Valid) (y : Nat) : r.rowZ y < 2 ^ r.w.toNat := by
  unfold Reg.rowZ
  split
  · rename_i h
    exact Reg.row_lt hv y
  · exact Nat.two_pow_pos _
theorem inI_row {r : Reg} (hv : r.Valid) : r.inI = fun x y => (r.rowZ y).testBit x := by
  funext x y
  have hw := hv.1
  unfold Reg.inI Reg.rowZ
  by_cases hy : y < r.rows.length
  · rw [if_pos hy]
    by_cases hx : (x : Int) < r.w
    · exact Reg.has_eq hx hy
    · have h1 : (r.row y).testBit x = false := Nat.testBit_lt_two_pow (Nat.lt_of_lt_of_le (Reg.row_lt hv y) (Nat.pow_le_pow_right (by decide) (by omega)))
      rw [h1]
      unfold Reg.has
      rw [decide_eq_false (by omega)]
      rfl
  · rw [if_neg hy, Nat.zero_testBit]
    unfold Reg.has
    rw [decide_eq_false (by omega)]
    rfl
/-- the number of the tilings by dominoes, as it wraps round -/
def domZ (r : Reg) : Int := wrap64 ((niN r.w.toNat r.rowZ r.rows.length 0 : Nat) : Int)
theorem dom_vs {r : Reg} (hv : r.Valid) : vsN r.w.toNat r.rows.length r.inI (r.w.toNat * r.rows.length) 0 = niN r.w.toNat r.rowZ r.rows.length 0 := by
  rw [inI_row hv]
  exact vs_end (by have := hv.1; omega) (row_ltZ hv)
end Go.Proofs.YtoccedebiacbiaaDoor

namespace Go.Proofs.YtoccedebiacbiaaDoor
open Go.RowKit

set_option maxRecDepth 100000 in
set_option maxHeartbeats 6400000 in
theorem spec_dominoes_c {v : Value} {r : Reg} (w : World) (h : RegRd w 0 w.heap.size v r) (hv : r.Valid) :
    Calls Tryd.prog 17 #[v] w fun e w' => e = .returned (.int .i64 (domZ r)) ∧ Below w.heap.size w w' := by
  obtain ⟨i0, hi, hz0, hz1, hz2⟩ := info_parts (show (Tryd.prog.info? 3).map (fun i => (i.zero, i.size, i.bytes)) = some (some (.int .i64 0), 1, 8) by kernel_rfl)
  obtain ⟨s, rfl, hs⟩ := h
  have hs0 := hs
  obtain ⟨A, c, rfl, _, _⟩ := hs
  have HIR := Lib.hid (fun (W : World) (hb : Below w.heap.size w W) (hsz : w.heap.size ≤ W.heap.size) => spec_IsRegion_c (r := r) W ⟨_, rfl, ((hs0.keep (SameIn.of_below hb (Nat.le_refl _))).more (Nat.le_refl _) hsz)⟩)
  rw [show r.valid = true from decide_eq_true hv] at HIR
  have HIN := Lib.hid (fun (x y : Int) (W : World) (hb : Below w.heap.size w W) (hsz : w.heap.size ≤ W.heap.size) => spec_has_c (r := r) x y W ⟨_, rfl, ((hs0.keep (SameIn.of_below hb (Nat.le_refl _))).more (Nat.le_refl _) hsz)⟩ hv)
  have HZ : Hid (domZ r = wrap64 ((vsN r.w.toNat r.rows.length r.inI (r.w.toNat * r.rows.length) 0 : Nat) : Int)) := Lib.hid (by rw [dom_vs hv]; rfl)
  have v1 := hv.1
  have v2 := hv.2.1
  have v3 := hv.2.2.1
  have v4 := hv.2.2.2.1
  have hw0 : r.w = (r.w.toNat : Int) := by omega
  rw [hw0] at HIR HIN ⊢
  have HI : Hid (∀ x y : Nat, r.has (x : Int) (y : Int) = r.inI x y) := Lib.hid fun _ _ => rfl
  generalize r.inI = I at *
  generalize r.has = hasF at *
  generalize domZ r = Z at *
  have hwn6 : r.w.toNat ≤ 6 := by omega
  have hhn6 : r.rows.length ≤ 6 := by omega
  have hwn1 : 1 ≤ r.w.toNat := by omega
  clear hw0 hv hs0 v1 v2 v3 v4
  generalize r.w.toNat = wn at *
  generalize r.rows.length = hn at *
  obtain ⟨n, hn'⟩ : ∃ n, n = 2 ^ wn := ⟨_, rfl⟩
  have hn64 : n ≤ 64 := by rw [hn']; exact Nat.pow_le_pow_right (by decide) hwn6
  have hn2 : 2 ≤ n := by rw [hn']; exact Nat.pow_le_pow_right (n := 2) (by decide) hwn1
  have HNP := Lib.hid hn'
  have hpw : wrap64 (2 ^ wn) = (n : Int) := by
    have : ((2 : Int) ^ wn) = (n : Int) := by rw [hn']; simp
    rw [this]; exact IntWalk.wrap64_in _ (by omega)
  have hN : wn * hn ≤ 36 := Nat.mul_le_mul hwn6 hhn6
  obtain ⟨N, hN'⟩ : ∃ N, N = wn * hn := ⟨_, rfl⟩
  have HNN := Lib.hid hN'
  rw [← hN'] at hN
  have hmk := fun W => run_make_rowN (P := Tryd.prog) 22 3 i0 _ Tryd.underlying22 hi hz0 .i64 .i64 n n (Nat.le_refl _) (by rw [hz2]; omega) (by omega) W
  rw [hz1] at hmk
  simp only [Nat.mul_one] at hmk
  have em : madeCells #[.int .i64 0] n = (ic (List.replicate n 0)).toArray := by apply Array.ext'; rw [toList_madeCells_one]; simp only [ic, List.map_replicate]
  simp only [show (Value.int IntKind.i64 0).cells = #[.int .i64 0] from rfl, em] at hmk
  have H0 := (Sep.start w).box 27 #[.int .i64 wn, .slice A hn c]
  obtain ⟨g, hg⟩ : ∃ g, g = w.heap.size := ⟨_, rfl⟩
  rw [← hg] at H0
  clear hn' hN' em
  go_enter Tryd.func17, Tryd.ntmps17
  go_upto_region 1 with fail
  rw [← hg]
  generalize (w.alloc (.cells #[.int .i64 wn, .slice A hn c] 27)) = W at *
  clear hg
  have c0 : W.cell? ⟨g, 0, none⟩ = some (.int .i64 wn) := H0.h0.cell 0
  have c1 : W.cell? ⟨g, 1, none⟩ = some (.slice A hn c) := H0.h0.cell 1
  go_wp2_with fail
  refine ((HIR.out) _ H0.below H0.below.size).mono ?_
  rintro e w1 ⟨rfl, b1⟩
  have H1 := (H0.step b1).rowBox 3 (ic (List.replicate n 0)).toArray 1 n (by simp [ic]) (by unfold maxLen; omega)
  clear c0 c1
  have c0 : w1.cell? ⟨g, 0, none⟩ = some (.int .i64 wn) := (H0.step b1).h0.cell 0
  have c1 : w1.cell? ⟨g, 1, none⟩ = some (.slice A hn c) := (H0.step b1).h0.cell 1
  clear H0 b1
  go_upto_region 5 with fail
  rw [hpw]
  obtain ⟨gr, hgr⟩ : ∃ k, k = w1.heap.size := ⟨_, rfl⟩
  rw [← hgr] at H1 ⊢
  generalize w1.alloc (.cells (ic (List.replicate n 0)).toArray 3) = W1 at *
  clear hgr c0 c1
  have x1 : W1.cell? ⟨gr, 0, none⟩ = some (.int .i64 0) := by
    have := own_cell1 H1.h0 (j := 0) (u := 0) (by rw [List.getElem?_replicate, if_pos (by omega)])
    simpa using this
  have fr : W1.frozen? ⟨gr, 0, none⟩ = false := by
    have := own_free H1.h0 0
    simpa using this
  have H2 := H1.setRow (j := 0) (by simp [ic]; omega) (.int .i64 1)
  clear H1
  go_upto_region 6 with fail
  have e0 : (ic (List.replicate n 0)).set 0 (.int .i64 1) = ic (VL (vsN wn hn I 0) n) := by
    have h1 := VL_set (f := fun _ => 0) (n := n) (t := 0) (k := 1) (by omega)
    rw [VL_zero] at h1
    have h2 : wrap64 (wrap64 ((0 : Nat) : Int) + wrap64 ((1 : Nat) : Int)) = 1 := by simp [wrap64]
    rw [h2] at h1
    rw [ic_set, h1]
    congr 1
    exact VL_congr fun b _ => by rw [Nat.zero_add, Nat.one_mul]; rfl
  simp only [Nat.add_zero] at H2
  rw [e0] at H2
  generalize W1.setCell ⟨gr, 0, none⟩ (.int .i64 1) = W2 at *
  clear x1 fr e0
  go_wp2
  go_loopw [4, 5] (fun av iv wx => ∃ i : Nat, i ≤ N ∧ iv = .int .i64 i ∧ Sep w wx [Res.row av 3 1 n (ic (VL (vsN wn hn I i) n)), Res.box g 27 #[.int .i64 wn, .slice A hn c]]) (fun _ iv _ => N - (intOf iv).toNat)
  case atStart => exact ⟨0, Nat.zero_le _, rfl, H2⟩
  case round =>
    clear H2
    obtain ⟨i, hi', rfl, H⟩ := hrel
    have c1 : wr.cell? ⟨g, 1, none⟩ = some (.slice A hn c) := H.h1.cell 1
    have m1 : wrap64 ((wn : Int) * (hn : Int)) = (N : Int) := by rw [HNN.out, ← Int.natCast_mul]; exact IntWalk.wrap64_in _ (by rw [← HNN.out]; omega)
    obtain ⟨gw, ow, cw, rfl, hcw1, hcw2, _⟩ := own_shape H.h0 (by omega)
    obtain ⟨rfl, _⟩ := own_blk H.h0
    by_cases hlt : i < N
    · have hlti : (i : Int) < (N : Int) := by omega
      obtain ⟨x, hx⟩ : ∃ x, x = i % wn := ⟨_, rfl⟩
      obtain ⟨y, hy⟩ : ∃ y, y = i / wn := ⟨_, rfl⟩
      have hx1 : x < wn := by rw [hx]; exact Nat.mod_lt _ (by omega)
      have hy1 : y < hn := by rw [hy]; exact Nat.div_lt_of_lt_mul (by rw [← HNN.out]; exact hlt)
      have HNX : Hid (∀ s b, nxN wn hn I i (s + 1) b = nxN wn hn I i s b + vsN wn hn I i s * stN wn (I x y) (I x (y + 1)) (decide (x + 1 < wn) && I (x + 1) y) s b) := Lib.hid (by rw [hx, hy]; exact fun _ _ => rfl)
      have hxm : (i : Int) % (wn : Int) = (x : Int) := by rw [hx]; exact (Int.natCast_emod i wn).symm
      have hym : (i : Int) / (wn : Int) = (y : Int) := by rw [hy]; exact (Int.natCast_ediv i wn).symm
      have hwz : ¬ (wn : Int) = 0 := by omega
      clear hx hy
      go_upto_region 12 with fail
      simp only [hxm, hpw]
      have H1 := H.rowBox 3 (ic (List.replicate n 0)).toArray 1 n (by simp [ic]) (by unfold maxLen; omega)
      obtain ⟨gn, hgn⟩ : ∃ k, k = wr.heap.size := ⟨_, rfl⟩
      rw [← hgn] at H1 ⊢
      generalize wr.alloc (.cells (ic (List.replicate n 0)).toArray 3) = W3 at *
      have e0 : ((ic (List.replicate n 0)).toArray).toList = ic (VL (nxN wn hn I i 0) n) := by
        show ic (List.replicate n 0) = _
        rw [← VL_zero]
        rfl
      rw [e0] at H1
      clear hgn c1 m1 H e0 hxm hym
      go_wp2
      go_loopw [9] (fun sv wx => ∃ s : Nat, s ≤ n ∧ sv = .int .i64 s ∧ Sep w wx [Res.row (.slice (some ⟨gn, 0, none⟩) n n) 3 1 n (ic (VL (nxN wn hn I i s) n)), Res.row (.slice (some ⟨gw, 0, none⟩) n cw) 3 1 n (ic (VL (vsN wn hn I i) n)), Res.box g 27 #[.int .i64 wn, .slice A hn c]]) (fun sv _ => n - (intOf sv).toNat)
      case atStart => exact ⟨0, Nat.zero_le _, rfl, H1⟩
      case round =>
        clear H1
        obtain ⟨s, hs', rfl, H⟩ := hrel
        by_cases hls : s < n
        · have hlsi : (s : Int) < (n : Int) := by omega
          obtain ⟨V, hV⟩ : ∃ V, V = vsN wn hn I i s := ⟨_, rfl⟩
          obtain ⟨X, hX⟩ : ∃ X, X = wrap64 ((V : Nat) : Int) := ⟨_, rfl⟩
          have x1 : wr.cell? ⟨gw, s, none⟩ = some (.int .i64 X) := by
            have := own_cell1 H.h1 (VL_at (f := vsN wn hn I i) hls)
            rw [hX, hV]
            simpa using this
          have HX := Lib.hid hX
          have HN1 : Hid (∀ b, nxN wn hn I i (s + 1) b = nxN wn hn I i s b + V * stN wn (I x y) (I x (y + 1)) (decide (x + 1 < wn) && I (x + 1) y) s b) := Lib.hid (by rw [hV]; exact HNX.out s)
          clear hV hX
          obtain ⟨t, ht⟩ : ∃ t, t = s / 2 := ⟨_, rfl⟩
          have HTI : Hid ((s : Int) / 2 = (t : Int)) := Lib.hid (by omega)
          have htn : t < n := by omega
          have HT2 := Lib.hid ht
          clear ht
          have hfull : (bits .and .i64 (s : Int) 1 == 1) = decide (s % 2 = 1) := by
            have := bit_test (m := s) (x := 0) (by omega)
            simp only [Int.pow_zero, Int.ediv_one] at this
            rw [this, Nat.testBit_zero]
          have HF := Lib.hid hfull
          clear hfull
          go_upto_region 22 with fail
          rw [HF.out]
          rw [HTI.out]
          clear x1
          have HIa := Lib.hid (HIN.out (x : Int) (y : Int))
          rw [HI.out x y] at HIa
          have HIb := Lib.hid (HIN.out (x : Int) ((y : Int) + 1))
          rw [show ((y : Int) + 1) = ((y + 1 : Nat) : Int) by omega, HI.out x (y + 1)] at HIb
          have HIc := Lib.hid (HIN.out ((x : Int) + 1) (y : Int))
          rw [show ((x : Int) + 1) = ((x + 1 : Nat) : Int) by omega, HI.out (x + 1) y] at HIc
          by_cases hX0 : X = 0
          · have HST : Hid (VL (nxN wn hn I i (s + 1)) n = VL (nxN wn hn I i s) n) := Lib.hid (by
              rw [VL_congr (fun b _ => HN1.out b)]
              exact VL_skip (by rw [← HX.out, hX0]))
            have hX1 : (X == 0) = true := by simpa using hX0
            clear hX0
            have H9 : Sep w wr [Res.row (.slice (some ⟨gn, 0, none⟩) n n) 3 1 n (ic (VL (nxN wn hn I i (s + 1)) n)), Res.row (.slice (some ⟨gw, 0, none⟩) n cw) 3 1 n (ic (VL (vsN wn hn I i) n)), Res.box g 27 #[.int .i64 wn, .slice A hn c]] := by
              rw [HST.out]; exact H
            clear H
            go_wp2
            skip
            go_roundw
            case rel => exact ⟨s + 1, by omega, by go_num, H9⟩
            case measure => simp [intOf]; omega
          · have hX1 : (X == 0) = false := by simpa using hX0
            clear hX0
            cases hin : I x y
            · rw [hin] at HIa
              have c0 : wr.cell? ⟨g, 0, none⟩ = some (.int .i64 wn) := H.h2.cell 0
              have c1 : wr.cell? ⟨g, 1, none⟩ = some (.slice A hn c) := H.h2.cell 1
              go_wp2_with fail
              refine ((HIa.out) _ H.below H.below.size).mono ?_
              rintro e w5 ⟨rfl, b5⟩
              have H5 := H.step b5
              clear H b5 c0 c1
              by_cases hf : s % 2 = 1
              · have hd : decide (s % 2 = 1) = true := decide_eq_true hf
                have HST : Hid (VL (nxN wn hn I i (s + 1)) n = VL (nxN wn hn I i s) n) := Lib.hid (by
                  rw [VL_congr (fun b _ => HN1.out b), hin]
                  exact VL_congr fun b _ => by rw [stN_of _ _ _ _ _ hf]; simp)
                clear hf hin
                have H9 : Sep w w5 [Res.row (.slice (some ⟨gn, 0, none⟩) n n) 3 1 n (ic (VL (nxN wn hn I i (s + 1)) n)), Res.row (.slice (some ⟨gw, 0, none⟩) n cw) 3 1 n (ic (VL (vsN wn hn I i) n)), Res.box g 27 #[.int .i64 wn, .slice A hn c]] := by
                  rw [HST.out]; exact H5
                clear H5
                go_wp2
                skip
                go_roundw
                case rel => exact ⟨s + 1, by omega, by go_num, H9⟩
                case measure => simp [intOf]; omega
              · have hd : decide (s % 2 = 1) = false := decide_eq_false hf
                have HN1 : Hid (∀ b, nxN wn hn I i (s + 1) b = nxN wn hn I i s b + V * isN b t) := Lib.hid (fun b => by rw [HN1.out b, hin, stN_oe _ _ _ _ _ hf, ← HT2.out])
                clear hf hin
                obtain ⟨F, hF⟩ : ∃ F : Nat → Nat, F = nxN wn hn I i s := ⟨_, rfl⟩
                rw [← hF] at H5
                have HFF := Lib.hid hF
                obtain ⟨Y, hY⟩ : ∃ Y, Y = wrap64 ((F t : Nat) : Int) := ⟨_, rfl⟩
                have x2 : w5.cell? ⟨gn, t, none⟩ = some (.int .i64 Y) := by
                  have := own_cell1 H5.h0 (VL_at (f := F) (show t < n by exact htn))
                  rw [hY]
                  simpa using this
                have fr : w5.frozen? ⟨gn, t, none⟩ = false := by
                  have := own_free H5.h0 t
                  simpa using this
                have H7 := H5.setRow (j := t) (by rw [ic_length, VL_len]; exact htn) (.int .i64 (wrap64 (Y + X)))
                have e3 : (ic (VL F n)).set t (.int .i64 (wrap64 (Y + X))) = ic (VL (fun b => F b + V * isN b t) n) := by
                  rw [ic_set, hY, HX.out, VL_set htn]
                rw [e3, Nat.zero_add] at H7
                clear e3 H5 hF hY
                have H8 : Sep w (w5.setCell ⟨gn, t, none⟩ (.int .i64 (wrap64 (Y + X)))) [Res.row (.slice (some ⟨gn, 0, none⟩) n n) 3 1 n (ic (VL (nxN wn hn I i (s + 1)) n)), Res.row (.slice (some ⟨gw, 0, none⟩) n cw) 3 1 n (ic (VL (vsN wn hn I i) n)), Res.box g 27 #[.int .i64 wn, .slice A hn c]] := by
                  rw [VL_congr (fun b _ => HN1.out b), ← HFF.out]; exact H7
                clear H7
                go_wp2
                go_roundw
                case rel => exact ⟨s + 1, by omega, by go_num, H8⟩
                case measure => simp [intOf]; omega
            · rw [hin] at HIa
              have c0 : wr.cell? ⟨g, 0, none⟩ = some (.int .i64 wn) := H.h2.cell 0
              have c1 : wr.cell? ⟨g, 1, none⟩ = some (.slice A hn c) := H.h2.cell 1
              go_wp2_with fail
              refine ((HIa.out) _ H.below H.below.size).mono ?_
              rintro e w5 ⟨rfl, b5⟩
              have H5 := H.step b5
              clear H b5 c0 c1
              by_cases hf : s % 2 = 1
              · have hd : decide (s % 2 = 1) = true := decide_eq_true hf
                have HN1 : Hid (∀ b, nxN wn hn I i (s + 1) b = nxN wn hn I i s b + V * isN b t) := Lib.hid (fun b => by rw [HN1.out b, hin, stN_if _ _ _ _ _ hf, ← HT2.out])
                clear hf hin
                obtain ⟨F, hF⟩ : ∃ F : Nat → Nat, F = nxN wn hn I i s := ⟨_, rfl⟩
                rw [← hF] at H5
                have HFF := Lib.hid hF
                obtain ⟨Y, hY⟩ : ∃ Y, Y = wrap64 ((F t : Nat) : Int) := ⟨_, rfl⟩
                have x2 : w5.cell? ⟨gn, t, none⟩ = some (.int .i64 Y) := by
                  have := own_cell1 H5.h0 (VL_at (f := F) (show t < n by exact htn))
                  rw [hY]
                  simpa using this
                have fr : w5.frozen? ⟨gn, t, none⟩ = false := by
                  have := own_free H5.h0 t
                  simpa using this
                have H7 := H5.setRow (j := t) (by rw [ic_length, VL_len]; exact htn) (.int .i64 (wrap64 (Y + X)))
                have e3 : (ic (VL F n)).set t (.int .i64 (wrap64 (Y + X))) = ic (VL (fun b => F b + V * isN b t) n) := by
                  rw [ic_set, hY, HX.out, VL_set htn]
                rw [e3, Nat.zero_add] at H7
                clear e3 H5 hF hY
                have H8 : Sep w (w5.setCell ⟨gn, t, none⟩ (.int .i64 (wrap64 (Y + X)))) [Res.row (.slice (some ⟨gn, 0, none⟩) n n) 3 1 n (ic (VL (nxN wn hn I i (s + 1)) n)), Res.row (.slice (some ⟨gw, 0, none⟩) n cw) 3 1 n (ic (VL (vsN wn hn I i) n)), Res.box g 27 #[.int .i64 wn, .slice A hn c]] := by
                  rw [VL_congr (fun b _ => HN1.out b), ← HFF.out]; exact H7
                clear H7
                go_wp2
                go_roundw
                case rel => exact ⟨s + 1, by omega, by go_num, H8⟩
                case measure => simp [intOf]; omega
              · have hd : decide (s % 2 = 1) = false := decide_eq_false hf
                have HN1 : Hid (∀ b, nxN wn hn I i (s + 1) b = nxN wn hn I i s b + V * ((if I x (y + 1) then isN b (t ||| 2 ^ (wn - 1)) else 0) + (if (decide (x + 1 < wn) && I (x + 1) y) && t % 2 == 0 then isN b (t ||| 1) else 0))) := Lib.hid (fun b => by rw [HN1.out b, hin, stN_ie _ _ _ _ _ hf, ← HT2.out])
                clear hf hin
                cases hu : I x (y + 1)
                · rw [hu] at HIb
                  have c0 : w5.cell? ⟨g, 0, none⟩ = some (.int .i64 wn) := H5.h2.cell 0
                  have c1 : w5.cell? ⟨g, 1, none⟩ = some (.slice A hn c) := H5.h2.cell 1
                  go_wp2_with fail
                  refine ((HIb.out) _ H5.below H5.below.size).mono ?_
                  rintro e w6 ⟨rfl, b5⟩
                  have H6 := H5.step b5
                  clear H5 b5 c0 c1
                  have HN2 : Hid (∀ b, nxN wn hn I i (s + 1) b = (nxN wn hn I i s) b + V * (if (decide (x + 1 < wn) && I (x + 1) y) && t % 2 == 0 then isN b (t ||| 1) else 0)) := Lib.hid (fun b => by rw [HN1.out b, hu]; simp)
                  clear HN1 hu
                  cases hxw : decide (x + 1 < wn)
                  · have hx2 : decide ((x : Int) + 1 < (wn : Int)) = false := by rw [decide_eq_false_iff_not] at hxw ⊢; omega
                    have HST : Hid (VL (nxN wn hn I i (s + 1)) n = VL (nxN wn hn I i s) n) := Lib.hid (VL_congr fun b _ => by rw [HN2.out b, hxw]; simp)
                    clear hxw
                    have H9 : Sep w w6 [Res.row (.slice (some ⟨gn, 0, none⟩) n n) 3 1 n (ic (VL (nxN wn hn I i (s + 1)) n)), Res.row (.slice (some ⟨gw, 0, none⟩) n cw) 3 1 n (ic (VL (vsN wn hn I i) n)), Res.box g 27 #[.int .i64 wn, .slice A hn c]] := by
                      rw [HST.out]; exact H6
                    clear H6
                    go_wp2
                    skip
                    go_roundw
                    case rel => exact ⟨s + 1, by omega, by go_num, H9⟩
                    case measure => simp [intOf]; omega
                  · have hx2 : decide ((x : Int) + 1 < (wn : Int)) = true := by rw [decide_eq_true_iff] at hxw ⊢; omega
                    cases hq : I (x + 1) y
                    · rw [hq] at HIc
                      have HST : Hid (VL (nxN wn hn I i (s + 1)) n = VL (nxN wn hn I i s) n) := Lib.hid (VL_congr fun b _ => by rw [HN2.out b, hxw, hq]; simp)
                      clear hxw hq
                      have c0 : w6.cell? ⟨g, 0, none⟩ = some (.int .i64 wn) := H6.h2.cell 0
                      have c1 : w6.cell? ⟨g, 1, none⟩ = some (.slice A hn c) := H6.h2.cell 1
                      go_wp2_with fail
                      refine ((HIc.out) _ H6.below H6.below.size).mono ?_
                      rintro e w7 ⟨rfl, b5⟩
                      have Hd := H6.step b5
                      clear H6 b5 c0 c1
                      have H9 : Sep w w7 [Res.row (.slice (some ⟨gn, 0, none⟩) n n) 3 1 n (ic (VL (nxN wn hn I i (s + 1)) n)), Res.row (.slice (some ⟨gw, 0, none⟩) n cw) 3 1 n (ic (VL (vsN wn hn I i) n)), Res.box g 27 #[.int .i64 wn, .slice A hn c]] := by
                        rw [HST.out]; exact Hd
                      clear Hd
                      go_wp2
                      skip
                      go_roundw
                      case rel => exact ⟨s + 1, by omega, by go_num, H9⟩
                      case measure => simp [intOf]; omega
                    · rw [hq] at HIc
                      have hev : (bits .and .i64 (t : Int) 1 == 0) = decide (t % 2 = 0) := by
                        have := bit_test0 (m := t) (x := 0) (by omega)
                        simp only [Int.pow_zero, Int.ediv_one] at this
                        rw [this, Nat.testBit_zero]
                        rcases Nat.mod_two_eq_zero_or_one t with h | h <;> rw [h] <;> rfl
                      by_cases ht2 : t % 2 = 0
                      · rw [decide_eq_true ht2] at hev
                        obtain ⟨t1, ht1⟩ : ∃ t1, t1 = t + 1 := ⟨_, rfl⟩
                        have h1n : t1 < n := by have := HT2.out; omega
                        have hor : bits .or .i64 (t : Int) 1 = (t1 : Int) := by
                          have := or_step (a := t) (m := 1) (p := 0) (by omega) (by omega)
                          simp [wrap64] at this
                          rw [this, or_even ht2, ht1]
                        have HN1 : Hid (∀ b, nxN wn hn I i (s + 1) b = (nxN wn hn I i s) b + V * isN b t1) := Lib.hid (fun b => by rw [HN2.out b, hxw, hq, ht1, ← or_even ht2]; simp [ht2])
                        have HOR := Lib.hid hor
                        clear hxw hq ht2 ht1 hor HN2
                        have c0 : w6.cell? ⟨g, 0, none⟩ = some (.int .i64 wn) := H6.h2.cell 0
                        have c1 : w6.cell? ⟨g, 1, none⟩ = some (.slice A hn c) := H6.h2.cell 1
                        go_wp2_with fail
                        refine ((HIc.out) _ H6.below H6.below.size).mono ?_
                        rintro e w7 ⟨rfl, b5⟩
                        have Hd := H6.step b5
                        clear H6 b5 c0 c1
                        have hor := HOR.out
                        obtain ⟨F, hF⟩ : ∃ F : Nat → Nat, F = nxN wn hn I i s := ⟨_, rfl⟩
                        rw [← hF] at Hd
                        have HFF := Lib.hid hF
                        obtain ⟨Y, hY⟩ : ∃ Y, Y = wrap64 ((F t1 : Nat) : Int) := ⟨_, rfl⟩
                        have x2 : w7.cell? ⟨gn, t1, none⟩ = some (.int .i64 Y) := by
                          have := own_cell1 Hd.h0 (VL_at (f := F) (show t1 < n by exact h1n))
                          rw [hY]
                          simpa using this
                        have fr : w7.frozen? ⟨gn, t1, none⟩ = false := by
                          have := own_free Hd.h0 t1
                          simpa using this
                        have H7 := Hd.setRow (j := t1) (by rw [ic_length, VL_len]; exact h1n) (.int .i64 (wrap64 (Y + X)))
                        have e3 : (ic (VL F n)).set t1 (.int .i64 (wrap64 (Y + X))) = ic (VL (fun b => F b + V * isN b t1) n) := by
                          rw [ic_set, hY, HX.out, VL_set h1n]
                        rw [e3, Nat.zero_add] at H7
                        clear e3 Hd hF hY
                        have H8 : Sep w (w7.setCell ⟨gn, t1, none⟩ (.int .i64 (wrap64 (Y + X)))) [Res.row (.slice (some ⟨gn, 0, none⟩) n n) 3 1 n (ic (VL (nxN wn hn I i (s + 1)) n)), Res.row (.slice (some ⟨gw, 0, none⟩) n cw) 3 1 n (ic (VL (vsN wn hn I i) n)), Res.box g 27 #[.int .i64 wn, .slice A hn c]] := by
                          rw [VL_congr (fun b _ => HN1.out b), ← HFF.out]; exact H7
                        clear H7
                        go_wp2
                        go_roundw
                        case rel => exact ⟨s + 1, by omega, by go_num, H8⟩
                        case measure => simp [intOf]; omega
                      · rw [decide_eq_false ht2] at hev
                        have HST : Hid (VL (nxN wn hn I i (s + 1)) n = VL (nxN wn hn I i s) n) := Lib.hid (VL_congr fun b _ => by rw [HN2.out b, hxw, hq]; simp [ht2])
                        clear hxw hq ht2
                        have c0 : w6.cell? ⟨g, 0, none⟩ = some (.int .i64 wn) := H6.h2.cell 0
                        have c1 : w6.cell? ⟨g, 1, none⟩ = some (.slice A hn c) := H6.h2.cell 1
                        go_wp2_with fail
                        refine ((HIc.out) _ H6.below H6.below.size).mono ?_
                        rintro e w7 ⟨rfl, b5⟩
                        have Hd := H6.step b5
                        clear H6 b5 c0 c1
                        have H9 : Sep w w7 [Res.row (.slice (some ⟨gn, 0, none⟩) n n) 3 1 n (ic (VL (nxN wn hn I i (s + 1)) n)), Res.row (.slice (some ⟨gw, 0, none⟩) n cw) 3 1 n (ic (VL (vsN wn hn I i) n)), Res.box g 27 #[.int .i64 wn, .slice A hn c]] := by
                          rw [HST.out]; exact Hd
                        clear Hd
                        go_wp2
                        skip
                        go_roundw
                        case rel => exact ⟨s + 1, by omega, by go_num, H9⟩
                        case measure => simp [intOf]; omega
                · rw [hu] at HIb
                  have c0 : w5.cell? ⟨g, 0, none⟩ = some (.int .i64 wn) := H5.h2.cell 0
                  have c1 : w5.cell? ⟨g, 1, none⟩ = some (.slice A hn c) := H5.h2.cell 1
                  go_wp2_with fail
                  refine ((HIb.out) _ H5.below H5.below.size).mono ?_
                  rintro e w6 ⟨rfl, b5⟩
                  have H6 := H5.step b5
                  clear H5 b5 c0 c1
                  obtain ⟨wm, hwm⟩ : ∃ wm, wm = wn - 1 := ⟨_, rfl⟩
                  have hwmi : (wn : Int) - 1 = (wm : Int) := by omega
                  have hwmw : IntKind.i64.wrap (wm : Int) = (wm : Int) := IntWalk.i64_in _ (by omega)
                  have hwm6 : (wm : Int) < 64 := by omega
                  obtain ⟨t2, ht2⟩ : ∃ t2, t2 = t ||| 2 ^ wm := ⟨_, rfl⟩
                  have hor : bits .or .i64 (t : Int) (wrap64 (2 ^ wm)) = (t2 : Int) := by
                    rw [ht2]
                    have hp : 2 ^ wm < 64 := Nat.pow_lt_pow_right (n := 6) (by decide) (by omega)
                    have := or_step (a := t) (m := 1) (p := wm) (by omega) (by omega)
                    simpa using this
                  have h2n : t2 < n := by
                    rw [ht2, HT2.out, hwm, HNP.out]
                    exact top_lt (by omega) (by rw [← HNP.out]; exact hls)
                  have HN3 : Hid (∀ b, nxN wn hn I i (s + 1) b = (fun b => nxN wn hn I i s b + V * isN b t2) b + V * (if (decide (x + 1 < wn) && I (x + 1) y) && t % 2 == 0 then isN b (t ||| 1) else 0)) := Lib.hid (fun b => by
                    rw [HN1.out b, hu, ht2, hwm, Nat.mul_add]
                    simp only [if_true]
                    omega)
                  clear HN1 hu ht2 hwm
                  have hor' : bits .or .i64 (t : Int) (IntKind.i64.wrap (2 ^ wm)) = (t2 : Int) := by
                    have hp : 2 ^ wm < 64 := Nat.pow_lt_pow_right (n := 6) (by decide) (by omega)
                    have e2 : ((2 : Int) ^ wm) = ((2 ^ wm : Nat) : Int) := by simp
                    rw [e2] at hor ⊢
                    generalize 2 ^ wm = p at *
                    rw [IntWalk.wrap64_in (p : Int) (by omega)] at hor
                    rw [IntWalk.i64_in (p : Int) (by omega)]
                    exact hor
                  obtain ⟨F, hF⟩ : ∃ F : Nat → Nat, F = nxN wn hn I i s := ⟨_, rfl⟩
                  rw [← hF] at H6
                  have HFF := Lib.hid hF
                  obtain ⟨Y, hY⟩ : ∃ Y, Y = wrap64 ((F t2 : Nat) : Int) := ⟨_, rfl⟩
                  have HYY := Lib.hid hY
                  have x2 : w6.cell? ⟨gn, t2, none⟩ = some (.int .i64 Y) := by
                    have := own_cell1 H6.h0 (VL_at (f := F) (show t2 < n by exact h2n))
                    rw [hY]
                    simpa using this
                  clear hF hY
                  go_wp2_with fail
                  go_still_tail 17, (by kernel_rfl)
                  change wpList _ _ _ _ _ w6.drew
                  have H8 := H6.drew
                  clear H6 x2
                  generalize w6.drew = w8 at *
                  have fr : w8.frozen? ⟨gn, t2, none⟩ = false := by
                    have := own_free H8.h0 t2
                    simpa using this
                  have x2 : w8.cell? ⟨gn, t2, none⟩ = some (.int .i64 Y) := by
                    have := own_cell1 H8.h0 (VL_at (f := F) (show t2 < n by exact h2n))
                    rw [HYY.out]
                    simpa using this
                  have H7 := H8.setRow (j := t2) (by rw [ic_length, VL_len]; exact h2n) (.int .i64 (wrap64 (Y + X)))
                  have e3 : (ic (VL F n)).set t2 (.int .i64 (wrap64 (Y + X))) = ic (VL (fun b => F b + V * isN b t2) n) := by
                    rw [ic_set, HYY.out, HX.out, VL_set h2n]
                  rw [e3, Nat.zero_add] at H7
                  clear e3 H8
                  obtain ⟨F1, hF1⟩ : ∃ F1 : Nat → Nat, F1 = fun b => F b + V * isN b t2 := ⟨_, rfl⟩
                  rw [← hF1] at H7
                  have HN2 : Hid (∀ b, nxN wn hn I i (s + 1) b = F1 b + V * (if (decide (x + 1 < wn) && I (x + 1) y) && t % 2 == 0 then isN b (t ||| 1) else 0)) := Lib.hid (fun b => by
                    rw [HN3.out b, hF1, HFF.out])
                  clear hF1 HFF HYY HN3
                  go_upto_region 20 with fail
                  generalize w8.setCell ⟨gn, t2, none⟩ (.int .i64 (wrap64 (Y + X))) = w10 at *
                  clear fr x2 hor hor' hwmi hwmw hwm6
                  cases hxw : decide (x + 1 < wn)
                  · have hx2 : decide ((x : Int) + 1 < (wn : Int)) = false := by rw [decide_eq_false_iff_not] at hxw ⊢; omega
                    have HST : Hid (VL (nxN wn hn I i (s + 1)) n = VL (F1) n) := Lib.hid (VL_congr fun b _ => by rw [HN2.out b, hxw]; simp)
                    clear hxw
                    have H9 : Sep w w10 [Res.row (.slice (some ⟨gn, 0, none⟩) n n) 3 1 n (ic (VL (nxN wn hn I i (s + 1)) n)), Res.row (.slice (some ⟨gw, 0, none⟩) n cw) 3 1 n (ic (VL (vsN wn hn I i) n)), Res.box g 27 #[.int .i64 wn, .slice A hn c]] := by
                      rw [HST.out]; exact H7
                    clear H7
                    go_wp2
                    skip
                    go_roundw
                    case rel => exact ⟨s + 1, by omega, by go_num, H9⟩
                    case measure => simp [intOf]; omega
                  · have hx2 : decide ((x : Int) + 1 < (wn : Int)) = true := by rw [decide_eq_true_iff] at hxw ⊢; omega
                    cases hq : I (x + 1) y
                    · rw [hq] at HIc
                      have HST : Hid (VL (nxN wn hn I i (s + 1)) n = VL (F1) n) := Lib.hid (VL_congr fun b _ => by rw [HN2.out b, hxw, hq]; simp)
                      clear hxw hq
                      have c0 : w10.cell? ⟨g, 0, none⟩ = some (.int .i64 wn) := H7.h2.cell 0
                      have c1 : w10.cell? ⟨g, 1, none⟩ = some (.slice A hn c) := H7.h2.cell 1
                      go_wp2_with fail
                      refine ((HIc.out) _ H7.below H7.below.size).mono ?_
                      rintro e w7 ⟨rfl, b5⟩
                      have Hd := H7.step b5
                      clear H7 b5 c0 c1
                      have H9 : Sep w w7 [Res.row (.slice (some ⟨gn, 0, none⟩) n n) 3 1 n (ic (VL (nxN wn hn I i (s + 1)) n)), Res.row (.slice (some ⟨gw, 0, none⟩) n cw) 3 1 n (ic (VL (vsN wn hn I i) n)), Res.box g 27 #[.int .i64 wn, .slice A hn c]] := by
                        rw [HST.out]; exact Hd
                      clear Hd
                      go_wp2
                      skip
                      go_roundw
                      case rel => exact ⟨s + 1, by omega, by go_num, H9⟩
                      case measure => simp [intOf]; omega
                    · rw [hq] at HIc
                      have hev : (bits .and .i64 (t : Int) 1 == 0) = decide (t % 2 = 0) := by
                        have := bit_test0 (m := t) (x := 0) (by omega)
                        simp only [Int.pow_zero, Int.ediv_one] at this
                        rw [this, Nat.testBit_zero]
                        rcases Nat.mod_two_eq_zero_or_one t with h | h <;> rw [h] <;> rfl
                      by_cases ht2 : t % 2 = 0
                      · rw [decide_eq_true ht2] at hev
                        obtain ⟨t1, ht1⟩ : ∃ t1, t1 = t + 1 := ⟨_, rfl⟩
                        have h1n : t1 < n := by have := HT2.out; omega
                        have hor : bits .or .i64 (t : Int) 1 = (t1 : Int) := by
                          have := or_step (a := t) (m := 1) (p := 0) (by omega) (by omega)
                          simp [wrap64] at this
                          rw [this, or_even ht2, ht1]
                        have HN1 : Hid (∀ b, nxN wn hn I i (s + 1) b = (F1) b + V * isN b t1) := Lib.hid (fun b => by rw [HN2.out b, hxw, hq, ht1, ← or_even ht2]; simp [ht2])
                        have HOR := Lib.hid hor
                        clear hxw hq ht2 ht1 hor HN2
                        have c0 : w10.cell? ⟨g, 0, none⟩ = some (.int .i64 wn) := H7.h2.cell 0
                        have c1 : w10.cell? ⟨g, 1, none⟩ = some (.slice A hn c) := H7.h2.cell 1
                        go_wp2_with fail
                        refine ((HIc.out) _ H7.below H7.below.size).mono ?_
                        rintro e w7 ⟨rfl, b5⟩
                        have Hd := H7.step b5
                        clear H7 b5 c0 c1
                        have hor := HOR.out
                        obtain ⟨F, hF⟩ : ∃ F : Nat → Nat, F = F1 := ⟨_, rfl⟩
                        rw [← hF] at Hd
                        have HFF := Lib.hid hF
                        obtain ⟨Y, hY⟩ : ∃ Y, Y = wrap64 ((F t1 : Nat) : Int) := ⟨_, rfl⟩
                        have x2 : w7.cell? ⟨gn, t1, none⟩ = some (.int .i64 Y) := by
                          have := own_cell1 Hd.h0 (VL_at (f := F) (show t1 < n by exact h1n))
                          rw [hY]
                          simpa using this
                        have fr : w7.frozen? ⟨gn, t1, none⟩ = false := by
                          have := own_free Hd.h0 t1
                          simpa using this
                        have H7 := Hd.setRow (j := t1) (by rw [ic_length, VL_len]; exact h1n) (.int .i64 (wrap64 (Y + X)))
                        have e3 : (ic (VL F n)).set t1 (.int .i64 (wrap64 (Y + X))) = ic (VL (fun b => F b + V * isN b t1) n) := by
                          rw [ic_set, hY, HX.out, VL_set h1n]
                        rw [e3, Nat.zero_add] at H7
                        clear e3 Hd hF hY
                        have H8 : Sep w (w7.setCell ⟨gn, t1, none⟩ (.int .i64 (wrap64 (Y + X)))) [Res.row (.slice (some ⟨gn, 0, none⟩) n n) 3 1 n (ic (VL (nxN wn hn I i (s + 1)) n)), Res.row (.slice (some ⟨gw, 0, none⟩) n cw) 3 1 n (ic (VL (vsN wn hn I i) n)), Res.box g 27 #[.int .i64 wn, .slice A hn c]] := by
                          rw [VL_congr (fun b _ => HN1.out b), ← HFF.out]; exact H7
                        clear H7
                        go_wp2
                        go_roundw
                        case rel => exact ⟨s + 1, by omega, by go_num, H8⟩
                        case measure => simp [intOf]; omega
                      · rw [decide_eq_false ht2] at hev
                        have HST : Hid (VL (nxN wn hn I i (s + 1)) n = VL (F1) n) := Lib.hid (VL_congr fun b _ => by rw [HN2.out b, hxw, hq]; simp [ht2])
                        clear hxw hq ht2
                        have c0 : w10.cell? ⟨g, 0, none⟩ = some (.int .i64 wn) := H7.h2.cell 0
                        have c1 : w10.cell? ⟨g, 1, none⟩ = some (.slice A hn c) := H7.h2.cell 1
                        go_wp2_with fail
                        refine ((HIc.out) _ H7.below H7.below.size).mono ?_
                        rintro e w7 ⟨rfl, b5⟩
                        have Hd := H7.step b5
                        clear H7 b5 c0 c1
                        have H9 : Sep w w7 [Res.row (.slice (some ⟨gn, 0, none⟩) n n) 3 1 n (ic (VL (nxN wn hn I i (s + 1)) n)), Res.row (.slice (some ⟨gw, 0, none⟩) n cw) 3 1 n (ic (VL (vsN wn hn I i) n)), Res.box g 27 #[.int .i64 wn, .slice A hn c]] := by
                          rw [HST.out]; exact Hd
                        clear Hd
                        go_wp2
                        skip
                        go_roundw
                        case rel => exact ⟨s + 1, by omega, by go_num, H9⟩
                        case measure => simp [intOf]; omega
        · obtain rfl : s = n := by omega
          have hnx : nxN wn hn I i s = vsN wn hn I (i + 1) := by rw [HNP.out]; rfl
          rw [hnx] at H
          have H4 := (H.g1).drop
          clear H
          go_wp2
          go_roundw
          case rel => exact ⟨i + 1, by omega, by go_num, H4⟩
          case measure => simp [intOf]; omega
    · obtain rfl : i = N := by omega
      have hnl : ¬ (i : Int) < (i : Int) := by omega
      have x1 : wr.cell? ⟨gw, 0, none⟩ = some (.int .i64 Z) := by
        have := own_cell1 H.h0 (VL_at (f := vsN wn hn I i) (show 0 < n by omega))
        rw [HZ.out, ← HNN.out]
        simpa using this
      have hb := H.below
      clear H
      go_wp2
      go_ret
      exact ⟨rfl, hb⟩
end Go.Proofs.YtoccedebiacbiaaDoor

namespace Go.Proofs.YtoccedebiacbiaaDoor

/-- the row behind a call that has r places left from x on, with d standing out -/
def addO (U : Nat → Bool) (r x d : Nat) (L : List Int) : List Int := L.mapIdx fun c v => v + ((outR U r x d c : Nat) : Int)
theorem addO_len {U : Nat → Bool} {r x d : Nat} {L : List Int} : (addO U r x d L).length = L.length := by simp [addO]
theorem addO_at {U : Nat → Bool} {r x d c : Nat} {L : List Int} : (addO U r x d L)[c]? = (L[c]?).map fun v : Int => v + ((outR U r x d c : Nat) : Int) := by simp [addO]
theorem addO_end {U : Nat → Bool} {x d : Nat} {L : List Int} {v : Int} (h : L[d]? = some v) : addO U 0 x d L = L.set d (v + 1) := by
  apply List.ext_getElem?
  intro c
  rw [addO_at, outR_end]
  by_cases e : c = d
  · subst e
    obtain ⟨hl, rfl⟩ := List.getElem?_eq_some_iff.1 h
    rw [List.getElem?_set_self hl, h, if_pos rfl]
    rfl
  · rw [List.getElem?_set_ne (fun h => e h.symm), if_neg e]
    cases L[c]? <;> simp
theorem addO_full {U : Nat → Bool} {r x d : Nat} {L : List Int} (h : U x = true) : addO U (r + 1) x d L = addO U r (x + 1) d L := by
  apply List.ext_getElem?
  intro c
  rw [addO_at, addO_at, outR_full h]
theorem addO_one {U : Nat → Bool} {x d : Nat} {L : List Int} (h : U x = false) : addO U 1 x d L = addO U 0 (x + 1) (d ||| 2 ^ x) L := by
  apply List.ext_getElem?
  intro c
  rw [addO_at, addO_at, outR_one h]
theorem addO_no {U : Nat → Bool} {r x d : Nat} {L : List Int} (h : U x = false) (h1 : U (x + 1) = true) : addO U (r + 2) x d L = addO U (r + 1) (x + 1) (d ||| 2 ^ x) L := by
  apply List.ext_getElem?
  intro c
  rw [addO_at, addO_at, outR_two h, if_pos h1, Nat.add_zero]
theorem addO_two {U : Nat → Bool} {r x d : Nat} {L : List Int} (h : U x = false) (h1 : U (x + 1) = false) : addO U (r + 2) x d L = addO U r (x + 2) d (addO U (r + 1) (x + 1) (d ||| 2 ^ x) L) := by
  apply List.ext_getElem?
  intro c
  rw [addO_at, addO_at, addO_at, outR_two h, if_neg (by rw [h1]; decide)]
  cases L[c]? with
  | none => rfl
  | some v =>
    simp only [Option.map_some, Option.some.injEq]
    omega
theorem outR_le {U : Nat → Bool} : ∀ (n r : Nat), r ≤ n → ∀ x d c, outR U r x d c ≤ 2 ^ r
  | 0, r, hr, x, d, c => by
    obtain rfl : r = 0 := by omega
    rw [outR_end]; split <;> simp
  | n + 1, 0, _, x, d, c => by rw [outR_end]; split <;> simp
  | n + 1, 1, hr, x, d, c => by
    cases h : U x
    · rw [outR_one h]
      have := outR_le (U := U) n 0 (by omega) (x + 1) (d ||| 2 ^ x) c
      omega
    · rw [outR_full h]
      have := outR_le (U := U) n 0 (by omega) (x + 1) d c
      omega
  | n + 1, r + 2, hr, x, d, c => by
    have hp : 2 ^ (r + 2) = 2 * 2 ^ (r + 1) := by rw [Nat.pow_succ]; omega
    have hq : 2 ^ (r + 1) = 2 * 2 ^ r := by rw [Nat.pow_succ]; omega
    cases h : U x
    · rw [outR_two h]
      have h1 := outR_le (U := U) n (r + 1) (by omega) (x + 1) (d ||| 2 ^ x) c
      have h2 := outR_le (U := U) n r (by omega) (x + 2) d c
      split <;> omega
    · rw [outR_full h]
      have := outR_le (U := U) n (r + 1) (by omega) (x + 1) d c
      omega
/-- the whole row -/
theorem addO_row {w a : Nat} (hw : w < 5) (ha : a < 2 ^ w) : addO a.testBit w 0 0 (List.replicate (2 ^ w) 0) = domRow w a := by
  apply List.ext_getElem?
  intro c
  rw [addO_at, domRow, List.getElem?_map]
  by_cases hc : c < 2 ^ w
  · rw [List.getElem?_replicate, if_pos hc, List.getElem?_range hc]
    simp only [Option.map_some, Option.some.injEq]
    rw [outR_fill w hw a ha c hc]
    omega
  · rw [List.getElem?_replicate, if_neg hc, List.getElem?_eq_none (by rw [List.length_range]; omega)]
    rfl
end Go.Proofs.YtoccedebiacbiaaDoor

namespace Go.Proofs.YtoccedebiacbiaaDoor
open Go.RowKit

abbrev fnDom (gw go gf : Nat) : Value := .func (.func 67) #[] #[.pointer (some ⟨gw, 0, none⟩), .pointer (some ⟨go, 0, none⟩), .pointer (some ⟨gf, 0, none⟩)]
structure DomAt (w : World) (wd gw go gf gr N : Nat) (tf : TypeId) (L : List Int) : Prop where
  bw : Blk w gw 3 #[.int .i64 wd]
  bo : Blk w go 22 #[.slice (some ⟨gr, 0, none⟩) N N]
  bf : Blk w gf tf #[fnDom gw go gf]
  br : Blk w gr 3 (ic L).toArray
  n1 : gr ≠ gw
  n2 : gr ≠ go
  n3 : gr ≠ gf
  len : L.length = N
theorem Only.trans {D : Nat → Prop} {w w1 w2 : World} (h1 : Only D w w1) (h2 : Only D w1 w2) : Only D w w2 := ⟨h2.os.trans h1.os, h2.tape.trans h1.tape, h2.output.trans h1.output, Nat.le_trans h1.size h2.size, fun b hb hd => (h2.block b (Nat.lt_of_lt_of_le hb h1.size) hd).trans (h1.block b hb hd)⟩
theorem Only.drew {D : Nat → Prop} {w w1 : World} (h : Only D w.drew w1) : Only D w w1 := (Only.of_below (below_drew (Below.refl _ _))).trans h
theorem DomAt.set {w : World} {wd gw go gf gr N : Nat} {tf : TypeId} {L : List Int} (H : DomAt w wd gw go gf gr N tf L) (i : Nat) (v : Int) : DomAt (w.setCell ⟨gr, i, none⟩ (.int .i64 v)) wd gw go gf gr N tf (L.set i v) :=
  ⟨H.bw.far H.n1.symm _, H.bo.far H.n2.symm _, H.bf.far H.n3.symm _, by
    have := Blk.set_ H.br i (.int .i64 v)
    rw [List.setIfInBounds_toArray, ic_set] at this
    exact this, H.n1, H.n2, H.n3, by rw [List.length_set]; exact H.len⟩
theorem DomAt.drew {w : World} {wd gw go gf gr N : Nat} {tf : TypeId} {L : List Int} (H : DomAt w wd gw go gf gr N tf L) : DomAt w.drew wd gw go gf gr N tf L := ⟨H.bw, H.bo, H.bf, H.br, H.n1, H.n2, H.n3, H.len⟩
def DomC (a wd gw go gf gr N : Nat) (tf : TypeId) (r : Nat) : Prop := ∀ (x d : Nat), x + r = wd → d < 2 ^ x → ∀ (w : World) (L : List Int), DomAt w wd gw go gf gr N tf L → (∀ v ∈ L, 0 ≤ v ∧ v + 2 ^ (r + 1) ≤ 1000) →
    Calls Tryd.prog 67 #[.int .i64 x, .int .i64 a, .int .i64 d, .pointer (some ⟨gw, 0, none⟩), .pointer (some ⟨go, 0, none⟩), .pointer (some ⟨gf, 0, none⟩)] w fun e w' => e = .returned (.tuple #[]) ∧ Only (fun b => b = gr) w w' ∧ DomAt w' wd gw go gf gr N tf (addO a.testBit r x d L)
set_option maxRecDepth 100000 in
set_option maxHeartbeats 1600000 in
theorem dom_end (a wd gw go gf gr N : Nat) (tf : TypeId) (hw : wd ≤ 6) (hN : N = 2 ^ wd) : DomC a wd gw go gf gr N tf 0 := by
  intro x d hx hd w L H HV
  obtain rfl : x = wd := by omega
  have k0 := H.bw.cell 0
  have k1 := H.bo.cell 0
  simp at k0 k1
  have hdN : d < L.length := by rw [H.len, hN]; exact hd
  obtain ⟨v, hv⟩ : ∃ v, L[d]? = some v := ⟨L[d], List.getElem?_eq_getElem hdN⟩
  have hb := HV v (List.mem_of_getElem? hv)
  have k2 : w.cell? ⟨gr, d, none⟩ = some (.int .i64 v) := by rw [H.br.cell, List.getElem?_toArray]; simp [ic, hv]
  have f2 := H.br.frozen d
  have hge : decide ((x : Int) ≤ (x : Int)) = true := by simp
  have hdN2 : d < N := by rw [hN]; exact hd
  have HE : Hid (addO a.testBit 0 x d L = L.set d (v + 1)) := Lib.hid (addO_end hv)
  have HS := Lib.hid (H.set d (v + 1))
  have hN16 : N ≤ 64 := by rw [hN]; exact Nat.pow_le_pow_right (by decide) hw
  obtain ⟨b1, b2⟩ := hb
  clear H HV hv hd hN hdN
  go_enter Tryd.func67, Tryd.ntmps67
  go_wp2
  refine bodyPost_end (results_none rfl _ _ _) rfl ?_
  exact ⟨rfl, Only.setCell _ _ _, by rw [HE.out]; exact HS.out⟩
set_option maxRecDepth 100000 in
set_option maxHeartbeats 1600000 in
theorem dom_full (a wd gw go gf gr N : Nat) (tf : TypeId) (hw : wd ≤ 6) (ha : a < 64) (r : Nat) (ih : DomC a wd gw go gf gr N tf r) (x d : Nat) (hx : x + (r + 1) = wd) (hd : d < 2 ^ x) (hF : a.testBit x = true) (w : World) (L : List Int) (H : DomAt w wd gw go gf gr N tf L) (HV : ∀ v ∈ L, 0 ≤ v ∧ v + 2 ^ (r + 1 + 1) ≤ 1000) :
    Calls Tryd.prog 67 #[.int .i64 x, .int .i64 a, .int .i64 d, .pointer (some ⟨gw, 0, none⟩), .pointer (some ⟨go, 0, none⟩), .pointer (some ⟨gf, 0, none⟩)] w fun e w' => e = .returned (.tuple #[]) ∧ Only (fun b => b = gr) w w' ∧ DomAt w' wd gw go gf gr N tf (addO a.testBit (r + 1) x d L) := by
  have k0 := H.bw.cell 0
  have k1 := H.bf.cell 0
  simp at k0 k1
  have y1 := bit_test (m := a) (x := x) (by omega)
  rw [hF] at y1
  have hx1 : decide ((wd : Int) ≤ (x : Int)) = false := decide_eq_false (by omega)
  have HI : Hid (Calls Tryd.prog 67 #[.int .i64 ((x : Int) + 1), .int .i64 a, .int .i64 d, .pointer (some ⟨gw, 0, none⟩), .pointer (some ⟨go, 0, none⟩), .pointer (some ⟨gf, 0, none⟩)] w fun e w' => e = .returned (.tuple #[]) ∧ Only (fun b => b = gr) w w' ∧ DomAt w' wd gw go gf gr N tf (addO a.testBit (r + 1) x d L)) := Lib.hid (by
    rw [addO_full hF]
    exact ih (x + 1) d (by omega) (by rw [Nat.pow_succ]; omega) w L H (fun v hv => by
      have := HV v hv
      have hp : (2 : Int) ^ (r + 1 + 1) = 2 ^ (r + 1) * 2 := Int.pow_succ 2 (r + 1)
      have hq : (0 : Int) < 2 ^ (r + 1) := Int.pow_pos (by decide)
      rw [hp] at this
      omega))
  have hx4 : x < 6 := by omega
  clear ih H HV hF hd
  go_enter Tryd.func67, Tryd.ntmps67
  go_wp2_with fail
  with_reducible refine (HI.out).mono ?_
  rintro e w' ⟨rfl, ho, hh⟩
  go_wp2
  refine bodyPost_end (results_none rfl _ _ _) rfl ?_
  exact ⟨rfl, ho, hh⟩
theorem or_small : ∀ x, x < 6 → ∀ d, d < 64 → bits .or .i64 ((d : Nat) : Int) (IntKind.i64.wrap (2 ^ x)) = ((d ||| 2 ^ x : Nat) : Int) := by decide +kernel
theorem or_lt {d x : Nat} (hd : d < 2 ^ x) : d ||| 2 ^ x < 2 ^ (x + 1) := Nat.or_lt_two_pow (Nat.lt_trans hd (Nat.pow_lt_pow_right (by decide) (by omega))) (Nat.pow_lt_pow_right (by decide) (by omega))
set_option maxRecDepth 100000 in
set_option maxHeartbeats 1600000 in
theorem dom_one (a wd gw go gf gr N : Nat) (tf : TypeId) (hw : wd ≤ 6) (ha : a < 64) (ih : DomC a wd gw go gf gr N tf 0) (x d : Nat) (hx : x + 1 = wd) (hd : d < 2 ^ x) (hF : a.testBit x = false) (w : World) (L : List Int) (H : DomAt w wd gw go gf gr N tf L) (HV : ∀ v ∈ L, 0 ≤ v ∧ v + 2 ^ (1 + 1) ≤ 1000) :
    Calls Tryd.prog 67 #[.int .i64 x, .int .i64 a, .int .i64 d, .pointer (some ⟨gw, 0, none⟩), .pointer (some ⟨go, 0, none⟩), .pointer (some ⟨gf, 0, none⟩)] w fun e w' => e = .returned (.tuple #[]) ∧ Only (fun b => b = gr) w w' ∧ DomAt w' wd gw go gf gr N tf (addO a.testBit 1 x d L) := by
  have k0 := H.bw.cell 0
  have k1 := H.bf.cell 0
  simp at k0 k1
  have y1 := bit_test (m := a) (x := x) (by omega)
  rw [hF] at y1
  have hx1 : decide ((wd : Int) ≤ (x : Int)) = false := decide_eq_false (by omega)
  have hx4 : x < 6 := by omega
  have hd16 : d < 64 := Nat.lt_of_lt_of_le hd (Nat.le_trans (Nat.pow_le_pow_right (by decide) (show x ≤ 6 by omega)) (by decide))
  have z1 : IntKind.i64.wrap ((x : Int) + 1) = ((x + 1 : Nat) : Int) := IntWalk.i64_in _ (by omega)
  have HI : Hid (Calls Tryd.prog 67 #[.int .i64 (IntKind.i64.wrap ((x : Int) + 1)), .int .i64 a, .int .i64 (bits .or .i64 (d : Int) (IntKind.i64.wrap (2 ^ x))), .pointer (some ⟨gw, 0, none⟩), .pointer (some ⟨go, 0, none⟩), .pointer (some ⟨gf, 0, none⟩)] w.drew fun e w' => e = .returned (.tuple #[]) ∧ Only (fun b => b = gr) w.drew w' ∧ DomAt w' wd gw go gf gr N tf (addO a.testBit 1 x d L)) := Lib.hid (by
    rw [z1, or_small x hx4 d hd16, addO_one hF]
    exact ih (x + 1) (d ||| 2 ^ x) (by omega) (or_lt hd) w.drew L H.drew (fun v hv => by have := HV v hv; simp at this ⊢; omega))
  have hx2 : decide ((x : Int) + 1 < (wd : Int)) = false := decide_eq_false (by omega)
  clear ih H HV hF hd z1
  go_enter Tryd.func67, Tryd.ntmps67
  go_wp2_with fail
  go_region_with ((refine (HI.out).mono ?_; rintro e w' ⟨rfl, ho, hh⟩; have k0' : w'.cell? ⟨gw, 0, none⟩ = some (.int .i64 wd) := hh.bw.cell 0))
  all_goals
    clear k0 k1
    go_wp2
    refine bodyPost_end (results_none rfl _ _ _) rfl ?_
    exact ⟨rfl, ho.drew, hh⟩
set_option maxRecDepth 100000 in
set_option maxHeartbeats 1600000 in
theorem dom_two (a wd gw go gf gr N : Nat) (tf : TypeId) (hw : wd ≤ 6) (ha : a < 64) (r : Nat) (ih1 : DomC a wd gw go gf gr N tf (r + 1)) (ih0 : DomC a wd gw go gf gr N tf r) (x d : Nat) (hx : x + (r + 2) = wd) (hd : d < 2 ^ x) (hF : a.testBit x = false) (w : World) (L : List Int) (H : DomAt w wd gw go gf gr N tf L) (HV : ∀ v ∈ L, 0 ≤ v ∧ v + 2 ^ (r + 2 + 1) ≤ 1000) :
    Calls Tryd.prog 67 #[.int .i64 x, .int .i64 a, .int .i64 d, .pointer (some ⟨gw, 0, none⟩), .pointer (some ⟨go, 0, none⟩), .pointer (some ⟨gf, 0, none⟩)] w fun e w' => e = .returned (.tuple #[]) ∧ Only (fun b => b = gr) w w' ∧ DomAt w' wd gw go gf gr N tf (addO a.testBit (r + 2) x d L) := by
  have k0 := H.bw.cell 0
  have k1 := H.bf.cell 0
  simp at k0 k1
  have y1 := bit_test (m := a) (x := x) (by omega)
  have y3 := bit_test0 (m := a) (x := x + 1) (by omega)
  rw [hF] at y1
  have hx1 : decide ((wd : Int) ≤ (x : Int)) = false := decide_eq_false (by omega)
  have hx4 : x < 6 := by omega
  have hd16 : d < 64 := Nat.lt_of_lt_of_le hd (Nat.le_trans (Nat.pow_le_pow_right (by decide) (show x ≤ 6 by omega)) (by decide))
  have z1 : IntKind.i64.wrap ((x : Int) + 1) = ((x + 1 : Nat) : Int) := IntWalk.i64_in _ (by omega)
  have hp1 : (2 : Int) ^ (r + 2 + 1) = 2 ^ (r + 1 + 1) * 2 := Int.pow_succ 2 (r + 2)
  have hp2 : (2 : Int) ^ (r + 1 + 1) = 2 ^ (r + 1) * 2 := Int.pow_succ 2 (r + 1)
  have hp3 : (0 : Int) < 2 ^ (r + 1) := Int.pow_pos (by decide)
  have HI : Hid (Calls Tryd.prog 67 #[.int .i64 (IntKind.i64.wrap ((x : Int) + 1)), .int .i64 a, .int .i64 (bits .or .i64 (d : Int) (IntKind.i64.wrap (2 ^ x))), .pointer (some ⟨gw, 0, none⟩), .pointer (some ⟨go, 0, none⟩), .pointer (some ⟨gf, 0, none⟩)] w.drew fun e w' => e = .returned (.tuple #[]) ∧ Only (fun b => b = gr) w.drew w' ∧ DomAt w' wd gw go gf gr N tf (addO a.testBit (r + 1) (x + 1) (d ||| 2 ^ x) L)) := Lib.hid (by
    rw [z1, or_small x hx4 d hd16]
    exact ih1 (x + 1) (d ||| 2 ^ x) (by omega) (or_lt hd) w.drew L H.drew (fun v hv => by
      have := HV v hv
      rw [hp1] at this
      omega))
  have hx2 : decide ((x : Int) + 1 < (wd : Int)) = true := decide_eq_true (by omega)
  have HJ : Hid (∀ w' : World, DomAt w' wd gw go gf gr N tf (addO a.testBit (r + 1) (x + 1) (d ||| 2 ^ x) L) → Calls Tryd.prog 67 #[.int .i64 ((x : Int) + 2), .int .i64 a, .int .i64 d, .pointer (some ⟨gw, 0, none⟩), .pointer (some ⟨go, 0, none⟩), .pointer (some ⟨gf, 0, none⟩)] w' fun e w'' => e = .returned (.tuple #[]) ∧ Only (fun b => b = gr) w' w'' ∧ DomAt w'' wd gw go gf gr N tf (addO a.testBit r (x + 2) d (addO a.testBit (r + 1) (x + 1) (d ||| 2 ^ x) L))) := Lib.hid fun w' h' =>
    ih0 (x + 2) d (by omega) (Nat.lt_of_lt_of_le hd (Nat.pow_le_pow_right (by decide) (by omega))) w' _ h' (fun v hv => by
      obtain ⟨c, hc⟩ := List.getElem?_of_mem hv
      rw [addO_at] at hc
      cases hL : L[c]? with
      | none => rw [hL] at hc; cases hc
      | some u =>
        rw [hL] at hc
        simp only [Option.map_some, Option.some.injEq] at hc
        have h1 := HV u (List.mem_of_getElem? hL)
        have h2 := outR_le (U := a.testBit) (r + 1) (r + 1) (Nat.le_refl _) (x + 1) (d ||| 2 ^ x) c
        have h3 : ((outR a.testBit (r + 1) (x + 1) (d ||| 2 ^ x) c : Nat) : Int) ≤ 2 ^ (r + 1) := by exact_mod_cast h2
        rw [hp1, hp2] at h1
        omega)
  clear ih1 ih0 H HV hd z1 hp1 hp2 hp3
  cases hU : a.testBit (x + 1)
  · rw [hU] at y3
    have HE := Lib.hid (addO_two (r := r) (d := d) (L := L) hF hU)
    clear hF hU
    go_enter Tryd.func67, Tryd.ntmps67
    go_wp2_with fail
    go_region_with ((refine (HI.out).mono ?_; rintro e w' ⟨rfl, ho, hh⟩; have k0' : w'.cell? ⟨gw, 0, none⟩ = some (.int .i64 wd) := hh.bw.cell 0; have k1' : w'.cell? ⟨gf, 0, none⟩ = some (fnDom gw go gf) := hh.bf.cell 0))
    all_goals
      clear k0 k1
      go_wp2_with fail
      with_reducible refine (HJ.out _ hh).mono ?_
      rintro e w2 ⟨rfl, ho2, hh2⟩
      go_wp2
      refine bodyPost_end (results_none rfl _ _ _) rfl ?_
      exact ⟨rfl, ho.drew.trans ho2, by rw [HE.out]; exact hh2⟩
  · rw [hU] at y3
    have HE := Lib.hid (addO_no (r := r) (d := d) (L := L) hF hU)
    clear hF hU
    go_enter Tryd.func67, Tryd.ntmps67
    go_wp2_with fail
    go_region_with ((refine (HI.out).mono ?_; rintro e w' ⟨rfl, ho, hh⟩; have k0' : w'.cell? ⟨gw, 0, none⟩ = some (.int .i64 wd) := hh.bw.cell 0))
    all_goals
      clear k0 k1
      go_wp2
      refine bodyPost_end (results_none rfl _ _ _) rfl ?_
      exact ⟨rfl, ho.drew, by rw [HE.out]; exact hh⟩
/-- the inner function, at any number of places left -/
theorem dom_c (a wd gw go gf gr N : Nat) (tf : TypeId) (hw : wd ≤ 6) (ha : a < 64) (hN : N = 2 ^ wd) : ∀ (n r : Nat), r ≤ n → DomC a wd gw go gf gr N tf r
  | 0, r, hr => by
    obtain rfl : r = 0 := by omega
    exact dom_end a wd gw go gf gr N tf hw hN
  | n + 1, 0, _ => dom_end a wd gw go gf gr N tf hw hN
  | n + 1, 1, _ => fun x d hx hd w L H HV => by
    cases hF : a.testBit x
    · exact dom_one a wd gw go gf gr N tf hw ha (dom_end a wd gw go gf gr N tf hw hN) x d hx hd hF w L H HV
    · exact dom_full a wd gw go gf gr N tf hw ha 0 (dom_end a wd gw go gf gr N tf hw hN) x d hx hd hF w L H HV
  | n + 1, r + 2, hr => fun x d hx hd w L H HV => by
    cases hF : a.testBit x
    · exact dom_two a wd gw go gf gr N tf hw ha r (dom_c a wd gw go gf gr N tf hw ha hN n (r + 1) (by omega)) (dom_c a wd gw go gf gr N tf hw ha hN n r (by omega)) x d hx hd hF w L H HV
    · exact dom_full a wd gw go gf gr N tf hw ha (r + 1) (dom_c a wd gw go gf gr N tf hw ha hN n (r + 1) (by omega)) x d hx hd hF w L H HV
end Go.Proofs.YtoccedebiacbiaaDoor

namespace Go.Proofs.YtoccedebiacbiaaDoor
open Go.RowKit

/-- the ways of a row, as the program counts them -/
def domR (wd a : Nat) : List Int := addO a.testBit wd 0 0 (List.replicate (2 ^ wd) 0)
theorem domR_len {wd a : Nat} : (domR wd a).length = 2 ^ wd := by simp [domR, addO_len]
theorem domR_at {wd a c : Nat} (h : c < 2 ^ wd) : (domR wd a)[c]? = some ((outR a.testBit wd 0 0 c : Nat) : Int) := by rw [domR, addO_at, List.getElem?_replicate, if_pos h]; simp
set_option maxRecDepth 100000 in
theorem infoIntX : (Tryd.prog.info? 3).map (fun i => (i.zero, i.size, i.bytes)) = some (some (.int .i64 0), 1, 8) := by kernel_rfl
set_option maxRecDepth 100000 in
set_option maxHeartbeats 1600000 in
theorem dom1_c (a : Nat) (w : World) (ha : a < 64) (hw : 1 ≤ 6) :
    Calls Tryd.prog 54 #[.int .i64 1, .int .i64 a] w fun e w' => ∃ v', e = .returned v' ∧ IntsIn w' w.heap.size w'.heap.size v' (domR 1 a) ∧ Below w.heap.size w w' := by
  obtain ⟨j0, hj, hy0, hy1, hy2⟩ := info_parts infoIntX
  have hmk := fun W => run_make_rowN (P := Tryd.prog) 22 3 j0 _ Tryd.underlying22 hj hy0 .i64 .i64 2 2 (Nat.le_refl _) (by rw [hy2]; omega) (by omega) W
  rw [hy1] at hmk
  simp at hmk
  have hmf : ∀ (fn : Fn) (first cap : Array Value) (w : World), (Instr.makeFunc fn first cap).run Tryd.prog w = .ok (.func fn first cap) w := fun _ _ _ _ => rfl
  have H := (((((Sep.start w).box 3 #[.int .i64 1]).box 3 (madeCells #[.int .i64 0] 2)).box 22 #[.slice (some ⟨w.heap.size + 1, 0, none⟩) 2 2]).box 88 #[.nilFunc])
  simp only [World.size_alloc] at H
  obtain ⟨g, hg⟩ : ∃ g, g = w.heap.size := ⟨_, rfl⟩
  rw [← hg] at H
  go_enter Tryd.func54, Tryd.ntmps54
  go_upto_region 3 with fail
  rw [← hg]
  generalize (((w.alloc (.cells #[.int .i64 1] 3)).alloc (.cells (madeCells #[.int .i64 0] 2) 3)).alloc (.cells #[.slice (some ⟨g + 1, 0, none⟩) 2 2] 22)).alloc (.cells #[.nilFunc] 88) = W at *
  have c4 : W.cell? ⟨g + 1 + 1 + 1, 0, none⟩ = some .nilFunc := H.h0.cell 0
  have f4 := H.h0.frozen 0
  have H2 := H.set_ 0 (fnDom g (g + 1 + 1) (g + 1 + 1 + 1))
  have em : madeCells #[.int .i64 0] 2 = (ic (List.replicate 2 0)).toArray := by apply Array.ext'; rw [toList_madeCells_one]; simp only [ic, List.map_replicate]
  have D0 : DomAt (W.setCell ⟨g + 1 + 1 + 1, 0, none⟩ (fnDom g (g + 1 + 1) (g + 1 + 1 + 1))) 1 g (g + 1 + 1) (g + 1 + 1 + 1) (g + 1) 2 88 (List.replicate 2 0) := ⟨H2.h3, H2.h1, H2.h0, em ▸ H2.h2, by omega, by omega, by omega, rfl⟩
  have k1 : (W.setCell ⟨g + 1 + 1 + 1, 0, none⟩ (fnDom g (g + 1 + 1) (g + 1 + 1 + 1))).cell? ⟨g + 1 + 1 + 1, 0, none⟩ = some (fnDom g (g + 1 + 1) (g + 1 + 1 + 1)) := H2.h0.cell 0
  have HC : Hid (Calls Tryd.prog 67 #[.int .i64 0, .int .i64 a, .int .i64 0, .pointer (some ⟨g, 0, none⟩), .pointer (some ⟨g + 1 + 1, 0, none⟩), .pointer (some ⟨g + 1 + 1 + 1, 0, none⟩)] (W.setCell ⟨g + 1 + 1 + 1, 0, none⟩ (fnDom g (g + 1 + 1) (g + 1 + 1 + 1))) fun e w' => e = .returned (.tuple #[]) ∧ Only (fun b => b = g + 1) (W.setCell ⟨g + 1 + 1 + 1, 0, none⟩ (fnDom g (g + 1 + 1) (g + 1 + 1 + 1))) w' ∧ DomAt w' 1 g (g + 1 + 1) (g + 1 + 1 + 1) (g + 1) 2 88 (domR 1 a)) := Lib.hid (by
    have := dom_c a 1 g (g + 1 + 1) (g + 1 + 1 + 1) (g + 1) 2 88 hw (by omega) rfl 1 1 (Nat.le_refl _) 0 0 rfl (by decide) _ _ D0 (fun v hv => by rw [List.eq_of_mem_replicate hv]; decide)
    exact this)
  have HG := Lib.hid hg
  have HB := Lib.hid H2.below
  clear D0 hg em H H2
  go_wp2_with fail
  refine (HC.out).mono ?_
  rintro e w5 ⟨rfl, ho, hh⟩
  have k2 : w5.cell? ⟨g + 1 + 1, 0, none⟩ = some (.slice (some ⟨g + 1, 0, none⟩) 2 2) := hh.bo.cell 0
  go_wp2
  go_ret
  have hg := HG.out
  have hl : (domR 1 a).length = 2 := domR_len
  generalize domR 1 a = D at *
  have hs : (ic D).length = 2 := by rw [ic_length, hl]
  refine ⟨_, rfl, IntsIn.mk (own_of_blk hh.br (by omega) (n := 2) (sz := 1) (by simpa using hs) (xs := ic D) (by rw [List.take_of_length_le (by simp [hs])]) (by decide)) (by rw [hl]) (by simp), ?_⟩
  exact ⟨ho.os.trans HB.out.os, ho.tape.trans HB.out.tape, ho.output.trans HB.out.output, Nat.le_trans HB.out.size ho.size, fun b hb => (ho.block b (Nat.lt_of_lt_of_le hb HB.out.size) (by omega)).trans (HB.out.block b hb)⟩
set_option maxRecDepth 100000 in
set_option maxHeartbeats 1600000 in
theorem dom2_c (a : Nat) (w : World) (ha : a < 64) (hw : 2 ≤ 6) :
    Calls Tryd.prog 54 #[.int .i64 2, .int .i64 a] w fun e w' => ∃ v', e = .returned v' ∧ IntsIn w' w.heap.size w'.heap.size v' (domR 2 a) ∧ Below w.heap.size w w' := by
  obtain ⟨j0, hj, hy0, hy1, hy2⟩ := info_parts infoIntX
  have hmk := fun W => run_make_rowN (P := Tryd.prog) 22 3 j0 _ Tryd.underlying22 hj hy0 .i64 .i64 4 4 (Nat.le_refl _) (by rw [hy2]; omega) (by omega) W
  rw [hy1] at hmk
  simp at hmk
  have hmf : ∀ (fn : Fn) (first cap : Array Value) (w : World), (Instr.makeFunc fn first cap).run Tryd.prog w = .ok (.func fn first cap) w := fun _ _ _ _ => rfl
  have H := (((((Sep.start w).box 3 #[.int .i64 2]).box 3 (madeCells #[.int .i64 0] 4)).box 22 #[.slice (some ⟨w.heap.size + 1, 0, none⟩) 4 4]).box 88 #[.nilFunc])
  simp only [World.size_alloc] at H
  obtain ⟨g, hg⟩ : ∃ g, g = w.heap.size := ⟨_, rfl⟩
  rw [← hg] at H
  go_enter Tryd.func54, Tryd.ntmps54
  go_upto_region 3 with fail
  rw [← hg]
  generalize (((w.alloc (.cells #[.int .i64 2] 3)).alloc (.cells (madeCells #[.int .i64 0] 4) 3)).alloc (.cells #[.slice (some ⟨g + 1, 0, none⟩) 4 4] 22)).alloc (.cells #[.nilFunc] 88) = W at *
  have c4 : W.cell? ⟨g + 1 + 1 + 1, 0, none⟩ = some .nilFunc := H.h0.cell 0
  have f4 := H.h0.frozen 0
  have H2 := H.set_ 0 (fnDom g (g + 1 + 1) (g + 1 + 1 + 1))
  have em : madeCells #[.int .i64 0] 4 = (ic (List.replicate 4 0)).toArray := by apply Array.ext'; rw [toList_madeCells_one]; simp only [ic, List.map_replicate]
  have D0 : DomAt (W.setCell ⟨g + 1 + 1 + 1, 0, none⟩ (fnDom g (g + 1 + 1) (g + 1 + 1 + 1))) 2 g (g + 1 + 1) (g + 1 + 1 + 1) (g + 1) 4 88 (List.replicate 4 0) := ⟨H2.h3, H2.h1, H2.h0, em ▸ H2.h2, by omega, by omega, by omega, rfl⟩
  have k1 : (W.setCell ⟨g + 1 + 1 + 1, 0, none⟩ (fnDom g (g + 1 + 1) (g + 1 + 1 + 1))).cell? ⟨g + 1 + 1 + 1, 0, none⟩ = some (fnDom g (g + 1 + 1) (g + 1 + 1 + 1)) := H2.h0.cell 0
  have HC : Hid (Calls Tryd.prog 67 #[.int .i64 0, .int .i64 a, .int .i64 0, .pointer (some ⟨g, 0, none⟩), .pointer (some ⟨g + 1 + 1, 0, none⟩), .pointer (some ⟨g + 1 + 1 + 1, 0, none⟩)] (W.setCell ⟨g + 1 + 1 + 1, 0, none⟩ (fnDom g (g + 1 + 1) (g + 1 + 1 + 1))) fun e w' => e = .returned (.tuple #[]) ∧ Only (fun b => b = g + 1) (W.setCell ⟨g + 1 + 1 + 1, 0, none⟩ (fnDom g (g + 1 + 1) (g + 1 + 1 + 1))) w' ∧ DomAt w' 2 g (g + 1 + 1) (g + 1 + 1 + 1) (g + 1) 4 88 (domR 2 a)) := Lib.hid (by
    have := dom_c a 2 g (g + 1 + 1) (g + 1 + 1 + 1) (g + 1) 4 88 hw (by omega) rfl 2 2 (Nat.le_refl _) 0 0 rfl (by decide) _ _ D0 (fun v hv => by rw [List.eq_of_mem_replicate hv]; decide)
    exact this)
  have HG := Lib.hid hg
  have HB := Lib.hid H2.below
  clear D0 hg em H H2
  go_wp2_with fail
  refine (HC.out).mono ?_
  rintro e w5 ⟨rfl, ho, hh⟩
  have k2 : w5.cell? ⟨g + 1 + 1, 0, none⟩ = some (.slice (some ⟨g + 1, 0, none⟩) 4 4) := hh.bo.cell 0
  go_wp2
  go_ret
  have hg := HG.out
  have hl : (domR 2 a).length = 4 := domR_len
  generalize domR 2 a = D at *
  have hs : (ic D).length = 4 := by rw [ic_length, hl]
  refine ⟨_, rfl, IntsIn.mk (own_of_blk hh.br (by omega) (n := 4) (sz := 1) (by simpa using hs) (xs := ic D) (by rw [List.take_of_length_le (by simp [hs])]) (by decide)) (by rw [hl]) (by simp), ?_⟩
  exact ⟨ho.os.trans HB.out.os, ho.tape.trans HB.out.tape, ho.output.trans HB.out.output, Nat.le_trans HB.out.size ho.size, fun b hb => (ho.block b (Nat.lt_of_lt_of_le hb HB.out.size) (by omega)).trans (HB.out.block b hb)⟩
set_option maxRecDepth 100000 in
set_option maxHeartbeats 1600000 in
theorem dom3_c (a : Nat) (w : World) (ha : a < 64) (hw : 3 ≤ 6) :
    Calls Tryd.prog 54 #[.int .i64 3, .int .i64 a] w fun e w' => ∃ v', e = .returned v' ∧ IntsIn w' w.heap.size w'.heap.size v' (domR 3 a) ∧ Below w.heap.size w w' := by
  obtain ⟨j0, hj, hy0, hy1, hy2⟩ := info_parts infoIntX
  have hmk := fun W => run_make_rowN (P := Tryd.prog) 22 3 j0 _ Tryd.underlying22 hj hy0 .i64 .i64 8 8 (Nat.le_refl _) (by rw [hy2]; omega) (by omega) W
  rw [hy1] at hmk
  simp at hmk
  have hmf : ∀ (fn : Fn) (first cap : Array Value) (w : World), (Instr.makeFunc fn first cap).run Tryd.prog w = .ok (.func fn first cap) w := fun _ _ _ _ => rfl
  have H := (((((Sep.start w).box 3 #[.int .i64 3]).box 3 (madeCells #[.int .i64 0] 8)).box 22 #[.slice (some ⟨w.heap.size + 1, 0, none⟩) 8 8]).box 88 #[.nilFunc])
  simp only [World.size_alloc] at H
  obtain ⟨g, hg⟩ : ∃ g, g = w.heap.size := ⟨_, rfl⟩
  rw [← hg] at H
  go_enter Tryd.func54, Tryd.ntmps54
  go_upto_region 3 with fail
  rw [← hg]
  generalize (((w.alloc (.cells #[.int .i64 3] 3)).alloc (.cells (madeCells #[.int .i64 0] 8) 3)).alloc (.cells #[.slice (some ⟨g + 1, 0, none⟩) 8 8] 22)).alloc (.cells #[.nilFunc] 88) = W at *
  have c4 : W.cell? ⟨g + 1 + 1 + 1, 0, none⟩ = some .nilFunc := H.h0.cell 0
  have f4 := H.h0.frozen 0
  have H2 := H.set_ 0 (fnDom g (g + 1 + 1) (g + 1 + 1 + 1))
  have em : madeCells #[.int .i64 0] 8 = (ic (List.replicate 8 0)).toArray := by apply Array.ext'; rw [toList_madeCells_one]; simp only [ic, List.map_replicate]
  have D0 : DomAt (W.setCell ⟨g + 1 + 1 + 1, 0, none⟩ (fnDom g (g + 1 + 1) (g + 1 + 1 + 1))) 3 g (g + 1 + 1) (g + 1 + 1 + 1) (g + 1) 8 88 (List.replicate 8 0) := ⟨H2.h3, H2.h1, H2.h0, em ▸ H2.h2, by omega, by omega, by omega, rfl⟩
  have k1 : (W.setCell ⟨g + 1 + 1 + 1, 0, none⟩ (fnDom g (g + 1 + 1) (g + 1 + 1 + 1))).cell? ⟨g + 1 + 1 + 1, 0, none⟩ = some (fnDom g (g + 1 + 1) (g + 1 + 1 + 1)) := H2.h0.cell 0
  have HC : Hid (Calls Tryd.prog 67 #[.int .i64 0, .int .i64 a, .int .i64 0, .pointer (some ⟨g, 0, none⟩), .pointer (some ⟨g + 1 + 1, 0, none⟩), .pointer (some ⟨g + 1 + 1 + 1, 0, none⟩)] (W.setCell ⟨g + 1 + 1 + 1, 0, none⟩ (fnDom g (g + 1 + 1) (g + 1 + 1 + 1))) fun e w' => e = .returned (.tuple #[]) ∧ Only (fun b => b = g + 1) (W.setCell ⟨g + 1 + 1 + 1, 0, none⟩ (fnDom g (g + 1 + 1) (g + 1 + 1 + 1))) w' ∧ DomAt w' 3 g (g + 1 + 1) (g + 1 + 1 + 1) (g + 1) 8 88 (domR 3 a)) := Lib.hid (by
    have := dom_c a 3 g (g + 1 + 1) (g + 1 + 1 + 1) (g + 1) 8 88 hw (by omega) rfl 3 3 (Nat.le_refl _) 0 0 rfl (by decide) _ _ D0 (fun v hv => by rw [List.eq_of_mem_replicate hv]; decide)
    exact this)
  have HG := Lib.hid hg
  have HB := Lib.hid H2.below
  clear D0 hg em H H2
  go_wp2_with fail
  refine (HC.out).mono ?_
  rintro e w5 ⟨rfl, ho, hh⟩
  have k2 : w5.cell? ⟨g + 1 + 1, 0, none⟩ = some (.slice (some ⟨g + 1, 0, none⟩) 8 8) := hh.bo.cell 0
  go_wp2
  go_ret
  have hg := HG.out
  have hl : (domR 3 a).length = 8 := domR_len
  generalize domR 3 a = D at *
  have hs : (ic D).length = 8 := by rw [ic_length, hl]
  refine ⟨_, rfl, IntsIn.mk (own_of_blk hh.br (by omega) (n := 8) (sz := 1) (by simpa using hs) (xs := ic D) (by rw [List.take_of_length_le (by simp [hs])]) (by decide)) (by rw [hl]) (by simp), ?_⟩
  exact ⟨ho.os.trans HB.out.os, ho.tape.trans HB.out.tape, ho.output.trans HB.out.output, Nat.le_trans HB.out.size ho.size, fun b hb => (ho.block b (Nat.lt_of_lt_of_le hb HB.out.size) (by omega)).trans (HB.out.block b hb)⟩
set_option maxRecDepth 100000 in
set_option maxHeartbeats 1600000 in
theorem dom4_c (a : Nat) (w : World) (ha : a < 64) (hw : 4 ≤ 6) :
    Calls Tryd.prog 54 #[.int .i64 4, .int .i64 a] w fun e w' => ∃ v', e = .returned v' ∧ IntsIn w' w.heap.size w'.heap.size v' (domR 4 a) ∧ Below w.heap.size w w' := by
  obtain ⟨j0, hj, hy0, hy1, hy2⟩ := info_parts infoIntX
  have hmk := fun W => run_make_rowN (P := Tryd.prog) 22 3 j0 _ Tryd.underlying22 hj hy0 .i64 .i64 16 16 (Nat.le_refl _) (by rw [hy2]; omega) (by omega) W
  rw [hy1] at hmk
  simp at hmk
  have hmf : ∀ (fn : Fn) (first cap : Array Value) (w : World), (Instr.makeFunc fn first cap).run Tryd.prog w = .ok (.func fn first cap) w := fun _ _ _ _ => rfl
  have H := (((((Sep.start w).box 3 #[.int .i64 4]).box 3 (madeCells #[.int .i64 0] 16)).box 22 #[.slice (some ⟨w.heap.size + 1, 0, none⟩) 16 16]).box 88 #[.nilFunc])
  simp only [World.size_alloc] at H
  obtain ⟨g, hg⟩ : ∃ g, g = w.heap.size := ⟨_, rfl⟩
  rw [← hg] at H
  go_enter Tryd.func54, Tryd.ntmps54
  go_upto_region 3 with fail
  rw [← hg]
  generalize (((w.alloc (.cells #[.int .i64 4] 3)).alloc (.cells (madeCells #[.int .i64 0] 16) 3)).alloc (.cells #[.slice (some ⟨g + 1, 0, none⟩) 16 16] 22)).alloc (.cells #[.nilFunc] 88) = W at *
  have c4 : W.cell? ⟨g + 1 + 1 + 1, 0, none⟩ = some .nilFunc := H.h0.cell 0
  have f4 := H.h0.frozen 0
  have H2 := H.set_ 0 (fnDom g (g + 1 + 1) (g + 1 + 1 + 1))
  have em : madeCells #[.int .i64 0] 16 = (ic (List.replicate 16 0)).toArray := by apply Array.ext'; rw [toList_madeCells_one]; simp only [ic, List.map_replicate]
  have D0 : DomAt (W.setCell ⟨g + 1 + 1 + 1, 0, none⟩ (fnDom g (g + 1 + 1) (g + 1 + 1 + 1))) 4 g (g + 1 + 1) (g + 1 + 1 + 1) (g + 1) 16 88 (List.replicate 16 0) := ⟨H2.h3, H2.h1, H2.h0, em ▸ H2.h2, by omega, by omega, by omega, rfl⟩
  have k1 : (W.setCell ⟨g + 1 + 1 + 1, 0, none⟩ (fnDom g (g + 1 + 1) (g + 1 + 1 + 1))).cell? ⟨g + 1 + 1 + 1, 0, none⟩ = some (fnDom g (g + 1 + 1) (g + 1 + 1 + 1)) := H2.h0.cell 0
  have HC : Hid (Calls Tryd.prog 67 #[.int .i64 0, .int .i64 a, .int .i64 0, .pointer (some ⟨g, 0, none⟩), .pointer (some ⟨g + 1 + 1, 0, none⟩), .pointer (some ⟨g + 1 + 1 + 1, 0, none⟩)] (W.setCell ⟨g + 1 + 1 + 1, 0, none⟩ (fnDom g (g + 1 + 1) (g + 1 + 1 + 1))) fun e w' => e = .returned (.tuple #[]) ∧ Only (fun b => b = g + 1) (W.setCell ⟨g + 1 + 1 + 1, 0, none⟩ (fnDom g (g + 1 + 1) (g + 1 + 1 + 1))) w' ∧ DomAt w' 4 g (g + 1 + 1) (g + 1 + 1 + 1) (g + 1) 16 88 (domR 4 a)) := Lib.hid (by
    have := dom_c a 4 g (g + 1 + 1) (g + 1 + 1 + 1) (g + 1) 16 88 hw (by omega) rfl 4 4 (Nat.le_refl _) 0 0 rfl (by decide) _ _ D0 (fun v hv => by rw [List.eq_of_mem_replicate hv]; decide)
    exact this)
  have HG := Lib.hid hg
  have HB := Lib.hid H2.below
  clear D0 hg em H H2
  go_wp2_with fail
  refine (HC.out).mono ?_
  rintro e w5 ⟨rfl, ho, hh⟩
  have k2 : w5.cell? ⟨g + 1 + 1, 0, none⟩ = some (.slice (some ⟨g + 1, 0, none⟩) 16 16) := hh.bo.cell 0
  go_wp2
  go_ret
  have hg := HG.out
  have hl : (domR 4 a).length = 16 := domR_len
  generalize domR 4 a = D at *
  have hs : (ic D).length = 16 := by rw [ic_length, hl]
  refine ⟨_, rfl, IntsIn.mk (own_of_blk hh.br (by omega) (n := 16) (sz := 1) (by simpa using hs) (xs := ic D) (by rw [List.take_of_length_le (by simp [hs])]) (by decide)) (by rw [hl]) (by simp), ?_⟩
  exact ⟨ho.os.trans HB.out.os, ho.tape.trans HB.out.tape, ho.output.trans HB.out.output, Nat.le_trans HB.out.size ho.size, fun b hb => (ho.block b (Nat.lt_of_lt_of_le hb HB.out.size) (by omega)).trans (HB.out.block b hb)⟩
set_option maxRecDepth 100000 in
set_option maxHeartbeats 1600000 in
theorem dom5_c (a : Nat) (w : World) (ha : a < 64) (hw : 5 ≤ 6) :
    Calls Tryd.prog 54 #[.int .i64 5, .int .i64 a] w fun e w' => ∃ v', e = .returned v' ∧ IntsIn w' w.heap.size w'.heap.size v' (domR 5 a) ∧ Below w.heap.size w w' := by
  obtain ⟨j0, hj, hy0, hy1, hy2⟩ := info_parts infoIntX
  have hmk := fun W => run_make_rowN (P := Tryd.prog) 22 3 j0 _ Tryd.underlying22 hj hy0 .i64 .i64 32 32 (Nat.le_refl _) (by rw [hy2]; omega) (by omega) W
  rw [hy1] at hmk
  simp at hmk
  have hmf : ∀ (fn : Fn) (first cap : Array Value) (w : World), (Instr.makeFunc fn first cap).run Tryd.prog w = .ok (.func fn first cap) w := fun _ _ _ _ => rfl
  have H := (((((Sep.start w).box 3 #[.int .i64 5]).box 3 (madeCells #[.int .i64 0] 32)).box 22 #[.slice (some ⟨w.heap.size + 1, 0, none⟩) 32 32]).box 88 #[.nilFunc])
  simp only [World.size_alloc] at H
  obtain ⟨g, hg⟩ : ∃ g, g = w.heap.size := ⟨_, rfl⟩
  rw [← hg] at H
  go_enter Tryd.func54, Tryd.ntmps54
  go_upto_region 3 with fail
  rw [← hg]
  generalize (((w.alloc (.cells #[.int .i64 5] 3)).alloc (.cells (madeCells #[.int .i64 0] 32) 3)).alloc (.cells #[.slice (some ⟨g + 1, 0, none⟩) 32 32] 22)).alloc (.cells #[.nilFunc] 88) = W at *
  have c4 : W.cell? ⟨g + 1 + 1 + 1, 0, none⟩ = some .nilFunc := H.h0.cell 0
  have f4 := H.h0.frozen 0
  have H2 := H.set_ 0 (fnDom g (g + 1 + 1) (g + 1 + 1 + 1))
  have em : madeCells #[.int .i64 0] 32 = (ic (List.replicate 32 0)).toArray := by apply Array.ext'; rw [toList_madeCells_one]; simp only [ic, List.map_replicate]
  have D0 : DomAt (W.setCell ⟨g + 1 + 1 + 1, 0, none⟩ (fnDom g (g + 1 + 1) (g + 1 + 1 + 1))) 5 g (g + 1 + 1) (g + 1 + 1 + 1) (g + 1) 32 88 (List.replicate 32 0) := ⟨H2.h3, H2.h1, H2.h0, em ▸ H2.h2, by omega, by omega, by omega, rfl⟩
  have k1 : (W.setCell ⟨g + 1 + 1 + 1, 0, none⟩ (fnDom g (g + 1 + 1) (g + 1 + 1 + 1))).cell? ⟨g + 1 + 1 + 1, 0, none⟩ = some (fnDom g (g + 1 + 1) (g + 1 + 1 + 1)) := H2.h0.cell 0
  have HC : Hid (Calls Tryd.prog 67 #[.int .i64 0, .int .i64 a, .int .i64 0, .pointer (some ⟨g, 0, none⟩), .pointer (some ⟨g + 1 + 1, 0, none⟩), .pointer (some ⟨g + 1 + 1 + 1, 0, none⟩)] (W.setCell ⟨g + 1 + 1 + 1, 0, none⟩ (fnDom g (g + 1 + 1) (g + 1 + 1 + 1))) fun e w' => e = .returned (.tuple #[]) ∧ Only (fun b => b = g + 1) (W.setCell ⟨g + 1 + 1 + 1, 0, none⟩ (fnDom g (g + 1 + 1) (g + 1 + 1 + 1))) w' ∧ DomAt w' 5 g (g + 1 + 1) (g + 1 + 1 + 1) (g + 1) 32 88 (domR 5 a)) := Lib.hid (by
    have := dom_c a 5 g (g + 1 + 1) (g + 1 + 1 + 1) (g + 1) 32 88 hw (by omega) rfl 5 5 (Nat.le_refl _) 0 0 rfl (by decide) _ _ D0 (fun v hv => by rw [List.eq_of_mem_replicate hv]; decide)
    exact this)
  have HG := Lib.hid hg
  have HB := Lib.hid H2.below
  clear D0 hg em H H2
  go_wp2_with fail
  refine (HC.out).mono ?_
  rintro e w5 ⟨rfl, ho, hh⟩
  have k2 : w5.cell? ⟨g + 1 + 1, 0, none⟩ = some (.slice (some ⟨g + 1, 0, none⟩) 32 32) := hh.bo.cell 0
  go_wp2
  go_ret
  have hg := HG.out
  have hl : (domR 5 a).length = 32 := domR_len
  generalize domR 5 a = D at *
  have hs : (ic D).length = 32 := by rw [ic_length, hl]
  refine ⟨_, rfl, IntsIn.mk (own_of_blk hh.br (by omega) (n := 32) (sz := 1) (by simpa using hs) (xs := ic D) (by rw [List.take_of_length_le (by simp [hs])]) (by decide)) (by rw [hl]) (by simp), ?_⟩
  exact ⟨ho.os.trans HB.out.os, ho.tape.trans HB.out.tape, ho.output.trans HB.out.output, Nat.le_trans HB.out.size ho.size, fun b hb => (ho.block b (Nat.lt_of_lt_of_le hb HB.out.size) (by omega)).trans (HB.out.block b hb)⟩
set_option maxRecDepth 100000 in
set_option maxHeartbeats 1600000 in
theorem dom6_c (a : Nat) (w : World) (ha : a < 64) (hw : 6 ≤ 6) :
    Calls Tryd.prog 54 #[.int .i64 6, .int .i64 a] w fun e w' => ∃ v', e = .returned v' ∧ IntsIn w' w.heap.size w'.heap.size v' (domR 6 a) ∧ Below w.heap.size w w' := by
  obtain ⟨j0, hj, hy0, hy1, hy2⟩ := info_parts infoIntX
  have hmk := fun W => run_make_rowN (P := Tryd.prog) 22 3 j0 _ Tryd.underlying22 hj hy0 .i64 .i64 64 64 (Nat.le_refl _) (by rw [hy2]; omega) (by omega) W
  rw [hy1] at hmk
  simp at hmk
  have hmf : ∀ (fn : Fn) (first cap : Array Value) (w : World), (Instr.makeFunc fn first cap).run Tryd.prog w = .ok (.func fn first cap) w := fun _ _ _ _ => rfl
  have H := (((((Sep.start w).box 3 #[.int .i64 6]).box 3 (madeCells #[.int .i64 0] 64)).box 22 #[.slice (some ⟨w.heap.size + 1, 0, none⟩) 64 64]).box 88 #[.nilFunc])
  simp only [World.size_alloc] at H
  obtain ⟨g, hg⟩ : ∃ g, g = w.heap.size := ⟨_, rfl⟩
  rw [← hg] at H
  go_enter Tryd.func54, Tryd.ntmps54
  go_upto_region 3 with fail
  rw [← hg]
  generalize (((w.alloc (.cells #[.int .i64 6] 3)).alloc (.cells (madeCells #[.int .i64 0] 64) 3)).alloc (.cells #[.slice (some ⟨g + 1, 0, none⟩) 64 64] 22)).alloc (.cells #[.nilFunc] 88) = W at *
  have c4 : W.cell? ⟨g + 1 + 1 + 1, 0, none⟩ = some .nilFunc := H.h0.cell 0
  have f4 := H.h0.frozen 0
  have H2 := H.set_ 0 (fnDom g (g + 1 + 1) (g + 1 + 1 + 1))
  have em : madeCells #[.int .i64 0] 64 = (ic (List.replicate 64 0)).toArray := by apply Array.ext'; rw [toList_madeCells_one]; simp only [ic, List.map_replicate]
  have D0 : DomAt (W.setCell ⟨g + 1 + 1 + 1, 0, none⟩ (fnDom g (g + 1 + 1) (g + 1 + 1 + 1))) 6 g (g + 1 + 1) (g + 1 + 1 + 1) (g + 1) 64 88 (List.replicate 64 0) := ⟨H2.h3, H2.h1, H2.h0, em ▸ H2.h2, by omega, by omega, by omega, rfl⟩
  have k1 : (W.setCell ⟨g + 1 + 1 + 1, 0, none⟩ (fnDom g (g + 1 + 1) (g + 1 + 1 + 1))).cell? ⟨g + 1 + 1 + 1, 0, none⟩ = some (fnDom g (g + 1 + 1) (g + 1 + 1 + 1)) := H2.h0.cell 0
  have HC : Hid (Calls Tryd.prog 67 #[.int .i64 0, .int .i64 a, .int .i64 0, .pointer (some ⟨g, 0, none⟩), .pointer (some ⟨g + 1 + 1, 0, none⟩), .pointer (some ⟨g + 1 + 1 + 1, 0, none⟩)] (W.setCell ⟨g + 1 + 1 + 1, 0, none⟩ (fnDom g (g + 1 + 1) (g + 1 + 1 + 1))) fun e w' => e = .returned (.tuple #[]) ∧ Only (fun b => b = g + 1) (W.setCell ⟨g + 1 + 1 + 1, 0, none⟩ (fnDom g (g + 1 + 1) (g + 1 + 1 + 1))) w' ∧ DomAt w' 6 g (g + 1 + 1) (g + 1 + 1 + 1) (g + 1) 64 88 (domR 6 a)) := Lib.hid (by
    have := dom_c a 6 g (g + 1 + 1) (g + 1 + 1 + 1) (g + 1) 64 88 hw (by omega) rfl 6 6 (Nat.le_refl _) 0 0 rfl (by decide) _ _ D0 (fun v hv => by rw [List.eq_of_mem_replicate hv]; decide)
    exact this)
  have HG := Lib.hid hg
  have HB := Lib.hid H2.below
  clear D0 hg em H H2
  go_wp2_with fail
  refine (HC.out).mono ?_
  rintro e w5 ⟨rfl, ho, hh⟩
  have k2 : w5.cell? ⟨g + 1 + 1, 0, none⟩ = some (.slice (some ⟨g + 1, 0, none⟩) 64 64) := hh.bo.cell 0
  go_wp2
  go_ret
  have hg := HG.out
  have hl : (domR 6 a).length = 64 := domR_len
  generalize domR 6 a = D at *
  have hs : (ic D).length = 64 := by rw [ic_length, hl]
  refine ⟨_, rfl, IntsIn.mk (own_of_blk hh.br (by omega) (n := 64) (sz := 1) (by simpa using hs) (xs := ic D) (by rw [List.take_of_length_le (by simp [hs])]) (by decide)) (by rw [hl]) (by simp), ?_⟩
  exact ⟨ho.os.trans HB.out.os, ho.tape.trans HB.out.tape, ho.output.trans HB.out.output, Nat.le_trans HB.out.size ho.size, fun b hb => (ho.block b (Nat.lt_of_lt_of_le hb HB.out.size) (by omega)).trans (HB.out.block b hb)⟩
set_option maxRecDepth 100000 in
theorem impl_dom_c (wd a : Nat) (w : World) (h1 : 1 ≤ wd) (hw : wd ≤ 6) (ha : a < 64) :
    Calls Tryd.prog 54 #[.int .i64 wd, .int .i64 a] w fun e w' => ∃ v', e = .returned v' ∧ IntsIn w' w.heap.size w'.heap.size v' (domR wd a) ∧ Below w.heap.size w w' := by
  have h4 : wd = 1 ∨ wd = 2 ∨ wd = 3 ∨ wd = 4 ∨ wd = 5 ∨ wd = 6 := by omega
  rcases h4 with rfl | rfl | rfl | rfl | rfl | rfl
  · exact dom1_c a w ha (by decide)
  · exact dom2_c a w ha (by decide)
  · exact dom3_c a w ha (by decide)
  · exact dom4_c a w ha (by decide)
  · exact dom5_c a w ha (by decide)
  · exact dom6_c a w ha (by decide)
end Go.Proofs.YtoccedebiacbiaaDoor

namespace Go.Proofs.YtoccedebiacbiaaDoor
open Go.RowKit

theorem wr_mul (a b : Int) : wrap64 (wrap64 a * b) = wrap64 (a * b) := by
  obtain ⟨q, hq⟩ : ∃ q, wrap64 a = a + 18446744073709551616 * q := ⟨(wrap64 a - a) / 18446744073709551616, by unfold wrap64; omega⟩
  rw [hq, Int.add_mul, Int.mul_assoc]
  generalize a * b = x
  generalize q * b = y
  unfold wrap64
  omega
theorem wr_zero {a b : Int} (h : wrap64 a = 0) : wrap64 (a * b) = 0 := by
  rw [← wr_mul, h]
  simp [wrap64]
theorem pairwise_at {α : Type} {R : α → α → Prop} {l : List α} (h : l.Pairwise R) {i j : Nat} {a b : α} (hij : i < j) (ha : l[i]? = some a) (hb : l[j]? = some b) : R a b := by
  obtain ⟨h1, rfl⟩ := List.getElem?_eq_some_iff.1 ha
  obtain ⟨h2, rfl⟩ := List.getElem?_eq_some_iff.1 hb
  exact List.pairwise_iff_getElem.1 h i j h1 h2 hij
structure IMd (es : Array MapEntry) (cl : Nat) (f : Nat → Nat) (n : Nat) : Prop where
  st : MapKept.Stamped es cl
  en : ∀ e ∈ es.toList, ∃ k : Nat, k < n ∧ e.key = .int .i64 k ∧ e.val = .int .i64 (wrap64 ((f k : Nat) : Int))
  no : ∀ k : Nat, k < n → (∀ e ∈ es.toList, e.key ≠ .int .i64 k) → wrap64 ((f k : Nat) : Int) = 0
/-- block b is a map that holds f's numbers, as they wrap round, for keys below n -/
def IM (w : World) (b : Nat) (f : Nat → Nat) (n : Nat) : Prop := ∃ es cl, w.heap[b]? = some (.map es cl) ∧ IMd es cl f n
theorem IMd.congr {es : Array MapEntry} {cl : Nat} {f g : Nat → Nat} {n : Nat} (h : IMd es cl f n) (hg : ∀ k, k < n → wrap64 ((f k : Nat) : Int) = wrap64 ((g k : Nat) : Int)) : IMd es cl g n :=
  ⟨h.st, fun e he => by
    obtain ⟨k, h1, h2, h3⟩ := h.en e he
    exact ⟨k, h1, h2, by rw [h3, hg k h1]⟩, fun k hk hn => by rw [← hg k hk]; exact h.no k hk hn⟩
theorem IMd.keys {es : Array MapEntry} {cl : Nat} {f : Nat → Nat} {n : Nat} (h : IMd es cl f n) : ∀ x ∈ es.toList, MapKept.IsKey (.int .i64) x.key := fun x hx => by
  obtain ⟨k, _, h2, _⟩ := h.en x hx
  rw [h2]
  trivial
theorem IMd.nil (n : Nat) : IMd #[] 0 (fun _ => 0) n := ⟨MapKept.stamped_empty 0, by simp, fun _ _ _ => by simp [wrap64]⟩
set_option maxRecDepth 100000 in
theorem imUnder : Tryd.prog.underlying 68 = some (.map 3 3) := by kernel_rfl
set_option maxRecDepth 100000 in
theorem imKey : Tryd.prog.underlying 3 = some (.int .i64) := by kernel_rfl
set_option maxRecDepth 100000 in
theorem IM.lookup {w : World} {b k n : Nat} {f : Nat → Nat} (h : IM w b f n) (hk : k < n) :
    (Instr.lookup 68 (.map (some b)) (.int .i64 (k : Int)) false).run Tryd.prog w = .ok (.int .i64 (wrap64 ((f k : Nat) : Int))) w := by
  obtain ⟨es, cl, hb, hd⟩ := h
  have hik : MapKept.IsKey (.int .i64) (.int .i64 (k : Int)) := rfl
  rcases MapKept.findNow_spec hik es.toList 0 hd.keys with ⟨h1, h2⟩ | ⟨j, e, h1, h2, h3⟩
  · simp [Instr.lookup, run_underlying imUnder, MapKept.run_getObj_map hb, MapKept.run_checkKey imKey hik, MapKept.run_findKey imKey h1, Result.andThen, hd.no k hk h2]
  · obtain ⟨k', _, e2, e3⟩ := hd.en e (List.mem_of_getElem? h2)
    rw [h3] at e2
    injection e2 with _ e2
    obtain rfl : k = k' := by omega
    simp [Instr.lookup, run_underlying imUnder, MapKept.run_getObj_map hb, MapKept.run_checkKey imKey hik, MapKept.run_findKey imKey h1, Result.andThen, e3]
set_option maxRecDepth 100000 in
theorem IM.update {w : World} {b k n : Nat} {f g : Nat → Nat} {u : Int} (h : IM w b f n) (hk : k < n) (hu : u = wrap64 ((g k : Nat) : Int)) (hg : ∀ j, j ≠ k → g j = f j) :
    ∃ w', (Instr.mapUpdate 68 (.map (some b)) (.int .i64 (k : Int)) (.int .i64 u)).run Tryd.prog w = .ok () w' ∧ IM w' b g n ∧ Only (fun x => x = b) w w' := by
  obtain ⟨es, cl, hb, hd⟩ := h
  have hlt : b < w.heap.size := (Array.getElem?_eq_some_iff.1 hb).1
  have hik : MapKept.IsKey (.int .i64) (.int .i64 (k : Int)) := rfl
  have ho : ∀ o, Only (fun x => x = b) w { w with heap := w.heap.setIfInBounds b o } := fun o => ⟨rfl, rfl, rfl, by simp, fun j hj hne => by
    have : b ≠ j := fun e => hne e.symm
    simp [this]⟩
  rcases MapKept.findNow_spec hik es.toList 0 hd.keys with ⟨h1, h2⟩ | ⟨j, e, h1, h2, h3⟩
  · refine ⟨_, by simp [Instr.mapUpdate, run_underlying imUnder, MapKept.run_getObj_map hb, MapKept.run_checkKey imKey hik, MapKept.run_findKey imKey h1, MapKept.run_setObj_map _ hb, Result.andThen]; rfl, ⟨_, _, (MapKept.heap_set hb).1, MapKept.stamped_push hd.st h2, ?_, ?_⟩, ho _⟩
    · intro x hx
      simp only [Array.toList_push, List.mem_append, List.mem_singleton] at hx
      rcases hx with hx | rfl
      · obtain ⟨k', e1, e2, e3⟩ := hd.en x hx
        have hne : k' ≠ k := fun e => h2 x hx (by rw [e2, e])
        exact ⟨k', e1, e2, by rw [e3, hg k' hne]⟩
      · exact ⟨k, hk, rfl, by rw [hu]⟩
    · intro k' hk' hn
      have hne : k' ≠ k := fun e => hn { key := .int .i64 k, val := .int .i64 u, born := cl } (by simp) (by rw [e])
      rw [hg k' hne]
      exact hd.no k' hk' fun x hx => hn x (by simp; exact .inl (by simpa using hx))
  · have hj : es[j]? = some e := by simpa using h2
    have hkey : ∀ e', es[j]? = some e' → ({ e' with key := .int .i64 k, val := .int .i64 u } : MapEntry).key = e'.key := fun e' he' => by rw [hj] at he'; cases he'; exact h3.symm
    have hst := MapKept.stamped_modify hd.st j (fun e' => { e' with key := .int .i64 k, val := .int .i64 u }) (fun _ _ => rfl) (fun e' _ he' => hkey e' he')
    refine ⟨_, by simp [Instr.mapUpdate, run_underlying imUnder, MapKept.run_getObj_map hb, MapKept.run_checkKey imKey hik, MapKept.run_findKey imKey h1, hj, h3, MapKept.run_keyThatStays hik, MapKept.run_setObj_map _ hb, Result.andThen], ⟨_, _, (MapKept.heap_set hb).1, hst, ?_, ?_⟩, ho _⟩
    · intro x hx
      obtain ⟨i, hi⟩ := List.getElem?_of_mem hx
      rw [Array.getElem?_toList, Array.getElem?_modify] at hi
      by_cases e : j = i
      · subst e
        rw [if_pos rfl, hj] at hi
        injection hi with hi
        subst hi
        exact ⟨k, hk, rfl, by rw [hu]⟩
      · rw [if_neg e] at hi
        have hx2 : x ∈ es.toList := by
          rw [← Array.getElem?_toList] at hi
          exact List.mem_of_getElem? hi
        obtain ⟨k', e1, e2, e3⟩ := hd.en x hx2
        have hne : k' ≠ k := by
          rintro rfl
          have hp := (MapKept.stamped_iff es cl).1 hd.st
          have hi2 : es.toList[i]? = some x := by rw [Array.getElem?_toList]; exact hi
          rcases Nat.lt_or_gt_of_ne e with hl | hl
          · exact pairwise_at hp.2.2 hl h2 hi2 (by rw [h3, e2])
          · exact pairwise_at hp.2.2 hl hi2 h2 (by rw [h3, e2])
        exact ⟨k', e1, e2, by rw [e3, hg k' hne]⟩
    · intro k' hk' hn
      have hkm := MapKept.modify_keys (es := es) j (fun e' => { e' with key := .int .i64 k, val := .int .i64 u }) hkey
      have hall : ∀ x ∈ es.toList, x.key ≠ .int .i64 k' := fun x hx ex => by
        have hm : x.key ∈ (es.modify j (fun e' => { e' with key := .int .i64 k, val := .int .i64 u })).toList.map (·.key) := by
          rw [hkm]; exact List.mem_map.2 ⟨x, hx, rfl⟩
        obtain ⟨y, hy, ey⟩ := List.mem_map.1 hm
        exact hn y hy (by rw [ey, ex])
      have hne : k' ≠ k := by
        rintro rfl
        exact hall e (List.mem_of_getElem? h2) h3
      rw [hg k' hne]
      exact hd.no k' hk' hall
theorem IM.congr {w : World} {b n : Nat} {f g : Nat → Nat} (h : IM w b f n) (hg : ∀ k, k < n → wrap64 ((f k : Nat) : Int) = wrap64 ((g k : Nat) : Int)) : IM w b g n := by
  obtain ⟨es, cl, h1, h2⟩ := h
  exact ⟨es, cl, h1, h2.congr hg⟩
def Res.imap (b : Nat) (f : Nat → Nat) (n : Nat) : Res := ⟨fun x => x = b, fun w => IM w b f n, fun hs h => by
  obtain ⟨es, cl, h1, h2⟩ := h
  exact ⟨es, cl, (hs b rfl).trans h1, h2⟩, fun h hb => by
  subst hb
  obtain ⟨es, cl, h1, h2⟩ := h
  exact (Array.getElem?_eq_some_iff.1 h1).1⟩
/-- an object in its block, as it is -/
def Res.raw (b : Nat) (o : Obj) : Res := ⟨fun x => x = b, fun w => w.heap[b]? = some o, fun hs h => (hs b rfl).trans h, fun h hb => by subst hb; exact (Array.getElem?_eq_some_iff.1 h).1⟩
theorem only_refl (D : Nat → Prop) (w : World) : Only D w w := Only.of_below (Below.refl _ _)
set_option maxRecDepth 100000 in
theorem Sep.iput {w0 w : World} {b k n : Nat} {f g : Nat → Nat} {u : Int} {L : List Res} (H : Sep w0 w (Res.imap b f n :: L)) (hk : k < n) (hu : u = wrap64 ((g k : Nat) : Int)) (hg : ∀ j, j ≠ k → g j = f j) :
    ∃ w', (Instr.mapUpdate 68 (.map (some b)) (.int .i64 (k : Int)) (.int .i64 u)).run Tryd.prog w = .ok () w' ∧ Sep w0 w' (Res.imap b g n :: L) := by
  obtain ⟨w', h1, h2, h3⟩ := IM.update (show IM w b f n from H.h0) hk hu hg
  exact ⟨w', h1, H.turn h3 h2 (fun _ hx => .inl hx)⟩
theorem Sep.icongr {w0 w : World} {b n : Nat} {f g : Nat → Nat} {L : List Res} (H : Sep w0 w (Res.imap b f n :: L)) (hg : ∀ k, k < n → wrap64 ((f k : Nat) : Int) = wrap64 ((g k : Nat) : Int)) : Sep w0 w (Res.imap b g n :: L) :=
  H.turn (only_refl _ _) (IM.congr H.h0 hg) (fun _ hx => .inl hx)
theorem Sep.iraw {w0 w : World} {b n : Nat} {f : Nat → Nat} {L : List Res} (H : Sep w0 w (Res.imap b f n :: L)) : ∃ es cl, IMd es cl f n ∧ Sep w0 w (Res.raw b (.map es cl) :: L) := by
  obtain ⟨es, cl, h1, h2⟩ := H.h0
  exact ⟨es, cl, h2, H.turn (r' := Res.raw b (.map es cl)) (only_refl _ _) h1 (fun _ hx => .inl hx)⟩
theorem Sep.imade {w0 w : World} {L : List Res} (H : Sep w0 w L) (n : Nat) : Sep w0 (w.alloc (.map #[] 0)) (Res.imap w.heap.size (fun _ => 0) n :: L) :=
  H.new (r := Res.imap w.heap.size (fun _ => 0) n) ((Below.refl _ _).alloc (Nat.le_refl _) _) ⟨#[], 0, heap_alloc_new w _, IMd.nil n⟩ (fun x hx => by have hx : x = w.heap.size := hx; omega)
/-! a range over a map -/
def kOf : Value → Nat
  | .int _ k => k.toNat
  | _ => 0
/-- the sum over the entries that have been seen -/
def seenN (g : Nat → Nat) : List MapEntry → Array Nat → Nat
  | [], _ => 0
  | e :: l, s => (if s.contains e.born then g (kOf e.key) else 0) + seenN g l s
theorem seenN_none {g : Nat → Nat} : ∀ l : List MapEntry, seenN g l #[] = 0
  | [] => rfl
  | e :: l => by simp [seenN, seenN_none l]
theorem seenN_other {g : Nat → Nat} {s : Array Nat} {b : Nat} : ∀ {l : List MapEntry}, b ∉ l.map (·.born) → seenN g l (s.push b) = seenN g l s
  | [], _ => rfl
  | e :: l, h => by
    have h1 : ¬ e.born = b := fun x => h (by simp [x])
    have h2 : b ∉ l.map (·.born) := fun x => h (by rw [List.map_cons]; exact List.mem_cons_of_mem _ x)
    have h3 : (s.push b).contains e.born = s.contains e.born := by rw [contains_push, beq_eq_false_iff_ne.2 h1, Bool.or_false]
    rw [seenN, seenN, seenN_other h2, h3]
theorem seenN_push {g : Nat → Nat} {s : Array Nat} {e : MapEntry} (hs : s.contains e.born = false) : ∀ {l : List MapEntry}, (l.map (·.born)).Nodup → e ∈ l → seenN g l (s.push e.born) = seenN g l s + g (kOf e.key)
  | x :: l, hn, he => by
    rw [List.map_cons, List.nodup_cons] at hn
    by_cases hx : x = e
    · subst hx
      have h3 : (s.push x.born).contains x.born = true := by rw [contains_push, beq_self_eq_true, Bool.or_true]
      rw [seenN, seenN, seenN_other hn.1, h3, hs]
      simp
      omega
    · have he2 : e ∈ l := by
        rcases List.mem_cons.1 he with h | h
        · exact absurd h.symm hx
        · exact h
      have h1 : ¬ x.born = e.born := fun h => hn.1 (by rw [h]; exact List.mem_map.2 ⟨e, he2, rfl⟩)
      have h3 : (s.push e.born).contains x.born = s.contains x.born := by rw [contains_push, beq_eq_false_iff_ne.2 h1, Bool.or_false]
      rw [seenN, seenN, seenN_push hs hn.2 he2, h3]
      omega
theorem seenN_all {g : Nat → Nat} {s : Array Nat} : ∀ {l : List MapEntry}, (∀ x ∈ l, s.contains x.born = true) → seenN g l s = (l.map fun e => g (kOf e.key)).sum
  | [], _ => rfl
  | x :: l, h => by
    rw [seenN, h x (by simp), seenN_all (fun y hy => h y (by simp [hy]))]
    simp
theorem sum_keys {g : Nat → Nat} {n : Nat} : ∀ {K : List Nat}, K.Nodup → (∀ k ∈ K, k < n) → (K.map g).sum = sumN (fun k => if k ∈ K then g k else 0) n
  | [], _, _ => (sumN_zero fun _ _ => by simp).symm
  | k :: K, hn, hk => by
    rw [List.nodup_cons] at hn
    rw [List.map_cons, List.sum_cons, sum_keys hn.2 (fun x hx => hk x (by simp [hx])), ← sumN_is (f := g) (hk k (by simp)), ← sumN_add]
    refine sumN_congr fun s _ => ?_
    by_cases e : s = k
    · subst e
      simp [isN, hn.1]
    · simp [isN, e]
theorem sumN_wr {a b : Nat → Nat} : ∀ {n : Nat}, (∀ k, k < n → wrap64 ((a k : Nat) : Int) = wrap64 ((b k : Nat) : Int)) → wrap64 ((sumN a n : Nat) : Int) = wrap64 ((sumN b n : Nat) : Int)
  | 0, _ => rfl
  | n + 1, h => by
    rw [sumN_succ, sumN_succ, Int.natCast_add, Int.natCast_add, ← wr_add, sumN_wr (fun k hk => h k (by omega)), h n (by omega), wr_add]
/-- a range that has seen all -/
theorem IMd.sum {es : Array MapEntry} {cl : Nat} {f c : Nat → Nat} {n : Nat} {s : Array Nat} (h : IMd es cl f n) (hs : (leftOf es s).size = 0) :
    wrap64 ((seenN (fun k => f k * c k) es.toList s : Nat) : Int) = wrap64 ((sumN (fun k => f k * c k) n : Nat) : Int) := by
  rw [seenN_all (all_seen es s hs)]
  have e1 : (es.toList.map fun e => f (kOf e.key) * c (kOf e.key)) = (es.toList.map fun e => kOf e.key).map fun k => f k * c k := by rw [List.map_map]; rfl
  have hk : ∀ e ∈ es.toList, kOf e.key < n ∧ e.key = .int .i64 (kOf e.key : Nat) := fun e he => by
    obtain ⟨k, h1, h2, _⟩ := h.en e he
    rw [h2]
    exact ⟨by simpa [kOf] using h1, by simp [kOf]⟩
  have hn : (es.toList.map fun e => kOf e.key).Nodup := by
    have h1 := ((MapKept.stamped_iff es cl).1 h.st).2.2
    rw [List.Nodup, List.pairwise_map]
    exact h1.imp_of_mem fun {a b} ha hb hab hk' => hab (by rw [(hk a ha).2, (hk b hb).2, hk'])
  rw [e1, sum_keys hn (fun k hk' => by
    obtain ⟨e, he, rfl⟩ := List.mem_map.1 hk'
    exact (hk e he).1)]
  refine sumN_wr fun k hkn => ?_
  by_cases hm : k ∈ es.toList.map fun e => kOf e.key
  · rw [if_pos hm]
  · rw [if_neg hm, Int.natCast_mul, wr_zero (h.no k hkn (fun e he ek => hm (List.mem_map.2 ⟨e, he, by rw [ek]; simp [kOf]⟩)))]
    simp [wrap64]
set_option maxRecDepth 100000 in
/-- one step of a range -/
theorem Sep.next {w0 w : World} {r b cl : Nat} {es : Array MapEntry} {s : Array Nat} {L : List Res} (hst : MapKept.Stamped es cl) (H : Sep w0 w (Res.raw r (.mapIter (some b) cl s cl) :: Res.raw b (.map es cl) :: L)) (ty : TypeId) :
    ((leftOf es s).size = 0 ∧ (Instr.next (.pointer (some ⟨r, 0, none⟩)) false ty).run Tryd.prog w = .ok (.tuple #[.bool false]) w) ∨
    ∃ e ∈ (leftOf es s).toList, ∃ w2 : World, (Instr.next (.pointer (some ⟨r, 0, none⟩)) false ty).run Tryd.prog w = .ok (.tuple #[.bool true, e.key, e.val]) w2 ∧ (Instr.entry (.pointer (some ⟨r, 0, none⟩))).run Tryd.prog w2 = .ok (.tuple #[e.key, e.val]) w2 ∧ Sep w0 w2 (Res.raw r (.mapIter (some b) cl (s.push e.born) cl) :: Res.raw b (.map es cl) :: L) := by
  have hr : w.heap[r]? = some (.mapIter (some b) cl s cl) := H.h0
  have hb : w.heap[b]? = some (.map es cl) := H.h1
  rcases run_next_at (P := Tryd.prog) w ty r b cl cl s es cl hr hb hst.1 (Nat.le_refl _) with h | ⟨e, he, w1, hw, hrun⟩
  · exact .inl h
  · right
    have H1 : Sep w0 w1 (Res.raw r (.mapIter (some b) cl s cl) :: Res.raw b (.map es cl) :: L) := by
      rcases hw with rfl | rfl
      · exact H
      · exact H.drew
    have hr1 : r < w1.heap.size := by
      have hx : w1.heap[r]? = some (.mapIter (some b) cl s cl) := H1.h0
      exact (Array.getElem?_eq_some_iff.1 hx).1
    have H2 : Sep w0 (ChangeMaps.setBlock w1 r (.mapIter (some b) cl (s.push e.born) cl)) (Res.raw r (.mapIter (some b) cl (s.push e.born) cl) :: Res.raw b (.map es cl) :: L) := by
      refine H1.turn (r' := Res.raw r _) ⟨rfl, rfl, rfl, by simp [ChangeMaps.setBlock], fun j hj hne => ?_⟩ ?_ (fun _ hx => .inl hx)
      · have : r ≠ j := fun e => hne e.symm
        simp [ChangeMaps.setBlock, this]
      · show (ChangeMaps.setBlock w1 r _).heap[r]? = _
        simp [ChangeMaps.setBlock, hr1]
    refine ⟨e, he, _, hrun, ?_, H2⟩
    exact run_entry_at _ r b cl s es cl e H2.h0 H2.h1 (mem_left he).1 hst.2.1
end Go.Proofs.YtoccedebiacbiaaDoor

namespace Go.Proofs.YtoccedebiacbiaaDoor
open Go.RowKit

theorem outR_congr {U V : Nat → Bool} {w : Nat} (h : ∀ j, j < w → U j = V j) {c : Nat} : ∀ (n r : Nat), r ≤ n → ∀ x d, x + r = w → outR U r x d c = outR V r x d c
  | 0, r, hr, x, d, hx => by
    obtain rfl : r = 0 := by omega
    rfl
  | n + 1, 0, _, x, d, hx => rfl
  | n + 1, 1, hr, x, d, hx => by
    have h0 := h x (by omega)
    cases hV : V x
    · rw [outR_one (h0.trans hV), outR_one hV]; exact outR_congr h n 0 (by omega) _ _ (by omega)
    · rw [outR_full (h0.trans hV), outR_full hV]; exact outR_congr h n 0 (by omega) _ _ (by omega)
  | n + 1, r + 2, hr, x, d, hx => by
    have h0 := h x (by omega)
    have h1 := h (x + 1) (by omega)
    cases hV : V x
    · rw [outR_two (h0.trans hV), outR_two hV, outR_congr h n (r + 1) (by omega) _ _ (by omega), outR_congr h n r (by omega) _ _ (by omega), h1]
    · rw [outR_full (h0.trans hV), outR_full hV]; exact outR_congr h n (r + 1) (by omega) _ _ (by omega)
/-- what is full in a row -/
def fullN (n d row : Nat) : Nat := d ||| ((n - 1) &&& (2 ^ 64 - (row + 1)))
theorem fullN_lt {n d row : Nat} (hn : n ≤ 64) (hd : d < 64) : fullN n d row < 64 := by
  unfold fullN
  exact Nat.or_lt_two_pow (n := 6) hd (Nat.lt_of_le_of_lt Nat.and_le_left (by omega))
theorem fullN_bit {w d row j : Nat} (hj : j < w) (hw : w ≤ 6) (hr : row < 64) : (fullN (2 ^ w) d row).testBit j = (d.testBit j || !row.testBit j) := by
  unfold fullN
  rw [Nat.testBit_or, Nat.testBit_and, Nat.testBit_two_pow_sub_one, Nat.testBit_two_pow_sub_succ (by omega), decide_eq_true hj, decide_eq_true (show j < 64 by omega)]
  simp
theorem full_ex {n d row : Nat} (h1 : 1 ≤ n) (hn : n ≤ 64) (hd : d < 64) (hr : row < 64) : ∃ nm z a : Nat, (n : Int) - 1 = (nm : Int) ∧ nm < 64 ∧ bits .andNot .i64 (nm : Int) (row : Int) = (z : Int) ∧ z < 64 ∧ bits .or .i64 (d : Int) (z : Int) = (a : Int) ∧ a < 64 ∧ Hid (a = fullN n d row) := by
  have h2 : n - 1 < 64 := by omega
  have h3 := i64_andNot_nat (n - 1) row (by omega) (by omega)
  have h4 : (n - 1) &&& (2 ^ 64 - (row + 1)) < 64 := Nat.lt_of_le_of_lt Nat.and_le_left h2
  have h5 := fullN_lt (row := row) hn hd
  unfold fullN at h5 ⊢
  generalize (n - 1) &&& (2 ^ 64 - (row + 1)) = z at *
  exact ⟨n - 1, z, _, by omega, h2, h3, h4, i64_or_nat d z (by omega) (by omega), h5, Lib.hid rfl⟩
/-- what the next row holds while the ways below j are added -/
def stepF (F : Nat → Nat) (m : Nat) (T : Nat → Nat) (j b : Nat) : Nat := F b + if b < j then m * T b else 0
theorem stepF_zero {F T : Nat → Nat} {m : Nat} : stepF F m T 0 = F := by funext b; simp [stepF]
theorem stepF_here {F T : Nat → Nat} {m j : Nat} : stepF F m T (j + 1) j = stepF F m T j j + m * T j := by simp [stepF]
theorem stepF_else {F T : Nat → Nat} {m j b : Nat} (h : b ≠ j) : stepF F m T (j + 1) b = stepF F m T j b := by
  unfold stepF
  by_cases hb : b < j
  · rw [if_pos hb, if_pos (by omega)]
  · rw [if_neg hb, if_neg (by omega)]
/-- the weight of a profile towards b -/
def ccN (w row d b : Nat) : Nat := if d &&& row = d then outR (fun j => d.testBit j || !row.testBit j) w 0 0 b else 0
theorem ccN_dom {w row d b : Nat} (hw : w ≤ 6) (hr : row < 64) (h : d &&& row = d) : ccN w row d b = outR (fullN (2 ^ w) d row).testBit w 0 0 b := by
  rw [ccN, if_pos h]
  exact (outR_congr (fun j hj => fullN_bit hj hw hr) w w (Nat.le_refl _) 0 0 (by omega)).symm
theorem ni_cc {w y b : Nat} {R : Nat → Nat} : niN w R (y + 1) b = sumN (fun d => niN w R y d * ccN w (R y) d b) (2 ^ w) := by
  rw [niN]
  refine sumN_congr fun s _ => ?_
  unfold ccN
  split <;> simp
set_option maxRecDepth 100000 in
set_option maxHeartbeats 6400000 in
theorem impl_dominoes_c {v : Value} {r : Reg} (w : World) (h : RegRd w 0 w.heap.size v r) (hv : r.Valid) :
    Calls Tryd.prog 29 #[v] w fun e w' => e = .returned (.int .i64 (domZ r)) ∧ Below w.heap.size w w' := by
  obtain ⟨s, rfl, hs⟩ := h
  have hs0 := hs
  obtain ⟨A, c, rfl, _, hr⟩ := hs
  have HIR := Lib.hid (fun (W : World) (hb : Below w.heap.size w W) (hsz : w.heap.size ≤ W.heap.size) => impl_IsRegion_c (r := r) W ⟨_, rfl, ((hs0.keep (SameIn.of_below hb (Nat.le_refl _))).more (Nat.le_refl _) hsz)⟩)
  rw [show r.valid = true from decide_eq_true hv] at HIR
  have HRW : Hid (∀ (W : World) (hb : Below w.heap.size w W) (y : Nat) (hy : y < r.rows.length), ∃ b off, A = some ⟨b, off, none⟩ ∧ W.cell? ⟨b, off + y, none⟩ = some (.int .i64 (r.rowZ y : Nat)) ∧ r.rowZ y < 64) := Lib.hid (fun W hb y hy => by
    obtain ⟨b, off, a, e1, _, hb', hla, q1⟩ := (hr.keep (SameIn.of_below hb (Nat.le_refl _))).at1 hy
    obtain ⟨ea, hrow⟩ := Reg.row_of hv hla
    have ez : r.rowZ y = r.row y := by unfold Reg.rowZ; rw [if_pos hy]
    have h64 : 2 ^ r.w.toNat ≤ 64 := Nat.pow_le_pow_right (n := 2) (by decide) (show r.w.toNat ≤ 6 by have := hv.2.1; omega)
    exact ⟨b, off, e1, by rw [ez, ← ea]; exact q1, by rw [ez]; omega⟩)
  have v1 := hv.1
  have v2 := hv.2.1
  have v3 := hv.2.2.1
  have v4 := hv.2.2.2.1
  have hw0 : r.w = (r.w.toNat : Int) := by omega
  have HZ : Hid (domZ r = wrap64 ((niN r.w.toNat r.rowZ r.rows.length 0 : Nat) : Int)) := Lib.hid rfl
  rw [hw0] at HIR ⊢
  generalize r.rowZ = R at *
  generalize domZ r = Z at *
  have hwn6 : r.w.toNat ≤ 6 := by omega
  have hhn6 : r.rows.length ≤ 6 := by omega
  have hwn1 : 1 ≤ r.w.toNat := by omega
  clear hw0 hv hs0 v1 v2 v3 v4
  generalize r.w.toNat = wn at *
  generalize r.rows.length = hn at *
  obtain ⟨n, hn'⟩ : ∃ n, n = 2 ^ wn := ⟨_, rfl⟩
  have hn64 : n ≤ 64 := by rw [hn']; exact Nat.pow_le_pow_right (by decide) hwn6
  have hn2 : 2 ≤ n := by rw [hn']; exact Nat.pow_le_pow_right (n := 2) (by decide) hwn1
  have HNP := Lib.hid hn'
  have hpw : wrap64 (2 ^ wn) = (n : Int) := by
    have : ((2 : Int) ^ wn) = (n : Int) := by rw [hn']; simp
    rw [this]; exact IntWalk.wrap64_in _ (by omega)
  have HPW := Lib.hid hpw
  have HPV : Hid (IntKind.i64.wrap (2 ^ wn) = (n : Int)) := Lib.hid (by
    have e2 : ((2 : Int) ^ wn) = (n : Int) := by rw [hn']; simp
    rw [e2]; exact IntWalk.i64_in _ (by omega))
  have hmm := @run_makeMap Tryd.prog
  have H0 := (Sep.start w).box 27 #[.int .i64 wn, .slice A hn c]
  obtain ⟨g, hg⟩ : ∃ g, g = w.heap.size := ⟨_, rfl⟩
  rw [← hg] at H0
  clear hn' hpw hr
  go_enter Tryd.func29, Tryd.ntmps29
  go_upto_region 1 with fail
  rw [← hg]
  generalize (w.alloc (.cells #[.int .i64 wn, .slice A hn c] 27)) = W at *
  clear hg
  have c0 : W.cell? ⟨g, 0, none⟩ = some (.int .i64 wn) := H0.h0.cell 0
  have c1 : W.cell? ⟨g, 1, none⟩ = some (.slice A hn c) := H0.h0.cell 1
  go_wp2_with fail
  refine ((HIR.out) _ H0.below H0.below.size).mono ?_
  rintro e w1 ⟨rfl, b1⟩
  have H1 := (H0.step b1).imade n
  clear H0 b1 c0 c1
  obtain ⟨W2, hup, H2⟩ := H1.iput (k := 0) (g := niN wn R 0) (u := 1) (by omega) (by simp [niN, isN, wrap64]) (fun j hj => by rw [niN, isN, if_neg hj])
  rw [show ((0 : Nat) : Int) = 0 from rfl] at hup
  clear H1
  go_upto_region 4 with fail
  obtain ⟨m, hm⟩ : ∃ m, m = w1.heap.size := ⟨_, rfl⟩
  rw [← hm] at H2 ⊢
  clear hup hm
  have c1 : W2.cell? ⟨g, 1, none⟩ = some (.slice A hn c) := H2.h1.cell 1
  go_wp2
  go_loopw [3, 19] (fun nv iv wx => ∃ (y m : Nat), y ≤ hn ∧ iv = .int .i64 y ∧ nv = .map (some m) ∧ Sep w wx [Res.imap m (niN wn R y) n, Res.box g 27 #[.int .i64 wn, .slice A hn c]]) (fun _ iv _ => hn - (intOf iv).toNat)
  case atStart => exact ⟨0, m, Nat.zero_le _, rfl, rfl, H2⟩
  case round =>
    clear H2 c1
    obtain ⟨y, m, hy, rfl, rfl, H⟩ := hrel
    by_cases hlt : y < hn
    · have hlti : (y : Int) < (hn : Int) := by omega
      obtain ⟨ba, oa, rfl, x1, hR64⟩ := HRW.out wr H.below y hlt
      obtain ⟨row, hrow⟩ : ∃ row, row = R y := ⟨_, rfl⟩
      rw [← hrow] at x1 hR64
      have HNI : Hid (∀ b, niN wn R (y + 1) b = sumN (fun d => niN wn R y d * ccN wn row d b) n) := Lib.hid fun b => by rw [ni_cc, hrow, HNP.out]
      obtain ⟨f, hf⟩ : ∃ f, f = niN wn R y := ⟨_, rfl⟩
      rw [← hf] at H HNI
      clear hrow hf
      have H1 := H.imade n
      go_upto_region 8 with fail
      obtain ⟨m2, hm2⟩ : ∃ k, k = wr.heap.size := ⟨_, rfl⟩
      rw [← hm2] at H1 ⊢
      generalize wr.alloc (.map #[] 0) = W3 at *
      clear hm2 H x1
      obtain ⟨es, cl, HD0, H2⟩ := H1.g1.iraw
      have HD := Lib.hid HD0
      have hst := HD0.st
      have hrg := run_range_map (P := Tryd.prog) W3 68 3 3 m es cl imUnder H2.h0
      have H3 := H2.new (r := Res.raw W3.heap.size (.mapIter (some m) cl #[] cl)) ((Below.refl _ _).alloc (Nat.le_refl _) (.mapIter (some m) cl #[] cl)) (heap_alloc_new W3 _) (fun x hx => by have hx : x = W3.heap.size := hx; omega)
      clear H1 H2 HD0
      have HST := Lib.hid hst
      clear hst
      go_wp2
      obtain ⟨rr, hrr⟩ : ∃ k, k = W3.heap.size := ⟨_, rfl⟩
      rw [← hrr] at H3 ⊢
      generalize W3.alloc (.mapIter (some m) cl #[] cl) = W4 at *
      clear hrr hrg
      go_loopw [7] (fun _ wx => ∃ seen : Array Nat, Sep w wx [Res.raw rr (.mapIter (some m) cl seen cl), Res.raw m (.map es cl), Res.imap m2 (fun b => seenN (fun k => f k * ccN wn row k b) es.toList seen) n, Res.box g 27 #[.int .i64 wn, .slice (some ⟨ba, oa, none⟩) hn c]]) (fun _ wx => (leftOf es (wx.iterSeen rr)).size)
      case atStart => exact ⟨#[], by simp only [seenN_none]; exact H3⟩
      case round =>
        clear H3
        obtain ⟨seen, H⟩ := hrel
        have HIS : Hid (wr.iterSeen rr = seen) := Lib.hid (by
          have hx : wr.heap[rr]? = some (.mapIter (some m) cl seen cl) := H.h0
          unfold World.iterSeen
          rw [hx])
        rcases H.next HST.out 0 with ⟨h0, hrun⟩ | ⟨e, he, w2, hrun, hen, H2⟩
        · have hnx : ∀ ty, (Instr.next (.pointer (some ⟨rr, 0, none⟩)) false ty).run Tryd.prog wr = _ := fun _ => hrun
          have H4 := H.drop.drop.icongr (g := niN wn R (y + 1)) (fun b hb => by rw [HNI.out b]; exact HD.out.sum (c := fun k => ccN wn row k b) h0)
          clear H h0 hrun
          go_wp2
          go_roundw
          case rel => exact ⟨y + 1, m2, by omega, by go_num, rfl, H4⟩
          case measure => simp [intOf]; omega
        · obtain ⟨k, hk, ek, ev⟩ := HD.out.en e (mem_left he).1
          have hsn : ∀ b, seenN (fun k => f k * ccN wn row k b) es.toList (seen.push e.born) = seenN (fun k => f k * ccN wn row k b) es.toList seen + f k * ccN wn row k b := fun b => by
            rw [seenN_push (mem_left he).2 HST.out.2.1 (mem_left he).1, ek]
            simp [kOf]
          have HSN := Lib.hid hsn
          have HLS := Lib.hid (left_shrinks es seen e he)
          rw [ek, ev] at hrun hen
          have hnx : ∀ ty, (Instr.next (.pointer (some ⟨rr, 0, none⟩)) false ty).run Tryd.prog wr = _ := fun _ => hrun
          generalize e.born = bn at *
          clear hrun ek ev hsn he H
          have hms := isMask_step (a := k) (b := row) (by omega) (by omega)
          by_cases hsub : k &&& row = k
          · have hne : (bits .andNot .i64 (k : Int) (row : Int) != 0) = false := by
              rw [bne, hms, hsub]; simp
            clear hms
            have c0 : w2.cell? ⟨g, 0, none⟩ = some (.int .i64 wn) := H2.h3.cell 0
            go_upto_region 12 with fail
            obtain ⟨nm, z, a, h1, hnm64, h3, hz64, h4, ha64, HA⟩ := full_ex (n := n) (d := k) (row := row) (by omega) hn64 (by omega) hR64
            have h2 : IntKind.i64.wrap (nm : Int) = (nm : Int) := IntWalk.i64_in _ (by omega)
            have h2b : wrap64 (nm : Int) = (nm : Int) := IntWalk.wrap64_in _ (by omega)
            have h0 := HPV.out
            have h0b := HPW.out
            have HCC : Hid (∀ b, ccN wn row k b = outR a.testBit wn 0 0 b) := Lib.hid fun b => by
              have := ccN_dom (b := b) hwn6 hR64 hsub
              rw [← HNP.out, ← HA.out] at this
              exact this
            have HDM0 := fun W : World => impl_dom_c wn a W hwn1 hwn6 ha64
            obtain ⟨D, hD⟩ : ∃ D, D = domR wn a := ⟨_, rfl⟩
            rw [← hD] at HDM0
            have HDM := Lib.hid HDM0
            have HDL : Hid (D.length = n) := Lib.hid (by rw [hD, domR_len, HNP.out])
            have HDA : Hid (∀ j, j < n → D[j]? = some ((ccN wn row k j : Nat) : Int)) := Lib.hid fun j hj => by rw [hD, domR_at (by rw [← HNP.out]; exact hj), HCC.out j]
            have HKB : Hid (∀ j, ccN wn row k j ≤ 64) := Lib.hid fun j => by
              rw [HCC.out j]
              exact Nat.le_trans (outR_le wn wn (Nat.le_refl _) 0 0 j) (by rw [← HNP.out]; exact hn64)
            clear HDM0 hD HA
            clear hsub hne
            clear c0
            have c0 : w2.drew.cell? ⟨g, 0, none⟩ = some (.int .i64 wn) := H2.drew.h3.cell 0
            go_region_held3 (fun w' => w'.cell? ⟨g, 0, none⟩ = some (.int .i64 wn))
              (first | ((try dsimp only); assumption) | go_keep)
              (first | (go_at_call 54; (with_reducible refine (HDM.out _).mono ?_); rintro e w5 ⟨vD, rfl, oD, b5⟩; obtain ⟨AD, cD, rfl, _, _⟩ := IntsIn.rd oD; have H5 := H2.drew.oiNew b5 oD; have d0 := H5.h4.cell 0; simp at d0))
            rw [HDL.out] at H5 ⊢
            obtain ⟨T, hT⟩ : ∃ T, T = ccN wn row k := ⟨_, rfl⟩
            obtain ⟨F, hF⟩ : ∃ F, F = fun b => seenN (fun k => f k * ccN wn row k b) es.toList seen := ⟨_, rfl⟩
            have HSN2 : Hid (∀ b, b < n → stepF F (f k) T n b = seenN (fun k => f k * ccN wn row k b) es.toList (seen.push bn)) := Lib.hid fun b hb => by
              rw [HSN.out b, stepF, if_pos hb, hF, hT]
            have H6 := H5.g3
            rw [← hF, ← stepF_zero (F := F) (m := f k) (T := T)] at H6
            rw [← hT] at HDA HKB
            obtain ⟨V, hV⟩ : ∃ V, V = wrap64 ((f k : Nat) : Int) := ⟨_, rfl⟩
            rw [← hV]
            have HVV := Lib.hid hV
            clear hT hF hV H5 H2 c0 d0 h0 h0b h1 h2 h2b h3 h4 b5 oD HSN
            go_wp2
            go_loopw [47] (fun jv wx => ∃ j : Nat, j ≤ n ∧ jv = .int .i64 j ∧ Sep w wx [Res.imap m2 (stepF F (f k) T j) n, Res.row (.slice AD n cD) 3 1 n (ic D), Res.raw rr (.mapIter (some m) cl (seen.push bn) cl), Res.raw m (.map es cl), Res.box g 27 #[.int .i64 wn, .slice (some ⟨ba, oa, none⟩) hn c]]) (fun jv _ => n - (intOf jv).toNat)
            case atStart => exact ⟨0, Nat.zero_le _, rfl, H6⟩
            case round =>
              clear H6
              obtain ⟨j, hj, rfl, H⟩ := hrel
              by_cases hlj : j < n
              · have hlji : (j : Int) < (n : Int) := by omega
                obtain ⟨gD, oD', cD', hs1, _, _, _⟩ := own_shape H.h1 (by omega)
                injection hs1 with hs2 hs3 hs4
                subst hs2 hs4
                obtain ⟨rfl, _⟩ := own_blk H.h1
                have x1 := own_cell1 H.h1 (HDA.out j hlj)
                rw [Nat.zero_add] at x1
                have hK64 := HKB.out j
                have HTJ : Hid (stepF F (f k) T (j + 1) j = stepF F (f k) T j j + f k * T j) := Lib.hid stepF_here
                obtain ⟨K, hK⟩ : ∃ K, K = T j := ⟨_, rfl⟩
                rw [← hK] at x1 hK64 HTJ
                by_cases hK0 : K = 0
                · subst hK0
                  have hgt : decide ((0 : Int) < ((0 : Nat) : Int)) = false := rfl
                  have H7 := H.icongr (g := stepF F (f k) T (j + 1)) (fun b _ => by
                    by_cases e : b = j
                    · subst e; rw [HTJ.out, Nat.mul_zero, Nat.add_zero]
                    · rw [stepF_else e])
                  clear H hK HTJ
                  go_wp2
                  go_roundw
                  case rel => exact ⟨j + 1, by omega, by go_num, H7⟩
                  case measure => simp [intOf]; omega
                · have hgt : decide ((0 : Int) < (K : Int)) = true := decide_eq_true (by omega)
                  have hgt2 : (0 : Int) < (K : Int) := by omega
                  have hlk := IM.lookup (show IM wr m2 (stepF F (f k) T j) n from H.h0) hlj
                  obtain ⟨w9, hup, H7⟩ := H.iput (k := j) (g := stepF F (f k) T (j + 1)) (u := wrap64 (wrap64 ((stepF F (f k) T j j : Nat) : Int) + wrap64 (V * (K : Int)))) hlj (by
                    rw [HTJ.out, HVV.out, wr_mul, wr_add, Int.natCast_add, Int.natCast_mul]) (fun b hb => stepF_else hb)
                  generalize wrap64 ((stepF F (f k) T j j : Nat) : Int) = G at *
                  clear H hK HTJ hK0
                  go_wp2
                  go_roundw
                  case rel => exact ⟨j + 1, by omega, by go_num, H7⟩
                  case measure => simp [intOf]; omega
              · obtain rfl : j = n := by omega
                have H7 := (H.icongr (g := fun b => seenN (fun k => f k * ccN wn row k b) es.toList (seen.push bn)) (fun b hb => by rw [HSN2.out b hb])).drop2.p2
                have HI2 : Hid (wr.iterSeen rr = seen.push bn) := Lib.hid (by
                  have hx : wr.heap[rr]? = some (.mapIter (some m) cl (seen.push bn) cl) := H7.h0
                  unfold World.iterSeen
                  rw [hx])
                clear H
                go_wp2
                go_roundw
                case rel => exact ⟨seen.push bn, H7⟩
                case measure => rw [HI2.out, HIS.out]; exact HLS.out
          · have hne : (bits .andNot .i64 (k : Int) (row : Int) != 0) = true := by
              rw [bne, hms]; simp [hsub]
            have hz : ∀ b, ccN wn row k b = 0 := fun b => by rw [ccN, if_neg hsub]
            have H5 : Sep w w2 [Res.raw rr (.mapIter (some m) cl (seen.push bn) cl), Res.raw m (.map es cl), Res.imap m2 (fun b => seenN (fun k => f k * ccN wn row k b) es.toList (seen.push bn)) n, Res.box g 27 #[.int .i64 wn, .slice (some ⟨ba, oa, none⟩) hn c]] := by
              simp only [HSN.out, hz, Nat.mul_zero, Nat.add_zero]; exact H2
            have HI2 : Hid (w2.iterSeen rr = seen.push bn) := Lib.hid (by
              have hx : w2.heap[rr]? = some (.mapIter (some m) cl (seen.push bn) cl) := H2.h0
              unfold World.iterSeen
              rw [hx])
            clear hms hsub hz H2
            go_wp2
            go_roundw
            case rel => exact ⟨seen.push bn, H5⟩
            case measure => rw [HI2.out, HIS.out]; exact HLS.out
    · obtain rfl : y = hn := by omega
      have hnl : ¬ (y : Int) < (y : Int) := by omega
      have hlk := IM.lookup (show IM wr m (niN wn R y) n from H.h0) (k := 0) (by omega)
      rw [show ((0 : Nat) : Int) = 0 from rfl, ← HZ.out] at hlk
      have hb := H.below
      clear H
      go_wp2
      go_ret
      exact ⟨rfl, hb⟩
end Go.Proofs.YtoccedebiacbiaaDoor

namespace Go.Proofs.YtoccedebiacbiaaDoor
open Go.RowKit

theorem sumN_le {f g : Nat → Nat} : ∀ {n : Nat}, (∀ s, s < n → f s ≤ g s) → sumN f n ≤ sumN g n
  | 0, _ => Nat.le_refl _
  | n + 1, h => by
    rw [sumN_succ, sumN_succ]
    have := sumN_le (n := n) (fun s hs => h s (by omega))
    have := h n (by omega)
    omega
theorem sumN_one {f : Nat → Nat} {k : Nat} : ∀ {n : Nat}, k < n → f k ≤ sumN f n
  | n + 1, h => by
    rw [sumN_succ]
    by_cases e : k = n
    · subst e; omega
    · have := sumN_one (f := f) (n := n) (show k < n by omega)
      omega
theorem sum_isN (p : Nat) : ∀ n, sumN (fun b => isN b p) n ≤ 1
  | 0 => by simp [sumN]
  | n + 1 => by
    rw [sumN_succ]
    by_cases e : n = p
    · subst e
      rw [sumN_zero (fun s hs => by rw [isN, if_neg (by omega)]), isN, if_pos rfl]
      omega
    · rw [isN, if_neg e]
      have := sum_isN p n
      omega
theorem st_two (w n s : Nat) (i u r : Bool) : sumN (fun b => stN w i u r s b) n ≤ 2 := by
  have h : ∀ b, stN w i u r s b ≤ isN b (s / 2 ||| 2 ^ (w - 1)) + isN b (s / 2 ||| 1) + (if s % 2 = 1 ∨ i = false then isN b (s / 2) else 0) := by
    intro b
    unfold stN
    cases i <;> cases u <;> by_cases hf : s % 2 = 1 <;> simp [hf] <;> (try split) <;> omega
  by_cases hc : s % 2 = 1 ∨ i = false
  · have h2 : ∀ b, stN w i u r s b ≤ isN b (s / 2) := by
      intro b
      unfold stN
      rcases hc with hc | hc
      · cases i <;> simp [hc]
      · subst hc; by_cases hf : s % 2 = 1 <;> simp [hf]
    exact Nat.le_trans (sumN_le fun b _ => h2 b) (Nat.le_trans (sum_isN _ n) (by omega))
  · have h2 : ∀ b, stN w i u r s b ≤ isN b (s / 2 ||| 2 ^ (w - 1)) + isN b (s / 2 ||| 1) := fun b => by
      have := h b
      rw [if_neg hc] at this
      omega
    refine Nat.le_trans (sumN_le fun b _ => h2 b) ?_
    rw [sumN_add]
    have h3 := sum_isN (s / 2 ||| 2 ^ (w - 1)) n
    have h4 := sum_isN (s / 2 ||| 1) n
    omega
theorem vs_bd {w h : Nat} {I : Nat → Nat → Bool} : ∀ i, sumN (vsN w h I i) (2 ^ w) ≤ 2 ^ i
  | 0 => sum_isN 0 _
  | i + 1 => by
    have e1 : sumN (vsN w h I (i + 1)) (2 ^ w) = sumN (fun s => vsN w h I i s * sumN (fun b => stN w (I (i % w) (i / w)) (I (i % w) (i / w + 1)) (decide (i % w + 1 < w) && I (i % w + 1) (i / w)) s b) (2 ^ w)) (2 ^ w) := by
      rw [show sumN (vsN w h I (i + 1)) (2 ^ w) = sumN (fun b => sumN (fun s => vsN w h I i s * stN w (I (i % w) (i / w)) (I (i % w) (i / w + 1)) (decide (i % w + 1 < w) && I (i % w + 1) (i / w)) s b) (2 ^ w)) (2 ^ w) from rfl, sumN_swap]
      exact sumN_congr fun s _ => sumN_mulL.symm
    have e2 : sumN (vsN w h I (i + 1)) (2 ^ w) ≤ sumN (fun s => vsN w h I i s * 2) (2 ^ w) := by
      rw [e1]
      exact sumN_le fun s _ => Nat.mul_le_mul_left _ (st_two _ _ _ _ _ _)
    rw [← sumN_mul] at e2
    have := vs_bd (w := w) (h := h) (I := I) i
    rw [Nat.pow_succ]
    omega
theorem domZ_bd {r : Reg} (hv : r.Valid) : 0 ≤ domZ r ∧ domZ r ≤ 68719476736 := by
  have h1 := Nat.le_trans (sumN_one (f := vsN r.w.toNat r.rows.length r.inI (r.w.toNat * r.rows.length)) (k := 0) (Nat.two_pow_pos _)) (vs_bd _)
  rw [dom_vs hv] at h1
  have h36 : r.w.toNat * r.rows.length ≤ 36 := Nat.mul_le_mul (show r.w.toNat ≤ 6 by have := hv.2.1; omega) hv.2.2.2.1
  have h2 : niN r.w.toNat r.rowZ r.rows.length 0 ≤ 2 ^ 36 := Nat.le_trans h1 (Nat.pow_le_pow_right (by decide) h36)
  unfold domZ
  rw [IntWalk.wrap64_in _ (by omega)]
  omega
end Go.Proofs.YtoccedebiacbiaaDoor
