
/-
  The way around a shape without holes holds every boundary side once: plain. The way around a shape without holes winds once around its cells and holds every boundary side once: plain. A shape without holes: what is free hangs together with the far left: plain. The way around a shape is as long as its perimeter: plain. A tree-like shape has no squares: plain. Squares of four cells; none in a tree: plain. A row-convex shape has no holes; without squares: plain.
-/
import Derived.Test.YtghpkfihdcjlaaaOuB
import Derived.Test.YtghpkfihdcjlaaaOuH
import Derived.Test.YtghpkfihdcjlaaaOuN
import Derived.Test.YtghpkfihdcjlaaaOuC
namespace Go.Proofs.Ytghpkfihdcjlaaa
open Go.RowKit

def bI (b : Bool) : Int := if b then 1 else 0
/-- the sum over the first n steps -/
def sumW (F : Cell → Nat → Int) (s : List Cell) (a : Cell) : Nat → Int
  | 0 => 0
  | n + 1 => sumW F s a n + F (wlk s a n) (outD s (wlk s a n))
/-- how a step winds around a cell: upright sides at its left -/
def wnd (x y : Int) (p : Cell) (d : Nat) : Int := bI (decide (d = 3) && (decide (p.y - 1 = y) && decide (p.x ≤ x))) - bI (decide (d = 1) && (decide (p.y = y) && decide (p.x ≤ x)))
/-- the side at a cell's left, and at its top -/
def sdL (x y : Int) (p : Cell) (d : Nat) : Int := bI (decide (d = 3) && (decide (p.y - 1 = y) && decide (p.x = x))) - bI (decide (d = 1) && (decide (p.y = y) && decide (p.x = x)))
def sdT (x y : Int) (p : Cell) (d : Nat) : Int := bI (decide (d = 0) && (decide (p.y = y) && decide (p.x = x))) - bI (decide (d = 2) && (decide (p.y = y) && decide (p.x - 1 = x)))
def phi (x y : Int) (q : Cell) : Int := bI (decide (q.y = y) && decide (q.x ≤ x))
theorem bI_two (b : Bool) : bI b = 0 ∨ bI b = 1 := by cases b <;> simp [bI]
theorem bI_le {x p : Int} : bI (decide (p ≤ x)) - bI (decide (p ≤ x - 1)) = bI (decide (p = x)) := by
  unfold bI
  by_cases h1 : p ≤ x - 1
  · simp [h1, show p ≤ x by omega, show ¬ p = x by omega]
  · by_cases h2 : p = x
    · subst h2; simp; omega
    · simp [h1, h2, show ¬ p ≤ x by omega]
theorem wnd_left (x y : Int) (p : Cell) {d : Nat} (hd : d < 4) : wnd x y p d - wnd (x - 1) y p d = sdL x y p d := by
  have h4 : d = 0 ∨ d = 1 ∨ d = 2 ∨ d = 3 := by omega
  have key := bI_le (x := x) (p := p.x)
  rcases h4 with rfl | rfl | rfl | rfl <;> simp only [wnd, sdL, decide_true, Bool.true_and, Bool.false_and, Nat.reduceEqDiff, decide_false]
  · simp [bI]
  · by_cases hy : p.y = y
    · simp only [hy, decide_true, Bool.true_and]
      simp only [bI, Bool.false_eq_true, if_false] at key ⊢
      omega
    · simp [hy, bI]
  · simp [bI]
  · by_cases hy : p.y - 1 = y
    · simp only [hy, decide_true, Bool.true_and]
      simp only [bI, Bool.false_eq_true, if_false] at key ⊢
      omega
    · simp [hy, bI]
theorem wnd_top (x y : Int) (p : Cell) {d : Nat} (hd : d < 4) : wnd x y p d - wnd x (y - 1) p d - sdT x y p d = phi x y (stepC p d) - phi x y p := by
  have h4 : d = 0 ∨ d = 1 ∨ d = 2 ∨ d = 3 := by omega
  rcases h4 with rfl | rfl | rfl | rfl <;> simp only [wnd, sdT, phi, stepC, decide_true, Bool.true_and, Bool.false_and, Nat.reduceEqDiff, decide_false]
  · by_cases hy : p.y = y
    · have key := bI_le (x := x) (p := p.x)
      rw [show decide (p.x ≤ x - 1) = decide (p.x + 1 ≤ x) by rw [Bool.eq_iff_iff]; simp <;> omega] at key
      simp only [hy, decide_true, Bool.true_and]
      simp only [bI, Bool.false_eq_true, if_false] at key ⊢
      omega
    · simp [hy, bI]
  · rw [show decide (p.y = y - 1) = decide (p.y + 1 = y) by rw [Bool.eq_iff_iff]; simp <;> omega]
    simp only [bI, Bool.false_eq_true, if_false]
    omega
  · by_cases hy : p.y = y
    · have key := bI_le (x := x) (p := p.x - 1)
      rw [show decide (p.x - 1 ≤ x - 1) = decide (p.x ≤ x) by rw [Bool.eq_iff_iff]; simp <;> omega] at key
      simp only [hy, decide_true, Bool.true_and]
      simp only [bI, Bool.false_eq_true, if_false] at key ⊢
      omega
    · simp [hy, bI]
  · rw [show decide (p.y - 1 = y - 1) = decide (p.y = y) by rw [Bool.eq_iff_iff]; simp <;> omega]
    simp only [bI, Bool.false_eq_true, if_false]
    omega
section
variable {s : List Cell} {a : Cell}
theorem sumW_add {F G : Cell → Nat → Int} : ∀ n, sumW (fun p d => F p d + G p d) s a n = sumW F s a n + sumW G s a n
  | 0 => rfl
  | n + 1 => by
    have ih := sumW_add (F := F) (G := G) n
    rw [sumW, sumW, sumW, ih]
    omega
theorem sumW_sub {F G : Cell → Nat → Int} : ∀ n, sumW F s a n - sumW G s a n = sumW (fun p d => F p d - G p d) s a n
  | 0 => rfl
  | n + 1 => by
    have ih := sumW_sub (F := F) (G := G) n
    rw [sumW, sumW, sumW, ← ih]
    omega
theorem sumW_congr {F G : Cell → Nat → Int} (h : ∀ i, F (wlk s a i) (outD s (wlk s a i)) = G (wlk s a i) (outD s (wlk s a i))) : ∀ n, sumW F s a n = sumW G s a n
  | 0 => rfl
  | n + 1 => by rw [sumW, sumW, sumW_congr h n, h n]
theorem sumW_zero {F : Cell → Nat → Int} (h : ∀ i, F (wlk s a i) (outD s (wlk s a i)) = 0) : ∀ n, sumW F s a n = 0
  | 0 => rfl
  | n + 1 => by rw [sumW, sumW_zero h n, h n]; rfl
theorem sumW_tel {f : Cell → Int} : ∀ n, sumW (fun p d => f (stepC p d) - f p) s a n = f (wlk s a n) - f a
  | 0 => by rw [sumW, wlk]; omega
  | n + 1 => by
    rw [sumW, sumW_tel n, wlk]
    omega
/-- how often the way winds around a cell -/
def wind (s : List Cell) (a : Cell) (K : Nat) (x y : Int) : Int := sumW (wnd x y) s a K
theorem wind_left (K : Nat) (x y : Int) : wind s a K x y - wind s a K (x - 1) y = sumW (sdL x y) s a K := by
  unfold wind
  rw [sumW_sub]
  exact sumW_congr (fun i => wnd_left x y _ (outD_lt s _)) K
theorem wind_top {K : Nat} (hK : wlk s a K = a) (x y : Int) : wind s a K x y - wind s a K x (y - 1) = sumW (sdT x y) s a K := by
  have h1 := sumW_tel (s := s) (a := a) (f := phi x y) K
  rw [hK] at h1
  have h2 : sumW (fun p d => wnd x y p d - wnd x (y - 1) p d - sdT x y p d) s a K = sumW (fun p d => phi x y (stepC p d) - phi x y p) s a K := sumW_congr (fun i => wnd_top x y _ (outD_lt s _)) K
  rw [← sumW_sub, ← sumW_sub] at h2
  unfold wind
  omega
theorem wind_far (h : Bord s a) (K : Nat) {x : Int} (hx : x < 0) (y : Int) : wind s a K x y = 0 := by
  refine sumW_zero (fun i => ?_) K
  have := (h.on_ i).1.1
  have h1 : decide ((wlk s a i).x ≤ x) = false := decide_eq_false (by omega)
  simp [wnd, h1, bI]
/-- a side that the way holds parts the shape from what is no shape -/
theorem sdL_same (h : Bord s a) {x y : Int} (he : hs s x y = hs s (x - 1) y) (i : Nat) : sdL x y (wlk s a i) (outD s (wlk s a i)) = 0 := by
  have hed := h.edg i
  generalize wlk s a i = p at *
  generalize outD s p = d at *
  unfold sdL
  have k3 : (decide (d = 3) && (decide (p.y - 1 = y) && decide (p.x = x))) = false := by
    rw [Bool.eq_false_iff]
    intro hc
    simp only [Bool.and_eq_true, decide_eq_true_eq] at hc
    obtain ⟨rfl, rfl, rfl⟩ := hc
    simp only [edge, Bool.and_eq_true, Bool.not_eq_true'] at hed
    rw [hed.1, hed.2] at he
    cases he
  have k1 : (decide (d = 1) && (decide (p.y = y) && decide (p.x = x))) = false := by
    rw [Bool.eq_false_iff]
    intro hc
    simp only [Bool.and_eq_true, decide_eq_true_eq] at hc
    obtain ⟨rfl, rfl, rfl⟩ := hc
    simp only [edge, Bool.and_eq_true, Bool.not_eq_true'] at hed
    rw [hed.1, hed.2] at he
    cases he
  rw [k3, k1]
  rfl
theorem sdT_same (h : Bord s a) {x y : Int} (he : hs s x y = hs s x (y - 1)) (i : Nat) : sdT x y (wlk s a i) (outD s (wlk s a i)) = 0 := by
  have hed := h.edg i
  generalize wlk s a i = p at *
  generalize outD s p = d at *
  unfold sdT
  have k0 : (decide (d = 0) && (decide (p.y = y) && decide (p.x = x))) = false := by
    rw [Bool.eq_false_iff]
    intro hc
    simp only [Bool.and_eq_true, decide_eq_true_eq] at hc
    obtain ⟨rfl, rfl, rfl⟩ := hc
    simp only [edge, Bool.and_eq_true, Bool.not_eq_true'] at hed
    rw [hed.1, hed.2] at he
    cases he
  have k2 : (decide (d = 2) && (decide (p.y = y) && decide (p.x - 1 = x))) = false := by
    rw [Bool.eq_false_iff]
    intro hc
    simp only [Bool.and_eq_true, decide_eq_true_eq] at hc
    obtain ⟨rfl, rfl, rfl⟩ := hc
    simp only [edge, Bool.and_eq_true, Bool.not_eq_true'] at hed
    rw [hed.1, hed.2] at he
    cases he
  rw [k0, k2]
  rfl
theorem wind_x (h : Bord s a) (K : Nat) {x y : Int} (he : hs s x y = hs s (x - 1) y) : wind s a K x y = wind s a K (x - 1) y := by
  have h1 := wind_left (s := s) (a := a) K x y
  rw [sumW_zero (sdL_same h he)] at h1
  omega
theorem wind_y (h : Bord s a) {K : Nat} (hK : wlk s a K = a) {x y : Int} (he : hs s x y = hs s x (y - 1)) : wind s a K x y = wind s a K x (y - 1) := by
  have h1 := wind_top hK x y
  rw [sumW_zero (sdT_same h he)] at h1
  omega
/-- neighbours that are alike are wound alike -/
theorem wind_nb (h : Bord s a) {K : Nat} (hK : wlk s a K = a) {c : Cell} {d : Nat} (hd : d < 4) (he : hs s c.x c.y = hs s (stepC c d).x (stepC c d).y) : wind s a K c.x c.y = wind s a K (stepC c d).x (stepC c d).y := by
  have h4 : d = 0 ∨ d = 1 ∨ d = 2 ∨ d = 3 := by omega
  rcases h4 with rfl | rfl | rfl | rfl <;> simp only [stepC] at he ⊢
  · have := wind_x h K (x := c.x + 1) (y := c.y) (by rw [Int.add_sub_cancel]; exact he.symm)
    rw [Int.add_sub_cancel] at this
    exact this.symm
  · have := wind_y h hK (x := c.x) (y := c.y + 1) (by rw [Int.add_sub_cancel]; exact he.symm)
    rw [Int.add_sub_cancel] at this
    exact this.symm
  · exact wind_x h K he
  · exact wind_y h hK he
/-- what is free and hangs together with the far left -/
inductive Fre (s : List Cell) : Cell → Prop
  | far {c : Cell} : c.x < 0 → Fre s c
  | step {b : Cell} {d : Nat} : Fre s b → d < 4 → hs s (stepC b d).x (stepC b d).y = false → Fre s (stepC b d)
theorem Fre.off (h : Bord s a) {c : Cell} (hc : Fre s c) : hs s c.x c.y = false := by
  induction hc with
  | far hx =>
    rw [Bool.eq_false_iff]
    intro hm
    have := (h.on _ (hs_iff.1 hm)).1.1
    simp only at this
    omega
  | step _ _ hf => exact hf
theorem wind_fre (h : Bord s a) {K : Nat} (hK : wlk s a K = a) {c : Cell} (hc : Fre s c) : wind s a K c.x c.y = 0 := by
  induction hc with
  | far hx => exact wind_far h K hx _
  | @step b d hb hd hf ih =>
    rw [← wind_nb h hK hd (by rw [hf, hb.off h])]
    exact ih
end
end Go.Proofs.Ytghpkfihdcjlaaa

namespace Go.Proofs.Ytghpkfihdcjlaaa
open Go.RowKit

theorem sq_geW {x : Int} (h : x ≤ -2 ∨ 2 ≤ x) : 4 ≤ x * x := by
  rcases h with h | h
  · have := Int.mul_le_mul (a := 2) (b := 2) (c := -x) (d := -x) (by omega) (by omega) (by omega) (by omega)
    rw [Int.neg_mul_neg] at this
    omega
  · have := Int.mul_le_mul (a := 2) (b := 2) (c := x) (d := x) (by omega) (by omega) (by omega) (by omega)
    omega
theorem sq_nnW (x : Int) : 0 ≤ x * x := by
  by_cases h : x ≤ -2 ∨ 2 ≤ x
  · have := sq_geW h; omega
  · have h3 : x = 0 ∨ x = 1 ∨ x = -1 := by omega
    rcases h3 with rfl | rfl | rfl <;> decide
theorem sq_unitW {a b : Int} (h : a * a + b * b = 1) : (a = 0 ∧ (b = 1 ∨ b = -1)) ∨ (b = 0 ∧ (a = 1 ∨ a = -1)) := by
  have h1 := sq_nnW a
  have h2 := sq_nnW b
  have key : ∀ x : Int, x * x ≤ 1 → x = 0 ∨ x = 1 ∨ x = -1 := fun x hx => by
    by_cases h : x ≤ -2 ∨ 2 ≤ x
    · have := sq_geW h; omega
    · omega
  rcases key a (by omega) with rfl | rfl | rfl <;> rcases key b (by omega) with rfl | rfl | rfl <;> simp_all
theorem step_sideW {b c : Cell} (h : sideB b c = true) : ∃ d, d < 4 ∧ c = stepC b d := by
  unfold sideB at h
  obtain ⟨bx, by'⟩ := b
  obtain ⟨cx, cy⟩ := c
  rcases sq_unitW (of_decide_eq_true h) with ⟨h1, h2 | h2⟩ | ⟨h1, h2 | h2⟩ <;> simp only at h1 h2
  · refine ⟨3, by decide, ?_⟩
    simp only [stepC, Cell.mk.injEq]
    omega
  · refine ⟨1, by decide, ?_⟩
    simp only [stepC, Cell.mk.injEq]
    omega
  · refine ⟨2, by decide, ?_⟩
    simp only [stepC, Cell.mk.injEq]
    omega
  · refine ⟨0, by decide, ?_⟩
    simp only [stepC, Cell.mk.injEq]
    omega
theorem hangs_at {s : List Cell} {a : Cell} (ha : s[0]? = some a) (h : hangs s = true) : ∀ c ∈ s, Hang s a c := by
  unfold hangs at h
  rw [ha] at h
  exact Classical.byContradiction fun hn => by
    have h' : cdec (∀ c ∈ s, Hang s a c) = true := h
    rw [cdec_f hn] at h'
    cases h'
theorem wind_hang {s : List Cell} {a : Cell} (h : Bord s a) {K : Nat} (hK : wlk s a K = a) (ha : a ∈ s) {c : Cell} (hc : Hang s a c) : c ∈ s ∧ wind s a K c.x c.y = wind s a K a.x a.y := by
  induction hc with
  | base => exact ⟨ha, rfl⟩
  | @step b c hb hcs hn ih =>
    refine ⟨hcs, ?_⟩
    obtain ⟨d, hd, rfl⟩ := step_sideW hn
    have h1 : hs s b.x b.y = true := hs_iff.2 ih.1
    have h2 : hs s (stepC b d).x (stepC b d).y = true := hs_iff.2 hcs
    rw [← wind_nb h hK hd (by rw [h1, h2])]
    exact ih.2
/-- the first side is held once -/
theorem first_once {s : List Cell} {a : Cell} {K : Nat} (h : BordIs s a K) : ∀ n, 1 ≤ n → n ≤ K → sumW (sdT a.x a.y) s a n = 1
  | 0, h1, _ => absurd h1 (by omega)
  | n + 1, _, h2 => by
    have hf := h.bord.first
    simp only [edge, Bool.and_eq_true, Bool.not_eq_true'] at hf
    rw [sumW]
    by_cases h0 : n = 0
    · subst h0
      have e0 : wlk s a 0 = a := rfl
      rw [sumW, e0, outD_is h.bord.free (by decide) h.bord.first]
      simp [sdT, bI]
    · have ih := first_once h n (by omega) (by omega)
      have hne := h.away n (by omega) (by omega)
      have hed := h.bord.edg n
      generalize wlk s a n = p at *
      generalize outD s p = d at *
      have k0 : (decide (d = 0) && (decide (p.y = a.y) && decide (p.x = a.x))) = false := by
        rw [Bool.eq_false_iff]
        intro hc
        simp only [Bool.and_eq_true, decide_eq_true_eq] at hc
        apply hne
        cases p
        cases a
        simp only at hc
        rw [hc.2.1, hc.2.2]
      have k2 : (decide (d = 2) && (decide (p.y = a.y) && decide (p.x - 1 = a.x))) = false := by
        rw [Bool.eq_false_iff]
        intro hc
        simp only [Bool.and_eq_true, decide_eq_true_eq] at hc
        obtain ⟨rfl, e1, e2⟩ := hc
        simp only [edge, Bool.and_eq_true, Bool.not_eq_true'] at hed
        rw [e1, e2, hf.2] at hed
        cases hed.1
      rw [ih, sdT, k0, k2]
      rfl
/-- the way winds once around each cell, and around nothing else -/
theorem wind_is {s : List Cell} {a : Cell} {K : Nat} (h : BordIs s a K) (ha : s[0]? = some a) (hh : hangs s = true) (hf : ∀ c, hs s c.x c.y = false → Fre s c) (x y : Int) : wind s a K x y = bI (hs s x y) := by
  have ham := List.mem_of_getElem? ha
  have h1 : hs s a.x (a.y - 1) = false := by
    have hf := h.bord.first
    simp only [edge, Bool.and_eq_true, Bool.not_eq_true'] at hf
    exact hf.2
  have h2 : wind s a K a.x (a.y - 1) = 0 := wind_fre h.bord h.home (c := ⟨a.x, a.y - 1⟩) (hf ⟨a.x, a.y - 1⟩ h1)
  have h3 := wind_top h.home a.x a.y
  rw [first_once h K h.lo (Nat.le_refl _), h2] at h3
  cases hb : hs s x y with
  | false => exact wind_fre h.bord h.home (c := ⟨x, y⟩) (hf ⟨x, y⟩ hb)
  | true =>
    have h4 := (wind_hang h.bord h.home ham (hangs_at ha hh ⟨x, y⟩ (hs_iff.1 hb))).2
    simp only at h4
    rw [h4]
    simp only [bI, if_true]
    omega
/-- the neighbour across a side, and the corner where the way comes to it -/
def nbC (c : Cell) : Nat → Cell
  | 0 => ⟨c.x, c.y - 1⟩
  | 1 => ⟨c.x + 1, c.y⟩
  | 2 => ⟨c.x, c.y + 1⟩
  | _ => ⟨c.x - 1, c.y⟩
def corC (c : Cell) : Nat → Cell
  | 0 => ⟨c.x, c.y⟩
  | 1 => ⟨c.x + 1, c.y⟩
  | 2 => ⟨c.x + 1, c.y + 1⟩
  | _ => ⟨c.x, c.y + 1⟩
def oneC (c : Cell) (e : Nat) (p : Cell) (d : Nat) : Int := bI (decide (d = e) && decide (p = corC c e))
theorem cell_eq {p : Cell} {x y : Int} : decide (p = (⟨x, y⟩ : Cell)) = (decide (p.y = y) && decide (p.x = x)) := by
  rw [Bool.eq_iff_iff]
  cases p
  simp [and_comm]
/-- every boundary side is held once, no other -/
theorem side_once {s : List Cell} {a : Cell} {K : Nat} (h : BordIs s a K) (ha : s[0]? = some a) (hh : hangs s = true) (hf : ∀ c, hs s c.x c.y = false → Fre s c) {c : Cell} (hc : c ∈ s) {e : Nat} (he : e < 4) :
    sumW (oneC c e) s a K = bI (!hs s (nbC c e).x (nbC c e).y) := by
  have hcs : hs s c.x c.y = true := hs_iff.2 hc
  have h4 : e = 0 ∨ e = 1 ∨ e = 2 ∨ e = 3 := by omega
  have key : ∀ b : Bool, bI (!b) = 1 - bI b := fun b => by cases b <;> rfl
  rw [key]
  rcases h4 with rfl | rfl | rfl | rfl <;> simp only [nbC]
  · have h1 := wind_top h.home c.x c.y
    rw [wind_is h ha hh hf, wind_is h ha hh hf, hcs] at h1
    have h2 : sumW (oneC c 0) s a K = sumW (sdT c.x c.y) s a K := sumW_congr (fun i => by
      have hed := h.bord.edg i
      generalize wlk s a i = p at *
      generalize outD s p = d at *
      have k2 : (decide (d = 2) && (decide (p.y = c.y) && decide (p.x - 1 = c.x))) = false := by
        rw [Bool.eq_false_iff]
        intro hq
        simp only [Bool.and_eq_true, decide_eq_true_eq] at hq
        obtain ⟨rfl, e1, e2⟩ := hq
        simp only [edge, Bool.and_eq_true, Bool.not_eq_true'] at hed
        rw [e1, e2, hcs] at hed
        cases hed.2
      rw [sdT, k2, oneC, corC, cell_eq]
      simp [bI]) K
    rw [h2, ← h1]
    rfl
  · have h1 := wind_left (s := s) (a := a) K (c.x + 1) c.y
    rw [Int.add_sub_cancel, wind_is h ha hh hf, wind_is h ha hh hf, hcs] at h1
    have h2 : sumW (fun p d => oneC c 1 p d + sdL (c.x + 1) c.y p d) s a K = 0 := sumW_zero (fun i => by
      have hed := h.bord.edg i
      generalize wlk s a i = p at *
      generalize outD s p = d at *
      have k3 : (decide (d = 3) && (decide (p.y - 1 = c.y) && decide (p.x = c.x + 1))) = false := by
        rw [Bool.eq_false_iff]
        intro hq
        simp only [Bool.and_eq_true, decide_eq_true_eq] at hq
        obtain ⟨rfl, e1, e2⟩ := hq
        simp only [edge, Bool.and_eq_true, Bool.not_eq_true'] at hed
        rw [e1, e2, Int.add_sub_cancel, hcs] at hed
        cases hed.2
      rw [sdL, k3, oneC, corC, cell_eq]
      simp only [bI, Bool.false_eq_true, if_false]
      omega) K
    rw [sumW_add] at h2
    have h3 : bI true = 1 := rfl
    rw [h3] at h1
    omega
  · have h1 := wind_top h.home c.x (c.y + 1)
    rw [Int.add_sub_cancel, wind_is h ha hh hf, wind_is h ha hh hf, hcs] at h1
    have h2 : sumW (fun p d => oneC c 2 p d + sdT c.x (c.y + 1) p d) s a K = 0 := sumW_zero (fun i => by
      have hed := h.bord.edg i
      generalize wlk s a i = p at *
      generalize outD s p = d at *
      have k0 : (decide (d = 0) && (decide (p.y = c.y + 1) && decide (p.x = c.x))) = false := by
        rw [Bool.eq_false_iff]
        intro hq
        simp only [Bool.and_eq_true, decide_eq_true_eq] at hq
        obtain ⟨rfl, e1, e2⟩ := hq
        simp only [edge, Bool.and_eq_true, Bool.not_eq_true'] at hed
        rw [e1, e2, Int.add_sub_cancel, hcs] at hed
        cases hed.2
      rw [sdT, k0, oneC, corC, cell_eq, show decide (p.x - 1 = c.x) = decide (p.x = c.x + 1) by rw [Bool.eq_iff_iff]; simp; omega]
      simp only [bI, Bool.false_eq_true, if_false]
      omega) K
    rw [sumW_add] at h2
    have h3 : bI true = 1 := rfl
    rw [h3] at h1
    omega
  · have h1 := wind_left (s := s) (a := a) K c.x c.y
    rw [wind_is h ha hh hf, wind_is h ha hh hf, hcs] at h1
    have h2 : sumW (oneC c 3) s a K = sumW (sdL c.x c.y) s a K := sumW_congr (fun i => by
      have hed := h.bord.edg i
      generalize wlk s a i = p at *
      generalize outD s p = d at *
      have k1 : (decide (d = 1) && (decide (p.y = c.y) && decide (p.x = c.x))) = false := by
        rw [Bool.eq_false_iff]
        intro hq
        simp only [Bool.and_eq_true, decide_eq_true_eq] at hq
        obtain ⟨rfl, e1, e2⟩ := hq
        simp only [edge, Bool.and_eq_true, Bool.not_eq_true'] at hed
        rw [e1, e2, hcs] at hed
        cases hed.2
      rw [sdL, k1, oneC, show corC c 3 = ⟨c.x, c.y + 1⟩ from rfl, cell_eq, show decide (p.y = c.y + 1) = decide (p.y - 1 = c.y) by rw [Bool.eq_iff_iff]; simp; omega]
      simp [bI]) K
    rw [h2, ← h1]
    rfl
theorem sumL_zero {f : Cell → Int} : ∀ {l : List Cell}, (∀ c ∈ l, f c = 0) → (l.map f).sum = 0
  | [], _ => rfl
  | c :: l, h => by
    rw [List.map_cons, List.sum_cons, h c (by simp), sumL_zero fun d hd => h d (by simp [hd])]
    rfl
theorem sumL_congr {f g : Cell → Int} : ∀ {l : List Cell}, (∀ c ∈ l, f c = g c) → (l.map f).sum = (l.map g).sum
  | [], _ => rfl
  | c :: l, h => by
    rw [List.map_cons, List.map_cons, List.sum_cons, List.sum_cons, h c (by simp), sumL_congr fun d hd => h d (by simp [hd])]
theorem sumL_one {q : Cell} : ∀ {l : List Cell}, l.Nodup → q ∈ l → (l.map fun c => bI (decide (c = q))).sum = 1
  | [], _, h => by simp at h
  | c :: l, hn, h => by
    rw [List.nodup_cons] at hn
    rw [List.map_cons, List.sum_cons]
    by_cases e : c = q
    · subst e
      rw [sumL_zero fun d hd => by
        have : ¬ d = c := fun e => hn.1 (e ▸ hd)
        simp [this, bI]]
      simp [bI]
    · rcases List.mem_cons.1 h with h1 | h1
      · exact absurd h1.symm e
      · rw [sumL_one hn.2 h1]
        simp [e, bI]
theorem sumW_sumL {s : List Cell} {a : Cell} {K : Nat} {F : Cell → Cell → Nat → Int} : ∀ l : List Cell, (l.map fun c => sumW (F c) s a K).sum = sumW (fun p d => (l.map fun c => F c p d).sum) s a K
  | [] => (sumW_zero (fun _ => rfl) K).symm
  | c :: l => by
    rw [List.map_cons, List.sum_cons, sumW_sumL l, ← sumW_add]
    rfl
theorem sumW_len {s : List Cell} {a : Cell} : ∀ n : Nat, sumW (fun _ _ => 1) s a n = (n : Int)
  | 0 => rfl
  | n + 1 => by rw [sumW, sumW_len n]; rfl
/-- the cell at the right hand of a step -/
def rgt (p : Cell) : Nat → Cell
  | 0 => ⟨p.x, p.y⟩
  | 1 => ⟨p.x - 1, p.y⟩
  | 2 => ⟨p.x - 1, p.y - 1⟩
  | _ => ⟨p.x, p.y - 1⟩
theorem rgt_in {s : List Cell} {p : Cell} : ∀ {d : Nat}, edge s p d = true → rgt p d ∈ s
  | 0, h => by simp only [edge, Bool.and_eq_true] at h; exact hs_iff.1 h.1
  | 1, h => by simp only [edge, Bool.and_eq_true] at h; exact hs_iff.1 h.1
  | 2, h => by simp only [edge, Bool.and_eq_true] at h; exact hs_iff.1 h.1
  | _ + 3, h => by simp only [edge, Bool.and_eq_true] at h; exact hs_iff.1 h.1
/-- all four sides of a cell together -/
def allC (c p : Cell) (d : Nat) : Int := oneC c 0 p d + oneC c 1 p d + oneC c 2 p d + oneC c 3 p d
theorem allC_is (c p : Cell) {d : Nat} (hd : d < 4) : allC c p d = bI (decide (c = rgt p d)) := by
  have h4 : d = 0 ∨ d = 1 ∨ d = 2 ∨ d = 3 := by omega
  obtain ⟨cx, cy⟩ := c
  obtain ⟨px, py⟩ := p
  rcases h4 with rfl | rfl | rfl | rfl <;> simp only [allC, oneC, corC, rgt, bI, Cell.mk.injEq, Nat.reduceEqDiff, decide_true, decide_false, Bool.true_and, Bool.false_and, Bool.false_eq_true, if_false] <;> simp only [decide_eq_true_eq] <;> split <;> split <;> omega
/-- how many sides of a cell are boundary sides -/
def sidesO (s : List Cell) (c : Cell) : Int := bI (!hs s (nbC c 0).x (nbC c 0).y) + bI (!hs s (nbC c 1).x (nbC c 1).y) + bI (!hs s (nbC c 2).x (nbC c 2).y) + bI (!hs s (nbC c 3).x (nbC c 3).y)
/-- the way is as long as there are boundary sides -/
theorem way_len {s : List Cell} {a : Cell} {K : Nat} (h : BordIs s a K) (ha : s[0]? = some a) (hh : hangs s = true) (hf : ∀ c, hs s c.x c.y = false → Fre s c) (hn : s.Nodup) : (K : Int) = (s.map (sidesO s)).sum := by
  have h1 : (s.map fun c => sumW (allC c) s a K).sum = (K : Int) := by
    rw [sumW_sumL, ← sumW_len (s := s) (a := a) K]
    refine sumW_congr (fun i => ?_) K
    rw [sumL_congr (g := fun c => bI (decide (c = rgt (wlk s a i) (outD s (wlk s a i))))) fun c _ => allC_is c _ (outD_lt s _)]
    exact sumL_one hn (rgt_in (h.bord.edg i))
  rw [← h1]
  refine sumL_congr fun c hc => ?_
  have e : sumW (allC c) s a K = sumW (oneC c 0) s a K + sumW (oneC c 1) s a K + sumW (oneC c 2) s a K + sumW (oneC c 3) s a K := by
    rw [← sumW_add, ← sumW_add, ← sumW_add]
    rfl
  rw [e, side_once h ha hh hf hc (by decide), side_once h ha hh hf hc (by decide), side_once h ha hh hf hc (by decide), side_once h ha hh hf hc (by decide), sidesO]
end Go.Proofs.Ytghpkfihdcjlaaa

namespace Go.Proofs.Ytghpkfihdcjlaaa
open Go.RowKit

def ddW : List Cell → List Cell
  | [] => []
  | c :: l => if c ∈ ddW l then ddW l else c :: ddW l
theorem ddW_mem {c : Cell} : ∀ {l : List Cell}, c ∈ ddW l ↔ c ∈ l
  | [] => Iff.rfl
  | a :: l => by
    rw [ddW]
    split
    · rename_i h
      rw [ddW_mem, List.mem_cons]
      constructor
      · exact .inr
      · rintro (rfl | h2)
        · exact ddW_mem.1 h
        · exact h2
    · rw [List.mem_cons, List.mem_cons, ddW_mem]
theorem ddW_nodup : ∀ {l : List Cell}, (ddW l).Nodup
  | [] => List.nodup_nil
  | a :: l => by
    rw [ddW]
    split
    · exact ddW_nodup
    · rename_i h
      exact List.nodup_cons.2 ⟨h, ddW_nodup⟩
open Classical in
theorem no_root {s : List Cell} (h : isShape s = true) (hz : holesN s = 0) (q : Cell) : ¬ rootS s q := by
  intro hq
  have hsz := shp_size h
  have hmn := shp_min h
  have hm : ∀ q, q ∈ ddW ((gridL 0 0 10 10).filter fun q => decide (rootS s q)) ↔ rootS s q := fun q => by
    rw [ddW_mem, List.mem_filter, decide_eq_true_iff]
    constructor
    · exact fun hq => hq.2
    · intro hq
      have hb := frB_iff.1 hq.1
      exact ⟨gridL_mem (by omega) (by omega) (by omega) (by omega), hq⟩
  have h1 : holesN s = (ddW ((gridL 0 0 10 10).filter fun q => decide (rootS s q))).length := cardP_eq ddW_nodup hm
  rw [hz] at h1
  have h2 := (hm q).2 hq
  rw [List.length_eq_zero_iff.1 h1.symm] at h2
  cases h2
/-- every free place has a first place -/
theorem root_ex {s : List Cell} : ∀ (n : Nat) (c : Cell), (c.y * 10 + c.x).toNat < n → frG s c = true → ∃ r, rootG s r ∧ Rch (frG s) r c
  | 0, _, h, _ => absurd h (Nat.not_lt_zero _)
  | n + 1, c, hn, hc => by
    by_cases hp : ∃ p, befB p c = true ∧ frG s p = true ∧ Rch (frG s) p c
    · obtain ⟨p, h1, h2, h3⟩ := hp
      have g1 := frG_iff.1 h2
      have g2 := frG_iff.1 hc
      simp only [befB, Bool.or_eq_true, Bool.and_eq_true, decide_eq_true_eq] at h1
      obtain ⟨r, hr, hk⟩ := root_ex n p (by omega) h2
      exact ⟨r, hr, hk.trans h3⟩
    · exact ⟨c, ⟨hc, fun p h1 h2 h3 => hp ⟨p, h1, h2, h3⟩⟩, .base⟩
theorem all_out {s : List Cell} (h : isShape s = true) (hz : holesN s = 0) {c : Cell} (hc : frG s c = true) : Rch (frG s) ⟨0, 0⟩ c := by
  obtain ⟨r, hr, hk⟩ := root_ex _ c (Nat.lt_succ_self _) hc
  rcases (root_iff h).1 hr with rfl | ⟨p, hp, _⟩
  · exact hk
  · exact absurd hp (no_root h hz p)
theorem hs_off {s : List Cell} {x y : Int} (h : ¬ (⟨x, y⟩ : Cell) ∈ s) : hs s x y = false := by
  rw [Bool.eq_false_iff]
  exact fun hh => h (hs_iff.1 hh)
theorem nbr_stepW (b : Cell) {d : Nat} (hd : d < 4) : ∃ e, e < 4 ∧ (⟨(nbr b d).x - 1, (nbr b d).y - 1⟩ : Cell) = stepC ⟨b.x - 1, b.y - 1⟩ e := by
  have h4 : d = 0 ∨ d = 1 ∨ d = 2 ∨ d = 3 := by omega
  obtain ⟨x, y⟩ := b
  rcases h4 with rfl | rfl | rfl | rfl
  · exact ⟨0, by decide, by simp only [nbr, stepC, Cell.mk.injEq, and_true]; omega⟩
  · exact ⟨1, by decide, by simp only [nbr, stepC, Cell.mk.injEq, true_and]; omega⟩
  · exact ⟨2, by decide, rfl⟩
  · exact ⟨3, by decide, rfl⟩
theorem rch_fre {s : List Cell} {c : Cell} (h : Rch (frG s) ⟨0, 0⟩ c) : Fre s ⟨c.x - 1, c.y - 1⟩ := by
  induction h with
  | base => exact .far (by decide)
  | @step b c _ hn hf ih =>
    obtain ⟨d, hd, rfl⟩ := hn
    obtain ⟨e, he, hq⟩ := nbr_stepW b hd
    have h1 : hs s (stepC ⟨b.x - 1, b.y - 1⟩ e).x (stepC ⟨b.x - 1, b.y - 1⟩ e).y = false := by
      rw [← hq]
      exact hs_off (frG_iff.1 hf).2.2
    rw [hq]
    exact .step ih he h1
theorem fre_row {s : List Cell} (hon : ∀ c ∈ s, On c) {y : Int} (hy : y < 0 ∨ 7 < y) : ∀ n : Nat, Fre s ⟨-1 + (n : Int), y⟩
  | 0 => .far (show -1 + ((0 : Nat) : Int) < 0 by omega)
  | n + 1 => by
    have ih := fre_row hon hy n
    have e : (⟨-1 + ((n + 1 : Nat) : Int), y⟩ : Cell) = stepC ⟨-1 + (n : Int), y⟩ 0 := by simp only [stepC, Cell.mk.injEq, and_true]; omega
    rw [e]
    exact .step ih (by decide) (hs_off fun hm => by have h3 : 0 ≤ y ∧ y ≤ 7 := (hon _ hm).2; omega)
theorem fre_col {s : List Cell} (hon : ∀ c ∈ s, On c) {x : Int} (hx : 7 < x) : ∀ n : Nat, Fre s ⟨x, -1 + (n : Int)⟩
  | 0 => by
    have := fre_row hon (y := -1) (.inl (by decide)) (x + 1).toNat
    rwa [show -1 + (((x + 1).toNat : Nat) : Int) = x by omega] at this
  | n + 1 => by
    have ih := fre_col hon hx n
    have e : (⟨x, -1 + ((n + 1 : Nat) : Int)⟩ : Cell) = stepC ⟨x, -1 + (n : Int)⟩ 1 := by simp only [stepC, Cell.mk.injEq, true_and]; omega
    rw [e]
    exact .step ih (by decide) (hs_off fun hm => by have h3 : 0 ≤ x ∧ x ≤ 7 := (hon _ hm).1; omega)
/-- what is free hangs together with the far left -/
theorem all_fre {s : List Cell} (h : isShape s = true) (hz : holesN s = 0) (c : Cell) (hc : hs s c.x c.y = false) : Fre s c := by
  have hon : ∀ c ∈ s, On c := fun c hc => shp_on h hc
  obtain ⟨x, y⟩ := c
  by_cases h1 : x < 0
  · exact .far h1
  · by_cases h2 : y < 0 ∨ 7 < y
    · have := fre_row hon h2 (x + 1).toNat
      rwa [show -1 + (((x + 1).toNat : Nat) : Int) = x by omega] at this
    · by_cases h3 : 7 < x
      · have := fre_col hon h3 (y + 1).toNat
        rwa [show -1 + (((y + 1).toNat : Nat) : Int) = y by omega] at this
      · have hg : frG s ⟨x + 1, y + 1⟩ = true := frG_iff.2 ⟨by simp only; omega, by simp only; omega, fun hm => by
          unfold shpAt at hm
          simp only [Int.add_sub_cancel] at hm
          rw [hs_iff.2 hm] at hc
          cases hc⟩
        have := rch_fre (all_out h hz hg)
        simp only [Int.add_sub_cancel] at this
        exact this
end Go.Proofs.Ytghpkfihdcjlaaa

namespace Go.Proofs.Ytghpkfihdcjlaaa
open Go.RowKit

theorem nb_one (c b : Cell) : bI (decide (nbC c 0 = b)) + bI (decide (nbC c 1 = b)) + bI (decide (nbC c 2 = b)) + bI (decide (nbC c 3 = b)) = bI (sideB c b) := by
  have hn : ∀ e f, e < 4 → f < 4 → nbC c e = nbC c f → e = f := fun e f he hf h => by
    have h4 : e = 0 ∨ e = 1 ∨ e = 2 ∨ e = 3 := by omega
    have h5 : f = 0 ∨ f = 1 ∨ f = 2 ∨ f = 3 := by omega
    rcases h4 with rfl | rfl | rfl | rfl <;> rcases h5 with rfl | rfl | rfl | rfl <;> simp only [nbC, Cell.mk.injEq] at h <;> omega
  have hs : ∀ e, e < 4 → sideB c (nbC c e) = true := fun e he => by
    have h4 : e = 0 ∨ e = 1 ∨ e = 2 ∨ e = 3 := by omega
    unfold sideB
    rw [decide_eq_true_iff]
    rcases h4 with rfl | rfl | rfl | rfl <;> simp only [nbC]
    · rw [show c.y - (c.y - 1) = 1 by omega, Int.sub_self]; rfl
    · rw [show c.x - (c.x + 1) = -1 by omega, Int.sub_self]; rfl
    · rw [show c.y - (c.y + 1) = -1 by omega, Int.sub_self]; rfl
    · rw [show c.x - (c.x - 1) = 1 by omega, Int.sub_self]; rfl
  by_cases hb : ∃ e, e < 4 ∧ nbC c e = b
  · obtain ⟨e, he, rfl⟩ := hb
    rw [hs e he]
    have k : ∀ f, f < 4 → bI (decide (nbC c f = nbC c e)) = if f = e then 1 else 0 := fun f hf => by
      by_cases h : f = e
      · subst h; simp [bI]
      · have : ¬ nbC c f = nbC c e := fun q => h (hn f e hf he q)
        simp [bI, h, this]
    rw [k 0 (by decide), k 1 (by decide), k 2 (by decide), k 3 (by decide)]
    have h4 : e = 0 ∨ e = 1 ∨ e = 2 ∨ e = 3 := by omega
    rcases h4 with rfl | rfl | rfl | rfl <;> rfl
  · have k : ∀ f, f < 4 → bI (decide (nbC c f = b)) = 0 := fun f hf => by
      have : ¬ nbC c f = b := fun q => hb ⟨f, hf, q⟩
      simp [bI, this]
    rw [k 0 (by decide), k 1 (by decide), k 2 (by decide), k 3 (by decide)]
    have : sideB c b = false := by
      rw [Bool.eq_false_iff]
      intro h
      obtain ⟨d, hd, rfl⟩ := step_sideW h
      have h4 : d = 0 ∨ d = 1 ∨ d = 2 ∨ d = 3 := by omega
      rcases h4 with rfl | rfl | rfl | rfl
      · exact hb ⟨1, by decide, rfl⟩
      · exact hb ⟨2, by decide, rfl⟩
      · exact hb ⟨3, by decide, rfl⟩
      · exact hb ⟨0, by decide, rfl⟩
    rw [this]
    rfl
theorem mem_one {q b : Cell} {l : List Cell} (h : ¬ b ∈ l) : bI (decide (q ∈ b :: l)) = bI (decide (q = b)) + bI (decide (q ∈ l)) := by
  by_cases h1 : q = b
  · subst h1
    simp [bI, h]
  · simp [bI, h1]
theorem nb_count (c : Cell) : ∀ {l : List Cell}, l.Nodup → bI (decide (nbC c 0 ∈ l)) + bI (decide (nbC c 1 ∈ l)) + bI (decide (nbC c 2 ∈ l)) + bI (decide (nbC c 3 ∈ l)) = (l.countP (sideB c) : Int)
  | [], _ => rfl
  | b :: l, h => by
    rw [List.nodup_cons] at h
    have ih := nb_count c h.2
    have h1 := nb_one c b
    rw [mem_one h.1, mem_one h.1, mem_one h.1, mem_one h.1, List.countP_cons]
    have h2 : bI (sideB c b) = ((if sideB c b = true then 1 else 0 : Nat) : Int) := by cases sideB c b <;> rfl
    omega
/-- the sides of a cell that are boundary sides -/
theorem sidesO_is {s : List Cell} (hn : s.Nodup) (c : Cell) : sidesO s c = 4 - (s.countP (sideB c) : Int) := by
  have h1 := nb_count c hn
  have k : ∀ q : Cell, bI (!hs s q.x q.y) = 1 - bI (decide (q ∈ s)) := fun q => by
    have : hs s q.x q.y = decide (q ∈ s) := rfl
    rw [this]
    cases decide (q ∈ s) <;> rfl
  rw [sidesO, k, k, k, k]
  omega
theorem sumL_add {f g : Cell → Int} : ∀ l : List Cell, (l.map fun c => f c + g c).sum = (l.map f).sum + (l.map g).sum
  | [] => rfl
  | c :: l => by
    have ih := sumL_add (f := f) (g := g) l
    rw [List.map_cons, List.map_cons, List.map_cons, List.sum_cons, List.sum_cons, List.sum_cons, ih]
    omega
theorem sumL_bI {p : Cell → Bool} : ∀ l : List Cell, (l.map fun c => bI (p c)).sum = (l.countP p : Int)
  | [] => rfl
  | c :: l => by
    rw [List.map_cons, List.sum_cons, sumL_bI l, List.countP_cons]
    cases p c
    · simp [bI]
    · simp [bI]
      omega
theorem sideB_self (c : Cell) : sideB c c = false := by
  unfold sideB
  rw [Int.sub_self, Int.sub_self]
  rfl
theorem innRow_is {s : List Cell} {i : Nat} {c : Cell} (hc : s[i]? = some c) : ∀ k, k ≤ s.length → innRow s i k = degTo s c k
  | 0, _ => by simp [innRow, degTo]
  | k + 1, hk => by
    have ih := innRow_is hc k (by omega)
    obtain ⟨d, hd⟩ : ∃ d, s[k]? = some d := ⟨s[k], List.getElem?_eq_getElem hk⟩
    rw [innRow, ih, degTo_succ hd, sdB_at hc hd]
/-- every inner side is counted from both its cells -/
theorem deg_sum {s : List Cell} : ∀ n, n ≤ s.length → ((s.take n).map fun c => ((s.take n).countP (sideB c) : Int)).sum = 2 * (innTo s n : Int)
  | 0, _ => by simp [innTo]
  | n + 1, hn => by
    have ih := deg_sum (s := s) n (by omega)
    obtain ⟨d, hd⟩ : ∃ d, s[n]? = some d := ⟨s[n], List.getElem?_eq_getElem hn⟩
    have ht : s.take (n + 1) = s.take n ++ [d] := by
      obtain ⟨h1, h2⟩ := List.getElem?_eq_some_iff.1 hd
      rw [List.take_succ_eq_append_getElem h1, h2]
    have hr : innRow s n n = (s.take n).countP (sideB d) := innRow_is hd n (by omega)
    have k : ∀ c, ((s.take n ++ [d]).countP (sideB c) : Int) = ((s.take n).countP (sideB c) : Int) + bI (sideB c d) := fun c => by
      rw [List.countP_append, List.countP_singleton]
      cases sideB c d <;> simp [bI]
    rw [ht, List.map_append, List.sum_append, sumL_congr (g := fun c => ((s.take n).countP (sideB c) : Int) + bI (sideB d c)) (fun c _ => by rw [k, sideB_comm c d]), sumL_add, ih, show ((s.take n).map fun c => bI (sideB d c)).sum = ((s.take n).countP (sideB d) : Int) from sumL_bI _]
    simp only [List.map_cons, List.map_nil, List.sum_cons, List.sum_nil]
    rw [k, sideB_self, innTo, hr]
    generalize (s.take n).countP (sideB d) = q at *
    simp only [bI, Bool.false_eq_true, if_false]
    omega
theorem sumL_sub4 {f : Cell → Int} : ∀ l : List Cell, (l.map fun c => 4 - f c).sum = 4 * (l.length : Int) - (l.map f).sum
  | [] => rfl
  | c :: l => by
    have ih := sumL_sub4 (f := f) l
    rw [List.map_cons, List.map_cons, List.sum_cons, List.sum_cons, ih, List.length_cons]
    omega
theorem sides_per {s : List Cell} (hn : s.Nodup) : (s.map (sidesO s)).sum = perZ s := by
  rw [sumL_congr (g := fun c => 4 - (s.countP (sideB c) : Int)) fun c _ => sidesO_is hn c, sumL_sub4]
  have := deg_sum (s := s) s.length (Nat.le_refl _)
  rw [List.take_length] at this
  rw [this]
  rfl
/-- the border word is as long as the perimeter -/
theorem bord_len {s : List Cell} (h : bordOk s = true) : ((bordW s).length : Int) = perZ s := by
  have h' := h
  unfold bordOk at h'
  rw [Bool.and_eq_true, Bool.and_eq_true] at h'
  obtain ⟨⟨h1, h2⟩, h3⟩ := h'
  unfold connS at h1
  rw [Bool.and_eq_true] at h1
  obtain ⟨hsh, hh⟩ := h1
  have hz : holesN s = 0 := by
    have := of_decide_eq_true h2
    unfold holesZ at this
    rw [if_pos hsh] at this
    omega
  have hl := shp_len hsh
  obtain ⟨a, ha⟩ : ∃ a, s[0]? = some a := ⟨s[0], List.getElem?_eq_getElem (by omega)⟩
  have hp : pinS s = false := by simpa using h3
  obtain ⟨K, hK⟩ := bord_ex hsh hp ha
  rw [bordW_yes h ha hK, wrd_len, way_len hK ha hh (all_fre hsh hz) (shp_nodup hsh), sides_per (shp_nodup hsh)]
end Go.Proofs.Ytghpkfihdcjlaaa

namespace Go.Proofs.Ytghpkfihdcjlaaa
open Go.RowKit

theorem hang_exit {s T : List Cell} {a c : Cell} (h : Hang s a c) (ha : a ∈ T) (hc : ¬ c ∈ T) : ∃ b d, b ∈ T ∧ d ∈ s ∧ ¬ d ∈ T ∧ sideB b d = true := by
  induction h with
  | base => exact absurd ha hc
  | @step b c hb hcs hn ih =>
    by_cases hbT : b ∈ T
    · exact ⟨b, c, hbT, hcs, hc, hn⟩
    · exact ih hbT
/-- each cell but the first lies beside an earlier one -/
structure Grow (s T : List Cell) (a : Cell) : Prop where
  nodup : T.Nodup
  sub : ∀ c ∈ T, c ∈ s
  first : a ∈ T
  prev : ∀ (k : Nat) (c : Cell), 1 ≤ k → T[k]? = some c → ∃ b ∈ T.take k, sideB c b = true
theorem grow_ex {s : List Cell} {a : Cell} (hn : s.Nodup) (ha : a ∈ s) (hh : ∀ c ∈ s, Hang s a c) : ∀ n, 1 ≤ n → n ≤ s.length → ∃ T, Grow s T a ∧ T.length = n
  | 0, h, _ => absurd h (by omega)
  | n + 1, _, hle => by
    by_cases h0 : n = 0
    · subst h0
      exact ⟨[a], ⟨by simp, fun c hc => by rw [List.mem_singleton.1 hc]; exact ha, by simp, fun k c hk hc => by
        have := (List.getElem?_eq_some_iff.1 hc).1
        simp at this
        omega⟩, rfl⟩
    · obtain ⟨T, hT, hl⟩ := grow_ex hn ha hh n (by omega) (by omega)
      have hex : ∃ c ∈ s, ¬ c ∈ T := by
        apply Classical.byContradiction
        intro hno
        have := nodup_len hn (G := T) fun c hc => Classical.byContradiction fun h => hno ⟨c, hc, h⟩
        omega
      obtain ⟨c, hc, hcT⟩ := hex
      obtain ⟨b, d, hb, hd, hdT, hs⟩ := hang_exit (hh c hc) hT.first hcT
      refine ⟨T ++ [d], ⟨?_, ?_, List.mem_append_left _ hT.first, ?_⟩, by rw [List.length_append, hl]; rfl⟩
      · exact List.nodup_append.2 ⟨hT.nodup, by simp, fun x hx y hy => by simp at hy; subst hy; exact fun e => hdT (e ▸ hx)⟩
      · intro x hx
        rcases List.mem_append.1 hx with hx | hx
        · exact hT.sub x hx
        · rw [List.mem_singleton.1 hx]; exact hd
      · intro k x hk hx
        by_cases hkl : k < T.length
        · rw [List.getElem?_append_left hkl] at hx
          obtain ⟨e, he, hse⟩ := hT.prev k x hk hx
          refine ⟨e, ?_, hse⟩
          rw [List.take_append_of_le_length (by omega)]
          exact he
        · have hk2 := (List.getElem?_eq_some_iff.1 hx).1
          rw [List.length_append, List.length_singleton] at hk2
          obtain rfl : k = T.length := by omega
          rw [List.getElem?_append_right (Nat.le_refl _), Nat.sub_self] at hx
          simp only [List.getElem?_cons_zero, Option.some.injEq] at hx
          subst hx
          refine ⟨b, ?_, by rw [sideB_comm]; exact hs⟩
          rw [List.take_append_of_le_length (Nat.le_refl _), List.take_length]
          exact hb
theorem sumL_erase {f : Cell → Int} {c : Cell} : ∀ {l : List Cell}, c ∈ l → (l.map f).sum = f c + ((l.erase c).map f).sum
  | [], h => by cases h
  | d :: l, h => by
    by_cases e : d = c
    · subst e
      rw [List.erase_cons_head, List.map_cons, List.sum_cons]
    · have hm : c ∈ l := by
        rcases List.mem_cons.1 h with h | h
        · exact absurd h.symm e
        · exact h
      rw [List.erase_cons_tail (by simpa using e), List.map_cons, List.map_cons, List.sum_cons, List.sum_cons, sumL_erase hm]
      omega
theorem sumL_same {f : Cell → Int} : ∀ {l m : List Cell}, l.Nodup → m.Nodup → (∀ c, c ∈ l ↔ c ∈ m) → (l.map f).sum = (m.map f).sum
  | [], m, _, _, h => by
    cases m with
    | nil => rfl
    | cons c m => exact absurd ((h c).2 (by simp)) (by simp)
  | c :: l, m, hl, hm, h => by
    have hc : c ∈ m := (h c).1 (by simp)
    rw [sumL_erase hc, List.map_cons, List.sum_cons]
    rw [List.nodup_cons] at hl
    congr 1
    refine sumL_same hl.2 (hm.erase c) fun d => ?_
    rw [hm.mem_erase_iff]
    constructor
    · exact fun hd => ⟨fun e => hl.1 (e ▸ hd), (h d).1 (by simp [hd])⟩
    · rintro ⟨h1, h2⟩
      rcases List.mem_cons.1 ((h d).2 h2) with h3 | h3
      · exact absurd h3 h1
      · exact h3
/-- the number of sides does not hang on the order -/
theorem inn_same {s T : List Cell} (hs : s.Nodup) (hT : T.Nodup) (h : ∀ c, c ∈ T ↔ c ∈ s) : innTo T T.length = innTo s s.length := by
  have h1 := deg_sum (s := s) s.length (Nat.le_refl _)
  have h2 := deg_sum (s := T) T.length (Nat.le_refl _)
  rw [List.take_length] at h1 h2
  have h3 : (T.map fun c => (T.countP (sideB c) : Int)).sum = (T.map fun c => (s.countP (sideB c) : Int)).sum := sumL_congr fun c _ => by
    rw [← nb_count c hT, ← nb_count c hs]
    simp only [h]
  rw [h3, sumL_same hT hs h, h1] at h2
  omega
theorem count_two {p : Cell → Bool} {u v : Cell} (hne : u ≠ v) (hu : p u = true) (hv : p v = true) : ∀ {l : List Cell}, u ∈ l → v ∈ l → 2 ≤ l.countP p
  | [], h, _ => by cases h
  | c :: l, h1, h2 => by
    rw [List.countP_cons]
    by_cases e1 : u = c
    · subst e1
      have k2 : v ∈ l := by
        rcases List.mem_cons.1 h2 with e | k
        · exact absurd e.symm hne
        · exact k
      have := List.countP_pos_iff.2 ⟨v, k2, hv⟩
      rw [if_pos hu]
      omega
    · have k1 : u ∈ l := by
        rcases List.mem_cons.1 h1 with e | k
        · exact absurd e e1
        · exact k
      by_cases e2 : v = c
      · subst e2
        have := List.countP_pos_iff.2 ⟨u, k1, hu⟩
        rw [if_pos hv]
        omega
      · have k2 : v ∈ l := by
          rcases List.mem_cons.1 h2 with e | k
          · exact absurd e e2
          · exact k
        have := count_two hne hu hv k1 k2
        omega
theorem inn_low {s T : List Cell} {a : Cell} (h : Grow s T a) : ∀ n, n ≤ T.length → n ≤ innTo T n + 1
  | 0, _ => by omega
  | n + 1, hn => by
    have ih := inn_low h n (by omega)
    obtain ⟨d, hd⟩ : ∃ d, T[n]? = some d := ⟨T[n], List.getElem?_eq_getElem hn⟩
    have hr : innRow T n n = (T.take n).countP (sideB d) := innRow_is hd n (by omega)
    rw [innTo, hr]
    by_cases h0 : n = 0
    · omega
    · obtain ⟨b, hb, hs⟩ := h.prev n d (by omega) hd
      have := List.countP_pos_iff.2 ⟨b, hb, hs⟩
      omega
theorem inn_high {s T : List Cell} {a : Cell} (h : Grow s T a) {k : Nat} {d : Cell} (hd : T[k]? = some d) (h2 : 2 ≤ (T.take k).countP (sideB d)) : ∀ n, k < n → n ≤ T.length → n ≤ innTo T n
  | 0, hk, _ => absurd hk (by omega)
  | n + 1, hk, hn => by
    obtain ⟨e, he⟩ : ∃ d, T[n]? = some d := ⟨T[n], List.getElem?_eq_getElem hn⟩
    have hr : innRow T n n = (T.take n).countP (sideB e) := innRow_is he n (by omega)
    rw [innTo, hr]
    by_cases hkn : k = n
    · subst hkn
      rw [he] at hd
      injection hd with hd
      subst hd
      have := inn_low h k (by omega)
      omega
    · have ih := inn_high h hd h2 n (by omega) (by omega)
      obtain ⟨b, hb, hs⟩ := h.prev n e (by omega) he
      have := List.countP_pos_iff.2 ⟨b, hb, hs⟩
      omega
/-- a tree-like shape has no square -/
theorem tree_square {s : List Cell} (ht : treeB s = true) (hsh : isShape s = true) {x y : Int} (h0 : (⟨x, y⟩ : Cell) ∈ s) (h1 : (⟨x + 1, y⟩ : Cell) ∈ s) (h2 : (⟨x, y + 1⟩ : Cell) ∈ s) (h3 : (⟨x + 1, y + 1⟩ : Cell) ∈ s) : False := by
  unfold treeB at ht
  rw [Bool.and_eq_true] at ht
  have hc := ht.1
  have he := of_decide_eq_true ht.2
  unfold connS at hc
  rw [Bool.and_eq_true] at hc
  have hl := shp_len hsh
  have hn := shp_nodup hsh
  obtain ⟨a, ha⟩ : ∃ a, s[0]? = some a := ⟨s[0], List.getElem?_eq_getElem (by omega)⟩
  obtain ⟨T, hT, hTl⟩ := grow_ex hn (List.mem_of_getElem? ha) (hangs_at ha hc.2) s.length hl.1 (Nat.le_refl _)
  have hall : ∀ c, c ∈ T ↔ c ∈ s := fun c => ⟨hT.sub c, fun hm => by
    apply Classical.byContradiction
    intro hno
    have hcons : (c :: T).Nodup := List.nodup_cons.2 ⟨hno, hT.nodup⟩
    have := nodup_len hcons (G := s) fun d hd => by
      rcases List.mem_cons.1 hd with rfl | hd
      · exact hm
      · exact hT.sub d hd
    rw [List.length_cons] at this
    omega⟩
  have hin := inn_same hn hT.nodup hall
  have hI : innTo s s.length = innN s := rfl
  have key : ∀ (d u v : Cell) (k i j : Nat), T[k]? = some d → T[i]? = some u → T[j]? = some v → i < k → j < k → u ≠ v → sideB d u = true → sideB d v = true → False := fun d u v k i j hd hu hv hik hjk hne s1 s2 => by
    have m1 : u ∈ T.take k := List.mem_of_getElem? (i := i) (by rw [List.getElem?_take, if_pos hik]; exact hu)
    have m2 : v ∈ T.take k := List.mem_of_getElem? (i := j) (by rw [List.getElem?_take, if_pos hjk]; exact hv)
    have hk := (List.getElem?_eq_some_iff.1 hd).1
    have := inn_high hT hd (count_two hne s1 s2 m1 m2) T.length hk (Nat.le_refl _)
    omega
  obtain ⟨i0, g0⟩ := List.getElem?_of_mem ((hall _).2 h0)
  obtain ⟨i1, g1⟩ := List.getElem?_of_mem ((hall _).2 h1)
  obtain ⟨i2, g2⟩ := List.getElem?_of_mem ((hall _).2 h2)
  obtain ⟨i3, g3⟩ := List.getElem?_of_mem ((hall _).2 h3)
  have ne : ∀ {i j : Nat} {u v : Cell}, T[i]? = some u → T[j]? = some v → u ≠ v → i ≠ j := fun hu hv huv e => by
    subst e
    rw [hu] at hv
    injection hv with hv
    exact huv hv
  have n01 : (⟨x, y⟩ : Cell) ≠ ⟨x + 1, y⟩ := fun e => by simp only [Cell.mk.injEq] at e; omega
  have n02 : (⟨x, y⟩ : Cell) ≠ ⟨x, y + 1⟩ := fun e => by simp only [Cell.mk.injEq] at e; omega
  have n03 : (⟨x, y⟩ : Cell) ≠ ⟨x + 1, y + 1⟩ := fun e => by simp only [Cell.mk.injEq] at e; omega
  have n12 : (⟨x + 1, y⟩ : Cell) ≠ ⟨x, y + 1⟩ := fun e => by simp only [Cell.mk.injEq] at e; omega
  have n13 : (⟨x + 1, y⟩ : Cell) ≠ ⟨x + 1, y + 1⟩ := fun e => by simp only [Cell.mk.injEq] at e; omega
  have n23 : (⟨x, y + 1⟩ : Cell) ≠ ⟨x + 1, y + 1⟩ := fun e => by simp only [Cell.mk.injEq] at e; omega
  have w : ∀ p q : Cell, (p.x - q.x = 0 ∧ (p.y - q.y = 1 ∨ p.y - q.y = -1)) ∨ (p.y - q.y = 0 ∧ (p.x - q.x = 1 ∨ p.x - q.x = -1)) → sideB p q = true := fun p q h => by
    unfold sideB
    rw [decide_eq_true_iff]
    rcases h with ⟨e1, e2 | e2⟩ | ⟨e1, e2 | e2⟩ <;> rw [e1, e2] <;> rfl
  have d01 := ne g0 g1 n01
  have d02 := ne g0 g2 n02
  have d03 := ne g0 g3 n03
  have d12 := ne g1 g2 n12
  have d13 := ne g1 g3 n13
  have d23 := ne g2 g3 n23
  by_cases a0 : i1 < i0 ∧ i2 < i0
  · exact key _ _ _ i0 i1 i2 g0 g1 g2 a0.1 a0.2 n12 (w _ _ (by simp only; omega)) (w _ _ (by simp only; omega))
  by_cases a1 : i0 < i1 ∧ i3 < i1
  · exact key _ _ _ i1 i0 i3 g1 g0 g3 a1.1 a1.2 n03 (w _ _ (by simp only; omega)) (w _ _ (by simp only; omega))
  by_cases a2 : i0 < i2 ∧ i3 < i2
  · exact key _ _ _ i2 i0 i3 g2 g0 g3 a2.1 a2.2 n03 (w _ _ (by simp only; omega)) (w _ _ (by simp only; omega))
  · exact key _ _ _ i3 i1 i2 g3 g1 g2 (by omega) (by omega) n12 (w _ _ (by simp only; omega)) (w _ _ (by simp only; omega))
end Go.Proofs.Ytghpkfihdcjlaaa

namespace Go.Proofs.Ytghpkfihdcjlaaa
open Go.RowKit

/-- does a square of four cells begin at a cell? -/
def sqB (s : List Cell) (c : Cell) : Bool := decide ((⟨c.x + 1, c.y⟩ : Cell) ∈ s) && (decide ((⟨c.x, c.y + 1⟩ : Cell) ∈ s) && decide ((⟨c.x + 1, c.y + 1⟩ : Cell) ∈ s))
/-- the squares that begin at the first n cells -/
def sqTo (s : List Cell) : Nat → Nat
  | 0 => 0
  | n + 1 => sqTo s n + (match s[n]? with | some c => if sqB s c then 1 else 0 | none => 0)
def sqN (s : List Cell) : Nat := if isShape s then sqTo s s.length else 0
theorem sqTo_at {s : List Cell} {n : Nat} {c : Cell} (h : s[n]? = some c) : sqTo s (n + 1) = sqTo s n + if sqB s c then 1 else 0 := by rw [sqTo, h]
theorem sqTo_le (s : List Cell) : ∀ n, sqTo s n ≤ n
  | 0 => Nat.le_refl _
  | n + 1 => by
    have ih := sqTo_le s n
    rw [sqTo]
    cases s[n]? with
    | none => simp only; omega
    | some c =>
      simp only
      split <;> omega
theorem sq_none {s : List Cell} (h : ∀ c ∈ s, sqB s c = false) : ∀ n, sqTo s n = 0
  | 0 => rfl
  | n + 1 => by
    rw [sqTo, sq_none h n]
    cases hc : s[n]? with
    | none => rfl
    | some c => simp [h c (List.mem_of_getElem? hc)]
/-- a tree-like shape has no squares -/
theorem tree_sqN {s : List Cell} (ht : treeB s = true) (hsh : isShape s = true) : sqN s = 0 := by
  rw [sqN, if_pos hsh]
  refine sq_none (fun c hc => ?_) _
  rw [Bool.eq_false_iff]
  intro hq
  unfold sqB at hq
  simp only [Bool.and_eq_true, decide_eq_true_eq] at hq
  exact tree_square ht hsh (x := c.x) (y := c.y) hc hq.1 hq.2.1 hq.2.2
end Go.Proofs.Ytghpkfihdcjlaaa

namespace Go.Proofs.Ytghpkfihdcjlaaa
open Go.RowKit

theorem row_right {s : List Cell} {y : Int} (h0 : Rch (frG s) ⟨0, 0⟩ ⟨0, y⟩) : ∀ n : Nat, (∀ k : Nat, k ≤ n → frG s ⟨(k : Int), y⟩ = true) → Rch (frG s) ⟨0, 0⟩ ⟨(n : Int), y⟩
  | 0, _ => h0
  | n + 1, h => by
    have ih := row_right h0 n fun k hk => h k (by omega)
    have h1 := h (n + 1) (Nat.le_refl _)
    have e : (⟨((n + 1 : Nat) : Int), y⟩ : Cell) = ⟨(⟨(n : Int), y⟩ : Cell).x + 1, (⟨(n : Int), y⟩ : Cell).y⟩ := by simp
    rw [e] at h1 ⊢
    exact .step ih nb_x h1
theorem row_left {s : List Cell} {y : Int} (h0 : Rch (frG s) ⟨0, 0⟩ ⟨9, y⟩) : ∀ n : Nat, (∀ k : Nat, k ≤ n → frG s ⟨9 - (k : Int), y⟩ = true) → Rch (frG s) ⟨0, 0⟩ ⟨9 - (n : Int), y⟩
  | 0, _ => by simpa using h0
  | n + 1, h => by
    have ih := row_left h0 n fun k hk => h k (by omega)
    have h1 := h (n + 1) (Nat.le_refl _)
    have hn : Adj (⟨9 - (n : Int), y⟩ : Cell) ⟨9 - ((n + 1 : Nat) : Int), y⟩ := ⟨2, by omega, by simp only [nbr, Cell.mk.injEq, and_true]; omega⟩
    exact .step ih hn h1
theorem convex_out {s : List Cell} (h : isShape s = true) (hs : Srt s) (hr : rcB s = true) {q : Cell} (hq : frG s q = true) : Rch (frG s) ⟨0, 0⟩ q := by
  have hsz := shp_size h
  have hmn := shp_min h
  obtain ⟨x, y⟩ := q
  obtain ⟨⟨h1, h2⟩, ⟨h3, h4⟩, h5⟩ := frG_iff.1 hq
  simp only at h1 h2 h3 h4
  by_cases hl : ∃ k : Nat, (k : Int) ≤ x ∧ shpAt s ⟨(k : Int), y⟩
  · obtain ⟨k, hk, hka⟩ := hl
    have h0 : Rch (frG s) ⟨0, 0⟩ ⟨9, y⟩ := by
      have := colX h (x := 9) (by omega) (.inr (by omega)) y.toNat (by omega)
      rwa [show ((y.toNat : Nat) : Int) = y by omega] at this
    have := row_left h0 (9 - x).toNat fun j hj => frG_iff.2 ⟨by simp only; omega, by simp only; omega, fun hm => by
      have hkx : ¬ (k : Int) = x := fun e => by rw [e] at hka; exact h5 hka
      have hjx : ¬ 9 - (j : Int) = x := fun e => by rw [e] at hm; exact h5 hm
      exact h5 (rc_in hs hr (a := ⟨(k : Int) - 1, y - 1⟩) (b := ⟨9 - (j : Int) - 1, y - 1⟩) hka hm rfl (x := x - 1) (by simp only; omega) (by simp only; omega))⟩
    rwa [show 9 - (((9 - x).toNat : Nat) : Int) = x by omega] at this
  · have h0 : Rch (frG s) ⟨0, 0⟩ ⟨0, y⟩ := by
      have := colX h (x := 0) (by omega) (.inl (by omega)) y.toNat (by omega)
      rwa [show ((y.toNat : Nat) : Int) = y by omega] at this
    have := row_right h0 x.toNat fun j hj => frG_iff.2 ⟨by simp only; omega, by simp only; omega, fun hm => hl ⟨j, by omega, hm⟩⟩
    rwa [show ((x.toNat : Nat) : Int) = x by omega] at this
/-- a row-convex shape has no holes -/
theorem convex_holes {s : List Cell} (h : isShape s = true) (hs : Srt s) (hr : rcB s = true) : holesN s = 0 := by
  have hL : ∀ q, q ∈ [(⟨0, 0⟩ : Cell)] ↔ rootG s q := fun q => by
    rw [List.mem_singleton]
    constructor
    · rintro rfl
      exact (root_iff h).2 (.inl rfl)
    · intro hq
      obtain ⟨x, y⟩ := q
      have hf := frG_iff.1 hq.1
      simp only at hf
      rcases Classical.em ((⟨x, y⟩ : Cell) = ⟨0, 0⟩) with e | e
      · exact e
      · refine absurd (convex_out h hs hr hq.1) (hq.2 ⟨0, 0⟩ ?_ (frG_zero h))
        simp only [Cell.mk.injEq] at e
        simp only [befB, Bool.or_eq_true, Bool.and_eq_true, decide_eq_true_eq]
        omega
  have := count_eq h (L := [⟨0, 0⟩]) (by simp) hL
  simp at this
  omega
end Go.Proofs.Ytghpkfihdcjlaaa
