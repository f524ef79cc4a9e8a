
/-
  The way around a shape without holes holds every boundary side once: plain. The winding seen from the right, and its parity: plain. Words as ways from the origin: plain. The way around a shape without holes winds once around its cells and holds every boundary side once: plain. A shape without holes: what is free hangs together with the far left: plain. The way around a shape is as long as its perimeter: plain. The area inside the way around a shape: plain. A closed way that meets no corner twice turns once around: the argument of Hopf, in eight sectors: plain. The border word of a shape turns four times more to the right than to the left: plain.
-/
import Derived.Test.YtghpkfihdcjlaaaGreatDoorBdB
import Derived.Test.YtghpkfihdcjlaaaGreatDoorBdH
import Derived.Test.YtghpkfihdcjlaaaGreatDoorBdN
namespace Go.Proofs.YtghpkfihdcjlaaaGreatDoor
open Go.RowKit

def bI (b : Bool) : Int := if b then 1 else 0
/-- the sum over the first n steps -/
def sumW (F : Cell → Nat → Int) (s : List Cell) (a : Cell) : Nat → Int
  | 0 => 0
  | n + 1 => sumW F s a n + F (wlk s a n) (outD s (wlk s a n))
/-- how a step winds around a cell: upright sides at its left -/
def wnd (x y : Int) (p : Cell) (d : Nat) : Int := bI (decide (d = 3) && (decide (p.y - 1 = y) && decide (p.x ≤ x))) - bI (decide (d = 1) && (decide (p.y = y) && decide (p.x ≤ x)))
/-- the side at a cell's left, and at its top -/
def sdL (x y : Int) (p : Cell) (d : Nat) : Int := bI (decide (d = 3) && (decide (p.y - 1 = y) && decide (p.x = x))) - bI (decide (d = 1) && (decide (p.y = y) && decide (p.x = x)))
def sdT (x y : Int) (p : Cell) (d : Nat) : Int := bI (decide (d = 0) && (decide (p.y = y) && decide (p.x = x))) - bI (decide (d = 2) && (decide (p.y = y) && decide (p.x - 1 = x)))
def phi (x y : Int) (q : Cell) : Int := bI (decide (q.y = y) && decide (q.x ≤ x))
theorem bI_two (b : Bool) : bI b = 0 ∨ bI b = 1 := by cases b <;> simp [bI]
theorem bI_le {x p : Int} : bI (decide (p ≤ x)) - bI (decide (p ≤ x - 1)) = bI (decide (p = x)) := by
  unfold bI
  by_cases h1 : p ≤ x - 1
  · simp [h1, show p ≤ x by omega, show ¬ p = x by omega]
  · by_cases h2 : p = x
    · subst h2; simp; omega
    · simp [h1, h2, show ¬ p ≤ x by omega]
theorem wnd_left (x y : Int) (p : Cell) {d : Nat} (hd : d < 4) : wnd x y p d - wnd (x - 1) y p d = sdL x y p d := by
  have h4 : d = 0 ∨ d = 1 ∨ d = 2 ∨ d = 3 := by omega
  have key := bI_le (x := x) (p := p.x)
  rcases h4 with rfl | rfl | rfl | rfl <;> simp only [wnd, sdL, decide_true, Bool.true_and, Bool.false_and, Nat.reduceEqDiff, decide_false]
  · simp [bI]
  · by_cases hy : p.y = y
    · simp only [hy, decide_true, Bool.true_and]
      simp only [bI, Bool.false_eq_true, if_false] at key ⊢
      omega
    · simp [hy, bI]
  · simp [bI]
  · by_cases hy : p.y - 1 = y
    · simp only [hy, decide_true, Bool.true_and]
      simp only [bI, Bool.false_eq_true, if_false] at key ⊢
      omega
    · simp [hy, bI]
theorem wnd_top (x y : Int) (p : Cell) {d : Nat} (hd : d < 4) : wnd x y p d - wnd x (y - 1) p d - sdT x y p d = phi x y (stepC p d) - phi x y p := by
  have h4 : d = 0 ∨ d = 1 ∨ d = 2 ∨ d = 3 := by omega
  rcases h4 with rfl | rfl | rfl | rfl <;> simp only [wnd, sdT, phi, stepC, decide_true, Bool.true_and, Bool.false_and, Nat.reduceEqDiff, decide_false]
  · by_cases hy : p.y = y
    · have key := bI_le (x := x) (p := p.x)
      rw [show decide (p.x ≤ x - 1) = decide (p.x + 1 ≤ x) by rw [Bool.eq_iff_iff]; simp <;> omega] at key
      simp only [hy, decide_true, Bool.true_and]
      simp only [bI, Bool.false_eq_true, if_false] at key ⊢
      omega
    · simp [hy, bI]
  · rw [show decide (p.y = y - 1) = decide (p.y + 1 = y) by rw [Bool.eq_iff_iff]; simp <;> omega]
    simp only [bI, Bool.false_eq_true, if_false]
    omega
  · by_cases hy : p.y = y
    · have key := bI_le (x := x) (p := p.x - 1)
      rw [show decide (p.x - 1 ≤ x - 1) = decide (p.x ≤ x) by rw [Bool.eq_iff_iff]; simp <;> omega] at key
      simp only [hy, decide_true, Bool.true_and]
      simp only [bI, Bool.false_eq_true, if_false] at key ⊢
      omega
    · simp [hy, bI]
  · rw [show decide (p.y - 1 = y - 1) = decide (p.y = y) by rw [Bool.eq_iff_iff]; simp <;> omega]
    simp only [bI, Bool.false_eq_true, if_false]
    omega
section
variable {s : List Cell} {a : Cell}
theorem sumW_add {F G : Cell → Nat → Int} : ∀ n, sumW (fun p d => F p d + G p d) s a n = sumW F s a n + sumW G s a n
  | 0 => rfl
  | n + 1 => by
    have ih := sumW_add (F := F) (G := G) n
    rw [sumW, sumW, sumW, ih]
    omega
theorem sumW_sub {F G : Cell → Nat → Int} : ∀ n, sumW F s a n - sumW G s a n = sumW (fun p d => F p d - G p d) s a n
  | 0 => rfl
  | n + 1 => by
    have ih := sumW_sub (F := F) (G := G) n
    rw [sumW, sumW, sumW, ← ih]
    omega
theorem sumW_congr {F G : Cell → Nat → Int} (h : ∀ i, F (wlk s a i) (outD s (wlk s a i)) = G (wlk s a i) (outD s (wlk s a i))) : ∀ n, sumW F s a n = sumW G s a n
  | 0 => rfl
  | n + 1 => by rw [sumW, sumW, sumW_congr h n, h n]
theorem sumW_zero {F : Cell → Nat → Int} (h : ∀ i, F (wlk s a i) (outD s (wlk s a i)) = 0) : ∀ n, sumW F s a n = 0
  | 0 => rfl
  | n + 1 => by rw [sumW, sumW_zero h n, h n]; rfl
theorem sumW_tel {f : Cell → Int} : ∀ n, sumW (fun p d => f (stepC p d) - f p) s a n = f (wlk s a n) - f a
  | 0 => by rw [sumW, wlk]; omega
  | n + 1 => by
    rw [sumW, sumW_tel n, wlk]
    omega
/-- how often the way winds around a cell -/
def wind (s : List Cell) (a : Cell) (K : Nat) (x y : Int) : Int := sumW (wnd x y) s a K
theorem wind_left (K : Nat) (x y : Int) : wind s a K x y - wind s a K (x - 1) y = sumW (sdL x y) s a K := by
  unfold wind
  rw [sumW_sub]
  exact sumW_congr (fun i => wnd_left x y _ (outD_lt s _)) K
theorem wind_top {K : Nat} (hK : wlk s a K = a) (x y : Int) : wind s a K x y - wind s a K x (y - 1) = sumW (sdT x y) s a K := by
  have h1 := sumW_tel (s := s) (a := a) (f := phi x y) K
  rw [hK] at h1
  have h2 : sumW (fun p d => wnd x y p d - wnd x (y - 1) p d - sdT x y p d) s a K = sumW (fun p d => phi x y (stepC p d) - phi x y p) s a K := sumW_congr (fun i => wnd_top x y _ (outD_lt s _)) K
  rw [← sumW_sub, ← sumW_sub] at h2
  unfold wind
  omega
theorem wind_far (h : Bord s a) (K : Nat) {x : Int} (hx : x < 0) (y : Int) : wind s a K x y = 0 := by
  refine sumW_zero (fun i => ?_) K
  have := (h.on_ i).1.1
  have h1 : decide ((wlk s a i).x ≤ x) = false := decide_eq_false (by omega)
  simp [wnd, h1, bI]
/-- a side that the way holds parts the shape from what is no shape -/
theorem sdL_same (h : Bord s a) {x y : Int} (he : hs s x y = hs s (x - 1) y) (i : Nat) : sdL x y (wlk s a i) (outD s (wlk s a i)) = 0 := by
  have hed := h.edg i
  generalize wlk s a i = p at *
  generalize outD s p = d at *
  unfold sdL
  have k3 : (decide (d = 3) && (decide (p.y - 1 = y) && decide (p.x = x))) = false := by
    rw [Bool.eq_false_iff]
    intro hc
    simp only [Bool.and_eq_true, decide_eq_true_eq] at hc
    obtain ⟨rfl, rfl, rfl⟩ := hc
    simp only [edge, Bool.and_eq_true, Bool.not_eq_true'] at hed
    rw [hed.1, hed.2] at he
    cases he
  have k1 : (decide (d = 1) && (decide (p.y = y) && decide (p.x = x))) = false := by
    rw [Bool.eq_false_iff]
    intro hc
    simp only [Bool.and_eq_true, decide_eq_true_eq] at hc
    obtain ⟨rfl, rfl, rfl⟩ := hc
    simp only [edge, Bool.and_eq_true, Bool.not_eq_true'] at hed
    rw [hed.1, hed.2] at he
    cases he
  rw [k3, k1]
  rfl
theorem sdT_same (h : Bord s a) {x y : Int} (he : hs s x y = hs s x (y - 1)) (i : Nat) : sdT x y (wlk s a i) (outD s (wlk s a i)) = 0 := by
  have hed := h.edg i
  generalize wlk s a i = p at *
  generalize outD s p = d at *
  unfold sdT
  have k0 : (decide (d = 0) && (decide (p.y = y) && decide (p.x = x))) = false := by
    rw [Bool.eq_false_iff]
    intro hc
    simp only [Bool.and_eq_true, decide_eq_true_eq] at hc
    obtain ⟨rfl, rfl, rfl⟩ := hc
    simp only [edge, Bool.and_eq_true, Bool.not_eq_true'] at hed
    rw [hed.1, hed.2] at he
    cases he
  have k2 : (decide (d = 2) && (decide (p.y = y) && decide (p.x - 1 = x))) = false := by
    rw [Bool.eq_false_iff]
    intro hc
    simp only [Bool.and_eq_true, decide_eq_true_eq] at hc
    obtain ⟨rfl, rfl, rfl⟩ := hc
    simp only [edge, Bool.and_eq_true, Bool.not_eq_true'] at hed
    rw [hed.1, hed.2] at he
    cases he
  rw [k0, k2]
  rfl
theorem wind_x (h : Bord s a) (K : Nat) {x y : Int} (he : hs s x y = hs s (x - 1) y) : wind s a K x y = wind s a K (x - 1) y := by
  have h1 := wind_left (s := s) (a := a) K x y
  rw [sumW_zero (sdL_same h he)] at h1
  omega
theorem wind_y (h : Bord s a) {K : Nat} (hK : wlk s a K = a) {x y : Int} (he : hs s x y = hs s x (y - 1)) : wind s a K x y = wind s a K x (y - 1) := by
  have h1 := wind_top hK x y
  rw [sumW_zero (sdT_same h he)] at h1
  omega
/-- neighbours that are alike are wound alike -/
theorem wind_nb (h : Bord s a) {K : Nat} (hK : wlk s a K = a) {c : Cell} {d : Nat} (hd : d < 4) (he : hs s c.x c.y = hs s (stepC c d).x (stepC c d).y) : wind s a K c.x c.y = wind s a K (stepC c d).x (stepC c d).y := by
  have h4 : d = 0 ∨ d = 1 ∨ d = 2 ∨ d = 3 := by omega
  rcases h4 with rfl | rfl | rfl | rfl <;> simp only [stepC] at he ⊢
  · have := wind_x h K (x := c.x + 1) (y := c.y) (by rw [Int.add_sub_cancel]; exact he.symm)
    rw [Int.add_sub_cancel] at this
    exact this.symm
  · have := wind_y h hK (x := c.x) (y := c.y + 1) (by rw [Int.add_sub_cancel]; exact he.symm)
    rw [Int.add_sub_cancel] at this
    exact this.symm
  · exact wind_x h K he
  · exact wind_y h hK he
/-- what is free and hangs together with the far left -/
inductive Fre (s : List Cell) : Cell → Prop
  | far {c : Cell} : c.x < 0 → Fre s c
  | step {b : Cell} {d : Nat} : Fre s b → d < 4 → hs s (stepC b d).x (stepC b d).y = false → Fre s (stepC b d)
theorem Fre.off (h : Bord s a) {c : Cell} (hc : Fre s c) : hs s c.x c.y = false := by
  induction hc with
  | far hx =>
    rw [Bool.eq_false_iff]
    intro hm
    have := (h.on _ (hs_iff.1 hm)).1.1
    simp only at this
    omega
  | step _ _ hf => exact hf
theorem wind_fre (h : Bord s a) {K : Nat} (hK : wlk s a K = a) {c : Cell} (hc : Fre s c) : wind s a K c.x c.y = 0 := by
  induction hc with
  | far hx => exact wind_far h K hx _
  | @step b d hb hd hf ih =>
    rw [← wind_nb h hK hd (by rw [hf, hb.off h])]
    exact ih
end
end Go.Proofs.YtghpkfihdcjlaaaGreatDoor

namespace Go.Proofs.YtghpkfihdcjlaaaGreatDoor
open Go.RowKit

/-- how a step winds around a cell: upright sides at its right, those down counted -/
def wndR (x y : Int) (p : Cell) (d : Nat) : Int := bI (decide (d = 1) && (decide (p.y = y) && decide (x < p.x))) - bI (decide (d = 3) && (decide (p.y - 1 = y) && decide (x < p.x)))
/-- every upright side at its left -/
def wndA (x y : Int) (p : Cell) (d : Nat) : Int := bI (decide (d = 3) && (decide (p.y - 1 = y) && decide (p.x ≤ x))) + bI (decide (d = 1) && (decide (p.y = y) && decide (p.x ≤ x)))
def psi (y : Int) (q : Cell) : Int := bI (decide (q.y ≤ y))
theorem bI_part {x p : Int} : bI (decide (p ≤ x)) + bI (decide (x < p)) = 1 := by
  by_cases h : p ≤ x
  · simp [bI, h, show ¬ x < p by omega]
  · simp [bI, h, show x < p by omega]
theorem wnd_right (x y : Int) (p : Cell) {d : Nat} (hd : d < 4) : wnd x y p d - wndR x y p d = psi y (stepC p d) - psi y p := by
  have h4 : d = 0 ∨ d = 1 ∨ d = 2 ∨ d = 3 := by omega
  have key := bI_part (x := x) (p := p.x)
  rcases h4 with rfl | rfl | rfl | rfl <;> simp only [wnd, wndR, psi, stepC, decide_true, Bool.true_and, Bool.false_and, Nat.reduceEqDiff, decide_false]
  · simp [bI]
  · by_cases hy : p.y = y
    · have e1 : decide (p.y ≤ y) = true := decide_eq_true (by omega)
      have e2 : decide (p.y + 1 ≤ y) = false := decide_eq_false (by omega)
      rw [e1, e2]
      simp only [hy, decide_true, Bool.true_and]
      simp only [bI, Bool.false_eq_true, if_false, if_true] at key ⊢
      omega
    · have e : decide (p.y + 1 ≤ y) = decide (p.y ≤ y) := by rw [Bool.eq_iff_iff]; simp; omega
      rw [e]
      simp [hy, bI]
  · simp [bI]
  · by_cases hy : p.y - 1 = y
    · have e1 : decide (p.y ≤ y) = false := decide_eq_false (by omega)
      have e2 : decide (p.y - 1 ≤ y) = true := decide_eq_true (by omega)
      rw [e1, e2]
      simp only [hy, decide_true, Bool.true_and]
      simp only [bI, Bool.false_eq_true, if_false, if_true] at key ⊢
      omega
    · have e : decide (p.y - 1 ≤ y) = decide (p.y ≤ y) := by rw [Bool.eq_iff_iff]; simp; omega
      rw [e]
      simp [hy, bI]
section
variable {s : List Cell} {a : Cell}
/-- the reference's count -/
theorem wind_right {K : Nat} (hK : wlk s a K = a) (x y : Int) : sumW (wndR x y) s a K = wind s a K x y := by
  have h1 := sumW_tel (s := s) (a := a) (f := psi y) K
  rw [hK] at h1
  have h2 : sumW (fun p d => wnd x y p d - wndR x y p d) s a K = sumW (fun p d => psi y (stepC p d) - psi y p) s a K := sumW_congr (fun i => wnd_right x y _ (outD_lt s _)) K
  rw [← sumW_sub] at h2
  unfold wind
  omega
/-- the program's parity -/
theorem wind_par (x y : Int) : ∀ n, sumW (wndA x y) s a n % 2 = wind s a n x y % 2
  | 0 => rfl
  | n + 1 => by
    have ih := wind_par x y n
    unfold wind at *
    rw [sumW, sumW]
    unfold wndA wnd at *
    omega
end
end Go.Proofs.YtghpkfihdcjlaaaGreatDoor

namespace Go.Proofs.YtghpkfihdcjlaaaGreatDoor
open Go.RowKit

/-- the direction of a letter; 4 if it is none -/
def dirN (u : UInt8) : Nat := if u = 114 then 0 else if u = 100 then 1 else if u = 108 then 2 else if u = 117 then 3 else 4
theorem dirN_U {d : Nat} (hd : d < 4) : dirN (dirU d) = d := by
  have h4 : d = 0 ∨ d = 1 ∨ d = 2 ∨ d = 3 := by omega
  rcases h4 with rfl | rfl | rfl | rfl <;> rfl
/-- the places of a word -/
def wayW (w : List UInt8) : Nat → Cell
  | 0 => ⟨0, 0⟩
  | i + 1 => match w[i]? with
    | some u => stepC (wayW w i) (dirN u)
    | none => wayW w i
/-- a sum over the letters of a word -/
def sumB (F : Cell → Nat → Int) (w : List UInt8) : Nat → Int
  | 0 => 0
  | i + 1 => sumB F w i + (match w[i]? with | some u => F (wayW w i) (dirN u) | none => 0)
theorem wrd_at {s : List Cell} {a : Cell} {K i : Nat} (hi : i < K) : (wrd s a K)[i]? = some (dirU (outD s (wlk s a i))) := by
  unfold wrd
  rw [List.getElem?_map, List.getElem?_range hi]
  rfl
theorem way_wrd {s : List Cell} {a : Cell} {K : Nat} : ∀ i, i ≤ K → wayW (wrd s a K) i = ⟨(wlk s a i).x - a.x, (wlk s a i).y - a.y⟩
  | 0, _ => by
    show (⟨0, 0⟩ : Cell) = ⟨a.x - a.x, a.y - a.y⟩
    rw [Int.sub_self, Int.sub_self]
  | i + 1, hi => by
    have ih := way_wrd (s := s) (a := a) (K := K) i (by omega)
    have hd := outD_lt s (wlk s a i)
    have e : wlk s a (i + 1) = stepC (wlk s a i) (outD s (wlk s a i)) := rfl
    rw [wayW, wrd_at (by omega)]
    simp only
    rw [ih, dirN_U hd, e]
    generalize outD s (wlk s a i) = d at *
    generalize wlk s a i = p at *
    have h4 : d = 0 ∨ d = 1 ∨ d = 2 ∨ d = 3 := by omega
    have key : ∀ {u v u' v' : Int}, u = u' → v = v' → (⟨u, v⟩ : Cell) = ⟨u', v'⟩ := by
      rintro _ _ _ _ rfl rfl
      rfl
    rcases h4 with rfl | rfl | rfl | rfl
    · exact key (show p.x - a.x + 1 = p.x + 1 - a.x by omega) rfl
    · exact key rfl (show p.y - a.y + 1 = p.y + 1 - a.y by omega)
    · exact key (show p.x - a.x - 1 = p.x - 1 - a.x by omega) rfl
    · exact key rfl (show p.y - a.y - 1 = p.y - 1 - a.y by omega)
/-- what is summed over a border word is summed over the way around the shape -/
theorem sumB_wrd {F G : Cell → Nat → Int} {s : List Cell} {a : Cell} {K : Nat} (h : ∀ (p : Cell) (d : Nat), F ⟨p.x - a.x, p.y - a.y⟩ d = G p d) : ∀ n, n ≤ K → sumB F (wrd s a K) n = sumW G s a n
  | 0, _ => rfl
  | n + 1, hn => by
    have ih := sumB_wrd (F := F) (G := G) (s := s) (a := a) (K := K) h n (by omega)
    rw [sumB, sumW, ih, wrd_at (by omega)]
    simp only
    rw [way_wrd n (by omega), dirN_U (outD_lt s _), h]
theorem wndR_move (x y : Int) (a p : Cell) (d : Nat) : wndR x y ⟨p.x - a.x, p.y - a.y⟩ d = wndR (x + a.x) (y + a.y) p d := by
  unfold wndR
  simp only
  rw [show decide (p.y - a.y = y) = decide (p.y = y + a.y) by rw [Bool.eq_iff_iff]; simp; omega, show decide (x < p.x - a.x) = decide (x + a.x < p.x) by rw [Bool.eq_iff_iff]; simp; omega, show decide (p.y - a.y - 1 = y) = decide (p.y - 1 = y + a.y) by rw [Bool.eq_iff_iff]; simp; omega]
theorem wndA_move (x y : Int) (a p : Cell) (d : Nat) : wndA x y ⟨p.x - a.x, p.y - a.y⟩ d = wndA (x + a.x) (y + a.y) p d := by
  unfold wndA
  simp only
  rw [show decide (p.y - a.y = y) = decide (p.y = y + a.y) by rw [Bool.eq_iff_iff]; simp; omega, show decide (p.x - a.x ≤ x) = decide (p.x ≤ x + a.x) by rw [Bool.eq_iff_iff]; simp; omega, show decide (p.y - a.y - 1 = y) = decide (p.y - 1 = y + a.y) by rw [Bool.eq_iff_iff]; simp; omega]
end Go.Proofs.YtghpkfihdcjlaaaGreatDoor

namespace Go.Proofs.YtghpkfihdcjlaaaGreatDoor
open Go.RowKit

theorem sq_geW {x : Int} (h : x ≤ -2 ∨ 2 ≤ x) : 4 ≤ x * x := by
  rcases h with h | h
  · have := Int.mul_le_mul (a := 2) (b := 2) (c := -x) (d := -x) (by omega) (by omega) (by omega) (by omega)
    rw [Int.neg_mul_neg] at this
    omega
  · have := Int.mul_le_mul (a := 2) (b := 2) (c := x) (d := x) (by omega) (by omega) (by omega) (by omega)
    omega
theorem sq_nnW (x : Int) : 0 ≤ x * x := by
  by_cases h : x ≤ -2 ∨ 2 ≤ x
  · have := sq_geW h; omega
  · have h3 : x = 0 ∨ x = 1 ∨ x = -1 := by omega
    rcases h3 with rfl | rfl | rfl <;> decide
theorem sq_unitW {a b : Int} (h : a * a + b * b = 1) : (a = 0 ∧ (b = 1 ∨ b = -1)) ∨ (b = 0 ∧ (a = 1 ∨ a = -1)) := by
  have h1 := sq_nnW a
  have h2 := sq_nnW b
  have key : ∀ x : Int, x * x ≤ 1 → x = 0 ∨ x = 1 ∨ x = -1 := fun x hx => by
    by_cases h : x ≤ -2 ∨ 2 ≤ x
    · have := sq_geW h; omega
    · omega
  rcases key a (by omega) with rfl | rfl | rfl <;> rcases key b (by omega) with rfl | rfl | rfl <;> simp_all
theorem step_sideW {b c : Cell} (h : sideB b c = true) : ∃ d, d < 4 ∧ c = stepC b d := by
  unfold sideB at h
  obtain ⟨bx, by'⟩ := b
  obtain ⟨cx, cy⟩ := c
  rcases sq_unitW (of_decide_eq_true h) with ⟨h1, h2 | h2⟩ | ⟨h1, h2 | h2⟩ <;> simp only at h1 h2
  · refine ⟨3, by decide, ?_⟩
    simp only [stepC, Cell.mk.injEq]
    omega
  · refine ⟨1, by decide, ?_⟩
    simp only [stepC, Cell.mk.injEq]
    omega
  · refine ⟨2, by decide, ?_⟩
    simp only [stepC, Cell.mk.injEq]
    omega
  · refine ⟨0, by decide, ?_⟩
    simp only [stepC, Cell.mk.injEq]
    omega
theorem hangs_at {s : List Cell} {a : Cell} (ha : s[0]? = some a) (h : hangs s = true) : ∀ c ∈ s, Hang s a c := by
  unfold hangs at h
  rw [ha] at h
  exact Classical.byContradiction fun hn => by
    have h' : cdec (∀ c ∈ s, Hang s a c) = true := h
    rw [cdec_f hn] at h'
    cases h'
theorem wind_hang {s : List Cell} {a : Cell} (h : Bord s a) {K : Nat} (hK : wlk s a K = a) (ha : a ∈ s) {c : Cell} (hc : Hang s a c) : c ∈ s ∧ wind s a K c.x c.y = wind s a K a.x a.y := by
  induction hc with
  | base => exact ⟨ha, rfl⟩
  | @step b c hb hcs hn ih =>
    refine ⟨hcs, ?_⟩
    obtain ⟨d, hd, rfl⟩ := step_sideW hn
    have h1 : hs s b.x b.y = true := hs_iff.2 ih.1
    have h2 : hs s (stepC b d).x (stepC b d).y = true := hs_iff.2 hcs
    rw [← wind_nb h hK hd (by rw [h1, h2])]
    exact ih.2
/-- the first side is held once -/
theorem first_once {s : List Cell} {a : Cell} {K : Nat} (h : BordIs s a K) : ∀ n, 1 ≤ n → n ≤ K → sumW (sdT a.x a.y) s a n = 1
  | 0, h1, _ => absurd h1 (by omega)
  | n + 1, _, h2 => by
    have hf := h.bord.first
    simp only [edge, Bool.and_eq_true, Bool.not_eq_true'] at hf
    rw [sumW]
    by_cases h0 : n = 0
    · subst h0
      have e0 : wlk s a 0 = a := rfl
      rw [sumW, e0, outD_is h.bord.free (by decide) h.bord.first]
      simp [sdT, bI]
    · have ih := first_once h n (by omega) (by omega)
      have hne := h.away n (by omega) (by omega)
      have hed := h.bord.edg n
      generalize wlk s a n = p at *
      generalize outD s p = d at *
      have k0 : (decide (d = 0) && (decide (p.y = a.y) && decide (p.x = a.x))) = false := by
        rw [Bool.eq_false_iff]
        intro hc
        simp only [Bool.and_eq_true, decide_eq_true_eq] at hc
        apply hne
        cases p
        cases a
        simp only at hc
        rw [hc.2.1, hc.2.2]
      have k2 : (decide (d = 2) && (decide (p.y = a.y) && decide (p.x - 1 = a.x))) = false := by
        rw [Bool.eq_false_iff]
        intro hc
        simp only [Bool.and_eq_true, decide_eq_true_eq] at hc
        obtain ⟨rfl, e1, e2⟩ := hc
        simp only [edge, Bool.and_eq_true, Bool.not_eq_true'] at hed
        rw [e1, e2, hf.2] at hed
        cases hed.1
      rw [ih, sdT, k0, k2]
      rfl
/-- the way winds once around each cell, and around nothing else -/
theorem wind_is {s : List Cell} {a : Cell} {K : Nat} (h : BordIs s a K) (ha : s[0]? = some a) (hh : hangs s = true) (hf : ∀ c, hs s c.x c.y = false → Fre s c) (x y : Int) : wind s a K x y = bI (hs s x y) := by
  have ham := List.mem_of_getElem? ha
  have h1 : hs s a.x (a.y - 1) = false := by
    have hf := h.bord.first
    simp only [edge, Bool.and_eq_true, Bool.not_eq_true'] at hf
    exact hf.2
  have h2 : wind s a K a.x (a.y - 1) = 0 := wind_fre h.bord h.home (c := ⟨a.x, a.y - 1⟩) (hf ⟨a.x, a.y - 1⟩ h1)
  have h3 := wind_top h.home a.x a.y
  rw [first_once h K h.lo (Nat.le_refl _), h2] at h3
  cases hb : hs s x y with
  | false => exact wind_fre h.bord h.home (c := ⟨x, y⟩) (hf ⟨x, y⟩ hb)
  | true =>
    have h4 := (wind_hang h.bord h.home ham (hangs_at ha hh ⟨x, y⟩ (hs_iff.1 hb))).2
    simp only at h4
    rw [h4]
    simp only [bI, if_true]
    omega
/-- the neighbour across a side, and the corner where the way comes to it -/
def nbC (c : Cell) : Nat → Cell
  | 0 => ⟨c.x, c.y - 1⟩
  | 1 => ⟨c.x + 1, c.y⟩
  | 2 => ⟨c.x, c.y + 1⟩
  | _ => ⟨c.x - 1, c.y⟩
def corC (c : Cell) : Nat → Cell
  | 0 => ⟨c.x, c.y⟩
  | 1 => ⟨c.x + 1, c.y⟩
  | 2 => ⟨c.x + 1, c.y + 1⟩
  | _ => ⟨c.x, c.y + 1⟩
def oneC (c : Cell) (e : Nat) (p : Cell) (d : Nat) : Int := bI (decide (d = e) && decide (p = corC c e))
theorem cell_eq {p : Cell} {x y : Int} : decide (p = (⟨x, y⟩ : Cell)) = (decide (p.y = y) && decide (p.x = x)) := by
  rw [Bool.eq_iff_iff]
  cases p
  simp [and_comm]
/-- every boundary side is held once, no other -/
theorem side_once {s : List Cell} {a : Cell} {K : Nat} (h : BordIs s a K) (ha : s[0]? = some a) (hh : hangs s = true) (hf : ∀ c, hs s c.x c.y = false → Fre s c) {c : Cell} (hc : c ∈ s) {e : Nat} (he : e < 4) :
    sumW (oneC c e) s a K = bI (!hs s (nbC c e).x (nbC c e).y) := by
  have hcs : hs s c.x c.y = true := hs_iff.2 hc
  have h4 : e = 0 ∨ e = 1 ∨ e = 2 ∨ e = 3 := by omega
  have key : ∀ b : Bool, bI (!b) = 1 - bI b := fun b => by cases b <;> rfl
  rw [key]
  rcases h4 with rfl | rfl | rfl | rfl <;> simp only [nbC]
  · have h1 := wind_top h.home c.x c.y
    rw [wind_is h ha hh hf, wind_is h ha hh hf, hcs] at h1
    have h2 : sumW (oneC c 0) s a K = sumW (sdT c.x c.y) s a K := sumW_congr (fun i => by
      have hed := h.bord.edg i
      generalize wlk s a i = p at *
      generalize outD s p = d at *
      have k2 : (decide (d = 2) && (decide (p.y = c.y) && decide (p.x - 1 = c.x))) = false := by
        rw [Bool.eq_false_iff]
        intro hq
        simp only [Bool.and_eq_true, decide_eq_true_eq] at hq
        obtain ⟨rfl, e1, e2⟩ := hq
        simp only [edge, Bool.and_eq_true, Bool.not_eq_true'] at hed
        rw [e1, e2, hcs] at hed
        cases hed.2
      rw [sdT, k2, oneC, corC, cell_eq]
      simp [bI]) K
    rw [h2, ← h1]
    rfl
  · have h1 := wind_left (s := s) (a := a) K (c.x + 1) c.y
    rw [Int.add_sub_cancel, wind_is h ha hh hf, wind_is h ha hh hf, hcs] at h1
    have h2 : sumW (fun p d => oneC c 1 p d + sdL (c.x + 1) c.y p d) s a K = 0 := sumW_zero (fun i => by
      have hed := h.bord.edg i
      generalize wlk s a i = p at *
      generalize outD s p = d at *
      have k3 : (decide (d = 3) && (decide (p.y - 1 = c.y) && decide (p.x = c.x + 1))) = false := by
        rw [Bool.eq_false_iff]
        intro hq
        simp only [Bool.and_eq_true, decide_eq_true_eq] at hq
        obtain ⟨rfl, e1, e2⟩ := hq
        simp only [edge, Bool.and_eq_true, Bool.not_eq_true'] at hed
        rw [e1, e2, Int.add_sub_cancel, hcs] at hed
        cases hed.2
      rw [sdL, k3, oneC, corC, cell_eq]
      simp only [bI, Bool.false_eq_true, if_false]
      omega) K
    rw [sumW_add] at h2
    have h3 : bI true = 1 := rfl
    rw [h3] at h1
    omega
  · have h1 := wind_top h.home c.x (c.y + 1)
    rw [Int.add_sub_cancel, wind_is h ha hh hf, wind_is h ha hh hf, hcs] at h1
    have h2 : sumW (fun p d => oneC c 2 p d + sdT c.x (c.y + 1) p d) s a K = 0 := sumW_zero (fun i => by
      have hed := h.bord.edg i
      generalize wlk s a i = p at *
      generalize outD s p = d at *
      have k0 : (decide (d = 0) && (decide (p.y = c.y + 1) && decide (p.x = c.x))) = false := by
        rw [Bool.eq_false_iff]
        intro hq
        simp only [Bool.and_eq_true, decide_eq_true_eq] at hq
        obtain ⟨rfl, e1, e2⟩ := hq
        simp only [edge, Bool.and_eq_true, Bool.not_eq_true'] at hed
        rw [e1, e2, Int.add_sub_cancel, hcs] at hed
        cases hed.2
      rw [sdT, k0, oneC, corC, cell_eq, show decide (p.x - 1 = c.x) = decide (p.x = c.x + 1) by rw [Bool.eq_iff_iff]; simp; omega]
      simp only [bI, Bool.false_eq_true, if_false]
      omega) K
    rw [sumW_add] at h2
    have h3 : bI true = 1 := rfl
    rw [h3] at h1
    omega
  · have h1 := wind_left (s := s) (a := a) K c.x c.y
    rw [wind_is h ha hh hf, wind_is h ha hh hf, hcs] at h1
    have h2 : sumW (oneC c 3) s a K = sumW (sdL c.x c.y) s a K := sumW_congr (fun i => by
      have hed := h.bord.edg i
      generalize wlk s a i = p at *
      generalize outD s p = d at *
      have k1 : (decide (d = 1) && (decide (p.y = c.y) && decide (p.x = c.x))) = false := by
        rw [Bool.eq_false_iff]
        intro hq
        simp only [Bool.and_eq_true, decide_eq_true_eq] at hq
        obtain ⟨rfl, e1, e2⟩ := hq
        simp only [edge, Bool.and_eq_true, Bool.not_eq_true'] at hed
        rw [e1, e2, hcs] at hed
        cases hed.2
      rw [sdL, k1, oneC, show corC c 3 = ⟨c.x, c.y + 1⟩ from rfl, cell_eq, show decide (p.y = c.y + 1) = decide (p.y - 1 = c.y) by rw [Bool.eq_iff_iff]; simp; omega]
      simp [bI]) K
    rw [h2, ← h1]
    rfl
theorem sumL_zero {f : Cell → Int} : ∀ {l : List Cell}, (∀ c ∈ l, f c = 0) → (l.map f).sum = 0
  | [], _ => rfl
  | c :: l, h => by
    rw [List.map_cons, List.sum_cons, h c (by simp), sumL_zero fun d hd => h d (by simp [hd])]
    rfl
theorem sumL_congr {f g : Cell → Int} : ∀ {l : List Cell}, (∀ c ∈ l, f c = g c) → (l.map f).sum = (l.map g).sum
  | [], _ => rfl
  | c :: l, h => by
    rw [List.map_cons, List.map_cons, List.sum_cons, List.sum_cons, h c (by simp), sumL_congr fun d hd => h d (by simp [hd])]
theorem sumL_one {q : Cell} : ∀ {l : List Cell}, l.Nodup → q ∈ l → (l.map fun c => bI (decide (c = q))).sum = 1
  | [], _, h => by simp at h
  | c :: l, hn, h => by
    rw [List.nodup_cons] at hn
    rw [List.map_cons, List.sum_cons]
    by_cases e : c = q
    · subst e
      rw [sumL_zero fun d hd => by
        have : ¬ d = c := fun e => hn.1 (e ▸ hd)
        simp [this, bI]]
      simp [bI]
    · rcases List.mem_cons.1 h with h1 | h1
      · exact absurd h1.symm e
      · rw [sumL_one hn.2 h1]
        simp [e, bI]
theorem sumW_sumL {s : List Cell} {a : Cell} {K : Nat} {F : Cell → Cell → Nat → Int} : ∀ l : List Cell, (l.map fun c => sumW (F c) s a K).sum = sumW (fun p d => (l.map fun c => F c p d).sum) s a K
  | [] => (sumW_zero (fun _ => rfl) K).symm
  | c :: l => by
    rw [List.map_cons, List.sum_cons, sumW_sumL l, ← sumW_add]
    rfl
theorem sumW_len {s : List Cell} {a : Cell} : ∀ n : Nat, sumW (fun _ _ => 1) s a n = (n : Int)
  | 0 => rfl
  | n + 1 => by rw [sumW, sumW_len n]; rfl
/-- the cell at the right hand of a step -/
def rgt (p : Cell) : Nat → Cell
  | 0 => ⟨p.x, p.y⟩
  | 1 => ⟨p.x - 1, p.y⟩
  | 2 => ⟨p.x - 1, p.y - 1⟩
  | _ => ⟨p.x, p.y - 1⟩
theorem rgt_in {s : List Cell} {p : Cell} : ∀ {d : Nat}, edge s p d = true → rgt p d ∈ s
  | 0, h => by simp only [edge, Bool.and_eq_true] at h; exact hs_iff.1 h.1
  | 1, h => by simp only [edge, Bool.and_eq_true] at h; exact hs_iff.1 h.1
  | 2, h => by simp only [edge, Bool.and_eq_true] at h; exact hs_iff.1 h.1
  | _ + 3, h => by simp only [edge, Bool.and_eq_true] at h; exact hs_iff.1 h.1
/-- all four sides of a cell together -/
def allC (c p : Cell) (d : Nat) : Int := oneC c 0 p d + oneC c 1 p d + oneC c 2 p d + oneC c 3 p d
theorem allC_is (c p : Cell) {d : Nat} (hd : d < 4) : allC c p d = bI (decide (c = rgt p d)) := by
  have h4 : d = 0 ∨ d = 1 ∨ d = 2 ∨ d = 3 := by omega
  obtain ⟨cx, cy⟩ := c
  obtain ⟨px, py⟩ := p
  rcases h4 with rfl | rfl | rfl | rfl <;> simp only [allC, oneC, corC, rgt, bI, Cell.mk.injEq, Nat.reduceEqDiff, decide_true, decide_false, Bool.true_and, Bool.false_and, Bool.false_eq_true, if_false] <;> simp only [decide_eq_true_eq] <;> split <;> split <;> omega
/-- how many sides of a cell are boundary sides -/
def sidesO (s : List Cell) (c : Cell) : Int := bI (!hs s (nbC c 0).x (nbC c 0).y) + bI (!hs s (nbC c 1).x (nbC c 1).y) + bI (!hs s (nbC c 2).x (nbC c 2).y) + bI (!hs s (nbC c 3).x (nbC c 3).y)
/-- the way is as long as there are boundary sides -/
theorem way_len {s : List Cell} {a : Cell} {K : Nat} (h : BordIs s a K) (ha : s[0]? = some a) (hh : hangs s = true) (hf : ∀ c, hs s c.x c.y = false → Fre s c) (hn : s.Nodup) : (K : Int) = (s.map (sidesO s)).sum := by
  have h1 : (s.map fun c => sumW (allC c) s a K).sum = (K : Int) := by
    rw [sumW_sumL, ← sumW_len (s := s) (a := a) K]
    refine sumW_congr (fun i => ?_) K
    rw [sumL_congr (g := fun c => bI (decide (c = rgt (wlk s a i) (outD s (wlk s a i))))) fun c _ => allC_is c _ (outD_lt s _)]
    exact sumL_one hn (rgt_in (h.bord.edg i))
  rw [← h1]
  refine sumL_congr fun c hc => ?_
  have e : sumW (allC c) s a K = sumW (oneC c 0) s a K + sumW (oneC c 1) s a K + sumW (oneC c 2) s a K + sumW (oneC c 3) s a K := by
    rw [← sumW_add, ← sumW_add, ← sumW_add]
    rfl
  rw [e, side_once h ha hh hf hc (by decide), side_once h ha hh hf hc (by decide), side_once h ha hh hf hc (by decide), side_once h ha hh hf hc (by decide), sidesO]
end Go.Proofs.YtghpkfihdcjlaaaGreatDoor

namespace Go.Proofs.YtghpkfihdcjlaaaGreatDoor
open Go.RowKit

def ddW : List Cell → List Cell
  | [] => []
  | c :: l => if c ∈ ddW l then ddW l else c :: ddW l
theorem ddW_mem {c : Cell} : ∀ {l : List Cell}, c ∈ ddW l ↔ c ∈ l
  | [] => Iff.rfl
  | a :: l => by
    rw [ddW]
    split
    · rename_i h
      rw [ddW_mem, List.mem_cons]
      constructor
      · exact .inr
      · rintro (rfl | h2)
        · exact ddW_mem.1 h
        · exact h2
    · rw [List.mem_cons, List.mem_cons, ddW_mem]
theorem ddW_nodup : ∀ {l : List Cell}, (ddW l).Nodup
  | [] => List.nodup_nil
  | a :: l => by
    rw [ddW]
    split
    · exact ddW_nodup
    · rename_i h
      exact List.nodup_cons.2 ⟨h, ddW_nodup⟩
open Classical in
theorem no_root {s : List Cell} (h : isShape s = true) (hz : holesN s = 0) (q : Cell) : ¬ rootS s q := by
  intro hq
  have hsz := shp_size h
  have hmn := shp_min h
  have hm : ∀ q, q ∈ ddW ((gridL 0 0 10 10).filter fun q => decide (rootS s q)) ↔ rootS s q := fun q => by
    rw [ddW_mem, List.mem_filter, decide_eq_true_iff]
    constructor
    · exact fun hq => hq.2
    · intro hq
      have hb := frB_iff.1 hq.1
      exact ⟨gridL_mem (by omega) (by omega) (by omega) (by omega), hq⟩
  have h1 : holesN s = (ddW ((gridL 0 0 10 10).filter fun q => decide (rootS s q))).length := cardP_eq ddW_nodup hm
  rw [hz] at h1
  have h2 := (hm q).2 hq
  rw [List.length_eq_zero_iff.1 h1.symm] at h2
  cases h2
/-- every free place has a first place -/
theorem root_ex {s : List Cell} : ∀ (n : Nat) (c : Cell), (c.y * 10 + c.x).toNat < n → frG s c = true → ∃ r, rootG s r ∧ Rch (frG s) r c
  | 0, _, h, _ => absurd h (Nat.not_lt_zero _)
  | n + 1, c, hn, hc => by
    by_cases hp : ∃ p, befB p c = true ∧ frG s p = true ∧ Rch (frG s) p c
    · obtain ⟨p, h1, h2, h3⟩ := hp
      have g1 := frG_iff.1 h2
      have g2 := frG_iff.1 hc
      simp only [befB, Bool.or_eq_true, Bool.and_eq_true, decide_eq_true_eq] at h1
      obtain ⟨r, hr, hk⟩ := root_ex n p (by omega) h2
      exact ⟨r, hr, hk.trans h3⟩
    · exact ⟨c, ⟨hc, fun p h1 h2 h3 => hp ⟨p, h1, h2, h3⟩⟩, .base⟩
theorem all_out {s : List Cell} (h : isShape s = true) (hz : holesN s = 0) {c : Cell} (hc : frG s c = true) : Rch (frG s) ⟨0, 0⟩ c := by
  obtain ⟨r, hr, hk⟩ := root_ex _ c (Nat.lt_succ_self _) hc
  rcases (root_iff h).1 hr with rfl | ⟨p, hp, _⟩
  · exact hk
  · exact absurd hp (no_root h hz p)
theorem hs_off {s : List Cell} {x y : Int} (h : ¬ (⟨x, y⟩ : Cell) ∈ s) : hs s x y = false := by
  rw [Bool.eq_false_iff]
  exact fun hh => h (hs_iff.1 hh)
theorem nbr_stepW (b : Cell) {d : Nat} (hd : d < 4) : ∃ e, e < 4 ∧ (⟨(nbr b d).x - 1, (nbr b d).y - 1⟩ : Cell) = stepC ⟨b.x - 1, b.y - 1⟩ e := by
  have h4 : d = 0 ∨ d = 1 ∨ d = 2 ∨ d = 3 := by omega
  obtain ⟨x, y⟩ := b
  rcases h4 with rfl | rfl | rfl | rfl
  · exact ⟨0, by decide, by simp only [nbr, stepC, Cell.mk.injEq, and_true]; omega⟩
  · exact ⟨1, by decide, by simp only [nbr, stepC, Cell.mk.injEq, true_and]; omega⟩
  · exact ⟨2, by decide, rfl⟩
  · exact ⟨3, by decide, rfl⟩
theorem rch_fre {s : List Cell} {c : Cell} (h : Rch (frG s) ⟨0, 0⟩ c) : Fre s ⟨c.x - 1, c.y - 1⟩ := by
  induction h with
  | base => exact .far (by decide)
  | @step b c _ hn hf ih =>
    obtain ⟨d, hd, rfl⟩ := hn
    obtain ⟨e, he, hq⟩ := nbr_stepW b hd
    have h1 : hs s (stepC ⟨b.x - 1, b.y - 1⟩ e).x (stepC ⟨b.x - 1, b.y - 1⟩ e).y = false := by
      rw [← hq]
      exact hs_off (frG_iff.1 hf).2.2
    rw [hq]
    exact .step ih he h1
theorem fre_row {s : List Cell} (hon : ∀ c ∈ s, On c) {y : Int} (hy : y < 0 ∨ 7 < y) : ∀ n : Nat, Fre s ⟨-1 + (n : Int), y⟩
  | 0 => .far (show -1 + ((0 : Nat) : Int) < 0 by omega)
  | n + 1 => by
    have ih := fre_row hon hy n
    have e : (⟨-1 + ((n + 1 : Nat) : Int), y⟩ : Cell) = stepC ⟨-1 + (n : Int), y⟩ 0 := by simp only [stepC, Cell.mk.injEq, and_true]; omega
    rw [e]
    exact .step ih (by decide) (hs_off fun hm => by have h3 : 0 ≤ y ∧ y ≤ 7 := (hon _ hm).2; omega)
theorem fre_col {s : List Cell} (hon : ∀ c ∈ s, On c) {x : Int} (hx : 7 < x) : ∀ n : Nat, Fre s ⟨x, -1 + (n : Int)⟩
  | 0 => by
    have := fre_row hon (y := -1) (.inl (by decide)) (x + 1).toNat
    rwa [show -1 + (((x + 1).toNat : Nat) : Int) = x by omega] at this
  | n + 1 => by
    have ih := fre_col hon hx n
    have e : (⟨x, -1 + ((n + 1 : Nat) : Int)⟩ : Cell) = stepC ⟨x, -1 + (n : Int)⟩ 1 := by simp only [stepC, Cell.mk.injEq, true_and]; omega
    rw [e]
    exact .step ih (by decide) (hs_off fun hm => by have h3 : 0 ≤ x ∧ x ≤ 7 := (hon _ hm).1; omega)
/-- what is free hangs together with the far left -/
theorem all_fre {s : List Cell} (h : isShape s = true) (hz : holesN s = 0) (c : Cell) (hc : hs s c.x c.y = false) : Fre s c := by
  have hon : ∀ c ∈ s, On c := fun c hc => shp_on h hc
  obtain ⟨x, y⟩ := c
  by_cases h1 : x < 0
  · exact .far h1
  · by_cases h2 : y < 0 ∨ 7 < y
    · have := fre_row hon h2 (x + 1).toNat
      rwa [show -1 + (((x + 1).toNat : Nat) : Int) = x by omega] at this
    · by_cases h3 : 7 < x
      · have := fre_col hon h3 (y + 1).toNat
        rwa [show -1 + (((y + 1).toNat : Nat) : Int) = y by omega] at this
      · have hg : frG s ⟨x + 1, y + 1⟩ = true := frG_iff.2 ⟨by simp only; omega, by simp only; omega, fun hm => by
          unfold shpAt at hm
          simp only [Int.add_sub_cancel] at hm
          rw [hs_iff.2 hm] at hc
          cases hc⟩
        have := rch_fre (all_out h hz hg)
        simp only [Int.add_sub_cancel] at this
        exact this
end Go.Proofs.YtghpkfihdcjlaaaGreatDoor

namespace Go.Proofs.YtghpkfihdcjlaaaGreatDoor
open Go.RowKit

theorem nb_one (c b : Cell) : bI (decide (nbC c 0 = b)) + bI (decide (nbC c 1 = b)) + bI (decide (nbC c 2 = b)) + bI (decide (nbC c 3 = b)) = bI (sideB c b) := by
  have hn : ∀ e f, e < 4 → f < 4 → nbC c e = nbC c f → e = f := fun e f he hf h => by
    have h4 : e = 0 ∨ e = 1 ∨ e = 2 ∨ e = 3 := by omega
    have h5 : f = 0 ∨ f = 1 ∨ f = 2 ∨ f = 3 := by omega
    rcases h4 with rfl | rfl | rfl | rfl <;> rcases h5 with rfl | rfl | rfl | rfl <;> simp only [nbC, Cell.mk.injEq] at h <;> omega
  have hs : ∀ e, e < 4 → sideB c (nbC c e) = true := fun e he => by
    have h4 : e = 0 ∨ e = 1 ∨ e = 2 ∨ e = 3 := by omega
    unfold sideB
    rw [decide_eq_true_iff]
    rcases h4 with rfl | rfl | rfl | rfl <;> simp only [nbC]
    · rw [show c.y - (c.y - 1) = 1 by omega, Int.sub_self]; rfl
    · rw [show c.x - (c.x + 1) = -1 by omega, Int.sub_self]; rfl
    · rw [show c.y - (c.y + 1) = -1 by omega, Int.sub_self]; rfl
    · rw [show c.x - (c.x - 1) = 1 by omega, Int.sub_self]; rfl
  by_cases hb : ∃ e, e < 4 ∧ nbC c e = b
  · obtain ⟨e, he, rfl⟩ := hb
    rw [hs e he]
    have k : ∀ f, f < 4 → bI (decide (nbC c f = nbC c e)) = if f = e then 1 else 0 := fun f hf => by
      by_cases h : f = e
      · subst h; simp [bI]
      · have : ¬ nbC c f = nbC c e := fun q => h (hn f e hf he q)
        simp [bI, h, this]
    rw [k 0 (by decide), k 1 (by decide), k 2 (by decide), k 3 (by decide)]
    have h4 : e = 0 ∨ e = 1 ∨ e = 2 ∨ e = 3 := by omega
    rcases h4 with rfl | rfl | rfl | rfl <;> rfl
  · have k : ∀ f, f < 4 → bI (decide (nbC c f = b)) = 0 := fun f hf => by
      have : ¬ nbC c f = b := fun q => hb ⟨f, hf, q⟩
      simp [bI, this]
    rw [k 0 (by decide), k 1 (by decide), k 2 (by decide), k 3 (by decide)]
    have : sideB c b = false := by
      rw [Bool.eq_false_iff]
      intro h
      obtain ⟨d, hd, rfl⟩ := step_sideW h
      have h4 : d = 0 ∨ d = 1 ∨ d = 2 ∨ d = 3 := by omega
      rcases h4 with rfl | rfl | rfl | rfl
      · exact hb ⟨1, by decide, rfl⟩
      · exact hb ⟨2, by decide, rfl⟩
      · exact hb ⟨3, by decide, rfl⟩
      · exact hb ⟨0, by decide, rfl⟩
    rw [this]
    rfl
theorem mem_one {q b : Cell} {l : List Cell} (h : ¬ b ∈ l) : bI (decide (q ∈ b :: l)) = bI (decide (q = b)) + bI (decide (q ∈ l)) := by
  by_cases h1 : q = b
  · subst h1
    simp [bI, h]
  · simp [bI, h1]
theorem nb_count (c : Cell) : ∀ {l : List Cell}, l.Nodup → bI (decide (nbC c 0 ∈ l)) + bI (decide (nbC c 1 ∈ l)) + bI (decide (nbC c 2 ∈ l)) + bI (decide (nbC c 3 ∈ l)) = (l.countP (sideB c) : Int)
  | [], _ => rfl
  | b :: l, h => by
    rw [List.nodup_cons] at h
    have ih := nb_count c h.2
    have h1 := nb_one c b
    rw [mem_one h.1, mem_one h.1, mem_one h.1, mem_one h.1, List.countP_cons]
    have h2 : bI (sideB c b) = ((if sideB c b = true then 1 else 0 : Nat) : Int) := by cases sideB c b <;> rfl
    omega
/-- the sides of a cell that are boundary sides -/
theorem sidesO_is {s : List Cell} (hn : s.Nodup) (c : Cell) : sidesO s c = 4 - (s.countP (sideB c) : Int) := by
  have h1 := nb_count c hn
  have k : ∀ q : Cell, bI (!hs s q.x q.y) = 1 - bI (decide (q ∈ s)) := fun q => by
    have : hs s q.x q.y = decide (q ∈ s) := rfl
    rw [this]
    cases decide (q ∈ s) <;> rfl
  rw [sidesO, k, k, k, k]
  omega
theorem sumL_add {f g : Cell → Int} : ∀ l : List Cell, (l.map fun c => f c + g c).sum = (l.map f).sum + (l.map g).sum
  | [] => rfl
  | c :: l => by
    have ih := sumL_add (f := f) (g := g) l
    rw [List.map_cons, List.map_cons, List.map_cons, List.sum_cons, List.sum_cons, List.sum_cons, ih]
    omega
theorem sumL_bI {p : Cell → Bool} : ∀ l : List Cell, (l.map fun c => bI (p c)).sum = (l.countP p : Int)
  | [] => rfl
  | c :: l => by
    rw [List.map_cons, List.sum_cons, sumL_bI l, List.countP_cons]
    cases p c
    · simp [bI]
    · simp [bI]
      omega
theorem sideB_self (c : Cell) : sideB c c = false := by
  unfold sideB
  rw [Int.sub_self, Int.sub_self]
  rfl
theorem innRow_is {s : List Cell} {i : Nat} {c : Cell} (hc : s[i]? = some c) : ∀ k, k ≤ s.length → innRow s i k = degTo s c k
  | 0, _ => by simp [innRow, degTo]
  | k + 1, hk => by
    have ih := innRow_is hc k (by omega)
    obtain ⟨d, hd⟩ : ∃ d, s[k]? = some d := ⟨s[k], List.getElem?_eq_getElem hk⟩
    rw [innRow, ih, degTo_succ hd, sdB_at hc hd]
/-- every inner side is counted from both its cells -/
theorem deg_sum {s : List Cell} : ∀ n, n ≤ s.length → ((s.take n).map fun c => ((s.take n).countP (sideB c) : Int)).sum = 2 * (innTo s n : Int)
  | 0, _ => by simp [innTo]
  | n + 1, hn => by
    have ih := deg_sum (s := s) n (by omega)
    obtain ⟨d, hd⟩ : ∃ d, s[n]? = some d := ⟨s[n], List.getElem?_eq_getElem hn⟩
    have ht : s.take (n + 1) = s.take n ++ [d] := by
      obtain ⟨h1, h2⟩ := List.getElem?_eq_some_iff.1 hd
      rw [List.take_succ_eq_append_getElem h1, h2]
    have hr : innRow s n n = (s.take n).countP (sideB d) := innRow_is hd n (by omega)
    have k : ∀ c, ((s.take n ++ [d]).countP (sideB c) : Int) = ((s.take n).countP (sideB c) : Int) + bI (sideB c d) := fun c => by
      rw [List.countP_append, List.countP_singleton]
      cases sideB c d <;> simp [bI]
    rw [ht, List.map_append, List.sum_append, sumL_congr (g := fun c => ((s.take n).countP (sideB c) : Int) + bI (sideB d c)) (fun c _ => by rw [k, sideB_comm c d]), sumL_add, ih, show ((s.take n).map fun c => bI (sideB d c)).sum = ((s.take n).countP (sideB d) : Int) from sumL_bI _]
    simp only [List.map_cons, List.map_nil, List.sum_cons, List.sum_nil]
    rw [k, sideB_self, innTo, hr]
    generalize (s.take n).countP (sideB d) = q at *
    simp only [bI, Bool.false_eq_true, if_false]
    omega
theorem sumL_sub4 {f : Cell → Int} : ∀ l : List Cell, (l.map fun c => 4 - f c).sum = 4 * (l.length : Int) - (l.map f).sum
  | [] => rfl
  | c :: l => by
    have ih := sumL_sub4 (f := f) l
    rw [List.map_cons, List.map_cons, List.sum_cons, List.sum_cons, ih, List.length_cons]
    omega
theorem sides_per {s : List Cell} (hn : s.Nodup) : (s.map (sidesO s)).sum = perZ s := by
  rw [sumL_congr (g := fun c => 4 - (s.countP (sideB c) : Int)) fun c _ => sidesO_is hn c, sumL_sub4]
  have := deg_sum (s := s) s.length (Nat.le_refl _)
  rw [List.take_length] at this
  rw [this]
  rfl
/-- the border word is as long as the perimeter -/
theorem bord_len {s : List Cell} (h : bordOk s = true) : ((bordW s).length : Int) = perZ s := by
  have h' := h
  unfold bordOk at h'
  rw [Bool.and_eq_true, Bool.and_eq_true] at h'
  obtain ⟨⟨h1, h2⟩, h3⟩ := h'
  unfold connS at h1
  rw [Bool.and_eq_true] at h1
  obtain ⟨hsh, hh⟩ := h1
  have hz : holesN s = 0 := by
    have := of_decide_eq_true h2
    unfold holesZ at this
    rw [if_pos hsh] at this
    omega
  have hl := shp_len hsh
  obtain ⟨a, ha⟩ : ∃ a, s[0]? = some a := ⟨s[0], List.getElem?_eq_getElem (by omega)⟩
  have hp : pinS s = false := by simpa using h3
  obtain ⟨K, hK⟩ := bord_ex hsh hp ha
  rw [bordW_yes h ha hK, wrd_len, way_len hK ha hh (all_fre hsh hz) (shp_nodup hsh), sides_per (shp_nodup hsh)]
end Go.Proofs.YtghpkfihdcjlaaaGreatDoor

namespace Go.Proofs.YtghpkfihdcjlaaaGreatDoor
open Go.RowKit

theorem sumL_comm {F : Cell → Cell → Int} : ∀ (l m : List Cell), (l.map fun c => (m.map fun b => F c b).sum).sum = (m.map fun b => (l.map fun c => F c b).sum).sum
  | [], m => by
    rw [List.map_nil, List.sum_nil]
    exact (sumL_zero fun _ _ => rfl).symm
  | c :: l, m => by
    rw [List.map_cons, List.sum_cons, sumL_comm l m, ← sumL_add]
    refine sumL_congr fun b _ => ?_
    rw [List.map_cons, List.sum_cons]
theorem sumL_pick {g : Cell → Int} {q : Cell} : ∀ {l : List Cell}, l.Nodup → (l.map fun c => bI (decide (c = q)) * g c).sum = bI (decide (q ∈ l)) * g q
  | [], _ => by simp [bI]
  | c :: l, h => by
    rw [List.nodup_cons] at h
    rw [List.map_cons, List.sum_cons, sumL_pick h.2]
    by_cases e : c = q
    · subst e
      simp [bI, h.1]
    · have e2 : ¬ q = c := fun k => e k.symm
      simp [bI, e, e2]
/-- from a cell to the one below and back -/
theorem top_bot {s : List Cell} (hn : s.Nodup) : (s.map fun c => bI (decide (nbC c 0 ∈ s)) * c.y).sum = (s.map fun c => bI (decide (nbC c 2 ∈ s)) * (c.y + 1)).sum := by
  have h1 : ∀ c, bI (decide (nbC c 0 ∈ s)) * c.y = (s.map fun b => bI (decide (b = nbC c 0)) * c.y).sum := fun c => (sumL_pick (g := fun _ => c.y) hn).symm
  have h2 : ∀ b : Cell, bI (decide (nbC b 2 ∈ s)) * (b.y + 1) = (s.map fun c => bI (decide (c = nbC b 2)) * c.y).sum := fun b => (sumL_pick (g := fun c => c.y) hn).symm
  rw [sumL_congr (fun c _ => h1 c), sumL_comm, sumL_congr (fun b _ => h2 b)]
  refine sumL_congr fun b _ => sumL_congr fun c _ => ?_
  have : decide (b = nbC c 0) = decide (c = nbC b 2) := by
    rw [Bool.eq_iff_iff]
    obtain ⟨bx, by_⟩ := b
    obtain ⟨cx, cy⟩ := c
    simp only [nbC, decide_eq_true_eq, Cell.mk.injEq]
    omega
  rw [this]
/-- what a step adds to the area -/
def areaS (p : Cell) (d : Nat) : Int := p.y * (bI (decide (d = 2)) - bI (decide (d = 0)))
theorem oneC_rgt (c p : Cell) {d : Nat} (hd : d < 4) : oneC c d p d = bI (decide (c = rgt p d)) := by
  have h4 : d = 0 ∨ d = 1 ∨ d = 2 ∨ d = 3 := by omega
  unfold oneC
  rw [decide_eq_true rfl, Bool.true_and]
  congr 1
  rw [Bool.eq_iff_iff]
  obtain ⟨cx, cy⟩ := c
  obtain ⟨px, py⟩ := p
  rcases h4 with rfl | rfl | rfl | rfl <;> simp only [corC, rgt, decide_eq_true_eq, Cell.mk.injEq] <;> omega
theorem oneC_off (c p : Cell) {d e : Nat} (h : ¬ d = e) : oneC c e p d = 0 := by
  unfold oneC
  rw [decide_eq_false h, Bool.false_and]
  rfl
theorem area_step {s : List Cell} (hn : s.Nodup) {p : Cell} {d : Nat} (hd : d < 4) (he : edge s p d = true) : (s.map fun c => (c.y + 1) * oneC c 2 p d - c.y * oneC c 0 p d).sum = areaS p d := by
  have hm := rgt_in he
  have h4 : d = 0 ∨ d = 1 ∨ d = 2 ∨ d = 3 := by omega
  rcases h4 with rfl | rfl | rfl | rfl
  · rw [sumL_congr (g := fun c => bI (decide (c = rgt p 0)) * -c.y) fun c _ => by rw [oneC_rgt c p (by decide), oneC_off c p (by decide : ¬ 0 = 2)]; rw [Int.mul_zero, Int.zero_sub, Int.mul_neg, Int.mul_comm], sumL_pick (g := fun c => -c.y) hn, decide_eq_true hm]
    simp [bI, areaS, rgt]
  · rw [sumL_zero fun c _ => by rw [oneC_off c p (by decide : ¬ 1 = 2), oneC_off c p (by decide : ¬ 1 = 0)]; simp]
    simp [bI, areaS]
  · rw [sumL_congr (g := fun c => bI (decide (c = rgt p 2)) * (c.y + 1)) fun c _ => by rw [oneC_rgt c p (by decide), oneC_off c p (by decide : ¬ 2 = 0)]; rw [Int.mul_zero, Int.sub_zero, Int.mul_comm], sumL_pick (g := fun c => c.y + 1) hn, decide_eq_true hm]
    simp [bI, areaS, rgt]
  · rw [sumL_zero fun c _ => by rw [oneC_off c p (by decide : ¬ 3 = 2), oneC_off c p (by decide : ¬ 3 = 0)]; simp]
    simp [bI, areaS]
theorem sumW_mul {F : Cell → Nat → Int} {s : List Cell} {a : Cell} (k : Int) : ∀ n, sumW (fun p d => k * F p d) s a n = k * sumW F s a n
  | 0 => by rw [sumW, sumW, Int.mul_zero]
  | n + 1 => by rw [sumW, sumW, sumW_mul k n, Int.mul_add]
theorem sumL_one' : ∀ l : List Cell, (l.map fun _ => (1 : Int)).sum = (l.length : Int)
  | [] => rfl
  | c :: l => by
    rw [List.map_cons, List.sum_cons, sumL_one' l, List.length_cons]
    omega
theorem sumL_sub {f g : Cell → Int} : ∀ l : List Cell, (l.map fun c => f c - g c).sum = (l.map f).sum - (l.map g).sum
  | [] => rfl
  | c :: l => by
    have ih := sumL_sub (f := f) (g := g) l
    rw [List.map_cons, List.map_cons, List.map_cons, List.sum_cons, List.sum_cons, List.sum_cons, ih]
    omega
/-- the way goes around as much area as there are cells -/
theorem way_area {s : List Cell} {a : Cell} {K : Nat} (h : BordIs s a K) (ha : s[0]? = some a) (hh : hangs s = true) (hf : ∀ c, hs s c.x c.y = false → Fre s c) (hn : s.Nodup) : sumW areaS s a K = (s.length : Int) := by
  have h1 : sumW areaS s a K = (s.map fun c => sumW (fun p d => (c.y + 1) * oneC c 2 p d - c.y * oneC c 0 p d) s a K).sum := by
    rw [sumW_sumL (F := fun c p d => (c.y + 1) * oneC c 2 p d - c.y * oneC c 0 p d)]
    exact sumW_congr (fun i => (area_step hn (outD_lt s _) (h.bord.edg i)).symm) K
  have k : ∀ q : Cell, bI (!hs s q.x q.y) = 1 - bI (decide (q ∈ s)) := fun q => by
    have : hs s q.x q.y = decide (q ∈ s) := rfl
    rw [this]
    cases decide (q ∈ s) <;> rfl
  have h2 : ∀ c ∈ s, sumW (fun p d => (c.y + 1) * oneC c 2 p d - c.y * oneC c 0 p d) s a K = 1 + (bI (decide (nbC c 0 ∈ s)) * c.y - bI (decide (nbC c 2 ∈ s)) * (c.y + 1)) := fun c hc => by
    rw [← sumW_sub, sumW_mul, sumW_mul, side_once h ha hh hf hc (by decide), side_once h ha hh hf hc (by decide), k, k]
    rw [Int.mul_sub, Int.mul_sub, Int.mul_one, Int.mul_one, Int.mul_comm (c.y + 1), Int.mul_comm c.y]
    omega
  rw [h1, sumL_congr h2, sumL_add, sumL_one', sumL_sub, top_bot hn]
  omega
/-- the same, the heights being reckoned from the way's beginning -/
theorem word_area {s : List Cell} {a : Cell} {K : Nat} (h : BordIs s a K) (ha : s[0]? = some a) (hh : hangs s = true) (hf : ∀ c, hs s c.x c.y = false → Fre s c) (hn : s.Nodup) : sumW (fun p d => (p.y - a.y) * (bI (decide (d = 2)) - bI (decide (d = 0)))) s a K = (s.length : Int) := by
  have h1 := sumW_tel (s := s) (a := a) (f := fun q => -q.x) K
  rw [h.home] at h1
  have h2 : sumW (fun _ d => bI (decide (d = 2)) - bI (decide (d = 0))) s a K = sumW (fun p d => -(stepC p d).x - -p.x) s a K := sumW_congr (fun i => by
    have hd := outD_lt s (wlk s a i)
    generalize outD s (wlk s a i) = d at *
    generalize wlk s a i = p at *
    have h4 : d = 0 ∨ d = 1 ∨ d = 2 ∨ d = 3 := by omega
    rcases h4 with rfl | rfl | rfl | rfl <;> simp [stepC, bI] <;> omega) K
  have h3 : sumW (fun p d => (p.y - a.y) * (bI (decide (d = 2)) - bI (decide (d = 0)))) s a K = sumW (fun p d => areaS p d - a.y * (bI (decide (d = 2)) - bI (decide (d = 0)))) s a K := sumW_congr (fun i => by
    unfold areaS
    rw [Int.sub_mul]) K
  have h4 := sumW_sub (s := s) (a := a) (F := areaS) (G := fun _ d => a.y * (bI (decide (d = 2)) - bI (decide (d = 0)))) K
  have h5 := sumW_mul (F := fun _ d => bI (decide (d = 2)) - bI (decide (d = 0))) (s := s) (a := a) a.y K
  rw [h3, ← h4, h5, way_area h ha hh hf hn, h2, h1]
  simp
end Go.Proofs.YtghpkfihdcjlaaaGreatDoor

namespace Go.Proofs.YtghpkfihdcjlaaaGreatDoor
open Go.RowKit

/-- the sector of a vector -/
def sec (x y : Int) : Int := if y = 0 then (if 0 < x then 0 else 4) else if 0 < y then (if 0 < x then 1 else if x = 0 then 2 else 3) else (if x < 0 then 5 else if x = 0 then 6 else 7)
/-- from one sector to another, the short way -/
def dl (s t : Int) : Int := (t - s + 4) % 8 - 4
theorem sec_in (x y : Int) : 0 ≤ sec x y ∧ sec x y ≤ 7 := by
  unfold sec
  repeat' split
  all_goals omega
/-- a unit step changes the sector by one at most -/
def StepU (a b c d : Int) : Prop := (c = a ∧ (d = b + 1 ∨ d = b - 1)) ∨ (d = b ∧ (c = a + 1 ∨ c = a - 1))
theorem dl_unit {a b c d : Int} (h : StepU a b c d) (h0 : ¬ (a = 0 ∧ b = 0)) (h1 : ¬ (c = 0 ∧ d = 0)) : -1 ≤ dl (sec a b) (sec c d) ∧ dl (sec a b) (sec c d) ≤ 1 := by
  unfold StepU at h
  unfold sec dl
  repeat' split
  all_goals omega
theorem dl_quad {p q r t : Int} (h1 : -1 ≤ dl p q ∧ dl p q ≤ 1) (h2 : -1 ≤ dl q t ∧ dl q t ≤ 1) (h3 : -1 ≤ dl p r ∧ dl p r ≤ 1) (h4 : -1 ≤ dl r t ∧ dl r t ≤ 1) : dl p q + dl q t = dl p r + dl r t := by
  unfold dl at *
  omega
/-- within a half plane no sector is passed over -/
theorem dl_low {s t : Int} (hs : 0 ≤ s ∧ s ≤ 3) (ht : 0 ≤ t ∧ t ≤ 3) : dl s t = t - s := by unfold dl; omega
theorem dl_high {s t : Int} (hs : 4 ≤ s ∧ s ≤ 7) (ht : 4 ≤ t ∧ t ≤ 7) : dl s t = t - s := by unfold dl; omega
section
variable (P : Nat → Cell)
/-- the sector from one corner to another -/
def sij (i j : Nat) : Int := sec ((P j).x - (P i).x) ((P j).y - (P i).y)
/-- along the first row; down a column -/
def rowS : Nat → Int
  | 0 => 0
  | j + 1 => rowS j + if j = 0 then 0 else dl (sij P 0 j) (sij P 0 (j + 1))
def colS (j : Nat) : Nat → Int
  | 0 => 0
  | i + 1 => colS j i + dl (sij P i j) (sij P (i + 1) j)
variable {P}
structure Steps (P : Nat → Cell) (K : Nat) : Prop where
  unit : ∀ i, StepU (P i).x (P i).y (P (i + 1)).x (P (i + 1)).y
  apart : ∀ i j, i < j → j ≤ K → ¬ (i = 0 ∧ j = K) → P i ≠ P j
theorem ne_zero {i j : Nat} (h : P i ≠ P j) : ¬ ((P j).x - (P i).x = 0 ∧ (P j).y - (P i).y = 0) := fun hz => h (by
  have h1 : (P i).x = (P j).x := by omega
  have h2 : (P i).y = (P j).y := by omega
  cases hp : P i
  cases hq : P j
  rw [hp, hq] at h1 h2
  simp only at h1 h2
  rw [h1, h2])
theorem Steps.right {K : Nat} (h : Steps P K) {i j : Nat} (hij : i < j) (hj : j + 1 ≤ K) (h0 : ¬ (i = 0 ∧ j + 1 = K)) : -1 ≤ dl (sij P i j) (sij P i (j + 1)) ∧ dl (sij P i j) (sij P i (j + 1)) ≤ 1 := by
  refine dl_unit ?_ (ne_zero (h.apart i j hij (by omega) (by omega))) (ne_zero (h.apart i (j + 1) (by omega) hj h0))
  have := h.unit j
  unfold StepU at *
  omega
theorem Steps.down {K : Nat} (h : Steps P K) {i j : Nat} (hij : i + 1 < j) (hj : j ≤ K) (h0 : ¬ (i = 0 ∧ j = K)) : -1 ≤ dl (sij P i j) (sij P (i + 1) j) ∧ dl (sij P i j) (sij P (i + 1) j) ≤ 1 := by
  refine dl_unit ?_ (ne_zero (h.apart i j (by omega) hj h0)) (ne_zero (h.apart (i + 1) j hij hj (by omega)))
  have := h.unit i
  unfold StepU at *
  omega
theorem Steps.quad {K : Nat} (h : Steps P K) {i j : Nat} (hij : i + 1 < j) (hj : j + 1 ≤ K) (h0 : ¬ (i = 0 ∧ j + 1 = K)) :
    dl (sij P i j) (sij P i (j + 1)) + dl (sij P i (j + 1)) (sij P (i + 1) (j + 1)) = dl (sij P i j) (sij P (i + 1) j) + dl (sij P (i + 1) j) (sij P (i + 1) (j + 1)) :=
  dl_quad (h.right (by omega) hj h0) (h.down (by omega) hj h0) (h.down hij (by omega) (by omega)) (h.right hij hj (by omega))
/-- the lift does not hang on the way -/
theorem Steps.lift {K : Nat} (h : Steps P K) {j : Nat} (h1 : 1 ≤ j) (hj : j + 1 < K) : ∀ i, i < j → rowS P j + colS P j i + dl (sij P i j) (sij P i (j + 1)) = rowS P (j + 1) + colS P (j + 1) i
  | 0, _ => by
    rw [colS, colS, rowS, if_neg (by omega)]
    omega
  | i + 1, hi => by
    have ih := h.lift h1 hj i (by omega)
    have hq := h.quad (i := i) (j := j) hi (by omega) (by omega)
    rw [colS, colS]
    omega
/-- the last column, from its second place on -/
theorem Steps.lastC {K : Nat} (h : Steps P (K + 1)) : ∀ i, i + 1 < K → colS P K (i + 1) + dl (sij P (i + 1) K) (sij P (i + 1) (K + 1)) = colS P K 1 + dl (sij P 1 K) (sij P 1 (K + 1)) + (colS P (K + 1) (i + 1) - colS P (K + 1) 1)
  | 0, _ => by
    simp only [Nat.zero_add]
    omega
  | i + 1, hi => by
    have ih := h.lastC i (by omega)
    have hq := h.quad (i := i + 1) (j := K) hi (by omega) (by omega)
    have e1 : colS P K (i + 1 + 1) = colS P K (i + 1) + dl (sij P (i + 1) K) (sij P (i + 1 + 1) K) := rfl
    have e2 : colS P (K + 1) (i + 1 + 1) = colS P (K + 1) (i + 1) + dl (sij P (i + 1) (K + 1)) (sij P (i + 1 + 1) (K + 1)) := rfl
    rw [e1, e2]
    omega
/-- twice a turn -/
def turn2 (P : Nat → Cell) (n : Nat) : Int := dl (sij P n (n + 1)) (sij P n (n + 1 + 1)) + dl (sij P n (n + 1 + 1)) (sij P (n + 1) (n + 1 + 1))
def turnWk (P : Nat → Cell) : Nat → Int
  | 0 => 0
  | n + 1 => turnWk P n + turn2 P n
theorem Steps.hyp {K : Nat} (h : Steps P K) : ∀ n, n + 1 < K → turnWk P n = rowS P (n + 1) + colS P (n + 1) n
  | 0, _ => by simp [turnWk, rowS, colS]
  | n + 1, hn => by
    have ih := h.hyp n (by omega)
    have hl := h.lift (j := n + 1) (by omega) hn n (by omega)
    have e1 : colS P (n + 1 + 1) (n + 1) = colS P (n + 1 + 1) n + dl (sij P n (n + 1 + 1)) (sij P (n + 1) (n + 1 + 1)) := rfl
    rw [turnWk, turn2, e1]
    omega
theorem row_low {K : Nat} (h : ∀ j, 1 ≤ j → j ≤ K → 0 ≤ sij P 0 j ∧ sij P 0 j ≤ 3) : ∀ m, m + 1 ≤ K → rowS P (m + 1) = sij P 0 (m + 1) - sij P 0 1
  | 0, _ => by
    have : rowS P (0 + 1) = 0 := by simp [rowS]
    rw [this]
    simp only [Nat.zero_add]
    omega
  | m + 1, hm => by
    have ih := row_low h m (by omega)
    have e : rowS P (m + 1 + 1) = rowS P (m + 1) + dl (sij P 0 (m + 1)) (sij P 0 (m + 1 + 1)) := by rw [rowS, if_neg (by omega)]
    rw [e, dl_low (h _ (by omega) (by omega)) (h _ (by omega) hm)]
    omega
theorem col_high {j : Nat} (h : ∀ i, 1 ≤ i → i < j → 4 ≤ sij P i j ∧ sij P i j ≤ 7) : ∀ m, m + 1 < j → colS P j (m + 1) - colS P j 1 = sij P (m + 1) j - sij P 1 j
  | 0, _ => by
    simp only [Nat.zero_add]
    omega
  | m + 1, hm => by
    have ih := col_high h m (by omega)
    have e : colS P j (m + 1 + 1) = colS P j (m + 1) + dl (sij P (m + 1) j) (sij P (m + 1 + 1) j) := rfl
    rw [e, dl_high (h _ (by omega) (by omega)) (h _ (by omega) hm)]
    omega
/-- the turns of a closed way from an extreme corner, but the last -/
theorem turns_six {M : Nat} (hM : 2 ≤ M) (h : Steps P (M + 1)) (hlo : ∀ j, 1 ≤ j → j ≤ M → 0 ≤ sij P 0 j ∧ sij P 0 j ≤ 3) (hhi : ∀ i, 1 ≤ i → i < M + 1 → 4 ≤ sij P i (M + 1) ∧ sij P i (M + 1) ≤ 7)
    (a1 : sij P 0 1 = 0) (a2 : sij P 0 M = 2) (a3 : sij P 1 M = 3) (a4 : sij P 1 (M + 1) = 4) (a5 : sij P M (M + 1) = 6) : turnWk P M = 6 := by
  obtain ⟨n, rfl⟩ : ∃ n, M = n + 2 := ⟨M - 2, by omega⟩
  have h1 := h.hyp (n + 1) (by omega)
  have h2 := h.lastC n (by omega)
  have h3 := row_low hlo (n + 1) (by omega)
  have h4 := col_high hhi (n + 1) (by omega)
  have e1 : colS P (n + 2 + 1) (n + 1 + 1) = colS P (n + 2 + 1) (n + 1) + dl (sij P (n + 1) (n + 2 + 1)) (sij P (n + 1 + 1) (n + 2 + 1)) := rfl
  have e2 : colS P (n + 2) 1 = dl (sij P 0 (n + 2)) (sij P 1 (n + 2)) := by
    rw [colS, colS, Nat.zero_add, Int.zero_add]
  have e3 : dl 2 3 = 1 := rfl
  have e4 : dl 3 4 = 1 := rfl
  have e5 : turnWk P (n + 2) = turnWk P (n + 1) + (dl (sij P (n + 1) (n + 2)) (sij P (n + 1) (n + 2 + 1)) + dl (sij P (n + 1) (n + 2 + 1)) (sij P (n + 2) (n + 2 + 1))) := rfl
  rw [a2, a3, e3] at e2
  rw [a3, a4, e4] at h2
  have z : n + 1 + 1 = n + 2 := rfl
  rw [z] at h1 h3 h4 e1
  rw [a1, a2] at h3
  rw [a4, a5] at h4
  rw [a5] at e1 e5
  omega
end
end Go.Proofs.YtghpkfihdcjlaaaGreatDoor

namespace Go.Proofs.YtghpkfihdcjlaaaGreatDoor
open Go.RowKit

theorem shp_least {s : List Cell} (h : isShape s = true) {a : Cell} (ha : s[0]? = some a) : ∀ c ∈ s, a.y < c.y ∨ (a.y = c.y ∧ a.x ≤ c.x) := by
  intro c hc
  obtain ⟨j, hj⟩ := List.getElem?_of_mem hc
  cases j with
  | zero =>
    rw [ha] at hj
    cases hj
    exact .inr ⟨rfl, Int.le_refl _⟩
  | succ j =>
    have := shp_pair h ha (j + 1) (by omega) hj
    unfold befB at this
    simp at this
    omega
/-- a turn from one direction to the next -/
def trn (d e : Nat) : Int := if e = (d + 1) % 4 then 1 else if e = (d + 3) % 4 then -1 else 0
section
variable {s : List Cell} {a : Cell} {K : Nat}
theorem wlk_steps (h : BordIs s a K) : Steps (wlk s a) K := ⟨fun i => by
  have hd := outD_lt s (wlk s a i)
  have e : wlk s a (i + 1) = stepC (wlk s a i) (outD s (wlk s a i)) := rfl
  rw [e]
  generalize outD s (wlk s a i) = d at *
  generalize wlk s a i = p at *
  unfold StepU
  have h4 : d = 0 ∨ d = 1 ∨ d = 2 ∨ d = 3 := by omega
  rcases h4 with rfl | rfl | rfl | rfl
  · exact .inr ⟨rfl, .inl rfl⟩
  · exact .inl ⟨rfl, .inl rfl⟩
  · exact .inr ⟨rfl, .inr rfl⟩
  · exact .inl ⟨rfl, .inr rfl⟩, fun i j hij hj h0 => by
  by_cases hjK : j = K
  · subst hjK
    rw [h.home]
    exact h.away i (by omega) hij
  · exact h.bord.apart (N := K - 1) (fun k h1 h2 => h.away k h1 (by have := h.lo; omega)) i j hij (by omega)⟩
/-- a is the first corner from above and the left -/
theorem wlk_least (h : BordIs s a K) (hm : ∀ c ∈ s, a.y < c.y ∨ (a.y = c.y ∧ a.x ≤ c.x)) (i : Nat) : a.y < (wlk s a i).y ∨ (a.y = (wlk s a i).y ∧ a.x ≤ (wlk s a i).x) := by
  have he := h.bord.edg i
  have hd := outD_lt s (wlk s a i)
  generalize outD s (wlk s a i) = d at *
  generalize wlk s a i = p at *
  have h4 : d = 0 ∨ d = 1 ∨ d = 2 ∨ d = 3 := by omega
  rcases h4 with rfl | rfl | rfl | rfl <;> simp only [edge, Bool.and_eq_true] at he <;> (have := hm _ (hs_iff.1 he.1); simp only at this; omega)
/-- the way comes home from below -/
theorem wlk_last (h : BordIs s a (K + 1)) (hm : ∀ c ∈ s, a.y < c.y ∨ (a.y = c.y ∧ a.x ≤ c.x)) : wlk s a K = ⟨a.x, a.y + 1⟩ ∧ outD s (wlk s a K) = 3 := by
  have he := h.bord.edg K
  have hd := outD_lt s (wlk s a K)
  have hh : stepC (wlk s a K) (outD s (wlk s a K)) = a := h.home
  rw [← inE_eq hd, hh] at he
  have no : ∀ x y : Int, hs s x y = true → a.y < y ∨ (a.y = y ∧ a.x ≤ x) := fun x y hxy => hm _ (hs_iff.1 hxy)
  generalize outD s (wlk s a K) = d at *
  generalize wlk s a K = p at *
  have h4 : d = 0 ∨ d = 1 ∨ d = 2 ∨ d = 3 := by omega
  rcases h4 with rfl | rfl | rfl | rfl <;> simp only [inE, Bool.and_eq_true] at he
  · have := no _ _ he.1; omega
  · have := no _ _ he.1; omega
  · have := no _ _ he.1; omega
  · refine ⟨?_, rfl⟩
    obtain ⟨px, py⟩ := p
    rw [← hh]
    simp only [stepC, Cell.mk.injEq, true_and]
    omega
theorem turn2_is (h : BordIs s a K) (n : Nat) : turn2 (wlk s a) n = 2 * trn (outD s (wlk s a n)) (outD s (wlk s a (n + 1))) := by
  have hd := outD_lt s (wlk s a n)
  have ht := h.bord.turn n
  have hm : ∀ k, k % 4 < 4 := fun k => Nat.mod_lt _ (by decide)
  have he : outD s (wlk s a (n + 1)) = (outD s (wlk s a n) + 3) % 4 ∨ outD s (wlk s a (n + 1)) = (outD s (wlk s a n) + 4) % 4 ∨ outD s (wlk s a (n + 1)) = (outD s (wlk s a n) + 5) % 4 := by
    rcases ht with h1 | h1 | h1
    · exact .inl (outD_is h.bord.free (hm _) h1)
    · exact .inr (.inl (outD_is h.bord.free (hm _) h1))
    · exact .inr (.inr (outD_is h.bord.free (hm _) h1))
  have e1 : wlk s a (n + 1) = stepC (wlk s a n) (outD s (wlk s a n)) := rfl
  have e2 : wlk s a (n + 1 + 1) = stepC (wlk s a (n + 1)) (outD s (wlk s a (n + 1))) := rfl
  unfold turn2 sij
  rw [e2]
  generalize outD s (wlk s a (n + 1)) = e at *
  rw [e1]
  generalize outD s (wlk s a n) = d at *
  generalize wlk s a n = p at *
  have k0 : ∀ x : Int, x - x = 0 := fun x => by omega
  have k1 : ∀ x : Int, x + 1 - x = 1 := fun x => by omega
  have k2 : ∀ x : Int, x - 1 - x = -1 := fun x => by omega
  have k3 : ∀ x : Int, x + 1 + 1 - x = 2 := fun x => by omega
  have k4 : ∀ x : Int, x - 1 - 1 - x = -2 := fun x => by omega
  have h4 : d = 0 ∨ d = 1 ∨ d = 2 ∨ d = 3 := by omega
  rcases h4 with rfl | rfl | rfl | rfl <;> rcases he with rfl | rfl | rfl <;> simp only [stepC, Nat.reduceAdd, Nat.reduceMod, k0, k1, k2, k3, k4] <;> rfl
/-- the turns of the first n corners -/
def trnS (s : List Cell) (a : Cell) : Nat → Int
  | 0 => 0
  | n + 1 => trnS s a n + trn (outD s (wlk s a n)) (outD s (wlk s a (n + 1)))
theorem trnS_is (h : BordIs s a K) : ∀ n, turnWk (wlk s a) n = 2 * trnS s a n
  | 0 => rfl
  | n + 1 => by
    rw [turnWk, trnS, trnS_is h n, turn2_is h n]
    omega
/-- four times more to the right than to the left -/
theorem turns_four (h : BordIs s a K) (hm : ∀ c ∈ s, a.y < c.y ∨ (a.y = c.y ∧ a.x ≤ c.x)) : trnS s a K = 4 := by
  obtain ⟨M, rfl⟩ : ∃ M, K = M + 1 := ⟨K - 1, by have := h.lo; omega⟩
  have hst := wlk_steps h
  obtain ⟨hl1, hl2⟩ := wlk_last h hm
  have h0 : outD s a = 0 := outD_0 h
  have p0 : wlk s a 0 = a := rfl
  have p1 : wlk s a 1 = ⟨a.x + 1, a.y⟩ := by
    show stepC (wlk s a 0) (outD s (wlk s a 0)) = _
    rw [p0, h0]
    rfl
  have hK : wlk s a (M + 1) = a := h.home
  have hM : 2 ≤ M := by
    rcases Nat.lt_or_ge M 2 with hlt | hge
    · have : M = 0 ∨ M = 1 := by omega
      rcases this with rfl | rfl
      · rw [p0] at hl1
        have := congrArg Cell.y hl1
        simp only at this
        omega
      · rw [p1] at hl1
        simp only [Cell.mk.injEq] at hl1
        omega
    · exact hge
  have h6 := turns_six hM hst (fun j h1 h2 => by
      have hne := ne_zero (hst.apart 0 j (by omega) (by omega) (by omega))
      have hle := wlk_least h hm j
      rw [p0] at hne
      unfold sij
      rw [p0]
      unfold sec
      repeat' split
      all_goals omega) (fun i h1 h2 => by
      have hne := ne_zero (hst.apart i (M + 1) h2 (by omega) (by omega))
      have hle := wlk_least h hm i
      rw [hK] at hne
      unfold sij
      rw [hK]
      unfold sec
      repeat' split
      all_goals omega) (by unfold sij; rw [p0, p1]; simp only; rw [show a.x + 1 - a.x = 1 by omega, Int.sub_self]; rfl) (by unfold sij; rw [p0, hl1]; simp only; rw [show a.y + 1 - a.y = 1 by omega, Int.sub_self]; rfl) (by unfold sij; rw [p1, hl1]; simp only; rw [show a.y + 1 - a.y = 1 by omega, show a.x - (a.x + 1) = -1 by omega]; rfl) (by unfold sij; rw [p1, hK]; simp only; rw [show a.x - (a.x + 1) = -1 by omega, Int.sub_self]; rfl) (by unfold sij; rw [hl1, hK]; simp only; rw [show a.y - (a.y + 1) = -1 by omega, Int.sub_self]; rfl)
  have h7 := trnS_is h M
  have h8 : trnS s a (M + 1) = trnS s a M + trn (outD s (wlk s a M)) (outD s (wlk s a (M + 1))) := rfl
  rw [hl2, hK, h0] at h8
  have h9 : trn 3 0 = 1 := rfl
  rw [h8, h9]
  omega
end
end Go.Proofs.YtghpkfihdcjlaaaGreatDoor
