
/-
  Shapes: cells side by side: the walks of both sides; what hangs together, in plain Lean.
-/
import Derived.Test.YtdbneilhgckhjaaDoorShpB
namespace Go.Proofs.YtdbneilhgckhjaaDoor
open Go.RowKit

def sideB (a b : Cell) : Bool := decide ((a.x - b.x) * (a.x - b.x) + (a.y - b.y) * (a.y - b.y) = 1)
def On (c : Cell) : Prop := (0 ≤ c.x ∧ c.x ≤ 7) ∧ (0 ≤ c.y ∧ c.y ≤ 7)
def mx2 (a b : Int) : Int := if a < b then b else a
theorem sq_table : ∀ i j : Fin 15, (((i.val : Int) - 7) * ((i.val : Int) - 7) + ((j.val : Int) - 7) * ((j.val : Int) - 7) = 1 ↔ mx2 ((i.val : Int) - 7) (7 - (i.val : Int)) + mx2 ((j.val : Int) - 7) (7 - (j.val : Int)) = 1) ∧
    0 ≤ ((i.val : Int) - 7) * ((i.val : Int) - 7) ∧ ((i.val : Int) - 7) * ((i.val : Int) - 7) ≤ 49 := by decide
theorem sq_one {x y : Int} (h1 : -7 ≤ x) (h2 : x ≤ 7) (h3 : -7 ≤ y) (h4 : y ≤ 7) : (x * x + y * y = 1 ↔ mx2 x (-x) + mx2 y (-y) = 1) ∧ 0 ≤ x * x ∧ x * x ≤ 49 := by
  have h := sq_table ⟨(x + 7).toNat, by omega⟩ ⟨(y + 7).toNat, by omega⟩
  have e1 : (((x + 7).toNat : Nat) : Int) - 7 = x := by omega
  have e2 : (((y + 7).toNat : Nat) : Int) - 7 = y := by omega
  have e3 : 7 - (((x + 7).toNat : Nat) : Int) = -x := by omega
  have e4 : 7 - (((y + 7).toNat : Nat) : Int) = -y := by omega
  simp only [e1, e2, e3, e4] at h
  exact h

set_option maxRecDepth 100000 in
set_option maxHeartbeats 800000 in
theorem near_sq_c (a b : Cell) (w : World) (ha : On a) (hb : On b) :
    Calls Tryd.prog 71 #[.agg #[.int .i64 a.x, .int .i64 a.y], .agg #[.int .i64 b.x, .int .i64 b.y]] w fun e w' => e = .returned (.bool (sideB a b)) ∧ Below w.heap.size w w' := by
  obtain ⟨⟨a1, a2⟩, a3, a4⟩ := ha
  obtain ⟨⟨b1, b2⟩, b3, b4⟩ := hb
  obtain ⟨dx, hx⟩ : ∃ dx, a.x - b.x = dx := ⟨_, rfl⟩
  obtain ⟨dy, hy⟩ : ∃ dy, a.y - b.y = dy := ⟨_, rfl⟩
  obtain ⟨_, x0, x1⟩ := sq_one (x := dx) (y := dy) (by omega) (by omega) (by omega) (by omega)
  obtain ⟨_, y0, y1⟩ := sq_one (x := dy) (y := dx) (by omega) (by omega) (by omega) (by omega)
  obtain ⟨R, hR⟩ : ∃ R, R = sideB a b := ⟨_, rfl⟩
  rw [← hR]
  unfold sideB at hR
  rw [hx, hy] at hR
  obtain ⟨mx, hmx⟩ : ∃ mx, dx * dx = mx := ⟨_, rfl⟩
  obtain ⟨my, hmy⟩ : ∃ my, dy * dy = my := ⟨_, rfl⟩
  rw [hmx] at x0 x1
  rw [hmy] at y0 y1
  rw [hmx, hmy] at hR
  have HR := Lib.hid hR
  have d1 : -7 ≤ dx := by omega
  have d2 : dx ≤ 7 := by omega
  have d3 : -7 ≤ dy := by omega
  have d4 : dy ≤ 7 := by omega
  clear hR
  by_cases h1 : mx + my = 1
  · obtain rfl : R = true := by rw [HR.out]; exact decide_eq_true h1
    have e1 : (mx + my == 1) = true := by simpa using h1
    clear h1
    go_enter Tryd.func71, Tryd.ntmps71
    go_wp2
    go_ret
    exact ⟨rfl, (((Below.refl _ _).alloc (Nat.le_refl _) _).alloc (by simp) _)⟩
  · obtain rfl : R = false := by rw [HR.out]; exact decide_eq_false h1
    have e1 : (mx + my == 1) = false := by simpa using h1
    clear h1
    go_enter Tryd.func71, Tryd.ntmps71
    go_wp2
    go_ret
    exact ⟨rfl, (((Below.refl _ _).alloc (Nat.le_refl _) _).alloc (by simp) _)⟩

set_option maxRecDepth 100000 in
set_option maxHeartbeats 1600000 in
theorem beside_c (a b : Cell) (w : World) (ha : On a) (hb : On b) :
    Calls Tryd.prog 91 #[.agg #[.int .i64 a.x, .int .i64 a.y], .agg #[.int .i64 b.x, .int .i64 b.y]] w fun e w' => e = .returned (.bool (sideB a b)) ∧ Below w.heap.size w w' := by
  obtain ⟨⟨a1, a2⟩, a3, a4⟩ := ha
  obtain ⟨⟨b1, b2⟩, b3, b4⟩ := hb
  obtain ⟨R, hR⟩ : ∃ R, R = sideB a b := ⟨_, rfl⟩
  rw [← hR]
  unfold sideB at hR
  obtain ⟨dx, hx⟩ : ∃ dx, a.x - b.x = dx := ⟨_, rfl⟩
  obtain ⟨dy, hy⟩ : ∃ dy, a.y - b.y = dy := ⟨_, rfl⟩
  obtain ⟨ex, hex⟩ : ∃ ex, b.x - a.x = ex := ⟨_, rfl⟩
  obtain ⟨ey, hey⟩ : ∃ ey, b.y - a.y = ey := ⟨_, rfl⟩
  have hs := (sq_one (x := dx) (y := dy) (by omega) (by omega) (by omega) (by omega)).1
  rw [show -dx = ex by omega, show -dy = ey by omega] at hs
  rw [hx, hy] at hR
  have HR : Hid (R = decide (mx2 dx ex + mx2 dy ey = 1)) := Lib.hid (by rw [hR]; exact decide_eq_decide.2 hs)
  have d1 : -7 ≤ dx := by omega
  have d2 : dx ≤ 7 := by omega
  have d3 : -7 ≤ dy := by omega
  have d4 : dy ≤ 7 := by omega
  have d5 : -7 ≤ ex := by omega
  have d6 : ex ≤ 7 := by omega
  have d7 : -7 ≤ ey := by omega
  have d8 : ey ≤ 7 := by omega
  clear hR hs
  by_cases h1 : dx < ex <;> by_cases h2 : dy < ey
  all_goals
    have c1 : decide (dx < ex) = _ := (by first | exact decide_eq_true h1 | exact decide_eq_false h1)
    have c2 : decide (dy < ey) = _ := (by first | exact decide_eq_true h2 | exact decide_eq_false h2)
    have hr := HR.out
    simp only [mx2, h1, h2, if_true, if_false] at hr
    have HR2 := Lib.hid hr
    clear hr HR
  all_goals
    go_enter Tryd.func91, Tryd.ntmps91
    go_wp2_with fail
    go_quiet (fail)
    go_wp2
    go_ret
    exact ⟨by rw [HR2.out]; rfl, below_drewN (((Below.refl _ _).alloc (Nat.le_refl _) _).alloc (by simp) _) _⟩
end Go.Proofs.YtdbneilhgckhjaaDoor
