
/-
  Strips: ways to fill a row with dominoes: the reference's count.
-/
import Derived.Test.YtdbneilhgckhjaaDoorProg
import Derived.Test.YtdbneilhgckhjaaDoorCwWalks
import Derived.Test.YtdbneilhgckhjaaDoorRegData
import Derived.Test.YtdbneilhgckhjaaDoorSep
import Derived.Deep.DeepCutAuto
namespace Go.Proofs.YtdbneilhgckhjaaDoor
open Go.RowKit

/-- in how many ways r places from x on are filled, where those of F are full and dominoes stand out at those of O -/
def fillR (F O : Nat → Bool) : Nat → Nat → Nat
  | 0, _ => 1
  | r + 1, x => if F x then (if O x then 0 else fillR F O r (x + 1)) else if O x then fillR F O r (x + 1) else match r with
    | 0 => 0
    | r' + 1 => if !F (x + 1) && !O (x + 1) then fillR F O r' (x + 2) else 0
theorem fillR_full {F O : Nat → Bool} {r x : Nat} (h : F x = true) : fillR F O (r + 1) x = if O x then 0 else fillR F O r (x + 1) := by cases r <;> simp [fillR, h]
theorem fillR_out {F O : Nat → Bool} {r x : Nat} (h : F x = false) (ho : O x = true) : fillR F O (r + 1) x = fillR F O r (x + 1) := by cases r <;> simp [fillR, h, ho]
theorem fillR_one {F O : Nat → Bool} {x : Nat} (h : F x = false) (ho : O x = false) : fillR F O 1 x = 0 := by simp [fillR, h, ho]
theorem fillR_two {F O : Nat → Bool} {r x : Nat} (h : F x = false) (ho : O x = false) : fillR F O (r + 2) x = if !F (x + 1) && !O (x + 1) then fillR F O r (x + 2) else 0 := by simp [fillR, h, ho]
theorem bit_test0 {m x : Nat} (hm : m < 9223372036854775808) : (bits .and .i64 ((m : Int) / 2 ^ x) 1 == 0) = !m.testBit x := by
  rw [← bit_test hm]
  have hd : m / 2 ^ x < 9223372036854775808 := Nat.lt_of_le_of_lt (Nat.div_le_self _ _) hm
  have e1 : ((m : Int) / 2 ^ x) = ((m / 2 ^ x : Nat) : Int) := by simp
  rw [e1, show (1 : Int) = ((1 : Nat) : Int) from rfl, i64_and_nat _ 1 hd (by decide), nat_mask1]
  have := Nat.mod_lt (m / 2 ^ x) (show 0 < 2 by decide)
  generalize (m / 2 ^ x) % 2 = t at *
  have h2 : t = 0 ∨ t = 1 := by omega
  rcases h2 with rfl | rfl <;> rfl
set_option maxRecDepth 100000 in
set_option maxHeartbeats 1600000 in
theorem spec_fill_c (a b wd : Nat) (ha : a < 16) (hb : b < 16) (hw : wd ≤ 4) : ∀ (n r x : Nat), r ≤ n → x + r = wd → ∀ w : World,
    Calls Tryd.prog 95 #[.int .i64 wd, .int .i64 x, .int .i64 a, .int .i64 b] w fun e w' => e = .returned (.int .i64 (fillR a.testBit b.testBit r x : Nat)) ∧ w = w' := by
  intro n
  induction n with
  | zero =>
    intro r x hr hx w
    obtain rfl : r = 0 := by omega
    obtain rfl : x = wd := by omega
    go_enter Tryd.func95, Tryd.ntmps95
    go_wp2
    go_ret
    exact ⟨rfl, rfl⟩
  | succ n ih =>
    intro r x hr hx w
    cases r with
    | zero => exact ih 0 x (by omega) hx w
    | succ r =>
      obtain ⟨R, hR⟩ : ∃ R, R = fillR a.testBit b.testBit (r + 1) x := ⟨_, rfl⟩
      rw [← hR]
      have hxw : ((x : Int) == (wd : Int)) = false := by simp; omega
      have y1 := bit_test (m := a) (x := x) (by omega)
      have y2 := bit_test (m := b) (x := x) (by omega)
      have y3 := bit_test0 (m := a) (x := x + 1) (by omega)
      have y4 := bit_test0 (m := b) (x := x + 1) (by omega)
      have H1 : Hid (∀ w : World, Calls Tryd.prog 95 #[.int .i64 wd, .int .i64 ((x : Int) + 1), .int .i64 a, .int .i64 b] w fun e w' => e = .returned (.int .i64 (fillR a.testBit b.testBit r (x + 1) : Nat)) ∧ w = w') := Lib.hid fun w => ih r (x + 1) (by omega) (by omega) w
      have HI := Lib.hid ih
      have hx4 : x < 4 := by omega
      have HR := Lib.hid hR
      clear ih hR
      cases hF : a.testBit x
      · rw [hF] at y1
        cases hO : b.testBit x
        · rw [hO] at y2
          cases r with
          | zero =>
            obtain rfl : R = 0 := by rw [HR.out, fillR_one hF hO]
            have hx1 : decide ((x : Int) + 1 < (wd : Int)) = false := decide_eq_false (by omega)
            clear hF hO y3 y4 H1
            go_enter Tryd.func95, Tryd.ntmps95
            go_wp2
            go_ret
            exact ⟨rfl, rfl⟩
          | succ r =>
            have hx1 : decide ((x : Int) + 1 < (wd : Int)) = true := decide_eq_true (by omega)
            have hv := HR.out
            rw [fillR_two hF hO] at hv
            cases hF1 : a.testBit (x + 1)
            · cases hO1 : b.testBit (x + 1)
              · rw [hF1] at y3
                rw [hO1] at y4
                rw [hF1, hO1] at hv
                have HV : Hid (R = fillR a.testBit b.testBit r (x + 2)) := Lib.hid hv
                clear hv hF hO hF1 hO1
                go_enter Tryd.func95, Tryd.ntmps95
                have H2 : ∀ w : World, Calls Tryd.prog 95 #[.int .i64 wd, .int .i64 ((x : Int) + 2), .int .i64 a, .int .i64 b] w fun e w' => e = .returned (.int .i64 (fillR a.testBit b.testBit r (x + 2) : Nat)) ∧ w = w' := fun w => HI.out r (x + 2) (by omega) (by omega) w
                have H2 := Lib.hid H2
                go_wp2_with fail
                with_reducible refine (H2.out _).mono ?_
                rintro e w' ⟨rfl, rfl⟩
                go_wp2
                go_ret
                exact ⟨by rw [HV.out]; rfl, rfl⟩
              · rw [hF1] at y3
                rw [hO1] at y4
                rw [hF1, hO1] at hv
                obtain rfl : R = 0 := hv
                clear hF hO hF1 hO1 H1
                go_enter Tryd.func95, Tryd.ntmps95
                go_wp2
                go_ret
                exact ⟨rfl, rfl⟩
            · rw [hF1] at y3 hv
              obtain rfl : R = 0 := hv
              clear hF hO hF1 H1 y4
              go_enter Tryd.func95, Tryd.ntmps95
              go_wp2
              go_ret
              exact ⟨rfl, rfl⟩
        · rw [hO] at y2
          have HV := Lib.hid (HR.out.trans (fillR_out hF hO))
          clear hF hO y3 y4
          go_enter Tryd.func95, Tryd.ntmps95
          go_wp2_with fail
          with_reducible refine (H1.out _).mono ?_
          rintro e w' ⟨rfl, rfl⟩
          go_wp2
          go_ret
          exact ⟨by rw [HV.out]; rfl, rfl⟩
      · rw [hF] at y1
        cases hO : b.testBit x
        · rw [hO] at y2
          have hv := HR.out.trans (fillR_full hF)
          rw [hO] at hv
          have HV : Hid (R = fillR a.testBit b.testBit r (x + 1)) := Lib.hid hv
          clear hv hF hO y3 y4
          go_enter Tryd.func95, Tryd.ntmps95
          go_wp2_with fail
          with_reducible refine (H1.out _).mono ?_
          rintro e w' ⟨rfl, rfl⟩
          go_wp2
          go_ret
          exact ⟨by rw [HV.out]; rfl, rfl⟩
        · rw [hO] at y2
          have hv := HR.out.trans (fillR_full hF)
          rw [hO] at hv
          obtain rfl : R = 0 := hv
          clear hF hO y3 y4 H1
          go_enter Tryd.func95, Tryd.ntmps95
          go_wp2
          go_ret
          exact ⟨rfl, rfl⟩
end Go.Proofs.YtdbneilhgckhjaaDoor
