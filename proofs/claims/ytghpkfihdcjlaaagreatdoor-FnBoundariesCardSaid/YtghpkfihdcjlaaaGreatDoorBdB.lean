
/-
  Shapes: the border of a shape: steps with the shape at the right hand: both sides. Shapes: the border of a shape: one step, pinched corners: both sides. Shapes: pinched corners: both sides. Shapes: the way around a shape: plain. Shapes: the border word: what it is. Shapes: pinched corners: the program's walk. Shapes: the border word: the walk of the reference.
-/
import Derived.Test.YtghpkfihdcjlaaaGreatDoorShpX
import Derived.Test.YtghpkfihdcjlaaaGreatDoorSepX
import Derived.Deep.DeepCutAuto
import Derived.Test.YtghpkfihdcjlaaaGreatDoorShpI
import Derived.Test.YtghpkfihdcjlaaaGreatDoorBdH
import Derived.Deep.CutRange
namespace Go.Proofs.YtghpkfihdcjlaaaGreatDoor
open Go.RowKit

def hs (s : List Cell) (x y : Int) : Bool := decide ((⟨x, y⟩ : Cell) ∈ s)
def edge (s : List Cell) (c : Cell) : Nat → Bool
  | 0 => hs s c.x c.y && !hs s c.x (c.y - 1)
  | 1 => hs s (c.x - 1) c.y && !hs s c.x c.y
  | 2 => hs s (c.x - 1) (c.y - 1) && !hs s (c.x - 1) c.y
  | _ => hs s c.x (c.y - 1) && !hs s (c.x - 1) (c.y - 1)
def dirB : Nat → Int
  | 0 => 114
  | 1 => 100
  | 2 => 108
  | _ => 117
def stepC (c : Cell) : Nat → Cell
  | 0 => ⟨c.x + 1, c.y⟩
  | 1 => ⟨c.x, c.y + 1⟩
  | 2 => ⟨c.x - 1, c.y⟩
  | _ => ⟨c.x, c.y - 1⟩

set_option maxRecDepth 100000 in
set_option maxHeartbeats 3200000 in
theorem spec_edge_c {v : Value} {s : List Cell} (q : Cell) (d : Nat) (w : World) (h : CellsRd w 0 w.heap.size v s) (hn : s.length ≤ 8) (hd : d < 4) (hx : -10 ≤ q.x ∧ q.x ≤ 10) (hy : -10 ≤ q.y ∧ q.y ≤ 10) :
    Calls Tryz.prog 34 #[v, .agg #[.int .i64 q.x, .int .i64 q.y], .int .i64 d] w fun e w' => e = .returned (.bool (edge s q d)) ∧ Below w.heap.size w w' := by
  obtain ⟨A, c, rfl, hm, hr⟩ := id h
  obtain ⟨R, hR⟩ : ∃ R, R = edge s q d := ⟨_, rfl⟩
  rw [← hR]
  have HR := Lib.hid hR
  have HS : Hid (CellsRd w 0 w.heap.size (.slice A s.length c) s) := Lib.hid h
  have H := (Sep.start w).box 46 #[.int .i64 q.x, .int .i64 q.y]
  clear hR h hr hm
  have h4 : d = 0 ∨ d = 1 ∨ d = 2 ∨ d = 3 := by omega
  clear hd
  rcases h4 with rfl | rfl | rfl | rfl
  ·
    obtain ⟨b1, hb1⟩ : ∃ b, b = hs s (q.x) (q.y) := ⟨_, rfl⟩
    have H1 : Hid (∀ w', Below w.heap.size w w' → Calls Tryz.prog 57 #[.slice A s.length c, .int .i64 (q.x), .int .i64 (q.y)] w' fun e w'' => e = .returned (.bool b1) ∧ Below w'.heap.size w' w'') := Lib.hid fun w' hw => by
      rw [hb1]
      exact (spec_has2_c _ _ _ ((HS.out.keep (SameIn.of_below hw (Nat.le_refl _))).more (Nat.le_refl _) hw.size) (by omega)).mono fun _ _ ⟨h1, h2⟩ => ⟨h1, h2 ▸ Below.refl _ _⟩
    obtain ⟨b2, hb2⟩ : ∃ b, b = hs s (q.x) (q.y - 1) := ⟨_, rfl⟩
    have H2 : Hid (∀ w', Below w.heap.size w w' → Calls Tryz.prog 57 #[.slice A s.length c, .int .i64 (q.x), .int .i64 (q.y - 1)] w' fun e w'' => e = .returned (.bool b2) ∧ Below w'.heap.size w' w'') := Lib.hid fun w' hw => by
      rw [hb2]
      exact (spec_has2_c _ _ _ ((HS.out.keep (SameIn.of_below hw (Nat.le_refl _))).more (Nat.le_refl _) hw.size) (by omega)).mono fun _ _ ⟨h1, h2⟩ => ⟨h1, h2 ▸ Below.refl _ _⟩
    replace HR : Hid (R = (hs s (q.x) (q.y) && !hs s (q.x) (q.y - 1))) := HR
    change Calls _ _ #[_, _, .int .i64 0] _ _
    go_enter Tryz.func34, Tryz.ntmps34
    have hRR : R = (b1 && !b2) := by rw [HR.out, hb1, hb2]
    clear hb1 hb2
    cases b1
    all_goals cases b2
    all_goals
      (obtain rfl := hRR
       go_wp2_with (go_at_call 57; (first | with_reducible refine (H1.out _ H.below).mono ?_ | with_reducible refine (H2.out _ H.below).mono ?_); rintro e w1 ⟨rfl, b1⟩; replace H := H.step b1; clear b1; have k0 : w1.cell? ⟨w.heap.size, 0, none⟩ = some (.int .i64 q.x) := H.h0.cell 0; have k1 : w1.cell? ⟨w.heap.size, 1, none⟩ = some (.int .i64 q.y) := H.h0.cell 1)
       go_ret
       exact ⟨rfl, H.below⟩)
  ·
    obtain ⟨b1, hb1⟩ : ∃ b, b = hs s (q.x - 1) (q.y) := ⟨_, rfl⟩
    have H1 : Hid (∀ w', Below w.heap.size w w' → Calls Tryz.prog 57 #[.slice A s.length c, .int .i64 (q.x - 1), .int .i64 (q.y)] w' fun e w'' => e = .returned (.bool b1) ∧ Below w'.heap.size w' w'') := Lib.hid fun w' hw => by
      rw [hb1]
      exact (spec_has2_c _ _ _ ((HS.out.keep (SameIn.of_below hw (Nat.le_refl _))).more (Nat.le_refl _) hw.size) (by omega)).mono fun _ _ ⟨h1, h2⟩ => ⟨h1, h2 ▸ Below.refl _ _⟩
    obtain ⟨b2, hb2⟩ : ∃ b, b = hs s (q.x) (q.y) := ⟨_, rfl⟩
    have H2 : Hid (∀ w', Below w.heap.size w w' → Calls Tryz.prog 57 #[.slice A s.length c, .int .i64 (q.x), .int .i64 (q.y)] w' fun e w'' => e = .returned (.bool b2) ∧ Below w'.heap.size w' w'') := Lib.hid fun w' hw => by
      rw [hb2]
      exact (spec_has2_c _ _ _ ((HS.out.keep (SameIn.of_below hw (Nat.le_refl _))).more (Nat.le_refl _) hw.size) (by omega)).mono fun _ _ ⟨h1, h2⟩ => ⟨h1, h2 ▸ Below.refl _ _⟩
    replace HR : Hid (R = (hs s (q.x - 1) (q.y) && !hs s (q.x) (q.y))) := HR
    change Calls _ _ #[_, _, .int .i64 1] _ _
    go_enter Tryz.func34, Tryz.ntmps34
    have hRR : R = (b1 && !b2) := by rw [HR.out, hb1, hb2]
    clear hb1 hb2
    cases b1
    all_goals cases b2
    all_goals
      (obtain rfl := hRR
       go_wp2_with (go_at_call 57; (first | with_reducible refine (H1.out _ H.below).mono ?_ | with_reducible refine (H2.out _ H.below).mono ?_); rintro e w1 ⟨rfl, b1⟩; replace H := H.step b1; clear b1; have k0 : w1.cell? ⟨w.heap.size, 0, none⟩ = some (.int .i64 q.x) := H.h0.cell 0; have k1 : w1.cell? ⟨w.heap.size, 1, none⟩ = some (.int .i64 q.y) := H.h0.cell 1)
       go_ret
       exact ⟨rfl, H.below⟩)
  ·
    obtain ⟨b1, hb1⟩ : ∃ b, b = hs s (q.x - 1) (q.y - 1) := ⟨_, rfl⟩
    have H1 : Hid (∀ w', Below w.heap.size w w' → Calls Tryz.prog 57 #[.slice A s.length c, .int .i64 (q.x - 1), .int .i64 (q.y - 1)] w' fun e w'' => e = .returned (.bool b1) ∧ Below w'.heap.size w' w'') := Lib.hid fun w' hw => by
      rw [hb1]
      exact (spec_has2_c _ _ _ ((HS.out.keep (SameIn.of_below hw (Nat.le_refl _))).more (Nat.le_refl _) hw.size) (by omega)).mono fun _ _ ⟨h1, h2⟩ => ⟨h1, h2 ▸ Below.refl _ _⟩
    obtain ⟨b2, hb2⟩ : ∃ b, b = hs s (q.x - 1) (q.y) := ⟨_, rfl⟩
    have H2 : Hid (∀ w', Below w.heap.size w w' → Calls Tryz.prog 57 #[.slice A s.length c, .int .i64 (q.x - 1), .int .i64 (q.y)] w' fun e w'' => e = .returned (.bool b2) ∧ Below w'.heap.size w' w'') := Lib.hid fun w' hw => by
      rw [hb2]
      exact (spec_has2_c _ _ _ ((HS.out.keep (SameIn.of_below hw (Nat.le_refl _))).more (Nat.le_refl _) hw.size) (by omega)).mono fun _ _ ⟨h1, h2⟩ => ⟨h1, h2 ▸ Below.refl _ _⟩
    replace HR : Hid (R = (hs s (q.x - 1) (q.y - 1) && !hs s (q.x - 1) (q.y))) := HR
    change Calls _ _ #[_, _, .int .i64 2] _ _
    go_enter Tryz.func34, Tryz.ntmps34
    have hRR : R = (b1 && !b2) := by rw [HR.out, hb1, hb2]
    clear hb1 hb2
    cases b1
    all_goals cases b2
    all_goals
      (obtain rfl := hRR
       go_wp2_with (go_at_call 57; (first | with_reducible refine (H1.out _ H.below).mono ?_ | with_reducible refine (H2.out _ H.below).mono ?_); rintro e w1 ⟨rfl, b1⟩; replace H := H.step b1; clear b1; have k0 : w1.cell? ⟨w.heap.size, 0, none⟩ = some (.int .i64 q.x) := H.h0.cell 0; have k1 : w1.cell? ⟨w.heap.size, 1, none⟩ = some (.int .i64 q.y) := H.h0.cell 1)
       go_ret
       exact ⟨rfl, H.below⟩)
  ·
    obtain ⟨b1, hb1⟩ : ∃ b, b = hs s (q.x) (q.y - 1) := ⟨_, rfl⟩
    have H1 : Hid (∀ w', Below w.heap.size w w' → Calls Tryz.prog 57 #[.slice A s.length c, .int .i64 (q.x), .int .i64 (q.y - 1)] w' fun e w'' => e = .returned (.bool b1) ∧ Below w'.heap.size w' w'') := Lib.hid fun w' hw => by
      rw [hb1]
      exact (spec_has2_c _ _ _ ((HS.out.keep (SameIn.of_below hw (Nat.le_refl _))).more (Nat.le_refl _) hw.size) (by omega)).mono fun _ _ ⟨h1, h2⟩ => ⟨h1, h2 ▸ Below.refl _ _⟩
    obtain ⟨b2, hb2⟩ : ∃ b, b = hs s (q.x - 1) (q.y - 1) := ⟨_, rfl⟩
    have H2 : Hid (∀ w', Below w.heap.size w w' → Calls Tryz.prog 57 #[.slice A s.length c, .int .i64 (q.x - 1), .int .i64 (q.y - 1)] w' fun e w'' => e = .returned (.bool b2) ∧ Below w'.heap.size w' w'') := Lib.hid fun w' hw => by
      rw [hb2]
      exact (spec_has2_c _ _ _ ((HS.out.keep (SameIn.of_below hw (Nat.le_refl _))).more (Nat.le_refl _) hw.size) (by omega)).mono fun _ _ ⟨h1, h2⟩ => ⟨h1, h2 ▸ Below.refl _ _⟩
    replace HR : Hid (R = (hs s (q.x) (q.y - 1) && !hs s (q.x - 1) (q.y - 1))) := HR
    change Calls _ _ #[_, _, .int .i64 3] _ _
    go_enter Tryz.func34, Tryz.ntmps34
    have hRR : R = (b1 && !b2) := by rw [HR.out, hb1, hb2]
    clear hb1 hb2
    cases b1
    all_goals cases b2
    all_goals
      (obtain rfl := hRR
       go_wp2_with (go_at_call 57; (first | with_reducible refine (H1.out _ H.below).mono ?_ | with_reducible refine (H2.out _ H.below).mono ?_); rintro e w1 ⟨rfl, b1⟩; replace H := H.step b1; clear b1; have k0 : w1.cell? ⟨w.heap.size, 0, none⟩ = some (.int .i64 q.x) := H.h0.cell 0; have k1 : w1.cell? ⟨w.heap.size, 1, none⟩ = some (.int .i64 q.y) := H.h0.cell 1)
       go_ret
       exact ⟨rfl, H.below⟩)
set_option maxRecDepth 100000 in
set_option maxHeartbeats 3200000 in
theorem impl_side_c {v : Value} {s : List Cell} (q : Cell) (d : Nat) (w : World) (h : CellsRd w 0 w.heap.size v s) (hn : s.length ≤ 8) (hd : d < 4) (hx : -10 ≤ q.x ∧ q.x ≤ 10) (hy : -10 ≤ q.y ∧ q.y ≤ 10) :
    Calls Tryz.prog 28 #[v, .agg #[.int .i64 q.x, .int .i64 q.y], .int .u8 (dirB d)] w fun e w' => e = .returned (.bool (edge s q d)) ∧ Below w.heap.size w w' := by
  obtain ⟨A, c, rfl, hm, hr⟩ := id h
  obtain ⟨R, hR⟩ : ∃ R, R = edge s q d := ⟨_, rfl⟩
  rw [← hR]
  have HR := Lib.hid hR
  have HS : Hid (CellsRd w 0 w.heap.size (.slice A s.length c) s) := Lib.hid h
  have H := (Sep.start w).box 46 #[.int .i64 q.x, .int .i64 q.y]
  clear hR h hr hm
  have h4 : d = 0 ∨ d = 1 ∨ d = 2 ∨ d = 3 := by omega
  clear hd
  rcases h4 with rfl | rfl | rfl | rfl
  ·
    obtain ⟨b1, hb1⟩ : ∃ b, b = hs s (q.x) (q.y) := ⟨_, rfl⟩
    have H1 : Hid (∀ w', Below w.heap.size w w' → Calls Tryz.prog 55 #[.slice A s.length c, .int .i64 (q.x), .int .i64 (q.y)] w' fun e w'' => e = .returned (.bool b1) ∧ Below w'.heap.size w' w'') := Lib.hid fun w' hw => by
      rw [hb1]
      exact impl_has2_c _ _ _ ((HS.out.keep (SameIn.of_below hw (Nat.le_refl _))).more (Nat.le_refl _) hw.size) (by omega)
    obtain ⟨b2, hb2⟩ : ∃ b, b = hs s (q.x) (q.y - 1) := ⟨_, rfl⟩
    have H2 : Hid (∀ w', Below w.heap.size w w' → Calls Tryz.prog 55 #[.slice A s.length c, .int .i64 (q.x), .int .i64 (q.y - 1)] w' fun e w'' => e = .returned (.bool b2) ∧ Below w'.heap.size w' w'') := Lib.hid fun w' hw => by
      rw [hb2]
      exact impl_has2_c _ _ _ ((HS.out.keep (SameIn.of_below hw (Nat.le_refl _))).more (Nat.le_refl _) hw.size) (by omega)
    replace HR : Hid (R = (hs s (q.x) (q.y) && !hs s (q.x) (q.y - 1))) := HR
    change Calls _ _ #[_, _, .int .u8 114] _ _
    go_enter Tryz.func28, Tryz.ntmps28
    have hRR : R = (b1 && !b2) := by rw [HR.out, hb1, hb2]
    clear hb1 hb2
    cases b1
    all_goals cases b2
    all_goals
      (obtain rfl := hRR
       go_wp2_with (go_at_call 55; (first | with_reducible refine (H1.out _ H.below).mono ?_ | with_reducible refine (H2.out _ H.below).mono ?_); rintro e w1 ⟨rfl, b1⟩; replace H := H.step b1; clear b1; have k0 : w1.cell? ⟨w.heap.size, 0, none⟩ = some (.int .i64 q.x) := H.h0.cell 0; have k1 : w1.cell? ⟨w.heap.size, 1, none⟩ = some (.int .i64 q.y) := H.h0.cell 1)
       go_ret
       exact ⟨rfl, H.below⟩)
  ·
    obtain ⟨b1, hb1⟩ : ∃ b, b = hs s (q.x - 1) (q.y) := ⟨_, rfl⟩
    have H1 : Hid (∀ w', Below w.heap.size w w' → Calls Tryz.prog 55 #[.slice A s.length c, .int .i64 (q.x - 1), .int .i64 (q.y)] w' fun e w'' => e = .returned (.bool b1) ∧ Below w'.heap.size w' w'') := Lib.hid fun w' hw => by
      rw [hb1]
      exact impl_has2_c _ _ _ ((HS.out.keep (SameIn.of_below hw (Nat.le_refl _))).more (Nat.le_refl _) hw.size) (by omega)
    obtain ⟨b2, hb2⟩ : ∃ b, b = hs s (q.x) (q.y) := ⟨_, rfl⟩
    have H2 : Hid (∀ w', Below w.heap.size w w' → Calls Tryz.prog 55 #[.slice A s.length c, .int .i64 (q.x), .int .i64 (q.y)] w' fun e w'' => e = .returned (.bool b2) ∧ Below w'.heap.size w' w'') := Lib.hid fun w' hw => by
      rw [hb2]
      exact impl_has2_c _ _ _ ((HS.out.keep (SameIn.of_below hw (Nat.le_refl _))).more (Nat.le_refl _) hw.size) (by omega)
    replace HR : Hid (R = (hs s (q.x - 1) (q.y) && !hs s (q.x) (q.y))) := HR
    change Calls _ _ #[_, _, .int .u8 100] _ _
    go_enter Tryz.func28, Tryz.ntmps28
    have hRR : R = (b1 && !b2) := by rw [HR.out, hb1, hb2]
    clear hb1 hb2
    cases b1
    all_goals cases b2
    all_goals
      (obtain rfl := hRR
       go_wp2_with (go_at_call 55; (first | with_reducible refine (H1.out _ H.below).mono ?_ | with_reducible refine (H2.out _ H.below).mono ?_); rintro e w1 ⟨rfl, b1⟩; replace H := H.step b1; clear b1; have k0 : w1.cell? ⟨w.heap.size, 0, none⟩ = some (.int .i64 q.x) := H.h0.cell 0; have k1 : w1.cell? ⟨w.heap.size, 1, none⟩ = some (.int .i64 q.y) := H.h0.cell 1)
       go_ret
       exact ⟨rfl, H.below⟩)
  ·
    obtain ⟨b1, hb1⟩ : ∃ b, b = hs s (q.x - 1) (q.y - 1) := ⟨_, rfl⟩
    have H1 : Hid (∀ w', Below w.heap.size w w' → Calls Tryz.prog 55 #[.slice A s.length c, .int .i64 (q.x - 1), .int .i64 (q.y - 1)] w' fun e w'' => e = .returned (.bool b1) ∧ Below w'.heap.size w' w'') := Lib.hid fun w' hw => by
      rw [hb1]
      exact impl_has2_c _ _ _ ((HS.out.keep (SameIn.of_below hw (Nat.le_refl _))).more (Nat.le_refl _) hw.size) (by omega)
    obtain ⟨b2, hb2⟩ : ∃ b, b = hs s (q.x - 1) (q.y) := ⟨_, rfl⟩
    have H2 : Hid (∀ w', Below w.heap.size w w' → Calls Tryz.prog 55 #[.slice A s.length c, .int .i64 (q.x - 1), .int .i64 (q.y)] w' fun e w'' => e = .returned (.bool b2) ∧ Below w'.heap.size w' w'') := Lib.hid fun w' hw => by
      rw [hb2]
      exact impl_has2_c _ _ _ ((HS.out.keep (SameIn.of_below hw (Nat.le_refl _))).more (Nat.le_refl _) hw.size) (by omega)
    replace HR : Hid (R = (hs s (q.x - 1) (q.y - 1) && !hs s (q.x - 1) (q.y))) := HR
    change Calls _ _ #[_, _, .int .u8 108] _ _
    go_enter Tryz.func28, Tryz.ntmps28
    have hRR : R = (b1 && !b2) := by rw [HR.out, hb1, hb2]
    clear hb1 hb2
    cases b1
    all_goals cases b2
    all_goals
      (obtain rfl := hRR
       go_wp2_with (go_at_call 55; (first | with_reducible refine (H1.out _ H.below).mono ?_ | with_reducible refine (H2.out _ H.below).mono ?_); rintro e w1 ⟨rfl, b1⟩; replace H := H.step b1; clear b1; have k0 : w1.cell? ⟨w.heap.size, 0, none⟩ = some (.int .i64 q.x) := H.h0.cell 0; have k1 : w1.cell? ⟨w.heap.size, 1, none⟩ = some (.int .i64 q.y) := H.h0.cell 1)
       go_ret
       exact ⟨rfl, H.below⟩)
  ·
    obtain ⟨b1, hb1⟩ : ∃ b, b = hs s (q.x) (q.y - 1) := ⟨_, rfl⟩
    have H1 : Hid (∀ w', Below w.heap.size w w' → Calls Tryz.prog 55 #[.slice A s.length c, .int .i64 (q.x), .int .i64 (q.y - 1)] w' fun e w'' => e = .returned (.bool b1) ∧ Below w'.heap.size w' w'') := Lib.hid fun w' hw => by
      rw [hb1]
      exact impl_has2_c _ _ _ ((HS.out.keep (SameIn.of_below hw (Nat.le_refl _))).more (Nat.le_refl _) hw.size) (by omega)
    obtain ⟨b2, hb2⟩ : ∃ b, b = hs s (q.x - 1) (q.y - 1) := ⟨_, rfl⟩
    have H2 : Hid (∀ w', Below w.heap.size w w' → Calls Tryz.prog 55 #[.slice A s.length c, .int .i64 (q.x - 1), .int .i64 (q.y - 1)] w' fun e w'' => e = .returned (.bool b2) ∧ Below w'.heap.size w' w'') := Lib.hid fun w' hw => by
      rw [hb2]
      exact impl_has2_c _ _ _ ((HS.out.keep (SameIn.of_below hw (Nat.le_refl _))).more (Nat.le_refl _) hw.size) (by omega)
    replace HR : Hid (R = (hs s (q.x) (q.y - 1) && !hs s (q.x - 1) (q.y - 1))) := HR
    change Calls _ _ #[_, _, .int .u8 117] _ _
    go_enter Tryz.func28, Tryz.ntmps28
    have hRR : R = (b1 && !b2) := by rw [HR.out, hb1, hb2]
    clear hb1 hb2
    cases b1
    all_goals cases b2
    all_goals
      (obtain rfl := hRR
       go_wp2_with (go_at_call 55; (first | with_reducible refine (H1.out _ H.below).mono ?_ | with_reducible refine (H2.out _ H.below).mono ?_); rintro e w1 ⟨rfl, b1⟩; replace H := H.step b1; clear b1; have k0 : w1.cell? ⟨w.heap.size, 0, none⟩ = some (.int .i64 q.x) := H.h0.cell 0; have k1 : w1.cell? ⟨w.heap.size, 1, none⟩ = some (.int .i64 q.y) := H.h0.cell 1)
       go_ret
       exact ⟨rfl, H.below⟩)
end Go.Proofs.YtghpkfihdcjlaaaGreatDoor

namespace Go.Proofs.YtghpkfihdcjlaaaGreatDoor
open Go.RowKit

theorem results_ct {P : Program} {fn : Func} {p q : Tmp} {ty : TypeId} (h : fn.results = #[.cell p ty, .tmp q]) (tmps : Array Value) (w : World) (g : Nat) (t : TypeId) (cs : Array Value) (fr : Nat × Nat) (d : TypeDesc)
    (hp : tmps.getD p undef = .pointer (some ⟨g, 0, none⟩)) (hg : w.heap[g]? = some (.cells cs t fr))
    (hu : P.underlying ty = some d) (hd : (match d with | .struct _ | .array _ _ => true | _ => false) = true) (hi : (P.info? ty).map (·.size) = some cs.size) :
    (results fn tmps).run P w = .ok (.tuple #[.agg cs, tmps.getD q undef]) w := by
  have hp' : tmps[p]?.getD undef = .pointer (some ⟨g, 0, none⟩) := by simpa using hp
  simp [results, h, hp', asAddr, run_loadVar_row w g t ty cs fr d hg hu hd hi]
set_option maxRecDepth 100000 in
theorem spec_step_c (c : Cell) (d : Nat) (w : World) (hd : d < 4) (hx : -100 ≤ c.x ∧ c.x ≤ 100) (hy : -100 ≤ c.y ∧ c.y ≤ 100) :
    Calls Tryz.prog 33 #[.agg #[.int .i64 c.x, .int .i64 c.y], .int .u8 (dirB d)] w fun e w' => e = .returned (.tuple #[.agg #[.int .i64 (stepC c d).x, .int .i64 (stepC c d).y], .bool true]) ∧ Below w.heap.size w w' := by
  have h4 : d = 0 ∨ d = 1 ∨ d = 2 ∨ d = 3 := by omega
  clear hd
  rcases h4 with rfl | rfl | rfl | rfl
  ·
    change Calls _ _ #[_, .int .u8 114] _ fun e w' => e = .returned (.tuple #[.agg #[.int .i64 (c.x + 1), .int .i64 (c.y)], .bool true]) ∧ Below w.heap.size w w'
    have H1 := ((Sep.start w).box 46 #[.int .i64 (c.x + 1), .int .i64 (c.y)]).box 46 #[.int .i64 (c.x + 1), .int .i64 (c.y)]
    simp only [World.size_alloc] at H1
    go_enter Tryz.func33, Tryz.ntmps33
    go_wp2
    refine bodyPost_ret (v := .tuple #[.agg #[.int .i64 (c.x + 1), .int .i64 (c.y)], .bool true]) (results_ct Tryz.results33 _ _ (w.heap.size + 1) 46 _ _ _ rfl H1.h0 Tryz.underlying46 rfl (by kernel_rfl)) rfl ?_
    exact ⟨rfl, H1.below⟩
  ·
    change Calls _ _ #[_, .int .u8 100] _ fun e w' => e = .returned (.tuple #[.agg #[.int .i64 (c.x), .int .i64 (c.y + 1)], .bool true]) ∧ Below w.heap.size w w'
    have H1 := ((Sep.start w).box 46 #[.int .i64 (c.x), .int .i64 (c.y + 1)]).box 46 #[.int .i64 (c.x), .int .i64 (c.y + 1)]
    simp only [World.size_alloc] at H1
    go_enter Tryz.func33, Tryz.ntmps33
    go_wp2
    refine bodyPost_ret (v := .tuple #[.agg #[.int .i64 (c.x), .int .i64 (c.y + 1)], .bool true]) (results_ct Tryz.results33 _ _ (w.heap.size + 1) 46 _ _ _ rfl H1.h0 Tryz.underlying46 rfl (by kernel_rfl)) rfl ?_
    exact ⟨rfl, H1.below⟩
  ·
    change Calls _ _ #[_, .int .u8 108] _ fun e w' => e = .returned (.tuple #[.agg #[.int .i64 (c.x - 1), .int .i64 (c.y)], .bool true]) ∧ Below w.heap.size w w'
    have H1 := ((Sep.start w).box 46 #[.int .i64 (c.x - 1), .int .i64 (c.y)]).box 46 #[.int .i64 (c.x - 1), .int .i64 (c.y)]
    simp only [World.size_alloc] at H1
    go_enter Tryz.func33, Tryz.ntmps33
    go_wp2
    refine bodyPost_ret (v := .tuple #[.agg #[.int .i64 (c.x - 1), .int .i64 (c.y)], .bool true]) (results_ct Tryz.results33 _ _ (w.heap.size + 1) 46 _ _ _ rfl H1.h0 Tryz.underlying46 rfl (by kernel_rfl)) rfl ?_
    exact ⟨rfl, H1.below⟩
  ·
    change Calls _ _ #[_, .int .u8 117] _ fun e w' => e = .returned (.tuple #[.agg #[.int .i64 (c.x), .int .i64 (c.y - 1)], .bool true]) ∧ Below w.heap.size w w'
    have H1 := ((Sep.start w).box 46 #[.int .i64 (c.x), .int .i64 (c.y - 1)]).box 46 #[.int .i64 (c.x), .int .i64 (c.y - 1)]
    simp only [World.size_alloc] at H1
    go_enter Tryz.func33, Tryz.ntmps33
    go_wp2
    refine bodyPost_ret (v := .tuple #[.agg #[.int .i64 (c.x), .int .i64 (c.y - 1)], .bool true]) (results_ct Tryz.results33 _ _ (w.heap.size + 1) 46 _ _ _ rfl H1.h0 Tryz.underlying46 rfl (by kernel_rfl)) rfl ?_
    exact ⟨rfl, H1.below⟩
set_option maxRecDepth 100000 in
theorem impl_step_c (c : Cell) (d : Nat) (w : World) (hd : d < 4) (hx : -100 ≤ c.x ∧ c.x ≤ 100) (hy : -100 ≤ c.y ∧ c.y ≤ 100) :
    Calls Tryz.prog 29 #[.agg #[.int .i64 c.x, .int .i64 c.y], .int .u8 (dirB d)] w fun e w' => e = .returned (.tuple #[.agg #[.int .i64 (stepC c d).x, .int .i64 (stepC c d).y], .bool true]) ∧ Below w.heap.size w w' := by
  have h4 : d = 0 ∨ d = 1 ∨ d = 2 ∨ d = 3 := by omega
  clear hd
  rcases h4 with rfl | rfl | rfl | rfl
  ·
    change Calls _ _ #[_, .int .u8 114] _ fun e w' => e = .returned (.tuple #[.agg #[.int .i64 (c.x + 1), .int .i64 (c.y)], .bool true]) ∧ Below w.heap.size w w'
    have H1 := ((Sep.start w).box 46 #[.int .i64 (c.x + 1), .int .i64 (c.y)]).box 46 #[.int .i64 (c.x + 1), .int .i64 (c.y)]
    simp only [World.size_alloc] at H1
    go_enter Tryz.func29, Tryz.ntmps29
    go_wp2
    refine bodyPost_ret (v := .tuple #[.agg #[.int .i64 (c.x + 1), .int .i64 (c.y)], .bool true]) (results_ct Tryz.results29 _ _ (w.heap.size + 1) 46 _ _ _ rfl H1.h0 Tryz.underlying46 rfl (by kernel_rfl)) rfl ?_
    exact ⟨rfl, H1.below⟩
  ·
    change Calls _ _ #[_, .int .u8 100] _ fun e w' => e = .returned (.tuple #[.agg #[.int .i64 (c.x), .int .i64 (c.y + 1)], .bool true]) ∧ Below w.heap.size w w'
    have H1 := ((Sep.start w).box 46 #[.int .i64 (c.x), .int .i64 (c.y + 1)]).box 46 #[.int .i64 (c.x), .int .i64 (c.y + 1)]
    simp only [World.size_alloc] at H1
    go_enter Tryz.func29, Tryz.ntmps29
    go_wp2
    refine bodyPost_ret (v := .tuple #[.agg #[.int .i64 (c.x), .int .i64 (c.y + 1)], .bool true]) (results_ct Tryz.results29 _ _ (w.heap.size + 1) 46 _ _ _ rfl H1.h0 Tryz.underlying46 rfl (by kernel_rfl)) rfl ?_
    exact ⟨rfl, H1.below⟩
  ·
    change Calls _ _ #[_, .int .u8 108] _ fun e w' => e = .returned (.tuple #[.agg #[.int .i64 (c.x - 1), .int .i64 (c.y)], .bool true]) ∧ Below w.heap.size w w'
    have H1 := ((Sep.start w).box 46 #[.int .i64 (c.x - 1), .int .i64 (c.y)]).box 46 #[.int .i64 (c.x - 1), .int .i64 (c.y)]
    simp only [World.size_alloc] at H1
    go_enter Tryz.func29, Tryz.ntmps29
    go_wp2
    refine bodyPost_ret (v := .tuple #[.agg #[.int .i64 (c.x - 1), .int .i64 (c.y)], .bool true]) (results_ct Tryz.results29 _ _ (w.heap.size + 1) 46 _ _ _ rfl H1.h0 Tryz.underlying46 rfl (by kernel_rfl)) rfl ?_
    exact ⟨rfl, H1.below⟩
  ·
    change Calls _ _ #[_, .int .u8 117] _ fun e w' => e = .returned (.tuple #[.agg #[.int .i64 (c.x), .int .i64 (c.y - 1)], .bool true]) ∧ Below w.heap.size w w'
    have H1 := ((Sep.start w).box 46 #[.int .i64 (c.x), .int .i64 (c.y - 1)]).box 46 #[.int .i64 (c.x), .int .i64 (c.y - 1)]
    simp only [World.size_alloc] at H1
    go_enter Tryz.func29, Tryz.ntmps29
    go_wp2
    refine bodyPost_ret (v := .tuple #[.agg #[.int .i64 (c.x), .int .i64 (c.y - 1)], .bool true]) (results_ct Tryz.results29 _ _ (w.heap.size + 1) 46 _ _ _ rfl H1.h0 Tryz.underlying46 rfl (by kernel_rfl)) rfl ?_
    exact ⟨rfl, H1.below⟩
end Go.Proofs.YtghpkfihdcjlaaaGreatDoor

namespace Go.Proofs.YtghpkfihdcjlaaaGreatDoor
open Go.RowKit

def pinC (s : List Cell) (c : Cell) : Bool := hs s (c.x + 1) (c.y + 1) && !hs s (c.x + 1) c.y && !hs s c.x (c.y + 1) || hs s (c.x - 1) (c.y + 1) && !hs s (c.x - 1) c.y && !hs s c.x (c.y + 1)
def pinS (s : List Cell) : Bool := s.any (pinC s)
/-- a corner where two cells meet that lie across -/
def pinK (s : List Cell) (x y : Int) : Bool := hs s (x - 1) (y - 1) && hs s x y && !hs s x (y - 1) && !hs s (x - 1) y || hs s x (y - 1) && hs s (x - 1) y && !hs s (x - 1) (y - 1) && !hs s x y
theorem hs_iff {s : List Cell} {x y : Int} : hs s x y = true ↔ (⟨x, y⟩ : Cell) ∈ s := by simp [hs]
theorem pinK_on {s : List Cell} (hon : ∀ c ∈ s, On c) {x y : Int} (h : pinK s x y = true) : (0 ≤ x ∧ x ≤ 8) ∧ (0 ≤ y ∧ y ≤ 8) := by
  unfold pinK at h
  simp only [Bool.or_eq_true, Bool.and_eq_true, hs_iff] at h
  rcases h with ⟨⟨⟨h1, _⟩, _⟩, _⟩ | ⟨⟨⟨h1, h2⟩, _⟩, _⟩
  · have := hon _ h1
    obtain ⟨⟨a, b⟩, c, d⟩ := this
    simp only at *
    omega
  · obtain ⟨⟨a, b⟩, c, d⟩ := hon _ h1
    obtain ⟨⟨a', b'⟩, c', d'⟩ := hon _ h2
    simp only at *
    omega
theorem pinK_pin {s : List Cell} {x y : Int} (h : pinK s x y = true) : pinS s = true := by
  unfold pinS
  rw [List.any_eq_true]
  unfold pinK at h
  rcases Bool.or_eq_true _ _ ▸ h with h | h
  · simp only [Bool.and_eq_true] at h
    refine ⟨_, hs_iff.1 h.1.1.1, ?_⟩
    unfold pinC
    simp only [Int.sub_add_cancel, h.1.1.2, h.1.2, h.2]
    rfl
  · simp only [Bool.and_eq_true] at h
    refine ⟨_, hs_iff.1 h.1.1.1, ?_⟩
    unfold pinC
    simp only [Int.sub_add_cancel, h.1.1.2, h.1.2, h.2]
    simp
theorem pin_pinK {s : List Cell} (h : pinS s = true) : ∃ x y, pinK s x y = true := by
  unfold pinS at h
  rw [List.any_eq_true] at h
  obtain ⟨⟨x, y⟩, hm, h⟩ := h
  have hxy := hs_iff.2 hm
  unfold pinC at h
  simp only at h
  rcases Bool.or_eq_true _ _ ▸ h with h | h
  · simp only [Bool.and_eq_true] at h
    refine ⟨x + 1, y + 1, ?_⟩
    unfold pinK
    simp only [Int.add_sub_cancel, hxy, h.1.1, h.1.2, h.2]
    rfl
  · simp only [Bool.and_eq_true] at h
    refine ⟨x, y + 1, ?_⟩
    unfold pinK
    simp only [Int.add_sub_cancel, hxy, h.1.1, h.1.2, h.2]
    simp
theorem pinS_no {s : List Cell} {k : Nat} {c : Cell} (h : s[k]? = some c) (hp : pinC s c = true) : pinS s = true := List.any_eq_true.2 ⟨c, List.mem_of_getElem? h, hp⟩
theorem pinS_yes {s : List Cell} (h : ∀ (k : Nat) (c : Cell), s[k]? = some c → pinC s c = false) : pinS s = false := by
  rw [Bool.eq_false_iff]
  intro hp
  obtain ⟨c, hm, hc⟩ := List.any_eq_true.1 hp
  obtain ⟨k, hk⟩ := List.getElem?_of_mem hm
  rw [h k c hk] at hc
  cases hc

set_option maxRecDepth 100000 in
set_option maxHeartbeats 6400000 in
theorem spec_pin_c {v : Value} {s : List Cell} (w : World) (h : CellsRd w 0 w.heap.size v s) (hn : s.length ≤ 8) (hon : ∀ c ∈ s, On c) :
    Calls Tryz.prog 32 #[v] w fun e w' => e = .returned (.bool (pinS s)) ∧ Below w.heap.size w w' := by
  obtain ⟨A, c, rfl, hm, hr⟩ := id h
  obtain ⟨R, hR⟩ : ∃ R, R = pinS s := ⟨_, rfl⟩
  rw [← hR]
  have HNO : Hid (∀ (k : Nat) (c : Cell), s[k]? = some c → pinC s c = true → R = true) := Lib.hid fun k c h1 h2 => by rw [hR]; exact pinS_no h1 h2
  have HYES : Hid ((∀ (k : Nat) (c : Cell), s[k]? = some c → pinC s c = false) → R = false) := Lib.hid fun h => by rw [hR]; exact pinS_yes h
  have HS : Hid (CellsRd w 0 w.heap.size (.slice A s.length c) s) := Lib.hid h
  have HRS := Lib.hid hr
  have HON := Lib.hid hon
  clear hR h hr hm hon
  go_enter Tryz.func32, Tryz.ntmps32
  go_wp2
  go_loopw [3] (fun i wr => ∃ k : Nat, k ≤ s.length ∧ i = .int .i64 k ∧ Hid (∀ (i : Nat) (c : Cell), i < k → s[i]? = some c → pinC s c = false) ∧ Below w.heap.size w wr) (fun i _ => s.length - (intOf i).toNat)
  case atStart => exact ⟨0, Nat.zero_le _, rfl, Lib.hid (fun i _ hi => absurd hi (by omega)), Below.refl _ _⟩
  case round =>
    obtain ⟨k, hk, rfl, HK, hb⟩ := hrel
    by_cases hlt : k < s.length
    · obtain ⟨d, hla⟩ : ∃ d, s[k]? = some d := ⟨s[k], List.getElem?_eq_getElem hlt⟩
      obtain ⟨⟨o1, o2⟩, o3, o4⟩ := HON.out d (List.mem_of_getElem? hla)
      obtain ⟨b, off, hA, _, hb0, hc⟩ := HRS.out.2 (by omega)
      have q1 : wr.cell? ⟨b, off + k * 2, none⟩ = some (.int .i64 d.x) := (hb.cell (p := ⟨b, off + k * 2, none⟩) hb0).trans (hc _ _ (cc_at hla).1)
      have q2 : wr.cell? ⟨b, off + k * 2 + 1, none⟩ = some (.int .i64 d.y) := (hb.cell (p := ⟨b, off + k * 2 + 1, none⟩) hb0).trans (by rw [Nat.add_assoc]; exact hc _ _ (cc_at hla).2)
      obtain ⟨b1, hb1⟩ : ∃ b, b = hs s (d.x + 1) (d.y + 1) := ⟨_, rfl⟩
      have H1 : Hid (∀ w', Below w.heap.size w w' → Calls Tryz.prog 57 #[.slice A s.length c, .int .i64 (d.x + 1), .int .i64 (d.y + 1)] w' fun e w'' => e = .returned (.bool b1) ∧ Below w'.heap.size w' w'') := Lib.hid fun w' hw => by
        rw [hb1]
        exact (spec_has2_c _ _ _ ((HS.out.keep (SameIn.of_below hw (Nat.le_refl _))).more (Nat.le_refl _) hw.size) (by omega)).mono fun _ _ ⟨h1, h2⟩ => ⟨h1, h2 ▸ Below.refl _ _⟩
      obtain ⟨b2, hb2⟩ : ∃ b, b = hs s (d.x + 1) (d.y) := ⟨_, rfl⟩
      have H2 : Hid (∀ w', Below w.heap.size w w' → Calls Tryz.prog 57 #[.slice A s.length c, .int .i64 (d.x + 1), .int .i64 (d.y)] w' fun e w'' => e = .returned (.bool b2) ∧ Below w'.heap.size w' w'') := Lib.hid fun w' hw => by
        rw [hb2]
        exact (spec_has2_c _ _ _ ((HS.out.keep (SameIn.of_below hw (Nat.le_refl _))).more (Nat.le_refl _) hw.size) (by omega)).mono fun _ _ ⟨h1, h2⟩ => ⟨h1, h2 ▸ Below.refl _ _⟩
      obtain ⟨b3, hb3⟩ : ∃ b, b = hs s (d.x) (d.y + 1) := ⟨_, rfl⟩
      have H3 : Hid (∀ w', Below w.heap.size w w' → Calls Tryz.prog 57 #[.slice A s.length c, .int .i64 (d.x), .int .i64 (d.y + 1)] w' fun e w'' => e = .returned (.bool b3) ∧ Below w'.heap.size w' w'') := Lib.hid fun w' hw => by
        rw [hb3]
        exact (spec_has2_c _ _ _ ((HS.out.keep (SameIn.of_below hw (Nat.le_refl _))).more (Nat.le_refl _) hw.size) (by omega)).mono fun _ _ ⟨h1, h2⟩ => ⟨h1, h2 ▸ Below.refl _ _⟩
      obtain ⟨b4, hb4⟩ : ∃ b, b = hs s (d.x - 1) (d.y + 1) := ⟨_, rfl⟩
      have H4 : Hid (∀ w', Below w.heap.size w w' → Calls Tryz.prog 57 #[.slice A s.length c, .int .i64 (d.x - 1), .int .i64 (d.y + 1)] w' fun e w'' => e = .returned (.bool b4) ∧ Below w'.heap.size w' w'') := Lib.hid fun w' hw => by
        rw [hb4]
        exact (spec_has2_c _ _ _ ((HS.out.keep (SameIn.of_below hw (Nat.le_refl _))).more (Nat.le_refl _) hw.size) (by omega)).mono fun _ _ ⟨h1, h2⟩ => ⟨h1, h2 ▸ Below.refl _ _⟩
      obtain ⟨b5, hb5⟩ : ∃ b, b = hs s (d.x - 1) (d.y) := ⟨_, rfl⟩
      have H5 : Hid (∀ w', Below w.heap.size w w' → Calls Tryz.prog 57 #[.slice A s.length c, .int .i64 (d.x - 1), .int .i64 (d.y)] w' fun e w'' => e = .returned (.bool b5) ∧ Below w'.heap.size w' w'') := Lib.hid fun w' hw => by
        rw [hb5]
        exact (spec_has2_c _ _ _ ((HS.out.keep (SameIn.of_below hw (Nat.le_refl _))).more (Nat.le_refl _) hw.size) (by omega)).mono fun _ _ ⟨h1, h2⟩ => ⟨h1, h2 ▸ Below.refl _ _⟩
      have HLA := Lib.hid hla
      have hP : pinC s d = (b1 && !b2 && !b3 || b4 && !b5 && !b3) := by rw [hb1, hb2, hb3, hb4, hb5]; rfl
      have HP := Lib.hid hP
      subst hA
      clear hb1 hb2 hb3 hb4 hb5 hP hla hc
      cases b1
      ·
        cases b4
        ·
          have HK2 : Hid (∀ (i : Nat) (c : Cell), i < k + 1 → s[i]? = some c → pinC s c = false) := Lib.hid fun i c hi hc => by
            by_cases e : i = k
            · subst e
              rw [HLA.out] at hc
              cases hc
              rw [HP.out]
              simp
            · exact HK.out i c (by omega) hc
          go_wp2_with (go_at_call 57; (first | with_reducible refine (H1.out _ hb).mono ?_ | with_reducible refine (H2.out _ hb).mono ?_ | with_reducible refine (H3.out _ hb).mono ?_ | with_reducible refine (H4.out _ hb).mono ?_ | with_reducible refine (H5.out _ hb).mono ?_); rintro e w1 ⟨rfl, bq⟩; replace hb := hb.trans (bq.mono hb.size); clear bq)
          go_roundw
          case rel => exact ⟨k + 1, by omega, by go_num, HK2, hb⟩
          case measure => simp [intOf]; omega
        cases b5
        rotate_left
        ·
          have HK2 : Hid (∀ (i : Nat) (c : Cell), i < k + 1 → s[i]? = some c → pinC s c = false) := Lib.hid fun i c hi hc => by
            by_cases e : i = k
            · subst e
              rw [HLA.out] at hc
              cases hc
              rw [HP.out]
              simp
            · exact HK.out i c (by omega) hc
          go_wp2_with (go_at_call 57; (first | with_reducible refine (H1.out _ hb).mono ?_ | with_reducible refine (H2.out _ hb).mono ?_ | with_reducible refine (H3.out _ hb).mono ?_ | with_reducible refine (H4.out _ hb).mono ?_ | with_reducible refine (H5.out _ hb).mono ?_); rintro e w1 ⟨rfl, bq⟩; replace hb := hb.trans (bq.mono hb.size); clear bq)
          go_roundw
          case rel => exact ⟨k + 1, by omega, by go_num, HK2, hb⟩
          case measure => simp [intOf]; omega
        cases b3
        ·
          obtain rfl : R = true := HNO.out k d HLA.out (by rw [HP.out]; simp)
          go_wp2_with (go_at_call 57; (first | with_reducible refine (H1.out _ hb).mono ?_ | with_reducible refine (H2.out _ hb).mono ?_ | with_reducible refine (H3.out _ hb).mono ?_ | with_reducible refine (H4.out _ hb).mono ?_ | with_reducible refine (H5.out _ hb).mono ?_); rintro e w1 ⟨rfl, bq⟩; replace hb := hb.trans (bq.mono hb.size); clear bq)
          go_ret
          exact ⟨rfl, hb⟩
        ·
          have HK2 : Hid (∀ (i : Nat) (c : Cell), i < k + 1 → s[i]? = some c → pinC s c = false) := Lib.hid fun i c hi hc => by
            by_cases e : i = k
            · subst e
              rw [HLA.out] at hc
              cases hc
              rw [HP.out]
              simp
            · exact HK.out i c (by omega) hc
          go_wp2_with (go_at_call 57; (first | with_reducible refine (H1.out _ hb).mono ?_ | with_reducible refine (H2.out _ hb).mono ?_ | with_reducible refine (H3.out _ hb).mono ?_ | with_reducible refine (H4.out _ hb).mono ?_ | with_reducible refine (H5.out _ hb).mono ?_); rintro e w1 ⟨rfl, bq⟩; replace hb := hb.trans (bq.mono hb.size); clear bq)
          go_roundw
          case rel => exact ⟨k + 1, by omega, by go_num, HK2, hb⟩
          case measure => simp [intOf]; omega
      cases b2
      rotate_left
      ·
        cases b4
        ·
          have HK2 : Hid (∀ (i : Nat) (c : Cell), i < k + 1 → s[i]? = some c → pinC s c = false) := Lib.hid fun i c hi hc => by
            by_cases e : i = k
            · subst e
              rw [HLA.out] at hc
              cases hc
              rw [HP.out]
              simp
            · exact HK.out i c (by omega) hc
          go_wp2_with (go_at_call 57; (first | with_reducible refine (H1.out _ hb).mono ?_ | with_reducible refine (H2.out _ hb).mono ?_ | with_reducible refine (H3.out _ hb).mono ?_ | with_reducible refine (H4.out _ hb).mono ?_ | with_reducible refine (H5.out _ hb).mono ?_); rintro e w1 ⟨rfl, bq⟩; replace hb := hb.trans (bq.mono hb.size); clear bq)
          go_roundw
          case rel => exact ⟨k + 1, by omega, by go_num, HK2, hb⟩
          case measure => simp [intOf]; omega
        cases b5
        rotate_left
        ·
          have HK2 : Hid (∀ (i : Nat) (c : Cell), i < k + 1 → s[i]? = some c → pinC s c = false) := Lib.hid fun i c hi hc => by
            by_cases e : i = k
            · subst e
              rw [HLA.out] at hc
              cases hc
              rw [HP.out]
              simp
            · exact HK.out i c (by omega) hc
          go_wp2_with (go_at_call 57; (first | with_reducible refine (H1.out _ hb).mono ?_ | with_reducible refine (H2.out _ hb).mono ?_ | with_reducible refine (H3.out _ hb).mono ?_ | with_reducible refine (H4.out _ hb).mono ?_ | with_reducible refine (H5.out _ hb).mono ?_); rintro e w1 ⟨rfl, bq⟩; replace hb := hb.trans (bq.mono hb.size); clear bq)
          go_roundw
          case rel => exact ⟨k + 1, by omega, by go_num, HK2, hb⟩
          case measure => simp [intOf]; omega
        cases b3
        ·
          obtain rfl : R = true := HNO.out k d HLA.out (by rw [HP.out]; simp)
          go_wp2_with (go_at_call 57; (first | with_reducible refine (H1.out _ hb).mono ?_ | with_reducible refine (H2.out _ hb).mono ?_ | with_reducible refine (H3.out _ hb).mono ?_ | with_reducible refine (H4.out _ hb).mono ?_ | with_reducible refine (H5.out _ hb).mono ?_); rintro e w1 ⟨rfl, bq⟩; replace hb := hb.trans (bq.mono hb.size); clear bq)
          go_ret
          exact ⟨rfl, hb⟩
        ·
          have HK2 : Hid (∀ (i : Nat) (c : Cell), i < k + 1 → s[i]? = some c → pinC s c = false) := Lib.hid fun i c hi hc => by
            by_cases e : i = k
            · subst e
              rw [HLA.out] at hc
              cases hc
              rw [HP.out]
              simp
            · exact HK.out i c (by omega) hc
          go_wp2_with (go_at_call 57; (first | with_reducible refine (H1.out _ hb).mono ?_ | with_reducible refine (H2.out _ hb).mono ?_ | with_reducible refine (H3.out _ hb).mono ?_ | with_reducible refine (H4.out _ hb).mono ?_ | with_reducible refine (H5.out _ hb).mono ?_); rintro e w1 ⟨rfl, bq⟩; replace hb := hb.trans (bq.mono hb.size); clear bq)
          go_roundw
          case rel => exact ⟨k + 1, by omega, by go_num, HK2, hb⟩
          case measure => simp [intOf]; omega
      cases b3
      ·
        obtain rfl : R = true := HNO.out k d HLA.out (by rw [HP.out]; simp)
        go_wp2_with (go_at_call 57; (first | with_reducible refine (H1.out _ hb).mono ?_ | with_reducible refine (H2.out _ hb).mono ?_ | with_reducible refine (H3.out _ hb).mono ?_ | with_reducible refine (H4.out _ hb).mono ?_ | with_reducible refine (H5.out _ hb).mono ?_); rintro e w1 ⟨rfl, bq⟩; replace hb := hb.trans (bq.mono hb.size); clear bq)
        go_ret
        exact ⟨rfl, hb⟩
      cases b4
      ·
        have HK2 : Hid (∀ (i : Nat) (c : Cell), i < k + 1 → s[i]? = some c → pinC s c = false) := Lib.hid fun i c hi hc => by
          by_cases e : i = k
          · subst e
            rw [HLA.out] at hc
            cases hc
            rw [HP.out]
            simp
          · exact HK.out i c (by omega) hc
        go_wp2_with (go_at_call 57; (first | with_reducible refine (H1.out _ hb).mono ?_ | with_reducible refine (H2.out _ hb).mono ?_ | with_reducible refine (H3.out _ hb).mono ?_ | with_reducible refine (H4.out _ hb).mono ?_ | with_reducible refine (H5.out _ hb).mono ?_); rintro e w1 ⟨rfl, bq⟩; replace hb := hb.trans (bq.mono hb.size); clear bq)
        go_roundw
        case rel => exact ⟨k + 1, by omega, by go_num, HK2, hb⟩
        case measure => simp [intOf]; omega
      cases b5
      ·
        have HK2 : Hid (∀ (i : Nat) (c : Cell), i < k + 1 → s[i]? = some c → pinC s c = false) := Lib.hid fun i c hi hc => by
          by_cases e : i = k
          · subst e
            rw [HLA.out] at hc
            cases hc
            rw [HP.out]
            simp
          · exact HK.out i c (by omega) hc
        go_wp2_with (go_at_call 57; (first | with_reducible refine (H1.out _ hb).mono ?_ | with_reducible refine (H2.out _ hb).mono ?_ | with_reducible refine (H3.out _ hb).mono ?_ | with_reducible refine (H4.out _ hb).mono ?_ | with_reducible refine (H5.out _ hb).mono ?_); rintro e w1 ⟨rfl, bq⟩; replace hb := hb.trans (bq.mono hb.size); clear bq)
        go_roundw
        case rel => exact ⟨k + 1, by omega, by go_num, HK2, hb⟩
        case measure => simp [intOf]; omega
      ·
        have HK2 : Hid (∀ (i : Nat) (c : Cell), i < k + 1 → s[i]? = some c → pinC s c = false) := Lib.hid fun i c hi hc => by
          by_cases e : i = k
          · subst e
            rw [HLA.out] at hc
            cases hc
            rw [HP.out]
            simp
          · exact HK.out i c (by omega) hc
        go_wp2_with (go_at_call 57; (first | with_reducible refine (H1.out _ hb).mono ?_ | with_reducible refine (H2.out _ hb).mono ?_ | with_reducible refine (H3.out _ hb).mono ?_ | with_reducible refine (H4.out _ hb).mono ?_ | with_reducible refine (H5.out _ hb).mono ?_); rintro e w1 ⟨rfl, bq⟩; replace hb := hb.trans (bq.mono hb.size); clear bq)
        go_roundw
        case rel => exact ⟨k + 1, by omega, by go_num, HK2, hb⟩
        case measure => simp [intOf]; omega
    · obtain rfl : k = s.length := by omega
      obtain rfl : R = false := HYES.out fun k c hc => HK.out k c (List.getElem?_eq_some_iff.1 hc).1 hc
      go_wp2
      go_ret
      exact ⟨rfl, hb⟩
end Go.Proofs.YtghpkfihdcjlaaaGreatDoor

namespace Go.Proofs.YtghpkfihdcjlaaaGreatDoor
open Go.RowKit

def outD (s : List Cell) (c : Cell) : Nat := if edge s c 0 then 0 else if edge s c 1 then 1 else if edge s c 2 then 2 else 3
def wlk (s : List Cell) (a : Cell) : Nat → Cell
  | 0 => a
  | n + 1 => stepC (wlk s a n) (outD s (wlk s a n))
/-- a step into a corner -/
def inE (s : List Cell) (q : Cell) : Nat → Bool
  | 0 => hs s (q.x - 1) q.y && !hs s (q.x - 1) (q.y - 1)
  | 1 => hs s (q.x - 1) (q.y - 1) && !hs s q.x (q.y - 1)
  | 2 => hs s q.x (q.y - 1) && !hs s q.x q.y
  | _ => hs s q.x q.y && !hs s (q.x - 1) q.y
theorem inE_eq {s : List Cell} {c : Cell} {d : Nat} (hd : d < 4) : inE s (stepC c d) d = edge s c d := by
  have h4 : d = 0 ∨ d = 1 ∨ d = 2 ∨ d = 3 := by omega
  rcases h4 with rfl | rfl | rfl | rfl <;> simp only [inE, edge, stepC, Int.add_sub_cancel]
theorem pinK_off {s : List Cell} (h : pinS s = false) (x y : Int) : pinK s x y = false := by
  rw [Bool.eq_false_iff]
  intro hk
  rw [pinK_pin hk] at h
  cases h
theorem edge_uniq {s : List Cell} {c : Cell} (h : pinS s = false) {d e : Nat} (hd : d < 4) (he : e < 4) (h1 : edge s c d = true) (h2 : edge s c e = true) : d = e := by
  have hp := pinK_off h c.x c.y
  have h4 : d = 0 ∨ d = 1 ∨ d = 2 ∨ d = 3 := by omega
  have h5 : e = 0 ∨ e = 1 ∨ e = 2 ∨ e = 3 := by omega
  unfold pinK at hp
  rcases h4 with rfl | rfl | rfl | rfl <;> rcases h5 with rfl | rfl | rfl | rfl <;> simp only [edge] at h1 h2 <;> first | rfl | (exfalso; revert hp h1 h2; generalize hs s (c.x - 1) (c.y - 1) = p; generalize hs s c.x (c.y - 1) = q; generalize hs s (c.x - 1) c.y = r; generalize hs s c.x c.y = t; revert p q r t; decide)
theorem inE_uniq {s : List Cell} {c : Cell} (h : pinS s = false) {d e : Nat} (hd : d < 4) (he : e < 4) (h1 : inE s c d = true) (h2 : inE s c e = true) : d = e := by
  have hp := pinK_off h c.x c.y
  have h4 : d = 0 ∨ d = 1 ∨ d = 2 ∨ d = 3 := by omega
  have h5 : e = 0 ∨ e = 1 ∨ e = 2 ∨ e = 3 := by omega
  unfold pinK at hp
  rcases h4 with rfl | rfl | rfl | rfl <;> rcases h5 with rfl | rfl | rfl | rfl <;> simp only [inE] at h1 h2 <;> first | rfl | (exfalso; revert hp h1 h2; generalize hs s (c.x - 1) (c.y - 1) = p; generalize hs s c.x (c.y - 1) = q; generalize hs s (c.x - 1) c.y = r; generalize hs s c.x c.y = t; revert p q r t; decide)
theorem in_out {s : List Cell} {c : Cell} {d : Nat} (hd : d < 4) (h1 : inE s c d = true) : edge s c ((d + 3) % 4) = true ∨ edge s c ((d + 4) % 4) = true ∨ edge s c ((d + 5) % 4) = true := by
  have h4 : d = 0 ∨ d = 1 ∨ d = 2 ∨ d = 3 := by omega
  rcases h4 with rfl | rfl | rfl | rfl <;> simp only [inE, edge, Nat.reduceAdd, Nat.reduceMod] at * <;> (revert h1; generalize hs s (c.x - 1) (c.y - 1) = p; generalize hs s c.x (c.y - 1) = q; generalize hs s (c.x - 1) c.y = r; generalize hs s c.x c.y = t; revert p q r t; decide)
theorem outD_lt (s : List Cell) (c : Cell) : outD s c < 4 := by
  unfold outD
  repeat' split
  all_goals omega
theorem outD_edge {s : List Cell} {c : Cell} {e : Nat} (he : e < 4) (h : edge s c e = true) : edge s c (outD s c) = true := by
  have h4 : e = 0 ∨ e = 1 ∨ e = 2 ∨ e = 3 := by omega
  unfold outD
  repeat' split
  all_goals try assumption
  rcases h4 with rfl | rfl | rfl | rfl
  · contradiction
  · contradiction
  · contradiction
  · exact h
theorem outD_is {s : List Cell} {c : Cell} (hp : pinS s = false) {e : Nat} (he : e < 4) (h : edge s c e = true) : outD s c = e := edge_uniq hp (outD_lt s c) he (outD_edge he h) h
theorem edge_on {s : List Cell} (hon : ∀ c ∈ s, On c) {c : Cell} {d : Nat} (h : edge s c d = true) : (0 ≤ c.x ∧ c.x ≤ 8) ∧ (0 ≤ c.y ∧ c.y ≤ 8) := by
  have key : ∀ x y : Int, hs s x y = true → (0 ≤ x ∧ x ≤ 7) ∧ (0 ≤ y ∧ y ≤ 7) := fun x y h => by
    obtain ⟨⟨a, b⟩, c, d⟩ := hon _ (hs_iff.1 h)
    simp only at *
    omega
  unfold edge at h
  split at h <;> (rw [Bool.and_eq_true] at h; have := key _ _ h.1; omega)
/-- what is asked of a shape -/
structure Bord (s : List Cell) (a : Cell) : Prop where
  on : ∀ c ∈ s, On c
  free : pinS s = false
  first : edge s a 0 = true
section
variable {s : List Cell} {a : Cell}
theorem Bord.edg (h : Bord s a) : ∀ n, edge s (wlk s a n) (outD s (wlk s a n)) = true
  | 0 => outD_edge (by decide) h.first
  | n + 1 => by
    have ih := h.edg n
    have hl := outD_lt s (wlk s a n)
    rw [← inE_eq hl] at ih
    have hm : ∀ k, k % 4 < 4 := fun k => Nat.mod_lt _ (by decide)
    rcases in_out hl ih with h1 | h1 | h1
    · exact outD_edge (hm _) h1
    · exact outD_edge (hm _) h1
    · exact outD_edge (hm _) h1
theorem Bord.turn (h : Bord s a) (n : Nat) : edge s (wlk s a (n + 1)) ((outD s (wlk s a n) + 3) % 4) = true ∨ edge s (wlk s a (n + 1)) ((outD s (wlk s a n) + 4) % 4) = true ∨ edge s (wlk s a (n + 1)) ((outD s (wlk s a n) + 5) % 4) = true := by
  have ih := h.edg n
  have hl := outD_lt s (wlk s a n)
  rw [← inE_eq hl] at ih
  exact in_out hl ih
theorem Bord.on_ (h : Bord s a) (n : Nat) : (0 ≤ (wlk s a n).x ∧ (wlk s a n).x ≤ 8) ∧ (0 ≤ (wlk s a n).y ∧ (wlk s a n).y ≤ 8) := edge_on h.on (h.edg n)
theorem Bord.back (h : Bord s a) {i j : Nat} (e : wlk s a (i + 1) = wlk s a (j + 1)) : wlk s a i = wlk s a j := by
  have h1 := h.edg i
  have h2 := h.edg j
  have l1 := outD_lt s (wlk s a i)
  have l2 := outD_lt s (wlk s a j)
  rw [← inE_eq l1] at h1
  rw [← inE_eq l2] at h2
  have e' : stepC (wlk s a i) (outD s (wlk s a i)) = stepC (wlk s a j) (outD s (wlk s a j)) := e
  rw [← e'] at h2
  have hd := inE_uniq h.free l1 l2 h1 h2
  rw [← hd] at e'
  generalize outD s (wlk s a i) = d at *
  generalize wlk s a i = p at *
  generalize wlk s a j = q at *
  obtain ⟨px, py⟩ := p
  obtain ⟨qx, qy⟩ := q
  have h4 : d = 0 ∨ d = 1 ∨ d = 2 ∨ d = 3 := by omega
  rcases h4 with rfl | rfl | rfl | rfl <;> (simp only [stepC, Cell.mk.injEq] at e' ⊢; omega)
theorem Bord.apart (h : Bord s a) {N : Nat} (hN : ∀ k, 1 ≤ k → k ≤ N → wlk s a k ≠ a) : ∀ i j, i < j → j ≤ N → wlk s a i ≠ wlk s a j
  | 0, j, hij, hj => fun e => hN j (by omega) hj e.symm
  | i + 1, j, hij, hj => fun e => by
    obtain ⟨k, rfl⟩ : ∃ k, j = k + 1 := ⟨j - 1, by omega⟩
    exact h.apart hN i k (by omega) (by omega) (h.back e)
theorem Bord.short (h : Bord s a) {N : Nat} (hN : ∀ k, 1 ≤ k → k ≤ N → wlk s a k ≠ a) : N < 81 := by
  have hnd : ((List.range (N + 1)).map (wlk s a)).Nodup := by
    rw [List.nodup_iff_pairwise_ne, List.pairwise_map]
    have hp : (List.range (N + 1)).Pairwise (· < ·) := List.pairwise_lt_range
    refine hp.imp_of_mem fun {i j} hi hj hij => h.apart hN i j hij ?_
    rw [List.mem_range] at hj
    omega
  have := nodup_len hnd (G := gridL 0 0 9 9) fun c hc => by
    obtain ⟨n, _, rfl⟩ := List.mem_map.1 hc
    obtain ⟨⟨a1, a2⟩, a3, a4⟩ := h.on_ n
    exact gridL_mem (by omega) (by omega) (by omega) (by omega)
  rw [gridL_len] at this
  simp at this
  omega
/-- how long the way around is -/
theorem Bord.round (h : Bord s a) : ∃ K, 1 ≤ K ∧ K ≤ 81 ∧ wlk s a K = a ∧ ∀ k, 1 ≤ k → k < K → wlk s a k ≠ a := by
  have hex : ∃ K, 1 ≤ K ∧ wlk s a K = a := by
    apply Classical.byContradiction
    intro hn
    have := h.short (N := 81) fun k h1 _ e => hn ⟨k, h1, e⟩
    omega
  have : ∀ m, (∃ K, K ≤ m ∧ 1 ≤ K ∧ wlk s a K = a) → ∃ K, 1 ≤ K ∧ wlk s a K = a ∧ ∀ k, 1 ≤ k → k < K → wlk s a k ≠ a := by
    intro m
    induction m with
    | zero => rintro ⟨K, h1, h2, _⟩; omega
    | succ m ih =>
      rintro ⟨K, h1, h2, h3⟩
      by_cases hc : ∃ K, K ≤ m ∧ 1 ≤ K ∧ wlk s a K = a
      · exact ih hc
      · exact ⟨K, h2, h3, fun k k1 k2 e => hc ⟨k, by omega, k1, e⟩⟩
  obtain ⟨K0, k1, k2⟩ := hex
  obtain ⟨K, h1, h2, h3⟩ := this K0 ⟨K0, Nat.le_refl _, k1, k2⟩
  refine ⟨K, h1, ?_, h2, h3⟩
  have := h.short (N := K - 1) fun k q1 q2 => h3 k q1 (by omega)
  omega
end
def dirU : Nat → UInt8
  | 0 => 114
  | 1 => 100
  | 2 => 108
  | _ => 117
def wrd (s : List Cell) (a : Cell) (n : Nat) : List UInt8 := (List.range n).map fun k => dirU (outD s (wlk s a k))
theorem wrd_succ {s : List Cell} {a : Cell} {n : Nat} : wrd s a (n + 1) = wrd s a n ++ [dirU (outD s (wlk s a n))] := by simp [wrd, List.range_succ]
theorem wrd_len {s : List Cell} {a : Cell} {n : Nat} : (wrd s a n).length = n := by simp [wrd]
end Go.Proofs.YtghpkfihdcjlaaaGreatDoor

namespace Go.Proofs.YtghpkfihdcjlaaaGreatDoor
open Go.RowKit

noncomputable def bordOk (s : List Cell) : Bool := connS s && decide (holesZ s = 0) && !pinS s
theorem shp_first {s : List Cell} (h : isShape s = true) {a : Cell} (ha : s[0]? = some a) : edge s a 0 = true := by
  have key : ∀ x y : Int, y < a.y → hs s x y = false := fun x y hy => by
    rw [Bool.eq_false_iff]
    intro hm
    obtain ⟨j, hj⟩ := List.getElem?_of_mem (hs_iff.1 hm)
    cases j with
    | zero =>
      rw [ha] at hj
      cases hj
      simp only at hy
      omega
    | succ j =>
      have := shp_pair h ha (j + 1) (by omega) hj
      unfold befB at this
      simp at this
      omega
  unfold edge
  rw [key a.x (a.y - 1) (by omega)]
  have : hs s a.x a.y = true := hs_iff.2 (List.mem_of_getElem? ha)
  rw [this]
  rfl
structure BordIs (s : List Cell) (a : Cell) (K : Nat) : Prop where
  bord : Bord s a
  lo : 1 ≤ K
  hi : K ≤ 81
  home : wlk s a K = a
  away : ∀ k, 1 ≤ k → k < K → wlk s a k ≠ a
theorem bord_ex {s : List Cell} (h : isShape s = true) (hp : pinS s = false) {a : Cell} (ha : s[0]? = some a) : ∃ K, BordIs s a K := by
  have hb : Bord s a := ⟨fun c hc => shp_on h hc, hp, shp_first h ha⟩
  obtain ⟨K, h1, h2, h3, h4⟩ := hb.round
  exact ⟨K, hb, h1, h2, h3, h4⟩
theorem BordIs.len {s : List Cell} {a : Cell} {K K' : Nat} (h : BordIs s a K) (h' : BordIs s a K') : K = K' := by
  apply Classical.byContradiction
  intro hn
  by_cases hl : K < K'
  · exact h'.away K h.lo hl h.home
  · exact h.away K' h'.lo (by omega) h'.home
open Classical in
noncomputable def bordW (s : List Cell) : List UInt8 := if h : ∃ a K, bordOk s = true ∧ s[0]? = some a ∧ BordIs s a K then wrd s h.choose h.choose_spec.choose else []
theorem bordW_no {s : List Cell} (h : bordOk s = false) : bordW s = [] := by
  unfold bordW
  rw [dif_neg]
  rintro ⟨a, K, h1, _⟩
  rw [h] at h1
  cases h1
theorem bordW_yes {s : List Cell} (h : bordOk s = true) {a : Cell} {K : Nat} (ha : s[0]? = some a) (hb : BordIs s a K) : bordW s = wrd s a K := by
  have hex : ∃ a K, bordOk s = true ∧ s[0]? = some a ∧ BordIs s a K := ⟨a, K, h, ha, hb⟩
  unfold bordW
  rw [dif_pos hex]
  obtain ⟨_, h2, h3⟩ := hex.choose_spec.choose_spec
  generalize hex.choose_spec.choose = K' at *
  generalize hex.choose = a' at *
  rw [ha] at h2
  cases h2
  rw [hb.len h3]
theorem outD_0 {s : List Cell} {a : Cell} {K : Nat} (h : BordIs s a K) : outD s a = 0 := outD_is h.bord.free (by decide) h.bord.first
abbrev wstr (l : List UInt8) : ByteArray := ⟨l.toArray⟩
theorem wstr_size {l : List UInt8} : (wstr l).size = l.length := List.size_toArray
theorem wstr_app {l : List UInt8} {b : UInt8} : wstr l ++ wstr [b] = wstr (l ++ [b]) := by
  unfold wstr
  apply ByteArray.ext
  simp
end Go.Proofs.YtghpkfihdcjlaaaGreatDoor

namespace Go.Proofs.YtghpkfihdcjlaaaGreatDoor
open Go.RowKit

theorem pinS_none {s : List Cell} (hon : ∀ c ∈ s, On c) (h : ∀ x y : Nat, x < 9 → y < 9 → pinK s x y = false) : pinS s = false := by
  rw [Bool.eq_false_iff]
  intro hp
  obtain ⟨x, y, hk⟩ := pin_pinK hp
  obtain ⟨⟨a, b⟩, c, d⟩ := pinK_on hon hk
  have := h x.toNat y.toNat (by omega) (by omega)
  rw [show ((x.toNat : Nat) : Int) = x by omega, show ((y.toNat : Nat) : Int) = y by omega, hk] at this
  cases this
set_option maxRecDepth 100000 in
set_option maxHeartbeats 6400000 in
theorem impl_pin_c {v : Value} {s : List Cell} (w : World) (h : CellsRd w 0 w.heap.size v s) (hn : s.length ≤ 8) (hon : ∀ c ∈ s, On c) :
    Calls Tryz.prog 27 #[v] w fun e w' => e = .returned (.bool (pinS s)) ∧ Below w.heap.size w w' := by
  obtain ⟨A, c, rfl, hm, hr⟩ := id h
  obtain ⟨R, hR⟩ : ∃ R, R = pinS s := ⟨_, rfl⟩
  rw [← hR]
  have HNO : Hid (∀ x y : Nat, pinK s x y = true → R = true) := Lib.hid fun x y h2 => by rw [hR]; exact pinK_pin h2
  have HYES : Hid ((∀ x y : Nat, x < 9 → y < 9 → pinK s x y = false) → R = false) := Lib.hid fun h => by rw [hR]; exact pinS_none hon h
  have HS : Hid (CellsRd w 0 w.heap.size (.slice A s.length c) s) := Lib.hid h
  clear hR h hr hm hon
  go_enter Tryz.func27, Tryz.ntmps27
  go_wp2
  go_loopw [3] (fun i wr => ∃ y : Nat, y ≤ 9 ∧ i = .int .i64 y ∧ Hid (∀ x' y' : Nat, x' < 9 → y' < y → pinK s x' y' = false) ∧ Below w.heap.size w wr) (fun i _ => 9 - (intOf i).toNat)
  case atStart => exact ⟨0, Nat.zero_le _, rfl, Lib.hid (fun _ _ _ hi => absurd hi (by omega)), Below.refl _ _⟩
  case round =>
    obtain ⟨y, hy9, rfl, HY, hb⟩ := hrel
    by_cases hy : y < 9
    · have hy8 : decide ((y : Int) ≤ 8) = true := decide_eq_true (by omega)
      go_wp2
      go_loopw [4] (fun i wr => ∃ x : Nat, x ≤ 9 ∧ i = .int .i64 x ∧ Hid (∀ x' : Nat, x' < x → pinK s x' y = false) ∧ Below w.heap.size w wr) (fun i _ => 9 - (intOf i).toNat)
      case atStart => exact ⟨0, Nat.zero_le _, rfl, Lib.hid (fun _ hi => absurd hi (by omega)), hb⟩
      case round =>
        clear hb
        obtain ⟨x, hx9, rfl, HX, hb⟩ := hrel
        by_cases hx : x < 9
        · have hx8 : decide ((x : Int) ≤ 8) = true := decide_eq_true (by omega)
          obtain ⟨b1, hb1⟩ : ∃ b, b = hs s ((x : Int) - 1) ((y : Int) - 1) := ⟨_, rfl⟩
          have H1 : Hid (∀ w', Below w.heap.size w w' → Calls Tryz.prog 55 #[.slice A s.length c, .int .i64 ((x : Int) - 1), .int .i64 ((y : Int) - 1)] w' fun e w'' => e = .returned (.bool b1) ∧ Below w'.heap.size w' w'') := Lib.hid fun w' hw => by
            rw [hb1]
            exact impl_has2_c _ _ _ ((HS.out.keep (SameIn.of_below hw (Nat.le_refl _))).more (Nat.le_refl _) hw.size) (by omega)
          obtain ⟨b2, hb2⟩ : ∃ b, b = hs s ((x : Int)) ((y : Int) - 1) := ⟨_, rfl⟩
          have H2 : Hid (∀ w', Below w.heap.size w w' → Calls Tryz.prog 55 #[.slice A s.length c, .int .i64 ((x : Int)), .int .i64 ((y : Int) - 1)] w' fun e w'' => e = .returned (.bool b2) ∧ Below w'.heap.size w' w'') := Lib.hid fun w' hw => by
            rw [hb2]
            exact impl_has2_c _ _ _ ((HS.out.keep (SameIn.of_below hw (Nat.le_refl _))).more (Nat.le_refl _) hw.size) (by omega)
          obtain ⟨b3, hb3⟩ : ∃ b, b = hs s ((x : Int) - 1) ((y : Int)) := ⟨_, rfl⟩
          have H3 : Hid (∀ w', Below w.heap.size w w' → Calls Tryz.prog 55 #[.slice A s.length c, .int .i64 ((x : Int) - 1), .int .i64 ((y : Int))] w' fun e w'' => e = .returned (.bool b3) ∧ Below w'.heap.size w' w'') := Lib.hid fun w' hw => by
            rw [hb3]
            exact impl_has2_c _ _ _ ((HS.out.keep (SameIn.of_below hw (Nat.le_refl _))).more (Nat.le_refl _) hw.size) (by omega)
          obtain ⟨b4, hb4⟩ : ∃ b, b = hs s ((x : Int)) ((y : Int)) := ⟨_, rfl⟩
          have H4 : Hid (∀ w', Below w.heap.size w w' → Calls Tryz.prog 55 #[.slice A s.length c, .int .i64 ((x : Int)), .int .i64 ((y : Int))] w' fun e w'' => e = .returned (.bool b4) ∧ Below w'.heap.size w' w'') := Lib.hid fun w' hw => by
            rw [hb4]
            exact impl_has2_c _ _ _ ((HS.out.keep (SameIn.of_below hw (Nat.le_refl _))).more (Nat.le_refl _) hw.size) (by omega)
          have hP : pinK s x y = (b1 && b4 && !b2 && !b3 || b2 && b3 && !b1 && !b4) := by rw [hb1, hb2, hb3, hb4]; rfl
          have HP := Lib.hid hP
          clear hb1 hb2 hb3 hb4 hP
          cases b1
          ·
            cases b2
            ·
              have HX2 : Hid (∀ x' : Nat, x' < x + 1 → pinK s x' y = false) := Lib.hid fun x' hx' => by
                by_cases e : x' = x
                · subst e
                  rw [HP.out]
                  simp
                · exact HX.out x' (by omega)
              go_wp2_with (go_at_call 55; (first | with_reducible refine (H1.out _ hb).mono ?_ | with_reducible refine (H2.out _ hb).mono ?_ | with_reducible refine (H3.out _ hb).mono ?_ | with_reducible refine (H4.out _ hb).mono ?_); rintro e w1 ⟨rfl, bq⟩; replace hb := hb.trans (bq.mono hb.size); clear bq)
              go_roundw
              case rel => exact ⟨x + 1, by omega, by go_num, HX2, hb⟩
              case measure => simp [intOf]; omega
            cases b3
            ·
              have HX2 : Hid (∀ x' : Nat, x' < x + 1 → pinK s x' y = false) := Lib.hid fun x' hx' => by
                by_cases e : x' = x
                · subst e
                  rw [HP.out]
                  simp
                · exact HX.out x' (by omega)
              go_wp2_with (go_at_call 55; (first | with_reducible refine (H1.out _ hb).mono ?_ | with_reducible refine (H2.out _ hb).mono ?_ | with_reducible refine (H3.out _ hb).mono ?_ | with_reducible refine (H4.out _ hb).mono ?_); rintro e w1 ⟨rfl, bq⟩; replace hb := hb.trans (bq.mono hb.size); clear bq)
              go_roundw
              case rel => exact ⟨x + 1, by omega, by go_num, HX2, hb⟩
              case measure => simp [intOf]; omega
            cases b4
            ·
              obtain rfl : R = true := HNO.out x y (by rw [HP.out]; simp)
              go_wp2_with (go_at_call 55; (first | with_reducible refine (H1.out _ hb).mono ?_ | with_reducible refine (H2.out _ hb).mono ?_ | with_reducible refine (H3.out _ hb).mono ?_ | with_reducible refine (H4.out _ hb).mono ?_); rintro e w1 ⟨rfl, bq⟩; replace hb := hb.trans (bq.mono hb.size); clear bq)
              go_ret
              exact ⟨rfl, hb⟩
            ·
              have HX2 : Hid (∀ x' : Nat, x' < x + 1 → pinK s x' y = false) := Lib.hid fun x' hx' => by
                by_cases e : x' = x
                · subst e
                  rw [HP.out]
                  simp
                · exact HX.out x' (by omega)
              go_wp2_with (go_at_call 55; (first | with_reducible refine (H1.out _ hb).mono ?_ | with_reducible refine (H2.out _ hb).mono ?_ | with_reducible refine (H3.out _ hb).mono ?_ | with_reducible refine (H4.out _ hb).mono ?_); rintro e w1 ⟨rfl, bq⟩; replace hb := hb.trans (bq.mono hb.size); clear bq)
              go_roundw
              case rel => exact ⟨x + 1, by omega, by go_num, HX2, hb⟩
              case measure => simp [intOf]; omega
          cases b4
          ·
            cases b2
            ·
              have HX2 : Hid (∀ x' : Nat, x' < x + 1 → pinK s x' y = false) := Lib.hid fun x' hx' => by
                by_cases e : x' = x
                · subst e
                  rw [HP.out]
                  simp
                · exact HX.out x' (by omega)
              go_wp2_with (go_at_call 55; (first | with_reducible refine (H1.out _ hb).mono ?_ | with_reducible refine (H2.out _ hb).mono ?_ | with_reducible refine (H3.out _ hb).mono ?_ | with_reducible refine (H4.out _ hb).mono ?_); rintro e w1 ⟨rfl, bq⟩; replace hb := hb.trans (bq.mono hb.size); clear bq)
              go_roundw
              case rel => exact ⟨x + 1, by omega, by go_num, HX2, hb⟩
              case measure => simp [intOf]; omega
            cases b3
            ·
              have HX2 : Hid (∀ x' : Nat, x' < x + 1 → pinK s x' y = false) := Lib.hid fun x' hx' => by
                by_cases e : x' = x
                · subst e
                  rw [HP.out]
                  simp
                · exact HX.out x' (by omega)
              go_wp2_with (go_at_call 55; (first | with_reducible refine (H1.out _ hb).mono ?_ | with_reducible refine (H2.out _ hb).mono ?_ | with_reducible refine (H3.out _ hb).mono ?_ | with_reducible refine (H4.out _ hb).mono ?_); rintro e w1 ⟨rfl, bq⟩; replace hb := hb.trans (bq.mono hb.size); clear bq)
              go_roundw
              case rel => exact ⟨x + 1, by omega, by go_num, HX2, hb⟩
              case measure => simp [intOf]; omega
            ·
              have HX2 : Hid (∀ x' : Nat, x' < x + 1 → pinK s x' y = false) := Lib.hid fun x' hx' => by
                by_cases e : x' = x
                · subst e
                  rw [HP.out]
                  simp
                · exact HX.out x' (by omega)
              go_wp2_with (go_at_call 55; (first | with_reducible refine (H1.out _ hb).mono ?_ | with_reducible refine (H2.out _ hb).mono ?_ | with_reducible refine (H3.out _ hb).mono ?_ | with_reducible refine (H4.out _ hb).mono ?_); rintro e w1 ⟨rfl, bq⟩; replace hb := hb.trans (bq.mono hb.size); clear bq)
              go_roundw
              case rel => exact ⟨x + 1, by omega, by go_num, HX2, hb⟩
              case measure => simp [intOf]; omega
          cases b2
          ·
            cases b3
            ·
              obtain rfl : R = true := HNO.out x y (by rw [HP.out]; simp)
              go_wp2_with (go_at_call 55; (first | with_reducible refine (H1.out _ hb).mono ?_ | with_reducible refine (H2.out _ hb).mono ?_ | with_reducible refine (H3.out _ hb).mono ?_ | with_reducible refine (H4.out _ hb).mono ?_); rintro e w1 ⟨rfl, bq⟩; replace hb := hb.trans (bq.mono hb.size); clear bq)
              go_ret
              exact ⟨rfl, hb⟩
            ·
              have HX2 : Hid (∀ x' : Nat, x' < x + 1 → pinK s x' y = false) := Lib.hid fun x' hx' => by
                by_cases e : x' = x
                · subst e
                  rw [HP.out]
                  simp
                · exact HX.out x' (by omega)
              go_wp2_with (go_at_call 55; (first | with_reducible refine (H1.out _ hb).mono ?_ | with_reducible refine (H2.out _ hb).mono ?_ | with_reducible refine (H3.out _ hb).mono ?_ | with_reducible refine (H4.out _ hb).mono ?_); rintro e w1 ⟨rfl, bq⟩; replace hb := hb.trans (bq.mono hb.size); clear bq)
              go_roundw
              case rel => exact ⟨x + 1, by omega, by go_num, HX2, hb⟩
              case measure => simp [intOf]; omega
          cases b3
          ·
            have HX2 : Hid (∀ x' : Nat, x' < x + 1 → pinK s x' y = false) := Lib.hid fun x' hx' => by
              by_cases e : x' = x
              · subst e
                rw [HP.out]
                simp
              · exact HX.out x' (by omega)
            go_wp2_with (go_at_call 55; (first | with_reducible refine (H1.out _ hb).mono ?_ | with_reducible refine (H2.out _ hb).mono ?_ | with_reducible refine (H3.out _ hb).mono ?_ | with_reducible refine (H4.out _ hb).mono ?_); rintro e w1 ⟨rfl, bq⟩; replace hb := hb.trans (bq.mono hb.size); clear bq)
            go_roundw
            case rel => exact ⟨x + 1, by omega, by go_num, HX2, hb⟩
            case measure => simp [intOf]; omega
          ·
            have HX2 : Hid (∀ x' : Nat, x' < x + 1 → pinK s x' y = false) := Lib.hid fun x' hx' => by
              by_cases e : x' = x
              · subst e
                rw [HP.out]
                simp
              · exact HX.out x' (by omega)
            go_wp2_with (go_at_call 55; (first | with_reducible refine (H1.out _ hb).mono ?_ | with_reducible refine (H2.out _ hb).mono ?_ | with_reducible refine (H3.out _ hb).mono ?_ | with_reducible refine (H4.out _ hb).mono ?_); rintro e w1 ⟨rfl, bq⟩; replace hb := hb.trans (bq.mono hb.size); clear bq)
            go_roundw
            case rel => exact ⟨x + 1, by omega, by go_num, HX2, hb⟩
            case measure => simp [intOf]; omega
        · obtain rfl : x = 9 := by omega
          have HY2 : Hid (∀ x' y' : Nat, x' < 9 → y' < y + 1 → pinK s x' y' = false) := Lib.hid fun x' y' h1 h2 => by
            by_cases e : y' = y
            · subst e; exact HX.out x' h1
            · exact HY.out x' y' h1 (by omega)
          go_wp2
          go_roundw
          case rel => exact ⟨y + 1, by omega, by go_num, HY2, hb⟩
          case measure => simp [intOf]; omega
    · obtain rfl : y = 9 := by omega
      obtain rfl : R = false := HYES.out fun x y h1 h2 => HY.out x y h1 h2
      go_wp2
      go_ret
      exact ⟨rfl, hb⟩
end Go.Proofs.YtghpkfihdcjlaaaGreatDoor

namespace Go.Proofs.YtghpkfihdcjlaaaGreatDoor
open Go.RowKit

set_option maxRecDepth 100000 in
set_option maxHeartbeats 6400000 in
theorem spec_bord_c {v : Value} {s : List Cell} (w : World) (h : CellsRd w 0 w.heap.size v s) (hn : s.length ≤ 1048576) :
    Calls Tryz.prog 7 #[v] w fun e w' => e = .returned (.tuple #[.string (wstr (bordW s)), .bool (bordOk s)]) ∧ Below w.heap.size w w' := by
  obtain ⟨A, c, rfl, hm, hr⟩ := id h
  have HS : Hid (CellsRd w 0 w.heap.size (.slice A s.length c) s) := Lib.hid h
  have keep : ∀ w1, Below w.heap.size w w1 → CellsRd w1 0 w1.heap.size (.slice A s.length c) s := fun w1 hb => (h.keep (SameIn.of_below hb (Nat.le_refl _))).more (Nat.le_refl _) hb.size
  have HC := Lib.hid (spec_conn_c w h hn)
  have HZ : Hid (∀ w1, Below w.heap.size w w1 → Calls Tryz.prog 31 #[.slice A s.length c] w1 fun e w' => e = .returned (.int .i64 (holesZ s)) ∧ Below w1.heap.size w1 w') := Lib.hid fun w1 hb => spec_holes_c w1 (keep w1 hb) hn
  have HP : Hid (isShape s = true → ∀ w1, Below w.heap.size w w1 → Calls Tryz.prog 32 #[.slice A s.length c] w1 fun e w' => e = .returned (.bool (pinS s)) ∧ Below w1.heap.size w1 w') := Lib.hid fun hs w1 hb => spec_pin_c w1 (keep w1 hb) (shp_len hs).2 (fun c hc => shp_on hs hc)
  obtain ⟨R, hR⟩ : ∃ R, R = bordW s := ⟨_, rfl⟩
  obtain ⟨B, hB⟩ : ∃ B, B = bordOk s := ⟨_, rfl⟩
  rw [← hR, ← hB]
  have HR := Lib.hid hR
  have HB := Lib.hid hB
  have HRS := Lib.hid hr
  clear h hr hR hB keep hm
  go_enter Tryz.func7, Tryz.ntmps7
  go_wp2_with fail
  refine (HC.out).mono ?_
  rintro e w1 ⟨rfl, b1⟩
  clear HC
  cases hcn : connS s
  · have hb0 : bordOk s = false := by unfold bordOk; rw [hcn]; rfl
    obtain rfl : B = false := HB.out.trans hb0
    obtain rfl : R = [] := HR.out.trans (bordW_no hb0)
    clear hb0 hcn
    go_wp2
    go_ret2
    exact ⟨rfl, b1⟩
  have hsh : isShape s = true := by unfold connS at hcn; exact (Bool.and_eq_true _ _ ▸ hcn).1
  have HSH := Lib.hid hsh
  have HCN := Lib.hid hcn
  clear hcn hsh
  go_wp2_with fail
  refine (HZ.out _ b1).mono ?_
  rintro e w2 ⟨rfl, b2⟩
  have b3 := b1.trans (b2.mono b1.size)
  clear b1 b2 HZ
  by_cases hz : holesZ s = 0
  rotate_left
  · have hb0 : bordOk s = false := by unfold bordOk; rw [decide_eq_false hz, Bool.and_false]; rfl
    obtain rfl : B = false := HB.out.trans hb0
    obtain rfl : R = [] := HR.out.trans (bordW_no hb0)
    have z1 : (holesZ s == 0) = false := beq_eq_false_iff_ne.2 hz
    clear hb0
    go_wp2
    go_ret2
    exact ⟨rfl, b3⟩
  rw [hz]
  go_wp2_with fail
  refine (HP.out HSH.out _ b3).mono ?_
  rintro e w4 ⟨rfl, b4⟩
  have b5 := b3.trans (b4.mono b3.size)
  clear b3 b4 HP
  cases hp : pinS s
  rotate_left
  · have hb0 : bordOk s = false := by unfold bordOk; rw [hp]; simp
    obtain rfl : B = false := HB.out.trans hb0
    obtain rfl : R = [] := HR.out.trans (bordW_no hb0)
    clear hb0 hp
    go_wp2
    go_ret2
    exact ⟨rfl, b5⟩
  have hb0 : bordOk s = true := by unfold bordOk; rw [HCN.out, hp, hz]; rfl
  obtain ⟨hl1, hl8⟩ := shp_len HSH.out
  obtain ⟨a, ha⟩ : ∃ a, s[0]? = some a := ⟨s[0], List.getElem?_eq_getElem (by omega)⟩
  obtain ⟨K, hbi⟩ := bord_ex HSH.out hp ha
  obtain rfl : B = true := HB.out.trans hb0
  have HRK : Hid (R = wrd s a K) := Lib.hid (HR.out.trans (bordW_yes hb0 ha hbi))
  have HBI := Lib.hid hbi
  have HA := Lib.hid ha
  obtain ⟨⟨a1, a2⟩, a3, a4⟩ := shp_on HSH.out (List.mem_of_getElem? ha)
  obtain ⟨b, off, hA, _, hb, hc⟩ := HRS.out.2 (by omega)
  subst hA
  have HC0 : Hid (w.cell? ⟨b, off, none⟩ = some (.int .i64 a.x)) := Lib.hid (by have := hc _ _ (cc_at HA.out).1; simpa using this)
  have HC1 : Hid (w.cell? ⟨b, off + 1, none⟩ = some (.int .i64 a.y)) := Lib.hid (by have := hc _ _ (cc_at HA.out).2; simpa using this)
  have q0 := (b5.cell (p := ⟨b, off, none⟩) hb).trans HC0.out
  have q1 := (b5.cell (p := ⟨b, off + 1, none⟩) hb).trans HC1.out
  have H0 := ((Sep.start w).step b5).box 46 #[.int .i64 a.x, .int .i64 a.y]
  obtain ⟨g, hg⟩ : ∃ g, g = w4.heap.size := ⟨_, rfl⟩
  rw [← hg] at H0
  clear hb0 hbi hp hz ha b5 hc
  go_wp2
  generalize w4.alloc (.cells #[.int .i64 a.x, .int .i64 a.y] 46) = W at *
  rw [← hg]
  clear hg q0 q1
  go_loopw [4, 6, 7] (fun sv dv nv wr => ∃ (n : Nat), n ≤ K ∧ sv = .string (wstr (wrd s a n)) ∧ dv = .int .i64 (outD s (wlk s a n) : Nat) ∧ nv = .int .i64 n ∧ Sep w wr [Res.box g 46 #[.int .i64 (wlk s a n).x, .int .i64 (wlk s a n).y]]) (fun _ _ nv _ => K - (intOf nv).toNat)
  case atStart => exact ⟨0, Nat.zero_le _, rfl, by rw [show outD s (wlk s a 0) = 0 from outD_0 HBI.out]; rfl, rfl, H0⟩
  case round =>
    clear H0
    obtain ⟨n, hnK, rfl, rfl, rfl, H⟩ := hrel
    obtain ⟨P, hP⟩ : ∃ P, P = wlk s a n := ⟨_, rfl⟩
    obtain ⟨d, hd⟩ : ∃ d, d = outD s P := ⟨_, rfl⟩
    obtain ⟨Q, hQ⟩ : ∃ Q, Q = wlk s a (n + 1) := ⟨_, rfl⟩
    have hQs : Q = stepC P d := by rw [hQ, hd, hP]; rfl
    obtain ⟨⟨p1, p2⟩, p3, p4⟩ := HBI.out.bord.on_ n
    obtain ⟨⟨r1, r2⟩, r3, r4⟩ := HBI.out.bord.on_ (n + 1)
    have HWS : Hid (wrd s a (n + 1) = wrd s a n ++ [dirU d]) := Lib.hid (by rw [hd, hP]; exact wrd_succ)
    have HTU := HBI.out.bord.turn n
    rw [← hP, ← hd, ← hQ] at HTU
    rw [← hP] at H p1 p2 p3 p4
    rw [← hP, ← hd]
    rw [← hQ] at r1 r2 r3 r4
    have hd4 : d < 4 := by rw [hd]; exact outD_lt _ _
    have HTU := Lib.hid HTU
    have HQE : Hid (Q = wlk s a (n + 1)) := Lib.hid hQ
    have hbw := H.below
    have hbr : b < wr.heap.size := Nat.lt_of_lt_of_le hb hbw.size
    have l0 := Later.cell ((hbw.cell (p := ⟨b, off, none⟩) hb).trans HC0.out) hbr
    have l1 := Later.cell ((hbw.cell (p := ⟨b, off + 1, none⟩) hb).trans HC1.out) hbr
    have l2 := Later.cell (W := wr) (p := ⟨g, 0, none⟩) (v := .int .i64 P.x) (H.h0.cell 0) H.h0.lt
    have l3 := Later.cell (W := wr) (p := ⟨g, 1, none⟩) (v := .int .i64 P.y) (H.h0.cell 1) H.h0.lt
    have HPE : Hid (P = wlk s a n) := Lib.hid hP
    have HDE : Hid (d = outD s P) := Lib.hid hd
    clear hP hd hQ hbw
    by_cases hK : n = K
    · subst hK
      obtain rfl : P = a := HPE.out.trans HBI.out.home
      obtain rfl : d = 0 := HDE.out.trans (outD_0 HBI.out)
      have hn0 := HBI.out.lo
      have n1 : ((n : Int) == 0) = false := by simp; omega
      go_wp2_with fail
      refine wp_region_later (by kernel_rfl) (by kernel_rfl) ?_
      repeat (go_big_quiet_step (fail))
      refine wpQuiet_nil ?_
      intro w3 hw3
      obtain ⟨u3, hu3⟩ := hw3
      subst hu3
      have H3 := H.later u3
      clear l0 l1 l2 l3 H
      generalize u3.w = w3 at *
      go_wp2
      go_ret2
      exact ⟨by rw [HRK.out]; rfl, H3.below⟩
    · have hn0 : n < K := by omega
      have hK81 := HBI.out.hi
      have HQS := Lib.hid hQs
      clear hQs
      go_upto_region 7 with fail
      go_cut [36] from 24 to 36 (fun cv wx => cv = .bool true ∧ Sep w wx [Res.box g 46 #[.int .i64 P.x, .int .i64 P.y]])
      case first =>
        by_cases hz : n = 0
        · subst hz
          obtain rfl : P = a := HPE.out
          obtain rfl : d = 0 := HDE.out.trans (outD_0 HBI.out)
          go_wp2_with fail
          refine wp_region_later (by kernel_rfl) (by kernel_rfl) ?_
          repeat (go_big_quiet_step (fail))
          refine wpQuiet_nil ?_
          intro w3 hw3
          obtain ⟨u3, hu3⟩ := hw3
          subst hu3
          have H3 := H.later u3
          clear l0 l1 l2 l3 H
          generalize u3.w = w3 at *
          go_wp2_with fail
          go_meet
          case rel => exact ⟨rfl, H3⟩
        · have n1 : ((n : Int) == 0) = false := by simp; omega
          have hne : P ≠ a := fun e => HBI.out.away n (by omega) hn0 (HPE.out.symm.trans e)
          go_wp2_with fail
          refine wp_region_later (by kernel_rfl) (by kernel_rfl) ?_
          repeat (go_big_quiet_step (fail))
          go_big_quiet_want
          go_big_quiet_op
          refine ⟨.bool true, ?_, ?_⟩
          · intro u3
            by_cases ex : P.x = a.x
            · rw [if_pos ex, if_neg (fun ey => hne (by obtain ⟨px, py⟩ := P; obtain ⟨ax, ay⟩ := a; simp only at ex ey; rw [ex, ey]))]
              exact ⟨rfl, rfl⟩
            · rw [if_neg ex]
              exact ⟨rfl, rfl⟩
          go_big_quiet_on
          repeat (go_big_quiet_step (fail))
          refine wpQuiet_nil ?_
          intro w3 hw3
          obtain ⟨u3, hu3⟩ := hw3
          subst hu3
          have H3 := H.later u3
          clear l0 l1 l2 l3 H hne n1
          generalize u3.w = w3 at *
          go_wp2_with fail
          go_meet
          case rel => exact ⟨rfl, H3⟩
      case rest =>
      obtain ⟨rfl, H3⟩ := hcut
      clear l0 l1 l2 l3 H
      generalize hwc : wc = w3 at *
      clear hwc
      go_upto_region 9 with fail
      go_cut [4] from 39 to 44 (fun sv wx => sv = .string (wstr (wrd s a (n + 1))) ∧ Sep w wx [Res.box g 46 #[.int .i64 P.x, .int .i64 P.y]])
      case first =>
        have h4 : d = 0 ∨ d = 1 ∨ d = 2 ∨ d = 3 := by omega
        have hws := HWS.out
        rcases h4 with rfl | rfl | rfl | rfl
        all_goals
          have HWS2 := Lib.hid hws
          clear hws
        ·
          have y1 : ¬ 9223372036854775807 < (wstr (wrd s a n)).size + (({ data := #[114, 100, 108, 117] } : ByteArray).extract 0 1).size := by
            have h2 : (({ data := #[114, 100, 108, 117] } : ByteArray).extract 0 1).size = 1 := by decide
            have h1 : (wstr (wrd s a n)).size = n := wstr_size.trans wrd_len
            have h3 := HBI.out.hi
            omega
          go_wp2_with fail
          go_meet
          case rel => exact ⟨by rw [HWS2.out, ← wstr_app]; rfl, H3⟩
        ·
          have y1 : ¬ 9223372036854775807 < (wstr (wrd s a n)).size + (({ data := #[114, 100, 108, 117] } : ByteArray).extract 1 2).size := by
            have h2 : (({ data := #[114, 100, 108, 117] } : ByteArray).extract 1 2).size = 1 := by decide
            have h1 : (wstr (wrd s a n)).size = n := wstr_size.trans wrd_len
            have h3 := HBI.out.hi
            omega
          go_wp2_with fail
          go_meet
          case rel => exact ⟨by rw [HWS2.out, ← wstr_app]; rfl, H3⟩
        ·
          have y1 : ¬ 9223372036854775807 < (wstr (wrd s a n)).size + (({ data := #[114, 100, 108, 117] } : ByteArray).extract 2 3).size := by
            have h2 : (({ data := #[114, 100, 108, 117] } : ByteArray).extract 2 3).size = 1 := by decide
            have h1 : (wstr (wrd s a n)).size = n := wstr_size.trans wrd_len
            have h3 := HBI.out.hi
            omega
          go_wp2_with fail
          go_meet
          case rel => exact ⟨by rw [HWS2.out, ← wstr_app]; rfl, H3⟩
        ·
          have y1 : ¬ 9223372036854775807 < (wstr (wrd s a n)).size + (({ data := #[114, 100, 108, 117] } : ByteArray).extract 3 4).size := by
            have h2 : (({ data := #[114, 100, 108, 117] } : ByteArray).extract 3 4).size = 1 := by decide
            have h1 : (wstr (wrd s a n)).size = n := wstr_size.trans wrd_len
            have h3 := HBI.out.hi
            omega
          go_wp2_with fail
          go_meet
          case rel => exact ⟨by rw [HWS2.out, ← wstr_app]; rfl, H3⟩
      case rest =>
      obtain ⟨rfl, H4⟩ := hcut
      clear H3
      generalize hwc : wc = w3 at *
      clear hwc
      go_upto_region 10 with fail
      have k0 : w3.cell? ⟨g, 0, none⟩ = some (.int .i64 P.x) := H4.h0.cell 0
      have k1 : w3.cell? ⟨g, 1, none⟩ = some (.int .i64 P.y) := H4.h0.cell 1
      replace H4 := H4.drew
      go_cut [45] from 45 to 51 (fun _ wx => True ∧ Sep w wx [Res.box g 46 #[.int .i64 Q.x, .int .i64 Q.y]])
      case first =>
        have h4 : d = 0 ∨ d = 1 ∨ d = 2 ∨ d = 3 := by omega
        rcases h4 with rfl | rfl | rfl | rfl
        ·
          have HSTP : Hid (∀ w', Calls Tryz.prog 33 #[.agg #[.int .i64 P.x, .int .i64 P.y], .int .u8 114] w' fun e w'' => e = .returned (.tuple #[.agg #[.int .i64 Q.x, .int .i64 Q.y], .bool true]) ∧ Below w'.heap.size w' w'') := Lib.hid fun w' => by
            rw [HQS.out]
            exact spec_step_c P 0 w' (by decide) (by omega) (by omega)
          clear HQS
          go_region_with ((go_at_call 33; refine (HSTP.out _).mono ?_; rintro e w5 ⟨rfl, b5⟩; have H5 := H4.step b5; have f0 := H5.h0.frozen 0; have f1 := H5.h0.frozen 1; have k0' : w5.cell? ⟨g, 0, none⟩ = some (.int .i64 P.x) := H5.h0.cell 0; have k1' : w5.cell? ⟨g, 1, none⟩ = some (.int .i64 P.y) := H5.h0.cell 1))
          all_goals
            have H6 := (H5.set_ 0 (.int .i64 Q.x)).set_ 1 (.int .i64 Q.y)
            go_wp2_with fail
            go_meet
            case rel => exact ⟨trivial, H6⟩
        ·
          have HSTP : Hid (∀ w', Calls Tryz.prog 33 #[.agg #[.int .i64 P.x, .int .i64 P.y], .int .u8 100] w' fun e w'' => e = .returned (.tuple #[.agg #[.int .i64 Q.x, .int .i64 Q.y], .bool true]) ∧ Below w'.heap.size w' w'') := Lib.hid fun w' => by
            rw [HQS.out]
            exact spec_step_c P 1 w' (by decide) (by omega) (by omega)
          clear HQS
          go_region_with ((go_at_call 33; refine (HSTP.out _).mono ?_; rintro e w5 ⟨rfl, b5⟩; have H5 := H4.step b5; have f0 := H5.h0.frozen 0; have f1 := H5.h0.frozen 1; have k0' : w5.cell? ⟨g, 0, none⟩ = some (.int .i64 P.x) := H5.h0.cell 0; have k1' : w5.cell? ⟨g, 1, none⟩ = some (.int .i64 P.y) := H5.h0.cell 1))
          all_goals
            have H6 := (H5.set_ 0 (.int .i64 Q.x)).set_ 1 (.int .i64 Q.y)
            go_wp2_with fail
            go_meet
            case rel => exact ⟨trivial, H6⟩
        ·
          have HSTP : Hid (∀ w', Calls Tryz.prog 33 #[.agg #[.int .i64 P.x, .int .i64 P.y], .int .u8 108] w' fun e w'' => e = .returned (.tuple #[.agg #[.int .i64 Q.x, .int .i64 Q.y], .bool true]) ∧ Below w'.heap.size w' w'') := Lib.hid fun w' => by
            rw [HQS.out]
            exact spec_step_c P 2 w' (by decide) (by omega) (by omega)
          clear HQS
          go_region_with ((go_at_call 33; refine (HSTP.out _).mono ?_; rintro e w5 ⟨rfl, b5⟩; have H5 := H4.step b5; have f0 := H5.h0.frozen 0; have f1 := H5.h0.frozen 1; have k0' : w5.cell? ⟨g, 0, none⟩ = some (.int .i64 P.x) := H5.h0.cell 0; have k1' : w5.cell? ⟨g, 1, none⟩ = some (.int .i64 P.y) := H5.h0.cell 1))
          all_goals
            have H6 := (H5.set_ 0 (.int .i64 Q.x)).set_ 1 (.int .i64 Q.y)
            go_wp2_with fail
            go_meet
            case rel => exact ⟨trivial, H6⟩
        ·
          have HSTP : Hid (∀ w', Calls Tryz.prog 33 #[.agg #[.int .i64 P.x, .int .i64 P.y], .int .u8 117] w' fun e w'' => e = .returned (.tuple #[.agg #[.int .i64 Q.x, .int .i64 Q.y], .bool true]) ∧ Below w'.heap.size w' w'') := Lib.hid fun w' => by
            rw [HQS.out]
            exact spec_step_c P 3 w' (by decide) (by omega) (by omega)
          clear HQS
          go_region_with ((go_at_call 33; refine (HSTP.out _).mono ?_; rintro e w5 ⟨rfl, b5⟩; have H5 := H4.step b5; have f0 := H5.h0.frozen 0; have f1 := H5.h0.frozen 1; have k0' : w5.cell? ⟨g, 0, none⟩ = some (.int .i64 P.x) := H5.h0.cell 0; have k1' : w5.cell? ⟨g, 1, none⟩ = some (.int .i64 P.y) := H5.h0.cell 1))
          all_goals
            have H6 := (H5.set_ 0 (.int .i64 Q.x)).set_ 1 (.int .i64 Q.y)
            go_wp2_with fail
            go_meet
            case rel => exact ⟨trivial, H6⟩
      case rest =>
      obtain ⟨_, H5⟩ := hcut
      clear H4 k0 k1
      generalize hwc : wc = w5 at *
      clear hwc
      go_wp2
      go_loopw [6, 8] (fun dv tv wr => ∃ t : Nat, 3 ≤ t ∧ t ≤ 6 ∧ dv = .int .i64 (d : Nat) ∧ tv = .int .i64 t ∧ Hid (∀ u, 3 ≤ u → u < t → edge s Q ((d + u) % 4) = false) ∧ Sep w wr [Res.box g 46 #[.int .i64 Q.x, .int .i64 Q.y]]) (fun _ tv _ => 6 - (intOf tv).toNat)
      case atStart => exact ⟨3, by omega, by omega, rfl, rfl, Lib.hid (fun u h1 h2 => by omega), H5⟩
      case round =>
        clear H5
        obtain ⟨t, ht3, ht6, rfl, rfl, HNE, H⟩ := hrel
        by_cases ht : t < 6
        · obtain ⟨e, he⟩ : ∃ e, e = (d + t) % 4 := ⟨_, rfl⟩
          have he4 : e < 4 := by omega
          have m1 : ((d : Int) + (t : Int)) % 4 = (e : Int) := by omega
          have hbw := H.below
          obtain ⟨bE, hbE⟩ : ∃ bE, bE = edge s Q e := ⟨_, rfl⟩
          have HE : Hid (Calls Tryz.prog 34 #[.slice (some ⟨b, off, none⟩) s.length c, .agg #[.int .i64 Q.x, .int .i64 Q.y], .int .i64 (e : Int)] wr fun e' w' => e' = .returned (.bool bE) ∧ Below wr.heap.size wr w') := Lib.hid (by
            rw [hbE]
            exact spec_edge_c Q e wr ((HS.out.keep (SameIn.of_below hbw (Nat.le_refl _))).more (Nat.le_refl _) hbw.size) hl8 he4 (by omega) (by omega))
          have k0 : wr.cell? ⟨g, 0, none⟩ = some (.int .i64 Q.x) := H.h0.cell 0
          have k1 : wr.cell? ⟨g, 1, none⟩ = some (.int .i64 Q.y) := H.h0.cell 1
          have HBE := Lib.hid hbE
          have HEE := Lib.hid he
          clear hbE he hbw
          cases bE
          · have HN2 : Hid (∀ u, 3 ≤ u → u < t + 1 → edge s Q ((d + u) % 4) = false) := Lib.hid fun u h1 h2 => by
              by_cases e' : u = t
              · subst e'; rw [← HEE.out]; exact HBE.out.symm
              · exact HNE.out u h1 (by omega)
            go_wp2_with fail
            with_reducible refine (HE.out).mono ?_
            rintro e' w6 ⟨rfl, b6⟩
            have H6 := H.step b6
            clear H b6 k0 k1 HE
            go_wp2
            go_roundw
            case rel => exact ⟨t + 1, by omega, by omega, rfl, by go_num, HN2, H6⟩
            case measure => simp [intOf]; omega
          · have HO : Hid (outD s Q = e) := Lib.hid (outD_is HBI.out.bord.free he4 HBE.out.symm)
            go_wp2_with fail
            with_reducible refine (HE.out).mono ?_
            rintro e' w6 ⟨rfl, b6⟩
            have H6 := H.step b6
            clear H b6 k0 k1 HE
            go_wp2
            go_roundw
            case rel => exact ⟨n + 1, by omega, rfl, by rw [← HQE.out, HO.out, m1], by go_num, by rw [← HQE.out]; exact H6⟩
            case measure => simp [intOf]; omega
        · exfalso
          obtain rfl : t = 6 := by omega
          have h3 := HNE.out 3 (by omega) (by omega)
          have h4 := HNE.out 4 (by omega) (by omega)
          have h5 := HNE.out 5 (by omega) (by omega)
          rcases HTU.out with h | h | h
          · rw [h3] at h; cases h
          · rw [h4] at h; cases h
          · rw [h5] at h; cases h
end Go.Proofs.YtghpkfihdcjlaaaGreatDoor
