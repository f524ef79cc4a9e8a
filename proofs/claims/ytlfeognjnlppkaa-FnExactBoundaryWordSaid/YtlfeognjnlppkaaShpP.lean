
/-
  Shapes: the border of a shape: steps with the shape at the right hand: both sides.
-/
import Derived.Test.YtlfeognjnlppkaaShpB
import Derived.Test.YtlfeognjnlppkaaSep
import Derived.Deep.DeepCutAuto
namespace Go.Proofs.Ytlfeognjnlppkaa
open Go.RowKit

def hs (s : List Cell) (x y : Int) : Bool := decide ((⟨x, y⟩ : Cell) ∈ s)
def edge (s : List Cell) (c : Cell) : Nat → Bool
  | 0 => hs s c.x c.y && !hs s c.x (c.y - 1)
  | 1 => hs s (c.x - 1) c.y && !hs s c.x c.y
  | 2 => hs s (c.x - 1) (c.y - 1) && !hs s (c.x - 1) c.y
  | _ => hs s c.x (c.y - 1) && !hs s (c.x - 1) (c.y - 1)
def dirB : Nat → Int
  | 0 => 114
  | 1 => 100
  | 2 => 108
  | _ => 117
def stepC (c : Cell) : Nat → Cell
  | 0 => ⟨c.x + 1, c.y⟩
  | 1 => ⟨c.x, c.y + 1⟩
  | 2 => ⟨c.x - 1, c.y⟩
  | _ => ⟨c.x, c.y - 1⟩

set_option maxRecDepth 100000 in
set_option maxHeartbeats 3200000 in
theorem spec_edge_c {v : Value} {s : List Cell} (q : Cell) (d : Nat) (w : World) (h : CellsRd w 0 w.heap.size v s) (hn : s.length ≤ 8) (hd : d < 4) (hx : -10 ≤ q.x ∧ q.x ≤ 10) (hy : -10 ≤ q.y ∧ q.y ≤ 10) :
    Calls Try.prog 23 #[v, .agg #[.int .i64 q.x, .int .i64 q.y], .int .i64 d] w fun e w' => e = .returned (.bool (edge s q d)) ∧ Below w.heap.size w w' := by
  obtain ⟨A, c, rfl, hm, hr⟩ := id h
  obtain ⟨R, hR⟩ : ∃ R, R = edge s q d := ⟨_, rfl⟩
  rw [← hR]
  have HR := Lib.hid hR
  have HS : Hid (CellsRd w 0 w.heap.size (.slice A s.length c) s) := Lib.hid h
  have H := (Sep.start w).box 50 #[.int .i64 q.x, .int .i64 q.y]
  clear hR h hr hm
  have h4 : d = 0 ∨ d = 1 ∨ d = 2 ∨ d = 3 := by omega
  clear hd
  rcases h4 with rfl | rfl | rfl | rfl
  ·
    obtain ⟨b1, hb1⟩ : ∃ b, b = hs s (q.x) (q.y) := ⟨_, rfl⟩
    have H1 : Hid (∀ w', Below w.heap.size w w' → Calls Try.prog 48 #[.slice A s.length c, .int .i64 (q.x), .int .i64 (q.y)] w' fun e w'' => e = .returned (.bool b1) ∧ Below w'.heap.size w' w'') := Lib.hid fun w' hw => by
      rw [hb1]
      exact (spec_has2_c _ _ _ ((HS.out.keep (SameIn.of_below hw (Nat.le_refl _))).more (Nat.le_refl _) hw.size) (by omega)).mono fun _ _ ⟨h1, h2⟩ => ⟨h1, h2 ▸ Below.refl _ _⟩
    obtain ⟨b2, hb2⟩ : ∃ b, b = hs s (q.x) (q.y - 1) := ⟨_, rfl⟩
    have H2 : Hid (∀ w', Below w.heap.size w w' → Calls Try.prog 48 #[.slice A s.length c, .int .i64 (q.x), .int .i64 (q.y - 1)] w' fun e w'' => e = .returned (.bool b2) ∧ Below w'.heap.size w' w'') := Lib.hid fun w' hw => by
      rw [hb2]
      exact (spec_has2_c _ _ _ ((HS.out.keep (SameIn.of_below hw (Nat.le_refl _))).more (Nat.le_refl _) hw.size) (by omega)).mono fun _ _ ⟨h1, h2⟩ => ⟨h1, h2 ▸ Below.refl _ _⟩
    replace HR : Hid (R = (hs s (q.x) (q.y) && !hs s (q.x) (q.y - 1))) := HR
    change Calls _ _ #[_, _, .int .i64 0] _ _
    go_enter Try.func23, Try.ntmps23
    have hRR : R = (b1 && !b2) := by rw [HR.out, hb1, hb2]
    clear hb1 hb2
    cases b1
    all_goals cases b2
    all_goals
      (obtain rfl := hRR
       go_wp2_with (go_at_call 48; (first | with_reducible refine (H1.out _ H.below).mono ?_ | with_reducible refine (H2.out _ H.below).mono ?_); rintro e w1 ⟨rfl, b1⟩; replace H := H.step b1; clear b1; have k0 : w1.cell? ⟨w.heap.size, 0, none⟩ = some (.int .i64 q.x) := H.h0.cell 0; have k1 : w1.cell? ⟨w.heap.size, 1, none⟩ = some (.int .i64 q.y) := H.h0.cell 1)
       go_ret
       exact ⟨rfl, H.below⟩)
  ·
    obtain ⟨b1, hb1⟩ : ∃ b, b = hs s (q.x - 1) (q.y) := ⟨_, rfl⟩
    have H1 : Hid (∀ w', Below w.heap.size w w' → Calls Try.prog 48 #[.slice A s.length c, .int .i64 (q.x - 1), .int .i64 (q.y)] w' fun e w'' => e = .returned (.bool b1) ∧ Below w'.heap.size w' w'') := Lib.hid fun w' hw => by
      rw [hb1]
      exact (spec_has2_c _ _ _ ((HS.out.keep (SameIn.of_below hw (Nat.le_refl _))).more (Nat.le_refl _) hw.size) (by omega)).mono fun _ _ ⟨h1, h2⟩ => ⟨h1, h2 ▸ Below.refl _ _⟩
    obtain ⟨b2, hb2⟩ : ∃ b, b = hs s (q.x) (q.y) := ⟨_, rfl⟩
    have H2 : Hid (∀ w', Below w.heap.size w w' → Calls Try.prog 48 #[.slice A s.length c, .int .i64 (q.x), .int .i64 (q.y)] w' fun e w'' => e = .returned (.bool b2) ∧ Below w'.heap.size w' w'') := Lib.hid fun w' hw => by
      rw [hb2]
      exact (spec_has2_c _ _ _ ((HS.out.keep (SameIn.of_below hw (Nat.le_refl _))).more (Nat.le_refl _) hw.size) (by omega)).mono fun _ _ ⟨h1, h2⟩ => ⟨h1, h2 ▸ Below.refl _ _⟩
    replace HR : Hid (R = (hs s (q.x - 1) (q.y) && !hs s (q.x) (q.y))) := HR
    change Calls _ _ #[_, _, .int .i64 1] _ _
    go_enter Try.func23, Try.ntmps23
    have hRR : R = (b1 && !b2) := by rw [HR.out, hb1, hb2]
    clear hb1 hb2
    cases b1
    all_goals cases b2
    all_goals
      (obtain rfl := hRR
       go_wp2_with (go_at_call 48; (first | with_reducible refine (H1.out _ H.below).mono ?_ | with_reducible refine (H2.out _ H.below).mono ?_); rintro e w1 ⟨rfl, b1⟩; replace H := H.step b1; clear b1; have k0 : w1.cell? ⟨w.heap.size, 0, none⟩ = some (.int .i64 q.x) := H.h0.cell 0; have k1 : w1.cell? ⟨w.heap.size, 1, none⟩ = some (.int .i64 q.y) := H.h0.cell 1)
       go_ret
       exact ⟨rfl, H.below⟩)
  ·
    obtain ⟨b1, hb1⟩ : ∃ b, b = hs s (q.x - 1) (q.y - 1) := ⟨_, rfl⟩
    have H1 : Hid (∀ w', Below w.heap.size w w' → Calls Try.prog 48 #[.slice A s.length c, .int .i64 (q.x - 1), .int .i64 (q.y - 1)] w' fun e w'' => e = .returned (.bool b1) ∧ Below w'.heap.size w' w'') := Lib.hid fun w' hw => by
      rw [hb1]
      exact (spec_has2_c _ _ _ ((HS.out.keep (SameIn.of_below hw (Nat.le_refl _))).more (Nat.le_refl _) hw.size) (by omega)).mono fun _ _ ⟨h1, h2⟩ => ⟨h1, h2 ▸ Below.refl _ _⟩
    obtain ⟨b2, hb2⟩ : ∃ b, b = hs s (q.x - 1) (q.y) := ⟨_, rfl⟩
    have H2 : Hid (∀ w', Below w.heap.size w w' → Calls Try.prog 48 #[.slice A s.length c, .int .i64 (q.x - 1), .int .i64 (q.y)] w' fun e w'' => e = .returned (.bool b2) ∧ Below w'.heap.size w' w'') := Lib.hid fun w' hw => by
      rw [hb2]
      exact (spec_has2_c _ _ _ ((HS.out.keep (SameIn.of_below hw (Nat.le_refl _))).more (Nat.le_refl _) hw.size) (by omega)).mono fun _ _ ⟨h1, h2⟩ => ⟨h1, h2 ▸ Below.refl _ _⟩
    replace HR : Hid (R = (hs s (q.x - 1) (q.y - 1) && !hs s (q.x - 1) (q.y))) := HR
    change Calls _ _ #[_, _, .int .i64 2] _ _
    go_enter Try.func23, Try.ntmps23
    have hRR : R = (b1 && !b2) := by rw [HR.out, hb1, hb2]
    clear hb1 hb2
    cases b1
    all_goals cases b2
    all_goals
      (obtain rfl := hRR
       go_wp2_with (go_at_call 48; (first | with_reducible refine (H1.out _ H.below).mono ?_ | with_reducible refine (H2.out _ H.below).mono ?_); rintro e w1 ⟨rfl, b1⟩; replace H := H.step b1; clear b1; have k0 : w1.cell? ⟨w.heap.size, 0, none⟩ = some (.int .i64 q.x) := H.h0.cell 0; have k1 : w1.cell? ⟨w.heap.size, 1, none⟩ = some (.int .i64 q.y) := H.h0.cell 1)
       go_ret
       exact ⟨rfl, H.below⟩)
  ·
    obtain ⟨b1, hb1⟩ : ∃ b, b = hs s (q.x) (q.y - 1) := ⟨_, rfl⟩
    have H1 : Hid (∀ w', Below w.heap.size w w' → Calls Try.prog 48 #[.slice A s.length c, .int .i64 (q.x), .int .i64 (q.y - 1)] w' fun e w'' => e = .returned (.bool b1) ∧ Below w'.heap.size w' w'') := Lib.hid fun w' hw => by
      rw [hb1]
      exact (spec_has2_c _ _ _ ((HS.out.keep (SameIn.of_below hw (Nat.le_refl _))).more (Nat.le_refl _) hw.size) (by omega)).mono fun _ _ ⟨h1, h2⟩ => ⟨h1, h2 ▸ Below.refl _ _⟩
    obtain ⟨b2, hb2⟩ : ∃ b, b = hs s (q.x - 1) (q.y - 1) := ⟨_, rfl⟩
    have H2 : Hid (∀ w', Below w.heap.size w w' → Calls Try.prog 48 #[.slice A s.length c, .int .i64 (q.x - 1), .int .i64 (q.y - 1)] w' fun e w'' => e = .returned (.bool b2) ∧ Below w'.heap.size w' w'') := Lib.hid fun w' hw => by
      rw [hb2]
      exact (spec_has2_c _ _ _ ((HS.out.keep (SameIn.of_below hw (Nat.le_refl _))).more (Nat.le_refl _) hw.size) (by omega)).mono fun _ _ ⟨h1, h2⟩ => ⟨h1, h2 ▸ Below.refl _ _⟩
    replace HR : Hid (R = (hs s (q.x) (q.y - 1) && !hs s (q.x - 1) (q.y - 1))) := HR
    change Calls _ _ #[_, _, .int .i64 3] _ _
    go_enter Try.func23, Try.ntmps23
    have hRR : R = (b1 && !b2) := by rw [HR.out, hb1, hb2]
    clear hb1 hb2
    cases b1
    all_goals cases b2
    all_goals
      (obtain rfl := hRR
       go_wp2_with (go_at_call 48; (first | with_reducible refine (H1.out _ H.below).mono ?_ | with_reducible refine (H2.out _ H.below).mono ?_); rintro e w1 ⟨rfl, b1⟩; replace H := H.step b1; clear b1; have k0 : w1.cell? ⟨w.heap.size, 0, none⟩ = some (.int .i64 q.x) := H.h0.cell 0; have k1 : w1.cell? ⟨w.heap.size, 1, none⟩ = some (.int .i64 q.y) := H.h0.cell 1)
       go_ret
       exact ⟨rfl, H.below⟩)
set_option maxRecDepth 100000 in
set_option maxHeartbeats 3200000 in
theorem impl_side_c {v : Value} {s : List Cell} (q : Cell) (d : Nat) (w : World) (h : CellsRd w 0 w.heap.size v s) (hn : s.length ≤ 8) (hd : d < 4) (hx : -10 ≤ q.x ∧ q.x ≤ 10) (hy : -10 ≤ q.y ∧ q.y ≤ 10) :
    Calls Try.prog 28 #[v, .agg #[.int .i64 q.x, .int .i64 q.y], .int .u8 (dirB d)] w fun e w' => e = .returned (.bool (edge s q d)) ∧ Below w.heap.size w w' := by
  obtain ⟨A, c, rfl, hm, hr⟩ := id h
  obtain ⟨R, hR⟩ : ∃ R, R = edge s q d := ⟨_, rfl⟩
  rw [← hR]
  have HR := Lib.hid hR
  have HS : Hid (CellsRd w 0 w.heap.size (.slice A s.length c) s) := Lib.hid h
  have H := (Sep.start w).box 50 #[.int .i64 q.x, .int .i64 q.y]
  clear hR h hr hm
  have h4 : d = 0 ∨ d = 1 ∨ d = 2 ∨ d = 3 := by omega
  clear hd
  rcases h4 with rfl | rfl | rfl | rfl
  ·
    obtain ⟨b1, hb1⟩ : ∃ b, b = hs s (q.x) (q.y) := ⟨_, rfl⟩
    have H1 : Hid (∀ w', Below w.heap.size w w' → Calls Try.prog 56 #[.slice A s.length c, .int .i64 (q.x), .int .i64 (q.y)] w' fun e w'' => e = .returned (.bool b1) ∧ Below w'.heap.size w' w'') := Lib.hid fun w' hw => by
      rw [hb1]
      exact impl_has2_c _ _ _ ((HS.out.keep (SameIn.of_below hw (Nat.le_refl _))).more (Nat.le_refl _) hw.size) (by omega)
    obtain ⟨b2, hb2⟩ : ∃ b, b = hs s (q.x) (q.y - 1) := ⟨_, rfl⟩
    have H2 : Hid (∀ w', Below w.heap.size w w' → Calls Try.prog 56 #[.slice A s.length c, .int .i64 (q.x), .int .i64 (q.y - 1)] w' fun e w'' => e = .returned (.bool b2) ∧ Below w'.heap.size w' w'') := Lib.hid fun w' hw => by
      rw [hb2]
      exact impl_has2_c _ _ _ ((HS.out.keep (SameIn.of_below hw (Nat.le_refl _))).more (Nat.le_refl _) hw.size) (by omega)
    replace HR : Hid (R = (hs s (q.x) (q.y) && !hs s (q.x) (q.y - 1))) := HR
    change Calls _ _ #[_, _, .int .u8 114] _ _
    go_enter Try.func28, Try.ntmps28
    have hRR : R = (b1 && !b2) := by rw [HR.out, hb1, hb2]
    clear hb1 hb2
    cases b1
    all_goals cases b2
    all_goals
      (obtain rfl := hRR
       go_wp2_with (go_at_call 56; (first | with_reducible refine (H1.out _ H.below).mono ?_ | with_reducible refine (H2.out _ H.below).mono ?_); rintro e w1 ⟨rfl, b1⟩; replace H := H.step b1; clear b1; have k0 : w1.cell? ⟨w.heap.size, 0, none⟩ = some (.int .i64 q.x) := H.h0.cell 0; have k1 : w1.cell? ⟨w.heap.size, 1, none⟩ = some (.int .i64 q.y) := H.h0.cell 1)
       go_ret
       exact ⟨rfl, H.below⟩)
  ·
    obtain ⟨b1, hb1⟩ : ∃ b, b = hs s (q.x - 1) (q.y) := ⟨_, rfl⟩
    have H1 : Hid (∀ w', Below w.heap.size w w' → Calls Try.prog 56 #[.slice A s.length c, .int .i64 (q.x - 1), .int .i64 (q.y)] w' fun e w'' => e = .returned (.bool b1) ∧ Below w'.heap.size w' w'') := Lib.hid fun w' hw => by
      rw [hb1]
      exact impl_has2_c _ _ _ ((HS.out.keep (SameIn.of_below hw (Nat.le_refl _))).more (Nat.le_refl _) hw.size) (by omega)
    obtain ⟨b2, hb2⟩ : ∃ b, b = hs s (q.x) (q.y) := ⟨_, rfl⟩
    have H2 : Hid (∀ w', Below w.heap.size w w' → Calls Try.prog 56 #[.slice A s.length c, .int .i64 (q.x), .int .i64 (q.y)] w' fun e w'' => e = .returned (.bool b2) ∧ Below w'.heap.size w' w'') := Lib.hid fun w' hw => by
      rw [hb2]
      exact impl_has2_c _ _ _ ((HS.out.keep (SameIn.of_below hw (Nat.le_refl _))).more (Nat.le_refl _) hw.size) (by omega)
    replace HR : Hid (R = (hs s (q.x - 1) (q.y) && !hs s (q.x) (q.y))) := HR
    change Calls _ _ #[_, _, .int .u8 100] _ _
    go_enter Try.func28, Try.ntmps28
    have hRR : R = (b1 && !b2) := by rw [HR.out, hb1, hb2]
    clear hb1 hb2
    cases b1
    all_goals cases b2
    all_goals
      (obtain rfl := hRR
       go_wp2_with (go_at_call 56; (first | with_reducible refine (H1.out _ H.below).mono ?_ | with_reducible refine (H2.out _ H.below).mono ?_); rintro e w1 ⟨rfl, b1⟩; replace H := H.step b1; clear b1; have k0 : w1.cell? ⟨w.heap.size, 0, none⟩ = some (.int .i64 q.x) := H.h0.cell 0; have k1 : w1.cell? ⟨w.heap.size, 1, none⟩ = some (.int .i64 q.y) := H.h0.cell 1)
       go_ret
       exact ⟨rfl, H.below⟩)
  ·
    obtain ⟨b1, hb1⟩ : ∃ b, b = hs s (q.x - 1) (q.y - 1) := ⟨_, rfl⟩
    have H1 : Hid (∀ w', Below w.heap.size w w' → Calls Try.prog 56 #[.slice A s.length c, .int .i64 (q.x - 1), .int .i64 (q.y - 1)] w' fun e w'' => e = .returned (.bool b1) ∧ Below w'.heap.size w' w'') := Lib.hid fun w' hw => by
      rw [hb1]
      exact impl_has2_c _ _ _ ((HS.out.keep (SameIn.of_below hw (Nat.le_refl _))).more (Nat.le_refl _) hw.size) (by omega)
    obtain ⟨b2, hb2⟩ : ∃ b, b = hs s (q.x - 1) (q.y) := ⟨_, rfl⟩
    have H2 : Hid (∀ w', Below w.heap.size w w' → Calls Try.prog 56 #[.slice A s.length c, .int .i64 (q.x - 1), .int .i64 (q.y)] w' fun e w'' => e = .returned (.bool b2) ∧ Below w'.heap.size w' w'') := Lib.hid fun w' hw => by
      rw [hb2]
      exact impl_has2_c _ _ _ ((HS.out.keep (SameIn.of_below hw (Nat.le_refl _))).more (Nat.le_refl _) hw.size) (by omega)
    replace HR : Hid (R = (hs s (q.x - 1) (q.y - 1) && !hs s (q.x - 1) (q.y))) := HR
    change Calls _ _ #[_, _, .int .u8 108] _ _
    go_enter Try.func28, Try.ntmps28
    have hRR : R = (b1 && !b2) := by rw [HR.out, hb1, hb2]
    clear hb1 hb2
    cases b1
    all_goals cases b2
    all_goals
      (obtain rfl := hRR
       go_wp2_with (go_at_call 56; (first | with_reducible refine (H1.out _ H.below).mono ?_ | with_reducible refine (H2.out _ H.below).mono ?_); rintro e w1 ⟨rfl, b1⟩; replace H := H.step b1; clear b1; have k0 : w1.cell? ⟨w.heap.size, 0, none⟩ = some (.int .i64 q.x) := H.h0.cell 0; have k1 : w1.cell? ⟨w.heap.size, 1, none⟩ = some (.int .i64 q.y) := H.h0.cell 1)
       go_ret
       exact ⟨rfl, H.below⟩)
  ·
    obtain ⟨b1, hb1⟩ : ∃ b, b = hs s (q.x) (q.y - 1) := ⟨_, rfl⟩
    have H1 : Hid (∀ w', Below w.heap.size w w' → Calls Try.prog 56 #[.slice A s.length c, .int .i64 (q.x), .int .i64 (q.y - 1)] w' fun e w'' => e = .returned (.bool b1) ∧ Below w'.heap.size w' w'') := Lib.hid fun w' hw => by
      rw [hb1]
      exact impl_has2_c _ _ _ ((HS.out.keep (SameIn.of_below hw (Nat.le_refl _))).more (Nat.le_refl _) hw.size) (by omega)
    obtain ⟨b2, hb2⟩ : ∃ b, b = hs s (q.x - 1) (q.y - 1) := ⟨_, rfl⟩
    have H2 : Hid (∀ w', Below w.heap.size w w' → Calls Try.prog 56 #[.slice A s.length c, .int .i64 (q.x - 1), .int .i64 (q.y - 1)] w' fun e w'' => e = .returned (.bool b2) ∧ Below w'.heap.size w' w'') := Lib.hid fun w' hw => by
      rw [hb2]
      exact impl_has2_c _ _ _ ((HS.out.keep (SameIn.of_below hw (Nat.le_refl _))).more (Nat.le_refl _) hw.size) (by omega)
    replace HR : Hid (R = (hs s (q.x) (q.y - 1) && !hs s (q.x - 1) (q.y - 1))) := HR
    change Calls _ _ #[_, _, .int .u8 117] _ _
    go_enter Try.func28, Try.ntmps28
    have hRR : R = (b1 && !b2) := by rw [HR.out, hb1, hb2]
    clear hb1 hb2
    cases b1
    all_goals cases b2
    all_goals
      (obtain rfl := hRR
       go_wp2_with (go_at_call 56; (first | with_reducible refine (H1.out _ H.below).mono ?_ | with_reducible refine (H2.out _ H.below).mono ?_); rintro e w1 ⟨rfl, b1⟩; replace H := H.step b1; clear b1; have k0 : w1.cell? ⟨w.heap.size, 0, none⟩ = some (.int .i64 q.x) := H.h0.cell 0; have k1 : w1.cell? ⟨w.heap.size, 1, none⟩ = some (.int .i64 q.y) := H.h0.cell 1)
       go_ret
       exact ⟨rfl, H.below⟩)
end Go.Proofs.Ytlfeognjnlppkaa
