
/-
  Shapes: pinched corners: the program's walk.
-/
import Derived.Test.YtlfeognjnlppkaaShpR
namespace Go.Proofs.Ytlfeognjnlppkaa
open Go.RowKit

theorem pinS_none {s : List Cell} (hon : ∀ c ∈ s, On c) (h : ∀ x y : Nat, x < 9 → y < 9 → pinK s x y = false) : pinS s = false := by
  rw [Bool.eq_false_iff]
  intro hp
  obtain ⟨x, y, hk⟩ := pin_pinK hp
  obtain ⟨⟨a, b⟩, c, d⟩ := pinK_on hon hk
  have := h x.toNat y.toNat (by omega) (by omega)
  rw [show ((x.toNat : Nat) : Int) = x by omega, show ((y.toNat : Nat) : Int) = y by omega, hk] at this
  cases this
set_option maxRecDepth 100000 in
set_option maxHeartbeats 6400000 in
theorem impl_pin_c {v : Value} {s : List Cell} (w : World) (h : CellsRd w 0 w.heap.size v s) (hn : s.length ≤ 8) (hon : ∀ c ∈ s, On c) :
    Calls Try.prog 27 #[v] w fun e w' => e = .returned (.bool (pinS s)) ∧ Below w.heap.size w w' := by
  obtain ⟨A, c, rfl, hm, hr⟩ := id h
  obtain ⟨R, hR⟩ : ∃ R, R = pinS s := ⟨_, rfl⟩
  rw [← hR]
  have HNO : Hid (∀ x y : Nat, pinK s x y = true → R = true) := Lib.hid fun x y h2 => by rw [hR]; exact pinK_pin h2
  have HYES : Hid ((∀ x y : Nat, x < 9 → y < 9 → pinK s x y = false) → R = false) := Lib.hid fun h => by rw [hR]; exact pinS_none hon h
  have HS : Hid (CellsRd w 0 w.heap.size (.slice A s.length c) s) := Lib.hid h
  clear hR h hr hm hon
  go_enter Try.func27, Try.ntmps27
  go_wp2
  go_loopw [3] (fun i wr => ∃ y : Nat, y ≤ 9 ∧ i = .int .i64 y ∧ Hid (∀ x' y' : Nat, x' < 9 → y' < y → pinK s x' y' = false) ∧ Below w.heap.size w wr) (fun i _ => 9 - (intOf i).toNat)
  case atStart => exact ⟨0, Nat.zero_le _, rfl, Lib.hid (fun _ _ _ hi => absurd hi (by omega)), Below.refl _ _⟩
  case round =>
    obtain ⟨y, hy9, rfl, HY, hb⟩ := hrel
    by_cases hy : y < 9
    · have hy8 : decide ((y : Int) ≤ 8) = true := decide_eq_true (by omega)
      go_wp2
      go_loopw [4] (fun i wr => ∃ x : Nat, x ≤ 9 ∧ i = .int .i64 x ∧ Hid (∀ x' : Nat, x' < x → pinK s x' y = false) ∧ Below w.heap.size w wr) (fun i _ => 9 - (intOf i).toNat)
      case atStart => exact ⟨0, Nat.zero_le _, rfl, Lib.hid (fun _ hi => absurd hi (by omega)), hb⟩
      case round =>
        clear hb
        obtain ⟨x, hx9, rfl, HX, hb⟩ := hrel
        by_cases hx : x < 9
        · have hx8 : decide ((x : Int) ≤ 8) = true := decide_eq_true (by omega)
          obtain ⟨b1, hb1⟩ : ∃ b, b = hs s ((x : Int) - 1) ((y : Int) - 1) := ⟨_, rfl⟩
          have H1 : Hid (∀ w', Below w.heap.size w w' → Calls Try.prog 56 #[.slice A s.length c, .int .i64 ((x : Int) - 1), .int .i64 ((y : Int) - 1)] w' fun e w'' => e = .returned (.bool b1) ∧ Below w'.heap.size w' w'') := Lib.hid fun w' hw => by
            rw [hb1]
            exact impl_has2_c _ _ _ ((HS.out.keep (SameIn.of_below hw (Nat.le_refl _))).more (Nat.le_refl _) hw.size) (by omega)
          obtain ⟨b2, hb2⟩ : ∃ b, b = hs s ((x : Int)) ((y : Int) - 1) := ⟨_, rfl⟩
          have H2 : Hid (∀ w', Below w.heap.size w w' → Calls Try.prog 56 #[.slice A s.length c, .int .i64 ((x : Int)), .int .i64 ((y : Int) - 1)] w' fun e w'' => e = .returned (.bool b2) ∧ Below w'.heap.size w' w'') := Lib.hid fun w' hw => by
            rw [hb2]
            exact impl_has2_c _ _ _ ((HS.out.keep (SameIn.of_below hw (Nat.le_refl _))).more (Nat.le_refl _) hw.size) (by omega)
          obtain ⟨b3, hb3⟩ : ∃ b, b = hs s ((x : Int) - 1) ((y : Int)) := ⟨_, rfl⟩
          have H3 : Hid (∀ w', Below w.heap.size w w' → Calls Try.prog 56 #[.slice A s.length c, .int .i64 ((x : Int) - 1), .int .i64 ((y : Int))] w' fun e w'' => e = .returned (.bool b3) ∧ Below w'.heap.size w' w'') := Lib.hid fun w' hw => by
            rw [hb3]
            exact impl_has2_c _ _ _ ((HS.out.keep (SameIn.of_below hw (Nat.le_refl _))).more (Nat.le_refl _) hw.size) (by omega)
          obtain ⟨b4, hb4⟩ : ∃ b, b = hs s ((x : Int)) ((y : Int)) := ⟨_, rfl⟩
          have H4 : Hid (∀ w', Below w.heap.size w w' → Calls Try.prog 56 #[.slice A s.length c, .int .i64 ((x : Int)), .int .i64 ((y : Int))] w' fun e w'' => e = .returned (.bool b4) ∧ Below w'.heap.size w' w'') := Lib.hid fun w' hw => by
            rw [hb4]
            exact impl_has2_c _ _ _ ((HS.out.keep (SameIn.of_below hw (Nat.le_refl _))).more (Nat.le_refl _) hw.size) (by omega)
          have hP : pinK s x y = (b1 && b4 && !b2 && !b3 || b2 && b3 && !b1 && !b4) := by rw [hb1, hb2, hb3, hb4]; rfl
          have HP := Lib.hid hP
          clear hb1 hb2 hb3 hb4 hP
          cases b1
          ·
            cases b2
            ·
              have HX2 : Hid (∀ x' : Nat, x' < x + 1 → pinK s x' y = false) := Lib.hid fun x' hx' => by
                by_cases e : x' = x
                · subst e
                  rw [HP.out]
                  simp
                · exact HX.out x' (by omega)
              go_wp2_with (go_at_call 56; (first | with_reducible refine (H1.out _ hb).mono ?_ | with_reducible refine (H2.out _ hb).mono ?_ | with_reducible refine (H3.out _ hb).mono ?_ | with_reducible refine (H4.out _ hb).mono ?_); rintro e w1 ⟨rfl, bq⟩; replace hb := hb.trans (bq.mono hb.size); clear bq)
              go_roundw
              case rel => exact ⟨x + 1, by omega, by go_num, HX2, hb⟩
              case measure => simp [intOf]; omega
            cases b3
            ·
              have HX2 : Hid (∀ x' : Nat, x' < x + 1 → pinK s x' y = false) := Lib.hid fun x' hx' => by
                by_cases e : x' = x
                · subst e
                  rw [HP.out]
                  simp
                · exact HX.out x' (by omega)
              go_wp2_with (go_at_call 56; (first | with_reducible refine (H1.out _ hb).mono ?_ | with_reducible refine (H2.out _ hb).mono ?_ | with_reducible refine (H3.out _ hb).mono ?_ | with_reducible refine (H4.out _ hb).mono ?_); rintro e w1 ⟨rfl, bq⟩; replace hb := hb.trans (bq.mono hb.size); clear bq)
              go_roundw
              case rel => exact ⟨x + 1, by omega, by go_num, HX2, hb⟩
              case measure => simp [intOf]; omega
            cases b4
            ·
              obtain rfl : R = true := HNO.out x y (by rw [HP.out]; simp)
              go_wp2_with (go_at_call 56; (first | with_reducible refine (H1.out _ hb).mono ?_ | with_reducible refine (H2.out _ hb).mono ?_ | with_reducible refine (H3.out _ hb).mono ?_ | with_reducible refine (H4.out _ hb).mono ?_); rintro e w1 ⟨rfl, bq⟩; replace hb := hb.trans (bq.mono hb.size); clear bq)
              go_ret
              exact ⟨rfl, hb⟩
            ·
              have HX2 : Hid (∀ x' : Nat, x' < x + 1 → pinK s x' y = false) := Lib.hid fun x' hx' => by
                by_cases e : x' = x
                · subst e
                  rw [HP.out]
                  simp
                · exact HX.out x' (by omega)
              go_wp2_with (go_at_call 56; (first | with_reducible refine (H1.out _ hb).mono ?_ | with_reducible refine (H2.out _ hb).mono ?_ | with_reducible refine (H3.out _ hb).mono ?_ | with_reducible refine (H4.out _ hb).mono ?_); rintro e w1 ⟨rfl, bq⟩; replace hb := hb.trans (bq.mono hb.size); clear bq)
              go_roundw
              case rel => exact ⟨x + 1, by omega, by go_num, HX2, hb⟩
              case measure => simp [intOf]; omega
          cases b4
          ·
            cases b2
            ·
              have HX2 : Hid (∀ x' : Nat, x' < x + 1 → pinK s x' y = false) := Lib.hid fun x' hx' => by
                by_cases e : x' = x
                · subst e
                  rw [HP.out]
                  simp
                · exact HX.out x' (by omega)
              go_wp2_with (go_at_call 56; (first | with_reducible refine (H1.out _ hb).mono ?_ | with_reducible refine (H2.out _ hb).mono ?_ | with_reducible refine (H3.out _ hb).mono ?_ | with_reducible refine (H4.out _ hb).mono ?_); rintro e w1 ⟨rfl, bq⟩; replace hb := hb.trans (bq.mono hb.size); clear bq)
              go_roundw
              case rel => exact ⟨x + 1, by omega, by go_num, HX2, hb⟩
              case measure => simp [intOf]; omega
            cases b3
            ·
              have HX2 : Hid (∀ x' : Nat, x' < x + 1 → pinK s x' y = false) := Lib.hid fun x' hx' => by
                by_cases e : x' = x
                · subst e
                  rw [HP.out]
                  simp
                · exact HX.out x' (by omega)
              go_wp2_with (go_at_call 56; (first | with_reducible refine (H1.out _ hb).mono ?_ | with_reducible refine (H2.out _ hb).mono ?_ | with_reducible refine (H3.out _ hb).mono ?_ | with_reducible refine (H4.out _ hb).mono ?_); rintro e w1 ⟨rfl, bq⟩; replace hb := hb.trans (bq.mono hb.size); clear bq)
              go_roundw
              case rel => exact ⟨x + 1, by omega, by go_num, HX2, hb⟩
              case measure => simp [intOf]; omega
            ·
              have HX2 : Hid (∀ x' : Nat, x' < x + 1 → pinK s x' y = false) := Lib.hid fun x' hx' => by
                by_cases e : x' = x
                · subst e
                  rw [HP.out]
                  simp
                · exact HX.out x' (by omega)
              go_wp2_with (go_at_call 56; (first | with_reducible refine (H1.out _ hb).mono ?_ | with_reducible refine (H2.out _ hb).mono ?_ | with_reducible refine (H3.out _ hb).mono ?_ | with_reducible refine (H4.out _ hb).mono ?_); rintro e w1 ⟨rfl, bq⟩; replace hb := hb.trans (bq.mono hb.size); clear bq)
              go_roundw
              case rel => exact ⟨x + 1, by omega, by go_num, HX2, hb⟩
              case measure => simp [intOf]; omega
          cases b2
          ·
            cases b3
            ·
              obtain rfl : R = true := HNO.out x y (by rw [HP.out]; simp)
              go_wp2_with (go_at_call 56; (first | with_reducible refine (H1.out _ hb).mono ?_ | with_reducible refine (H2.out _ hb).mono ?_ | with_reducible refine (H3.out _ hb).mono ?_ | with_reducible refine (H4.out _ hb).mono ?_); rintro e w1 ⟨rfl, bq⟩; replace hb := hb.trans (bq.mono hb.size); clear bq)
              go_ret
              exact ⟨rfl, hb⟩
            ·
              have HX2 : Hid (∀ x' : Nat, x' < x + 1 → pinK s x' y = false) := Lib.hid fun x' hx' => by
                by_cases e : x' = x
                · subst e
                  rw [HP.out]
                  simp
                · exact HX.out x' (by omega)
              go_wp2_with (go_at_call 56; (first | with_reducible refine (H1.out _ hb).mono ?_ | with_reducible refine (H2.out _ hb).mono ?_ | with_reducible refine (H3.out _ hb).mono ?_ | with_reducible refine (H4.out _ hb).mono ?_); rintro e w1 ⟨rfl, bq⟩; replace hb := hb.trans (bq.mono hb.size); clear bq)
              go_roundw
              case rel => exact ⟨x + 1, by omega, by go_num, HX2, hb⟩
              case measure => simp [intOf]; omega
          cases b3
          ·
            have HX2 : Hid (∀ x' : Nat, x' < x + 1 → pinK s x' y = false) := Lib.hid fun x' hx' => by
              by_cases e : x' = x
              · subst e
                rw [HP.out]
                simp
              · exact HX.out x' (by omega)
            go_wp2_with (go_at_call 56; (first | with_reducible refine (H1.out _ hb).mono ?_ | with_reducible refine (H2.out _ hb).mono ?_ | with_reducible refine (H3.out _ hb).mono ?_ | with_reducible refine (H4.out _ hb).mono ?_); rintro e w1 ⟨rfl, bq⟩; replace hb := hb.trans (bq.mono hb.size); clear bq)
            go_roundw
            case rel => exact ⟨x + 1, by omega, by go_num, HX2, hb⟩
            case measure => simp [intOf]; omega
          ·
            have HX2 : Hid (∀ x' : Nat, x' < x + 1 → pinK s x' y = false) := Lib.hid fun x' hx' => by
              by_cases e : x' = x
              · subst e
                rw [HP.out]
                simp
              · exact HX.out x' (by omega)
            go_wp2_with (go_at_call 56; (first | with_reducible refine (H1.out _ hb).mono ?_ | with_reducible refine (H2.out _ hb).mono ?_ | with_reducible refine (H3.out _ hb).mono ?_ | with_reducible refine (H4.out _ hb).mono ?_); rintro e w1 ⟨rfl, bq⟩; replace hb := hb.trans (bq.mono hb.size); clear bq)
            go_roundw
            case rel => exact ⟨x + 1, by omega, by go_num, HX2, hb⟩
            case measure => simp [intOf]; omega
        · obtain rfl : x = 9 := by omega
          have HY2 : Hid (∀ x' y' : Nat, x' < 9 → y' < y + 1 → pinK s x' y' = false) := Lib.hid fun x' y' h1 h2 => by
            by_cases e : y' = y
            · subst e; exact HX.out x' h1
            · exact HY.out x' y' h1 (by omega)
          go_wp2
          go_roundw
          case rel => exact ⟨y + 1, by omega, by go_num, HY2, hb⟩
          case measure => simp [intOf]; omega
    · obtain rfl : y = 9 := by omega
      obtain rfl : R = false := HYES.out fun x y h1 h2 => HY.out x y h1 h2
      go_wp2
      go_ret
      exact ⟨rfl, hb⟩
end Go.Proofs.Ytlfeognjnlppkaa
