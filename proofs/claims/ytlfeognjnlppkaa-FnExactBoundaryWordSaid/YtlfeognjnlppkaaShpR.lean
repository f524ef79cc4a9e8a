
/-
  Shapes: pinched corners: both sides.
-/
import Derived.Test.YtlfeognjnlppkaaShpQ
import Derived.Test.YtlfeognjnlppkaaShpD
namespace Go.Proofs.Ytlfeognjnlppkaa
open Go.RowKit

def pinC (s : List Cell) (c : Cell) : Bool := hs s (c.x + 1) (c.y + 1) && !hs s (c.x + 1) c.y && !hs s c.x (c.y + 1) || hs s (c.x - 1) (c.y + 1) && !hs s (c.x - 1) c.y && !hs s c.x (c.y + 1)
def pinS (s : List Cell) : Bool := s.any (pinC s)
/-- a corner where two cells meet that lie across -/
def pinK (s : List Cell) (x y : Int) : Bool := hs s (x - 1) (y - 1) && hs s x y && !hs s x (y - 1) && !hs s (x - 1) y || hs s x (y - 1) && hs s (x - 1) y && !hs s (x - 1) (y - 1) && !hs s x y
theorem hs_iff {s : List Cell} {x y : Int} : hs s x y = true ↔ (⟨x, y⟩ : Cell) ∈ s := by simp [hs]
theorem pinK_on {s : List Cell} (hon : ∀ c ∈ s, On c) {x y : Int} (h : pinK s x y = true) : (0 ≤ x ∧ x ≤ 8) ∧ (0 ≤ y ∧ y ≤ 8) := by
  unfold pinK at h
  simp only [Bool.or_eq_true, Bool.and_eq_true, hs_iff] at h
  rcases h with ⟨⟨⟨h1, _⟩, _⟩, _⟩ | ⟨⟨⟨h1, h2⟩, _⟩, _⟩
  · have := hon _ h1
    obtain ⟨⟨a, b⟩, c, d⟩ := this
    simp only at *
    omega
  · obtain ⟨⟨a, b⟩, c, d⟩ := hon _ h1
    obtain ⟨⟨a', b'⟩, c', d'⟩ := hon _ h2
    simp only at *
    omega
theorem pinK_pin {s : List Cell} {x y : Int} (h : pinK s x y = true) : pinS s = true := by
  unfold pinS
  rw [List.any_eq_true]
  unfold pinK at h
  rcases Bool.or_eq_true _ _ ▸ h with h | h
  · simp only [Bool.and_eq_true] at h
    refine ⟨_, hs_iff.1 h.1.1.1, ?_⟩
    unfold pinC
    simp only [Int.sub_add_cancel, h.1.1.2, h.1.2, h.2]
    rfl
  · simp only [Bool.and_eq_true] at h
    refine ⟨_, hs_iff.1 h.1.1.1, ?_⟩
    unfold pinC
    simp only [Int.sub_add_cancel, h.1.1.2, h.1.2, h.2]
    simp
theorem pin_pinK {s : List Cell} (h : pinS s = true) : ∃ x y, pinK s x y = true := by
  unfold pinS at h
  rw [List.any_eq_true] at h
  obtain ⟨⟨x, y⟩, hm, h⟩ := h
  have hxy := hs_iff.2 hm
  unfold pinC at h
  simp only at h
  rcases Bool.or_eq_true _ _ ▸ h with h | h
  · simp only [Bool.and_eq_true] at h
    refine ⟨x + 1, y + 1, ?_⟩
    unfold pinK
    simp only [Int.add_sub_cancel, hxy, h.1.1, h.1.2, h.2]
    rfl
  · simp only [Bool.and_eq_true] at h
    refine ⟨x, y + 1, ?_⟩
    unfold pinK
    simp only [Int.add_sub_cancel, hxy, h.1.1, h.1.2, h.2]
    simp
theorem pinS_no {s : List Cell} {k : Nat} {c : Cell} (h : s[k]? = some c) (hp : pinC s c = true) : pinS s = true := List.any_eq_true.2 ⟨c, List.mem_of_getElem? h, hp⟩
theorem pinS_yes {s : List Cell} (h : ∀ (k : Nat) (c : Cell), s[k]? = some c → pinC s c = false) : pinS s = false := by
  rw [Bool.eq_false_iff]
  intro hp
  obtain ⟨c, hm, hc⟩ := List.any_eq_true.1 hp
  obtain ⟨k, hk⟩ := List.getElem?_of_mem hm
  rw [h k c hk] at hc
  cases hc

set_option maxRecDepth 100000 in
set_option maxHeartbeats 6400000 in
theorem spec_pin_c {v : Value} {s : List Cell} (w : World) (h : CellsRd w 0 w.heap.size v s) (hn : s.length ≤ 8) (hon : ∀ c ∈ s, On c) :
    Calls Try.prog 21 #[v] w fun e w' => e = .returned (.bool (pinS s)) ∧ Below w.heap.size w w' := by
  obtain ⟨A, c, rfl, hm, hr⟩ := id h
  obtain ⟨R, hR⟩ : ∃ R, R = pinS s := ⟨_, rfl⟩
  rw [← hR]
  have HNO : Hid (∀ (k : Nat) (c : Cell), s[k]? = some c → pinC s c = true → R = true) := Lib.hid fun k c h1 h2 => by rw [hR]; exact pinS_no h1 h2
  have HYES : Hid ((∀ (k : Nat) (c : Cell), s[k]? = some c → pinC s c = false) → R = false) := Lib.hid fun h => by rw [hR]; exact pinS_yes h
  have HS : Hid (CellsRd w 0 w.heap.size (.slice A s.length c) s) := Lib.hid h
  have HRS := Lib.hid hr
  have HON := Lib.hid hon
  clear hR h hr hm hon
  go_enter Try.func21, Try.ntmps21
  go_wp2
  go_loopw [3] (fun i wr => ∃ k : Nat, k ≤ s.length ∧ i = .int .i64 k ∧ Hid (∀ (i : Nat) (c : Cell), i < k → s[i]? = some c → pinC s c = false) ∧ Below w.heap.size w wr) (fun i _ => s.length - (intOf i).toNat)
  case atStart => exact ⟨0, Nat.zero_le _, rfl, Lib.hid (fun i _ hi => absurd hi (by omega)), Below.refl _ _⟩
  case round =>
    obtain ⟨k, hk, rfl, HK, hb⟩ := hrel
    by_cases hlt : k < s.length
    · obtain ⟨d, hla⟩ : ∃ d, s[k]? = some d := ⟨s[k], List.getElem?_eq_getElem hlt⟩
      obtain ⟨⟨o1, o2⟩, o3, o4⟩ := HON.out d (List.mem_of_getElem? hla)
      obtain ⟨b, off, hA, _, hb0, hc⟩ := HRS.out.2 (by omega)
      have q1 : wr.cell? ⟨b, off + k * 2, none⟩ = some (.int .i64 d.x) := (hb.cell (p := ⟨b, off + k * 2, none⟩) hb0).trans (hc _ _ (cc_at hla).1)
      have q2 : wr.cell? ⟨b, off + k * 2 + 1, none⟩ = some (.int .i64 d.y) := (hb.cell (p := ⟨b, off + k * 2 + 1, none⟩) hb0).trans (by rw [Nat.add_assoc]; exact hc _ _ (cc_at hla).2)
      obtain ⟨b1, hb1⟩ : ∃ b, b = hs s (d.x + 1) (d.y + 1) := ⟨_, rfl⟩
      have H1 : Hid (∀ w', Below w.heap.size w w' → Calls Try.prog 48 #[.slice A s.length c, .int .i64 (d.x + 1), .int .i64 (d.y + 1)] w' fun e w'' => e = .returned (.bool b1) ∧ Below w'.heap.size w' w'') := Lib.hid fun w' hw => by
        rw [hb1]
        exact (spec_has2_c _ _ _ ((HS.out.keep (SameIn.of_below hw (Nat.le_refl _))).more (Nat.le_refl _) hw.size) (by omega)).mono fun _ _ ⟨h1, h2⟩ => ⟨h1, h2 ▸ Below.refl _ _⟩
      obtain ⟨b2, hb2⟩ : ∃ b, b = hs s (d.x + 1) (d.y) := ⟨_, rfl⟩
      have H2 : Hid (∀ w', Below w.heap.size w w' → Calls Try.prog 48 #[.slice A s.length c, .int .i64 (d.x + 1), .int .i64 (d.y)] w' fun e w'' => e = .returned (.bool b2) ∧ Below w'.heap.size w' w'') := Lib.hid fun w' hw => by
        rw [hb2]
        exact (spec_has2_c _ _ _ ((HS.out.keep (SameIn.of_below hw (Nat.le_refl _))).more (Nat.le_refl _) hw.size) (by omega)).mono fun _ _ ⟨h1, h2⟩ => ⟨h1, h2 ▸ Below.refl _ _⟩
      obtain ⟨b3, hb3⟩ : ∃ b, b = hs s (d.x) (d.y + 1) := ⟨_, rfl⟩
      have H3 : Hid (∀ w', Below w.heap.size w w' → Calls Try.prog 48 #[.slice A s.length c, .int .i64 (d.x), .int .i64 (d.y + 1)] w' fun e w'' => e = .returned (.bool b3) ∧ Below w'.heap.size w' w'') := Lib.hid fun w' hw => by
        rw [hb3]
        exact (spec_has2_c _ _ _ ((HS.out.keep (SameIn.of_below hw (Nat.le_refl _))).more (Nat.le_refl _) hw.size) (by omega)).mono fun _ _ ⟨h1, h2⟩ => ⟨h1, h2 ▸ Below.refl _ _⟩
      obtain ⟨b4, hb4⟩ : ∃ b, b = hs s (d.x - 1) (d.y + 1) := ⟨_, rfl⟩
      have H4 : Hid (∀ w', Below w.heap.size w w' → Calls Try.prog 48 #[.slice A s.length c, .int .i64 (d.x - 1), .int .i64 (d.y + 1)] w' fun e w'' => e = .returned (.bool b4) ∧ Below w'.heap.size w' w'') := Lib.hid fun w' hw => by
        rw [hb4]
        exact (spec_has2_c _ _ _ ((HS.out.keep (SameIn.of_below hw (Nat.le_refl _))).more (Nat.le_refl _) hw.size) (by omega)).mono fun _ _ ⟨h1, h2⟩ => ⟨h1, h2 ▸ Below.refl _ _⟩
      obtain ⟨b5, hb5⟩ : ∃ b, b = hs s (d.x - 1) (d.y) := ⟨_, rfl⟩
      have H5 : Hid (∀ w', Below w.heap.size w w' → Calls Try.prog 48 #[.slice A s.length c, .int .i64 (d.x - 1), .int .i64 (d.y)] w' fun e w'' => e = .returned (.bool b5) ∧ Below w'.heap.size w' w'') := Lib.hid fun w' hw => by
        rw [hb5]
        exact (spec_has2_c _ _ _ ((HS.out.keep (SameIn.of_below hw (Nat.le_refl _))).more (Nat.le_refl _) hw.size) (by omega)).mono fun _ _ ⟨h1, h2⟩ => ⟨h1, h2 ▸ Below.refl _ _⟩
      have HLA := Lib.hid hla
      have hP : pinC s d = (b1 && !b2 && !b3 || b4 && !b5 && !b3) := by rw [hb1, hb2, hb3, hb4, hb5]; rfl
      have HP := Lib.hid hP
      subst hA
      clear hb1 hb2 hb3 hb4 hb5 hP hla hc
      cases b1
      ·
        cases b4
        ·
          have HK2 : Hid (∀ (i : Nat) (c : Cell), i < k + 1 → s[i]? = some c → pinC s c = false) := Lib.hid fun i c hi hc => by
            by_cases e : i = k
            · subst e
              rw [HLA.out] at hc
              cases hc
              rw [HP.out]
              simp
            · exact HK.out i c (by omega) hc
          go_wp2_with (go_at_call 48; (first | with_reducible refine (H1.out _ hb).mono ?_ | with_reducible refine (H2.out _ hb).mono ?_ | with_reducible refine (H3.out _ hb).mono ?_ | with_reducible refine (H4.out _ hb).mono ?_ | with_reducible refine (H5.out _ hb).mono ?_); rintro e w1 ⟨rfl, bq⟩; replace hb := hb.trans (bq.mono hb.size); clear bq)
          go_roundw
          case rel => exact ⟨k + 1, by omega, by go_num, HK2, hb⟩
          case measure => simp [intOf]; omega
        cases b5
        rotate_left
        ·
          have HK2 : Hid (∀ (i : Nat) (c : Cell), i < k + 1 → s[i]? = some c → pinC s c = false) := Lib.hid fun i c hi hc => by
            by_cases e : i = k
            · subst e
              rw [HLA.out] at hc
              cases hc
              rw [HP.out]
              simp
            · exact HK.out i c (by omega) hc
          go_wp2_with (go_at_call 48; (first | with_reducible refine (H1.out _ hb).mono ?_ | with_reducible refine (H2.out _ hb).mono ?_ | with_reducible refine (H3.out _ hb).mono ?_ | with_reducible refine (H4.out _ hb).mono ?_ | with_reducible refine (H5.out _ hb).mono ?_); rintro e w1 ⟨rfl, bq⟩; replace hb := hb.trans (bq.mono hb.size); clear bq)
          go_roundw
          case rel => exact ⟨k + 1, by omega, by go_num, HK2, hb⟩
          case measure => simp [intOf]; omega
        cases b3
        ·
          obtain rfl : R = true := HNO.out k d HLA.out (by rw [HP.out]; simp)
          go_wp2_with (go_at_call 48; (first | with_reducible refine (H1.out _ hb).mono ?_ | with_reducible refine (H2.out _ hb).mono ?_ | with_reducible refine (H3.out _ hb).mono ?_ | with_reducible refine (H4.out _ hb).mono ?_ | with_reducible refine (H5.out _ hb).mono ?_); rintro e w1 ⟨rfl, bq⟩; replace hb := hb.trans (bq.mono hb.size); clear bq)
          go_ret
          exact ⟨rfl, hb⟩
        ·
          have HK2 : Hid (∀ (i : Nat) (c : Cell), i < k + 1 → s[i]? = some c → pinC s c = false) := Lib.hid fun i c hi hc => by
            by_cases e : i = k
            · subst e
              rw [HLA.out] at hc
              cases hc
              rw [HP.out]
              simp
            · exact HK.out i c (by omega) hc
          go_wp2_with (go_at_call 48; (first | with_reducible refine (H1.out _ hb).mono ?_ | with_reducible refine (H2.out _ hb).mono ?_ | with_reducible refine (H3.out _ hb).mono ?_ | with_reducible refine (H4.out _ hb).mono ?_ | with_reducible refine (H5.out _ hb).mono ?_); rintro e w1 ⟨rfl, bq⟩; replace hb := hb.trans (bq.mono hb.size); clear bq)
          go_roundw
          case rel => exact ⟨k + 1, by omega, by go_num, HK2, hb⟩
          case measure => simp [intOf]; omega
      cases b2
      rotate_left
      ·
        cases b4
        ·
          have HK2 : Hid (∀ (i : Nat) (c : Cell), i < k + 1 → s[i]? = some c → pinC s c = false) := Lib.hid fun i c hi hc => by
            by_cases e : i = k
            · subst e
              rw [HLA.out] at hc
              cases hc
              rw [HP.out]
              simp
            · exact HK.out i c (by omega) hc
          go_wp2_with (go_at_call 48; (first | with_reducible refine (H1.out _ hb).mono ?_ | with_reducible refine (H2.out _ hb).mono ?_ | with_reducible refine (H3.out _ hb).mono ?_ | with_reducible refine (H4.out _ hb).mono ?_ | with_reducible refine (H5.out _ hb).mono ?_); rintro e w1 ⟨rfl, bq⟩; replace hb := hb.trans (bq.mono hb.size); clear bq)
          go_roundw
          case rel => exact ⟨k + 1, by omega, by go_num, HK2, hb⟩
          case measure => simp [intOf]; omega
        cases b5
        rotate_left
        ·
          have HK2 : Hid (∀ (i : Nat) (c : Cell), i < k + 1 → s[i]? = some c → pinC s c = false) := Lib.hid fun i c hi hc => by
            by_cases e : i = k
            · subst e
              rw [HLA.out] at hc
              cases hc
              rw [HP.out]
              simp
            · exact HK.out i c (by omega) hc
          go_wp2_with (go_at_call 48; (first | with_reducible refine (H1.out _ hb).mono ?_ | with_reducible refine (H2.out _ hb).mono ?_ | with_reducible refine (H3.out _ hb).mono ?_ | with_reducible refine (H4.out _ hb).mono ?_ | with_reducible refine (H5.out _ hb).mono ?_); rintro e w1 ⟨rfl, bq⟩; replace hb := hb.trans (bq.mono hb.size); clear bq)
          go_roundw
          case rel => exact ⟨k + 1, by omega, by go_num, HK2, hb⟩
          case measure => simp [intOf]; omega
        cases b3
        ·
          obtain rfl : R = true := HNO.out k d HLA.out (by rw [HP.out]; simp)
          go_wp2_with (go_at_call 48; (first | with_reducible refine (H1.out _ hb).mono ?_ | with_reducible refine (H2.out _ hb).mono ?_ | with_reducible refine (H3.out _ hb).mono ?_ | with_reducible refine (H4.out _ hb).mono ?_ | with_reducible refine (H5.out _ hb).mono ?_); rintro e w1 ⟨rfl, bq⟩; replace hb := hb.trans (bq.mono hb.size); clear bq)
          go_ret
          exact ⟨rfl, hb⟩
        ·
          have HK2 : Hid (∀ (i : Nat) (c : Cell), i < k + 1 → s[i]? = some c → pinC s c = false) := Lib.hid fun i c hi hc => by
            by_cases e : i = k
            · subst e
              rw [HLA.out] at hc
              cases hc
              rw [HP.out]
              simp
            · exact HK.out i c (by omega) hc
          go_wp2_with (go_at_call 48; (first | with_reducible refine (H1.out _ hb).mono ?_ | with_reducible refine (H2.out _ hb).mono ?_ | with_reducible refine (H3.out _ hb).mono ?_ | with_reducible refine (H4.out _ hb).mono ?_ | with_reducible refine (H5.out _ hb).mono ?_); rintro e w1 ⟨rfl, bq⟩; replace hb := hb.trans (bq.mono hb.size); clear bq)
          go_roundw
          case rel => exact ⟨k + 1, by omega, by go_num, HK2, hb⟩
          case measure => simp [intOf]; omega
      cases b3
      ·
        obtain rfl : R = true := HNO.out k d HLA.out (by rw [HP.out]; simp)
        go_wp2_with (go_at_call 48; (first | with_reducible refine (H1.out _ hb).mono ?_ | with_reducible refine (H2.out _ hb).mono ?_ | with_reducible refine (H3.out _ hb).mono ?_ | with_reducible refine (H4.out _ hb).mono ?_ | with_reducible refine (H5.out _ hb).mono ?_); rintro e w1 ⟨rfl, bq⟩; replace hb := hb.trans (bq.mono hb.size); clear bq)
        go_ret
        exact ⟨rfl, hb⟩
      cases b4
      ·
        have HK2 : Hid (∀ (i : Nat) (c : Cell), i < k + 1 → s[i]? = some c → pinC s c = false) := Lib.hid fun i c hi hc => by
          by_cases e : i = k
          · subst e
            rw [HLA.out] at hc
            cases hc
            rw [HP.out]
            simp
          · exact HK.out i c (by omega) hc
        go_wp2_with (go_at_call 48; (first | with_reducible refine (H1.out _ hb).mono ?_ | with_reducible refine (H2.out _ hb).mono ?_ | with_reducible refine (H3.out _ hb).mono ?_ | with_reducible refine (H4.out _ hb).mono ?_ | with_reducible refine (H5.out _ hb).mono ?_); rintro e w1 ⟨rfl, bq⟩; replace hb := hb.trans (bq.mono hb.size); clear bq)
        go_roundw
        case rel => exact ⟨k + 1, by omega, by go_num, HK2, hb⟩
        case measure => simp [intOf]; omega
      cases b5
      ·
        have HK2 : Hid (∀ (i : Nat) (c : Cell), i < k + 1 → s[i]? = some c → pinC s c = false) := Lib.hid fun i c hi hc => by
          by_cases e : i = k
          · subst e
            rw [HLA.out] at hc
            cases hc
            rw [HP.out]
            simp
          · exact HK.out i c (by omega) hc
        go_wp2_with (go_at_call 48; (first | with_reducible refine (H1.out _ hb).mono ?_ | with_reducible refine (H2.out _ hb).mono ?_ | with_reducible refine (H3.out _ hb).mono ?_ | with_reducible refine (H4.out _ hb).mono ?_ | with_reducible refine (H5.out _ hb).mono ?_); rintro e w1 ⟨rfl, bq⟩; replace hb := hb.trans (bq.mono hb.size); clear bq)
        go_roundw
        case rel => exact ⟨k + 1, by omega, by go_num, HK2, hb⟩
        case measure => simp [intOf]; omega
      ·
        have HK2 : Hid (∀ (i : Nat) (c : Cell), i < k + 1 → s[i]? = some c → pinC s c = false) := Lib.hid fun i c hi hc => by
          by_cases e : i = k
          · subst e
            rw [HLA.out] at hc
            cases hc
            rw [HP.out]
            simp
          · exact HK.out i c (by omega) hc
        go_wp2_with (go_at_call 48; (first | with_reducible refine (H1.out _ hb).mono ?_ | with_reducible refine (H2.out _ hb).mono ?_ | with_reducible refine (H3.out _ hb).mono ?_ | with_reducible refine (H4.out _ hb).mono ?_ | with_reducible refine (H5.out _ hb).mono ?_); rintro e w1 ⟨rfl, bq⟩; replace hb := hb.trans (bq.mono hb.size); clear bq)
        go_roundw
        case rel => exact ⟨k + 1, by omega, by go_num, HK2, hb⟩
        case measure => simp [intOf]; omega
    · obtain rfl : k = s.length := by omega
      obtain rfl : R = false := HYES.out fun k c hc => HK.out k c (List.getElem?_eq_some_iff.1 hc).1 hc
      go_wp2
      go_ret
      exact ⟨rfl, hb⟩
end Go.Proofs.Ytlfeognjnlppkaa
