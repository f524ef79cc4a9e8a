
/-
  The walks over regions: is one right, has it a cell. The walks over regions: has it a cell.
-/
import Derived.Test.YtjkppigjajknaaaGreatDoorRegData
import Derived.Test.YtjkppigjajknaaaGreatDoorCwWalks
import Derived.Outline
namespace Go.Proofs.YtjkppigjajknaaaGreatDoor
open Go.RowKit

set_option maxRecDepth 100000 in
set_option maxHeartbeats 400000 in
theorem isSide_c (a : Int) (w : World) :
    Calls Tryz.prog 135 #[.int .i64 a] w fun e w' => e = .returned (.bool (decide (1 ≤ a) && decide (a ≤ 6))) ∧ w = w' := by
  go_enter Tryz.func135, Tryz.ntmps135
  go_wp2_with fail
  refine (between_any _ _ _ _).mono ?_
  rintro e w' ⟨rfl, rfl⟩
  go_wp2
  go_ret
  exact ⟨rfl, rfl⟩

theorem Reg.valid_rows {r : Reg} (hw : 1 ≤ r.w ∧ r.w ≤ 6) (hl : 1 ≤ r.rows.length ∧ r.rows.length ≤ 6) (h : ∀ j a, j < r.rows.length → r.rows[j]? = some a → 0 ≤ a ∧ a < 2 ^ r.w.toNat) : r.valid = true := by
  rw [Reg.valid_iff]
  refine ⟨hw.1, hw.2, hl.1, hl.2, fun a ha => ?_⟩
  obtain ⟨j, hj, e⟩ := List.getElem_of_mem ha
  exact h j a hj (by rw [List.getElem?_eq_getElem hj, e])
theorem Reg.not_valid_row {r : Reg} {k : Nat} {a : Int} (hla : r.rows[k]? = some a) (h : ¬ (0 ≤ a ∧ a < 2 ^ r.w.toNat)) : r.valid = false := by
  rw [Reg.valid_not]
  rintro ⟨_, _, _, _, h5⟩
  exact h (h5 a (List.mem_of_getElem? hla))
theorem pow_le_64 {wn : Nat} (h : wn ≤ 6) : (2 : Int) ^ wn ≤ 64 ∧ (1 : Int) ≤ 2 ^ wn := by
  have : wn = 0 ∨ wn = 1 ∨ wn = 2 ∨ wn = 3 ∨ wn = 4 ∨ wn = 5 ∨ wn = 6 := by omega
  rcases this with rfl | rfl | rfl | rfl | rfl | rfl | rfl <;> decide

set_option maxRecDepth 100000 in
set_option maxHeartbeats 1600000 in
theorem impl_IsRegion_c {v : Value} {r : Reg} (w : World) (h : RegRd w 0 w.heap.size v r) :
    Calls Tryz.prog 91 #[v] w fun e w' => e = .returned (.bool r.valid) ∧ Below w.heap.size w w' := by
  obtain ⟨s, rfl, hs⟩ := h
  obtain ⟨A, c, rfl, hm, hr⟩ := hs
  unfold maxLen at hm
  have hbel : Below w.heap.size w (w.alloc (.cells #[.int .i64 r.w, .slice A r.rows.length c] 36)) := (Below.refl _ _).alloc (Nat.le_refl _) _
  by_cases hw : 1 ≤ r.w ∧ r.w ≤ 6
  · have h1 : (decide (1 ≤ r.w) && decide (r.w ≤ 6)) = true := by simp; omega
    by_cases hl : 1 ≤ r.rows.length ∧ r.rows.length ≤ 6
    · have h2 : (decide ((1 : Int) ≤ r.rows.length) && decide ((r.rows.length : Int) ≤ 6)) = true := by simp; omega
      obtain ⟨wn, hwn⟩ : ∃ wn : Nat, r.w = (wn : Int) := ⟨r.w.toNat, by omega⟩
      have hwn2 : r.w.toNat = wn := by omega
      have hpw := (pow_le_64 (wn := wn) (by omega)).1
      have hp0 := (pow_le_64 (wn := wn) (by omega)).2
      have HV := Lib.hid (fun h => Reg.valid_rows (r := r) hw hl h)
      have HN := Lib.hid (fun k a => Reg.not_valid_row (r := r) (k := k) (a := a))
      rw [hwn] at h1 hbel ⊢
      rw [hwn2] at HV HN
      generalize hrv : r.valid = rv at HV HN ⊢
      have hw6 : wn ≤ 6 := by omega
      clear hrv hw
      clear hwn hwn2
      go_enter Tryz.func91, Tryz.ntmps91
      go_wp2_with (go_at_call 135; refine (isSide_c _ _).mono ?_; rintro e w' ⟨rfl, rfl⟩)
      go_loop [4, 19] (fun q i => ∃ k : Nat, k ≤ r.rows.length ∧ i = .int .i64 k ∧ ∀ j a, j < k → r.rows[j]? = some a → 0 ≤ a ∧ a < 2 ^ wn) (fun _ i => r.rows.length - (intOf i).toNat)
      case atStart => exact ⟨0, Nat.zero_le _, rfl, fun j a h => absurd h (by omega)⟩
      case round =>
        obtain ⟨k, hk, rfl, hall⟩ := hrel
        have HA := Lib.hid hall
        clear hall
        by_cases hlt : k < r.rows.length
        · obtain ⟨b, off, a, rfl, _, hb, hla, q1⟩ := hr.at1 hlt
          have HL := Lib.hid hla
          clear hr hla
          by_cases hok : 0 ≤ a ∧ a < 2 ^ wn
          · obtain ⟨ok1, ok2⟩ := hok
            go_wp2
            go_round
            case rel =>
              refine ⟨k + 1, by omega, by go_num, fun j a' hj hja => ?_⟩
              by_cases hjk : j = k
              · subst hjk
                rw [HL.out] at hja
                obtain rfl := Option.some.inj hja
                exact ⟨ok1, ok2⟩
              · exact HA.out j a' (by omega) hja
            case measure => simp [intOf]; omega
          · have hv := HN.out k a HL.out hok
            have hsplit : a < 0 ∨ (0 ≤ a ∧ 2 ^ wn ≤ a) := by omega
            subst hv
            clear hok HN HV
            rcases hsplit with h | ⟨h, h'⟩
            all_goals
              go_wp2
              go_ret
              exact ⟨rfl, hbel⟩
        · have hv := HV.out (fun j a hj => HA.out j a (by omega))
          subst hv
          clear HV HN
          go_wp2
          go_ret
          exact ⟨rfl, hbel⟩
    · have h2 : (decide ((1 : Int) ≤ r.rows.length) && decide ((r.rows.length : Int) ≤ 6)) = false := by simp; omega
      have hv : r.valid = false := by rw [Reg.valid_not]; rintro ⟨_, _, q3, q4, _⟩; exact hl ⟨q3, q4⟩
      rw [hv]
      clear hv
      go_enter Tryz.func91, Tryz.ntmps91
      go_wp2_with (go_at_call 135; refine (isSide_c _ _).mono ?_; rintro e w' ⟨rfl, rfl⟩)
      go_ret
      exact ⟨rfl, hbel⟩
  · have h1 : (decide (1 ≤ r.w) && decide (r.w ≤ 6)) = false := by simp; omega
    have hv : r.valid = false := by rw [Reg.valid_not]; rintro ⟨q1, q2, _⟩; exact hw ⟨q1, q2⟩
    rw [hv]
    clear hv
    go_enter Tryz.func91, Tryz.ntmps91
    go_wp2_with (go_at_call 135; refine (isSide_c _ _).mono ?_; rintro e w' ⟨rfl, rfl⟩)
    go_ret
    exact ⟨rfl, hbel⟩
set_option maxRecDepth 100000 in
set_option maxHeartbeats 1600000 in
theorem spec_IsRegion_c {v : Value} {r : Reg} (w : World) (h : RegRd w 0 w.heap.size v r) :
    Calls Tryz.prog 39 #[v] w fun e w' => e = .returned (.bool r.valid) ∧ Below w.heap.size w w' := by
  obtain ⟨s, rfl, hs⟩ := h
  obtain ⟨A, c, rfl, hm, hr⟩ := hs
  unfold maxLen at hm
  have hbel : Below w.heap.size w (w.alloc (.cells #[.int .i64 r.w, .slice A r.rows.length c] 36)) := (Below.refl _ _).alloc (Nat.le_refl _) _
  by_cases hw : 1 ≤ r.w ∧ r.w ≤ 6
  · have h1 : (decide (1 ≤ r.w) && decide (r.w ≤ 6)) = true := by simp; omega
    by_cases hl : 1 ≤ r.rows.length ∧ r.rows.length ≤ 6
    · have h2 : (decide ((1 : Int) ≤ r.rows.length) && decide ((r.rows.length : Int) ≤ 6)) = true := by simp; omega
      obtain ⟨wn, hwn⟩ : ∃ wn : Nat, r.w = (wn : Int) := ⟨r.w.toNat, by omega⟩
      have hwn2 : r.w.toNat = wn := by omega
      have hpw := (pow_le_64 (wn := wn) (by omega)).1
      have hp0 := (pow_le_64 (wn := wn) (by omega)).2
      have HV := Lib.hid (fun h => Reg.valid_rows (r := r) hw hl h)
      have HN := Lib.hid (fun k a => Reg.not_valid_row (r := r) (k := k) (a := a))
      rw [hwn] at h1 hbel ⊢
      rw [hwn2] at HV HN
      generalize hrv : r.valid = rv at HV HN ⊢
      have hw6 : wn ≤ 6 := by omega
      clear hrv hw
      clear hwn hwn2
      go_enter Tryz.func39, Tryz.ntmps39
      go_wp2_with (go_at_call 59; refine (l1In_any _ _ _ _).mono ?_; rintro e w' ⟨rfl, rfl⟩)
      go_loopw [3] (fun i wr => ∃ k : Nat, k ≤ r.rows.length ∧ i = .int .i64 k ∧ (∀ j a, j < k → r.rows[j]? = some a → 0 ≤ a ∧ a < 2 ^ wn) ∧ Below w.heap.size w wr ∧ Blk wr w.heap.size 36 #[.int .i64 wn, .slice A r.rows.length c]) (fun i _ => r.rows.length - (intOf i).toNat)
      case atStart => exact ⟨0, Nat.zero_le _, rfl, fun j a h => absurd h (by omega), hbel, Blk.new _ _ _⟩
      case round =>
        obtain ⟨k, hk, rfl, hall, hbr, hblk⟩ := hrel
        have HA := Lib.hid hall
        have c0 := hblk.cell 0
        have c1 := hblk.cell 1
        simp at c0 c1
        have HB := Lib.hid hblk
        clear hall hbel hblk
        by_cases hlt : k < r.rows.length
        · obtain ⟨b, off, a, rfl, _, hb, hla, q1⟩ := (hr.keep (SameIn.of_below hbr (Nat.le_refl _))).at1 hlt
          have HL := Lib.hid hla
          have hi0 : (0 : Int) ≤ (k : Int) := Int.natCast_nonneg _
          have hi1 : (k : Int) < (r.rows.length : Int) := by omega
          clear hr hla
          by_cases hok : 0 ≤ a ∧ a < 2 ^ wn
          · obtain ⟨ok1, ok2⟩ := hok
            have d1 : decide (a < 0) = false := by simpa using ok1
            go_wp2_with fail
            go_quiet (fail)
            go_wp2
            go_roundw
            case rel =>
              refine ⟨k + 1, by omega, by go_num, fun j a' hj hja => ?_, below_drewN hbr _, HB.out⟩
              by_cases hjk : j = k
              · subst hjk
                rw [HL.out] at hja
                obtain rfl := Option.some.inj hja
                exact ⟨ok1, ok2⟩
              · exact HA.out j a' (by omega) hja
            case measure => simp [intOf]; omega
          · have hv := HN.out k a HL.out hok
            have hsplit : a < 0 ∨ (0 ≤ a ∧ 2 ^ wn ≤ a) := by omega
            subst hv
            clear hok HN HV
            rcases hsplit with h | ⟨h, h'⟩
            · have d1 : decide (a < 0) = true := by simpa using h
              go_wp2_with fail
              go_quiet (fail)
              go_wp2
              go_ret
              exact ⟨rfl, below_drewN hbr _⟩
            · have d1 : decide (a < 0) = false := by simpa using h
              go_wp2_with fail
              go_quiet (fail)
              go_wp2
              go_ret
              exact ⟨rfl, below_drewN hbr _⟩
        · have hv := HV.out (fun j a hj => HA.out j a (by omega))
          subst hv
          clear HV HN
          go_wp2
          go_ret
          exact ⟨rfl, hbr⟩
    · have h2 : (decide ((1 : Int) ≤ r.rows.length) && decide ((r.rows.length : Int) ≤ 6)) = false := by simp; omega
      have hv : r.valid = false := by rw [Reg.valid_not]; rintro ⟨_, _, q3, q4, _⟩; exact hl ⟨q3, q4⟩
      rw [hv]
      clear hv
      go_enter Tryz.func39, Tryz.ntmps39
      go_wp2_with (go_at_call 59; refine (l1In_any _ _ _ _).mono ?_; rintro e w' ⟨rfl, rfl⟩)
      go_ret
      exact ⟨rfl, hbel⟩
  · have h1 : (decide (1 ≤ r.w) && decide (r.w ≤ 6)) = false := by simp; omega
    have hv : r.valid = false := by rw [Reg.valid_not]; rintro ⟨q1, q2, _⟩; exact hw ⟨q1, q2⟩
    rw [hv]
    clear hv
    go_enter Tryz.func39, Tryz.ntmps39
    go_wp2_with (go_at_call 59; refine (l1In_any _ _ _ _).mono ?_; rintro e w' ⟨rfl, rfl⟩)
    go_ret
    exact ⟨rfl, hbel⟩
end Go.Proofs.YtjkppigjajknaaaGreatDoor

namespace Go.Proofs.YtjkppigjajknaaaGreatDoor
open Go.RowKit

theorem Reg.has_eq {r : Reg} {x y : Nat} (hx : (x : Int) < r.w) (hy : y < r.rows.length) : r.has x y = (r.row y).testBit x := by
  have : (0 : Int) ≤ (x : Int) ∧ (x : Int) < r.w ∧ (0 : Int) ≤ (y : Int) ∧ (y : Int) < r.rows.length := ⟨by omega, hx, by omega, by omega⟩
  simp [Reg.has, this]
theorem Reg.has_out {r : Reg} {x y : Int} (h : ¬ (0 ≤ x ∧ x < r.w ∧ 0 ≤ y ∧ y < r.rows.length)) : r.has x y = false := by
  simp only [Reg.has, h, decide_false, Bool.false_and]

set_option maxRecDepth 100000 in
set_option maxHeartbeats 1600000 in
theorem impl_has_c {v : Value} {r : Reg} (x y : Int) (w : World) (h : RegRd w 0 w.heap.size v r) (hv : r.Valid) :
    Calls Tryz.prog 200 #[v, .int .i64 x, .int .i64 y] w fun e w' => e = .returned (.bool (r.has x y)) ∧ Below w.heap.size w w' := by
  obtain ⟨s, rfl, hs⟩ := h
  obtain ⟨A, c, rfl, hm, hr⟩ := hs
  unfold maxLen at hm
  have hbel : Below w.heap.size w (w.alloc (.cells #[.int .i64 r.w, .slice A r.rows.length c] 36)) := (Below.refl _ _).alloc (Nat.le_refl _) _
  have hv1 := hv.1
  have hv2 := hv.2.1
  have hv3 := hv.2.2.1
  have hv4 := hv.2.2.2.1
  have HV := Lib.hid hv
  clear hv
  by_cases h1 : 0 ≤ x ∧ x < r.w
  · obtain ⟨h1a, h1b⟩ := h1
    by_cases h2 : 0 ≤ y ∧ y < r.rows.length
    · obtain ⟨h2a, h2b⟩ := h2
      obtain ⟨xn, rfl⟩ := Int.eq_ofNat_of_zero_le h1a
      obtain ⟨yn, rfl⟩ := Int.eq_ofNat_of_zero_le h2a
      have hyn : yn < r.rows.length := by omega
      obtain ⟨b, off, a, rfl, _, hb, hla, q1⟩ := hr.at1 hyn
      obtain ⟨ea, hrow⟩ := Reg.row_of HV.out hla
      have hp := Reg.two_pow_le HV.out
      have hrl : r.row yn < 9223372036854775808 := by omega
      have hbt := bit_test (x := xn) hrl
      have hres : (bits .and .i64 ((r.row yn : Int) / 2 ^ xn) 1 == 1) = r.has xn yn := by rw [hbt, Reg.has_eq h1b hyn]
      generalize r.row yn = m at *
      subst ea
      have g1 : (0 : Int) ≤ (m : Int) := Int.natCast_nonneg _
      have HR := Lib.hid hres
      clear hres hbt hla hr hrow hp
      have hp : (decide ((0 : Int) ≤ (xn : Int)) && decide ((xn : Int) ≤ r.w - 1)) = true := by simp; omega
      have hq : (decide ((0 : Int) ≤ (yn : Int)) && decide ((yn : Int) ≤ (r.rows.length : Int) - 1)) = true := by simp; omega
      go_enter Tryz.func200, Tryz.ntmps200
      go_wp2_with (go_at_call 67; refine (between_any _ _ _ _).mono ?_; rintro e w' ⟨rfl, rfl⟩)
      go_ret
      exact ⟨by rw [← HR.out]; rfl, hbel⟩
    · have hf : r.has x y = false := Reg.has_out (by omega)
      rw [hf]
      clear hf
      have hp : (decide ((0 : Int) ≤ x) && decide (x ≤ r.w - 1)) = true := by simp; omega
      have hq : (decide ((0 : Int) ≤ y) && decide (y ≤ (r.rows.length : Int) - 1)) = false := by simp; omega
      go_enter Tryz.func200, Tryz.ntmps200
      go_wp2_with (go_at_call 67; refine (between_any _ _ _ _).mono ?_; rintro e w' ⟨rfl, rfl⟩)
      go_ret
      exact ⟨rfl, hbel⟩
  · have hf : r.has x y = false := Reg.has_out (by omega)
    rw [hf]
    clear hf
    have hp : (decide ((0 : Int) ≤ x) && decide (x ≤ r.w - 1)) = false := by simp; omega
    go_enter Tryz.func200, Tryz.ntmps200
    go_wp2_with (go_at_call 67; refine (between_any _ _ _ _).mono ?_; rintro e w' ⟨rfl, rfl⟩)
    go_ret
    exact ⟨rfl, hbel⟩
set_option maxRecDepth 100000 in
set_option maxHeartbeats 1600000 in
theorem spec_has_c {v : Value} {r : Reg} (x y : Int) (w : World) (h : RegRd w 0 w.heap.size v r) (hv : r.Valid) :
    Calls Tryz.prog 217 #[v, .int .i64 x, .int .i64 y] w fun e w' => e = .returned (.bool (r.has x y)) ∧ Below w.heap.size w w' := by
  obtain ⟨s, rfl, hs⟩ := h
  obtain ⟨A, c, rfl, hm, hr⟩ := hs
  unfold maxLen at hm
  have hbel : Below w.heap.size w (w.alloc (.cells #[.int .i64 r.w, .slice A r.rows.length c] 36)) := (Below.refl _ _).alloc (Nat.le_refl _) _
  have hv1 := hv.1
  have hv2 := hv.2.1
  have hv3 := hv.2.2.1
  have hv4 := hv.2.2.2.1
  have HV := Lib.hid hv
  clear hv
  by_cases h1 : 0 ≤ x ∧ x < r.w
  · obtain ⟨h1a, h1b⟩ := h1
    by_cases h2 : 0 ≤ y ∧ y < r.rows.length
    · obtain ⟨h2a, h2b⟩ := h2
      obtain ⟨xn, rfl⟩ := Int.eq_ofNat_of_zero_le h1a
      obtain ⟨yn, rfl⟩ := Int.eq_ofNat_of_zero_le h2a
      have hyn : yn < r.rows.length := by omega
      obtain ⟨b, off, a, rfl, _, hb, hla, q1⟩ := hr.at1 hyn
      obtain ⟨ea, hrow⟩ := Reg.row_of HV.out hla
      have hp := Reg.two_pow_le HV.out
      have hrl : r.row yn < 9223372036854775808 := by omega
      have hbt := bit_test (x := xn) hrl
      have hres : (bits .and .i64 ((r.row yn : Int) / 2 ^ xn) 1 == 1) = r.has xn yn := by rw [hbt, Reg.has_eq h1b hyn]
      generalize r.row yn = m at *
      subst ea
      have g1 : (0 : Int) ≤ (m : Int) := Int.natCast_nonneg _
      have HR := Lib.hid hres
      clear hres hbt hla hr hrow hp
      skip
      go_enter Tryz.func217, Tryz.ntmps217
      go_wp2
      go_ret
      exact ⟨by rw [← HR.out]; rfl, hbel⟩
    · have hf : r.has x y = false := Reg.has_out (by omega)
      rw [hf]
      clear hf
      have hsp : y < 0 ∨ (0 ≤ y ∧ (r.rows.length : Int) ≤ y) := by omega
      rcases hsp with h | ⟨h, h'⟩
      all_goals
        go_enter Tryz.func217, Tryz.ntmps217
        go_wp2
        go_ret
        exact ⟨rfl, hbel⟩
  · have hf : r.has x y = false := Reg.has_out (by omega)
    rw [hf]
    clear hf
    by_cases hx0 : 0 ≤ x
    · have hx1 : r.w ≤ x := by omega
      by_cases hy0 : 0 ≤ y
      all_goals
        go_enter Tryz.func217, Tryz.ntmps217
        go_wp2
        go_ret
        exact ⟨rfl, hbel⟩
    · go_enter Tryz.func217, Tryz.ntmps217
      go_wp2
      go_ret
      exact ⟨rfl, hbel⟩
end Go.Proofs.YtjkppigjajknaaaGreatDoor
