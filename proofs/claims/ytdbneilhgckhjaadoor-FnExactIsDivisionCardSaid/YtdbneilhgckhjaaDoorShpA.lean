
/-
  Shapes: the order of cells, the test of a shape: the walks of both sides.
-/
import Derived.Test.YtdbneilhgckhjaaDoorCwWalks
import Derived.Test.YtdbneilhgckhjaaDoorLater
namespace Go.Proofs.YtdbneilhgckhjaaDoor
open Go.RowKit

def inR (a b c : Int) : Bool := decide (b ≤ a) && decide (a ≤ c)
theorem inR_t {a b c : Int} (h1 : b ≤ a) (h2 : a ≤ c) : inR a b c = true := by simp [inR, h1, h2]
theorem inR_f {a b c : Int} (h : ¬ (b ≤ a ∧ a ≤ c)) : inR a b c = false := by simp [inR]; omega
theorem inR_iff {a b c : Int} : inR a b c = true ↔ b ≤ a ∧ a ≤ c := by simp [inR]
set_option maxRecDepth 100000 in
theorem between_r (a b c : Int) (w : World) : Calls Tryd.prog 65 #[.int .i64 a, .int .i64 b, .int .i64 c] w fun e w' => e = .returned (.bool (inR a b c)) ∧ w = w' := between_any a b c w
set_option maxRecDepth 100000 in
theorem l1In_r (a b c : Int) (w : World) : Calls Tryd.prog 59 #[.int .i64 a, .int .i64 b, .int .i64 c] w fun e w' => e = .returned (.bool (inR a b c)) ∧ w = w' := l1In_any a b c w

/-- the order of cells -/
def befB (a b : Cell) : Bool := decide (a.y < b.y) || (decide (a.y = b.y) && decide (a.x < b.x))
def okC (c : Cell) : Bool := inR c.x 0 7 && inR c.y 0 7
def okAt (s : List Cell) (i : Nat) : Bool := match s[i]? with
  | none => true
  | some c => okC c && (decide (i = 0) || match s[i - 1]? with | some b => befB b c | none => true)
def isShape (s : List Cell) : Bool := (List.range s.length).all (okAt s) && inR s.length 1 8
theorem okAt_out {s : List Cell} {k : Nat} {d : Cell} (h : s[k]? = some d) (ho : okC d = false) : okAt s k = false := by simp [okAt, h, ho]
theorem okAt_first {s : List Cell} {d : Cell} (h : s[0]? = some d) (ho : okC d = true) : okAt s 0 = true := by simp [okAt, h, ho]
theorem okAt_next {s : List Cell} {j : Nat} {b d : Cell} (hb : s[j]? = some b) (h : s[j + 1]? = some d) (ho : okC d = true) : okAt s (j + 1) = befB b d := by simp [okAt, h, hb, ho]
theorem isShape_no {s : List Cell} {i : Nat} (hi : i < s.length) (h : okAt s i = false) : isShape s = false := by
  unfold isShape
  rw [Bool.and_eq_false_iff]
  left
  rw [List.all_eq_false]
  exact ⟨i, List.mem_range.2 hi, by rw [h]; exact Bool.false_ne_true⟩
theorem isShape_end {s : List Cell} (h : ∀ i, i < s.length → okAt s i = true) : isShape s = inR s.length 1 8 := by
  unfold isShape
  rw [show (List.range s.length).all (okAt s) = true from List.all_eq_true.2 fun i hi => h i (List.mem_range.1 hi), Bool.true_and]

set_option maxRecDepth 100000 in
set_option maxHeartbeats 800000 in
theorem spec_bef_c (a b : Cell) (w : World) : Calls Tryd.prog 116 #[.agg #[.int .i64 a.x, .int .i64 a.y], .agg #[.int .i64 b.x, .int .i64 b.y]] w fun e w' => e = .returned (.bool (befB a b)) ∧ Below w.heap.size w w' := by
  obtain ⟨R, hR⟩ : ∃ R, R = befB a b := ⟨_, rfl⟩
  rw [← hR]
  unfold befB at hR
  by_cases h1 : a.y < b.y
  · obtain rfl : R = true := by rw [hR]; simp [h1]
    have d1 : decide (a.y < b.y) = true := by simpa using h1
    clear hR
    go_enter Tryd.func116, Tryd.ntmps116
    go_wp2
    go_ret
    exact ⟨rfl, (((Below.refl _ _).alloc (Nat.le_refl _) _).alloc (by simp) _)⟩
  · have d1 : decide (a.y < b.y) = false := by simpa using h1
    by_cases h2 : a.y = b.y
    · have d2 : (a.y == b.y) = true := by simpa using h2
      by_cases h3 : a.x < b.x
      · obtain rfl : R = true := by rw [hR]; simp [h2, h3]
        have d3 : decide (a.x < b.x) = true := by simpa using h3
        clear hR h2
        go_enter Tryd.func116, Tryd.ntmps116
        go_wp2
        go_ret
        exact ⟨rfl, (((Below.refl _ _).alloc (Nat.le_refl _) _).alloc (by simp) _)⟩
      · obtain rfl : R = false := by rw [hR]; simp [h2, h3]
        have d3 : decide (a.x < b.x) = false := by simpa using h3
        clear hR h2
        go_enter Tryd.func116, Tryd.ntmps116
        go_wp2
        go_ret
        exact ⟨rfl, (((Below.refl _ _).alloc (Nat.le_refl _) _).alloc (by simp) _)⟩
    · obtain rfl : R = false := by rw [hR]; simp [h1, h2]
      have d2 : (a.y == b.y) = false := by simpa using h2
      clear hR h2
      go_enter Tryd.func116, Tryd.ntmps116
      go_wp2
      go_ret
      exact ⟨rfl, (((Below.refl _ _).alloc (Nat.le_refl _) _).alloc (by simp) _)⟩
set_option maxRecDepth 100000 in
set_option maxHeartbeats 800000 in
theorem impl_bef_c (a b : Cell) (w : World) : Calls Tryd.prog 121 #[.agg #[.int .i64 a.x, .int .i64 a.y], .agg #[.int .i64 b.x, .int .i64 b.y]] w fun e w' => e = .returned (.bool (befB a b)) ∧ Below w.heap.size w w' := by
  obtain ⟨R, hR⟩ : ∃ R, R = befB a b := ⟨_, rfl⟩
  rw [← hR]
  unfold befB at hR
  by_cases h1 : a.y < b.y
  · obtain rfl : R = true := by rw [hR]; simp [h1]
    have d1 : decide (a.y < b.y) = true := by simpa using h1
    clear hR
    go_enter Tryd.func121, Tryd.ntmps121
    go_wp2
    go_ret
    exact ⟨rfl, (((Below.refl _ _).alloc (Nat.le_refl _) _).alloc (by simp) _)⟩
  · have d1 : decide (a.y < b.y) = false := by simpa using h1
    by_cases h2 : a.y = b.y
    · have d2 : (a.y == b.y) = true := by simpa using h2
      by_cases h3 : a.x < b.x
      · obtain rfl : R = true := by rw [hR]; simp [h2, h3]
        have d3 : decide (a.x < b.x) = true := by simpa using h3
        clear hR h2
        go_enter Tryd.func121, Tryd.ntmps121
        go_wp2
        go_ret
        exact ⟨rfl, (((Below.refl _ _).alloc (Nat.le_refl _) _).alloc (by simp) _)⟩
      · obtain rfl : R = false := by rw [hR]; simp [h2, h3]
        have d3 : decide (a.x < b.x) = false := by simpa using h3
        clear hR h2
        go_enter Tryd.func121, Tryd.ntmps121
        go_wp2
        go_ret
        exact ⟨rfl, (((Below.refl _ _).alloc (Nat.le_refl _) _).alloc (by simp) _)⟩
    · obtain rfl : R = false := by rw [hR]; simp [h1, h2]
      have d2 : (a.y == b.y) = false := by simpa using h2
      clear hR h2
      go_enter Tryd.func121, Tryd.ntmps121
      go_wp2
      go_ret
      exact ⟨rfl, (((Below.refl _ _).alloc (Nat.le_refl _) _).alloc (by simp) _)⟩

set_option maxRecDepth 100000 in
set_option maxHeartbeats 800000 in
theorem onBoard_c (c : Cell) (w : World) : Calls Tryd.prog 120 #[.agg #[.int .i64 c.x, .int .i64 c.y]] w fun e w' => e = .returned (.bool (okC c)) ∧ Below w.heap.size w w' := by
  obtain ⟨R, hR⟩ : ∃ R, R = okC c := ⟨_, rfl⟩
  rw [← hR]
  unfold okC at hR
  obtain ⟨p, hp⟩ : ∃ p, p = inR c.x 0 7 := ⟨_, rfl⟩
  obtain ⟨q, hq⟩ : ∃ q, q = inR c.y 0 7 := ⟨_, rfl⟩
  rw [← hp, ← hq] at hR
  replace hp := hp.symm
  replace hq := hq.symm
  cases p
  · obtain rfl : R = false := hR
    go_enter Tryd.func120, Tryd.ntmps120
    go_wp2_with (go_at_call 65; refine (between_r _ _ _ _).mono ?_; rintro e w' ⟨rfl, rfl⟩)
    go_ret
    exact ⟨rfl, (Below.refl _ _).alloc (Nat.le_refl _) _⟩
  · obtain rfl : R = q := hR
    go_enter Tryd.func120, Tryd.ntmps120
    go_wp2_with (go_at_call 65; refine (between_r _ _ _ _).mono ?_; rintro e w' ⟨rfl, rfl⟩)
    go_ret
    exact ⟨rfl, (Below.refl _ _).alloc (Nat.le_refl _) _⟩

set_option maxRecDepth 100000 in
set_option maxHeartbeats 3200000 in
theorem spec_isShape_c {v : Value} {s : List Cell} (w : World) (h : CellsRd w 0 w.heap.size v s) (hn : s.length ≤ 1048576) :
    Calls Tryd.prog 87 #[v] w fun e w' => e = .returned (.bool (isShape s)) ∧ Below w.heap.size w w' := by
  obtain ⟨A, c, rfl, hm, hr⟩ := h
  obtain ⟨R, hR⟩ : ∃ R, R = isShape s := ⟨_, rfl⟩
  rw [← hR]
  have HNO : Hid (∀ i, i < s.length → okAt s i = false → R = false) := Lib.hid fun i hi h => by rw [hR]; exact isShape_no hi h
  have HYES : Hid ((∀ i, i < s.length → okAt s i = true) → R = inR s.length 1 8) := Lib.hid fun h => by rw [hR]; exact isShape_end h
  have HR := Lib.hid hr
  clear hR hr hm
  go_enter Tryd.func87, Tryd.ntmps87
  go_wp2
  go_loopw [3] (fun i wr => ∃ k : Nat, k ≤ s.length ∧ i = .int .i64 k ∧ Hid (∀ i, i < k → okAt s i = true) ∧ Below w.heap.size w wr) (fun i _ => s.length - (intOf i).toNat)
  case atStart => exact ⟨0, Nat.zero_le _, rfl, Lib.hid (fun i hi => absurd hi (by omega)), Below.refl _ _⟩
  case round =>
    obtain ⟨k, hk, rfl, HK, hbel⟩ := hrel
    by_cases hlt : k < s.length
    · obtain ⟨b, off, hA, _, hb, hc⟩ := (HR.out.below hbel (Nat.le_refl _)).2 (by omega)
      subst hA
      obtain ⟨d, hla⟩ : ∃ d, s[k]? = some d := ⟨s[k], List.getElem?_eq_getElem hlt⟩
      have HL := Lib.hid hla
      have hbw : b < wr.heap.size := by have := hbel.size; omega
      have l1 := Later.cell (hc _ _ (cc_at hla).1) hbw
      have l2 := Later.cell (p := ⟨b, off + k * 2 + 1, none⟩) (by rw [Nat.add_assoc]; exact hc _ _ (cc_at hla).2) hbw
      by_cases hx : inR d.x 0 7 = true
      rotate_left
      · have hx : inR d.x 0 7 = false := by simpa using hx
        have HOC := Lib.hid (show okC d = false by rw [okC, hx, Bool.false_and])
        clear hla hc
        have hRe := HNO.out k hlt (okAt_out HL.out HOC.out)
        subst hRe
        go_wp2_with fail
        refine wp_region_later (by kernel_rfl) (by kernel_rfl) ?_
        repeat (go_big_quiet_step ((go_at_call 59; exact Later.same (l1In_r _ _ _ _))))
        refine wpQuiet_nil ?_
        intro w3 hw3
        obtain ⟨u3, hu3⟩ := hw3
        subst hu3
        have hb3 := hbel.trans (u3.h.mono hbel.size)
        clear l1 l2
        generalize u3.w = w3 at *
        go_wp2
        go_ret
        exact ⟨rfl, hb3⟩
      by_cases hy : inR d.y 0 7 = true
      rotate_left
      · have hy : inR d.y 0 7 = false := by simpa using hy
        have HOC := Lib.hid (show okC d = false by rw [okC, hy, Bool.and_false])
        clear hla hc
        have hRe := HNO.out k hlt (okAt_out HL.out HOC.out)
        subst hRe
        go_wp2_with fail
        refine wp_region_later (by kernel_rfl) (by kernel_rfl) ?_
        repeat (go_big_quiet_step ((go_at_call 59; exact Later.same (l1In_r _ _ _ _))))
        refine wpQuiet_nil ?_
        intro w3 hw3
        obtain ⟨u3, hu3⟩ := hw3
        subst hu3
        have hb3 := hbel.trans (u3.h.mono hbel.size)
        clear l1 l2
        generalize u3.w = w3 at *
        go_wp2
        go_ret
        exact ⟨rfl, hb3⟩
      have HOC := Lib.hid (show okC d = true by rw [okC, hx, hy]; rfl)
      by_cases hk0 : k = 0
      · have hd0 : decide ((0 : Int) < (k : Int)) = false := by simp; omega
        have hd1 : decide (0 < k) = false := by simp; omega
        have HK0 := Lib.hid hk0
        clear hla hc hk0
        have hk2 : ∀ i, i < k + 1 → okAt s i = true := fun i hi => by
          by_cases e : i = k
          · subst e; exact (by obtain rfl := HK0.out; exact okAt_first HL.out HOC.out)
          · exact HK.out i (by omega)
        have HK2 := Lib.hid hk2
        clear hk2
        go_wp2_with fail
        refine wp_region_later (by kernel_rfl) (by kernel_rfl) ?_
        repeat (go_big_quiet_step ((go_at_call 59; exact Later.same (l1In_r _ _ _ _))))
        refine wpQuiet_nil ?_
        intro w3 hw3
        obtain ⟨u3, hu3⟩ := hw3
        subst hu3
        have hb3 := hbel.trans (u3.h.mono hbel.size)
        clear l1 l2
        generalize u3.w = w3 at *
        go_wp2
        go_roundw
        case rel => exact ⟨k + 1, by omega, by go_num, HK2, hb3⟩
        case measure => simp [intOf]; omega
      · have hd0 : decide ((0 : Int) < (k : Int)) = true := by simp; omega
        have hd1 : decide (0 < k) = true := by simp; omega
        obtain ⟨j, hj⟩ : ∃ j, k = j + 1 := ⟨k - 1, by omega⟩
        obtain ⟨p, hlp⟩ : ∃ p, s[j]? = some p := ⟨s[j], List.getElem?_eq_getElem (by omega)⟩
        have l3 := Later.cell (hc _ _ (cc_at hlp).1) hbw
        have l4 := Later.cell (p := ⟨b, off + j * 2 + 1, none⟩) (by rw [Nat.add_assoc]; exact hc _ _ (cc_at hlp).2) hbw
        have e1 : (k : Int) - 1 = (j : Int) := by omega
        have e2 : IntKind.i64.wrap ((k : Int) - 1) = (j : Int) := by rw [e1]; exact IntWalk.i64_in _ (by omega)
        have HJ := Lib.hid hj
        have HP := Lib.hid hlp
        have hjs : j < s.length := by omega
        cases hbf : befB p d
        · have HB := Lib.hid hbf
          clear hla hc hk0 hlp hj
          have hRe := HNO.out k hlt (by obtain rfl := HJ.out; rw [okAt_next HP.out HL.out HOC.out]; exact HB.out)
          subst hRe
          go_wp2_with fail
          refine wp_region_later (by kernel_rfl) (by kernel_rfl) ?_
          repeat (go_big_quiet_step ((first | (go_at_call 59; exact Later.same (l1In_r _ _ _ _)) | (go_at_call 116; exact Later.call (spec_bef_c p d _)))))
          refine wpQuiet_nil ?_
          intro w3 hw3
          obtain ⟨u3, hu3⟩ := hw3
          subst hu3
          have hb3 := hbel.trans (u3.h.mono hbel.size)
          clear l1 l2
          generalize u3.w = w3 at *
          go_wp2
          go_ret
          exact ⟨rfl, hb3⟩
        · have HB := Lib.hid hbf
          clear hla hc hk0 hlp hj
          have hk2 : ∀ i, i < k + 1 → okAt s i = true := fun i hi => by
            by_cases e : i = k
            · subst e; exact (by obtain rfl := HJ.out; rw [okAt_next HP.out HL.out HOC.out]; exact HB.out)
            · exact HK.out i (by omega)
          have HK2 := Lib.hid hk2
          clear hk2
          go_wp2_with fail
          refine wp_region_later (by kernel_rfl) (by kernel_rfl) ?_
          repeat (go_big_quiet_step ((first | (go_at_call 59; exact Later.same (l1In_r _ _ _ _)) | (go_at_call 116; exact Later.call (spec_bef_c p d _)))))
          refine wpQuiet_nil ?_
          intro w3 hw3
          obtain ⟨u3, hu3⟩ := hw3
          subst hu3
          have hb3 := hbel.trans (u3.h.mono hbel.size)
          clear l1 l2
          generalize u3.w = w3 at *
          go_wp2
          go_roundw
          case rel => exact ⟨k + 1, by omega, by go_num, HK2, hb3⟩
          case measure => simp [intOf]; omega
    · obtain rfl : k = s.length := by omega
      have hRe := HYES.out HK.out
      subst hRe
      go_wp2_with (go_at_call 59; refine (l1In_r _ _ _ _).mono ?_; rintro e w' ⟨rfl, rfl⟩)
      go_ret
      exact ⟨rfl, hbel⟩
end Go.Proofs.YtdbneilhgckhjaaDoor
