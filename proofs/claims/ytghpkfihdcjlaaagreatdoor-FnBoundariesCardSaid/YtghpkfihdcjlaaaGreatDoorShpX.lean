
/-
  Shapes: the order of cells, the test of a shape: the walks of both sides. Shapes: the test of a shape: the walk of the program; whether a cell is there: both sides. Shapes: cells side by side: the walks of both sides; what hangs together, in plain Lean. Shapes: what hangs together: plain Lean, and the walk of the reference's 'IsConnectedShape'. Shapes: the walk of the reference's 'IsConnectedShape'. Shapes in their corner: plain Lean; the walks of the reference's 'CornerShape' and 'SizeOf'.
-/
import Derived.Test.YtghpkfihdcjlaaaGreatDoorCwWalks
import Derived.Test.YtghpkfihdcjlaaaGreatDoorSepX
import Derived.Deep.DeepCutAuto
namespace Go.Proofs.YtghpkfihdcjlaaaGreatDoor
open Go.RowKit

def inR (a b c : Int) : Bool := decide (b ≤ a) && decide (a ≤ c)
theorem inR_t {a b c : Int} (h1 : b ≤ a) (h2 : a ≤ c) : inR a b c = true := by simp [inR, h1, h2]
theorem inR_f {a b c : Int} (h : ¬ (b ≤ a ∧ a ≤ c)) : inR a b c = false := by simp [inR]; omega
theorem inR_iff {a b c : Int} : inR a b c = true ↔ b ≤ a ∧ a ≤ c := by simp [inR]
set_option maxRecDepth 100000 in
theorem between_r (a b c : Int) (w : World) : Calls Tryz.prog 54 #[.int .i64 a, .int .i64 b, .int .i64 c] w fun e w' => e = .returned (.bool (inR a b c)) ∧ w = w' := between_any a b c w
set_option maxRecDepth 100000 in
theorem l1In_r (a b c : Int) (w : World) : Calls Tryz.prog 41 #[.int .i64 a, .int .i64 b, .int .i64 c] w fun e w' => e = .returned (.bool (inR a b c)) ∧ w = w' := l1In_any a b c w

/-- the order of cells -/
def befB (a b : Cell) : Bool := decide (a.y < b.y) || (decide (a.y = b.y) && decide (a.x < b.x))
def okC (c : Cell) : Bool := inR c.x 0 7 && inR c.y 0 7
def okAt (s : List Cell) (i : Nat) : Bool := match s[i]? with
  | none => true
  | some c => okC c && (decide (i = 0) || match s[i - 1]? with | some b => befB b c | none => true)
def isShape (s : List Cell) : Bool := (List.range s.length).all (okAt s) && inR s.length 1 8
theorem okAt_out {s : List Cell} {k : Nat} {d : Cell} (h : s[k]? = some d) (ho : okC d = false) : okAt s k = false := by simp [okAt, h, ho]
theorem okAt_first {s : List Cell} {d : Cell} (h : s[0]? = some d) (ho : okC d = true) : okAt s 0 = true := by simp [okAt, h, ho]
theorem okAt_next {s : List Cell} {j : Nat} {b d : Cell} (hb : s[j]? = some b) (h : s[j + 1]? = some d) (ho : okC d = true) : okAt s (j + 1) = befB b d := by simp [okAt, h, hb, ho]
theorem isShape_no {s : List Cell} {i : Nat} (hi : i < s.length) (h : okAt s i = false) : isShape s = false := by
  unfold isShape
  rw [Bool.and_eq_false_iff]
  left
  rw [List.all_eq_false]
  exact ⟨i, List.mem_range.2 hi, by rw [h]; exact Bool.false_ne_true⟩
theorem isShape_end {s : List Cell} (h : ∀ i, i < s.length → okAt s i = true) : isShape s = inR s.length 1 8 := by
  unfold isShape
  rw [show (List.range s.length).all (okAt s) = true from List.all_eq_true.2 fun i hi => h i (List.mem_range.1 hi), Bool.true_and]

set_option maxRecDepth 100000 in
set_option maxHeartbeats 800000 in
theorem spec_bef_c (a b : Cell) (w : World) : Calls Tryz.prog 63 #[.agg #[.int .i64 a.x, .int .i64 a.y], .agg #[.int .i64 b.x, .int .i64 b.y]] w fun e w' => e = .returned (.bool (befB a b)) ∧ Below w.heap.size w w' := by
  obtain ⟨R, hR⟩ : ∃ R, R = befB a b := ⟨_, rfl⟩
  rw [← hR]
  unfold befB at hR
  by_cases h1 : a.y < b.y
  · obtain rfl : R = true := by rw [hR]; simp [h1]
    have d1 : decide (a.y < b.y) = true := by simpa using h1
    clear hR
    go_enter Tryz.func63, Tryz.ntmps63
    go_wp2
    go_ret
    exact ⟨rfl, (((Below.refl _ _).alloc (Nat.le_refl _) _).alloc (by simp) _)⟩
  · have d1 : decide (a.y < b.y) = false := by simpa using h1
    by_cases h2 : a.y = b.y
    · have d2 : (a.y == b.y) = true := by simpa using h2
      by_cases h3 : a.x < b.x
      · obtain rfl : R = true := by rw [hR]; simp [h2, h3]
        have d3 : decide (a.x < b.x) = true := by simpa using h3
        clear hR h2
        go_enter Tryz.func63, Tryz.ntmps63
        go_wp2
        go_ret
        exact ⟨rfl, (((Below.refl _ _).alloc (Nat.le_refl _) _).alloc (by simp) _)⟩
      · obtain rfl : R = false := by rw [hR]; simp [h2, h3]
        have d3 : decide (a.x < b.x) = false := by simpa using h3
        clear hR h2
        go_enter Tryz.func63, Tryz.ntmps63
        go_wp2
        go_ret
        exact ⟨rfl, (((Below.refl _ _).alloc (Nat.le_refl _) _).alloc (by simp) _)⟩
    · obtain rfl : R = false := by rw [hR]; simp [h1, h2]
      have d2 : (a.y == b.y) = false := by simpa using h2
      clear hR h2
      go_enter Tryz.func63, Tryz.ntmps63
      go_wp2
      go_ret
      exact ⟨rfl, (((Below.refl _ _).alloc (Nat.le_refl _) _).alloc (by simp) _)⟩
set_option maxRecDepth 100000 in
set_option maxHeartbeats 800000 in
theorem impl_bef_c (a b : Cell) (w : World) : Calls Tryz.prog 71 #[.agg #[.int .i64 a.x, .int .i64 a.y], .agg #[.int .i64 b.x, .int .i64 b.y]] w fun e w' => e = .returned (.bool (befB a b)) ∧ Below w.heap.size w w' := by
  obtain ⟨R, hR⟩ : ∃ R, R = befB a b := ⟨_, rfl⟩
  rw [← hR]
  unfold befB at hR
  by_cases h1 : a.y < b.y
  · obtain rfl : R = true := by rw [hR]; simp [h1]
    have d1 : decide (a.y < b.y) = true := by simpa using h1
    clear hR
    go_enter Tryz.func71, Tryz.ntmps71
    go_wp2
    go_ret
    exact ⟨rfl, (((Below.refl _ _).alloc (Nat.le_refl _) _).alloc (by simp) _)⟩
  · have d1 : decide (a.y < b.y) = false := by simpa using h1
    by_cases h2 : a.y = b.y
    · have d2 : (a.y == b.y) = true := by simpa using h2
      by_cases h3 : a.x < b.x
      · obtain rfl : R = true := by rw [hR]; simp [h2, h3]
        have d3 : decide (a.x < b.x) = true := by simpa using h3
        clear hR h2
        go_enter Tryz.func71, Tryz.ntmps71
        go_wp2
        go_ret
        exact ⟨rfl, (((Below.refl _ _).alloc (Nat.le_refl _) _).alloc (by simp) _)⟩
      · obtain rfl : R = false := by rw [hR]; simp [h2, h3]
        have d3 : decide (a.x < b.x) = false := by simpa using h3
        clear hR h2
        go_enter Tryz.func71, Tryz.ntmps71
        go_wp2
        go_ret
        exact ⟨rfl, (((Below.refl _ _).alloc (Nat.le_refl _) _).alloc (by simp) _)⟩
    · obtain rfl : R = false := by rw [hR]; simp [h1, h2]
      have d2 : (a.y == b.y) = false := by simpa using h2
      clear hR h2
      go_enter Tryz.func71, Tryz.ntmps71
      go_wp2
      go_ret
      exact ⟨rfl, (((Below.refl _ _).alloc (Nat.le_refl _) _).alloc (by simp) _)⟩

set_option maxRecDepth 100000 in
set_option maxHeartbeats 800000 in
theorem onBoard_c (c : Cell) (w : World) : Calls Tryz.prog 70 #[.agg #[.int .i64 c.x, .int .i64 c.y]] w fun e w' => e = .returned (.bool (okC c)) ∧ Below w.heap.size w w' := by
  obtain ⟨R, hR⟩ : ∃ R, R = okC c := ⟨_, rfl⟩
  rw [← hR]
  unfold okC at hR
  obtain ⟨p, hp⟩ : ∃ p, p = inR c.x 0 7 := ⟨_, rfl⟩
  obtain ⟨q, hq⟩ : ∃ q, q = inR c.y 0 7 := ⟨_, rfl⟩
  rw [← hp, ← hq] at hR
  replace hp := hp.symm
  replace hq := hq.symm
  cases p
  · obtain rfl : R = false := hR
    go_enter Tryz.func70, Tryz.ntmps70
    go_wp2_with (go_at_call 54; refine (between_r _ _ _ _).mono ?_; rintro e w' ⟨rfl, rfl⟩)
    go_ret
    exact ⟨rfl, (Below.refl _ _).alloc (Nat.le_refl _) _⟩
  · obtain rfl : R = q := hR
    go_enter Tryz.func70, Tryz.ntmps70
    go_wp2_with (go_at_call 54; refine (between_r _ _ _ _).mono ?_; rintro e w' ⟨rfl, rfl⟩)
    go_ret
    exact ⟨rfl, (Below.refl _ _).alloc (Nat.le_refl _) _⟩

set_option maxRecDepth 100000 in
set_option maxHeartbeats 3200000 in
theorem spec_isShape_c {v : Value} {s : List Cell} (w : World) (h : CellsRd w 0 w.heap.size v s) (hn : s.length ≤ 1048576) :
    Calls Tryz.prog 38 #[v] w fun e w' => e = .returned (.bool (isShape s)) ∧ Below w.heap.size w w' := by
  obtain ⟨A, c, rfl, hm, hr⟩ := h
  obtain ⟨R, hR⟩ : ∃ R, R = isShape s := ⟨_, rfl⟩
  rw [← hR]
  have HNO : Hid (∀ i, i < s.length → okAt s i = false → R = false) := Lib.hid fun i hi h => by rw [hR]; exact isShape_no hi h
  have HYES : Hid ((∀ i, i < s.length → okAt s i = true) → R = inR s.length 1 8) := Lib.hid fun h => by rw [hR]; exact isShape_end h
  have HR := Lib.hid hr
  clear hR hr hm
  go_enter Tryz.func38, Tryz.ntmps38
  go_wp2
  go_loopw [3] (fun i wr => ∃ k : Nat, k ≤ s.length ∧ i = .int .i64 k ∧ Hid (∀ i, i < k → okAt s i = true) ∧ Below w.heap.size w wr) (fun i _ => s.length - (intOf i).toNat)
  case atStart => exact ⟨0, Nat.zero_le _, rfl, Lib.hid (fun i hi => absurd hi (by omega)), Below.refl _ _⟩
  case round =>
    obtain ⟨k, hk, rfl, HK, hbel⟩ := hrel
    by_cases hlt : k < s.length
    · obtain ⟨b, off, hA, _, hb, hc⟩ := (HR.out.below hbel (Nat.le_refl _)).2 (by omega)
      subst hA
      obtain ⟨d, hla⟩ : ∃ d, s[k]? = some d := ⟨s[k], List.getElem?_eq_getElem hlt⟩
      have HL := Lib.hid hla
      have hbw : b < wr.heap.size := by have := hbel.size; omega
      have l1 := Later.cell (hc _ _ (cc_at hla).1) hbw
      have l2 := Later.cell (p := ⟨b, off + k * 2 + 1, none⟩) (by rw [Nat.add_assoc]; exact hc _ _ (cc_at hla).2) hbw
      by_cases hx : inR d.x 0 7 = true
      rotate_left
      · have hx : inR d.x 0 7 = false := by simpa using hx
        have HOC := Lib.hid (show okC d = false by rw [okC, hx, Bool.false_and])
        clear hla hc
        have hRe := HNO.out k hlt (okAt_out HL.out HOC.out)
        subst hRe
        go_wp2_with fail
        refine wp_region_later (by kernel_rfl) (by kernel_rfl) ?_
        repeat (go_big_quiet_step ((go_at_call 41; exact Later.same (l1In_r _ _ _ _))))
        refine wpQuiet_nil ?_
        intro w3 hw3
        obtain ⟨u3, hu3⟩ := hw3
        subst hu3
        have hb3 := hbel.trans (u3.h.mono hbel.size)
        clear l1 l2
        generalize u3.w = w3 at *
        go_wp2
        go_ret
        exact ⟨rfl, hb3⟩
      by_cases hy : inR d.y 0 7 = true
      rotate_left
      · have hy : inR d.y 0 7 = false := by simpa using hy
        have HOC := Lib.hid (show okC d = false by rw [okC, hy, Bool.and_false])
        clear hla hc
        have hRe := HNO.out k hlt (okAt_out HL.out HOC.out)
        subst hRe
        go_wp2_with fail
        refine wp_region_later (by kernel_rfl) (by kernel_rfl) ?_
        repeat (go_big_quiet_step ((go_at_call 41; exact Later.same (l1In_r _ _ _ _))))
        refine wpQuiet_nil ?_
        intro w3 hw3
        obtain ⟨u3, hu3⟩ := hw3
        subst hu3
        have hb3 := hbel.trans (u3.h.mono hbel.size)
        clear l1 l2
        generalize u3.w = w3 at *
        go_wp2
        go_ret
        exact ⟨rfl, hb3⟩
      have HOC := Lib.hid (show okC d = true by rw [okC, hx, hy]; rfl)
      by_cases hk0 : k = 0
      · have hd0 : decide ((0 : Int) < (k : Int)) = false := by simp; omega
        have hd1 : decide (0 < k) = false := by simp; omega
        have HK0 := Lib.hid hk0
        clear hla hc hk0
        have hk2 : ∀ i, i < k + 1 → okAt s i = true := fun i hi => by
          by_cases e : i = k
          · subst e; exact (by obtain rfl := HK0.out; exact okAt_first HL.out HOC.out)
          · exact HK.out i (by omega)
        have HK2 := Lib.hid hk2
        clear hk2
        go_wp2_with fail
        refine wp_region_later (by kernel_rfl) (by kernel_rfl) ?_
        repeat (go_big_quiet_step ((go_at_call 41; exact Later.same (l1In_r _ _ _ _))))
        refine wpQuiet_nil ?_
        intro w3 hw3
        obtain ⟨u3, hu3⟩ := hw3
        subst hu3
        have hb3 := hbel.trans (u3.h.mono hbel.size)
        clear l1 l2
        generalize u3.w = w3 at *
        go_wp2
        go_roundw
        case rel => exact ⟨k + 1, by omega, by go_num, HK2, hb3⟩
        case measure => simp [intOf]; omega
      · have hd0 : decide ((0 : Int) < (k : Int)) = true := by simp; omega
        have hd1 : decide (0 < k) = true := by simp; omega
        obtain ⟨j, hj⟩ : ∃ j, k = j + 1 := ⟨k - 1, by omega⟩
        obtain ⟨p, hlp⟩ : ∃ p, s[j]? = some p := ⟨s[j], List.getElem?_eq_getElem (by omega)⟩
        have l3 := Later.cell (hc _ _ (cc_at hlp).1) hbw
        have l4 := Later.cell (p := ⟨b, off + j * 2 + 1, none⟩) (by rw [Nat.add_assoc]; exact hc _ _ (cc_at hlp).2) hbw
        have e1 : (k : Int) - 1 = (j : Int) := by omega
        have e2 : IntKind.i64.wrap ((k : Int) - 1) = (j : Int) := by rw [e1]; exact IntWalk.i64_in _ (by omega)
        have HJ := Lib.hid hj
        have HP := Lib.hid hlp
        have hjs : j < s.length := by omega
        cases hbf : befB p d
        · have HB := Lib.hid hbf
          clear hla hc hk0 hlp hj
          have hRe := HNO.out k hlt (by obtain rfl := HJ.out; rw [okAt_next HP.out HL.out HOC.out]; exact HB.out)
          subst hRe
          go_wp2_with fail
          refine wp_region_later (by kernel_rfl) (by kernel_rfl) ?_
          repeat (go_big_quiet_step ((first | (go_at_call 41; exact Later.same (l1In_r _ _ _ _)) | (go_at_call 63; exact Later.call (spec_bef_c p d _)))))
          refine wpQuiet_nil ?_
          intro w3 hw3
          obtain ⟨u3, hu3⟩ := hw3
          subst hu3
          have hb3 := hbel.trans (u3.h.mono hbel.size)
          clear l1 l2
          generalize u3.w = w3 at *
          go_wp2
          go_ret
          exact ⟨rfl, hb3⟩
        · have HB := Lib.hid hbf
          clear hla hc hk0 hlp hj
          have hk2 : ∀ i, i < k + 1 → okAt s i = true := fun i hi => by
            by_cases e : i = k
            · subst e; exact (by obtain rfl := HJ.out; rw [okAt_next HP.out HL.out HOC.out]; exact HB.out)
            · exact HK.out i (by omega)
          have HK2 := Lib.hid hk2
          clear hk2
          go_wp2_with fail
          refine wp_region_later (by kernel_rfl) (by kernel_rfl) ?_
          repeat (go_big_quiet_step ((first | (go_at_call 41; exact Later.same (l1In_r _ _ _ _)) | (go_at_call 63; exact Later.call (spec_bef_c p d _)))))
          refine wpQuiet_nil ?_
          intro w3 hw3
          obtain ⟨u3, hu3⟩ := hw3
          subst hu3
          have hb3 := hbel.trans (u3.h.mono hbel.size)
          clear l1 l2
          generalize u3.w = w3 at *
          go_wp2
          go_roundw
          case rel => exact ⟨k + 1, by omega, by go_num, HK2, hb3⟩
          case measure => simp [intOf]; omega
    · obtain rfl : k = s.length := by omega
      have hRe := HYES.out HK.out
      subst hRe
      go_wp2_with (go_at_call 41; refine (l1In_r _ _ _ _).mono ?_; rintro e w' ⟨rfl, rfl⟩)
      go_ret
      exact ⟨rfl, hbel⟩
end Go.Proofs.YtghpkfihdcjlaaaGreatDoor

namespace Go.Proofs.YtghpkfihdcjlaaaGreatDoor
open Go.RowKit

set_option maxRecDepth 100000 in
set_option maxHeartbeats 3200000 in
theorem impl_isShape_c {v : Value} {s : List Cell} (w : World) (h : CellsRd w 0 w.heap.size v s) (hn : s.length ≤ 1048576) :
    Calls Tryz.prog 51 #[v] w fun e w' => e = .returned (.bool (isShape s)) ∧ Below w.heap.size w w' := by
  obtain ⟨A, c, rfl, hm, hr⟩ := h
  obtain ⟨R, hR⟩ : ∃ R, R = isShape s := ⟨_, rfl⟩
  rw [← hR]
  have HNO : Hid (∀ i, i < s.length → okAt s i = false → R = false) := Lib.hid fun i hi h => by rw [hR]; exact isShape_no hi h
  have HYES : Hid ((∀ i, i < s.length → okAt s i = true) → R = inR s.length 1 8) := Lib.hid fun h => by rw [hR]; exact isShape_end h
  have HR := Lib.hid hr
  clear hR hr hm
  go_enter Tryz.func51, Tryz.ntmps51
  go_wp2
  go_loopw [7] (fun i wr => ∃ k : Nat, k ≤ s.length ∧ i = .int .i64 k ∧ Hid (∀ i, i < k → okAt s i = true) ∧ Below w.heap.size w wr) (fun i _ => s.length - (intOf i).toNat)
  case atStart => exact ⟨0, Nat.zero_le _, rfl, Lib.hid (fun i hi => absurd hi (by omega)), Below.refl _ _⟩
  case round =>
    obtain ⟨k, hk, rfl, HK, hbel0⟩ := hrel
    by_cases hlt : k < s.length
    · obtain ⟨b, off, hA, _, hb, hc⟩ := (HR.out.below hbel0 (Nat.le_refl _)).2 (by omega)
      subst hA
      obtain ⟨d, hla⟩ : ∃ d, s[k]? = some d := ⟨s[k], List.getElem?_eq_getElem hlt⟩
      have HL := Lib.hid hla
      have hbw : b < wr.heap.size := by have := hbel0.size; omega
      have q1 := hc _ _ (cc_at hla).1
      have q2 : wr.cell? ⟨b, off + k * 2 + 1, none⟩ = some (.int .i64 d.y) := by rw [Nat.add_assoc]; exact hc _ _ (cc_at hla).2
      have H := (Sep.start wr).box 46 #[.int .i64 d.x, .int .i64 d.y]
      have l1 := Later.cell (H.h0.cell 0) H.h0.lt
      have l2 := Later.cell (H.h0.cell 1) H.h0.lt
      simp at l1 l2
      have hbel := hbel0.trans (H.below.mono hbel0.size)
      have hbW : b < (wr.alloc (.cells #[.int .i64 d.x, .int .i64 d.y] 46)).heap.size := by have := H.size; omega
      cases hoc : okC d
      · have HOC := Lib.hid hoc
        clear hla hc H hbel0
        have hRe := HNO.out k hlt (okAt_out HL.out HOC.out)
        subst hRe
        go_upto_region 4 with fail
        generalize wr.alloc (.cells #[.int .i64 d.x, .int .i64 d.y] 46) = W at *
        refine wp_region_later (by kernel_rfl) (by kernel_rfl) ?_
        repeat (go_big_quiet_step ((go_at_call 70; exact Later.call (onBoard_c d _))))
        refine wpQuiet_nil ?_
        intro w3 hw3
        obtain ⟨u3, hu3⟩ := hw3
        subst hu3
        have hb3 := hbel.trans (u3.h.mono hbel.size)
        clear l1 l2
        generalize u3.w = w3 at *
        go_wp2
        go_ret
        exact ⟨rfl, hb3⟩
      have HOC := Lib.hid hoc
      by_cases hk0 : k = 0
      · have hd0 : decide ((0 : Int) < (k : Int)) = false := by simp; omega
        have hd1 : decide (0 < k) = false := by simp; omega
        have HK0 := Lib.hid hk0
        clear hla hc hk0 H hbel0
        have hk2 : ∀ i, i < k + 1 → okAt s i = true := fun i hi => by
          by_cases e : i = k
          · subst e; exact (by obtain rfl := HK0.out; exact okAt_first HL.out HOC.out)
          · exact HK.out i (by omega)
        have HK2 := Lib.hid hk2
        clear hk2
        go_upto_region 4 with fail
        generalize wr.alloc (.cells #[.int .i64 d.x, .int .i64 d.y] 46) = W at *
        refine wp_region_later (by kernel_rfl) (by kernel_rfl) ?_
        repeat (go_big_quiet_step ((go_at_call 70; exact Later.call (onBoard_c d _))))
        refine wpQuiet_nil ?_
        intro w3 hw3
        obtain ⟨u3, hu3⟩ := hw3
        subst hu3
        have hb3 := hbel.trans (u3.h.mono hbel.size)
        clear l1 l2
        generalize u3.w = w3 at *
        go_wp2
        go_roundw
        case rel => exact ⟨k + 1, by omega, by go_num, HK2, hb3⟩
        case measure => simp [intOf]; omega
      · have hd0 : decide ((0 : Int) < (k : Int)) = true := by simp; omega
        have hd1 : decide (0 < k) = true := by simp; omega
        obtain ⟨j, hj⟩ : ∃ j, k = j + 1 := ⟨k - 1, by omega⟩
        obtain ⟨p, hlp⟩ : ∃ p, s[j]? = some p := ⟨s[j], List.getElem?_eq_getElem (by omega)⟩
        have q3 : wr.cell? ⟨b, off + j * 2 + 1, none⟩ = some (.int .i64 p.y) := by rw [Nat.add_assoc]; exact hc _ _ (cc_at hlp).2
        have l3 := Later.cell ((H.below.cell (p := ⟨b, off + j * 2, none⟩) hbw).trans (hc _ _ (cc_at hlp).1)) hbW
        have l4 := Later.cell ((H.below.cell (p := ⟨b, off + j * 2 + 1, none⟩) hbw).trans q3) hbW
        have e1 : (k : Int) - 1 = (j : Int) := by omega
        have e2 : IntKind.i64.wrap ((k : Int) - 1) = (j : Int) := by rw [e1]; exact IntWalk.i64_in _ (by omega)
        have HJ := Lib.hid hj
        have HP := Lib.hid hlp
        have hjs : j < s.length := by omega
        cases hbf : befB p d
        · have HB := Lib.hid hbf
          clear hla hc hk0 hlp hj H hbel0 q3
          have hRe := HNO.out k hlt (by obtain rfl := HJ.out; rw [okAt_next HP.out HL.out HOC.out]; exact HB.out)
          subst hRe
          go_upto_region 4 with fail
          generalize wr.alloc (.cells #[.int .i64 d.x, .int .i64 d.y] 46) = W at *
          refine wp_region_later (by kernel_rfl) (by kernel_rfl) ?_
          repeat (go_big_quiet_step ((first | (go_at_call 70; exact Later.call (onBoard_c d _)) | (go_at_call 71; exact Later.call (impl_bef_c p d _)))))
          refine wpQuiet_nil ?_
          intro w3 hw3
          obtain ⟨u3, hu3⟩ := hw3
          subst hu3
          have hb3 := hbel.trans (u3.h.mono hbel.size)
          clear l1 l2
          generalize u3.w = w3 at *
          go_wp2
          go_ret
          exact ⟨rfl, hb3⟩
        · have HB := Lib.hid hbf
          clear hla hc hk0 hlp hj H hbel0 q3
          have hk2 : ∀ i, i < k + 1 → okAt s i = true := fun i hi => by
            by_cases e : i = k
            · subst e; exact (by obtain rfl := HJ.out; rw [okAt_next HP.out HL.out HOC.out]; exact HB.out)
            · exact HK.out i (by omega)
          have HK2 := Lib.hid hk2
          clear hk2
          go_upto_region 4 with fail
          generalize wr.alloc (.cells #[.int .i64 d.x, .int .i64 d.y] 46) = W at *
          refine wp_region_later (by kernel_rfl) (by kernel_rfl) ?_
          repeat (go_big_quiet_step ((first | (go_at_call 70; exact Later.call (onBoard_c d _)) | (go_at_call 71; exact Later.call (impl_bef_c p d _)))))
          refine wpQuiet_nil ?_
          intro w3 hw3
          obtain ⟨u3, hu3⟩ := hw3
          subst hu3
          have hb3 := hbel.trans (u3.h.mono hbel.size)
          clear l1 l2
          generalize u3.w = w3 at *
          go_wp2
          go_roundw
          case rel => exact ⟨k + 1, by omega, by go_num, HK2, hb3⟩
          case measure => simp [intOf]; omega
    · obtain rfl : k = s.length := by omega
      have hRe := HYES.out HK.out
      subst hRe
      go_wp2_with (go_at_call 54; refine (between_r _ _ _ _).mono ?_; rintro e w' ⟨rfl, rfl⟩)
      go_ret
      exact ⟨rfl, hbel0⟩
set_option maxRecDepth 100000 in
set_option maxHeartbeats 1600000 in
theorem spec_has2_c {v : Value} {l : List Cell} (x y : Int) (w : World) (h : CellsRd w 0 w.heap.size v l) (hl : l.length ≤ 1000000) :
    Calls Tryz.prog 57 #[v, .int .i64 x, .int .i64 y] w fun e w' => e = .returned (.bool (decide ((⟨x, y⟩ : Cell) ∈ l))) ∧ w = w' := by
  obtain ⟨A, c, rfl, hm, hr⟩ := h
  obtain ⟨R, hR⟩ : ∃ R, R = decide ((⟨x, y⟩ : Cell) ∈ l) := ⟨_, rfl⟩
  rw [← hR]
  have hyes : ∀ (k : Nat) (d : Cell), l[k]? = some d → d.x = x → d.y = y → R = true := fun k d hd h1 h2 => by
    rw [hR]
    exact decide_eq_true (by rw [← h1, ← h2]; exact List.mem_of_getElem? hd)
  have hno : (∀ (k : Nat) (d : Cell), k < l.length → l[k]? = some d → ¬ (d.x = x ∧ d.y = y)) → R = false := fun h => by
    rw [hR]
    refine decide_eq_false fun hm => ?_
    obtain ⟨k, hk, e⟩ := List.getElem_of_mem hm
    exact h k ⟨x, y⟩ hk (by rw [List.getElem?_eq_getElem hk, e]) ⟨rfl, rfl⟩
  have HY := Lib.hid hyes
  have HN := Lib.hid hno
  clear hR hyes hno
  go_enter Tryz.func57, Tryz.ntmps57
  go_wp2
  go_loopw [7] (fun i wr => ∃ k : Nat, k ≤ l.length ∧ i = .int .i64 k ∧ wr = w ∧ Hid (∀ (j : Nat) (d : Cell), j < k → l[j]? = some d → ¬ (d.x = x ∧ d.y = y))) (fun i _ => l.length - (intOf i).toNat)
  case atStart => exact ⟨0, Nat.zero_le _, rfl, rfl, Lib.hid fun j d h => absurd h (by omega)⟩
  case round =>
    obtain ⟨k, hk, rfl, rfl, HA⟩ := hrel
    by_cases hlt : k < l.length
    · obtain ⟨b, off, d, rfl, _, hb, hd, q1, q2⟩ := hr.at2 hlt
      have HD := Lib.hid hd
      clear hr hd
      by_cases hx : d.x = x
      · by_cases hy : d.y = y
        · have := HY.out k d HD.out hx hy
          subst this
          subst hx
          subst hy
          go_wp2
          go_ret
          exact ⟨rfl, rfl⟩
        · subst hx
          go_wp2
          go_roundw
          case rel => exact ⟨k + 1, by omega, by go_num, trivial, Lib.hid fun j d' hj hd' => by
            by_cases e : j = k
            · subst e; rw [HD.out] at hd'; injection hd' with hd'; subst hd'; exact fun h => hy h.2
            · exact HA.out j d' (by omega) hd'⟩
          case measure => simp [intOf]; omega
      · go_wp2
        go_roundw
        case rel => exact ⟨k + 1, by omega, by go_num, trivial, Lib.hid fun j d' hj hd' => by
          by_cases e : j = k
          · subst e; rw [HD.out] at hd'; injection hd' with hd'; subst hd'; exact fun h => hx h.1
          · exact HA.out j d' (by omega) hd'⟩
        case measure => simp [intOf]; omega
    · have hkn : k = l.length := by omega
      subst hkn
      have := HN.out HA.out
      subst this
      go_wp2
      go_ret
      exact ⟨rfl, rfl⟩

set_option maxRecDepth 100000 in
set_option maxHeartbeats 1600000 in
theorem impl_has2_c {v : Value} {l : List Cell} (x y : Int) (w : World) (h : CellsRd w 0 w.heap.size v l) (hl : l.length ≤ 1048576) :
    Calls Tryz.prog 55 #[v, .int .i64 x, .int .i64 y] w fun e w' => e = .returned (.bool (decide ((⟨x, y⟩ : Cell) ∈ l))) ∧ Below w.heap.size w w' := by
  obtain ⟨A, c, rfl, hm, hr⟩ := h
  obtain ⟨R, hR⟩ : ∃ R, R = decide ((⟨x, y⟩ : Cell) ∈ l) := ⟨_, rfl⟩
  rw [← hR]
  have hyes : ∀ (k : Nat) (d : Cell), l[k]? = some d → d.x = x → d.y = y → R = true := fun k d hd h1 h2 => by
    rw [hR]
    exact decide_eq_true (by rw [← h1, ← h2]; exact List.mem_of_getElem? hd)
  have hno : (∀ (k : Nat) (d : Cell), k < l.length → l[k]? = some d → ¬ (d.x = x ∧ d.y = y)) → R = false := fun h => by
    rw [hR]
    refine decide_eq_false fun hm => ?_
    obtain ⟨k, hk, e⟩ := List.getElem_of_mem hm
    exact h k ⟨x, y⟩ hk (by rw [List.getElem?_eq_getElem hk, e]) ⟨rfl, rfl⟩
  have HY := Lib.hid hyes
  have HN := Lib.hid hno
  clear hR hyes hno
  go_enter Tryz.func55, Tryz.ntmps55
  go_wp2
  go_loopw [11] (fun i wr => ∃ k : Nat, k ≤ l.length ∧ i = .int .i64 k ∧ Below w.heap.size w wr ∧ Hid (∀ (j : Nat) (d : Cell), j < k → l[j]? = some d → ¬ (d.x = x ∧ d.y = y))) (fun i _ => l.length - (intOf i).toNat)
  case atStart => exact ⟨0, Nat.zero_le _, rfl, Below.refl _ _, Lib.hid fun j d h => absurd h (by omega)⟩
  case round =>
    obtain ⟨k, hk, rfl, hbel, HA⟩ := hrel
    by_cases hlt : k < l.length
    · obtain ⟨b, off, d, rfl, _, hb, hd, q1, q2⟩ := (hr.below hbel (Nat.le_refl _)).at2 hlt
      have HD := Lib.hid hd
      have hb2 : Below w.heap.size w (wr.alloc (.cells #[.int .i64 d.x, .int .i64 d.y] 46)) := hbel.trans (((Below.refl _ _).alloc (Nat.le_refl _) _).mono hbel.size)
      clear hr hd
      by_cases hx : d.x = x
      · by_cases hy : d.y = y
        · have := HY.out k d HD.out hx hy
          subst this
          subst hx
          subst hy
          go_wp2
          go_ret
          exact ⟨rfl, hb2⟩
        · subst hx
          go_wp2
          go_roundw
          case rel => exact ⟨k + 1, by omega, by go_num, hb2, Lib.hid fun j d' hj hd' => by
            by_cases e : j = k
            · subst e; rw [HD.out] at hd'; injection hd' with hd'; subst hd'; exact fun h => hy h.2
            · exact HA.out j d' (by omega) hd'⟩
          case measure => simp [intOf]; omega
      · go_wp2
        go_roundw
        case rel => exact ⟨k + 1, by omega, by go_num, hb2, Lib.hid fun j d' hj hd' => by
          by_cases e : j = k
          · subst e; rw [HD.out] at hd'; injection hd' with hd'; subst hd'; exact fun h => hx h.1
          · exact HA.out j d' (by omega) hd'⟩
        case measure => simp [intOf]; omega
    · have hkn : k = l.length := by omega
      subst hkn
      have := HN.out HA.out
      subst this
      go_wp2
      go_ret
      exact ⟨rfl, hbel⟩
end Go.Proofs.YtghpkfihdcjlaaaGreatDoor

namespace Go.Proofs.YtghpkfihdcjlaaaGreatDoor
open Go.RowKit

def sideB (a b : Cell) : Bool := decide ((a.x - b.x) * (a.x - b.x) + (a.y - b.y) * (a.y - b.y) = 1)
def On (c : Cell) : Prop := (0 ≤ c.x ∧ c.x ≤ 7) ∧ (0 ≤ c.y ∧ c.y ≤ 7)
def mx2 (a b : Int) : Int := if a < b then b else a
theorem sq_table : ∀ i j : Fin 15, (((i.val : Int) - 7) * ((i.val : Int) - 7) + ((j.val : Int) - 7) * ((j.val : Int) - 7) = 1 ↔ mx2 ((i.val : Int) - 7) (7 - (i.val : Int)) + mx2 ((j.val : Int) - 7) (7 - (j.val : Int)) = 1) ∧
    0 ≤ ((i.val : Int) - 7) * ((i.val : Int) - 7) ∧ ((i.val : Int) - 7) * ((i.val : Int) - 7) ≤ 49 := by decide
theorem sq_one {x y : Int} (h1 : -7 ≤ x) (h2 : x ≤ 7) (h3 : -7 ≤ y) (h4 : y ≤ 7) : (x * x + y * y = 1 ↔ mx2 x (-x) + mx2 y (-y) = 1) ∧ 0 ≤ x * x ∧ x * x ≤ 49 := by
  have h := sq_table ⟨(x + 7).toNat, by omega⟩ ⟨(y + 7).toNat, by omega⟩
  have e1 : (((x + 7).toNat : Nat) : Int) - 7 = x := by omega
  have e2 : (((y + 7).toNat : Nat) : Int) - 7 = y := by omega
  have e3 : 7 - (((x + 7).toNat : Nat) : Int) = -x := by omega
  have e4 : 7 - (((y + 7).toNat : Nat) : Int) = -y := by omega
  simp only [e1, e2, e3, e4] at h
  exact h

set_option maxRecDepth 100000 in
set_option maxHeartbeats 800000 in
theorem near_sq_c (a b : Cell) (w : World) (ha : On a) (hb : On b) :
    Calls Tryz.prog 56 #[.agg #[.int .i64 a.x, .int .i64 a.y], .agg #[.int .i64 b.x, .int .i64 b.y]] w fun e w' => e = .returned (.bool (sideB a b)) ∧ Below w.heap.size w w' := by
  obtain ⟨⟨a1, a2⟩, a3, a4⟩ := ha
  obtain ⟨⟨b1, b2⟩, b3, b4⟩ := hb
  obtain ⟨dx, hx⟩ : ∃ dx, a.x - b.x = dx := ⟨_, rfl⟩
  obtain ⟨dy, hy⟩ : ∃ dy, a.y - b.y = dy := ⟨_, rfl⟩
  obtain ⟨_, x0, x1⟩ := sq_one (x := dx) (y := dy) (by omega) (by omega) (by omega) (by omega)
  obtain ⟨_, y0, y1⟩ := sq_one (x := dy) (y := dx) (by omega) (by omega) (by omega) (by omega)
  obtain ⟨R, hR⟩ : ∃ R, R = sideB a b := ⟨_, rfl⟩
  rw [← hR]
  unfold sideB at hR
  rw [hx, hy] at hR
  obtain ⟨mx, hmx⟩ : ∃ mx, dx * dx = mx := ⟨_, rfl⟩
  obtain ⟨my, hmy⟩ : ∃ my, dy * dy = my := ⟨_, rfl⟩
  rw [hmx] at x0 x1
  rw [hmy] at y0 y1
  rw [hmx, hmy] at hR
  have HR := Lib.hid hR
  have d1 : -7 ≤ dx := by omega
  have d2 : dx ≤ 7 := by omega
  have d3 : -7 ≤ dy := by omega
  have d4 : dy ≤ 7 := by omega
  clear hR
  by_cases h1 : mx + my = 1
  · obtain rfl : R = true := by rw [HR.out]; exact decide_eq_true h1
    have e1 : (mx + my == 1) = true := by simpa using h1
    clear h1
    go_enter Tryz.func56, Tryz.ntmps56
    go_wp2
    go_ret
    exact ⟨rfl, (((Below.refl _ _).alloc (Nat.le_refl _) _).alloc (by simp) _)⟩
  · obtain rfl : R = false := by rw [HR.out]; exact decide_eq_false h1
    have e1 : (mx + my == 1) = false := by simpa using h1
    clear h1
    go_enter Tryz.func56, Tryz.ntmps56
    go_wp2
    go_ret
    exact ⟨rfl, (((Below.refl _ _).alloc (Nat.le_refl _) _).alloc (by simp) _)⟩

set_option maxRecDepth 100000 in
set_option maxHeartbeats 1600000 in
theorem beside_c (a b : Cell) (w : World) (ha : On a) (hb : On b) :
    Calls Tryz.prog 72 #[.agg #[.int .i64 a.x, .int .i64 a.y], .agg #[.int .i64 b.x, .int .i64 b.y]] w fun e w' => e = .returned (.bool (sideB a b)) ∧ Below w.heap.size w w' := by
  obtain ⟨⟨a1, a2⟩, a3, a4⟩ := ha
  obtain ⟨⟨b1, b2⟩, b3, b4⟩ := hb
  obtain ⟨R, hR⟩ : ∃ R, R = sideB a b := ⟨_, rfl⟩
  rw [← hR]
  unfold sideB at hR
  obtain ⟨dx, hx⟩ : ∃ dx, a.x - b.x = dx := ⟨_, rfl⟩
  obtain ⟨dy, hy⟩ : ∃ dy, a.y - b.y = dy := ⟨_, rfl⟩
  obtain ⟨ex, hex⟩ : ∃ ex, b.x - a.x = ex := ⟨_, rfl⟩
  obtain ⟨ey, hey⟩ : ∃ ey, b.y - a.y = ey := ⟨_, rfl⟩
  have hs := (sq_one (x := dx) (y := dy) (by omega) (by omega) (by omega) (by omega)).1
  rw [show -dx = ex by omega, show -dy = ey by omega] at hs
  rw [hx, hy] at hR
  have HR : Hid (R = decide (mx2 dx ex + mx2 dy ey = 1)) := Lib.hid (by rw [hR]; exact decide_eq_decide.2 hs)
  have d1 : -7 ≤ dx := by omega
  have d2 : dx ≤ 7 := by omega
  have d3 : -7 ≤ dy := by omega
  have d4 : dy ≤ 7 := by omega
  have d5 : -7 ≤ ex := by omega
  have d6 : ex ≤ 7 := by omega
  have d7 : -7 ≤ ey := by omega
  have d8 : ey ≤ 7 := by omega
  clear hR hs
  by_cases h1 : dx < ex <;> by_cases h2 : dy < ey
  all_goals
    have c1 : decide (dx < ex) = _ := (by first | exact decide_eq_true h1 | exact decide_eq_false h1)
    have c2 : decide (dy < ey) = _ := (by first | exact decide_eq_true h2 | exact decide_eq_false h2)
    have hr := HR.out
    simp only [mx2, h1, h2, if_true, if_false] at hr
    have HR2 := Lib.hid hr
    clear hr HR
  all_goals
    go_enter Tryz.func72, Tryz.ntmps72
    go_wp2_with fail
    go_quiet (fail)
    go_wp2
    go_ret
    exact ⟨by rw [HR2.out]; rfl, below_drewN (((Below.refl _ _).alloc (Nat.le_refl _) _).alloc (by simp) _) _⟩
end Go.Proofs.YtghpkfihdcjlaaaGreatDoor

namespace Go.Proofs.YtghpkfihdcjlaaaGreatDoor
open Go.RowKit

noncomputable def cdec (p : Prop) : Bool := @decide p (Classical.propDecidable p)
theorem cdec_t {p : Prop} (h : p) : cdec p = true := @decide_eq_true _ (Classical.propDecidable _) h
theorem cdec_f {p : Prop} (h : ¬ p) : cdec p = false := @decide_eq_false _ (Classical.propDecidable _) h
theorem cdec_eq {p : Prop} {b : Bool} (h : p ↔ b = true) : cdec p = b := by
  cases b
  · exact cdec_f fun hp => by have := h.1 hp; cases this
  · exact cdec_t (h.2 rfl)
/-- reached from a within s, side by side -/
inductive Hang (s : List Cell) (a : Cell) : Cell → Prop where
  | base : Hang s a a
  | step {b c : Cell} : Hang s a b → c ∈ s → sideB b c = true → Hang s a c
noncomputable def hangs (s : List Cell) : Bool := match s[0]? with
  | some a => cdec (∀ c ∈ s, Hang s a c)
  | none => false
theorem hangs_eq {s : List Cell} {a : Cell} {b : Bool} (ha : s[0]? = some a) (h : (∀ c ∈ s, Hang s a c) ↔ b = true) : hangs s = b := by
  unfold hangs
  rw [ha]
  exact cdec_eq h
theorem nodup_len {α : Type} [DecidableEq α] {l G : List α} (h : l.Nodup) (hs : ∀ a ∈ l, a ∈ G) : l.length ≤ G.length := by
  induction l generalizing G with
  | nil => simp
  | cons a l ih =>
    rw [List.nodup_cons] at h
    have hm := hs a (by simp)
    have := ih (G := G.erase a) h.2 (fun b hb => (List.mem_erase_of_ne (fun e => h.1 (by rw [← e]; exact hb))).2 (hs b (by simp [hb])))
    rw [List.length_erase_of_mem hm] at this
    have hp : 0 < G.length := List.length_pos_of_mem hm
    simp
    omega
theorem nodup_all {α : Type} [DecidableEq α] {l G : List α} (h : l.Nodup) (hs : ∀ a ∈ l, a ∈ G) (he : G.length ≤ l.length) : ∀ a ∈ G, a ∈ l := by
  intro a ha
  rcases Classical.em (a ∈ l) with hm | hm
  · exact hm
  · have := nodup_len (l := a :: l) (G := G) (List.nodup_cons.2 ⟨hm, h⟩) (fun b hb => by
      rcases List.mem_cons.1 hb with rfl | hb
      · exact ha
      · exact hs b hb)
    simp at this
    omega
theorem bef_trans {a b c : Cell} (h1 : befB a b = true) (h2 : befB b c = true) : befB a c = true := by
  simp only [befB, Bool.or_eq_true, Bool.and_eq_true, decide_eq_true_eq] at *
  omega
theorem bef_irr {a : Cell} : befB a a = false := by simp [befB]
theorem shp_at {s : List Cell} (h : isShape s = true) {i : Nat} (hi : i < s.length) : okAt s i = true := by
  unfold isShape at h
  rw [Bool.and_eq_true, List.all_eq_true] at h
  exact h.1 i (List.mem_range.2 hi)
theorem shp_len {s : List Cell} (h : isShape s = true) : 1 ≤ s.length ∧ s.length ≤ 8 := by
  unfold isShape at h
  rw [Bool.and_eq_true] at h
  have := inR_iff.1 h.2
  omega
theorem shp_on {s : List Cell} (h : isShape s = true) {c : Cell} (hc : c ∈ s) : On c := by
  obtain ⟨i, hi, rfl⟩ := List.getElem_of_mem hc
  have := shp_at h hi
  unfold okAt at this
  rw [List.getElem?_eq_getElem hi] at this
  simp only [Bool.and_eq_true] at this
  have h2 := this.1
  unfold okC at h2
  rw [Bool.and_eq_true] at h2
  exact ⟨inR_iff.1 h2.1, inR_iff.1 h2.2⟩
theorem shp_next {s : List Cell} (h : isShape s = true) {i : Nat} {b c : Cell} (hb : s[i]? = some b) (hc : s[i + 1]? = some c) : befB b c = true := by
  have hi : i + 1 < s.length := (List.getElem?_eq_some_iff.1 hc).1
  have h1 := shp_at h hi
  have ho : okC c = true := by
    have := h1
    unfold okAt at this
    rw [hc] at this
    simp only [Bool.and_eq_true] at this
    exact this.1
  rw [okAt_next hb hc ho] at h1
  exact h1
theorem shp_pair {s : List Cell} (h : isShape s = true) {i : Nat} {b : Cell} (hb : s[i]? = some b) : ∀ (j : Nat) {c : Cell}, i < j → s[j]? = some c → befB b c = true
  | 0, _, hj, _ => absurd hj (by omega)
  | j + 1, c, hj, hc => by
    have hlt : j + 1 < s.length := (List.getElem?_eq_some_iff.1 hc).1
    have hd : s[j]? = some s[j] := List.getElem?_eq_getElem (by omega)
    have hn := shp_next h hd hc
    by_cases e : i = j
    · subst e
      rw [hd] at hb
      injection hb with hb
      rw [← hb]
      exact hn
    · exact bef_trans (shp_pair h hb j (by omega) hd) hn
theorem shp_nodup {s : List Cell} (h : isShape s = true) : s.Nodup := by
  rw [List.nodup_iff_pairwise_ne, List.pairwise_iff_getElem]
  intro i j hi hj hij e
  have := shp_pair h (List.getElem?_eq_getElem hi) j hij (List.getElem?_eq_getElem hj)
  rw [e, bef_irr] at this
  cases this

/-- a search from a: all different, all reached -/
structure Sees (s : List Cell) (a : Cell) (S : List Cell) : Prop where
  nodup : S.Nodup
  sub : ∀ b ∈ S, b ∈ s
  reach : ∀ b ∈ S, Hang s a b
  mem : a ∈ S
theorem Sees.start {s : List Cell} {a : Cell} (ha : s[0]? = some a) : Sees s a [a] :=
  ⟨by simp, fun b hb => by simp at hb; subst hb; exact List.mem_of_getElem? ha, fun b hb => by simp at hb; subst hb; exact .base, by simp⟩
theorem Sees.add {s S : List Cell} {a b c : Cell} (h : Sees s a S) (hb : b ∈ S) (hc : c ∈ s) (hn : sideB b c = true) (hm : ¬ c ∈ S) : Sees s a (S ++ [c]) :=
  ⟨List.nodup_append.2 ⟨h.nodup, by simp, fun x hx y hy => by simp at hy; subst hy; exact fun e => hm (e ▸ hx)⟩,
   fun x hx => by
    rcases List.mem_append.1 hx with hx | hx
    · exact h.sub x hx
    · simp at hx; subst hx; exact hc,
   fun x hx => by
    rcases List.mem_append.1 hx with hx | hx
    · exact h.reach x hx
    · simp at hx; subst hx; exact .step (h.reach b hb) hc hn,
   List.mem_append.2 (.inl h.mem)⟩
theorem Sees.len {s S : List Cell} {a : Cell} (h : Sees s a S) : S.length ≤ s.length := nodup_len h.nodup h.sub
theorem Sees.end_ {s S : List Cell} {a : Cell} (h : Sees s a S) (hs : s.Nodup) (ha : s[0]? = some a) (hcl : ∀ (j : Nat) (b : Cell), S[j]? = some b → ∀ c ∈ s, sideB b c = true → c ∈ S) : hangs s = decide (S.length = s.length) := by
  refine hangs_eq ha ?_
  rw [decide_eq_true_eq]
  constructor
  · intro hall
    have hin : ∀ c, Hang s a c → c ∈ S := by
      intro c hc
      induction hc with
      | base => exact h.mem
      | step _ hcs hn ih =>
        obtain ⟨j, hj, e⟩ := List.getElem_of_mem ih
        exact hcl j _ (by rw [List.getElem?_eq_getElem hj, e]) _ hcs hn
    have h1 := h.len
    have h2 := nodup_len hs (fun c hc => hin c (hall c hc))
    omega
  · intro he c hc
    exact h.reach c (nodup_all h.nodup h.sub (by omega) c hc)
end Go.Proofs.YtghpkfihdcjlaaaGreatDoor

namespace Go.Proofs.YtghpkfihdcjlaaaGreatDoor
open Go.RowKit

noncomputable def connS (s : List Cell) : Bool := isShape s && hangs s
set_option maxRecDepth 100000 in
theorem infoCellS : (Tryz.prog.info? 46).map (fun i => (i.zero, i.size, i.bytes)) = some (some (.agg #[.int .i64 0, .int .i64 0]), 2, 16) := by kernel_rfl
theorem row_at2 {w : World} {e : TypeId} {b off c n : Nat} {l : List Cell} (h : w.ownsRow 0 e 2 (.slice (some ⟨b, off, none⟩) n c) n (cc l)) {k : Nat} {u : Cell} (hk : l[k]? = some u) :
    w.cell? ⟨b, off + k * 2, none⟩ = some (.int .i64 u.x) ∧ w.cell? ⟨b, off + k * 2 + 1, none⟩ = some (.int .i64 u.y) := own_cell2 h hk
theorem Sep.cellsRd {w0 w : World} {L : List Res} {v : Value} {e : TypeId} {l : List Cell} (h : Sep w0 w (Res.row v e 2 l.length (cc l) :: L)) (hm : l.length ≤ 1000000) : CellsRd w 0 w.heap.size v l := by
  obtain ⟨A, c, rfl, h1, h2, hr⟩ := h.oi.rd
  exact ⟨A, c, rfl, by unfold maxLen; omega, hr.more (Nat.zero_le _) (Nat.le_refl _)⟩

set_option maxRecDepth 100000 in
set_option maxHeartbeats 3200000 in
theorem spec_conn_c {v : Value} {s : List Cell} (w : World) (h : CellsRd w 0 w.heap.size v s) (hn : s.length ≤ 1048576) :
    Calls Tryz.prog 30 #[v] w fun e w' => e = .returned (.bool (connS s)) ∧ Below w.heap.size w w' := by
  obtain ⟨i0, hi, hz0, hz1, hz2⟩ := info_parts infoCellS
  have HS0 := Lib.hid (spec_isShape_c w h hn)
  obtain ⟨A, c, rfl, hm, hr⟩ := id h
  obtain ⟨R, hR⟩ : ∃ R, R = connS s := ⟨_, rfl⟩
  rw [← hR]
  have HR := Lib.hid hR
  have HRS := Lib.hid hr
  clear hR h hr hm
  go_enter Tryz.func30, Tryz.ntmps30
  go_wp2_with fail
  refine (HS0.out).mono ?_
  rintro e w1 ⟨rfl, b1⟩
  clear HS0
  cases hsh : isShape s
  · obtain rfl : R = false := by rw [HR.out, connS, hsh, Bool.false_and]
    clear hsh
    go_wp2
    go_ret
    exact ⟨rfl, b1⟩
  obtain ⟨hl1, hl8⟩ := shp_len hsh
  have HSH := Lib.hid hsh
  clear hsh
  obtain ⟨b, off, hA, _, hb, hc⟩ := HRS.out.2 (by omega)
  subst hA
  have HCE := Lib.hid hc
  obtain ⟨a, ha⟩ : ∃ a, s[0]? = some a := ⟨s[0], List.getElem?_eq_getElem (by omega)⟩
  have q1 : w1.cell? ⟨b, off, none⟩ = some (.int .i64 a.x) := (b1.cell (p := ⟨b, off, none⟩) hb).trans (hc _ _ (cc_at ha).1)
  have q2 : w1.cell? ⟨b, off + 1, none⟩ = some (.int .i64 a.y) := (b1.cell (p := ⟨b, off + 1, none⟩) hb).trans (hc _ _ (cc_at ha).2)
  have HA := Lib.hid ha
  have H0 := ((Sep.start w).step b1).rowBox 46 #[.int .i64 a.x, .int .i64 a.y] 2 1 rfl (by decide)
  clear ha hc b1
  go_wp2
  clear q1 q2
  go_loopw [3, 4] (fun sv i wr => ∃ (n : Nat) (S : List Cell), n ≤ S.length ∧ i = .int .i64 n ∧ Hid (Sees s a S) ∧ Hid (∀ (j : Nat) (b : Cell), j < n → S[j]? = some b → ∀ c ∈ s, sideB b c = true → c ∈ S) ∧ S.length ≤ 8 ∧ Sep w wr [Res.row sv 46 2 S.length (cc S)]) (fun _ i _ => 9 - (intOf i).toNat)
  case atStart => exact ⟨0, [a], by simp, rfl, Lib.hid (Sees.start HA.out), Lib.hid (fun j b hj => absurd hj (by omega)), by simp, H0⟩
  case round =>
    clear H0
    obtain ⟨n, S, hn', rfl, HSS, HC1, HLE, H⟩ := hrel
    by_cases hlt : n < S.length
    · obtain ⟨bi, hbi⟩ : ∃ bi, S[n]? = some bi := ⟨S[n], List.getElem?_eq_getElem hlt⟩
      have HBI := Lib.hid hbi
      obtain ⟨As, cs, rfl, hsn, hsm, _⟩ := Res.row_at H.h0
      clear hbi hsn hsm
      obtain ⟨wo, hwo⟩ : ∃ wo : World, wo = wr := ⟨_, rfl⟩
      subst hwo
      go_wp2
      go_loopw [3, 5] (fun sv i wr => ∃ (k : Nat) (S : List Cell), k ≤ s.length ∧ i = .int .i64 k ∧ Hid (Sees s a S) ∧ Hid (S[n]? = some bi) ∧ Hid (∀ (j : Nat) (b : Cell), j < n → S[j]? = some b → ∀ c ∈ s, sideB b c = true → c ∈ S) ∧ Hid (∀ c ∈ s.take k, sideB bi c = true → c ∈ S) ∧ S.length ≤ 8 ∧ Sep w wr [Res.row sv 46 2 S.length (cc S)]) (fun _ i _ => s.length - (intOf i).toNat)
      case atStart => exact ⟨0, S, Nat.zero_le _, rfl, HSS, HBI, HC1, Lib.hid (fun c hc => by simp at hc), HLE, H⟩
      case round =>
        clear H HLE hlt hn' HSS HC1 HBI
        obtain ⟨k, S, hk, rfl, HSS, HBI, HC1, HC2, HLE, H⟩ := hrel
        have hnl : n < S.length := (List.getElem?_eq_some_iff.1 HBI.out).1
        by_cases hlk : k < s.length
        · obtain ⟨ck, hck⟩ : ∃ ck, s[k]? = some ck := ⟨s[k], List.getElem?_eq_getElem hlk⟩
          have HCK := Lib.hid hck
          obtain ⟨bs, os, cs2, rfl, hsn, hsm, hbs⟩ := own_shape H.h0 (by omega)
          have hbw := H.below
          have hbr : b < wr.heap.size := by have := hbw.size; omega
          have l1 := Later.cell (row_at2 H.h0 HBI.out).1 hbs
          have l2 := Later.cell (row_at2 H.h0 HBI.out).2 hbs
          have l3 := Later.cell ((hbw.cell (p := ⟨b, off + k * 2, none⟩) hb).trans (HCE.out _ _ (cc_at hck).1)) hbr
          have l4 := Later.cell ((hbw.cell (p := ⟨b, off + k * 2 + 1, none⟩) hb).trans (by rw [Nat.add_assoc]; exact HCE.out _ _ (cc_at hck).2)) hbr
          have ON1 := Lib.hid (shp_on HSH.out (HSS.out.sub bi (List.mem_of_getElem? HBI.out)))
          have ON2 := Lib.hid (shp_on HSH.out (List.mem_of_getElem? hck))
          clear hck hbw hsn hsm
          cases hnb : sideB bi ck
          · have HNB := Lib.hid hnb
            have HNQ : Hid (∀ w : World, Calls Tryz.prog 56 #[.agg #[.int .i64 bi.x, .int .i64 bi.y], .agg #[.int .i64 ck.x, .int .i64 ck.y]] w fun e w' => e = .returned (.bool false) ∧ Below w.heap.size w w') := Lib.hid fun w => by
              have := near_sq_c bi ck w ON1.out ON2.out
              rw [hnb] at this
              exact this
            clear hnb
            have hcl2 : ∀ c ∈ s.take (k + 1), sideB bi c = true → c ∈ S := fun c hc hn => by
              rw [List.take_succ_eq_append_getElem hlk, (List.getElem?_eq_some_iff.1 HCK.out).2] at hc
              rcases List.mem_append.1 hc with hc | hc
              · exact HC2.out c hc hn
              · simp at hc; subst hc; exact (absurd hn (by rw [HNB.out]; exact Bool.false_ne_true))
            have HCL2 := Lib.hid hcl2
            clear hcl2
            go_wp2_with fail
            refine wp_region_later (by kernel_rfl) (by kernel_rfl) ?_
            repeat (go_big_quiet_step (first | (go_at_call 56; exact Later.call (HNQ.out _)) | (go_at_call 57; exact Later.same (HHQ.out _))))
            refine wpQuiet_nil ?_
            intro w3 hw3
            obtain ⟨u3, hu3⟩ := hw3
            subst hu3
            have H3 := H.later u3
            clear l1 l2 l3 l4 H HNQ
            generalize u3.w = w3 at *
            go_wp2
            go_roundw
            case rel => exact ⟨k + 1, S, by omega, by go_num, HSS, HBI, HC1, HCL2, HLE, H3⟩
            case measure => simp [intOf]; omega
          have HNQ : Hid (∀ w : World, Calls Tryz.prog 56 #[.agg #[.int .i64 bi.x, .int .i64 bi.y], .agg #[.int .i64 ck.x, .int .i64 ck.y]] w fun e w' => e = .returned (.bool true) ∧ Below w.heap.size w w') := Lib.hid fun w => by
            have := near_sq_c bi ck w ON1.out ON2.out
            rw [hnb] at this
            exact this
          cases hhs : decide ((⟨ck.x, ck.y⟩ : Cell) ∈ S)
          rotate_left
          · have HHS := Lib.hid (of_decide_eq_true hhs)
            have HHQ : Hid (∀ u : Later wr, Calls Tryz.prog 57 #[.slice (some ⟨bs, os, none⟩) S.length cs2, .int .i64 ck.x, .int .i64 ck.y] u.w fun e w' => e = .returned (.bool true) ∧ u.w = w') := Lib.hid fun u => by
              have := spec_has2_c ck.x ck.y u.w ((H.later u).cellsRd (by omega)) (by omega)
              rw [hhs] at this
              exact this
            clear hnb hhs
            have hcl2 : ∀ c ∈ s.take (k + 1), sideB bi c = true → c ∈ S := fun c hc hn => by
              rw [List.take_succ_eq_append_getElem hlk, (List.getElem?_eq_some_iff.1 HCK.out).2] at hc
              rcases List.mem_append.1 hc with hc | hc
              · exact HC2.out c hc hn
              · simp at hc; subst hc; exact (HHS.out)
            have HCL2 := Lib.hid hcl2
            clear hcl2
            go_wp2_with fail
            refine wp_region_later (by kernel_rfl) (by kernel_rfl) ?_
            repeat (go_big_quiet_step (first | (go_at_call 56; exact Later.call (HNQ.out _)) | (go_at_call 57; exact Later.same (HHQ.out _))))
            refine wpQuiet_nil ?_
            intro w3 hw3
            obtain ⟨u3, hu3⟩ := hw3
            subst hu3
            have H3 := H.later u3
            clear l1 l2 l3 l4 H HNQ
            generalize u3.w = w3 at *
            go_wp2
            go_roundw
            case rel => exact ⟨k + 1, S, by omega, by go_num, HSS, HBI, HC1, HCL2, HLE, H3⟩
            case measure => simp [intOf]; omega
          · have hne : ¬ ck ∈ S := of_decide_eq_false hhs
            have hss2 := HSS.out.add (List.mem_of_getElem? HBI.out) (List.mem_of_getElem? HCK.out) hnb hne
            have HS2 := Lib.hid hss2
            have hle2 : (S ++ [ck]).length ≤ 8 := Nat.le_trans hss2.len hl8
            have hbi2 : (S ++ [ck])[n]? = some bi := by rw [List.getElem?_append_left hnl]; exact HBI.out
            have HBI2 := Lib.hid hbi2
            have hcl1 : ∀ (j : Nat) (b : Cell), j < n → (S ++ [ck])[j]? = some b → ∀ c ∈ s, sideB b c = true → c ∈ S ++ [ck] := fun j b hj hb c hc hs => by
              rw [List.getElem?_append_left (by omega)] at hb
              exact List.mem_append.2 (.inl (HC1.out j b hj hb c hc hs))
            have HCL1 := Lib.hid hcl1
            have hcl2 : ∀ c ∈ s.take (k + 1), sideB bi c = true → c ∈ S ++ [ck] := fun c hc hs => by
              rw [List.take_succ_eq_append_getElem hlk, (List.getElem?_eq_some_iff.1 HCK.out).2] at hc
              rcases List.mem_append.1 hc with hc | hc
              · exact List.mem_append.2 (.inl (HC2.out c hc hs))
              · exact List.mem_append.2 (.inr hc)
            have HCL2 := Lib.hid hcl2
            have HHQ : Hid (∀ u : Later wr, Calls Tryz.prog 57 #[.slice (some ⟨bs, os, none⟩) S.length cs2, .int .i64 ck.x, .int .i64 ck.y] u.w fun e w' => e = .returned (.bool false) ∧ u.w = w') := Lib.hid fun u => by
              have := spec_has2_c ck.x ck.y u.w ((H.later u).cellsRd (by omega)) (by omega)
              rw [hhs] at this
              exact this
            clear hne hss2 hbi2 hcl1 hcl2 hnb hhs
            go_wp2_with fail
            refine wp_region_later (by kernel_rfl) (by kernel_rfl) ?_
            repeat (go_big_quiet_step (first | (go_at_call 56; exact Later.call (HNQ.out _)) | (go_at_call 57; exact Later.same (HHQ.out _))))
            refine wpQuiet_nil ?_
            intro w3 hw3
            obtain ⟨u3, hu3⟩ := hw3
            subst hu3
            have H3 := H.later u3
            clear l1 l2 l3 l4 H HNQ
            generalize u3.w = w3 at *
            clear HHQ
            have q3 : w3.cell? ⟨b, off + k * 2, none⟩ = some (.int .i64 ck.x) := (H3.below.cell (p := ⟨b, off + k * 2, none⟩) hb).trans (HCE.out _ _ (cc_at HCK.out).1)
            have q4 : w3.cell? ⟨b, off + k * 2 + 1, none⟩ = some (.int .i64 ck.y) := (H3.below.cell (p := ⟨b, off + k * 2 + 1, none⟩) hb).trans (by rw [Nat.add_assoc]; exact HCE.out _ _ (cc_at HCK.out).2)
            have hle8 : S.length ≤ 8 := HLE
            go_wp2_with (at_builtin; refine wpList_app rfl _ _ 24 rfl 46 i0 _ 2 16 Tryz.underlying24 hi hz0 hz1 hz2 rfl (by decide) _ _ _ rfl (H3.alloc _) _ _ _ [.int .i64 ck.x, .int .i64 ck.y] rfl (Rd.fresh w3 _ #[.int .i64 ck.x, .int .i64 ck.y] 2 1 rfl) oc2 (by unfold maxLen; omega) (by omega) ?_; intro v2 w2 H4; clear H3)
            clear q3 q4
            have H5 : Sep w w2 [Res.row v2 46 2 (S ++ [ck]).length (cc (S ++ [ck]))] := by rw [cc_append, List.length_append]; exact H4
            clear H4
            go_roundw
            case rel => exact ⟨k + 1, S ++ [ck], by omega, by go_num, HS2, HBI2, HCL1, HCL2, hle2, H5⟩
            case measure => simp [intOf]; omega
        · obtain rfl : k = s.length := by omega
          have hc1 : ∀ (j : Nat) (b : Cell), j < n + 1 → S[j]? = some b → ∀ c ∈ s, sideB b c = true → c ∈ S := fun j b hj hb c hc hs => by
            by_cases e : j = n
            · subst e
              rw [HBI.out] at hb
              injection hb with hb
              subst hb
              exact HC2.out c (by rw [List.take_length]; exact hc) hs
            · exact HC1.out j b (by omega) hb c hc hs
          have HC3 := Lib.hid hc1
          clear hc1
          go_wp2
          go_roundw
          case rel => exact ⟨n + 1, S, by omega, by go_num, HSS, HC3, HLE, H⟩
          case measure => simp [intOf]; omega
    · obtain rfl : n = S.length := by omega
      have hend := HSS.out.end_ (shp_nodup HSH.out) HA.out (fun j b hj => HC1.out j b (List.getElem?_eq_some_iff.1 hj).1 hj)
      have hRe : R = decide (S.length = s.length) := by rw [HR.out, connS, HSH.out, Bool.true_and, hend]
      have HRE := Lib.hid hRe
      obtain ⟨As, cs, rfl, _, _, _⟩ := Res.row_at H.h0
      have hbel := H.below
      clear hend hRe H
      by_cases he : S.length = s.length
      · have e1 : ((S.length : Int) == (s.length : Int)) = true := by simp; omega
        obtain rfl : R = true := by rw [HRE.out]; exact decide_eq_true he
        clear he
        go_wp2
        go_ret
        exact ⟨rfl, hbel⟩
      · have e1 : ((S.length : Int) == (s.length : Int)) = false := by simp; omega
        obtain rfl : R = false := by rw [HRE.out]; exact decide_eq_false he
        clear he
        go_wp2
        go_ret
        exact ⟨rfl, hbel⟩
end Go.Proofs.YtghpkfihdcjlaaaGreatDoor

namespace Go.Proofs.YtghpkfihdcjlaaaGreatDoor
open Go.RowKit

/-- the least of the first k -/
def mnTo (f : Cell → Int) (l : List Cell) : Nat → Int
  | 0 => 0
  | k + 1 => match l[k]? with
    | some c => if k = 0 then f c else if f c < mnTo f l k then f c else mnTo f l k
    | none => mnTo f l k
theorem mnTo_first {f : Cell → Int} {l : List Cell} {c : Cell} (h : l[0]? = some c) : mnTo f l 1 = f c := by simp [mnTo, h]
theorem mnTo_one {f : Cell → Int} {l : List Cell} {k : Nat} {c : Cell} (h : l[k]? = some c) (hk : k = 0) : mnTo f l (k + 1) = f c := by subst hk; exact mnTo_first h
theorem mnTo_next {f : Cell → Int} {l : List Cell} {k : Nat} {c : Cell} (h : l[k]? = some c) (hk : k ≠ 0) : mnTo f l (k + 1) = if f c < mnTo f l k then f c else mnTo f l k := by simp [mnTo, h, hk]
theorem mnTo_le {f : Cell → Int} {l : List Cell} : ∀ (k : Nat), k ≤ l.length → ∀ (j : Nat) (c : Cell), j < k → l[j]? = some c → mnTo f l k ≤ f c
  | 0, _, j, _, hj, _ => absurd hj (by omega)
  | k + 1, hk, j, c, hj, hc => by
    have hd : l[k]? = some l[k] := List.getElem?_eq_getElem (by omega)
    by_cases e0 : k = 0
    · subst e0
      obtain rfl : j = 0 := by omega
      rw [mnTo_first hc]; exact Int.le_refl _
    · rw [mnTo_next hd e0]
      by_cases e : j = k
      · subst e
        rw [hd] at hc
        injection hc with hc
        subst hc
        split <;> omega
      · have := mnTo_le (f := f) k (by omega) j c (by omega) hc
        split <;> omega
theorem mnTo_mem {f : Cell → Int} {l : List Cell} : ∀ (k : Nat), 0 < k → k ≤ l.length → ∃ c ∈ l, mnTo f l k = f c
  | k + 1, _, hk => by
    have hd : l[k]? = some l[k] := List.getElem?_eq_getElem (by omega)
    by_cases e0 : k = 0
    · subst e0
      exact ⟨_, List.mem_of_getElem? hd, mnTo_first hd⟩
    · rw [mnTo_next hd e0]
      split
      · exact ⟨_, List.mem_of_getElem? hd, rfl⟩
      · exact mnTo_mem k (by omega) (by omega)
def minX (l : List Cell) : Int := mnTo (·.x) l l.length
def minY (l : List Cell) : Int := mnTo (·.y) l l.length
def shift (l : List Cell) (x y : Int) : List Cell := l.map fun c => ⟨c.x - x, c.y - y⟩
def corner (l : List Cell) : List Cell := shift l (minX l) (minY l)
theorem shift_length {l : List Cell} {x y : Int} : (shift l x y).length = l.length := by simp [shift]
theorem shift_take {l : List Cell} {x y : Int} {k : Nat} {c : Cell} (h : l[k]? = some c) : shift (l.take (k + 1)) x y = shift (l.take k) x y ++ [⟨c.x - x, c.y - y⟩] := by
  obtain ⟨hk, rfl⟩ := List.getElem?_eq_some_iff.1 h
  unfold shift
  rw [List.take_succ_eq_append_getElem hk, List.map_append]
  rfl
theorem mem_shift {l : List Cell} {x y : Int} {c : Cell} : c ∈ shift l x y ↔ (⟨c.x + x, c.y + y⟩ : Cell) ∈ l := by
  unfold shift
  rw [List.mem_map]
  constructor
  · rintro ⟨d, hd, rfl⟩
    have e : (⟨d.x - x + x, d.y - y + y⟩ : Cell) = d := by cases d; simp
    rw [e]; exact hd
  · intro h
    exact ⟨_, h, by cases c; simp⟩
/-- the greatest of the first k, and 0 -/
def mxTo (f : Cell → Int) (l : List Cell) : Nat → Int
  | 0 => 0
  | k + 1 => match l[k]? with
    | some c => if mxTo f l k < f c + 1 then f c + 1 else mxTo f l k
    | none => mxTo f l k
theorem mxTo_next {f : Cell → Int} {l : List Cell} {k : Nat} {c : Cell} (h : l[k]? = some c) : mxTo f l (k + 1) = if mxTo f l k < f c + 1 then f c + 1 else mxTo f l k := by simp [mxTo, h]
theorem mxTo_ge {f : Cell → Int} {l : List Cell} : ∀ (k : Nat), k ≤ l.length → ∀ (j : Nat) (c : Cell), j < k → l[j]? = some c → f c + 1 ≤ mxTo f l k
  | 0, _, j, _, hj, _ => absurd hj (by omega)
  | k + 1, hk, j, c, hj, hc => by
    have hd : l[k]? = some l[k] := List.getElem?_eq_getElem (by omega)
    rw [mxTo_next hd]
    by_cases e : j = k
    · subst e
      rw [hd] at hc
      injection hc with hc
      subst hc
      split <;> omega
    · have := mxTo_ge (f := f) k (by omega) j c (by omega) hc
      split <;> omega
theorem mxTo_le {f : Cell → Int} {l : List Cell} {m : Int} (h : ∀ c ∈ l, f c + 1 ≤ m) (h0 : 0 ≤ m) : ∀ (k : Nat), k ≤ l.length → 0 ≤ mxTo f l k ∧ mxTo f l k ≤ m
  | 0, _ => ⟨Int.le_refl _, h0⟩
  | k + 1, hk => by
    have hd : l[k]? = some l[k] := List.getElem?_eq_getElem (by omega)
    have := mxTo_le h h0 k (by omega)
    have h1 := h _ (List.mem_of_getElem? hd)
    rw [mxTo_next hd]
    split <;> omega
def wdOf (l : List Cell) : Int := mxTo (·.x) (corner l) (corner l).length
def htOf (l : List Cell) : Int := mxTo (·.y) (corner l) (corner l).length
theorem minX_le {s : List Cell} {c : Cell} (h : c ∈ s) : minX s ≤ c.x := by
  obtain ⟨j, hj, e⟩ := List.getElem_of_mem h
  exact mnTo_le (f := (·.x)) s.length (Nat.le_refl _) j c hj (by rw [List.getElem?_eq_getElem hj, e])
theorem minY_le {s : List Cell} {c : Cell} (h : c ∈ s) : minY s ≤ c.y := by
  obtain ⟨j, hj, e⟩ := List.getElem_of_mem h
  exact mnTo_le (f := (·.y)) s.length (Nat.le_refl _) j c hj (by rw [List.getElem?_eq_getElem hj, e])
theorem corner_ge {s : List Cell} {c : Cell} (h : c ∈ corner s) : 0 ≤ c.x ∧ 0 ≤ c.y := by
  have := mem_shift.1 h
  have h1 := minX_le this
  have h2 := minY_le this
  simp only at h1 h2
  omega
theorem corner_lt {s : List Cell} {c : Cell} (h : c ∈ corner s) : c.x < wdOf s ∧ c.y < htOf s := by
  obtain ⟨j, hj, e⟩ := List.getElem_of_mem h
  have h1 := mxTo_ge (f := (·.x)) (l := corner s) _ (Nat.le_refl _) j c hj (by rw [List.getElem?_eq_getElem hj, e])
  have h2 := mxTo_ge (f := (·.y)) (l := corner s) _ (Nat.le_refl _) j c hj (by rw [List.getElem?_eq_getElem hj, e])
  unfold wdOf htOf
  omega
theorem shp_min {s : List Cell} (h : isShape s = true) : (0 ≤ minX s ∧ minX s ≤ 7) ∧ (0 ≤ minY s ∧ minY s ≤ 7) := by
  obtain ⟨hl, _⟩ := shp_len h
  obtain ⟨c, hc, e⟩ := mnTo_mem (f := (·.x)) (l := s) s.length (by omega) (Nat.le_refl _)
  obtain ⟨d, hd, e'⟩ := mnTo_mem (f := (·.y)) (l := s) s.length (by omega) (Nat.le_refl _)
  have h1 := (shp_on h hc).1
  have h2 := (shp_on h hd).2
  unfold minX minY
  rw [e, e']
  exact ⟨h1, h2⟩
theorem shp_size {s : List Cell} (h : isShape s = true) : (1 ≤ wdOf s ∧ minX s + wdOf s ≤ 8) ∧ (1 ≤ htOf s ∧ minY s + htOf s ≤ 8) := by
  obtain ⟨hl, _⟩ := shp_len h
  obtain ⟨⟨m1, m2⟩, m3, m4⟩ := shp_min h
  have hin : ∀ c ∈ corner s, c.x + 1 ≤ 8 - minX s ∧ c.y + 1 ≤ 8 - minY s := fun c hc => by
    have h1 := shp_on h (mem_shift.1 hc)
    unfold On at h1
    simp only at h1
    omega
  have h1 := (mxTo_le (f := (·.x)) (fun c hc => (hin c hc).1) (by omega) (corner s).length (Nat.le_refl _)).2
  have h2 := (mxTo_le (f := (·.y)) (fun c hc => (hin c hc).2) (by omega) (corner s).length (Nat.le_refl _)).2
  have hc0 : (corner s)[0]'(by unfold corner; rw [shift_length]; omega) ∈ corner s := List.getElem_mem _
  have h3 := corner_ge hc0
  have h4 := corner_lt hc0
  unfold wdOf htOf at *
  omega
theorem corner_on {s : List Cell} (h : isShape s = true) {c : Cell} (hc : c ∈ corner s) : On c := by
  have h1 := corner_ge hc
  have h2 := corner_lt hc
  have h3 := shp_size h
  have h4 := shp_min h
  unfold On
  omega

def Sml (b : Int) (c : Cell) : Prop := (-b ≤ c.x ∧ c.x ≤ b) ∧ (-b ≤ c.y ∧ c.y ≤ b)
theorem sml_min {s : List Cell} {b : Int} (h : ∀ c ∈ s, Sml b c) (h1 : 1 ≤ s.length) : (-b ≤ minX s ∧ minX s ≤ b) ∧ (-b ≤ minY s ∧ minY s ≤ b) := by
  obtain ⟨c, hc, hx⟩ := mnTo_mem (f := (·.x)) (l := s) s.length h1 (Nat.le_refl _)
  obtain ⟨d, hd, hy⟩ := mnTo_mem (f := (·.y)) (l := s) s.length h1 (Nat.le_refl _)
  have h2 := h c hc
  have h3 := h d hd
  unfold minX minY
  rw [hx, hy]
  exact ⟨h2.1, h3.2⟩
set_option maxRecDepth 100000 in
set_option maxHeartbeats 3200000 in
theorem l2CornerB_c {v : Value} {l : List Cell} (w : World) (h : CellsRd w 0 w.heap.size v l) (hl1 : 1 ≤ l.length) (hl8 : l.length ≤ 64) (hsm : ∀ c ∈ l, Sml 100 c) :
    Calls Tryz.prog 39 #[v] w fun e w' => ∃ v', e = .returned v' ∧ CellsIn w' w.heap.size w'.heap.size v' (corner l) ∧ Below w.heap.size w w' := by
  obtain ⟨i0, hi, hz0, hz1, hz2⟩ := info_parts infoCellS
  obtain ⟨A, c, rfl, hm, hr⟩ := h
  have HON := Lib.hid hsm
  obtain ⟨b, off, hA, _, hb, hc⟩ := hr.2 (by omega)
  subst hA
  have HCE := Lib.hid hc
  have H0 := (Sep.start w).rowBox 46 #[] 2 0 rfl (by decide)
  clear hr hm hc hsm
  go_enter Tryz.func39, Tryz.ntmps39
  go_wp2
  generalize hW : w.alloc (.cells #[] 46) = W at *
  clear hW
  go_loopw [4, 5, 6] (fun xv yv i wr => ∃ k : Nat, k ≤ l.length ∧ i = .int .i64 k ∧ xv = .int .i64 (mnTo (·.x) l k) ∧ yv = .int .i64 (mnTo (·.y) l k) ∧ W = wr) (fun _ _ i _ => l.length - (intOf i).toNat)
  case atStart => exact ⟨0, Nat.zero_le _, rfl, rfl, rfl, rfl⟩
  case round =>
    obtain ⟨k, hk, rfl, rfl, rfl, rfl⟩ := hrel
    by_cases hlt : k < l.length
    · obtain ⟨d, hla⟩ : ∃ d, l[k]? = some d := ⟨l[k], List.getElem?_eq_getElem hlt⟩
      have HL := Lib.hid hla
      have hbw : Below w.heap.size w W := H0.below
      have q1 := (hbw.cell (p := ⟨b, off + k * 2, none⟩) hb).trans (HCE.out _ _ (cc_at hla).1)
      have q2 : W.cell? ⟨b, off + k * 2 + 1, none⟩ = some (.int .i64 d.y) := (hbw.cell (p := ⟨b, off + k * 2 + 1, none⟩) hb).trans (by rw [Nat.add_assoc]; exact HCE.out _ _ (cc_at hla).2)
      clear hla
      by_cases hk0 : k = 0
      · have HK0 := Lib.hid hk0
        have e1 : ((k : Int) == 0) = true := by simp; omega
        have e2 : (k == 0) = true := by simp; omega
        clear hk0
        have EX := Lib.hid (show mnTo (·.x) l (k + 1) = d.x by exact mnTo_one HL.out HK0.out)
        have EY := Lib.hid (show mnTo (·.y) l (k + 1) = d.y by exact mnTo_one HL.out HK0.out)
        clear hbw
        go_wp2
        go_roundw
        case rel => exact ⟨k + 1, by omega, by go_num, by rw [EX.out], by rw [EY.out], trivial⟩
        case measure => simp [intOf]; omega
      · have HK0 := Lib.hid hk0
        have e1 : ((k : Int) == 0) = false := by simp; omega
        have e2 : (k == 0) = false := by simp; omega
        clear hk0
        by_cases hx : d.x < mnTo (·.x) l k <;> by_cases hy : d.y < mnTo (·.y) l k
        · have HX := Lib.hid hx
          have HY := Lib.hid hy
          have d1 : decide (d.x < mnTo (·.x) l k) = true := by simpa using hx
          have d2 : decide (d.y < mnTo (·.y) l k) = true := by simpa using hy
          have EX := Lib.hid (show mnTo (·.x) l (k + 1) = d.x by rw [mnTo_next HL.out HK0.out, if_pos HX.out])
          have EY := Lib.hid (show mnTo (·.y) l (k + 1) = d.y by rw [mnTo_next HL.out HK0.out, if_pos HY.out])
          clear hx hy hbw
          go_wp2
          go_roundw
          case rel => exact ⟨k + 1, by omega, by go_num, by rw [EX.out], by rw [EY.out], trivial⟩
          case measure => simp [intOf]; omega
        · have HX := Lib.hid hx
          have HY := Lib.hid hy
          have d1 : decide (d.x < mnTo (·.x) l k) = true := by simpa using hx
          have d2 : decide (d.y < mnTo (·.y) l k) = false := by simpa using hy
          have EX := Lib.hid (show mnTo (·.x) l (k + 1) = d.x by rw [mnTo_next HL.out HK0.out, if_pos HX.out])
          have EY := Lib.hid (show mnTo (·.y) l (k + 1) = mnTo (·.y) l k by rw [mnTo_next HL.out HK0.out, if_neg HY.out])
          clear hx hy hbw
          go_wp2
          go_roundw
          case rel => exact ⟨k + 1, by omega, by go_num, by rw [EX.out], by rw [EY.out], trivial⟩
          case measure => simp [intOf]; omega
        · have HX := Lib.hid hx
          have HY := Lib.hid hy
          have d1 : decide (d.x < mnTo (·.x) l k) = false := by simpa using hx
          have d2 : decide (d.y < mnTo (·.y) l k) = true := by simpa using hy
          have EX := Lib.hid (show mnTo (·.x) l (k + 1) = mnTo (·.x) l k by rw [mnTo_next HL.out HK0.out, if_neg HX.out])
          have EY := Lib.hid (show mnTo (·.y) l (k + 1) = d.y by rw [mnTo_next HL.out HK0.out, if_pos HY.out])
          clear hx hy hbw
          go_wp2
          go_roundw
          case rel => exact ⟨k + 1, by omega, by go_num, by rw [EX.out], by rw [EY.out], trivial⟩
          case measure => simp [intOf]; omega
        · have HX := Lib.hid hx
          have HY := Lib.hid hy
          have d1 : decide (d.x < mnTo (·.x) l k) = false := by simpa using hx
          have d2 : decide (d.y < mnTo (·.y) l k) = false := by simpa using hy
          have EX := Lib.hid (show mnTo (·.x) l (k + 1) = mnTo (·.x) l k by rw [mnTo_next HL.out HK0.out, if_neg HX.out])
          have EY := Lib.hid (show mnTo (·.y) l (k + 1) = mnTo (·.y) l k by rw [mnTo_next HL.out HK0.out, if_neg HY.out])
          clear hx hy hbw
          go_wp2
          go_roundw
          case rel => exact ⟨k + 1, by omega, by go_num, by rw [EX.out], by rw [EY.out], trivial⟩
          case measure => simp [intOf]; omega
    · obtain rfl : k = l.length := by omega
      obtain ⟨⟨m1, m2⟩, m3, m4⟩ := sml_min HON.out hl1
      have hmx : mnTo (·.x) l l.length = minX l := rfl
      have hmy : mnTo (·.y) l l.length = minY l := rfl
      rw [hmx, hmy]
      clear hmx hmy
      go_wp2
      go_loopw [3, 7] (fun s i wr => ∃ k : Nat, k ≤ l.length ∧ i = .int .i64 k ∧ Sep w wr [Res.row s 46 2 k (cc (shift (l.take k) (minX l) (minY l)))]) (fun _ i _ => l.length - (intOf i).toNat)
      case atStart => exact ⟨0, Nat.zero_le _, rfl, H0⟩
      case round =>
        clear H0
        obtain ⟨k, hk, rfl, H⟩ := hrel
        by_cases hlt2 : k < l.length
        · obtain ⟨d, hla⟩ : ∃ d, l[k]? = some d := ⟨l[k], List.getElem?_eq_getElem hlt2⟩
          have hon := HON.out d (List.mem_of_getElem? hla)
          obtain ⟨⟨o1, o2⟩, o3, o4⟩ := hon
          have hbw := H.below
          have hbr : b < wr.heap.size := by have := hbw.size; omega
          have q1 := (hbw.cell (p := ⟨b, off + k * 2, none⟩) hb).trans (HCE.out _ _ (cc_at hla).1)
          have q2 : wr.cell? ⟨b, off + k * 2 + 1, none⟩ = some (.int .i64 d.y) := (hbw.cell (p := ⟨b, off + k * 2 + 1, none⟩) hb).trans (by rw [Nat.add_assoc]; exact HCE.out _ _ (cc_at hla).2)
          have HX := Lib.hid (shift_take (x := minX l) (y := minY l) hla)
          have y1 : IntKind.i64.wrap (d.x - minX l) = d.x - minX l := IntWalk.i64_in _ (by omega)
          have y2 : IntKind.i64.wrap (d.y - minY l) = d.y - minY l := IntWalk.i64_in _ (by omega)
          have H1 := H.drew
          have HB := Lib.hid hbw
          clear hla hbw H
          go_wp2_with fail
          go_region_held3 (fun w' => w'.cell? ⟨b, off + k * 2, none⟩ = some (.int .i64 d.x) ∧ w'.cell? ⟨b, off + k * 2 + 1, none⟩ = some (.int .i64 d.y))
            (first
              | go_keep
              | exact ⟨(H4.below.cell (p := ⟨b, off + k * 2, none⟩) hb).trans (((HB.out.cell (p := ⟨b, off + k * 2, none⟩) hb).symm).trans q1), (H4.below.cell (p := ⟨b, off + k * 2 + 1, none⟩) hb).trans (((HB.out.cell (p := ⟨b, off + k * 2 + 1, none⟩) hb).symm).trans q2)⟩)
            ((refine step_app rfl (.tmp 53) (.tmp 69) 24 rfl 46 i0 _ 2 16 Tryz.underlying24 hi hz0 hz1 hz2 rfl (by decide) _ _ _ (by rfl) (H1.alloc _) _ _ _ [.int .i64 (d.x - minX l), .int .i64 (d.y - minY l)] (by rfl) (Rd.fresh wr.drew _ #[.int .i64 (d.x - minX l), .int .i64 (d.y - minY l)] 2 1 rfl) oc2 (by unfold maxLen; omega) (by omega) ?_; intro v2 w2 H4))
          clear y1 y2 q1 q2
          have H5 : Sep w w2 [Res.row v2 46 2 (k + 1) (cc (shift (l.take (k + 1)) (minX l) (minY l)))] := by rw [HX.out, cc_append]; exact H4
          clear H4
          go_wp2
          go_roundw
          case rel => exact ⟨k + 1, by omega, by go_num, H5⟩
          case measure => simp [intOf]; omega
        · obtain rfl : k = l.length := by omega
          rw [List.take_length] at H
          obtain ⟨As, cs, rfl, _, _, _⟩ := Res.row_at H.h0
          go_wp2
          go_ret
          exact ⟨_, rfl, CellsIn.mk H.oi.1 (by unfold corner; rw [shift_length]) rfl, H.below⟩

set_option maxRecDepth 100000 in
theorem l2Corner_c {v : Value} {l : List Cell} (w : World) (h : CellsRd w 0 w.heap.size v l) (hsh : isShape l = true) :
    Calls Tryz.prog 39 #[v] w fun e w' => ∃ v', e = .returned v' ∧ CellsIn w' w.heap.size w'.heap.size v' (corner l) ∧ Below w.heap.size w w' :=
  l2CornerB_c w h (shp_len hsh).1 (by have := shp_len hsh; omega) fun c hc => by
    obtain ⟨⟨h1, h2⟩, h3, h4⟩ := shp_on hsh hc
    exact ⟨⟨by omega, by omega⟩, ⟨by omega, by omega⟩⟩

set_option maxRecDepth 100000 in
set_option maxHeartbeats 800000 in
theorem cornerShape_c {v : Value} {l : List Cell} (w : World) (h : CellsRd w 0 w.heap.size v l) (hsh : isShape l = true) :
    Calls Tryz.prog 12 #[v] w fun e w' => ∃ v', e = .returned v' ∧ CellsIn w' w.heap.size w'.heap.size v' (corner l) ∧ Below w.heap.size w w' := by
  have hl := shp_len hsh
  have HS0 := Lib.hid (spec_isShape_c w h (by omega))
  have HC : Hid (∀ w1, Below w.heap.size w w1 → Calls Tryz.prog 39 #[v] w1 fun e w' => ∃ v', e = .returned v' ∧ CellsIn w' w1.heap.size w'.heap.size v' (corner l) ∧ Below w1.heap.size w1 w') := Lib.hid fun w1 hb =>
    l2Corner_c w1 ((h.keep (SameIn.of_below hb (Nat.le_refl _))).more (Nat.le_refl _) hb.size) hsh
  obtain ⟨A, c, rfl, _, _⟩ := id h
  rw [hsh] at HS0
  clear h hl hsh
  go_enter Tryz.func12, Tryz.ntmps12
  go_wp2_with fail
  refine (HS0.out).mono ?_
  rintro e w1 ⟨rfl, b1⟩
  have HC1 := Lib.hid (HC.out w1 b1)
  clear HC HS0
  go_wp2_with fail
  refine (HC1.out).mono ?_
  rintro e w2 ⟨v', rfl, o2, b2⟩
  obtain ⟨A2, c2, rfl, _, _⟩ := o2.rd
  have hb2 := b1.trans (b2.mono b1.size)
  have O2 := Lib.hid (OI.base o2 b1.size (Nat.le_refl _))
  clear o2
  go_wp2
  go_ret
  exact ⟨_, rfl, O2.out, hb2⟩

set_option maxRecDepth 100000 in
set_option maxHeartbeats 3200000 in
theorem sizeOf_c {v : Value} {s : List Cell} (w : World) (h : CellsRd w 0 w.heap.size v s) (hsh : isShape s = true) :
    Calls Tryz.prog 58 #[v] w fun e w' => e = .returned (.tuple #[.int .i64 (wdOf s), .int .i64 (htOf s)]) ∧ Below w.heap.size w w' := by
  have HS0 := Lib.hid (cornerShape_c w h hsh)
  obtain ⟨A, c, rfl, _, _⟩ := id h
  have hl := shp_len hsh
  have HON : Hid (∀ c ∈ corner s, On c) := Lib.hid fun c hc => corner_on hsh hc
  obtain ⟨l, hll⟩ : ∃ l, l = corner s := ⟨_, rfl⟩
  have hw : wdOf s = mxTo (·.x) l l.length := by rw [hll]; rfl
  have hh : htOf s = mxTo (·.y) l l.length := by rw [hll]; rfl
  have hl2 : l.length = s.length := by rw [hll]; unfold corner; rw [shift_length]
  rw [← hll] at HS0 HON
  rw [hw, hh]
  have hle : Hid (∀ k, k ≤ l.length → (0 ≤ mxTo (·.x) l k ∧ mxTo (·.x) l k ≤ 8) ∧ (0 ≤ mxTo (·.y) l k ∧ mxTo (·.y) l k ≤ 8)) := Lib.hid fun k hk =>
    ⟨mxTo_le (f := (·.x)) (fun c hc => by have := (HON.out c hc).1; omega) (by omega) k hk, mxTo_le (f := (·.y)) (fun c hc => by have := (HON.out c hc).2; omega) (by omega) k hk⟩
  have hl8 : l.length ≤ 8 := by omega
  clear h hsh hl hll hw hh hl2
  go_enter Tryz.func58, Tryz.ntmps58
  go_wp2_with fail
  refine (HS0.out).mono ?_
  rintro e W ⟨v', rfl, o2, b1⟩
  obtain ⟨A2, c2, rfl, _, hr⟩ := o2.rd
  have HRS := Lib.hid hr
  clear HS0 o2 hr
  go_wp2
  go_loopw [5, 6, 7] (fun xv yv i wr => ∃ k : Nat, k ≤ l.length ∧ i = .int .i64 k ∧ xv = .int .i64 (mxTo (·.x) l k) ∧ yv = .int .i64 (mxTo (·.y) l k) ∧ W = wr) (fun _ _ i _ => l.length - (intOf i).toNat)
  case atStart => exact ⟨0, Nat.zero_le _, rfl, rfl, rfl, rfl⟩
  case round =>
    obtain ⟨k, hk, rfl, rfl, rfl, rfl⟩ := hrel
    by_cases hlt : k < l.length
    · obtain ⟨b, off, d, rfl, _, hb, hla, q1, q2⟩ := HRS.out.at2 hlt
      have HL := Lib.hid hla
      obtain ⟨⟨o1, o2⟩, o3, o4⟩ := HON.out d (List.mem_of_getElem? hla)
      obtain ⟨⟨m1, m2⟩, m3, m4⟩ := hle.out k hk
      clear hla
      have EX := Lib.hid (mxTo_next (f := (·.x)) HL.out)
      have EY := Lib.hid (mxTo_next (f := (·.y)) HL.out)
      go_wp2
      go_roundw
      case rel => exact ⟨k + 1, by omega, by go_num, by rw [EX.out], by rw [EY.out], trivial⟩
      case measure => simp [intOf]; omega
    · obtain rfl : k = l.length := by omega
      go_wp2
      go_ret2
      exact ⟨rfl, b1⟩
end Go.Proofs.YtghpkfihdcjlaaaGreatDoor
