
/-
  The order of shapes: plain, and the walks of both sides.
-/
import Derived.Test.YtjkppigjajknaaaGreatDoorMotAB
import Derived.Test.YtjkppigjajknaaaGreatDoorSepX
import Derived.Test.YtjkppigjajknaaaGreatDoorEqW
namespace Go.Proofs.YtjkppigjajknaaaGreatDoor
open Go.RowKit

def lexC : List Cell → List Cell → Int
  | a :: p, b :: q => if befB a b then -1 else if befB b a then 1 else lexC p q
  | _, _ => 0
def cmpS (a b : List Cell) : Int := if a.length < b.length then -1 else if b.length < a.length then 1 else lexC a b
theorem lexC_self : ∀ a : List Cell, lexC a a = 0
  | [] => rfl
  | c :: a => by simp [lexC, bef_irr, lexC_self a]
theorem lexC_zero : ∀ {a b : List Cell}, a.length = b.length → lexC a b = 0 → a = b
  | [], [], _, _ => rfl
  | [], _ :: _, h, _ => by simp at h
  | _ :: _, [], h, _ => by simp at h
  | x :: a, y :: b, h, h0 => by
    simp only [lexC] at h0
    split at h0
    · omega
    · split at h0
      · omega
      · rename_i h1 h2
        rcases bef_tri x y with e | e | e
        · exact absurd e h1
        · rw [e, lexC_zero (by simpa using h) h0]
        · exact absurd e h2
theorem cmpS_self {a : List Cell} : cmpS a a = 0 := by simp [cmpS, lexC_self]
theorem cmpS_zero {a b : List Cell} (h : cmpS a b = 0) : a = b := by
  unfold cmpS at h
  split at h
  · omega
  · split at h
    · omega
    · exact lexC_zero (by omega) h
theorem lexC_neg : ∀ (a b : List Cell), lexC b a = - lexC a b
  | [], [] => rfl
  | [], _ :: _ => rfl
  | _ :: _, [] => rfl
  | x :: a, y :: b => by
    simp only [lexC]
    by_cases h1 : befB x y = true
    · rw [if_pos h1, if_neg (by rw [bef_asym h1]; exact Bool.false_ne_true), if_pos h1]; rfl
    · by_cases h2 : befB y x = true
      · simp [h1, h2]
      · simp [h1, h2, lexC_neg a b]
theorem cmpS_neg (a b : List Cell) : cmpS b a = - cmpS a b := by
  unfold cmpS
  by_cases h1 : a.length < b.length
  · rw [if_neg (by omega), if_pos h1, if_pos h1]; rfl
  · by_cases h2 : b.length < a.length
    · rw [if_pos h2, if_neg h1, if_pos h2]
    · rw [if_neg h2, if_neg h1, if_neg h1, if_neg h2, lexC_neg]
theorem lexC_trans : ∀ {a b c : List Cell}, a.length = b.length → b.length = c.length → lexC a b < 0 → lexC b c < 0 → lexC a c < 0
  | [], b, c, h1, _, h3, _ => by cases b <;> simp [lexC] at h3
  | _ :: _, [], c, h1, _, _, _ => by simp at h1
  | _ :: _, _ :: _, [], _, h2, _, _ => by simp at h2
  | x :: a, y :: b, z :: c, h1, h2, h3, h4 => by
    simp only [lexC] at h3 h4 ⊢
    by_cases hxy : befB x y = true
    · by_cases hyz : befB y z = true
      · rw [if_pos (bef_trans hxy hyz)]; omega
      · rw [if_neg hyz] at h4
        by_cases hzy : befB z y = true
        · rw [if_pos hzy] at h4; omega
        · rcases bef_tri y z with e | e | e
          · exact absurd e hyz
          · subst e; rw [if_pos hxy]; omega
          · exact absurd e hzy
    · rw [if_neg hxy] at h3
      by_cases hyx : befB y x = true
      · rw [if_pos hyx] at h3; omega
      · rw [if_neg hyx] at h3
        rcases bef_tri x y with e | e | e
        · exact absurd e hxy
        · subst e
          by_cases hyz : befB x z = true
          · rw [if_pos hyz]; omega
          · rw [if_neg hyz] at h4 ⊢
            by_cases hzy : befB z x = true
            · rw [if_pos hzy] at h4; omega
            · rw [if_neg hzy] at h4 ⊢
              exact lexC_trans (by simpa using h1) (by simpa using h2) h3 h4
        · exact absurd e hyx
theorem cmpS_trans {a b c : List Cell} (h1 : cmpS a b < 0) (h2 : cmpS b c < 0) : cmpS a c < 0 := by
  unfold cmpS at h1 h2 ⊢
  by_cases l1 : a.length < b.length
  · by_cases l2 : b.length < c.length
    · rw [if_pos (by omega)]; omega
    · rw [if_neg l2] at h2
      by_cases l3 : c.length < b.length
      · rw [if_pos l3] at h2; omega
      · rw [if_pos (by omega)]; omega
  · rw [if_neg l1] at h1
    by_cases l4 : b.length < a.length
    · rw [if_pos l4] at h1; omega
    · rw [if_neg l4] at h1
      by_cases l2 : b.length < c.length
      · rw [if_pos (by omega)]; omega
      · rw [if_neg l2] at h2
        by_cases l3 : c.length < b.length
        · rw [if_pos l3] at h2; omega
        · rw [if_neg l3] at h2
          rw [if_neg (by omega), if_neg (by omega)]
          exact lexC_trans (by omega) (by omega) h1 h2
theorem lexC_at {a b : List Cell} {k : Nat} {x y : Cell} (ha : a[k]? = some x) (hb : b[k]? = some y) : lexC (a.drop k) (b.drop k) = if befB x y then -1 else if befB y x then 1 else lexC (a.drop (k + 1)) (b.drop (k + 1)) := by
  obtain ⟨h1, rfl⟩ := List.getElem?_eq_some_iff.1 ha
  obtain ⟨h2, rfl⟩ := List.getElem?_eq_some_iff.1 hb
  rw [List.drop_eq_getElem_cons h1, List.drop_eq_getElem_cons h2]; rfl
theorem lexC_end {a b : List Cell} {k : Nat} (h : a.length ≤ k) : lexC (a.drop k) (b.drop k) = 0 := by rw [List.drop_of_length_le h]; rfl

set_option maxRecDepth 100000 in
set_option maxHeartbeats 1600000 in
theorem spec_cmp_c {v v' : Value} {a b : List Cell} (w : World) (h : CellsRd w 0 w.heap.size v a) (h' : CellsRd w 0 w.heap.size v' b) (hn : a.length ≤ 1048576) :
    Calls Tryz.prog 213 #[v, v'] w fun e w' => e = .returned (.int .i64 (cmpS a b)) ∧ Below w.heap.size w w' := by
  obtain ⟨A, c, rfl, hm, hr⟩ := h
  obtain ⟨A', c', rfl, hm', hr'⟩ := h'
  by_cases hl1 : a.length < b.length
  ·
    have hR : cmpS a b = -1 := by unfold cmpS; rw [if_pos hl1]
    have e1 : ¬ a.length = b.length := by omega
    have e2 : ¬ b.length < a.length := by omega
    have e3 : decide ((a.length : Int) < (b.length : Int)) = true := decide_eq_true (by omega)
    have e4 : ((a.length : Int) != (b.length : Int)) = true := by simp; omega
    rw [hR]
    clear hR hr hr'
    go_enter Tryz.func213, Tryz.ntmps213
    go_wp2
    go_ret
    exact ⟨rfl, Below.refl _ _⟩
  by_cases hl2 : b.length < a.length
  ·
    have hR : cmpS a b = 1 := by unfold cmpS; rw [if_neg hl1, if_pos hl2]
    have e1 : ¬ a.length = b.length := by omega
    have e3 : decide ((a.length : Int) < (b.length : Int)) = false := decide_eq_false (by omega)
    have e4 : ((a.length : Int) != (b.length : Int)) = true := by simp; omega
    have e5 : decide ((b.length : Int) < (a.length : Int)) = true := decide_eq_true (by omega)
    rw [hR]
    clear hR hr hr'
    go_enter Tryz.func213, Tryz.ntmps213
    go_wp2
    go_ret
    exact ⟨rfl, Below.refl _ _⟩
  have hlen : a.length = b.length := by omega
  obtain ⟨R, hR⟩ : ∃ R, R = cmpS a b := ⟨_, rfl⟩
  rw [← hR]
  have HR : Hid (lexC (a.drop 0) (b.drop 0) = R) := Lib.hid (by rw [hR]; unfold cmpS; rw [if_neg hl1, if_neg hl2]; rfl)
  rw [← hlen] at hm' hr' ⊢
  have HLN := Lib.hid hlen
  clear hR hl1 hl2 hlen
  go_enter Tryz.func213, Tryz.ntmps213
  go_wp2
  go_loopw [5] (fun kv wx => ∃ k : Nat, k ≤ a.length ∧ kv = .int .i64 k ∧ Hid (lexC (a.drop k) (b.drop k) = R) ∧ Below w.heap.size w wx) (fun kv _ => a.length - (intOf kv).toNat)
  case atStart => exact ⟨0, Nat.zero_le _, rfl, HR, Below.refl _ _⟩
  case round =>
    clear HR
    obtain ⟨k, hk, rfl, HK, hbel⟩ := hrel
    by_cases hlt : k < a.length
    · obtain ⟨bb, off, x, rfl, _, hb, hla, q1, q2⟩ := (hr.below hbel (Nat.le_refl _)).at2 hlt
      obtain ⟨bb', off', y, rfl, _, hb', hla', q1', q2'⟩ := (hr'.below hbel (Nat.le_refl _)).at2 hlt
      have HAT := Lib.hid (lexC_at hla hla')
      by_cases hxy : x = y
      · subst hxy
        have HK2 : Hid (lexC (a.drop (k + 1)) (b.drop (k + 1)) = R) := Lib.hid (by rw [← HK.out, HAT.out, if_neg (by rw [bef_irr]; decide), if_neg (by rw [bef_irr]; decide)])
        have heq : ∀ n, (Op.equal 49 (.agg #[.int .i64 x.x, .int .i64 x.y]) (.agg #[.int .i64 x.x, .int .i64 x.y])).run Tryz.prog (wr.drewN n) = .ok true (wr.drewN n) := fun n => by have := run_equal_cell (wr.drewN n) x x; rw [decide_eq_true rfl] at this; exact this
        clear hla hla' HAT hr hr'
        go_wp2_with fail
        go_quiet (fail)
        have hb2 := below_drewN hbel nq
        clear heq q1 q2 q1' q2'
        generalize wr.drewN nq = w4 at *
        go_wp2
        go_roundw
        case rel => exact ⟨k + 1, by omega, by go_num, HK2, hb2⟩
        case measure => simp [intOf]; omega
      · have HXY := Lib.hid hxy
        have HC : Hid (∀ w', Calls Tryz.prog 60 #[.agg #[.int .i64 x.x, .int .i64 x.y], .agg #[.int .i64 y.x, .int .i64 y.y]] w' fun e w'' => e = .returned (.bool (befB x y)) ∧ Below w'.heap.size w' w'') := Lib.hid fun w' => spec_bef_c x y w'
        obtain ⟨f, hf⟩ : ∃ f, f = befB x y := ⟨_, rfl⟩
        have HRR : Hid (R = if f then -1 else 1) := Lib.hid (by
          rw [← HK.out, HAT.out, hf]
          by_cases h1 : befB x y = true
          · rw [if_pos h1, if_pos h1]
          · rw [if_neg h1, if_neg h1]
            rcases bef_tri x y with e | e | e
            · exact absurd e h1
            · exact absurd e hxy
            · rw [if_pos e])
        rw [← hf] at HC
        have q3 : wr.heap.size = wr.heap.size := rfl
        have hbw : bb < wr.heap.size := by have := hbel.size; omega
        have hbw' : bb' < wr.heap.size := by have := hbel.size; omega
        clear hla hla' HAT hr hr' hxy hf q3
        go_wp2_with fail
        refine wp_region_quiet_lit (by kernel_rfl) (by kernel_rfl) ?_
        repeat (go_big_quiet_step (fail))
        go_big_quiet_want
        go_big_quiet_op
        refine ⟨.bool true, fun aa => ?_, ?_⟩
        · by_cases hx : x.x = y.x
          · have hy : ¬ x.y = y.y := fun hy => HXY.out (by cases x; cases y; simp at hx hy; subst hx; subst hy; rfl)
            simp [hx, hy]
          · simp [hx]
        go_big_quiet_on
        refine wpQuiet_nil ?_
        intro _ hwq'
        obtain ⟨nq, hwq''⟩ := hwq'
        subst hwq''
        have hb2 := below_drewN hbel nq
        have l1 := Later.cell (W := wr.drewN nq) q1 hbw
        have l2 := Later.cell (W := wr.drewN nq) q2 hbw
        have l3 := Later.cell (W := wr.drewN nq) q1' hbw'
        have l4 := Later.cell (W := wr.drewN nq) q2' hbw'
        clear q1 q2 q1' q2' HXY hbel
        generalize wr.drewN nq = w4 at *
        go_wp2_with fail
        refine wp_region_later (by kernel_rfl) (by kernel_rfl) ?_
        repeat (go_big_quiet_step ((go_at_call 60; exact Later.call (HC.out _))))
        refine wpQuiet_nil ?_
        intro w5 hw5
        obtain ⟨u5, hu5⟩ := hw5
        subst hu5
        have hb3 := hb2.trans (u5.h.mono hb2.size)
        clear l1 l2 l3 l4 HC
        generalize u5.w = w5 at *
        cases f
        · obtain rfl : R = 1 := HRR.out
          go_wp2
          go_ret
          exact ⟨rfl, hb3⟩
        · obtain rfl : R = -1 := HRR.out
          go_wp2
          go_ret
          exact ⟨rfl, hb3⟩
    · obtain rfl : k = a.length := by omega
      obtain rfl : R = 0 := by rw [← HK.out, lexC_end (Nat.le_refl _)]
      go_wp2
      go_ret
      exact ⟨rfl, hbel⟩
set_option maxRecDepth 100000 in
set_option maxHeartbeats 1600000 in
theorem impl_cmp_c {v v' : Value} {a b : List Cell} (w : World) (h : CellsRd w 0 w.heap.size v a) (h' : CellsRd w 0 w.heap.size v' b) (hn : a.length ≤ 1048576) :
    Calls Tryz.prog 220 #[v, v'] w fun e w' => e = .returned (.int .i64 (cmpS a b)) ∧ Below w.heap.size w w' := by
  obtain ⟨A, c, rfl, hm, hr⟩ := h
  obtain ⟨A', c', rfl, hm', hr'⟩ := h'
  by_cases hl1 : a.length < b.length
  ·
    have hR : cmpS a b = -1 := by unfold cmpS; rw [if_pos hl1]
    have e1 : ¬ a.length = b.length := by omega
    have e2 : ¬ b.length < a.length := by omega
    have e3 : decide ((a.length : Int) < (b.length : Int)) = true := decide_eq_true (by omega)
    have e4 : ((a.length : Int) != (b.length : Int)) = true := by simp; omega
    rw [hR]
    clear hR hr hr'
    go_enter Tryz.func220, Tryz.ntmps220
    go_wp2
    go_ret
    exact ⟨rfl, Below.refl _ _⟩
  by_cases hl2 : b.length < a.length
  ·
    have hR : cmpS a b = 1 := by unfold cmpS; rw [if_neg hl1, if_pos hl2]
    have e1 : ¬ a.length = b.length := by omega
    have e3 : decide ((a.length : Int) < (b.length : Int)) = false := decide_eq_false (by omega)
    have e4 : ((a.length : Int) != (b.length : Int)) = true := by simp; omega
    have e5 : decide ((b.length : Int) < (a.length : Int)) = true := decide_eq_true (by omega)
    rw [hR]
    clear hR hr hr'
    go_enter Tryz.func220, Tryz.ntmps220
    go_wp2
    go_ret
    exact ⟨rfl, Below.refl _ _⟩
  have hlen : a.length = b.length := by omega
  obtain ⟨R, hR⟩ : ∃ R, R = cmpS a b := ⟨_, rfl⟩
  rw [← hR]
  have HR : Hid (lexC (a.drop 0) (b.drop 0) = R) := Lib.hid (by rw [hR]; unfold cmpS; rw [if_neg hl1, if_neg hl2]; rfl)
  rw [← hlen] at hm' hr' ⊢
  have HLN := Lib.hid hlen
  clear hR hl1 hl2 hlen
  go_enter Tryz.func220, Tryz.ntmps220
  go_wp2
  go_loopw [20] (fun kv wx => ∃ k : Nat, k ≤ a.length ∧ kv = .int .i64 k ∧ Hid (lexC (a.drop k) (b.drop k) = R) ∧ Below w.heap.size w wx) (fun kv _ => a.length - (intOf kv).toNat)
  case atStart => exact ⟨0, Nat.zero_le _, rfl, HR, Below.refl _ _⟩
  case round =>
    clear HR
    obtain ⟨k, hk, rfl, HK, hbel⟩ := hrel
    by_cases hlt : k < a.length
    · obtain ⟨bb, off, x, rfl, _, hb, hla, q1, q2⟩ := (hr.below hbel (Nat.le_refl _)).at2 hlt
      obtain ⟨bb', off', y, rfl, _, hb', hla', q1', q2'⟩ := (hr'.below hbel (Nat.le_refl _)).at2 hlt
      have HAT := Lib.hid (lexC_at hla hla')
      have HC : Hid (∀ w', Calls Tryz.prog 66 #[.agg #[.int .i64 x.x, .int .i64 x.y], .agg #[.int .i64 y.x, .int .i64 y.y]] w' fun e w'' => e = .returned (.bool (befB x y)) ∧ Below w'.heap.size w' w'') := Lib.hid fun w' => impl_bef_c x y w'
      have HD : Hid (∀ w', Calls Tryz.prog 66 #[.agg #[.int .i64 y.x, .int .i64 y.y], .agg #[.int .i64 x.x, .int .i64 x.y]] w' fun e w'' => e = .returned (.bool (befB y x)) ∧ Below w'.heap.size w' w'') := Lib.hid fun w' => impl_bef_c y x w'
      obtain ⟨f, hf⟩ : ∃ f, f = befB x y := ⟨_, rfl⟩
      obtain ⟨g, hg⟩ : ∃ g, g = befB y x := ⟨_, rfl⟩
      rw [← hf] at HC
      rw [← hg] at HD
      have HRR : Hid (R = if f then -1 else if g then 1 else lexC (a.drop (k + 1)) (b.drop (k + 1))) := Lib.hid (by rw [← HK.out, HAT.out, hf, hg])
      have hbw : bb < wr.heap.size := by have := hbel.size; omega
      have hbw' : bb' < wr.heap.size := by have := hbel.size; omega
      clear hla hla' HAT hr hr' hf hg
      have l1 := Later.cell q1 hbw
      have l2 := Later.cell q2 hbw
      have l3 := Later.cell q1' hbw'
      have l4 := Later.cell q2' hbw'
      go_wp2_with fail
      refine wp_region_later (by kernel_rfl) (by kernel_rfl) ?_
      repeat (go_big_quiet_step ((go_at_call 66; exact Later.call (HC.out _))))
      refine wpQuiet_nil ?_
      intro w5 hw5
      obtain ⟨u5, hu5⟩ := hw5
      subst hu5
      replace q1 := (u5.h.cell (p := ⟨bb, off + k * 2, none⟩) hbw).trans q1
      replace q2 := (u5.h.cell (p := ⟨bb, off + k * 2 + 1, none⟩) hbw).trans q2
      replace q1' := (u5.h.cell (p := ⟨bb', off' + k * 2, none⟩) hbw').trans q1'
      replace q2' := (u5.h.cell (p := ⟨bb', off' + k * 2 + 1, none⟩) hbw').trans q2'
      replace hbw := Nat.lt_of_lt_of_le hbw u5.h.size
      replace hbw' := Nat.lt_of_lt_of_le hbw' u5.h.size
      replace hbel := hbel.trans (u5.h.mono hbel.size)
      clear l1 l2 l3 l4 HC
      generalize u5.w = w5 at *
      cases f
      ·
        have l1 := Later.cell q1 hbw
        have l2 := Later.cell q2 hbw
        have l3 := Later.cell q1' hbw'
        have l4 := Later.cell q2' hbw'
        go_wp2_with fail
        refine wp_region_later (by kernel_rfl) (by kernel_rfl) ?_
        repeat (go_big_quiet_step ((go_at_call 66; exact Later.call (HD.out _))))
        refine wpQuiet_nil ?_
        intro w5 hw5
        obtain ⟨u5, hu5⟩ := hw5
        subst hu5
        replace q1 := (u5.h.cell (p := ⟨bb, off + k * 2, none⟩) hbw).trans q1
        replace q2 := (u5.h.cell (p := ⟨bb, off + k * 2 + 1, none⟩) hbw).trans q2
        replace q1' := (u5.h.cell (p := ⟨bb', off' + k * 2, none⟩) hbw').trans q1'
        replace q2' := (u5.h.cell (p := ⟨bb', off' + k * 2 + 1, none⟩) hbw').trans q2'
        replace hbw := Nat.lt_of_lt_of_le hbw u5.h.size
        replace hbw' := Nat.lt_of_lt_of_le hbw' u5.h.size
        replace hbel := hbel.trans (u5.h.mono hbel.size)
        clear l1 l2 l3 l4 HD
        generalize u5.w = w5 at *
        clear q1 q2 q1' q2'
        cases g
        · have HK2 : Hid (lexC (a.drop (k + 1)) (b.drop (k + 1)) = R) := Lib.hid HRR.out.symm
          go_wp2
          go_roundw
          case rel => exact ⟨k + 1, by omega, by go_num, HK2, hbel⟩
          case measure => simp [intOf]; omega
        · obtain rfl : R = 1 := HRR.out
          go_wp2
          go_ret
          exact ⟨rfl, hbel⟩
      · obtain rfl : R = -1 := HRR.out
        clear q1 q2 q1' q2' HD
        go_wp2
        go_ret
        exact ⟨rfl, hbel⟩
    · obtain rfl : k = a.length := by omega
      obtain rfl : R = 0 := by rw [← HK.out, lexC_end (Nat.le_refl _)]
      go_wp2
      go_ret
      exact ⟨rfl, hbel⟩
end Go.Proofs.YtjkppigjajknaaaGreatDoor
