
/-
  Shapes: the border word: the walk of the reference.
-/
import Derived.Test.YtlfeognjnlppkaaShpU
import Derived.Test.YtlfeognjnlppkaaShpS
import Derived.Test.YtlfeognjnlppkaaLater
import Derived.Deep.CutRange
import Derived.Deep.DeepCutAuto
namespace Go.Proofs.Ytlfeognjnlppkaa
open Go.RowKit

set_option maxRecDepth 100000 in
set_option maxHeartbeats 6400000 in
theorem spec_bord_c {v : Value} {s : List Cell} (w : World) (h : CellsRd w 0 w.heap.size v s) (hn : s.length ≤ 1048576) :
    Calls Try.prog 6 #[v] w fun e w' => e = .returned (.tuple #[.string (wstr (bordW s)), .bool (bordOk s)]) ∧ Below w.heap.size w w' := by
  obtain ⟨A, c, rfl, hm, hr⟩ := id h
  have HS : Hid (CellsRd w 0 w.heap.size (.slice A s.length c) s) := Lib.hid h
  have keep : ∀ w1, Below w.heap.size w w1 → CellsRd w1 0 w1.heap.size (.slice A s.length c) s := fun w1 hb => (h.keep (SameIn.of_below hb (Nat.le_refl _))).more (Nat.le_refl _) hb.size
  have HC := Lib.hid (spec_conn_c w h hn)
  have HZ : Hid (∀ w1, Below w.heap.size w w1 → Calls Try.prog 20 #[.slice A s.length c] w1 fun e w' => e = .returned (.int .i64 (holesZ s)) ∧ Below w1.heap.size w1 w') := Lib.hid fun w1 hb => spec_holes_c w1 (keep w1 hb) hn
  have HP : Hid (isShape s = true → ∀ w1, Below w.heap.size w w1 → Calls Try.prog 21 #[.slice A s.length c] w1 fun e w' => e = .returned (.bool (pinS s)) ∧ Below w1.heap.size w1 w') := Lib.hid fun hs w1 hb => spec_pin_c w1 (keep w1 hb) (shp_len hs).2 (fun c hc => shp_on hs hc)
  obtain ⟨R, hR⟩ : ∃ R, R = bordW s := ⟨_, rfl⟩
  obtain ⟨B, hB⟩ : ∃ B, B = bordOk s := ⟨_, rfl⟩
  rw [← hR, ← hB]
  have HR := Lib.hid hR
  have HB := Lib.hid hB
  have HRS := Lib.hid hr
  clear h hr hR hB keep hm
  go_enter Try.func6, Try.ntmps6
  go_wp2_with fail
  refine (HC.out).mono ?_
  rintro e w1 ⟨rfl, b1⟩
  clear HC
  cases hcn : connS s
  · have hb0 : bordOk s = false := by unfold bordOk; rw [hcn]; rfl
    obtain rfl : B = false := HB.out.trans hb0
    obtain rfl : R = [] := HR.out.trans (bordW_no hb0)
    clear hb0 hcn
    go_wp2
    go_ret2
    exact ⟨rfl, b1⟩
  have hsh : isShape s = true := by unfold connS at hcn; exact (Bool.and_eq_true _ _ ▸ hcn).1
  have HSH := Lib.hid hsh
  have HCN := Lib.hid hcn
  clear hcn hsh
  go_wp2_with fail
  refine (HZ.out _ b1).mono ?_
  rintro e w2 ⟨rfl, b2⟩
  have b3 := b1.trans (b2.mono b1.size)
  clear b1 b2 HZ
  by_cases hz : holesZ s = 0
  rotate_left
  · have hb0 : bordOk s = false := by unfold bordOk; rw [decide_eq_false hz, Bool.and_false]; rfl
    obtain rfl : B = false := HB.out.trans hb0
    obtain rfl : R = [] := HR.out.trans (bordW_no hb0)
    have z1 : (holesZ s == 0) = false := beq_eq_false_iff_ne.2 hz
    clear hb0
    go_wp2
    go_ret2
    exact ⟨rfl, b3⟩
  rw [hz]
  go_wp2_with fail
  refine (HP.out HSH.out _ b3).mono ?_
  rintro e w4 ⟨rfl, b4⟩
  have b5 := b3.trans (b4.mono b3.size)
  clear b3 b4 HP
  cases hp : pinS s
  rotate_left
  · have hb0 : bordOk s = false := by unfold bordOk; rw [hp]; simp
    obtain rfl : B = false := HB.out.trans hb0
    obtain rfl : R = [] := HR.out.trans (bordW_no hb0)
    clear hb0 hp
    go_wp2
    go_ret2
    exact ⟨rfl, b5⟩
  have hb0 : bordOk s = true := by unfold bordOk; rw [HCN.out, hp, hz]; rfl
  obtain ⟨hl1, hl8⟩ := shp_len HSH.out
  obtain ⟨a, ha⟩ : ∃ a, s[0]? = some a := ⟨s[0], List.getElem?_eq_getElem (by omega)⟩
  obtain ⟨K, hbi⟩ := bord_ex HSH.out hp ha
  obtain rfl : B = true := HB.out.trans hb0
  have HRK : Hid (R = wrd s a K) := Lib.hid (HR.out.trans (bordW_yes hb0 ha hbi))
  have HBI := Lib.hid hbi
  have HA := Lib.hid ha
  obtain ⟨⟨a1, a2⟩, a3, a4⟩ := shp_on HSH.out (List.mem_of_getElem? ha)
  obtain ⟨b, off, hA, _, hb, hc⟩ := HRS.out.2 (by omega)
  subst hA
  have HC0 : Hid (w.cell? ⟨b, off, none⟩ = some (.int .i64 a.x)) := Lib.hid (by have := hc _ _ (cc_at HA.out).1; simpa using this)
  have HC1 : Hid (w.cell? ⟨b, off + 1, none⟩ = some (.int .i64 a.y)) := Lib.hid (by have := hc _ _ (cc_at HA.out).2; simpa using this)
  have q0 := (b5.cell (p := ⟨b, off, none⟩) hb).trans HC0.out
  have q1 := (b5.cell (p := ⟨b, off + 1, none⟩) hb).trans HC1.out
  have H0 := ((Sep.start w).step b5).box 50 #[.int .i64 a.x, .int .i64 a.y]
  obtain ⟨g, hg⟩ : ∃ g, g = w4.heap.size := ⟨_, rfl⟩
  rw [← hg] at H0
  clear hb0 hbi hp hz ha b5 hc
  go_wp2
  generalize w4.alloc (.cells #[.int .i64 a.x, .int .i64 a.y] 50) = W at *
  rw [← hg]
  clear hg q0 q1
  go_loopw [4, 6, 7] (fun sv dv nv wr => ∃ (n : Nat), n ≤ K ∧ sv = .string (wstr (wrd s a n)) ∧ dv = .int .i64 (outD s (wlk s a n) : Nat) ∧ nv = .int .i64 n ∧ Sep w wr [Res.box g 50 #[.int .i64 (wlk s a n).x, .int .i64 (wlk s a n).y]]) (fun _ _ nv _ => K - (intOf nv).toNat)
  case atStart => exact ⟨0, Nat.zero_le _, rfl, by rw [show outD s (wlk s a 0) = 0 from outD_0 HBI.out]; rfl, rfl, H0⟩
  case round =>
    clear H0
    obtain ⟨n, hnK, rfl, rfl, rfl, H⟩ := hrel
    obtain ⟨P, hP⟩ : ∃ P, P = wlk s a n := ⟨_, rfl⟩
    obtain ⟨d, hd⟩ : ∃ d, d = outD s P := ⟨_, rfl⟩
    obtain ⟨Q, hQ⟩ : ∃ Q, Q = wlk s a (n + 1) := ⟨_, rfl⟩
    have hQs : Q = stepC P d := by rw [hQ, hd, hP]; rfl
    obtain ⟨⟨p1, p2⟩, p3, p4⟩ := HBI.out.bord.on_ n
    obtain ⟨⟨r1, r2⟩, r3, r4⟩ := HBI.out.bord.on_ (n + 1)
    have HWS : Hid (wrd s a (n + 1) = wrd s a n ++ [dirU d]) := Lib.hid (by rw [hd, hP]; exact wrd_succ)
    have HTU := HBI.out.bord.turn n
    rw [← hP, ← hd, ← hQ] at HTU
    rw [← hP] at H p1 p2 p3 p4
    rw [← hP, ← hd]
    rw [← hQ] at r1 r2 r3 r4
    have hd4 : d < 4 := by rw [hd]; exact outD_lt _ _
    have HTU := Lib.hid HTU
    have HQE : Hid (Q = wlk s a (n + 1)) := Lib.hid hQ
    have hbw := H.below
    have hbr : b < wr.heap.size := Nat.lt_of_lt_of_le hb hbw.size
    have l0 := Later.cell ((hbw.cell (p := ⟨b, off, none⟩) hb).trans HC0.out) hbr
    have l1 := Later.cell ((hbw.cell (p := ⟨b, off + 1, none⟩) hb).trans HC1.out) hbr
    have l2 := Later.cell (W := wr) (p := ⟨g, 0, none⟩) (v := .int .i64 P.x) (H.h0.cell 0) H.h0.lt
    have l3 := Later.cell (W := wr) (p := ⟨g, 1, none⟩) (v := .int .i64 P.y) (H.h0.cell 1) H.h0.lt
    have HPE : Hid (P = wlk s a n) := Lib.hid hP
    have HDE : Hid (d = outD s P) := Lib.hid hd
    clear hP hd hQ hbw
    by_cases hK : n = K
    · subst hK
      obtain rfl : P = a := HPE.out.trans HBI.out.home
      obtain rfl : d = 0 := HDE.out.trans (outD_0 HBI.out)
      have hn0 := HBI.out.lo
      have n1 : ((n : Int) == 0) = false := by simp; omega
      go_wp2_with fail
      refine wp_region_later (by kernel_rfl) (by kernel_rfl) ?_
      repeat (go_big_quiet_step (fail))
      refine wpQuiet_nil ?_
      intro w3 hw3
      obtain ⟨u3, hu3⟩ := hw3
      subst hu3
      have H3 := H.later u3
      clear l0 l1 l2 l3 H
      generalize u3.w = w3 at *
      go_wp2
      go_ret2
      exact ⟨by rw [HRK.out]; rfl, H3.below⟩
    · have hn0 : n < K := by omega
      have hK81 := HBI.out.hi
      have HQS := Lib.hid hQs
      clear hQs
      go_upto_region 7 with fail
      go_cut [36] from 24 to 36 (fun cv wx => cv = .bool true ∧ Sep w wx [Res.box g 50 #[.int .i64 P.x, .int .i64 P.y]])
      case first =>
        by_cases hz : n = 0
        · subst hz
          obtain rfl : P = a := HPE.out
          obtain rfl : d = 0 := HDE.out.trans (outD_0 HBI.out)
          go_wp2_with fail
          refine wp_region_later (by kernel_rfl) (by kernel_rfl) ?_
          repeat (go_big_quiet_step (fail))
          refine wpQuiet_nil ?_
          intro w3 hw3
          obtain ⟨u3, hu3⟩ := hw3
          subst hu3
          have H3 := H.later u3
          clear l0 l1 l2 l3 H
          generalize u3.w = w3 at *
          go_wp2_with fail
          go_meet
          case rel => exact ⟨rfl, H3⟩
        · have n1 : ((n : Int) == 0) = false := by simp; omega
          have hne : P ≠ a := fun e => HBI.out.away n (by omega) hn0 (HPE.out.symm.trans e)
          go_wp2_with fail
          refine wp_region_later (by kernel_rfl) (by kernel_rfl) ?_
          repeat (go_big_quiet_step (fail))
          go_big_quiet_want
          go_big_quiet_op
          refine ⟨.bool true, ?_, ?_⟩
          · intro u3
            by_cases ex : P.x = a.x
            · rw [if_pos ex, if_neg (fun ey => hne (by obtain ⟨px, py⟩ := P; obtain ⟨ax, ay⟩ := a; simp only at ex ey; rw [ex, ey]))]
              exact ⟨rfl, rfl⟩
            · rw [if_neg ex]
              exact ⟨rfl, rfl⟩
          go_big_quiet_on
          repeat (go_big_quiet_step (fail))
          refine wpQuiet_nil ?_
          intro w3 hw3
          obtain ⟨u3, hu3⟩ := hw3
          subst hu3
          have H3 := H.later u3
          clear l0 l1 l2 l3 H hne n1
          generalize u3.w = w3 at *
          go_wp2_with fail
          go_meet
          case rel => exact ⟨rfl, H3⟩
      case rest =>
      obtain ⟨rfl, H3⟩ := hcut
      clear l0 l1 l2 l3 H
      generalize hwc : wc = w3 at *
      clear hwc
      go_upto_region 9 with fail
      go_cut [4] from 39 to 44 (fun sv wx => sv = .string (wstr (wrd s a (n + 1))) ∧ Sep w wx [Res.box g 50 #[.int .i64 P.x, .int .i64 P.y]])
      case first =>
        have h4 : d = 0 ∨ d = 1 ∨ d = 2 ∨ d = 3 := by omega
        have hws := HWS.out
        rcases h4 with rfl | rfl | rfl | rfl
        all_goals
          have HWS2 := Lib.hid hws
          clear hws
        ·
          have y1 : ¬ 9223372036854775807 < (wstr (wrd s a n)).size + (({ data := #[114, 100, 108, 117] } : ByteArray).extract 0 1).size := by
            have h2 : (({ data := #[114, 100, 108, 117] } : ByteArray).extract 0 1).size = 1 := by decide
            have h1 : (wstr (wrd s a n)).size = n := wstr_size.trans wrd_len
            have h3 := HBI.out.hi
            omega
          go_wp2_with fail
          go_meet
          case rel => exact ⟨by rw [HWS2.out, ← wstr_app]; rfl, H3⟩
        ·
          have y1 : ¬ 9223372036854775807 < (wstr (wrd s a n)).size + (({ data := #[114, 100, 108, 117] } : ByteArray).extract 1 2).size := by
            have h2 : (({ data := #[114, 100, 108, 117] } : ByteArray).extract 1 2).size = 1 := by decide
            have h1 : (wstr (wrd s a n)).size = n := wstr_size.trans wrd_len
            have h3 := HBI.out.hi
            omega
          go_wp2_with fail
          go_meet
          case rel => exact ⟨by rw [HWS2.out, ← wstr_app]; rfl, H3⟩
        ·
          have y1 : ¬ 9223372036854775807 < (wstr (wrd s a n)).size + (({ data := #[114, 100, 108, 117] } : ByteArray).extract 2 3).size := by
            have h2 : (({ data := #[114, 100, 108, 117] } : ByteArray).extract 2 3).size = 1 := by decide
            have h1 : (wstr (wrd s a n)).size = n := wstr_size.trans wrd_len
            have h3 := HBI.out.hi
            omega
          go_wp2_with fail
          go_meet
          case rel => exact ⟨by rw [HWS2.out, ← wstr_app]; rfl, H3⟩
        ·
          have y1 : ¬ 9223372036854775807 < (wstr (wrd s a n)).size + (({ data := #[114, 100, 108, 117] } : ByteArray).extract 3 4).size := by
            have h2 : (({ data := #[114, 100, 108, 117] } : ByteArray).extract 3 4).size = 1 := by decide
            have h1 : (wstr (wrd s a n)).size = n := wstr_size.trans wrd_len
            have h3 := HBI.out.hi
            omega
          go_wp2_with fail
          go_meet
          case rel => exact ⟨by rw [HWS2.out, ← wstr_app]; rfl, H3⟩
      case rest =>
      obtain ⟨rfl, H4⟩ := hcut
      clear H3
      generalize hwc : wc = w3 at *
      clear hwc
      go_upto_region 10 with fail
      have k0 : w3.cell? ⟨g, 0, none⟩ = some (.int .i64 P.x) := H4.h0.cell 0
      have k1 : w3.cell? ⟨g, 1, none⟩ = some (.int .i64 P.y) := H4.h0.cell 1
      replace H4 := H4.drew
      go_cut [45] from 45 to 51 (fun _ wx => True ∧ Sep w wx [Res.box g 50 #[.int .i64 Q.x, .int .i64 Q.y]])
      case first =>
        have h4 : d = 0 ∨ d = 1 ∨ d = 2 ∨ d = 3 := by omega
        rcases h4 with rfl | rfl | rfl | rfl
        ·
          have HSTP : Hid (∀ w', Calls Try.prog 22 #[.agg #[.int .i64 P.x, .int .i64 P.y], .int .u8 114] w' fun e w'' => e = .returned (.tuple #[.agg #[.int .i64 Q.x, .int .i64 Q.y], .bool true]) ∧ Below w'.heap.size w' w'') := Lib.hid fun w' => by
            rw [HQS.out]
            exact spec_step_c P 0 w' (by decide) (by omega) (by omega)
          clear HQS
          go_region_with ((go_at_call 22; refine (HSTP.out _).mono ?_; rintro e w5 ⟨rfl, b5⟩; have H5 := H4.step b5; have f0 := H5.h0.frozen 0; have f1 := H5.h0.frozen 1; have k0' : w5.cell? ⟨g, 0, none⟩ = some (.int .i64 P.x) := H5.h0.cell 0; have k1' : w5.cell? ⟨g, 1, none⟩ = some (.int .i64 P.y) := H5.h0.cell 1))
          all_goals
            have H6 := (H5.set_ 0 (.int .i64 Q.x)).set_ 1 (.int .i64 Q.y)
            go_wp2_with fail
            go_meet
            case rel => exact ⟨trivial, H6⟩
        ·
          have HSTP : Hid (∀ w', Calls Try.prog 22 #[.agg #[.int .i64 P.x, .int .i64 P.y], .int .u8 100] w' fun e w'' => e = .returned (.tuple #[.agg #[.int .i64 Q.x, .int .i64 Q.y], .bool true]) ∧ Below w'.heap.size w' w'') := Lib.hid fun w' => by
            rw [HQS.out]
            exact spec_step_c P 1 w' (by decide) (by omega) (by omega)
          clear HQS
          go_region_with ((go_at_call 22; refine (HSTP.out _).mono ?_; rintro e w5 ⟨rfl, b5⟩; have H5 := H4.step b5; have f0 := H5.h0.frozen 0; have f1 := H5.h0.frozen 1; have k0' : w5.cell? ⟨g, 0, none⟩ = some (.int .i64 P.x) := H5.h0.cell 0; have k1' : w5.cell? ⟨g, 1, none⟩ = some (.int .i64 P.y) := H5.h0.cell 1))
          all_goals
            have H6 := (H5.set_ 0 (.int .i64 Q.x)).set_ 1 (.int .i64 Q.y)
            go_wp2_with fail
            go_meet
            case rel => exact ⟨trivial, H6⟩
        ·
          have HSTP : Hid (∀ w', Calls Try.prog 22 #[.agg #[.int .i64 P.x, .int .i64 P.y], .int .u8 108] w' fun e w'' => e = .returned (.tuple #[.agg #[.int .i64 Q.x, .int .i64 Q.y], .bool true]) ∧ Below w'.heap.size w' w'') := Lib.hid fun w' => by
            rw [HQS.out]
            exact spec_step_c P 2 w' (by decide) (by omega) (by omega)
          clear HQS
          go_region_with ((go_at_call 22; refine (HSTP.out _).mono ?_; rintro e w5 ⟨rfl, b5⟩; have H5 := H4.step b5; have f0 := H5.h0.frozen 0; have f1 := H5.h0.frozen 1; have k0' : w5.cell? ⟨g, 0, none⟩ = some (.int .i64 P.x) := H5.h0.cell 0; have k1' : w5.cell? ⟨g, 1, none⟩ = some (.int .i64 P.y) := H5.h0.cell 1))
          all_goals
            have H6 := (H5.set_ 0 (.int .i64 Q.x)).set_ 1 (.int .i64 Q.y)
            go_wp2_with fail
            go_meet
            case rel => exact ⟨trivial, H6⟩
        ·
          have HSTP : Hid (∀ w', Calls Try.prog 22 #[.agg #[.int .i64 P.x, .int .i64 P.y], .int .u8 117] w' fun e w'' => e = .returned (.tuple #[.agg #[.int .i64 Q.x, .int .i64 Q.y], .bool true]) ∧ Below w'.heap.size w' w'') := Lib.hid fun w' => by
            rw [HQS.out]
            exact spec_step_c P 3 w' (by decide) (by omega) (by omega)
          clear HQS
          go_region_with ((go_at_call 22; refine (HSTP.out _).mono ?_; rintro e w5 ⟨rfl, b5⟩; have H5 := H4.step b5; have f0 := H5.h0.frozen 0; have f1 := H5.h0.frozen 1; have k0' : w5.cell? ⟨g, 0, none⟩ = some (.int .i64 P.x) := H5.h0.cell 0; have k1' : w5.cell? ⟨g, 1, none⟩ = some (.int .i64 P.y) := H5.h0.cell 1))
          all_goals
            have H6 := (H5.set_ 0 (.int .i64 Q.x)).set_ 1 (.int .i64 Q.y)
            go_wp2_with fail
            go_meet
            case rel => exact ⟨trivial, H6⟩
      case rest =>
      obtain ⟨_, H5⟩ := hcut
      clear H4 k0 k1
      generalize hwc : wc = w5 at *
      clear hwc
      go_wp2
      go_loopw [6, 8] (fun dv tv wr => ∃ t : Nat, 3 ≤ t ∧ t ≤ 6 ∧ dv = .int .i64 (d : Nat) ∧ tv = .int .i64 t ∧ Hid (∀ u, 3 ≤ u → u < t → edge s Q ((d + u) % 4) = false) ∧ Sep w wr [Res.box g 50 #[.int .i64 Q.x, .int .i64 Q.y]]) (fun _ tv _ => 6 - (intOf tv).toNat)
      case atStart => exact ⟨3, by omega, by omega, rfl, rfl, Lib.hid (fun u h1 h2 => by omega), H5⟩
      case round =>
        clear H5
        obtain ⟨t, ht3, ht6, rfl, rfl, HNE, H⟩ := hrel
        by_cases ht : t < 6
        · obtain ⟨e, he⟩ : ∃ e, e = (d + t) % 4 := ⟨_, rfl⟩
          have he4 : e < 4 := by omega
          have m1 : ((d : Int) + (t : Int)) % 4 = (e : Int) := by omega
          have hbw := H.below
          obtain ⟨bE, hbE⟩ : ∃ bE, bE = edge s Q e := ⟨_, rfl⟩
          have HE : Hid (Calls Try.prog 23 #[.slice (some ⟨b, off, none⟩) s.length c, .agg #[.int .i64 Q.x, .int .i64 Q.y], .int .i64 (e : Int)] wr fun e' w' => e' = .returned (.bool bE) ∧ Below wr.heap.size wr w') := Lib.hid (by
            rw [hbE]
            exact spec_edge_c Q e wr ((HS.out.keep (SameIn.of_below hbw (Nat.le_refl _))).more (Nat.le_refl _) hbw.size) hl8 he4 (by omega) (by omega))
          have k0 : wr.cell? ⟨g, 0, none⟩ = some (.int .i64 Q.x) := H.h0.cell 0
          have k1 : wr.cell? ⟨g, 1, none⟩ = some (.int .i64 Q.y) := H.h0.cell 1
          have HBE := Lib.hid hbE
          have HEE := Lib.hid he
          clear hbE he hbw
          cases bE
          · have HN2 : Hid (∀ u, 3 ≤ u → u < t + 1 → edge s Q ((d + u) % 4) = false) := Lib.hid fun u h1 h2 => by
              by_cases e' : u = t
              · subst e'; rw [← HEE.out]; exact HBE.out.symm
              · exact HNE.out u h1 (by omega)
            go_wp2_with fail
            with_reducible refine (HE.out).mono ?_
            rintro e' w6 ⟨rfl, b6⟩
            have H6 := H.step b6
            clear H b6 k0 k1 HE
            go_wp2
            go_roundw
            case rel => exact ⟨t + 1, by omega, by omega, rfl, by go_num, HN2, H6⟩
            case measure => simp [intOf]; omega
          · have HO : Hid (outD s Q = e) := Lib.hid (outD_is HBI.out.bord.free he4 HBE.out.symm)
            go_wp2_with fail
            with_reducible refine (HE.out).mono ?_
            rintro e' w6 ⟨rfl, b6⟩
            have H6 := H.step b6
            clear H b6 k0 k1 HE
            go_wp2
            go_roundw
            case rel => exact ⟨n + 1, by omega, rfl, by rw [← HQE.out, HO.out, m1], by go_num, by rw [← HQE.out]; exact H6⟩
            case measure => simp [intOf]; omega
        · exfalso
          obtain rfl : t = 6 := by omega
          have h3 := HNE.out 3 (by omega) (by omega)
          have h4 := HNE.out 4 (by omega) (by omega)
          have h5 := HNE.out 5 (by omega) (by omega)
          rcases HTU.out with h | h | h
          · rw [h3] at h; cases h
          · rw [h4] at h; cases h
          · rw [h5] at h; cases h
end Go.Proofs.Ytlfeognjnlppkaa
