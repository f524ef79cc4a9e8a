
/-
  The walk of the reference's 'ApplyEdits': one edit.
-/
import Derived.Test.YthdacnlkonheaaaRegCopy
import Derived.Test.YthdacnlkonheaaaRegFlip
import Derived.Test.YthdacnlkonheaaaCwWalks
import Derived.IntWalk
import Derived.Test.YthdacnlkonheaaaLater
namespace Go.Proofs.Ythdacnlkonheaaa
open Go.RowKit

set_option maxRecDepth 100000 in
set_option maxHeartbeats 3200000 in
theorem spec_apply1_c {v : Value} {r : Reg} (e : Ed) (w : World) (h : RegRd w 0 w.heap.size v r) (hV : r.Valid) :
    Calls Try.prog 68 #[v, .agg #[.bool e.add, .int .i64 e.x, .int .i64 e.y]] w fun en w' => ∃ v1, en = .returned (.tuple #[v1, .bool (r.apply1 e).isSome]) ∧ RegIn w' w.heap.size w'.heap.size v1 ((r.apply1 e).getD r) ∧ Below w.heap.size w w' := by
  obtain ⟨s, rfl, hs⟩ := h
  obtain ⟨A, c, rfl, hm, hr⟩ := id hs
  obtain ⟨R, hR⟩ : ∃ R, R = r.apply1 e := ⟨_, rfl⟩
  rw [← hR]
  have HR := Lib.hid hR
  have HV := Lib.hid hV
  have hv1 := hV.1
  have hv2 := hV.2.1
  have hv3 := hV.2.2.1
  have hv4 := hV.2.2.2.1
  obtain ⟨ea, ex, ey⟩ := e
  simp only
  have H := (((Sep.start w).box 28 #[.int .i64 r.w, .slice A r.rows.length c]).box 89 #[.bool ea, .int .i64 ex, .int .i64 ey]).box 28 #[.int .i64 0, .slice none 0 0]
  simp only [World.size_alloc] at H
  clear hR hr hV
  go_enter Try.func68, Try.ntmps68
  go_wp2_with fail
  generalize ((w.alloc (.cells #[.int .i64 r.w, .slice A r.rows.length c] 28)).alloc (.cells #[.bool ea, .int .i64 ex, .int .i64 ey] 89)).alloc (.cells #[.int .i64 0, .slice none 0 0] 28) = W at *
  refine (spec_copy_c (r := r) W ⟨_, rfl, (hs.keep (SameIn.of_below H.below (Nat.le_refl _))).more (Nat.le_refl _) H.size⟩ (by omega)).mono ?_
  rintro en w2 ⟨v2, rfl, ⟨s2, rfl, o2⟩, b2⟩
  obtain ⟨A2, c2, rfl, _, _⟩ := o2.rd
  have H2 := (H.oiNew b2 o2).box 28 #[.int .i64 r.w, .slice A2 r.rows.length c2]
  clear b2 H o2
  go_wp2_with fail
  generalize w2.alloc (.cells #[.int .i64 r.w, .slice A2 r.rows.length c2] 28) = wa at *
  have e0 := H2.h3.cell 0
  have e1 := H2.h3.cell 1
  have e2 := H2.h3.cell 2
  have x0 := H2.h4.cell 0
  have x1 := H2.h4.cell 1
  simp at e0 e1 e2 x0 x1
  have hrd : RegRd wa 0 wa.heap.size (.agg #[.int .i64 r.w, .slice A r.rows.length c]) r := ⟨_, rfl, (hs.keep (SameIn.of_below H2.below (Nat.le_refl _))).more (Nat.le_refl _) H2.size⟩
  by_cases hx : 0 ≤ ex ∧ ex < r.w
  · by_cases hy : 0 ≤ ey ∧ ey < r.rows.length
    · obtain ⟨xn, rfl⟩ := Int.eq_ofNat_of_zero_le hx.1
      obtain ⟨yn, rfl⟩ := Int.eq_ofNat_of_zero_le hy.1
      have hxw : (xn : Int) < r.w := hx.2
      have hyl : (yn : Int) < (r.rows.length : Int) := hy.2
      have hp2 : decide ((xn : Int) ≤ r.w - 1) = true := by simp; omega
      have hpy2 : decide ((yn : Int) ≤ (r.rows.length : Int) - 1) = true := by simp; omega
      obtain ⟨q, hq⟩ : ∃ q, q = r.has xn yn := ⟨_, rfl⟩
      have HQ := Lib.hid hq
      have hvv := Reg.valid_iff.2 HV.out
      have HVV := Lib.hid hvv
      clear hq hx hy hvv
      have hw1 : IntKind.i64.wrap (r.w - 1) = r.w - 1 := IntWalk.i64_in _ (by omega)
      have hw2 : IntKind.i64.wrap ((r.rows.length : Int) - 1) = (r.rows.length : Int) - 1 := IntWalk.i64_in _ (by omega)
      go_region_held3 (fun w' => w'.cell? ⟨w.heap.size + 1, 0, none⟩ = some (.bool ea) ∧ w'.cell? ⟨w.heap.size + 1, 1, none⟩ = some (.int .i64 xn) ∧ w'.cell? ⟨w.heap.size + 1, 2, none⟩ = some (.int .i64 yn) ∧ w'.cell? ⟨w.heap.size, 0, none⟩ = some (.int .i64 r.w) ∧ w'.cell? ⟨w.heap.size, 1, none⟩ = some (.slice A r.rows.length c))
        (first | ((try dsimp only); refine ⟨?_, ?_, ?_, ?_, ?_⟩ <;> assumption) | go_keep)
        ((first
          | (go_at_call 82; (with_reducible refine (l1In_any _ _ _ _).mono ?_); rintro e w' ⟨rfl, rfl⟩)
          | (go_at_call 60; (with_reducible refine (spec_IsRegion_c (r := r) _ (by exact (hrd.keep SameIn.drew).more (Nat.le_refl _) (le_drew (Nat.le_refl _)))).mono ?_); rintro e w3 ⟨rfl, b3⟩; rw [HVV.out]; replace b3 := below_undrew b3; have H3 := H2.step b3; have hrd3 := (hrd.keep (SameIn.of_below b3 (Nat.le_refl _))).more (Nat.le_refl _) b3.size; have e0' := H3.h3.cell 0; have e1' := H3.h3.cell 1; have e2' := H3.h3.cell 2; have x0' := H3.h4.cell 0; have x1' := H3.h4.cell 1; simp at e0' e1' e2' x0' x1')
          | (go_at_call 124; (with_reducible refine (spec_has_c (r := r) _ _ _ hrd3 HV.out).mono ?_); rintro e w4 ⟨rfl, b4⟩; have H4 := H3.step b4; have e0'' := H4.h3.cell 0; have e1'' := H4.h3.cell 1; have e2'' := H4.h3.cell 2; have x0'' := H4.h4.cell 0; have x1'' := H4.h4.cell 1; simp at e0'' e1'' e2'' x0'' x1'')))
      clear e0' e1' e2' x0' x1' e0 e1 e2 x0 x1 hw1 hw2 hp2 hpy2 H2 H3 b3 b4 hrd3 hrd
      rw [← HQ.out]
      clear e0'' e1'' e2'' x0'' x1''
      cases hc : (q == ea)
      · obtain ⟨bo, oo, co, he, _, _, hbo⟩ := own_shape H4.h1 (by omega)
        injection he with he1 _ he3
        subst he1 he3
        have hyn : yn < r.rows.length := by omega
        have hrow := List.getElem?_eq_getElem hyn
        obtain ⟨ea1, hlt1⟩ := Reg.row_of HV.out hrow
        rw [ea1] at hrow
        have hp64 := Reg.two_pow_le HV.out
        have HRW := Lib.hid hrow
        have hyi0 : (0 : Int) ≤ (yn : Int) := Int.natCast_nonneg _
        clear hrow ea1
        obtain ⟨m, hmm⟩ : ∃ m, m = r.row yn := ⟨_, rfl⟩
        rw [← hmm] at hlt1
        have HM := Lib.hid hmm
        have hR1 : R = some (r.flip xn yn) := by
          rw [HR.out]
          rw [HQ.out] at hc
          simp [Reg.apply1, Reg.inn, hxw, hyn, bne, hc]
        subst hR1
        have hxor : m ^^^ 2 ^ xn = if ea = true then m + 2 ^ xn else m - 2 ^ xn := by
          rw [hmm]
          rw [HQ.out] at hc
          cases ea
          · have := Reg.flip_sub HV.out hxw hyn (by simpa using hc)
            simpa using this.1
          · have := Reg.flip_add HV.out hxw hyn (by simpa using hc)
            simpa using this
        have hle : ea = false → 2 ^ xn ≤ m := by
          intro h
          rw [hmm]
          rw [HQ.out] at hc
          subst h
          exact (Reg.flip_sub HV.out hxw hyn (by simpa using hc)).2
        have HX := Lib.hid hxor
        have HLE := Lib.hid hle
        have h64 : 2 ^ xn ≤ 64 := Nat.le_trans (Nat.pow_le_pow_right (by decide) (show xn ≤ 6 by omega)) (by decide)
        clear hmm hc hxor hle
        have y0 := H4.h0.cell 0
        have y1 := H4.h0.cell 1
        have e0 := H4.h3.cell 0
        have e1 := H4.h3.cell 1
        have e2 := H4.h3.cell 2
        have r0 := own_cell1 H4.h1 HRW.out
        rw [← HM.out] at r0
        simp at y0 y1 e0 e1 e2
        cases ea
        · skip
          go_wp2_with fail
          go_still_tail 15, (by kernel_rfl)
          change wpList _ _ _ _ _ w4.drew
          have H6 := H4.drew
          clear e0 e1 e2 y0 y1 r0 H4
          generalize w4.drew = w5 at *
          have r0 := own_cell1 H6.h1 HRW.out
          have fr := own_free H6.h1 yn
          have H7 := (H6.g1.setRow (j := yn) (by rw [ic_length]; omega) (.int .i64 (wrap64 ((m : Int) - wrap64 (2 ^ xn))))).p1
          have y0 : (w5.setCell ⟨bo, oo + yn, none⟩ (.int .i64 (wrap64 ((m : Int) - wrap64 (2 ^ xn))))).cell? ⟨w2.heap.size, 0, none⟩ = some (.int .i64 r.w) := H7.h0.cell 0
          have y1 : (w5.setCell ⟨bo, oo + yn, none⟩ (.int .i64 (wrap64 ((m : Int) - wrap64 (2 ^ xn))))).cell? ⟨w2.heap.size, 1, none⟩ = some (.slice (some ⟨bo, oo, none⟩) r.rows.length c2) := H7.h0.cell 1
          have z0 : (w5.setCell ⟨bo, oo + yn, none⟩ (.int .i64 (wrap64 ((m : Int) - wrap64 (2 ^ xn))))).cell? ⟨w.heap.size + 1 + 1, 0, none⟩ = some (.int .i64 0) := H7.h2.cell 0
          have z1 : (w5.setCell ⟨bo, oo + yn, none⟩ (.int .i64 (wrap64 ((m : Int) - wrap64 (2 ^ xn))))).cell? ⟨w.heap.size + 1 + 1, 1, none⟩ = some (.slice none 0 0) := H7.h2.cell 1
          have f0 := H7.h2.frozen 0
          have f1 := H7.h2.frozen 1
          have H8 := (H7.g2.set_ 0 (.int .i64 r.w)).set_ 1 (.slice (some ⟨bo, oo, none⟩) r.rows.length c2)
          have u0 := H8.h0.cell 0
          have u1 := H8.h0.cell 1
          simp at u0 u1
          have hval : wrap64 ((m : Int) - wrap64 (2 ^ xn)) = ((m ^^^ 2 ^ xn : Nat) : Int) := by
            have h1 : (2 : Int) ^ xn = ((2 ^ xn : Nat) : Int) := by simp
            have h2 := h64
            rw [HX.out]; have := HLE.out (by first | rfl | trivial); simp only [Bool.false_eq_true, if_false]
            rw [h1]
            clear h1
            generalize 2 ^ xn = p2 at *
            rw [IntWalk.wrap64_in (p2 : Int) ⟨by omega, by omega⟩, IntWalk.wrap64_in _ ⟨by omega, by omega⟩]
            omega
          have HVAL := Lib.hid hval
          clear hval
          go_wp2
          refine bodyPost_ret (v := .tuple #[.agg #[.int .i64 r.w, .slice (some ⟨bo, oo, none⟩) r.rows.length c2], .bool true]) (by simp [results, Try.results68, go_sem, u0, u1]) rfl ⟨_, rfl, ⟨_, rfl, ?_⟩, H8.below⟩
          have hoi := H8.g2.oi
          have hfl : (r.flip xn yn).rows = r.rows.set yn ((m ^^^ 2 ^ xn : Nat) : Int) := by rw [HM.out]; rfl
          rw [Option.getD_some]
          unfold IntsIn
          rw [Reg.flip_len, hfl, ← HVAL.out, ← ic_set]
          exact hoi
        · skip
          go_wp2_with fail
          go_still_tail 15, (by kernel_rfl)
          change wpList _ _ _ _ _ w4.drew
          have H6 := H4.drew
          clear e0 e1 e2 y0 y1 r0 H4
          generalize w4.drew = w5 at *
          have r0 := own_cell1 H6.h1 HRW.out
          have fr := own_free H6.h1 yn
          have H7 := (H6.g1.setRow (j := yn) (by rw [ic_length]; omega) (.int .i64 (wrap64 ((m : Int) + wrap64 (2 ^ xn))))).p1
          have y0 : (w5.setCell ⟨bo, oo + yn, none⟩ (.int .i64 (wrap64 ((m : Int) + wrap64 (2 ^ xn))))).cell? ⟨w2.heap.size, 0, none⟩ = some (.int .i64 r.w) := H7.h0.cell 0
          have y1 : (w5.setCell ⟨bo, oo + yn, none⟩ (.int .i64 (wrap64 ((m : Int) + wrap64 (2 ^ xn))))).cell? ⟨w2.heap.size, 1, none⟩ = some (.slice (some ⟨bo, oo, none⟩) r.rows.length c2) := H7.h0.cell 1
          have z0 : (w5.setCell ⟨bo, oo + yn, none⟩ (.int .i64 (wrap64 ((m : Int) + wrap64 (2 ^ xn))))).cell? ⟨w.heap.size + 1 + 1, 0, none⟩ = some (.int .i64 0) := H7.h2.cell 0
          have z1 : (w5.setCell ⟨bo, oo + yn, none⟩ (.int .i64 (wrap64 ((m : Int) + wrap64 (2 ^ xn))))).cell? ⟨w.heap.size + 1 + 1, 1, none⟩ = some (.slice none 0 0) := H7.h2.cell 1
          have f0 := H7.h2.frozen 0
          have f1 := H7.h2.frozen 1
          have H8 := (H7.g2.set_ 0 (.int .i64 r.w)).set_ 1 (.slice (some ⟨bo, oo, none⟩) r.rows.length c2)
          have u0 := H8.h0.cell 0
          have u1 := H8.h0.cell 1
          simp at u0 u1
          have hval : wrap64 ((m : Int) + wrap64 (2 ^ xn)) = ((m ^^^ 2 ^ xn : Nat) : Int) := by
            have h1 : (2 : Int) ^ xn = ((2 ^ xn : Nat) : Int) := by simp
            have h2 := h64
            rw [HX.out]; simp only [if_true]
            rw [h1]
            clear h1
            generalize 2 ^ xn = p2 at *
            rw [IntWalk.wrap64_in (p2 : Int) ⟨by omega, by omega⟩, IntWalk.wrap64_in _ ⟨by omega, by omega⟩]
            omega
          have HVAL := Lib.hid hval
          clear hval
          go_wp2
          refine bodyPost_ret (v := .tuple #[.agg #[.int .i64 r.w, .slice (some ⟨bo, oo, none⟩) r.rows.length c2], .bool true]) (by simp [results, Try.results68, go_sem, u0, u1]) rfl ⟨_, rfl, ⟨_, rfl, ?_⟩, H8.below⟩
          have hoi := H8.g2.oi
          have hfl : (r.flip xn yn).rows = r.rows.set yn ((m ^^^ 2 ^ xn : Nat) : Int) := by rw [HM.out]; rfl
          rw [Option.getD_some]
          unfold IntsIn
          rw [Reg.flip_len, hfl, ← HVAL.out, ← ic_set]
          exact hoi
      · have hR0 : R = none := by
          rw [HR.out]
          rw [HQ.out] at hc
          simp at hc
          simp [Reg.apply1, hc]
        subst hR0
        clear hc
        have z0 := H4.h2.cell 0
        have z1 := H4.h2.cell 1
        have y0 := H4.h0.cell 0
        have y1 := H4.h0.cell 1
        have f0 := H4.h2.frozen 0
        have f1 := H4.h2.frozen 1
        simp at z0 z1 y0 y1
        have H6 := ((H4.g2.set_ 0 (.int .i64 r.w)).set_ 1 (.slice A2 r.rows.length c2))
        have u0 := H6.h0.cell 0
        have u1 := H6.h0.cell 1
        simp at u0 u1
        go_wp2
        refine bodyPost_ret (v := .tuple #[.agg #[.int .i64 r.w, .slice A2 r.rows.length c2], .bool false]) (by simp [results, Try.results68, go_sem, u0, u1]) rfl ⟨_, rfl, ⟨_, rfl, ?_⟩, H6.below⟩
        exact H6.g2.oi
    · have hR0 : R = none := by
        rw [HR.out]
        simp [Reg.apply1, Reg.inn]
        intro h1 h2 h3 h4
        exact absurd ⟨h3, by omega⟩ hy
      subst hR0
      have hvv := Reg.valid_iff.2 HV.out
      have HVV := Lib.hid hvv
      have hp := inR_t (a := ex) (b := 0) (c := r.w - 1) hx.1 (by omega)
      have hpy := inR_f (a := ey) (b := 0) (c := (r.rows.length : Int) - 1) (by omega)
      have hw1 : IntKind.i64.wrap (r.w - 1) = r.w - 1 := IntWalk.i64_in _ (by omega)
      have hw2 : IntKind.i64.wrap ((r.rows.length : Int) - 1) = (r.rows.length : Int) - 1 := IntWalk.i64_in _ (by omega)
      clear hvv hx hy
      have l1 := Later.cell e1 (by have := H2.h3.lt; simpa using this)
      have l2 := Later.cell e2 (by have := H2.h3.lt; simpa using this)
      have l3 := Later.cell x0 (by have := H2.h4.lt; simpa using this)
      have l4 := Later.cell x1 (by have := H2.h4.lt; simpa using this)
      have hir : ∀ u : Later wa, Calls Try.prog 60 #[.agg #[.int .i64 r.w, .slice A r.rows.length c]] u.w fun e w' => e = .returned (.bool true) ∧ Below u.w.heap.size u.w w' := by
        intro u
        have := spec_IsRegion_c (r := r) u.w (Later.reg hrd)
        rw [HVV.out] at this
        exact this
      have HIR := Lib.hid hir
      clear hir
      refine wp_region_later (by kernel_rfl) (by kernel_rfl) ?_
      repeat (go_big_quiet_step ((first
        | (go_at_call 82; exact Later.same (l1In_r _ _ _ _))
        | (go_at_call 60; exact Later.call (HIR.out _)))))
      refine wpQuiet_nil ?_
      intro w3 hw3
      obtain ⟨u3, hu3⟩ := hw3
      subst hu3
      have H3 := H2.step u3.h
      clear e0 e1 e2 x0 x1 l1 l2 l3 l4 H2 hrd
      generalize u3.w = w3 at *
      have z0 := H3.h2.cell 0
      have z1 := H3.h2.cell 1
      have y0 := H3.h0.cell 0
      have y1 := H3.h0.cell 1
      have f0 := H3.h2.frozen 0
      have f1 := H3.h2.frozen 1
      simp at z0 z1 y0 y1
      have H6 := ((H3.g2.set_ 0 (.int .i64 r.w)).set_ 1 (.slice A2 r.rows.length c2))
      have u0 := H6.h0.cell 0
      have u1 := H6.h0.cell 1
      simp at u0 u1
      go_wp2
      refine bodyPost_ret (v := .tuple #[.agg #[.int .i64 r.w, .slice A2 r.rows.length c2], .bool false]) (by simp [results, Try.results68, go_sem, u0, u1]) rfl ⟨_, rfl, ⟨_, rfl, ?_⟩, H6.below⟩
      exact H6.g2.oi
  · have hR0 : R = none := by
      rw [HR.out]
      simp [Reg.apply1, Reg.inn]
      intro h1 h2 h3 h4
      exact absurd ⟨h1, h2⟩ hx
    subst hR0
    have hvv := Reg.valid_iff.2 HV.out
    have HVV := Lib.hid hvv
    have hp := inR_f (a := ex) (b := 0) (c := r.w - 1) (by omega)
    have hw1 : IntKind.i64.wrap (r.w - 1) = r.w - 1 := IntWalk.i64_in _ (by omega)
    clear hvv hx
    have l1 := Later.cell e1 (by have := H2.h3.lt; simpa using this)
    have l2 := Later.cell e2 (by have := H2.h3.lt; simpa using this)
    have l3 := Later.cell x0 (by have := H2.h4.lt; simpa using this)
    have l4 := Later.cell x1 (by have := H2.h4.lt; simpa using this)
    have hir : ∀ u : Later wa, Calls Try.prog 60 #[.agg #[.int .i64 r.w, .slice A r.rows.length c]] u.w fun e w' => e = .returned (.bool true) ∧ Below u.w.heap.size u.w w' := by
      intro u
      have := spec_IsRegion_c (r := r) u.w (Later.reg hrd)
      rw [HVV.out] at this
      exact this
    have HIR := Lib.hid hir
    clear hir
    refine wp_region_later (by kernel_rfl) (by kernel_rfl) ?_
    repeat (go_big_quiet_step ((first
      | (go_at_call 82; exact Later.same (l1In_r _ _ _ _))
      | (go_at_call 60; exact Later.call (HIR.out _)))))
    refine wpQuiet_nil ?_
    intro w3 hw3
    obtain ⟨u3, hu3⟩ := hw3
    subst hu3
    have H3 := H2.step u3.h
    clear e0 e1 e2 x0 x1 l1 l2 l3 l4 H2 hrd
    generalize u3.w = w3 at *
    have z0 := H3.h2.cell 0
    have z1 := H3.h2.cell 1
    have y0 := H3.h0.cell 0
    have y1 := H3.h0.cell 1
    have f0 := H3.h2.frozen 0
    have f1 := H3.h2.frozen 1
    simp at z0 z1 y0 y1
    have H6 := ((H3.g2.set_ 0 (.int .i64 r.w)).set_ 1 (.slice A2 r.rows.length c2))
    have u0 := H6.h0.cell 0
    have u1 := H6.h0.cell 1
    simp at u0 u1
    go_wp2
    refine bodyPost_ret (v := .tuple #[.agg #[.int .i64 r.w, .slice A2 r.rows.length c2], .bool false]) (by simp [results, Try.results68, go_sem, u0, u1]) rfl ⟨_, rfl, ⟨_, rfl, ?_⟩, H6.below⟩
    exact H6.g2.oi
end Go.Proofs.Ythdacnlkonheaaa
