
/-
  The walk of the program's 'ApplyEdits'.
-/
import Derived.Test.YthdacnlkonheaaaRegCopy
import Derived.Test.YthdacnlkonheaaaRegFlip
import Derived.Test.YthdacnlkonheaaaCwWalks
import Derived.IntWalk
namespace Go.Proofs.Ythdacnlkonheaaa
open Go.RowKit

set_option maxRecDepth 100000 in
theorem between_t (a lo hi : Int) (w : World) (h : (decide (lo ≤ a) && decide (a ≤ hi)) = true) : Calls Try.prog 73 #[.int .i64 a, .int .i64 lo, .int .i64 hi] w fun e w' => e = .returned (.bool true) ∧ w' = w :=
  (between_any a lo hi w).mono fun e w' ⟨h1, h2⟩ => ⟨by rw [h1, h], h2.symm⟩
set_option maxRecDepth 100000 in
theorem between_f (a lo hi : Int) (w : World) (h : (decide (lo ≤ a) && decide (a ≤ hi)) = false) : Calls Try.prog 73 #[.int .i64 a, .int .i64 lo, .int .i64 hi] w fun e w' => e = .returned (.bool false) ∧ w' = w :=
  (between_any a lo hi w).mono fun e w' ⟨h1, h2⟩ => ⟨by rw [h1, h], h2.symm⟩

set_option maxRecDepth 100000 in
set_option maxHeartbeats 3200000 in
theorem impl_apply_c {v v' : Value} {r : Reg} {l : List Ed} (w : World) (h : RegRd w 0 w.heap.size v r) (h' : EdsRd w 0 w.heap.size v' l) (hn : r.rows.length ≤ 1048576) :
    Calls Try.prog 17 #[v, v'] w fun e w' => ∃ v1, e = .returned (.tuple #[v1, .bool (r.applyEds l).isSome]) ∧ RegIn w' w.heap.size w'.heap.size v1 ((r.applyEds l).getD ⟨0, []⟩) ∧ Below w.heap.size w w' := by
  obtain ⟨s, rfl, hs⟩ := h
  obtain ⟨A, c, rfl, hm, hr⟩ := id hs
  obtain ⟨B, d, rfl, hm', hr'⟩ := id h'
  unfold maxLen at hm'
  obtain ⟨R, hR⟩ : ∃ R, R = r.applyEds l := ⟨_, rfl⟩
  rw [← hR]
  have HR := Lib.hid hR
  have H := ((Sep.start w).box 28 #[.int .i64 r.w, .slice A r.rows.length c]).box 28 #[.int .i64 0, .slice none 0 0]
  simp only [World.size_alloc] at H
  clear hR hr
  go_enter Try.func17, Try.ntmps17
  go_wp2_with fail
  generalize (w.alloc (.cells #[.int .i64 r.w, .slice A r.rows.length c] 28)).alloc (.cells #[.int .i64 0, .slice none 0 0] 28) = W at *
  refine (impl_IsRegion_c (r := r) W ⟨_, rfl, (hs.keep (SameIn.of_below H.below (Nat.le_refl _))).more (Nat.le_refl _) H.size⟩).mono ?_
  rintro e w1 ⟨rfl, b1⟩
  have H1 := H.step b1
  clear b1 H
  by_cases hq : r.valid = true ∧ l.length ≤ 40
  · obtain ⟨hv, hl⟩ := hq
    have hV := Reg.valid_iff.1 hv
    have HR2 : Hid (R = r.applyTo l) := Lib.hid (by rw [HR.out, Reg.applyEds, hv]; simp [hl])
    have HV := Lib.hid hV
    have x0 := H1.h1.cell 0
    have x1 := H1.h1.cell 1
    simp at x0 x1
    rw [hv]
    have hl' : (l.length : Int) ≤ 40 := by omega
    clear hv hV HR
    go_wp2_with fail
    refine (impl_copyRegion_c (r := r) w1 ⟨_, rfl, (hs.keep (SameIn.of_below H1.below (Nat.le_refl _))).more (Nat.le_refl _) H1.size⟩ hn).mono ?_
    rintro e w2 ⟨v2, rfl, ⟨s2, rfl, o2⟩, b2⟩
    obtain ⟨A2, c2, rfl, _, _⟩ := o2.rd
    have H2 := (H1.oiNew b2 o2).box 28 #[.int .i64 r.w, .slice A2 r.rows.length c2]
    clear b2 H1 x0 x1 o2
    go_wp2
    generalize w2.alloc (.cells #[.int .i64 r.w, .slice A2 r.rows.length c2] 28) = W2 at *
    go_loopw [22] (fun i wr => ∃ (k : Nat) (out : Reg), k ≤ l.length ∧ i = .int .i64 k ∧ Hid (r.applyTo (l.take k) = some out) ∧ Hid out.Valid ∧ Hid (out.w = r.w) ∧ Hid (out.rows.length = r.rows.length) ∧
      Sep w wr [Res.box w2.heap.size 28 #[.int .i64 r.w, .slice A2 r.rows.length c2], Res.row (.slice A2 r.rows.length c2) 3 1 r.rows.length (ic out.rows), Res.box (w.heap.size + 1) 28 #[.int .i64 0, .slice none 0 0],
        Res.box w.heap.size 28 #[.int .i64 r.w, .slice A r.rows.length c]]) (fun i _ => l.length - (intOf i).toNat)
    case atStart => exact ⟨0, r, Nat.zero_le _, rfl, Lib.hid rfl, HV, Lib.hid rfl, Lib.hid rfl, H2⟩
    case round =>
      clear H2
      obtain ⟨k, out, hk, rfl, HT, HO, HW, HL, H⟩ := hrel
      by_cases hlt : k < l.length
      · obtain ⟨b, off, e, rfl, _, hb, hla, q1, q2, q3⟩ := (hr'.keep (SameIn.of_below H.below (Nat.le_refl _))).at3 hlt
        have HLA := Lib.hid hla
        have hv1 := HV.out.1
        have hv2 := HV.out.2.1
        have hv3 := HV.out.2.2.1
        have hv4 := HV.out.2.2.2.1
        have hsz := H.size
        clear hla hr'
        obtain ⟨ea, ex, ey⟩ := e
        simp only at q1 q2 q3
        go_wp2_with fail
        have H3 := H.box 89 #[.bool ea, .int .i64 ex, .int .i64 ey]
        clear H q1 q2 q3
        generalize wr.alloc (.cells #[.bool ea, .int .i64 ex, .int .i64 ey] 89) = wa at *
        have e0 := H3.h0.cell 0
        have e1 := H3.h0.cell 1
        have e2 := H3.h0.cell 2
        have x0 := H3.h4.cell 0
        have x1 := H3.h4.cell 1
        have y0 := H3.h1.cell 0
        have y1 := H3.h1.cell 1
        have z0 := H3.h3.cell 0
        have z1 := H3.h3.cell 1
        have f0 := H3.h3.frozen 0
        have f1 := H3.h3.frozen 1
        simp at e0 e1 e2 x0 x1 y0 y1 z0 z1
        by_cases hx : 0 ≤ ex ∧ ex < r.w
        · have hp : (decide ((0 : Int) ≤ ex) && decide (ex ≤ r.w - 1)) = true := by simp; omega
          by_cases hy : 0 ≤ ey ∧ ey < r.rows.length
          · obtain ⟨xn, rfl⟩ := Int.eq_ofNat_of_zero_le hx.1
            obtain ⟨yn, rfl⟩ := Int.eq_ofNat_of_zero_le hy.1
            have hxw : (xn : Int) < r.w := hx.2
            have hyl : (yn : Int) < (r.rows.length : Int) := hy.2
            have hp2 : decide ((xn : Int) ≤ r.w - 1) = true := by simp; omega
            have hpy2 : decide ((yn : Int) ≤ (r.rows.length : Int) - 1) = true := by simp; omega
            have hrd : RegRd wa 0 wa.heap.size (.agg #[.int .i64 r.w, .slice A2 r.rows.length c2]) out := by
              refine ⟨_, by rw [HW.out], ?_⟩
              have := (H3.g2.oi.sr).more (Nat.zero_le _) (Nat.le_refl _)
              rw [← HL.out] at this ⊢
              exact this
            obtain ⟨q, hq⟩ : ∃ q, q = out.has xn yn := ⟨_, rfl⟩
            have HQ := Lib.hid hq
            clear hq hp hx hy h'
            have hw1 : IntKind.i64.wrap (r.w - 1) = r.w - 1 := IntWalk.i64_in _ (by omega)
            have hw2 : IntKind.i64.wrap ((r.rows.length : Int) - 1) = (r.rows.length : Int) - 1 := IntWalk.i64_in _ (by omega)
            go_region_held3 (fun w' => w'.cell? ⟨wr.heap.size, 0, none⟩ = some (.bool ea) ∧ w'.cell? ⟨wr.heap.size, 1, none⟩ = some (.int .i64 xn) ∧ w'.cell? ⟨wr.heap.size, 2, none⟩ = some (.int .i64 yn) ∧ w'.cell? ⟨w.heap.size, 0, none⟩ = some (.int .i64 r.w) ∧ w'.cell? ⟨w.heap.size, 1, none⟩ = some (.slice A r.rows.length c) ∧ w'.cell? ⟨w2.heap.size, 0, none⟩ = some (.int .i64 r.w) ∧ w'.cell? ⟨w2.heap.size, 1, none⟩ = some (.slice A2 r.rows.length c2))
              (first | ((try dsimp only); refine ⟨?_, ?_, ?_, ?_, ?_, ?_, ?_⟩ <;> assumption) | go_keep)
              ((first
                | (go_at_call 73; (with_reducible refine (between_any _ _ _ _).mono ?_); rintro e w' ⟨rfl, rfl⟩)
                | (go_at_call 74; (with_reducible refine (impl_has_c (r := out) _ _ _ (by exact (hrd.keep SameIn.drew).more (Nat.le_refl _) (le_drew (Nat.le_refl _))) HO.out).mono ?_); rintro e w3 ⟨rfl, b3⟩; replace b3 := below_undrew b3; have H5 := H3.step b3; have e0' := H5.h0.cell 0; have e1' := H5.h0.cell 1; have e2' := H5.h0.cell 2; have x0' := H5.h4.cell 0; have x1' := H5.h4.cell 1; have y0' := H5.h1.cell 0; have y1' := H5.h1.cell 1; simp at e0' e1' e2' x0' x1' y0' y1')))
            clear e0 e1 e2 x0 x1 y0 y1 z0 z1 f0 f1 H3 b3 hrd hw1 hw2 hp2 hpy2
            rw [← HQ.out]
            cases hc : (q == ea)
            · obtain ⟨bo, oo, co, he, _, _, hbo⟩ := own_shape H5.h2 (by omega)
              injection he with he1 _ he3
              subst he1 he3
              have hyn : yn < out.rows.length := by rw [HL.out]; omega
              have hrow := List.getElem?_eq_getElem hyn
              obtain ⟨ea1, hlt1⟩ := Reg.row_of HO.out hrow
              rw [ea1] at hrow
              have hp64 := Reg.two_pow_le HO.out
              have r0 := own_cell1 H5.h2 hrow
              have fr := own_free H5.h2 yn
              have HRW := Lib.hid hrow
              have hyi0 : (0 : Int) ≤ (yn : Int) := Int.natCast_nonneg _
              clear hrow ea1
              obtain ⟨m, hmm⟩ : ∃ m, m = out.row yn := ⟨_, rfl⟩
              rw [← hmm] at r0 hlt1
              have HM := Lib.hid hmm
              have HC := Lib.hid hc
              clear hmm hc
              go_wp2_with fail
              go_still_tail 11, (by kernel_rfl)
              change wpList _ _ _ _ _ w3.drew
              have H6 := H5.drew
              clear e0' e1' e2' x0' x1' y0' y1' r0 fr H5
              generalize w3.drew = w4 at *
              have r0 := own_cell1 H6.h2 HRW.out
              have fr := own_free H6.h2 yn
              go_wp2
              go_roundw
              case rel =>
                have hx6 : xn < 6 := by omega
                have hval : bits .xor .i64 (m : Int) (wrap64 (2 ^ xn)) = ((m ^^^ 2 ^ xn : Nat) : Int) := by
                  have h1 : (2 : Int) ^ xn = ((2 ^ xn : Nat) : Int) := by simp
                  have h2 : 2 ^ xn ≤ 64 := Nat.le_trans (Nat.pow_le_pow_right (by decide) (show xn ≤ 6 by omega)) (by decide)
                  rw [h1]
                  clear h1
                  generalize 2 ^ xn = p2 at h2 ⊢
                  rw [IntWalk.wrap64_in _ ⟨by omega, by omega⟩, i64_xor_nat m _ (by omega) (by omega)]
                have H7 := ((H6.g2.setRow (j := yn) (by rw [ic_length, HL.out]; omega) (.int .i64 (bits .xor .i64 (m : Int) (wrap64 (2 ^ xn))))).p2).drop
                rw [ic_set, hval] at H7
                rw [hval]
                have ha : out.apply1 ⟨ea, (xn : Int), (yn : Int)⟩ = some (out.flip xn yn) := by
                  have hc := HC.out
                  rw [HQ.out] at hc
                  have hw : (xn : Int) < out.w := by rw [HW.out]; exact hxw
                  simp [Reg.apply1, Reg.inn, hw, hyn, bne, hc]
                exact ⟨k + 1, out.flip xn yn, by omega, by go_num, Lib.hid (by rw [Reg.applyTo_succ HT.out HLA.out, ha]), Lib.hid (Reg.flip_valid HO.out (by rw [HW.out]; exact hxw)), Lib.hid HW.out, Lib.hid (by rw [Reg.flip_len]; exact HL.out), by rw [HM.out] at H7 ⊢; exact H7⟩
              case measure => simp [intOf]; omega
            · have hnone : R = none := by rw [HR2.out]; exact Reg.applyTo_stop HT.out HLA.out (by rw [HQ.out] at hc; simp at hc; simp [Reg.apply1, hc])
              subst hnone
              have z0 := H5.h3.cell 0
              have z1 := H5.h3.cell 1
              have f0 := H5.h3.frozen 0
              have f1 := H5.h3.frozen 1
              simp at z0 z1
              clear e0' e1' e2' x0' x1' y0' y1'
              have H6 := H5.g3
              have H4 := (H6.set_ 0 (.int .i64 0)).set_ 1 (.slice none 0 0)
              have u0 := H4.h0.cell 0
              have u1 := H4.h0.cell 1
              simp at u0 u1
              go_wp2
              exact bodyPost_ret (v := .tuple #[.agg #[.int .i64 0, .slice none 0 0], .bool false]) (by simp [results, Try.results17, go_sem, u0, u1]) rfl ⟨_, rfl, ⟨_, rfl, IntsIn.nil⟩, H4.below⟩
          · have hpy : (decide ((0 : Int) ≤ ey) && decide (ey ≤ (r.rows.length : Int) - 1)) = false := by simp; omega
            have hnone : R = none := by rw [HR2.out]; exact Reg.applyTo_stop HT.out HLA.out (by simp [Reg.apply1, Reg.inn]; intro h1 h2 h3 h4; exact absurd ⟨h3, by rw [← HL.out]; exact h4⟩ hy)
            subst hnone
            go_quiet ((first | (go_at_call 73; exact Calls.quiet_of_same (between_t _ _ _ _ hp)) | (go_at_call 73; exact Calls.quiet_of_same (between_f _ _ _ _ hpy))))
            have Hq := (H3.drewN nq).g3
            clear e0 e1 e2 x0 x1 y0 y1 z0 z1 f0 f1 H3
            generalize wa.drewN nq = wb at *
            have z0 := Hq.h0.cell 0
            have z1 := Hq.h0.cell 1
            have f0 := Hq.h0.frozen 0
            have f1 := Hq.h0.frozen 1
            simp at z0 z1
            have H4 := (Hq.set_ 0 (.int .i64 0)).set_ 1 (.slice none 0 0)
            have u0 := H4.h0.cell 0
            have u1 := H4.h0.cell 1
            simp at u0 u1
            go_wp2
            exact bodyPost_ret (v := .tuple #[.agg #[.int .i64 0, .slice none 0 0], .bool false]) (by simp [results, Try.results17, go_sem, u0, u1]) rfl ⟨_, rfl, ⟨_, rfl, IntsIn.nil⟩, H4.below⟩
        · have hp : (decide ((0 : Int) ≤ ex) && decide (ex ≤ r.w - 1)) = false := by simp; omega
          have hnone : R = none := by rw [HR2.out]; exact Reg.applyTo_stop HT.out HLA.out (by simp [Reg.apply1, Reg.inn]; intro h1 h2; exact absurd ⟨h1, by rw [← HW.out]; exact h2⟩ hx)
          subst hnone
          go_quiet ((go_at_call 73; exact Calls.quiet_of_same (between_f _ _ _ _ hp)))
          have Hq := (H3.drewN nq).g3
          clear e0 e1 e2 x0 x1 y0 y1 z0 z1 f0 f1 H3
          generalize wa.drewN nq = wb at *
          have z0 := Hq.h0.cell 0
          have z1 := Hq.h0.cell 1
          have f0 := Hq.h0.frozen 0
          have f1 := Hq.h0.frozen 1
          simp at z0 z1
          have H4 := (Hq.set_ 0 (.int .i64 0)).set_ 1 (.slice none 0 0)
          have u0 := H4.h0.cell 0
          have u1 := H4.h0.cell 1
          simp at u0 u1
          go_wp2
          exact bodyPost_ret (v := .tuple #[.agg #[.int .i64 0, .slice none 0 0], .bool false]) (by simp [results, Try.results17, go_sem, u0, u1]) rfl ⟨_, rfl, ⟨_, rfl, IntsIn.nil⟩, H4.below⟩
      · obtain rfl : k = l.length := by omega
        have hsome : R = some out := by rw [HR2.out, ← HT.out, List.take_length]
        subst hsome
        have z0 := H.h2.cell 0
        have z1 := H.h2.cell 1
        have f0 := H.h2.frozen 0
        have f1 := H.h2.frozen 1
        have y0 := H.h0.cell 0
        have y1 := H.h0.cell 1
        simp at y0 y1 z0 z1
        have H4 := (H.g2.set_ 0 (.int .i64 r.w)).set_ 1 (.slice A2 r.rows.length c2)
        have u0 := H4.h0.cell 0
        have u1 := H4.h0.cell 1
        simp at u0 u1
        go_wp2
        refine bodyPost_ret (v := .tuple #[.agg #[.int .i64 r.w, .slice A2 r.rows.length c2], .bool true]) (by simp [results, Try.results17, go_sem, u0, u1]) rfl ⟨_, rfl, ⟨_, by rw [Option.getD_some, HW.out], ?_⟩, H4.below⟩
        have := H4.g2.oi
        rw [← HL.out] at this ⊢
        exact this
  · have hnone : R = none := by
      rw [HR.out, Reg.applyEds]
      split
      · rename_i h
        simp at h
        exact absurd h hq
      · rfl
    subst hnone
    have z0 := H1.h0.cell 0
    have z1 := H1.h0.cell 1
    have f0 := H1.h0.frozen 0
    have f1 := H1.h0.frozen 1
    simp at z0 z1
    cases hv : r.valid
    · clear hq
      have H4 := (H1.set_ 0 (.int .i64 0)).set_ 1 (.slice none 0 0)
      have u0 := H4.h0.cell 0
      have u1 := H4.h0.cell 1
      simp at u0 u1
      go_wp2
      exact bodyPost_ret (v := .tuple #[.agg #[.int .i64 0, .slice none 0 0], .bool false]) (by simp [results, Try.results17, go_sem, u0, u1]) rfl ⟨_, rfl, ⟨_, rfl, IntsIn.nil⟩, H4.below⟩
    · have hl' : ¬ (l.length : Int) ≤ 40 := by intro h; exact hq ⟨hv, by omega⟩
      clear hq
      have H4 := (H1.set_ 0 (.int .i64 0)).set_ 1 (.slice none 0 0)
      have u0 := H4.h0.cell 0
      have u1 := H4.h0.cell 1
      simp at u0 u1
      go_wp2
      exact bodyPost_ret (v := .tuple #[.agg #[.int .i64 0, .slice none 0 0], .bool false]) (by simp [results, Try.results17, go_sem, u0, u1]) rfl ⟨_, rfl, ⟨_, rfl, IntsIn.nil⟩, H4.below⟩
end Go.Proofs.Ythdacnlkonheaaa
