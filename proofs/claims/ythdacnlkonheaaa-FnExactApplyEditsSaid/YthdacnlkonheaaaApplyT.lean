
/-
  The walk of the reference's 'ApplyEdits'.
-/
import Derived.Test.YthdacnlkonheaaaApplyS
namespace Go.Proofs.Ythdacnlkonheaaa
open Go.RowKit

set_option maxRecDepth 100000 in
set_option maxHeartbeats 3200000 in
theorem spec_apply_c {v v' : Value} {r : Reg} {l : List Ed} (w : World) (h : RegRd w 0 w.heap.size v r) (h' : EdsRd w 0 w.heap.size v' l) (hn : r.rows.length ≤ 1048576) :
    Calls Try.prog 14 #[v, v'] w fun e w' => ∃ v1, e = .returned (.tuple #[v1, .bool (r.applyEds l).isSome]) ∧ RegIn w' w.heap.size w'.heap.size v1 ((r.applyEds l).getD ⟨0, []⟩) ∧ Below w.heap.size w w' := by
  obtain ⟨s, rfl, hs⟩ := h
  obtain ⟨A, c, rfl, hm, hr⟩ := id hs
  obtain ⟨B, d, rfl, hm', hr'⟩ := id h'
  unfold maxLen at hm'
  obtain ⟨R, hR⟩ : ∃ R, R = r.applyEds l := ⟨_, rfl⟩
  rw [← hR]
  have HR := Lib.hid hR
  have H := ((Sep.start w).box 28 #[.int .i64 r.w, .slice A r.rows.length c]).box 28 #[.int .i64 0, .slice none 0 0]
  simp only [World.size_alloc] at H
  clear hR hr
  go_enter Try.func14, Try.ntmps14
  go_wp2_with fail
  generalize (w.alloc (.cells #[.int .i64 r.w, .slice A r.rows.length c] 28)).alloc (.cells #[.int .i64 0, .slice none 0 0] 28) = W at *
  refine (spec_IsRegion_c (r := r) W ⟨_, rfl, (hs.keep (SameIn.of_below H.below (Nat.le_refl _))).more (Nat.le_refl _) H.size⟩).mono ?_
  rintro e w1 ⟨rfl, b1⟩
  have H1 := H.step b1
  clear b1 H
  by_cases hq : r.valid = true ∧ l.length ≤ 40
  · obtain ⟨hv, hl⟩ := hq
    have hV := Reg.valid_iff.1 hv
    have HR2 : Hid (R = r.applyTo l) := Lib.hid (by rw [HR.out, Reg.applyEds, hv]; simp [hl])
    have HV := Lib.hid hV
    have x0 := H1.h1.cell 0
    have x1 := H1.h1.cell 1
    simp at x0 x1
    rw [hv]
    have hl' : (l.length : Int) ≤ 40 := by omega
    clear hv hV HR
    go_wp2_with fail
    refine (spec_copy_c (r := r) w1 ⟨_, rfl, (hs.keep (SameIn.of_below H1.below (Nat.le_refl _))).more (Nat.le_refl _) H1.size⟩ hn).mono ?_
    rintro e w2 ⟨v2, rfl, ⟨s2, rfl, o2⟩, b2⟩
    obtain ⟨A2, c2, rfl, _, _⟩ := o2.rd
    have H2 := (H1.oiNew b2 o2).box 28 #[.int .i64 r.w, .slice A2 r.rows.length c2]
    clear b2 H1 x0 x1 o2
    go_wp2
    generalize w2.alloc (.cells #[.int .i64 r.w, .slice A2 r.rows.length c2] 28) = W2 at *
    go_loopw [7] (fun i wr => ∃ (k : Nat) (out : Reg) (A2 : Option Addr) (c2 : Nat), k ≤ l.length ∧ i = .int .i64 k ∧ Hid (r.applyTo (l.take k) = some out) ∧ Hid out.Valid ∧ Hid (out.w = r.w) ∧ Hid (out.rows.length = r.rows.length) ∧
      Sep w wr [Res.box w2.heap.size 28 #[.int .i64 r.w, .slice A2 r.rows.length c2], Res.row (.slice A2 r.rows.length c2) 3 1 r.rows.length (ic out.rows), Res.box (w.heap.size + 1) 28 #[.int .i64 0, .slice none 0 0],
        Res.box w.heap.size 28 #[.int .i64 r.w, .slice A r.rows.length c]]) (fun i _ => l.length - (intOf i).toNat)
    case atStart => exact ⟨0, r, A2, c2, Nat.zero_le _, rfl, Lib.hid rfl, HV, Lib.hid rfl, Lib.hid rfl, H2⟩
    case round =>
      clear H2
      obtain ⟨k, out, A2, c2, hk, rfl, HT, HO, HW, HL, H⟩ := hrel
      by_cases hlt : k < l.length
      · obtain ⟨b, off, e, rfl, _, hb, hla, q1, q2, q3⟩ := (hr'.keep (SameIn.of_below H.below (Nat.le_refl _))).at3 hlt
        have HLA := Lib.hid hla
        have hsz := H.size
        have hki0 : (0 : Int) ≤ (k : Int) := Int.natCast_nonneg _
        have hki1 : (k : Int) < (l.length : Int) := by omega
        clear hla hr'
        obtain ⟨ea, ex, ey⟩ := e
        simp only at q1 q2 q3
        have qw1 := (H.below.cell (p := ⟨b, off + k * 3, none⟩) hb).symm.trans q1
        have qw2 := (H.below.cell (p := ⟨b, off + k * 3 + 1, none⟩) hb).symm.trans q2
        have qw3 := (H.below.cell (p := ⟨b, off + k * 3 + 2, none⟩) hb).symm.trans q3
        have y0 := H.h0.cell 0
        have y1 := H.h0.cell 1
        simp at y0 y1
        have hrd : RegRd wr 0 wr.heap.size (.agg #[.int .i64 r.w, .slice A2 r.rows.length c2]) out := by
          refine ⟨_, by rw [HW.out], ?_⟩
          have := (H.g1.oi.sr).more (Nat.zero_le _) (Nat.le_refl _)
          rw [← HL.out] at this ⊢
          exact this
        obtain ⟨x, hx⟩ : ∃ x, x = (out.apply1 ⟨ea, ex, ey⟩).getD out := ⟨_, rfl⟩
        have hxs : x.Valid ∧ x.w = r.w ∧ x.rows.length = r.rows.length := by
          rw [hx]
          cases ha : out.apply1 ⟨ea, ex, ey⟩ with
          | none => exact ⟨HO.out, HW.out, HL.out⟩
          | some r' => have := Reg.apply1_valid HO.out ha; exact ⟨this.1, this.2.1.trans HW.out, this.2.2.trans HL.out⟩
        have hcall : ∀ W', Below wr.heap.size wr W' → Calls Try.prog 68 #[.agg #[.int .i64 r.w, .slice A2 r.rows.length c2], .agg #[.bool ea, .int .i64 ex, .int .i64 ey]] W' fun en w' => ∃ A3 c3,
            en = .returned (.tuple #[.agg #[.int .i64 r.w, .slice A3 r.rows.length c3], .bool (out.apply1 ⟨ea, ex, ey⟩).isSome]) ∧ OI w' W'.heap.size w'.heap.size 3 1 (.slice A3 r.rows.length c3) r.rows.length (ic x.rows) ∧ Below W'.heap.size W' w' := by
          intro W' hW'
          refine (spec_apply1_c (r := out) ⟨ea, ex, ey⟩ W' ((hrd.keep (SameIn.of_below hW' (Nat.le_refl _))).more (Nat.le_refl _) hW'.size) HO.out).mono ?_
          rintro en w3 ⟨v3, rfl, ⟨s3, rfl, o3⟩, b3⟩
          rw [← hx] at o3 ⊢
          obtain ⟨A3, c3, rfl, _, _⟩ := o3.rd
          have o4 : OI w3 W'.heap.size w3.heap.size 3 1 (.slice A3 x.rows.length c3) x.rows.length (ic x.rows) := o3
          rw [hxs.2.2] at o4 ⊢
          rw [hxs.2.1]
          exact ⟨A3, c3, rfl, o4, b3⟩
        have HCALL := Lib.hid hcall
        have HXS := Lib.hid hxs
        have HX := Lib.hid hx
        obtain ⟨q, hq⟩ : ∃ q, q = (out.apply1 ⟨ea, ex, ey⟩).isSome := ⟨_, rfl⟩
        have HQ := Lib.hid hq
        rw [← hq] at HCALL
        clear hcall hxs hx hq hrd
        go_wp2_with fail
        go_region_held3 (fun w' => w'.cell? ⟨w2.heap.size, 0, none⟩ = some (.int .i64 r.w) ∧ w'.cell? ⟨w2.heap.size, 1, none⟩ = some (.slice A2 r.rows.length c2) ∧ w'.cell? ⟨b, off + k * 3, none⟩ = some (.bool ea) ∧ w'.cell? ⟨b, off + k * 3 + 1, none⟩ = some (.int .i64 ex) ∧ w'.cell? ⟨b, off + k * 3 + 2, none⟩ = some (.int .i64 ey))
          (first | ((try dsimp only); refine ⟨?_, ?_, ?_, ?_, ?_⟩ <;> assumption) | go_keep)
          ((first
            | (go_at_call 68; (with_reducible refine (HCALL.out _ (below_drew (Below.refl wr.heap.size wr))).mono ?_); rintro en w3 ⟨A3, c3, rfl, o3, b3⟩; replace b3 := below_undrew b3; have H3 := H.oiNew b3 o3; have bc := bcell b3; have hwb : b < wr.heap.size := (by omega); have y0' := H3.h1.cell 0; have y1' := H3.h1.cell 1; have q1' := (bc.1 b _ hwb).trans q1; have q2' := (bc.1 b _ hwb).trans q2; have q3' := (bc.1 b _ hwb).trans q3; have n1 := H3.h1.lt; have n2 : b < w3.heap.size := (by have := b3.size; omega); clear bc; simp at y0' y1')
            | (go_at_call 68; (with_reducible refine (HCALL.out _ (below_drew ((Below.refl wr.heap.size wr).alloc (Nat.le_refl _) _))).mono ?_); rintro en w3 ⟨A3, c3, rfl, o3, b3⟩; have H3 := (H.box 28 #[.int .i64 0, .slice none 0 0]).drew.oiNew b3 o3; have bb : Below wr.heap.size wr w3 := (below_drew ((Below.refl wr.heap.size wr).alloc (Nat.le_refl _) _)).trans (b3.mono (by simp)); have bc := bcell bb; have hwb : b < wr.heap.size := (by omega); have y0' := H3.h2.cell 0; have y1' := H3.h2.cell 1; have g0' := H3.h1.cell 0; have g1' := H3.h1.cell 1; have f0' := H3.h1.frozen 0; have f1' := H3.h1.frozen 1; have q1' := (bc.1 b _ hwb).trans q1; have q2' := (bc.1 b _ hwb).trans q2; have q3' := (bc.1 b _ hwb).trans q3; have n1 := H.h0.lt; clear bc bb; simp at y0' y1' g0' g1'; have H4 := (H3.g1.set_ 0 (.int .i64 r.w)).set_ 1 (.slice A3 r.rows.length c3); have y0'' := H4.h2.cell 0; have y1'' := H4.h2.cell 1; have q1'' := (H4.below.cell (p := ⟨b, off + k * 3, none⟩) hb).trans qw1; have q2'' := (H4.below.cell (p := ⟨b, off + k * 3 + 1, none⟩) hb).trans qw2; have q3'' := (H4.below.cell (p := ⟨b, off + k * 3 + 2, none⟩) hb).trans qw3; simp at y0'' y1'')))
        · have H8 := H3.box 28 #[.int .i64 r.w, .slice A3 r.rows.length c3]
          clear y0' y1' q1' q2' q3' n1 n2 H H3 b3 o3 y0 y1 q1 q2 q3
          generalize w3.alloc (.cells #[.int .i64 r.w, .slice A3 r.rows.length c3] 28) = W8 at *
          have z0 := H8.h4.cell 0
          have z1 := H8.h4.cell 1
          have f0 := H8.h4.frozen 0
          have f1 := H8.h4.frozen 1
          have g0 := H8.h0.cell 0
          have g1 := H8.h0.cell 1
          have y0 := H8.h2.cell 0
          have y1 := H8.h2.cell 1
          have o0 := H8.h2.frozen 0
          have o1 := H8.h2.frozen 1
          simp at z0 z1 g0 g1 y0 y1
          cases q
          · have hnone : R = none := by
              rw [HR2.out]
              refine Reg.applyTo_stop HT.out HLA.out ?_
              have := HQ.out
              cases ha : out.apply1 ⟨ea, ex, ey⟩ with
              | none => rfl
              | some r' => rw [ha] at this; simp at this
            subst hnone
            clear g0 g1 y0 y1 o0 o1
            have H9 := H8.g4
            have H4 := (H9.set_ 0 (.int .i64 0)).set_ 1 (.slice none 0 0)
            have u0 := H4.h0.cell 0
            have u1 := H4.h0.cell 1
            simp at u0 u1
            go_wp2
            exact bodyPost_ret (v := .tuple #[.agg #[.int .i64 0, .slice none 0 0], .bool false]) (by simp [results, Try.results14, go_sem, u0, u1]) rfl ⟨_, rfl, ⟨_, rfl, IntsIn.nil⟩, H4.below⟩
          · have hsome : out.apply1 ⟨ea, ex, ey⟩ = some x := by
              have h1 := HQ.out
              have h2 := HX.out
              cases ha : out.apply1 ⟨ea, ex, ey⟩ with
              | none => rw [ha] at h1; simp at h1
              | some r' => rw [ha] at h2; simp at h2; rw [h2]
            have HS := Lib.hid hsome
            have H9 := ((((H8.g2.set_ 0 (.int .i64 r.w)).set_ 1 (.slice A3 r.rows.length c3)).p2).drop.g1.g2).drop
            clear hsome z0 z1 f0 f1
            go_wp2
            go_roundw
            case rel => exact ⟨k + 1, x, A3, c3, by omega, by go_num, Lib.hid (by rw [Reg.applyTo_succ HT.out HLA.out, HS.out]), Lib.hid HXS.out.1, Lib.hid HXS.out.2.1, Lib.hid HXS.out.2.2, H9⟩
            case measure => simp [intOf]; omega
        · have H8 := H4
          clear y0' y1' q1' q2' q3' n1 H H3 b3 o3 y0 y1 q1 q2 q3 H4 y0'' y1'' q1'' q2'' q3'' g0' g1' f0' f1'
          generalize (w3.setCell ⟨wr.heap.size, 0, none⟩ (.int .i64 r.w)).setCell ⟨wr.heap.size, 1, none⟩ (.slice A3 r.rows.length c3) = W8 at *
          have z0 := H8.h4.cell 0
          have z1 := H8.h4.cell 1
          have f0 := H8.h4.frozen 0
          have f1 := H8.h4.frozen 1
          have g0 := H8.h0.cell 0
          have g1 := H8.h0.cell 1
          have y0 := H8.h2.cell 0
          have y1 := H8.h2.cell 1
          have o0 := H8.h2.frozen 0
          have o1 := H8.h2.frozen 1
          simp at z0 z1 g0 g1 y0 y1
          cases q
          · have hnone : R = none := by
              rw [HR2.out]
              refine Reg.applyTo_stop HT.out HLA.out ?_
              have := HQ.out
              cases ha : out.apply1 ⟨ea, ex, ey⟩ with
              | none => rfl
              | some r' => rw [ha] at this; simp at this
            subst hnone
            clear g0 g1 y0 y1 o0 o1
            have H9 := H8.g4
            have H4 := (H9.set_ 0 (.int .i64 0)).set_ 1 (.slice none 0 0)
            have u0 := H4.h0.cell 0
            have u1 := H4.h0.cell 1
            simp at u0 u1
            go_wp2
            exact bodyPost_ret (v := .tuple #[.agg #[.int .i64 0, .slice none 0 0], .bool false]) (by simp [results, Try.results14, go_sem, u0, u1]) rfl ⟨_, rfl, ⟨_, rfl, IntsIn.nil⟩, H4.below⟩
          · have hsome : out.apply1 ⟨ea, ex, ey⟩ = some x := by
              have h1 := HQ.out
              have h2 := HX.out
              cases ha : out.apply1 ⟨ea, ex, ey⟩ with
              | none => rw [ha] at h1; simp at h1
              | some r' => rw [ha] at h2; simp at h2; rw [h2]
            have HS := Lib.hid hsome
            have H9 := ((((H8.g2.set_ 0 (.int .i64 r.w)).set_ 1 (.slice A3 r.rows.length c3)).p2).drop.g1.g2).drop
            clear hsome z0 z1 f0 f1
            go_wp2
            go_roundw
            case rel => exact ⟨k + 1, x, A3, c3, by omega, by go_num, Lib.hid (by rw [Reg.applyTo_succ HT.out HLA.out, HS.out]), Lib.hid HXS.out.1, Lib.hid HXS.out.2.1, Lib.hid HXS.out.2.2, H9⟩
            case measure => simp [intOf]; omega
      · obtain rfl : k = l.length := by omega
        have hsome : R = some out := by rw [HR2.out, ← HT.out, List.take_length]
        subst hsome
        have z0 := H.h2.cell 0
        have z1 := H.h2.cell 1
        have f0 := H.h2.frozen 0
        have f1 := H.h2.frozen 1
        have y0 := H.h0.cell 0
        have y1 := H.h0.cell 1
        simp at y0 y1 z0 z1
        have H4 := (H.g2.set_ 0 (.int .i64 r.w)).set_ 1 (.slice A2 r.rows.length c2)
        have u0 := H4.h0.cell 0
        have u1 := H4.h0.cell 1
        simp at u0 u1
        go_wp2
        refine bodyPost_ret (v := .tuple #[.agg #[.int .i64 r.w, .slice A2 r.rows.length c2], .bool true]) (by simp [results, Try.results14, go_sem, u0, u1]) rfl ⟨_, rfl, ⟨_, by rw [Option.getD_some, HW.out], ?_⟩, H4.below⟩
        have := H4.g2.oi
        rw [← HL.out] at this ⊢
        exact this
  · have hnone : R = none := by
      rw [HR.out, Reg.applyEds]
      split
      · rename_i h
        simp at h
        exact absurd h hq
      · rfl
    subst hnone
    have z0 := H1.h0.cell 0
    have z1 := H1.h0.cell 1
    have f0 := H1.h0.frozen 0
    have f1 := H1.h0.frozen 1
    simp at z0 z1
    cases hv : r.valid
    · clear hq
      have H4 := (H1.set_ 0 (.int .i64 0)).set_ 1 (.slice none 0 0)
      have u0 := H4.h0.cell 0
      have u1 := H4.h0.cell 1
      simp at u0 u1
      go_wp2
      exact bodyPost_ret (v := .tuple #[.agg #[.int .i64 0, .slice none 0 0], .bool false]) (by simp [results, Try.results14, go_sem, u0, u1]) rfl ⟨_, rfl, ⟨_, rfl, IntsIn.nil⟩, H4.below⟩
    · have hl' : ¬ (l.length : Int) ≤ 40 := by intro h; exact hq ⟨hv, by omega⟩
      clear hq
      have H4 := (H1.set_ 0 (.int .i64 0)).set_ 1 (.slice none 0 0)
      have u0 := H4.h0.cell 0
      have u1 := H4.h0.cell 1
      simp at u0 u1
      go_wp2
      exact bodyPost_ret (v := .tuple #[.agg #[.int .i64 0, .slice none 0 0], .bool false]) (by simp [results, Try.results14, go_sem, u0, u1]) rfl ⟨_, rfl, ⟨_, rfl, IntsIn.nil⟩, H4.below⟩
end Go.Proofs.Ythdacnlkonheaaa
