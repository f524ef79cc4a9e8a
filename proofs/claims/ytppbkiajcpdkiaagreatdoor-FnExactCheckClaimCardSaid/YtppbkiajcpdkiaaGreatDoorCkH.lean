
/-
  CheckClaim: both walks. The law FnExactCheckClaim, walked by contracts.
-/
import Derived.Test.YtppbkiajcpdkiaaGreatDoorCkG
import Derived.Test.YtppbkiajcpdkiaaGreatDoorCkA
import Derived.Test.YtppbkiajcpdkiaaGreatDoorCkB
import Derived.Test.YtppbkiajcpdkiaaGreatDoorCkC
import Derived.Test.YtppbkiajcpdkiaaGreatDoorCkD
import Derived.Test.YtppbkiajcpdkiaaGreatDoorCkE
import Derived.Test.YtppbkiajcpdkiaaGreatDoorCkF
import Derived.Deep.DeepCutAuto
namespace Go.Proofs.YtppbkiajcpdkiaaGreatDoor
open Go.RowKit

/-- is a claim true? -/
def chkB (a : Clm) : Bool :=
  if a.kind = 1 then tlgB a.reg a.pieces a.masks
  else if a.kind = 2 then isRf a.reg a.pieces a.text.data.toList
  else if a.kind = 3 then wpfB a.reg a.pieces a.prime a.weights
  else if a.kind = 4 then pkgB a.reg a.pieces a.masks && (blkgB a.reg a.pieces a.mask && decide ((cntB a.mask.toNat : Int) = (a.masks.length : Int)))
  else if a.kind = 5 then perB a.wang a.width a.height a.masks
  else if a.kind = 6 then solB a.reg a.pieces a.masks && decide (cnsN a.reg a.pieces = 1)
  else false
theorem blkg_mask {r : Reg} {ps : List (List Cell)} {m : Int} (h : blkgB r ps m = true) : ∃ k : Nat, m = (k : Int) ∧ k < 2 ^ 36 := by
  unfold blkgB at h
  rw [Bool.and_eq_true, Bool.and_eq_true, Bool.and_eq_true] at h
  obtain ⟨k, h1, h2, _⟩ := isMask_nat (Reg.valid_iff.1 h.1.1) h.2.1
  exact ⟨k, h1, h2⟩
set_option maxRecDepth 100000 in
set_option maxHeartbeats 6400000 in
theorem impl_check_c {v : Value} {a : Clm} (w : World) (h : ClmRd w 0 w.heap.size v a) (hz : SzOk a) (hm64 : I64 a.mask) (hcap : CapC v) (ht : Tab64 w) :
    Calls Tryz.prog 26 #[v] w fun e w' => e = .returned (.bool (chkB a)) ∧ Below w.heap.size w w' := by
  obtain ⟨ak, ar, aps, ams, at', ap, aws, am, awg, awd, ahh⟩ := a
  obtain ⟨T, hT⟩ : ∃ T, T = chkB ⟨ak, ar, aps, ams, at', ap, aws, am, awg, awd, ahh⟩ := ⟨_, rfl⟩
  rw [← hT]
  have HT := Lib.hid hT
  obtain ⟨z1, z2, z3, z4, z5, z6⟩ := hz
  obtain ⟨s1, s2, s3, s4, s5, rfl, g1, g2, g3, g4, g5⟩ := h
  simp only at z1 z2 z3 z4 z5 z6 hm64 g1 g2 g3 g4 g5
  have HRG : Hid (∀ w1, Below w.heap.size w w1 → RegRd w1 0 w1.heap.size (.agg #[.int .i64 ar.w, s1]) ar) := Lib.hid fun w1 b1 => ⟨_, rfl, (g1.keep (SameIn.of_below b1 (Nat.le_refl _))).more (Nat.le_refl _) b1.size⟩
  have HPS : Hid (∀ w1, Below w.heap.size w w1 → CellSSRd w1 0 w1.heap.size s2 aps) := Lib.hid fun w1 b1 => (g2.keep (SameIn.of_below b1 (Nat.le_refl _))).more (Nat.le_refl _) b1.size
  have HMS : Hid (∀ w1, Below w.heap.size w w1 → IntsRd w1 0 w1.heap.size s3 ams) := Lib.hid fun w1 b1 => (g3.keep (SameIn.of_below b1 (Nat.le_refl _))).more (Nat.le_refl _) b1.size
  have HWS : Hid (∀ w1, Below w.heap.size w w1 → IntsRd w1 0 w1.heap.size s4 aws) := Lib.hid fun w1 b1 => (g4.keep (SameIn.of_below b1 (Nat.le_refl _))).more (Nat.le_refl _) b1.size
  have HWG : Hid (∀ w1, Below w.heap.size w w1 → WangsRd w1 0 w1.heap.size s5 awg) := Lib.hid fun w1 b1 => (g5.keep (SameIn.of_below b1 (Nat.le_refl _))).more (Nat.le_refl _) b1.size
  have HTB : Hid (∀ w1, Below w.heap.size w w1 → Tab64 w1) := Lib.hid fun w1 b1 => tab64_on ht b1
  obtain ⟨A1, c1, rfl, _, _⟩ := id g1
  obtain ⟨vs, ⟨A2, c2, rfl, _, _⟩, _⟩ := id g2
  obtain ⟨A3, c3, rfl, _, _⟩ := id g3
  obtain ⟨A4, c4, rfl, _, _⟩ := id g4
  obtain ⟨A5, c5, rfl, _, _⟩ := id g5
  have HCAP : Hid (ams.length ≤ c3) := Lib.hid (hcap _ A3 _ c3 rfl rfl)
  have HZ := Lib.hid (⟨z2, z3⟩ : aps.length ≤ 1048576 ∧ ∀ u ∈ aps, u.length ≤ 1048576)
  have HM64 := Lib.hid hm64
  unfold clmV
  have H0 := (Sep.start w).box 54 #[.int .i64 ak, .int .i64 ar.w, .slice A1 ar.rows.length c1, .slice A2 aps.length c2, .slice A3 ams.length c3, .string at', .int .i64 ap, .slice A4 aws.length c4, .int .i64 am, .slice A5 awg.length c5, .int .i64 awd, .int .i64 ahh]
  obtain ⟨g, hg⟩ : ∃ g, g = w.heap.size := ⟨_, rfl⟩
  rw [← hg] at H0
  clear hT hcap g1 g2 g3 g4 g5 z1 z2 z3 z5 z6 hm64 ht
  go_enter Tryz.func26, Tryz.ntmps26
  go_upto_region 1 with fail
  rw [← hg]
  generalize (w.alloc (.cells #[.int .i64 ak, .int .i64 ar.w, .slice A1 ar.rows.length c1, .slice A2 aps.length c2, .slice A3 ams.length c3, .string at', .int .i64 ap, .slice A4 aws.length c4, .int .i64 am, .slice A5 awg.length c5, .int .i64 awd, .int .i64 ahh] 54)) = W at *
  clear hg
  have hgl : g < W.heap.size := H0.h0.lt
  have HB0 := Lib.hid H0.below
  have HTR : Hid (∀ w', Below W.heap.size W w' → Below w.heap.size w w') := Lib.hid fun w' b => HB0.out.trans (b.mono HB0.out.size)
  have x0 : W.cell? ⟨g, 0, none⟩ = some (.int .i64 ak) := H0.h0.cell 0
  have x1 : W.cell? ⟨g, 1, none⟩ = some (.int .i64 ar.w) := H0.h0.cell 1
  have x2 : W.cell? ⟨g, 2, none⟩ = some (.slice A1 ar.rows.length c1) := H0.h0.cell 2
  have x3 : W.cell? ⟨g, 3, none⟩ = some (.slice A2 aps.length c2) := H0.h0.cell 3
  have x4 : W.cell? ⟨g, 4, none⟩ = some (.slice A3 ams.length c3) := H0.h0.cell 4
  have x5 : W.cell? ⟨g, 5, none⟩ = some (.string at') := H0.h0.cell 5
  have x6 : W.cell? ⟨g, 6, none⟩ = some (.int .i64 ap) := H0.h0.cell 6
  have x7 : W.cell? ⟨g, 7, none⟩ = some (.slice A4 aws.length c4) := H0.h0.cell 7
  have x8 : W.cell? ⟨g, 8, none⟩ = some (.int .i64 am) := H0.h0.cell 8
  have x9 : W.cell? ⟨g, 9, none⟩ = some (.slice A5 awg.length c5) := H0.h0.cell 9
  have x10 : W.cell? ⟨g, 10, none⟩ = some (.int .i64 awd) := H0.h0.cell 10
  have x11 : W.cell? ⟨g, 11, none⟩ = some (.int .i64 ahh) := H0.h0.cell 11
  by_cases k1 : ak = 1
  · subst k1
    have HC := Lib.hid (impl_tlg_c W (HRG.out W HB0.out) (HPS.out W HB0.out) (HMS.out W HB0.out) HZ.out.1 HZ.out.2 (HTB.out W HB0.out))
    have hTT : tlgB ar aps ams = T := by rw [HT.out, chkB, if_pos rfl]
    rw [hTT] at HC
    clear hTT
    go_wp2_with fail
    refine (HC.out).mono ?_
    rintro e w1 ⟨rfl, b1⟩
    have H1 := H0.step b1
    clear H0 b1
    go_wp2
    go_ret
    exact ⟨rfl, H1.below⟩
  have e1 : (ak == 1) = false := by simpa using k1
  by_cases k2 : ak = 2
  · subst k2
    have HC := Lib.hid (impl_rfn_c (B := at') W (HRG.out W HB0.out) (HPS.out W HB0.out) HZ.out.1 HZ.out.2 (HTB.out W HB0.out))
    have hTT : isRf ar aps at'.data.toList = T := by rw [HT.out, chkB, if_neg (by simp), if_pos rfl]
    rw [hTT] at HC
    clear hTT
    go_wp2_with fail
    refine (HC.out).mono ?_
    rintro e w1 ⟨rfl, b1⟩
    have H1 := H0.step b1
    clear H0 b1
    go_wp2
    go_ret
    exact ⟨rfl, H1.below⟩
  have e2 : (ak == 2) = false := by simpa using k2
  by_cases k3 : ak = 3
  · subst k3
    have HC := Lib.hid (impl_wpf_c (p := ap) W (HRG.out W HB0.out) (HPS.out W HB0.out) (HWS.out W HB0.out) HZ.out.1 HZ.out.2)
    have hTT : wpfB ar aps ap aws = T := by rw [HT.out, chkB, if_neg (by simp), if_neg (by simp), if_pos rfl]
    rw [hTT] at HC
    clear hTT
    go_wp2_with fail
    refine (HC.out).mono ?_
    rintro e w1 ⟨rfl, b1⟩
    have H1 := H0.step b1
    clear H0 b1
    go_wp2
    go_ret
    exact ⟨rfl, H1.below⟩
  have e3 : (ak == 3) = false := by simpa using k3
  by_cases k4 : ak = 4
  · subst k4
    obtain ⟨P, hP⟩ : ∃ P, P = pkgB ar aps ams := ⟨_, rfl⟩
    obtain ⟨Q, hQ⟩ : ∃ P, P = blkgB ar aps am := ⟨_, rfl⟩
    have HL1 : Hid (∀ u : Later W, Calls Tryz.prog 83 #[.agg #[.int .i64 ar.w, .slice A1 ar.rows.length c1], .slice A2 aps.length c2, .slice A3 ams.length c3] u.w fun e w'' => e = .returned (.bool P) ∧ Below u.w.heap.size u.w w'') := Lib.hid fun u => by
      rw [hP]; exact impl_pkg_c u.w (HRG.out u.w (HTR.out u.w u.h)) (HPS.out u.w (HTR.out u.w u.h)) (HMS.out u.w (HTR.out u.w u.h)) HZ.out.1 HZ.out.2
    have HL2 : Hid (∀ u : Later W, Calls Tryz.prog 84 #[.agg #[.int .i64 ar.w, .slice A1 ar.rows.length c1], .slice A2 aps.length c2, .int .i64 am] u.w fun e w'' => e = .returned (.bool Q) ∧ Below u.w.heap.size u.w w'') := Lib.hid fun u => by
      rw [hQ]; exact impl_blkg_c am u.w (HRG.out u.w (HTR.out u.w u.h)) (HPS.out u.w (HTR.out u.w u.h)) HM64.out.2 HZ.out.1 HZ.out.2
    have HTT : Hid (T = (P && (Q && decide ((cntB am.toNat : Int) = (ams.length : Int))))) := Lib.hid (by rw [HT.out, chkB, if_neg (by simp), if_neg (by simp), if_neg (by simp), if_pos rfl, hP, hQ])
    have HQQ : Hid (Q = true → ∃ k : Nat, am = (k : Int) ∧ k < 2 ^ 36) := Lib.hid (fun hq => blkg_mask (r := ar) (ps := aps) (by rw [← hQ]; exact hq))
    clear hP hQ
    cases P
    · obtain rfl : T = false := HTT.out
      have HL3 : Hid (∀ u : Later W, True ∧ u.w = u.w) := Lib.hid fun u => ⟨trivial, rfl⟩
      go_upto_region 9 with fail
      have l0 := Later.cell x0 hgl
      have l1 := Later.cell x1 hgl
      have l2 := Later.cell x2 hgl
      have l3 := Later.cell x3 hgl
      have l4 := Later.cell x4 hgl
      have l8 := Later.cell x8 hgl
      clear x0 x1 x2 x3 x4 x5 x6 x7 x8 x9 x10 x11
      refine wp_region_later (by kernel_rfl) (by kernel_rfl) ?_
      repeat (go_big_quiet_step ((first
        | (go_at_call 83; with_reducible exact Later.call (HL1.out _))
        | (go_at_call 84; with_reducible exact Later.call (HL2.out _))
        | (go_at_call 41; with_reducible exact Later.same (HL3.out _)))))
      refine wpQuiet_nil ?_
      intro w5 hw5
      obtain ⟨u5, hu5⟩ := hw5
      subst hu5
      have H1 := H0.later u5
      clear l0 l1 l2 l3 l4 l8 HL1 HL2 HL3 H0
      generalize u5.w = w5 at *
      go_wp2
      go_ret
      exact ⟨rfl, H1.below⟩
    cases Q
    · obtain rfl : T = false := HTT.out
      have HL3 : Hid (∀ u : Later W, True ∧ u.w = u.w) := Lib.hid fun u => ⟨trivial, rfl⟩
      go_upto_region 9 with fail
      have l0 := Later.cell x0 hgl
      have l1 := Later.cell x1 hgl
      have l2 := Later.cell x2 hgl
      have l3 := Later.cell x3 hgl
      have l4 := Later.cell x4 hgl
      have l8 := Later.cell x8 hgl
      clear x0 x1 x2 x3 x4 x5 x6 x7 x8 x9 x10 x11
      refine wp_region_later (by kernel_rfl) (by kernel_rfl) ?_
      repeat (go_big_quiet_step ((first
        | (go_at_call 83; with_reducible exact Later.call (HL1.out _))
        | (go_at_call 84; with_reducible exact Later.call (HL2.out _))
        | (go_at_call 41; with_reducible exact Later.same (HL3.out _)))))
      refine wpQuiet_nil ?_
      intro w5 hw5
      obtain ⟨u5, hu5⟩ := hw5
      subst hu5
      have H1 := H0.later u5
      clear l0 l1 l2 l3 l4 l8 HL1 HL2 HL3 H0
      generalize u5.w = w5 at *
      go_wp2
      go_ret
      exact ⟨rfl, H1.below⟩
    obtain ⟨k, rfl, hk36⟩ := HQQ.out rfl
    have hu1 : IntKind.u64.wrap (k : Int) = (k : Int) := u64_in _ (by omega)
    have HL3 : Hid (∀ u : Later W, Calls Tryz.prog 41 #[.int .u64 (k : Int)] u.w fun e w'' => e = .returned (.int .i64 (cntB k : Int)) ∧ u.w = w'') := Lib.hid fun u => ones36_c k u.w hk36
    have hTT : ((cntB k : Int) == (ams.length : Int)) = T := by
      rw [HTT.out, Int.toNat_natCast, Bool.eq_iff_iff]
      simp
    obtain ⟨N, hN⟩ : ∃ N, N = cntB k := ⟨_, rfl⟩
    rw [← hN] at HL3 hTT
    clear hN hk36 HTT HT
    go_upto_region 9 with fail
    have l0 := Later.cell x0 hgl
    have l1 := Later.cell x1 hgl
    have l2 := Later.cell x2 hgl
    have l3 := Later.cell x3 hgl
    have l4 := Later.cell x4 hgl
    have l8 := Later.cell x8 hgl
    clear x0 x1 x2 x3 x4 x5 x6 x7 x8 x9 x10 x11
    refine wp_region_later (by kernel_rfl) (by kernel_rfl) ?_
    repeat (go_big_quiet_step ((first
      | (go_at_call 83; with_reducible exact Later.call (HL1.out _))
      | (go_at_call 84; with_reducible exact Later.call (HL2.out _))
      | (go_at_call 41; with_reducible exact Later.same (HL3.out _)))))
    refine wpQuiet_nil ?_
    intro w5 hw5
    obtain ⟨u5, hu5⟩ := hw5
    subst hu5
    have H1 := H0.later u5
    clear l0 l1 l2 l3 l4 l8 HL1 HL2 HL3 H0
    generalize u5.w = w5 at *
    go_wp2
    go_ret
    exact ⟨rfl, H1.below⟩
  have e4 : (ak == 4) = false := by simpa using k4
  by_cases k5 : ak = 5
  · subst k5
    have HC := Lib.hid (impl_perF_c awd ahh W (HWG.out W HB0.out) (HMS.out W HB0.out) HCAP.out)
    have hTT : perB awg awd ahh ams = T := by rw [HT.out, chkB, if_neg (by simp), if_neg (by simp), if_neg (by simp), if_neg (by simp), if_pos rfl]
    rw [hTT] at HC
    clear hTT
    go_wp2_with fail
    refine (HC.out).mono ?_
    rintro e w1 ⟨rfl, b1⟩
    have H1 := H0.step b1
    clear H0 b1
    go_wp2
    go_ret
    exact ⟨rfl, H1.below⟩
  have e5 : (ak == 5) = false := by simpa using k5
  by_cases k6 : ak = 6
  · subst k6
    obtain ⟨P, hP⟩ : ∃ P, P = solB ar aps ams := ⟨_, rfl⟩
    obtain ⟨Q, hQ⟩ : ∃ P, P = cnsN ar aps := ⟨_, rfl⟩
    have HC := Lib.hid (impl_sol_c W (HRG.out W HB0.out) (HPS.out W HB0.out) (HMS.out W HB0.out) HZ.out.1 HZ.out.2)
    have HC2 : Hid (∀ w', Below W.heap.size W w' → Calls Tryz.prog 87 #[.agg #[.int .i64 ar.w, .slice A1 ar.rows.length c1], .slice A2 aps.length c2] w' fun e w'' => e = .returned (.int .i64 Q) ∧ Below w'.heap.size w' w'') := Lib.hid fun w' b => by
      rw [hQ]; exact impl_cns_c w' (HRG.out w' (HTR.out w' b)) (HPS.out w' (HTR.out w' b)) HZ.out.1 HZ.out.2
    have HTT : Hid (T = (P && decide (Q = 1))) := Lib.hid (by rw [HT.out, chkB, if_neg (by simp), if_neg (by simp), if_neg (by simp), if_neg (by simp), if_neg (by simp), if_pos rfl, hP, hQ])
    rw [← hP] at HC
    clear hP hQ
    go_wp2_with fail
    refine (HC.out).mono ?_
    rintro e w1 ⟨rfl, b1⟩
    have H1 := H0.step b1
    cases P
    · obtain rfl : T = false := HTT.out
      clear H0 b1
      go_wp2
      go_ret
      exact ⟨rfl, H1.below⟩
    have HC3 := Lib.hid (HC2.out w1 b1)
    have hTT : (Q == 1) = T := by rw [HTT.out, Bool.eq_iff_iff]; simp
    clear x0 x1 x2 x3 x4 x5 x6 x7 x8 x9 x10 x11 H0 b1 HC HC2 HTT HT
    have y1 : w1.cell? ⟨g, 1, none⟩ = some (.int .i64 ar.w) := H1.h0.cell 1
    have y2 : w1.cell? ⟨g, 2, none⟩ = some (.slice A1 ar.rows.length c1) := H1.h0.cell 2
    have y3 : w1.cell? ⟨g, 3, none⟩ = some (.slice A2 aps.length c2) := H1.h0.cell 3
    go_wp2_with fail
    refine (HC3.out).mono ?_
    rintro e w2 ⟨rfl, b2⟩
    have H2 := H1.step b2
    clear H1 b2 y1 y2 y3 HC3
    go_wp2
    go_ret
    exact ⟨rfl, H2.below⟩
  have e6 : (ak == 6) = false := by simpa using k6
  obtain rfl : T = false := by rw [HT.out, chkB, if_neg k1, if_neg k2, if_neg k3, if_neg k4, if_neg k5, if_neg k6]
  have hb := H0.below
  clear H0 k1 k2 k3 k4 k5 k6
  go_wp2
  go_ret
  exact ⟨rfl, hb⟩
set_option maxRecDepth 100000 in
set_option maxHeartbeats 6400000 in
theorem spec_check_c {v : Value} {a : Clm} (w : World) (h : ClmRd w 0 w.heap.size v a) (hz : SzOk a) (hm64 : I64 a.mask) (hcap : CapC v)  :
    Calls Tryz.prog 24 #[v] w fun e w' => e = .returned (.bool (chkB a)) ∧ Below w.heap.size w w' := by
  obtain ⟨ak, ar, aps, ams, at', ap, aws, am, awg, awd, ahh⟩ := a
  obtain ⟨T, hT⟩ : ∃ T, T = chkB ⟨ak, ar, aps, ams, at', ap, aws, am, awg, awd, ahh⟩ := ⟨_, rfl⟩
  rw [← hT]
  have HT := Lib.hid hT
  obtain ⟨z1, z2, z3, z4, z5, z6⟩ := hz
  obtain ⟨s1, s2, s3, s4, s5, rfl, g1, g2, g3, g4, g5⟩ := h
  simp only at z1 z2 z3 z4 z5 z6 hm64 g1 g2 g3 g4 g5
  have HRG : Hid (∀ w1, Below w.heap.size w w1 → RegRd w1 0 w1.heap.size (.agg #[.int .i64 ar.w, s1]) ar) := Lib.hid fun w1 b1 => ⟨_, rfl, (g1.keep (SameIn.of_below b1 (Nat.le_refl _))).more (Nat.le_refl _) b1.size⟩
  have HPS : Hid (∀ w1, Below w.heap.size w w1 → CellSSRd w1 0 w1.heap.size s2 aps) := Lib.hid fun w1 b1 => (g2.keep (SameIn.of_below b1 (Nat.le_refl _))).more (Nat.le_refl _) b1.size
  have HMS : Hid (∀ w1, Below w.heap.size w w1 → IntsRd w1 0 w1.heap.size s3 ams) := Lib.hid fun w1 b1 => (g3.keep (SameIn.of_below b1 (Nat.le_refl _))).more (Nat.le_refl _) b1.size
  have HWS : Hid (∀ w1, Below w.heap.size w w1 → IntsRd w1 0 w1.heap.size s4 aws) := Lib.hid fun w1 b1 => (g4.keep (SameIn.of_below b1 (Nat.le_refl _))).more (Nat.le_refl _) b1.size
  have HWG : Hid (∀ w1, Below w.heap.size w w1 → WangsRd w1 0 w1.heap.size s5 awg) := Lib.hid fun w1 b1 => (g5.keep (SameIn.of_below b1 (Nat.le_refl _))).more (Nat.le_refl _) b1.size
  skip
  obtain ⟨A1, c1, rfl, _, _⟩ := id g1
  obtain ⟨vs, ⟨A2, c2, rfl, _, _⟩, _⟩ := id g2
  obtain ⟨A3, c3, rfl, _, _⟩ := id g3
  obtain ⟨A4, c4, rfl, _, _⟩ := id g4
  obtain ⟨A5, c5, rfl, _, _⟩ := id g5
  have HCAP : Hid (ams.length ≤ c3) := Lib.hid (hcap _ A3 _ c3 rfl rfl)
  have HZ := Lib.hid (⟨z2, z3⟩ : aps.length ≤ 1048576 ∧ ∀ u ∈ aps, u.length ≤ 1048576)
  have HM64 := Lib.hid hm64
  unfold clmV
  have H0 := (Sep.start w).box 54 #[.int .i64 ak, .int .i64 ar.w, .slice A1 ar.rows.length c1, .slice A2 aps.length c2, .slice A3 ams.length c3, .string at', .int .i64 ap, .slice A4 aws.length c4, .int .i64 am, .slice A5 awg.length c5, .int .i64 awd, .int .i64 ahh]
  obtain ⟨g, hg⟩ : ∃ g, g = w.heap.size := ⟨_, rfl⟩
  rw [← hg] at H0
  clear hT hcap g1 g2 g3 g4 g5 z1 z2 z3 z5 z6 hm64 
  go_enter Tryz.func24, Tryz.ntmps24
  go_upto_region 1 with fail
  rw [← hg]
  generalize (w.alloc (.cells #[.int .i64 ak, .int .i64 ar.w, .slice A1 ar.rows.length c1, .slice A2 aps.length c2, .slice A3 ams.length c3, .string at', .int .i64 ap, .slice A4 aws.length c4, .int .i64 am, .slice A5 awg.length c5, .int .i64 awd, .int .i64 ahh] 54)) = W at *
  clear hg
  have hgl : g < W.heap.size := H0.h0.lt
  have HB0 := Lib.hid H0.below
  have HTR : Hid (∀ w', Below W.heap.size W w' → Below w.heap.size w w') := Lib.hid fun w' b => HB0.out.trans (b.mono HB0.out.size)
  have x0 : W.cell? ⟨g, 0, none⟩ = some (.int .i64 ak) := H0.h0.cell 0
  have x1 : W.cell? ⟨g, 1, none⟩ = some (.int .i64 ar.w) := H0.h0.cell 1
  have x2 : W.cell? ⟨g, 2, none⟩ = some (.slice A1 ar.rows.length c1) := H0.h0.cell 2
  have x3 : W.cell? ⟨g, 3, none⟩ = some (.slice A2 aps.length c2) := H0.h0.cell 3
  have x4 : W.cell? ⟨g, 4, none⟩ = some (.slice A3 ams.length c3) := H0.h0.cell 4
  have x5 : W.cell? ⟨g, 5, none⟩ = some (.string at') := H0.h0.cell 5
  have x6 : W.cell? ⟨g, 6, none⟩ = some (.int .i64 ap) := H0.h0.cell 6
  have x7 : W.cell? ⟨g, 7, none⟩ = some (.slice A4 aws.length c4) := H0.h0.cell 7
  have x8 : W.cell? ⟨g, 8, none⟩ = some (.int .i64 am) := H0.h0.cell 8
  have x9 : W.cell? ⟨g, 9, none⟩ = some (.slice A5 awg.length c5) := H0.h0.cell 9
  have x10 : W.cell? ⟨g, 10, none⟩ = some (.int .i64 awd) := H0.h0.cell 10
  have x11 : W.cell? ⟨g, 11, none⟩ = some (.int .i64 ahh) := H0.h0.cell 11
  by_cases k1 : ak = 1
  · subst k1
    have HC := Lib.hid (spec_tlg_c W (HRG.out W HB0.out) (HPS.out W HB0.out) (HMS.out W HB0.out) HZ.out.1 HZ.out.2 )
    have hTT : tlgB ar aps ams = T := by rw [HT.out, chkB, if_pos rfl]
    rw [hTT] at HC
    clear hTT
    go_wp2_with fail
    refine (HC.out).mono ?_
    rintro e w1 ⟨rfl, b1⟩
    have H1 := H0.step b1
    clear H0 b1
    go_wp2
    go_ret
    exact ⟨rfl, H1.below⟩
  have e1 : (ak == 1) = false := by simpa using k1
  by_cases k2 : ak = 2
  · subst k2
    have HC := Lib.hid (spec_rfn_c (B := at') W (HRG.out W HB0.out) (HPS.out W HB0.out) HZ.out.1 HZ.out.2 )
    have hTT : isRf ar aps at'.data.toList = T := by rw [HT.out, chkB, if_neg (by simp), if_pos rfl]
    rw [hTT] at HC
    clear hTT
    go_wp2_with fail
    refine (HC.out).mono ?_
    rintro e w1 ⟨rfl, b1⟩
    have H1 := H0.step b1
    clear H0 b1
    go_wp2
    go_ret
    exact ⟨rfl, H1.below⟩
  have e2 : (ak == 2) = false := by simpa using k2
  by_cases k3 : ak = 3
  · subst k3
    have HC := Lib.hid (spec_wpf_c (p := ap) W (HRG.out W HB0.out) (HPS.out W HB0.out) (HWS.out W HB0.out) HZ.out.1 HZ.out.2)
    have hTT : wpfB ar aps ap aws = T := by rw [HT.out, chkB, if_neg (by simp), if_neg (by simp), if_pos rfl]
    rw [hTT] at HC
    clear hTT
    go_wp2_with fail
    refine (HC.out).mono ?_
    rintro e w1 ⟨rfl, b1⟩
    have H1 := H0.step b1
    clear H0 b1
    go_wp2
    go_ret
    exact ⟨rfl, H1.below⟩
  have e3 : (ak == 3) = false := by simpa using k3
  by_cases k4 : ak = 4
  · subst k4
    obtain ⟨P, hP⟩ : ∃ P, P = pkgB ar aps ams := ⟨_, rfl⟩
    obtain ⟨Q, hQ⟩ : ∃ P, P = blkgB ar aps am := ⟨_, rfl⟩
    have HL1 : Hid (∀ u : Later W, Calls Tryz.prog 71 #[.agg #[.int .i64 ar.w, .slice A1 ar.rows.length c1], .slice A2 aps.length c2, .slice A3 ams.length c3] u.w fun e w'' => e = .returned (.bool P) ∧ Below u.w.heap.size u.w w'') := Lib.hid fun u => by
      rw [hP]; exact spec_pkg_c u.w (HRG.out u.w (HTR.out u.w u.h)) (HPS.out u.w (HTR.out u.w u.h)) (HMS.out u.w (HTR.out u.w u.h)) HZ.out.1 HZ.out.2
    have HL2 : Hid (∀ u : Later W, Calls Tryz.prog 72 #[.agg #[.int .i64 ar.w, .slice A1 ar.rows.length c1], .slice A2 aps.length c2, .int .i64 am] u.w fun e w'' => e = .returned (.bool Q) ∧ Below u.w.heap.size u.w w'') := Lib.hid fun u => by
      rw [hQ]; exact spec_blkg_c am u.w (HRG.out u.w (HTR.out u.w u.h)) (HPS.out u.w (HTR.out u.w u.h)) HM64.out HZ.out.1 HZ.out.2
    have HTT : Hid (T = (P && (Q && decide ((cntB am.toNat : Int) = (ams.length : Int))))) := Lib.hid (by rw [HT.out, chkB, if_neg (by simp), if_neg (by simp), if_neg (by simp), if_pos rfl, hP, hQ])
    have HQQ : Hid (Q = true → ∃ k : Nat, am = (k : Int) ∧ k < 2 ^ 36) := Lib.hid (fun hq => blkg_mask (r := ar) (ps := aps) (by rw [← hQ]; exact hq))
    clear hP hQ
    cases P
    · obtain rfl : T = false := HTT.out
      have HL3 : Hid (∀ u : Later W, True ∧ u.w = u.w) := Lib.hid fun u => ⟨trivial, rfl⟩
      go_upto_region 9 with fail
      have l0 := Later.cell x0 hgl
      have l1 := Later.cell x1 hgl
      have l2 := Later.cell x2 hgl
      have l3 := Later.cell x3 hgl
      have l4 := Later.cell x4 hgl
      have l8 := Later.cell x8 hgl
      clear x0 x1 x2 x3 x4 x5 x6 x7 x8 x9 x10 x11
      refine wp_region_later (by kernel_rfl) (by kernel_rfl) ?_
      repeat (go_big_quiet_step ((first
        | (go_at_call 71; with_reducible exact Later.call (HL1.out _))
        | (go_at_call 72; with_reducible exact Later.call (HL2.out _))
        | (go_at_call 73; with_reducible exact Later.same (HL3.out _)))))
      refine wpQuiet_nil ?_
      intro w5 hw5
      obtain ⟨u5, hu5⟩ := hw5
      subst hu5
      have H1 := H0.later u5
      clear l0 l1 l2 l3 l4 l8 HL1 HL2 HL3 H0
      generalize u5.w = w5 at *
      go_wp2
      go_ret
      exact ⟨rfl, H1.below⟩
    cases Q
    · obtain rfl : T = false := HTT.out
      have HL3 : Hid (∀ u : Later W, True ∧ u.w = u.w) := Lib.hid fun u => ⟨trivial, rfl⟩
      go_upto_region 9 with fail
      have l0 := Later.cell x0 hgl
      have l1 := Later.cell x1 hgl
      have l2 := Later.cell x2 hgl
      have l3 := Later.cell x3 hgl
      have l4 := Later.cell x4 hgl
      have l8 := Later.cell x8 hgl
      clear x0 x1 x2 x3 x4 x5 x6 x7 x8 x9 x10 x11
      refine wp_region_later (by kernel_rfl) (by kernel_rfl) ?_
      repeat (go_big_quiet_step ((first
        | (go_at_call 71; with_reducible exact Later.call (HL1.out _))
        | (go_at_call 72; with_reducible exact Later.call (HL2.out _))
        | (go_at_call 73; with_reducible exact Later.same (HL3.out _)))))
      refine wpQuiet_nil ?_
      intro w5 hw5
      obtain ⟨u5, hu5⟩ := hw5
      subst hu5
      have H1 := H0.later u5
      clear l0 l1 l2 l3 l4 l8 HL1 HL2 HL3 H0
      generalize u5.w = w5 at *
      go_wp2
      go_ret
      exact ⟨rfl, H1.below⟩
    obtain ⟨k, rfl, hk36⟩ := HQQ.out rfl
    have HL3 : Hid (∀ u : Later W, Calls Tryz.prog 73 #[.int .i64 (k : Int)] u.w fun e w'' => e = .returned (.int .i64 (cntB k : Nat)) ∧ u.w = w'') := Lib.hid fun u => spec_bits_c u.w hk36
    have hTT : ((cntB k : Int) == (ams.length : Int)) = T := by
      rw [HTT.out, Int.toNat_natCast, Bool.eq_iff_iff]
      simp
    obtain ⟨N, hN⟩ : ∃ N, N = cntB k := ⟨_, rfl⟩
    rw [← hN] at HL3 hTT
    clear hN hk36 HTT HT
    go_upto_region 9 with fail
    have l0 := Later.cell x0 hgl
    have l1 := Later.cell x1 hgl
    have l2 := Later.cell x2 hgl
    have l3 := Later.cell x3 hgl
    have l4 := Later.cell x4 hgl
    have l8 := Later.cell x8 hgl
    clear x0 x1 x2 x3 x4 x5 x6 x7 x8 x9 x10 x11
    refine wp_region_later (by kernel_rfl) (by kernel_rfl) ?_
    repeat (go_big_quiet_step ((first
      | (go_at_call 71; with_reducible exact Later.call (HL1.out _))
      | (go_at_call 72; with_reducible exact Later.call (HL2.out _))
      | (go_at_call 73; with_reducible exact Later.same (HL3.out _)))))
    refine wpQuiet_nil ?_
    intro w5 hw5
    obtain ⟨u5, hu5⟩ := hw5
    subst hu5
    have H1 := H0.later u5
    clear l0 l1 l2 l3 l4 l8 HL1 HL2 HL3 H0
    generalize u5.w = w5 at *
    go_wp2
    go_ret
    exact ⟨rfl, H1.below⟩
  have e4 : (ak == 4) = false := by simpa using k4
  by_cases k5 : ak = 5
  · subst k5
    have HC := Lib.hid (spec_perF_c awd ahh W (HWG.out W HB0.out) (HMS.out W HB0.out) HCAP.out)
    have hTT : perB awg awd ahh ams = T := by rw [HT.out, chkB, if_neg (by simp), if_neg (by simp), if_neg (by simp), if_neg (by simp), if_pos rfl]
    rw [hTT] at HC
    clear hTT
    go_wp2_with fail
    refine (HC.out).mono ?_
    rintro e w1 ⟨rfl, b1⟩
    have H1 := H0.step b1
    clear H0 b1
    go_wp2
    go_ret
    exact ⟨rfl, H1.below⟩
  have e5 : (ak == 5) = false := by simpa using k5
  by_cases k6 : ak = 6
  · subst k6
    obtain ⟨P, hP⟩ : ∃ P, P = solB ar aps ams := ⟨_, rfl⟩
    obtain ⟨Q, hQ⟩ : ∃ P, P = cnsN ar aps := ⟨_, rfl⟩
    have HC := Lib.hid (spec_sol_c W (HRG.out W HB0.out) (HPS.out W HB0.out) (HMS.out W HB0.out) HZ.out.1 HZ.out.2)
    have HC2 : Hid (∀ w', Below W.heap.size W w' → Calls Tryz.prog 76 #[.agg #[.int .i64 ar.w, .slice A1 ar.rows.length c1], .slice A2 aps.length c2] w' fun e w'' => e = .returned (.int .i64 Q) ∧ Below w'.heap.size w' w'') := Lib.hid fun w' b => by
      rw [hQ]; exact spec_cns_c w' (HRG.out w' (HTR.out w' b)) (HPS.out w' (HTR.out w' b)) HZ.out.1 HZ.out.2
    have HTT : Hid (T = (P && decide (Q = 1))) := Lib.hid (by rw [HT.out, chkB, if_neg (by simp), if_neg (by simp), if_neg (by simp), if_neg (by simp), if_neg (by simp), if_pos rfl, hP, hQ])
    rw [← hP] at HC
    clear hP hQ
    go_wp2_with fail
    refine (HC.out).mono ?_
    rintro e w1 ⟨rfl, b1⟩
    have H1 := H0.step b1
    cases P
    · obtain rfl : T = false := HTT.out
      clear H0 b1
      go_wp2
      go_ret
      exact ⟨rfl, H1.below⟩
    have HC3 := Lib.hid (HC2.out w1 b1)
    have hTT : (Q == 1) = T := by rw [HTT.out, Bool.eq_iff_iff]; simp
    clear x0 x1 x2 x3 x4 x5 x6 x7 x8 x9 x10 x11 H0 b1 HC HC2 HTT HT
    have y1 : w1.cell? ⟨g, 1, none⟩ = some (.int .i64 ar.w) := H1.h0.cell 1
    have y2 : w1.cell? ⟨g, 2, none⟩ = some (.slice A1 ar.rows.length c1) := H1.h0.cell 2
    have y3 : w1.cell? ⟨g, 3, none⟩ = some (.slice A2 aps.length c2) := H1.h0.cell 3
    go_wp2_with fail
    refine (HC3.out).mono ?_
    rintro e w2 ⟨rfl, b2⟩
    have H2 := H1.step b2
    clear H1 b2 y1 y2 y3 HC3
    go_wp2
    go_ret
    exact ⟨rfl, H2.below⟩
  have e6 : (ak == 6) = false := by simpa using k6
  obtain rfl : T = false := by rw [HT.out, chkB, if_neg k1, if_neg k2, if_neg k3, if_neg k4, if_neg k5, if_neg k6]
  have hb := H0.below
  clear H0 k1 k2 k3 k4 k5 k6
  go_wp2
  go_ret
  exact ⟨rfl, hb⟩
end Go.Proofs.YtppbkiajcpdkiaaGreatDoor

namespace Go.Proofs.YtppbkiajcpdkiaaGreatDoor
open Go.RowKit

set_option maxRecDepth 100000 in
set_option maxHeartbeats 6400000 in
theorem law_CheckClaim (va : Value) (a : Clm) (w : World) (ha : ClmRd w 0 w.heap.size va a) (hta : a.text.size ≤ maxLen ∧ I64 a.mask) (htab : Tab64 w) :
    Calls Tryz.prog 4 #[va] w fun e w' => e = .returned (.bool true) ∧ Below w.heap.size w w' := by
  obtain ⟨s1, s2, s3, s4, s5, hva, _, _, _, _, _⟩ := id ha
  unfold clmV at hva
  subst hva
  have H := (Sep.start w).box 49 #[.int .i64 a.kind, .int .i64 a.reg.w, s1, s2, s3, .string a.text, .int .i64 a.prime, s4, .int .i64 a.mask, s5, .int .i64 a.width, .int .i64 a.height]
  go_enter Tryz.func4, Tryz.ntmps4
  go_wp2_with (refine wpList_load_row rfl 49 _ rfl (w.heap.size) rfl 49 _ _ _ H.h0 Tryz.underlying49 rfl (by kernel_rfl) ?_)
  generalize (w.alloc (.cells #[.int .i64 a.kind, .int .i64 a.reg.w, s1, s2, s3, .string a.text, .int .i64 a.prime, s4, .int .i64 a.mask, s5, .int .i64 a.width, .int .i64 a.height] 49)) = W at *
  refine (szClaim_c (a := a) 1048576 W ((ha.keep (SameIn.of_below H.below (Nat.le_refl _))).more (Nat.le_refl _) H.size) hta.1 (by omega) (by omega)).mono ?_
  rintro e w1 ⟨m1, rfl, j1, i1, z1, b1⟩
  have H1 := H.step b1
  clear b1 H
  by_cases k1 : m1 < 0
  · go_wp2
    go_ret
    exact ⟨rfl, H1.below⟩
  have j1' : 0 ≤ m1 := by omega
  have hza := z1 j1'
  have HZA := Lib.hid hza
  clear z1 hza k1
  go_wp2_with (refine wpList_load_row rfl 49 _ rfl (w.heap.size) rfl 49 _ _ _ H1.h0 Tryz.underlying49 rfl (by kernel_rfl) ?_)
  refine (toClaimC_c (a := a) w1 ((ha.keep (SameIn.of_below H1.below (Nat.le_refl _))).more (Nat.le_refl _) H1.size) HZA.out).mono ?_
  rintro e w2 ⟨v2, rfl, o2, hc2, b2⟩
  have H2 := H1.step b2
  clear b2 H1
  replace o2 := o2.more (Nat.zero_le _) (Nat.le_refl _)
  have HSP := Lib.hid (spec_check_c (a := a) w2 o2 HZA.out hta.2 hc2)
  clear o2 hc2
  go_wp2_with fail
  refine (HSP.out).mono ?_
  rintro e w3 ⟨rfl, b3⟩
  have H3 := H2.step b3
  clear b3 H2 HSP
  obtain ⟨R, hR⟩ : ∃ R, R = chkB a := ⟨_, rfl⟩
  rw [← hR]
  have HR := Lib.hid hR
  clear hR
  go_wp2_with (refine wpList_load_row rfl 49 _ rfl (w.heap.size) rfl 49 _ _ _ H3.h0 Tryz.underlying49 rfl (by kernel_rfl) ?_)
  refine (toClaimC_c (a := a) w3 ((ha.keep (SameIn.of_below H3.below (Nat.le_refl _))).more (Nat.le_refl _) H3.size) HZA.out).mono ?_
  rintro e w4 ⟨v4, rfl, o4, hc4, b4⟩
  obtain ⟨_, _, _, _, _, hv4, ⟨A1, c1, rfl, _, _⟩, ⟨_, ⟨A2, c2, rfl, _, _⟩, _⟩, ⟨A3, c3, rfl, _, _⟩, ⟨A4, c4, rfl, _, _⟩, ⟨A5, c5, rfl, _, _⟩⟩ := id o4
  unfold clmV at hv4
  subst hv4
  replace o4 := o4.more (Nat.zero_le _) (Nat.le_refl _)
  have H4 := (H3.step b4).box 54 #[.int .i64 a.kind, .int .i64 a.reg.w, .slice A1 a.reg.rows.length c1, .slice A2 a.pieces.length c2, .slice A3 a.masks.length c3, .string a.text, .int .i64 a.prime, .slice A4 a.weights.length c4, .int .i64 a.mask, .slice A5 a.wang.length c5, .int .i64 a.width, .int .i64 a.height]
  have K4 := (Sep.start w4).box 54 #[.int .i64 a.kind, .int .i64 a.reg.w, .slice A1 a.reg.rows.length c1, .slice A2 a.pieces.length c2, .slice A3 a.masks.length c3, .string a.text, .int .i64 a.prime, .slice A4 a.weights.length c4, .int .i64 a.mask, .slice A5 a.wang.length c5, .int .i64 a.width, .int .i64 a.height]
  clear b4 H3
  go_wp2_with (refine wpList_load_row rfl 54 _ rfl (w4.heap.size) rfl 54 _ _ _ H4.h0 Tryz.underlying54 rfl (by kernel_rfl) ?_)
  generalize hx : w4.alloc (.cells #[.int .i64 a.kind, .int .i64 a.reg.w, .slice A1 a.reg.rows.length c1, .slice A2 a.pieces.length c2, .slice A3 a.masks.length c3, .string a.text, .int .i64 a.prime, .slice A4 a.weights.length c4, .int .i64 a.mask, .slice A5 a.wang.length c5, .int .i64 a.width, .int .i64 a.height] 54) = w5 at *
  clear hx
  have HIM := Lib.hid (impl_check_c (a := a) w5 ((o4.keep (SameIn.of_below K4.below (Nat.le_refl _))).more (Nat.le_refl _) K4.size) HZA.out hta.2 hc4 (tab64_on htab H4.below))
  rw [← HR.out] at HIM
  refine (HIM.out).mono ?_
  rintro e w6 ⟨rfl, b6⟩
  have H6 := H4.step b6
  have K6 := K4.step b6
  clear b6 H4 K4 HIM
  go_wp2_with fail
  have x0 : w6.cell? ⟨w4.heap.size, 0, none⟩ = some (.int .i64 a.kind) := H6.h0.cell 0
  have x1 : w6.cell? ⟨w4.heap.size, 1, none⟩ = some (.int .i64 a.reg.w) := H6.h0.cell 1
  have x2 : w6.cell? ⟨w4.heap.size, 2, none⟩ = some (.slice A1 a.reg.rows.length c1) := H6.h0.cell 2
  have x3 : w6.cell? ⟨w4.heap.size, 3, none⟩ = some (.slice A2 a.pieces.length c2) := H6.h0.cell 3
  have x4 : w6.cell? ⟨w4.heap.size, 4, none⟩ = some (.slice A3 a.masks.length c3) := H6.h0.cell 4
  have x5 : w6.cell? ⟨w4.heap.size, 5, none⟩ = some (.string a.text) := H6.h0.cell 5
  have x6 : w6.cell? ⟨w4.heap.size, 6, none⟩ = some (.int .i64 a.prime) := H6.h0.cell 6
  have x7 : w6.cell? ⟨w4.heap.size, 7, none⟩ = some (.slice A4 a.weights.length c4) := H6.h0.cell 7
  have x8 : w6.cell? ⟨w4.heap.size, 8, none⟩ = some (.int .i64 a.mask) := H6.h0.cell 8
  have x9 : w6.cell? ⟨w4.heap.size, 9, none⟩ = some (.slice A5 a.wang.length c5) := H6.h0.cell 9
  have x10 : w6.cell? ⟨w4.heap.size, 10, none⟩ = some (.int .i64 a.width) := H6.h0.cell 10
  have x11 : w6.cell? ⟨w4.heap.size, 11, none⟩ = some (.int .i64 a.height) := H6.h0.cell 11
  have y0 : w6.cell? ⟨w.heap.size, 0, none⟩ = some (.int .i64 a.kind) := H6.h1.cell 0
  have y1 : w6.cell? ⟨w.heap.size, 1, none⟩ = some (.int .i64 a.reg.w) := H6.h1.cell 1
  have y2 : w6.cell? ⟨w.heap.size, 2, none⟩ = some (s1) := H6.h1.cell 2
  have y3 : w6.cell? ⟨w.heap.size, 3, none⟩ = some (s2) := H6.h1.cell 3
  have y4 : w6.cell? ⟨w.heap.size, 4, none⟩ = some (s3) := H6.h1.cell 4
  have y5 : w6.cell? ⟨w.heap.size, 5, none⟩ = some (.string a.text) := H6.h1.cell 5
  have y6 : w6.cell? ⟨w.heap.size, 6, none⟩ = some (.int .i64 a.prime) := H6.h1.cell 6
  have y7 : w6.cell? ⟨w.heap.size, 7, none⟩ = some (s4) := H6.h1.cell 7
  have y8 : w6.cell? ⟨w.heap.size, 8, none⟩ = some (.int .i64 a.mask) := H6.h1.cell 8
  have y9 : w6.cell? ⟨w.heap.size, 9, none⟩ = some (s5) := H6.h1.cell 9
  have y10 : w6.cell? ⟨w.heap.size, 10, none⟩ = some (.int .i64 a.width) := H6.h1.cell 10
  have y11 : w6.cell? ⟨w.heap.size, 11, none⟩ = some (.int .i64 a.height) := H6.h1.cell 11
  go_cut [26] (fun s wx => s = .bool false ∧ Below w.heap.size w wx)
  case first =>
    go_region_with ((first
      | (go_at_call 25; (with_reducible refine (toClaim_c (a := a) _ (by exact ((ha.keep (SameIn.of_below (below_drew H6.below) (Nat.le_refl _))).more (Nat.le_refl _) (le_drew H6.size))) HZA.out).mono ?_); rintro e u7 ⟨q7, rfl, r7, s7⟩; replace s7 := below_undrew s7; have M7 := H6.step s7; have N7 := K6.step s7; have p0 : u7.cell? ⟨w4.heap.size, 0, none⟩ = some (.int .i64 a.kind) := M7.h0.cell 0; have p1 : u7.cell? ⟨w4.heap.size, 1, none⟩ = some (.int .i64 a.reg.w) := M7.h0.cell 1; have p2 : u7.cell? ⟨w4.heap.size, 2, none⟩ = some (.slice A1 a.reg.rows.length c1) := M7.h0.cell 2; have p3 : u7.cell? ⟨w4.heap.size, 3, none⟩ = some (.slice A2 a.pieces.length c2) := M7.h0.cell 3; have p4 : u7.cell? ⟨w4.heap.size, 4, none⟩ = some (.slice A3 a.masks.length c3) := M7.h0.cell 4; have p5 : u7.cell? ⟨w4.heap.size, 5, none⟩ = some (.string a.text) := M7.h0.cell 5; have p6 : u7.cell? ⟨w4.heap.size, 6, none⟩ = some (.int .i64 a.prime) := M7.h0.cell 6; have p7 : u7.cell? ⟨w4.heap.size, 7, none⟩ = some (.slice A4 a.weights.length c4) := M7.h0.cell 7; have p8 : u7.cell? ⟨w4.heap.size, 8, none⟩ = some (.int .i64 a.mask) := M7.h0.cell 8; have p9 : u7.cell? ⟨w4.heap.size, 9, none⟩ = some (.slice A5 a.wang.length c5) := M7.h0.cell 9; have p10 : u7.cell? ⟨w4.heap.size, 10, none⟩ = some (.int .i64 a.width) := M7.h0.cell 10; have p11 : u7.cell? ⟨w4.heap.size, 11, none⟩ = some (.int .i64 a.height) := M7.h0.cell 11; have q0 : u7.cell? ⟨w.heap.size, 0, none⟩ = some (.int .i64 a.kind) := M7.h1.cell 0; have q1 : u7.cell? ⟨w.heap.size, 1, none⟩ = some (.int .i64 a.reg.w) := M7.h1.cell 1; have q2 : u7.cell? ⟨w.heap.size, 2, none⟩ = some (s1) := M7.h1.cell 2; have q3 : u7.cell? ⟨w.heap.size, 3, none⟩ = some (s2) := M7.h1.cell 3; have q4 : u7.cell? ⟨w.heap.size, 4, none⟩ = some (s3) := M7.h1.cell 4; have q5 : u7.cell? ⟨w.heap.size, 5, none⟩ = some (.string a.text) := M7.h1.cell 5; have q6 : u7.cell? ⟨w.heap.size, 6, none⟩ = some (.int .i64 a.prime) := M7.h1.cell 6; have q7 : u7.cell? ⟨w.heap.size, 7, none⟩ = some (s4) := M7.h1.cell 7; have q8 : u7.cell? ⟨w.heap.size, 8, none⟩ = some (.int .i64 a.mask) := M7.h1.cell 8; have q9 : u7.cell? ⟨w.heap.size, 9, none⟩ = some (s5) := M7.h1.cell 9; have q10 : u7.cell? ⟨w.heap.size, 10, none⟩ = some (.int .i64 a.width) := M7.h1.cell 10; have q11 : u7.cell? ⟨w.heap.size, 11, none⟩ = some (.int .i64 a.height) := M7.h1.cell 11)
      | (go_at_call 27; (with_reducible refine (eqClaim_c (a := a) _ (by exact ((o4.keep (SameIn.of_below N7.below (Nat.le_refl _))).more (Nat.le_refl _) N7.size)) (by exact r7.more (Nat.zero_le _) (Nat.le_refl _))).mono ?_); rintro e z7 ⟨rfl, k7⟩; have M8 := M7.step k7)))
    all_goals (go_wp2_with fail; go_meet; exact ⟨rfl, M8.below⟩)
  case rest =>
  clear x0 x1 x2 x3 x4 x5 x6 x7 x8 x9 x10 x11 y0 y1 y2 y3 y4 y5 y6 y7 y8 y9 y10 y11 H6 K6
  obtain ⟨rfl, hb⟩ := hcut
  generalize hwc : wc = w9 at *
  clear hwc
  go_wp2
  go_ret
  exact ⟨rfl, hb⟩
end Go.Proofs.YtppbkiajcpdkiaaGreatDoor
