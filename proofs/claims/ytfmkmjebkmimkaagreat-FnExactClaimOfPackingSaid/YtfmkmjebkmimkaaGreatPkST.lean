
/-
  LargestPacking, the reference's walk. LargestPacking, the reference's walk: the whole.
-/
import Derived.Test.YtfmkmjebkmimkaaGreatPkLM
namespace Go.Proofs.YtfmkmjebkmimkaaGreat
open Go.RowKit

theorem row_RdP {w : World} {e : TypeId} {sz n c : Nat} {A : Option Addr} {xs : List Value} (h : w.ownsRow 0 e sz (.slice A n c) n xs) : Rd w 0 w.heap.size sz A n xs := by
  obtain ⟨A', c', hq, _, _, h2⟩ := own_rd h
  injection hq with q1
  subst q1
  exact h2
def PckPost (T : List Nat) (w : World) : Ending → World → Prop := fun e w' => ∃ v n, e = .returned v ∧ n = T.length ∧ Sep w w' [Res.row v 3 1 n (ic (nl T))]
theorem PckPost.mk {T B : List Nat} {w w' : World} {v : Value} {n : Nat} (hB : B = T) (hn : n = B.length) (H : Sep w w' [Res.row v 3 1 n (ic (nl B))]) : PckPost T w (.returned v) w' := by
  subst hB
  exact ⟨v, n, rfl, hn, H⟩
def PckC (lv : Value) (A : List Nat) (i : Nat) : Prop := ∀ (w : World) (u : Nat), IntsRd w 0 w.heap.size lv (nl A) → (∀ m ∈ A, m < 2 ^ 36) → A.length ≤ 1000000 → u < 2 ^ 36 → Calls Tryz.prog 41 #[lv, .int .i64 i, .int .i64 u] w (PckPost (pk (A.drop i) u) w)
set_option maxRecDepth 100000 in
set_option maxHeartbeats 3200000 in
theorem pck_step (lv : Value) (A : List Nat) (at0 : Nat) (hat : at0 ≤ A.length) (ih : ∀ j, at0 < j → j ≤ A.length → PckC lv A j) : PckC lv A at0 := by
  intro w u h hA hlen hu
  obtain ⟨j0, hj, hy0, hy1, hy2⟩ := info_parts infoIntZ
  have HIH := Lib.hid ih
  have HMS := Lib.hid hA
  have HRD : Hid (∀ w1, Below w.heap.size w w1 → IntsRd w1 0 w1.heap.size lv (nl A)) := Lib.hid fun w1 b1 => (h.keep (SameIn.of_below b1 (Nat.le_refl _))).more (Nat.le_refl _) b1.size
  obtain ⟨k, hk⟩ : ∃ k, k = A.length := ⟨_, rfl⟩
  have HK := Lib.hid hk
  have hk6 : k ≤ 1000000 := by rw [hk]; exact hlen
  have hnl : (nl A).length = k := by simp [nl]; exact hk.symm
  have hat2 : at0 ≤ k := by rw [hk]; exact hat
  have hu36 : u < 68719476736 := hu
  obtain ⟨Av, cv, rfl, _, _⟩ := id h
  rw [hnl] at HRD HIH h ⊢
  have HR0 := Lib.hid h
  have H0 := (Sep.start w).rowBox 3 #[] 1 0 rfl (by decide)
  have HLE : Hid (A.length ≤ 1000000) := Lib.hid hlen
  clear ih hA hk hnl h hat hlen hu
  go_enter Tryz.func41, Tryz.ntmps41
  go_wp2
  go_loopw [7, 8] (fun bv iv wx => ∃ (i n : Nat) (B : List Nat) (bw : Value), at0 ≤ i ∧ i ≤ k ∧ iv = .int .i64 i ∧ bv = bw ∧ n ≤ k ∧ Hid (n = B.length) ∧ Hid (pkB (A.drop i) u B = pk (A.drop at0) u) ∧ Sep w wx [Res.row bw 3 1 n (ic (nl B))]) (fun _ iv _ => k - (intOf iv).toNat)
  case atStart => exact ⟨at0, 0, [], _, Nat.le_refl _, hat2, rfl, rfl, Nat.zero_le _, Lib.hid rfl, Lib.hid pkB_start, H0⟩
  case round =>
    clear H0
    obtain ⟨i, n, B, bw, hai, hik, rfl, rfl, hnk, HN, HB, H⟩ := hrel
    obtain ⟨Ab, cb, rfl, _, _, _⟩ := Res.row_at H.h0
    by_cases hil : i < k
    · have hili : (i : Int) < (k : Int) := by omega
      obtain ⟨m, hm⟩ : ∃ m, A[i]? = some m := ⟨A[i]'(by rw [← HK.out]; exact hil), List.getElem?_eq_getElem _⟩
      obtain ⟨b, off, rfl, hb, y00⟩ := ints_atZ HR0.out (show (nl A)[i]? = some (m : Int) by simp [nl, hm])
      have y0 := (H.below.cell (p := ⟨b, off + i, none⟩) hb).trans y00
      have HY00 := Lib.hid y00
      have hm36 : m < 68719476736 := HMS.out m (List.mem_of_getElem? hm)
      have HMM := Lib.hid hm
      have hand := i64_and_nat m u (by omega) (by omega)
      have hor := i64_or_nat u m (by omega) (by omega)
      obtain ⟨a, ha⟩ : ∃ a, a = m &&& u := ⟨_, rfl⟩
      rw [← ha] at hand
      have HA1 := Lib.hid ha
      clear hm ha y00
      by_cases hz : a = 0
      · subst hz
        have hz1 : (((0 : Nat) : Int) != 0) = false := rfl
        obtain ⟨u2, hu2d⟩ : ∃ u2, u2 = u ||| m := ⟨_, rfl⟩
        rw [← hu2d] at hor
        have hu2c : u2 < 68719476736 := by rw [hu2d]; exact Nat.or_lt_two_pow (n := 36) hu36 hm36
        have HU2 := Lib.hid hu2d
        obtain ⟨i2, hi2⟩ : ∃ i2, i2 = i + 1 := ⟨_, rfl⟩
        have e6 : IntKind.i64.wrap ((i : Int) + 1) = (i2 : Int) := by rw [show (i : Int) + 1 = (i2 : Int) by omega]; exact IntWalk.i64_in _ (by omega)
        have HI2 := Lib.hid hi2
        obtain ⟨R, hR⟩ : ∃ R, R = pk (A.drop i2) u2 := ⟨_, rfl⟩
        have HRR := Lib.hid hR
        have HRL : Hid (R.length + 1 ≤ k) := Lib.hid (by
          rw [hR]
          have := pkN_le (A := A.drop i2) u2
          rw [List.length_drop, ← HK.out] at this
          omega)
        have HBG : Hid (∀ q : Nat, q = R.length → 1 + q ≤ maxLen ∧ (1 + q) * 8 ≤ 140737488355328) := Lib.hid (fun q hq => by have := HRL.out; unfold maxLen; omega)
        have HCL : Hid (∀ w1, Below w.heap.size w w1 → Calls Tryz.prog 41 #[.slice (some ⟨b, off, none⟩) k cv, .int .i64 i2, .int .i64 u2] w1 fun e w' => ∃ v n, e = .returned v ∧ n = R.length ∧ Sep w1 w' [Res.row v 3 1 n (ic (nl R))]) := Lib.hid fun w1 b1 => by
          rw [hR]
          exact HIH.out i2 (by omega) (by rw [← HK.out]; omega) w1 u2 (HRD.out w1 b1) HMS.out HLE.out hu2c
        have HD1 := H.drew
        have HD2 := (H.rowBox 3 #[.int .i64 (m : Int)] 1 1 rfl (by decide)).drew
        have z1 : wr.drew.cell? ⟨b, off + i, none⟩ = some (.int .i64 m) := (HD1.below.cell (p := ⟨b, off + i, none⟩) hb).trans HY00.out
        have z2 : (wr.alloc (.cells #[.int .i64 (m : Int)] 3)).drew.cell? ⟨b, off + i, none⟩ = some (.int .i64 m) := (HD2.below.cell (p := ⟨b, off + i, none⟩) hb).trans HY00.out
        clear hi2 hu2d hR H
        go_upto_region 6 with fail
        go_region_held3 (fun w' => w'.cell? ⟨b, off + i, none⟩ = some (.int .i64 m))
          (first | assumption | go_keep)
          (first
            | (go_at_call 41; (with_reducible refine (HCL.out wr.drew HD1.below).mono ?_); rintro e w5 ⟨rv, rn, rfl, hrn, H5⟩; have HRN := Lib.hid hrn; obtain ⟨Ar, cr, rfl, _, _, _⟩ := Res.row_at H5.h0; have H6 := (H5.join HD1).rowBox 3 #[.int .i64 (m : Int)] 1 1 rfl (by decide); have z5 : w5.cell? ⟨b, off + i, none⟩ = some (.int .i64 m) := ((H5.join HD1).below.cell (p := ⟨b, off + i, none⟩) hb).trans HY00.out; have z6 : (w5.alloc (.cells #[.int .i64 (m : Int)] 3)).cell? ⟨b, off + i, none⟩ = some (.int .i64 m) := (H6.below.cell (p := ⟨b, off + i, none⟩) hb).trans HY00.out; have hrd := row_RdP H6.h1; have hb1 := (HBG.out rn hrn).1; have hb2 := (HBG.out rn hrn).2; clear hrn)
            | (go_at_call 41; (with_reducible refine (HCL.out _ HD2.below).mono ?_); rintro e w5 ⟨rv, rn, rfl, hrn, H5⟩; have HRN := Lib.hid hrn; obtain ⟨Ar, cr, rfl, _, _, _⟩ := Res.row_at H5.h0; have H6 := (H5.join HD2).g1; have z5 : w5.cell? ⟨b, off + i, none⟩ = some (.int .i64 m) := (H6.below.cell (p := ⟨b, off + i, none⟩) hb).trans HY00.out; have hrd := row_RdP H6.h1; have hb1 := (HBG.out rn hrn).1; have hb2 := (HBG.out rn hrn).2; clear hrn)
            | (refine step_app rfl (.tmp 29) (.tmp 39) 22 (by rfl) 3 j0 _ 1 8 Tryz.underlying22 hj hy0 hy1 hy2 rfl (by decide) _ _ _ (by rfl) H6 _ _ _ (ic (nl R)) (by rfl) hrd ic_one hb1 hb2 ?_; intro v7 w7 H7; have z7 : w7.cell? ⟨b, off + i, none⟩ = some (.int .i64 m) := (H7.below.cell (p := ⟨b, off + i, none⟩) hb).trans HY00.out))
        all_goals
          obtain ⟨q, hq⟩ : ∃ q, q = 1 + rn := ⟨_, rfl⟩
          rw [← hq] at H7
          have HX7 : Hid (ic (nl (m :: R)) = [.int .i64 (m : Int)] ++ ic (nl R)) := Lib.hid rfl
          have HN7 : Hid (q = (m :: R).length) := Lib.hid (by rw [List.length_cons, ← HRN.out]; omega)
          have hqk : q ≤ k := by have := HRL.out; have := HRN.out; omega
          obtain ⟨A7, c7, rfl, _, _, _⟩ := Res.row_at H7.h0
          rw [← HX7.out] at H7
          have hstep : pkB (A.drop (i + 1)) u (if (m :: R).length > B.length then m :: R else B) = pk (A.drop at0) u := by
            rw [HRR.out, HI2.out, HU2.out, ← HB.out]
            exact (pkB_yes HMM.out HA1.out.symm).symm
          have HST := Lib.hid hstep
          clear hstep hq H6 hrd hb1 hb2 H5 HD1 HD2 z1 z2 z5 z7 e6
          by_cases hlt : n < q
          · have HTK : Hid (pkB (A.drop (i + 1)) u (m :: R) = pk (A.drop at0) u) := Lib.hid (by
              have := HST.out
              rw [if_pos (by rw [← HN7.out, ← HN.out]; exact hlt)] at this
              exact this)
            have hlti2 : (n : Int) < (q : Int) := by omega
            go_wp2
            go_roundw
            case rel => exact ⟨i + 1, q, m :: R, _, by omega, by omega, by go_num, rfl, hqk, HN7, HTK, H7.drop2.drop2⟩
            case measure => simp [intOf]; omega
          · have HTK : Hid (pkB (A.drop (i + 1)) u B = pk (A.drop at0) u) := Lib.hid (by
              have := HST.out
              rw [if_neg (by rw [← HN7.out, ← HN.out]; exact hlt)] at this
              exact this)
            have hlti2 : ¬ (n : Int) < (q : Int) := by omega
            go_wp2
            go_roundw
            case rel => exact ⟨i + 1, n, B, _, by omega, by omega, by go_num, rfl, hnk, HN, HTK, H7.g2.drop2.drop2⟩
            case measure => simp [intOf]; omega
      · have hz1 : ((a : Int) != 0) = true := by simp; omega
        have HTK : Hid (pkB (A.drop (i + 1)) u B = pk (A.drop at0) u) := Lib.hid (by
          rw [← HB.out, pkB_no HMM.out (by rw [← HA1.out]; exact hz)])
        clear hz
        go_wp2
        go_roundw
        case rel => exact ⟨i + 1, n, B, _, by omega, by omega, by go_num, rfl, hnk, HN, HTK, H⟩
        case measure => simp [intOf]; omega
    · obtain rfl : k = i := by omega
      have HTK : Hid (B = pk (A.drop at0) u) := Lib.hid (by rw [← HB.out]; exact (pkB_end HK.out).symm)
      go_wp2
      go_ret
      exact PckPost.mk HTK.out HN.out H
theorem pck_c (lv : Value) (A : List Nat) : ∀ d at0, at0 + d = A.length → PckC lv A at0 := by
  intro d
  induction d using Nat.strongRecOn with
  | _ d ih =>
    intro at0 h
    exact pck_step lv A at0 (by omega) fun j h1 h2 => ih (A.length - j) (by omega) j (by omega)
end Go.Proofs.YtfmkmjebkmimkaaGreat

namespace Go.Proofs.YtfmkmjebkmimkaaGreat
open Go.RowKit

set_option maxRecDepth 100000 in
set_option maxHeartbeats 3200000 in
theorem spec_lg_c {v v2 : Value} {r : Reg} {ps : List (List Cell)} (w : World) (h : RegRd w 0 w.heap.size v r) (h2 : CellSSRd w 0 w.heap.size v2 ps) (hn : ps.length ≤ 1048576) (hl : ∀ s ∈ ps, s.length ≤ 1048576) :
    Calls Tryz.prog 19 #[v, v2] w (LgPost r ps w) := by
  have HRD : Hid (∀ w1, Below w.heap.size w w1 → RegRd w1 0 w1.heap.size v r) := Lib.hid fun w1 b1 => (h.keep (SameIn.of_below b1 (Nat.le_refl _))).more (Nat.le_refl _) b1.size
  have HR2 : Hid (∀ w1, Below w.heap.size w w1 → CellSSRd w1 0 w1.heap.size v2 ps) := Lib.hid fun w1 b1 => (h2.keep (SameIn.of_below b1 (Nat.le_refl _))).more (Nat.le_refl _) b1.size
  obtain ⟨T, hT⟩ : ∃ T, T = smlB r ps := ⟨_, rfl⟩
  have HT := Lib.hid hT
  obtain ⟨sr, rfl, hsr⟩ := h
  obtain ⟨A0, c, rfl, _, _⟩ := hsr
  obtain ⟨vs, ⟨A2, c2, rfl, _, _⟩, _⟩ := h2
  have H0 := (Sep.start w).box 28 #[.int .i64 r.w, .slice A0 r.rows.length c]
  obtain ⟨g, hg⟩ : ∃ g, g = w.heap.size := ⟨_, rfl⟩
  rw [← hg] at H0
  go_enter Tryz.func19, Tryz.ntmps19
  go_upto_region 1 with fail
  rw [← hg]
  generalize (w.alloc (.cells #[.int .i64 r.w, .slice A0 r.rows.length c] 28)) = W at *
  clear hg
  have c0 : W.cell? ⟨g, 0, none⟩ = some (.int .i64 r.w) := H0.h0.cell 0
  have c1 : W.cell? ⟨g, 1, none⟩ = some (.slice A0 r.rows.length c) := H0.h0.cell 1
  have HP := Lib.hid (spec_small_c W (HRD.out W H0.below) (HR2.out W H0.below) hn hl)
  rw [← hT] at HP
  clear hT
  go_wp2_with fail
  refine (HP.out).mono ?_
  rintro e w1 ⟨rfl, b1⟩
  have H1 := H0.step b1
  clear c0 c1 H0 HP b1
  cases T
  · have H2 := H1.rowBox 3 #[] 1 0 rfl (by decide)
    go_wp2
    go_ret2
    exact LgPost.mk (O := []) (n := 0) HT.out (by rw [lgP, if_neg (by rw [← HT.out]; decide)]) rfl H2
  have hkk : (r.valid && arePcs ps) = true := by
    have := HT.out.symm
    unfold smlB at this
    rw [Bool.and_eq_true] at this
    exact this.1
  rw [Bool.and_eq_true] at hkk
  have HV := Lib.hid (Reg.valid_iff.1 hkk.1)
  have HAP := Lib.hid hkk.2
  have c0 : w1.cell? ⟨g, 0, none⟩ = some (.int .i64 r.w) := H1.h0.cell 0
  have c1 : w1.cell? ⟨g, 1, none⟩ = some (.slice A0 r.rows.length c) := H1.h0.cell 1
  have HALL := Lib.hid (spec_all_c w1 (HRD.out w1 H1.below) (HR2.out w1 H1.below) HV.out HAP.out)
  obtain ⟨A, hA⟩ : ∃ A, A = allN r ps := ⟨_, rfl⟩
  have HA := Lib.hid hA
  rw [← nl_allN HV.out, ← hA] at HALL
  have HAL : Hid (A.length ≤ 1000000) := Lib.hid (by
    have h1 := allP_len HV.out (ps := ps)
    have h2 := (arePcs_on HAP.out).2.2
    have h3 : ps.length * 288 ≤ 5 * 288 := Nat.mul_le_mul_right _ (by omega)
    have h4 : A.length = (allP r ps).length := by rw [← nl_allN HV.out, ← hA]; simp [nl]
    omega)
  have HMS : Hid (∀ m ∈ A, m < 2 ^ 36) := Lib.hid (by rw [hA]; exact allN_lt HV.out)
  have HLG : Hid (lgP r ps = pk A 0) := Lib.hid (by rw [lgP, if_pos HT.out.symm, hA])
  clear hkk hA
  go_wp2_with fail
  refine (HALL.out).mono ?_
  rintro e w2 ⟨v3, rfl, o3, b3⟩
  have hrd : IntsRd w2 0 w2.heap.size v3 (nl A) := (IntsIn.rd o3).more (Nat.zero_le _) (Nat.le_refl _)
  obtain ⟨Av, cv, rfl, _, _⟩ := id hrd
  have HPC := Lib.hid (pck_c _ A A.length 0 (Nat.zero_add _) w2 0 hrd HMS.out HAL.out (by decide))
  have H3 := H1.step b3
  clear c0 c1 HALL o3 b3 H1 hrd
  go_wp2_with fail
  refine (HPC.out).mono ?_
  rintro e w4 ⟨pv, pn, rfl, hpn, H4⟩
  have H5 := H4.join H3
  have HPN := Lib.hid hpn
  obtain ⟨Ap, cp, rfl, _, _, _⟩ := Res.row_at H4.h0
  clear H4 H3 hpn HPC
  go_wp2
  go_ret2
  exact LgPost.mk HT.out HLG.out HPN.out H5
end Go.Proofs.YtfmkmjebkmimkaaGreat
