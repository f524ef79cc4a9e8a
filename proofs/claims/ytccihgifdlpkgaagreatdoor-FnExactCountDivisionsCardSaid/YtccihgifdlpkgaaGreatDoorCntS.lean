
/-
  How many tilings, at most so many: the reference's walk.
-/
import Derived.Test.YtccihgifdlpkgaaGreatDoorSrcS
import Derived.Test.YtccihgifdlpkgaaGreatDoorCntI
namespace Go.Proofs.YtccihgifdlpkgaaGreatDoor
open Go.RowKit

def cntX (A : List Nat) (free most i : Nat) : Nat := min most ((A.take i).flatMap (tilAt A free)).length
theorem cntX_no {A : List Nat} {free most i m : Nat} (hm : A[i]? = some m) (hf : fitB free m = false) : cntX A free most (i + 1) = cntX A free most i := by
  unfold cntX
  rw [tilAt_take hm, show tilAt A free m = [] by unfold tilAt; rw [hf]; rfl, List.append_nil]
theorem cntX_yes {A : List Nat} {free most i m : Nat} (hm : A[i]? = some m) (hf : fitB free m = true) (hn : cntX A free most i < most) :
    cntX A free most (i + 1) = cntX A free most i + cntU A (free - m) (most - cntX A free most i) := by
  unfold cntX cntU at *
  rw [tilAt_take hm, List.length_append, show tilAt A free m = (til A (free - m)).map (m :: ·) by unfold tilAt; rw [if_pos hf], List.length_map]
  omega
theorem cntX_end {A : List Nat} {free most : Nat} (h0 : free ≠ 0) : cntX A free most A.length = cntU A free most := by
  unfold cntX cntU
  rw [til_pos h0, List.take_length]
theorem cntX_full {A : List Nat} {free most i : Nat} (h0 : free ≠ 0) (h : most ≤ cntX A free most i) : cntX A free most i = cntU A free most := by
  have h1 : (til A free).length = ((A.take i).flatMap (tilAt A free)).length + ((A.drop i).flatMap (tilAt A free)).length := by
    rw [til_pos h0, ← List.length_append, ← List.flatMap_append, List.take_append_drop]
  unfold cntX cntU at *
  omega
theorem cntX_le {A : List Nat} {free most i : Nat} : cntX A free most i ≤ most := Nat.min_le_left _ _
def CntC (v : Value) (A : List Nat) (free : Nat) : Prop := ∀ (most : Nat) (w : World), IntsRd w 0 w.heap.size v (nl A) → 1 ≤ most → most ≤ 1000000 →
  Calls Tryz.prog 52 #[v, .int .i64 free, .int .i64 most] w fun e w' => e = .returned (.int .i64 (cntU A free most : Nat)) ∧ Below w.heap.size w w'
set_option maxRecDepth 100000 in
set_option maxHeartbeats 1600000 in
theorem cnt_zero (v : Value) (A : List Nat) : CntC v A 0 := by
  intro most w h h1 h2
  have HM : Hid (cntU A 0 most = 1) := Lib.hid (by unfold cntU; rw [til_zero, List.length_singleton]; omega)
  obtain ⟨R, hR⟩ : ∃ R, R = cntU A 0 most := ⟨_, rfl⟩
  rw [← hR]
  obtain rfl : R = 1 := by rw [hR, HM.out]
  obtain ⟨Av, cv, rfl, _, _⟩ := h
  clear h1 h2 hR
  go_enter Tryz.func52, Tryz.ntmps52
  go_wp2
  go_ret
  exact ⟨rfl, Below.refl _ _⟩
set_option maxRecDepth 100000 in
set_option maxHeartbeats 3200000 in
theorem cnt_step {v : Value} {A : List Nat} (hA : ∀ m ∈ A, m < 2 ^ 36) {free : Nat} (h0 : free ≠ 0) (hf : free < 2 ^ 36) (ih : ∀ k, k < free → CntC v A k) : CntC v A free := by
  intro most w h hm1 hm2
  have HIH := Lib.hid ih
  have HA := Lib.hid hA
  have HF := Lib.hid hf
  have H00 := Lib.hid h0
  have HRD : Hid (∀ w1, Below w.heap.size w w1 → IntsRd w1 0 w1.heap.size v (nl A)) := Lib.hid fun w1 b1 => (h.keep (SameIn.of_below b1 (Nat.le_refl _))).more (Nat.le_refl _) b1.size
  obtain ⟨low, hlow⟩ : ∃ low, low = lowB free := ⟨_, rfl⟩
  have HLOW := Lib.hid hlow
  have hl64 : low < 64 := by rw [hlow]; exact lowB_lt hf
  obtain ⟨Av, cv, rfl, hmv, hrv⟩ := h
  obtain ⟨L, hL⟩ : ∃ L, L = A.length := ⟨_, rfl⟩
  have e0 : (nl A).length = L := by rw [hL]; simp [nl]
  rw [e0] at hmv hrv
  unfold maxLen at hmv
  have HRV := Lib.hid hrv
  have HL := Lib.hid hL
  have HLW := Lib.hid (spec_low_c w h0 hf)
  rw [← hlow] at HLW
  have HE0 := Lib.hid e0
  rw [e0] at ⊢
  have hz : ((free : Int) == 0) = false := by simp; omega
  obtain ⟨R, hR⟩ : ∃ R, R = cntU A free most := ⟨_, rfl⟩
  rw [← hR]
  have HR := Lib.hid hR
  clear hA hf h0 ih hlow hrv hL e0 hR
  go_enter Tryz.func52, Tryz.ntmps52
  go_wp2_with fail
  refine (HLW.out).mono ?_
  rintro e w1 ⟨rfl, rfl⟩
  clear HLW
  go_wp2
  go_loopw [7, 9] (fun nv iv wx => ∃ (i n : Nat), i ≤ L ∧ iv = .int .i64 i ∧ nv = .int .i64 n ∧ Hid (n = cntX A free most i) ∧ Below w.heap.size w wx) (fun _ iv _ => L - (intOf iv).toNat)
  case atStart => exact ⟨0, 0, Nat.zero_le _, rfl, rfl, Lib.hid (by simp [cntX]), Below.refl _ _⟩
  case round =>
    obtain ⟨i, n, hiL, rfl, rfl, HN, H⟩ := hrel
    have hnm : n ≤ most := by rw [HN.out]; exact cntX_le
    by_cases hlt : i < L
    · have hlti : (i : Int) < (L : Int) := by omega
      by_cases hnl : n < most
      · have hnli : (n : Int) < (most : Int) := by omega
        obtain ⟨m, hm⟩ : ∃ m, A[i]? = some m := ⟨A[i]'(by rw [← HL.out]; exact hlt), List.getElem?_eq_getElem _⟩
        obtain ⟨b, off, hA1, _, hb, hc⟩ := HRV.out.2 (by omega)
        subst hA1
        have x1 := (H.cell (p := ⟨b, off + i, none⟩) hb).trans (hc i (.int .i64 m) (by simp [ic, nl, hm]))
        have hm36 := HA.out m (List.mem_of_getElem? hm)
        have HM36 := Lib.hid hm36
        have HMA := Lib.hid hm
        have hbit := bit_test (m := m) (x := low) (by omega)
        have hand := i64_and_nat m free (by omega) (by have := HF.out; omega)
        have HX1 : Hid (w.cell? ⟨b, off + i, none⟩ = some (.int .i64 m)) := Lib.hid (hc i (.int .i64 m) (by simp [ic, nl, hm]))
        clear hc hm
        cases hb1 : m.testBit low
        · have HS : Hid (cntX A free most (i + 1) = cntX A free most i) := Lib.hid (cntX_no HMA.out (by unfold fitB; rw [← HLOW.out, hb1]; rfl))
          rw [hb1] at hbit
          clear hb1 hand hm36
          go_wp2_with fail
          go_quiet (fail)
          have H2 := below_drewN H nq
          generalize wr.drewN nq = w2 at *
          go_wp2
          go_roundw
          case rel => exact ⟨i + 1, n, by omega, by go_num, rfl, by rw [HS.out]; exact HN, H2⟩
          case measure => simp [intOf]; omega
        · rw [hb1] at hbit
          cases hsub : (m &&& free == m)
          · have hne : (bits .and .i64 (m : Int) (free : Int) == (m : Int)) = false := by
              rw [hand]
              simp only [beq_eq_false_iff_ne, ne_eq] at hsub
              simp only [beq_eq_false_iff_ne, ne_eq]
              omega
            have HS : Hid (cntX A free most (i + 1) = cntX A free most i) := Lib.hid (cntX_no HMA.out (by unfold fitB; rw [hsub, Bool.and_false]))
            clear hb1 hand hm36 hsub
            go_wp2_with fail
            go_quiet (fail)
            have H2 := below_drewN H nq
            generalize wr.drewN nq = w2 at *
            go_wp2
            go_roundw
            case rel => exact ⟨i + 1, n, by omega, by go_num, rfl, by rw [HS.out]; exact HN, H2⟩
            case measure => simp [intOf]; omega
          · have hne : (bits .and .i64 (m : Int) (free : Int) == (m : Int)) = true := by
              rw [hand]
              simp only [beq_iff_eq] at hsub
              rw [hsub]
              simp
            have hfit : fitB free m = true := by unfold fitB; rw [← HLOW.out, hb1, hsub]; rfl
            obtain ⟨f2, hf2⟩ : ∃ f2, f2 = free - m := ⟨_, rfl⟩
            obtain ⟨k2, hk2⟩ : ∃ k2, k2 = most - n := ⟨_, rfl⟩
            have hmf := fit_le hfit
            have hff := HF.out
            have e1 : (free : Int) - (m : Int) = (f2 : Int) := by omega
            have e2 : IntKind.i64.wrap ((free : Int) - (m : Int)) = (f2 : Int) := by rw [e1]; exact IntWalk.i64_in _ (by omega)
            have e3 : (most : Int) - (n : Int) = (k2 : Int) := by omega
            have e4 : IntKind.i64.wrap ((most : Int) - (n : Int)) = (k2 : Int) := by rw [e3]; exact IntWalk.i64_in _ (by omega)
            have hk21 : 1 ≤ k2 := by omega
            have hk22 : k2 ≤ 1000000 := by omega
            obtain ⟨c2, hc2⟩ : ∃ c2, c2 = cntU A f2 k2 := ⟨_, rfl⟩
            have hc2k : c2 ≤ k2 := by rw [hc2]; exact Nat.min_le_left _ _
            have HS : Hid (cntX A free most (i + 1) = n + c2) := Lib.hid (by
              have := cntX_yes HMA.out hfit (by rw [← HN.out]; exact hnl)
              rw [← HN.out, ← hf2, ← hk2, ← hc2] at this
              exact this)
            obtain ⟨n2, hn2⟩ : ∃ n2, n2 = n + c2 := ⟨_, rfl⟩
            have e5 : IntKind.i64.wrap ((n : Int) + (c2 : Int)) = (n2 : Int) := by
              have : (n : Int) + (c2 : Int) = (n2 : Int) := by omega
              rw [this]; exact IntWalk.i64_in _ (by omega)
            rw [← hn2] at HS
            have HIH2 := Lib.hid (HIH.out f2 (by rw [hf2]; exact fit_lt hfit))
            have HC2 := Lib.hid hc2
            clear hb1 hand hm36 hsub hfit hf2 hk2 hmf hff hc2 hn2
            go_wp2_with fail
            go_quiet (fail)
            have H2 := below_drewN H nq
            generalize wr.drewN nq = w2 at *
            have y1 : w2.cell? ⟨b, off + i, none⟩ = some (.int .i64 m) := (H2.cell (p := ⟨b, off + i, none⟩) hb).trans HX1.out
            have HCL := Lib.hid (HIH2.out k2 w2 (HRD.out w2 H2) hk21 hk22)
            rw [HE0.out, ← HC2.out] at HCL
            clear x1 H e1 e3
            go_wp2_with fail
            refine (HCL.out).mono ?_
            rintro e w3 ⟨rfl, b3⟩
            have H4 := H2.trans (b3.mono H2.size)
            clear b3 H2 HCL y1 e2 e4
            go_wp2
            go_roundw
            case rel => exact ⟨i + 1, n2, by omega, by go_num, rfl, Lib.hid HS.out.symm, H4⟩
            case measure => simp [intOf]; omega
      · have hnli : ¬ (n : Int) < (most : Int) := by omega
        obtain rfl : R = n := by rw [HR.out, HN.out]; exact (cntX_full H00.out (by rw [← HN.out]; omega)).symm
        go_wp2
        go_ret
        exact ⟨rfl, H⟩
    · obtain rfl : i = L := by omega
      obtain rfl : R = n := by rw [HR.out, HN.out, HL.out]; exact (cntX_end H00.out).symm
      go_wp2
      go_ret
      exact ⟨rfl, H⟩
theorem count8_c {v : Value} {A : List Nat} (hA : ∀ m ∈ A, m < 2 ^ 36) : ∀ free, free < 2 ^ 36 → CntC v A free := by
  intro free
  induction free using Nat.strongRecOn with
  | _ free ih =>
    intro hf
    by_cases h0 : free = 0
    · subst h0
      exact cnt_zero v A
    · exact cnt_step hA h0 hf fun k hk => ih k hk (by omega)
end Go.Proofs.YtccihgifdlpkgaaGreatDoor
