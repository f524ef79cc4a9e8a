
/-
  The reference's search: the first tilings, at most so many. Is there a tiling, and which comes first? The reference's walks, and whether there is one: both.
-/
import Derived.Test.YtjkppigjajknaaaGreatDoorTilP
import Derived.Test.YtjkppigjajknaaaGreatDoorRowX
import Derived.Test.YtjkppigjajknaaaGreatDoorSepX
import Derived.Test.YtjkppigjajknaaaGreatDoorPairR
import Derived.Test.YtjkppigjajknaaaGreatDoorFtX
import Derived.Test.YtjkppigjajknaaaGreatDoorPlcSX
namespace Go.Proofs.YtjkppigjajknaaaGreatDoor
open Go.RowKit

set_option maxRecDepth 100000 in
theorem infoIntL : (Tryz.prog.info? 29).map (fun i => (i.zero, i.size, i.bytes)) = some (some (.slice none 0 0), 1, 24) := by kernel_rfl
set_option maxRecDepth 100000 in
theorem infoInt9 : (Tryz.prog.info? 3).map (fun i => (i.zero, i.size, i.bytes)) = some (some (.int .i64 0), 1, 8) := by kernel_rfl
/-- the first tilings, as rows of numbers -/
def srcM (A : List Nat) (free most : Nat) : List (List Int) := ((til A free).take most).map nl
/-- .. by the first i placements -/
def srcI (A : List Nat) (free most i : Nat) : List (List Int) := (((A.take i).flatMap (tilAt A free)).take most).map nl
theorem srcM_len {A : List Nat} {free most : Nat} : (srcM A free most).length ≤ most := by unfold srcM; rw [List.length_map, List.length_take]; omega
theorem srcI_len {A : List Nat} {free most i : Nat} : (srcI A free most i).length ≤ most := by unfold srcI; rw [List.length_map, List.length_take]; omega
theorem srcM_zero {A : List Nat} {most : Nat} (h : 1 ≤ most) : srcM A 0 most = [[]] := by
  obtain ⟨k, rfl⟩ : ∃ k, most = k + 1 := ⟨most - 1, by omega⟩
  unfold srcM
  rw [til_zero, List.take_succ_cons, List.take_nil]; rfl
theorem srcI_no {A : List Nat} {free most i m : Nat} (hm : A[i]? = some m) (hf : fitB free m = false) : srcI A free most (i + 1) = srcI A free most i := by
  unfold srcI
  rw [tilAt_take hm, show tilAt A free m = [] by unfold tilAt; rw [hf]; rfl, List.append_nil]
theorem srcI_yes {A : List Nat} {free most i m : Nat} (hm : A[i]? = some m) (hf : fitB free m = true) (hn : (srcI A free most i).length < most) :
    srcI A free most (i + 1) = srcI A free most i ++ (srcM A (free - m) (most - (srcI A free most i).length)).map ((m : Int) :: ·) := by
  have hX : (srcI A free most i).length = ((A.take i).flatMap (tilAt A free)).length := by
    unfold srcI at hn ⊢
    rw [List.length_map, List.length_take] at hn ⊢
    omega
  rw [hX] at hn ⊢
  unfold srcI srcM
  rw [tilAt_take hm]
  generalize (A.take i).flatMap (tilAt A free) = X at *
  rw [List.take_append, List.map_append, show tilAt A free m = (til A (free - m)).map (m :: ·) by unfold tilAt; rw [if_pos hf]]
  congr 1
  rw [← List.map_take, List.map_map, List.map_map]
  rfl
theorem srcI_full {A : List Nat} {free most i : Nat} (h0 : free ≠ 0) (h : most ≤ (srcI A free most i).length) : srcI A free most i = srcM A free most := by
  unfold srcI at h
  rw [List.length_map] at h
  unfold srcI srcM
  rw [til_pos h0, take_full h]
theorem srcI_end {A : List Nat} {free most : Nat} (h0 : free ≠ 0) : srcI A free most A.length = srcM A free most := by
  unfold srcI srcM
  rw [til_pos h0, List.take_length]
theorem srcM_row {A : List Nat} {free most : Nat} (hf : free < 2 ^ 36) {r : List Int} (h : r ∈ srcM A free most) : r.length ≤ 36 := by
  obtain ⟨t, ht, rfl⟩ := List.mem_map.1 h
  have := til_len36 hf (List.mem_of_mem_take ht)
  simpa [nl] using this
def SrchPost (A : List Nat) (free most : Nat) (w : World) (e : Ending) (w' : World) : Prop := ∃ g n c vs, e = .returned (.slice (some ⟨g, 0, none⟩) n c) ∧ n = (srcM A free most).length ∧ Sep w w' [Res.row (.slice (some ⟨g, 0, none⟩) n c) 29 1 n vs, Res.rows vs (srcM A free most)]
theorem SrchPost.mk {A : List Nat} {free most : Nat} {w w' : World} {M : List (List Int)} {g n c : Nat} {vs : List Value} (hM : M = srcM A free most) (hn : n = M.length) (H : Sep w w' [Res.row (.slice (some ⟨g, 0, none⟩) n c) 29 1 n vs, Res.rows vs M]) : SrchPost A free most w (.returned (.slice (some ⟨g, 0, none⟩) n c)) w' := by
  subst hM
  exact ⟨g, n, c, vs, rfl, hn, H⟩
def SrchC (v : Value) (A : List Nat) (free : Nat) : Prop := ∀ (most : Nat) (w : World), IntsRd w 0 w.heap.size v (nl A) → 1 ≤ most → most ≤ 1000000 →
  Calls Tryz.prog 81 #[v, .int .i64 free, .int .i64 most] w (SrchPost A free most w)
theorem oneAny {v : Value} (h : v.oneCell' = true) : ∀ u ∈ [v], u.oneCell' = true := by intro u hu; simp at hu; subst hu; exact h
set_option maxRecDepth 100000 in
set_option maxHeartbeats 1600000 in
theorem srch_zero (v : Value) (A : List Nat) : SrchC v A 0 := by
  intro most w h h1 h2
  have Ha := (Sep.start w).rowBox 3 #[] 1 0 rfl (by decide)
  have Hb := Sep.rowsSnoc (r := []) Ha.rowsNil rfl
  have H0 := Hb.rowBox 29 #[.slice (some ⟨w.heap.size, 0, none⟩) 0 0] 1 1 rfl (by decide)
  simp only [World.size_alloc] at H0
  clear Ha Hb
  have HM := Lib.hid (srcM_zero (A := A) h1)
  obtain ⟨Av, cv, rfl, _, _⟩ := h
  clear h1 h2
  go_enter Tryz.func81, Tryz.ntmps81
  go_wp2
  go_ret
  exact SrchPost.mk HM.out.symm rfl H0
set_option maxRecDepth 100000 in
set_option maxHeartbeats 3200000 in
theorem srch_step {v : Value} {A : List Nat} (hA : ∀ m ∈ A, m < 2 ^ 36) {free : Nat} (h0 : free ≠ 0) (hf : free < 2 ^ 36) (ih : ∀ k, k < free → SrchC v A k) : SrchC v A free := by
  intro most w h hm1 hm2
  obtain ⟨i0, hi, hz0, hz1, hz2⟩ := info_parts infoIntL
  obtain ⟨j0, hj, hy0, hy1, hy2⟩ := info_parts infoInt9
  have HIH := Lib.hid ih
  have HA := Lib.hid hA
  have HF := Lib.hid hf
  have H00 := Lib.hid h0
  have HRD : Hid (∀ w1, Below w.heap.size w w1 → IntsRd w1 0 w1.heap.size v (nl A)) := Lib.hid fun w1 b1 => (h.keep (SameIn.of_below b1 (Nat.le_refl _))).more (Nat.le_refl _) b1.size
  obtain ⟨low, hlow⟩ : ∃ low, low = lowB free := ⟨_, rfl⟩
  have HLOW := Lib.hid hlow
  have hl64 : low < 64 := by rw [hlow]; exact lowB_lt hf
  obtain ⟨Av, cv, rfl, hmv, hrv⟩ := h
  obtain ⟨L, hL⟩ : ∃ L, L = A.length := ⟨_, rfl⟩
  have e0 : (nl A).length = L := by rw [hL]; simp [nl]
  rw [e0] at hmv hrv
  unfold maxLen at hmv
  have HRV := Lib.hid hrv
  have HL := Lib.hid hL
  have HLW := Lib.hid (spec_low_c w h0 hf)
  rw [← hlow] at HLW
  have HE0 := Lib.hid e0
  rw [e0] at ⊢
  have H1 := (((Sep.start w).rowsNil).rowBox 29 #[] 1 0 rfl (by decide))
  have hz : ((free : Int) == 0) = false := by simp; omega
  clear hA hf h0 ih hlow hrv hL e0
  go_enter Tryz.func81, Tryz.ntmps81
  go_upto_region 4 with fail
  generalize w.alloc (.cells #[] 29) = W at *
  have HLW2 := Lib.hid (spec_low_c (m := free) W H00.out HF.out)
  rw [← HLOW.out] at HLW2
  clear HLW
  go_wp2_with fail
  refine (HLW2.out).mono ?_
  rintro e w1 ⟨rfl, rfl⟩
  clear HLW2
  go_wp2
  go_loopw [7, 9] (fun ov iv wx => ∃ (i n g c : Nat) (vs : List Value) (M : List (List Int)), i ≤ L ∧ iv = .int .i64 i ∧ ov = .slice (some ⟨g, 0, none⟩) n c ∧ Hid (M = srcI A free most i) ∧ Hid (n = M.length) ∧ Sep w wx [Res.row (.slice (some ⟨g, 0, none⟩) n c) 29 1 n vs, Res.rows vs M]) (fun _ iv _ => L - (intOf iv).toNat)
  case atStart => exact ⟨0, 0, _, _, [], [], Nat.zero_le _, rfl, rfl, Lib.hid (by simp [srcI]), Lib.hid rfl, H1⟩
  case round =>
    clear H1
    obtain ⟨i, n, g, c, vs, M, hiL, rfl, rfl, HM, HN, H⟩ := hrel
    have hnm : n ≤ most := by rw [HN.out, HM.out]; exact srcI_len
    by_cases hlt : i < L
    · have hlti : (i : Int) < (L : Int) := by omega
      by_cases hnl : n < most
      · have hnli : (n : Int) < (most : Int) := by omega
        obtain ⟨m, hm⟩ : ∃ m, A[i]? = some m := ⟨A[i]'(by rw [← HL.out]; exact hlt), List.getElem?_eq_getElem _⟩
        obtain ⟨b, off, hA1, _, hb, hc⟩ := HRV.out.2 (by omega)
        subst hA1
        have x1 := (H.below.cell (p := ⟨b, off + i, none⟩) hb).trans (hc i (.int .i64 m) (by simp [ic, nl, hm]))
        have hm36 := HA.out m (List.mem_of_getElem? hm)
        have HM36 := Lib.hid hm36
        have HMA := Lib.hid hm
        have hbit := bit_test0 (m := m) (x := low) (by omega)
        have hand := i64_and_nat m free (by omega) (by have := HF.out; omega)
        have HX1 : Hid (w.cell? ⟨b, off + i, none⟩ = some (.int .i64 m)) := Lib.hid (hc i (.int .i64 m) (by simp [ic, nl, hm]))
        clear hc hm
        cases hb1 : m.testBit low
        · have HS : Hid (srcI A free most (i + 1) = srcI A free most i) := Lib.hid (srcI_no HMA.out (by unfold fitB; rw [← HLOW.out, hb1]; rfl))
          rw [hb1] at hbit
          clear hb1 hand hm36
          go_wp2_with fail
          go_quiet (fail)
          go_wp2
          go_roundw
          case rel => exact ⟨i + 1, n, g, c, vs, M, by omega, by go_num, rfl, by rw [HS.out]; exact HM, HN, H.drewN _⟩
          case measure => simp [intOf]; omega
        · rw [hb1] at hbit
          cases hsub : (m &&& free == m)
          · have hne : (bits .and .i64 (m : Int) (free : Int) != (m : Int)) = true := by
              rw [hand]
              simp only [beq_eq_false_iff_ne, ne_eq] at hsub
              simp only [bne_iff_ne, ne_eq]
              omega
            have HS : Hid (srcI A free most (i + 1) = srcI A free most i) := Lib.hid (srcI_no HMA.out (by unfold fitB; rw [hsub, Bool.and_false]))
            clear hb1 hand hm36 hsub
            go_wp2_with fail
            go_quiet (fail)
            go_wp2
            go_roundw
            case rel => exact ⟨i + 1, n, g, c, vs, M, by omega, by go_num, rfl, by rw [HS.out]; exact HM, HN, H.drewN _⟩
            case measure => simp [intOf]; omega
          · have hne : (bits .and .i64 (m : Int) (free : Int) != (m : Int)) = false := by
              rw [hand]
              simp only [beq_iff_eq] at hsub
              rw [hsub]
              simp
            have hfit : fitB free m = true := by unfold fitB; rw [← HLOW.out, hb1, hsub]; rfl
            have HFIT := Lib.hid hfit
            obtain ⟨f2, hf2⟩ : ∃ f2, f2 = free - m := ⟨_, rfl⟩
            obtain ⟨k2, hk2⟩ : ∃ k2, k2 = most - n := ⟨_, rfl⟩
            have hmf := fit_le hfit
            have hff := HF.out
            have e1 : (free : Int) - (m : Int) = (f2 : Int) := by omega
            have e2 : IntKind.i64.wrap ((free : Int) - (m : Int)) = (f2 : Int) := by rw [e1]; exact IntWalk.i64_in _ (by omega)
            have e3 : (most : Int) - (n : Int) = (k2 : Int) := by omega
            have e4 : IntKind.i64.wrap ((most : Int) - (n : Int)) = (k2 : Int) := by rw [e3]; exact IntWalk.i64_in _ (by omega)
            have hk21 : 1 ≤ k2 := by omega
            have hk22 : k2 ≤ 1000000 := by omega
            have HF2 : Hid (f2 < 2 ^ 36) := Lib.hid (by omega)
            have hf2b : f2 < 68719476736 := by omega
            have HS : Hid (srcI A free most (i + 1) = M ++ (srcM A f2 k2).map ((m : Int) :: ·)) := Lib.hid (by
              have := srcI_yes HMA.out hfit (by rw [← HM.out, ← HN.out]; exact hnl)
              rw [← HM.out, ← HN.out, ← hf2, ← hk2] at this
              exact this)
            have HIH2 := Lib.hid (HIH.out f2 (by rw [hf2]; exact fit_lt hfit))
            clear hb1 hand hm36 hsub hfit hf2 hk2 hmf hff
            go_wp2_with fail
            go_quiet (fail)
            have H2 := H.drewN nq
            generalize wr.drewN nq = w2 at *
            have y1 : w2.cell? ⟨b, off + i, none⟩ = some (.int .i64 m) := (H2.below.cell (p := ⟨b, off + i, none⟩) hb).trans HX1.out
            have HCL := Lib.hid (HIH2.out k2 w2 (HRD.out w2 H2.below) hk21 hk22)
            rw [HE0.out] at HCL
            clear x1 H
            go_wp2_with fail
            refine (HCL.out).mono ?_
            rintro e w3 ⟨g2, n2, c2, vs2, rfl, hn2, H3⟩
            have H4 := H3.join H2
            have HN2 := Lib.hid hn2
            obtain ⟨M2, hM2⟩ : ∃ M2, M2 = srcM A f2 k2 := ⟨_, rfl⟩
            rw [← hM2] at HN2 H4 HS
            have HM2 := Lib.hid hM2
            have hn2k : n2 ≤ k2 := by rw [HN2.out, hM2]; exact srcM_len
            have H5 : Sep w w3 [Res.row (.slice (some ⟨g, 0, none⟩) n c) 29 1 n vs, Res.rows vs M, Res.row (.slice (some ⟨g2, 0, none⟩) n2 c2) 29 1 n2 vs2, Res.rows vs2 M2] := H4.g3.g3
            clear H3 H4 H2 y1 HCL hn2 hM2 e1 e2 e3 e4
            have hM0 : M.length ≤ 1000000 := by rw [← HN.out]; omega
            go_wp2
            go_loopw [7, 11] (fun ov kv wx => ∃ (k n g c : Nat) (vs : List Value) (M' : List (List Int)), k ≤ n2 ∧ kv = .int .i64 k ∧ ov = .slice (some ⟨g, 0, none⟩) n c ∧ Hid (M' = M ++ (M2.take k).map ((m : Int) :: ·)) ∧ Hid (n = M'.length) ∧ Sep w wx [Res.row (.slice (some ⟨g, 0, none⟩) n c) 29 1 n vs, Res.rows vs M', Res.row (.slice (some ⟨g2, 0, none⟩) n2 c2) 29 1 n2 vs2, Res.rows vs2 M2]) (fun _ kv _ => n2 - (intOf kv).toNat)
            case atStart => exact ⟨0, n, g, c, vs, M, Nat.zero_le _, rfl, rfl, Lib.hid (by simp), HN, H5⟩
            case round =>
              clear H5 HN
              obtain ⟨k, n, g, c, vs, M', hk, rfl, rfl, HMM, HN, H⟩ := hrel
              by_cases hltk : k < n2
              · have hltki : (k : Int) < (n2 : Int) := by omega
                have hnb : n ≤ 2000000 := by
                  rw [HN.out, HMM.out, List.length_append, List.length_map, List.length_take]
                  omega
                have hl2 : vs2.length = M2.length := RowsAt.len H.h3
                obtain ⟨rk, hrk⟩ : ∃ rk, M2[k]? = some rk := ⟨M2[k]'(by rw [← HN2.out]; exact hltk), List.getElem?_eq_getElem _⟩
                obtain ⟨u, hu⟩ : ∃ u, vs2[k]? = some u := ⟨vs2[k]'(by rw [hl2, ← HN2.out]; exact hltk), List.getElem?_eq_getElem _⟩
                have hrl : rk.length ≤ 36 := srcM_row HF2.out (by rw [← HM2.out]; exact List.mem_of_getElem? hrk)
                have HA1 := (H.rowBox 3 #[.int .i64 (m : Int)] 1 1 rfl (by decide)).drew
                have hown : (wr.alloc (.cells #[.int .i64 (m : Int)] 3)).drew.ownsRow 0 3 1 u rk.length (ic rk) := RowsAt.own HA1.h4 k u rk hu hrk
                obtain ⟨Au, cu, hue, _, _, HT1⟩ := own_rd hown
                subst hue
                have y1 : wr.drew.cell? ⟨b, off + i, none⟩ = some (.int .i64 m) := (H.drew.below.cell (p := ⟨b, off + i, none⟩) hb).trans HX1.out
                have y2 : wr.drew.cell? ⟨g2, k, none⟩ = some (.slice Au rk.length cu) := by have := own_cell H.drew.h2 hu; rwa [Nat.zero_add] at this
                have y3 : (wr.alloc (.cells #[.int .i64 (m : Int)] 3)).drew.cell? ⟨g2, k, none⟩ = some (.slice Au rk.length cu) := by have := own_cell HA1.h3 hu; rwa [Nat.zero_add] at this
                have HRK := Lib.hid hrk
                clear hl2 hrk hu hown H
                go_wp2_with fail
                go_region_law (first
                  | (refine step_app rfl (.tmp 75) (.tmp 79) 29 (by rfl) 3 j0 _ 1 8 Tryz.underlying29 hj hy0 hy1 hy2 rfl (by decide) _ _ _ (by rfl) HA1 _ _ _ (ic rk) (by rfl) HT1 ic_one (by unfold maxLen; omega) (by omega) ?_; intro v5 w5 H5; obtain ⟨A5, c5, rfl, _, _, _⟩ := Res.row_at H5.h0)
                  | (refine step_app rfl (.tmp 70) (.tmp 81) 70 (by rfl) 29 i0 _ 1 24 Tryz.underlying70 hi hz0 hz1 hz2 rfl (by decide) _ _ _ (by rfl) (H5.g1.alloc _) _ _ _ [.slice A5 (1 + rk.length) c5] (by rfl) (Rd.fresh w5 _ #[.slice A5 (1 + rk.length) c5] 1 1 rfl) (oneAny rfl) (by unfold maxLen; omega) (by omega) ?_; intro v6 w6 H6; obtain ⟨g6, o6, c6, rfl, _, _, _⟩ := own_shape H6.h0 (Nat.succ_pos _); obtain ⟨rfl, _⟩ := own_blk H6.h0))
                all_goals
                  have H7 := (Sep.rowsSnoc (r := (m : Int) :: rk) H6.g1.g2 (by simp; omega)).g1
                  have HMM2 : Hid (M' ++ [(m : Int) :: rk] = M ++ (M2.take (k + 1)).map ((m : Int) :: ·)) := Lib.hid (by rw [HMM.out, List.take_add_one, HRK.out, List.map_append, List.append_assoc]; rfl)
                  have HN3 : Hid (n + 1 = (M' ++ [(m : Int) :: rk]).length) := Lib.hid (by rw [List.length_append, ← HN.out]; rfl)
                  clear H5 H6 y1 y2 y3 HT1 HA1
                  go_wp2
                  go_roundw
                  case rel => exact ⟨k + 1, n + 1, g6, c6, _, M' ++ [(m : Int) :: rk], by omega, by go_num, rfl, HMM2, HN3, H7⟩
                  case measure => simp [intOf]; omega
              · obtain rfl : k = n2 := by omega
                have HM3 : Hid (M' = srcI A free most (i + 1)) := Lib.hid (by rw [HMM.out, HS.out, HN2.out, List.take_length])
                have H6 := H.g3.drop.g2.drop
                go_wp2
                go_roundw
                case rel => exact ⟨i + 1, n, g, c, vs, M', by omega, by go_num, rfl, HM3, HN, H6⟩
                case measure => simp [intOf]; omega
      · have hnli : ¬ (n : Int) < (most : Int) := by omega
        have HS : Hid (M = srcM A free most) := Lib.hid (by
          rw [HM.out]
          exact srcI_full H00.out (by rw [← HM.out, ← HN.out]; omega))
        go_wp2
        go_ret
        exact SrchPost.mk HS.out HN.out H
    · obtain rfl : i = L := by omega
      have HS : Hid (M = srcM A free most) := Lib.hid (by rw [HM.out, HL.out]; exact srcI_end H00.out)
      go_wp2
      go_ret
      exact SrchPost.mk HS.out HN.out H
end Go.Proofs.YtjkppigjajknaaaGreatDoor

namespace Go.Proofs.YtjkppigjajknaaaGreatDoor
open Go.RowKit

theorem srch_c {v : Value} {A : List Nat} (hA : ∀ m ∈ A, m < 2 ^ 36) : ∀ free, free < 2 ^ 36 → SrchC v A free := by
  intro free
  induction free using Nat.strongRecOn with
  | _ free ih =>
    intro hf
    by_cases h0 : free = 0
    · subst h0
      exact srch_zero v A
    · exact srch_step hA h0 hf fun k hk => ih k hk (by omega)
theorem Sep.rowsOi {w0 w : World} {L : List Res} {vs : List Value} {M : List (List Int)} (h : Sep w0 w (Res.rows vs M :: L)) {i : Nat} {u : Value} {r : List Int} (hu : vs[i]? = some u) (hr : M[i]? = some r) : OI w w0.heap.size w.heap.size 3 1 u r.length (ic r) := by
  have h1 := RowsAt.own h.h0 i u r hu hr
  refine ⟨⟨h1.1, ?_⟩, fun k hk => own_lt h1 k hk⟩
  rcases h1.2 with hn | ⟨g, cap, cur, e, hbg, rest⟩
  · exact .inl hn
  · exact .inr ⟨g, cap, cur, e, h.2.1 g ⟨_, List.mem_of_getElem? hu, by rw [e]; rfl⟩, rest⟩
theorem srcM_one {A : List Nat} {free : Nat} : srcM A free 1 = if ordB A free 0 = true then [nl (ordR A free 0)] else [] := by
  unfold srcM ordB ordR
  cases til A free with
  | nil => rfl
  | cons t T => rfl
theorem ordR_none {A : List Nat} {free : Nat} (h : ordB A free 0 = false) : ordR A free 0 = [] := by
  unfold ordB at h
  unfold ordR
  cases hT : (til A free)[0]? with
  | none => rfl
  | some t => rw [hT] at h; cases h
set_option maxRecDepth 100000 in
set_option maxHeartbeats 1600000 in
theorem spec_find_c {v v2 : Value} {r : Reg} {ps : List (List Cell)} (w : World) (h : RegRd w 0 w.heap.size v r) (h2 : CellSSRd w 0 w.heap.size v2 ps) (hn : ps.length ≤ 1048576) (hl : ∀ s ∈ ps, s.length ≤ 1048576) :
    Calls Tryz.prog 43 #[v, v2] w fun e w' => ∃ v', e = .returned (.tuple #[v', .bool (findB r ps)]) ∧ IntsIn w' w.heap.size w'.heap.size v' (nl (findL r ps)) ∧ Below w.heap.size w w' := by
  have HRD : Hid (∀ w1, Below w.heap.size w w1 → RegRd w1 0 w1.heap.size v r) := Lib.hid fun w1 b1 => (h.keep (SameIn.of_below b1 (Nat.le_refl _))).more (Nat.le_refl _) b1.size
  have HR2 : Hid (∀ w1, Below w.heap.size w w1 → CellSSRd w1 0 w1.heap.size v2 ps) := Lib.hid fun w1 b1 => (h2.keep (SameIn.of_below b1 (Nat.le_refl _))).more (Nat.le_refl _) b1.size
  have HAR : Hid (∀ w1, Below w.heap.size w w1 → Calls Tryz.prog 40 #[v2] w1 fun e w' => e = .returned (.bool (arePcs ps)) ∧ Below w1.heap.size w1 w') := Lib.hid fun w1 b1 =>
    spec_arePcs_c w1 (HR2.out w1 b1) hn hl
  obtain ⟨RB, hRB⟩ : ∃ b, b = findB r ps := ⟨_, rfl⟩
  obtain ⟨RL, hRL⟩ : ∃ b, b = nl (findL r ps) := ⟨_, rfl⟩
  rw [← hRB, ← hRL]
  have HB := Lib.hid hRB
  have HL := Lib.hid hRL
  obtain ⟨sr, rfl, hsr⟩ := h
  obtain ⟨A, c, rfl, _, _⟩ := hsr
  obtain ⟨vs, ⟨A2, c2, rfl, _, _⟩, _⟩ := h2
  have H0 := (Sep.start w).box 36 #[.int .i64 r.w, .slice A r.rows.length c]
  obtain ⟨bR, hbR⟩ : ∃ bR, bR = w.heap.size := ⟨_, rfl⟩
  rw [← hbR] at H0
  clear hRB hRL hn hl
  go_enter Tryz.func43, Tryz.ntmps43
  go_upto_region 1 with fail
  rw [← hbR]
  generalize (w.alloc (.cells #[.int .i64 r.w, .slice A r.rows.length c] 36)) = W at *
  clear hbR
  have c0 : W.cell? ⟨bR, 0, none⟩ = some (.int .i64 r.w) := H0.h0.cell 0
  have c1 : W.cell? ⟨bR, 1, none⟩ = some (.slice A r.rows.length c) := H0.h0.cell 1
  have HP := Lib.hid (spec_IsRegion_c W (HRD.out W H0.below))
  go_wp2_with fail
  refine (HP.out).mono ?_
  rintro e w1 ⟨rfl, b1⟩
  have H1 := H0.step b1
  clear H0 b1 HP c0 c1
  cases hv : r.valid
  · have h1 := find_no (r := r) (ps := ps) (by rw [hv]; rfl)
    obtain rfl : RB = false := by rw [HB.out, h1.1]
    obtain rfl : RL = [] := by rw [HL.out, h1.2]; rfl
    have H2 := H1.rowBox 3 #[] 1 0 rfl (by decide)
    clear hv h1
    go_wp2
    refine bodyPost_ret (results_tmp2 rfl _ _ _) rfl ?_
    exact ⟨_, rfl, H2.oi, H2.below⟩
  have HVV := Lib.hid hv
  have HP2 := Lib.hid (HAR.out w1 H1.below)
  clear hv HAR
  go_wp2_with fail
  refine (HP2.out).mono ?_
  rintro e w2 ⟨rfl, b2⟩
  replace H1 := H1.step b2
  clear HP2 b2
  cases hp : arePcs ps
  · have h1 := find_no (r := r) (ps := ps) (by rw [hp, Bool.and_false])
    obtain rfl : RB = false := by rw [HB.out, h1.1]
    obtain rfl : RL = [] := by rw [HL.out, h1.2]; rfl
    have H2 := H1.rowBox 3 #[] 1 0 rfl (by decide)
    clear hp h1
    go_wp2
    refine bodyPost_ret (results_tmp2 rfl _ _ _) rfl ?_
    exact ⟨_, rfl, H2.oi, H2.below⟩
  have h1 := find_yes (r := r) (ps := ps) (by rw [hp, HVV.out]; rfl)
  have HV := Lib.hid (Reg.valid_iff.1 HVV.out)
  have HAP := Lib.hid hp
  have HALL : Hid (∀ w1, Below w.heap.size w w1 → Calls Tryz.prog 78 #[.agg #[.int .i64 r.w, .slice A r.rows.length c], .slice A2 ps.length c2] w1 fun e w' => ∃ v', e = .returned v' ∧ IntsIn w' w1.heap.size w'.heap.size v' (allP r ps) ∧ Below w1.heap.size w1 w') := Lib.hid fun w1 b1 =>
    spec_all_c w1 (HRD.out w1 b1) (HR2.out w1 b1) HV.out HAP.out
  have HMSK : Hid (∀ w1, Below w.heap.size w w1 → Calls Tryz.prog 79 #[.agg #[.int .i64 r.w, .slice A r.rows.length c]] w1 fun e w' => e = .returned (.int .i64 (r.mask : Int)) ∧ Below w1.heap.size w1 w') := Lib.hid fun w1 b1 =>
    spec_mask_c w1 (HRD.out w1 b1) HV.out
  obtain ⟨M1, hM1⟩ : ∃ M, M = srcM (allN r ps) r.mask 1 := ⟨_, rfl⟩
  have HM1 : Hid (M1 = if RB = true then [RL] else []) := Lib.hid (by rw [hM1, srcM_one, HB.out, HL.out, h1.1, h1.2])
  have HRL0 : Hid (RB = false → RL = []) := Lib.hid (fun h => by
    rw [HB.out, h1.1] at h
    rw [HL.out, h1.2, ordR_none h]; rfl)
  have HORD : Hid (∀ w1 v, Below w.heap.size w w1 → IntsRd w1 0 w1.heap.size v (allP r ps) → Calls Tryz.prog 81 #[v, .int .i64 (r.mask : Int), .int .i64 1] w1 fun e w' => ∃ g n c vs, e = .returned (.slice (some ⟨g, 0, none⟩) n c) ∧ n = M1.length ∧ Sep w1 w' [Res.row (.slice (some ⟨g, 0, none⟩) n c) 29 1 n vs, Res.rows vs M1]) := Lib.hid fun w1 v b1 hv => by
    rw [← nl_allN HV.out] at hv
    have := srch_c (v := v) (allN_lt HV.out (ps := ps)) r.mask (by have := Reg.mask_lt HV.out; omega) 1 w1 hv (Nat.le_refl _) (by omega)
    rw [hM1]
    exact this
  replace H1 := H1.drew
  have c0 : w2.drew.cell? ⟨bR, 0, none⟩ = some (.int .i64 r.w) := H1.h0.cell 0
  have c1 : w2.drew.cell? ⟨bR, 1, none⟩ = some (.slice A r.rows.length c) := H1.h0.cell 1
  obtain ⟨M, hM⟩ : ∃ M, M = r.mask := ⟨_, rfl⟩
  obtain ⟨Q, hQ⟩ : ∃ Q, Q = allP r ps := ⟨_, rfl⟩
  rw [← hM] at HMSK HORD
  rw [← hQ] at HALL HORD
  clear hp h1 hM hQ hM1
  go_wp2_with fail
  go_cut [6] (fun lv wx => ∃ g n c vs, lv = .slice (some ⟨g, 0, none⟩) n c ∧ Hid (n = M1.length) ∧ Sep w wx [Res.row (.slice (some ⟨g, 0, none⟩) n c) 29 1 n vs, Res.rows vs M1])
  case first =>
    go_region_with (first
      | (go_at_call 78; (with_reducible refine (HALL.out _ H1.below).mono ?_); rintro e w4 ⟨av, rfl, o4, b4⟩; replace H1 := H1.step b4; have oa := (IntsIn.rd o4).more (Nat.zero_le _) (Nat.le_refl _); clear o4; obtain ⟨Aa, ca, rfl, _, _⟩ := id oa; clear c0 c1; have c0 : w4.cell? ⟨bR, 0, none⟩ = some (.int .i64 r.w) := H1.h0.cell 0; have c1 : w4.cell? ⟨bR, 1, none⟩ = some (.slice A r.rows.length c) := H1.h0.cell 1)
      | (go_at_call 79; (with_reducible refine (HMSK.out _ H1.below).mono ?_); rintro e w5 ⟨rfl, b5⟩; replace H1 := H1.step b5; first | replace oa := ints_keep oa b5 | skip; clear c0 c1; have c0 : w5.cell? ⟨bR, 0, none⟩ = some (.int .i64 r.w) := H1.h0.cell 0; have c1 : w5.cell? ⟨bR, 1, none⟩ = some (.slice A r.rows.length c) := H1.h0.cell 1)
      | (go_at_call 81; (with_reducible refine (HORD.out _ _ H1.below oa).mono ?_); rintro e w6 ⟨g6, n6, c6, vs6, rfl, hn6, H6⟩; have HN6 := Lib.hid hn6; clear hn6))
    all_goals (go_wp2_with fail; go_meet; exact ⟨_, _, _, vs6, rfl, HN6, H6.join H1.drop⟩)
  case rest =>
  obtain ⟨g6, n6, c6, vs6, rfl, HN6, H6⟩ := hcut
  generalize hwc : wc = w7 at *
  clear hwc H1 c0 c1 HALL HMSK HORD
  cases RB
  · obtain rfl : M1 = [] := by rw [HM1.out]; rfl
    obtain rfl : RL = [] := HRL0.out rfl
    obtain rfl : n6 = 0 := HN6.out
    have H2 := H6.rowBox 3 #[] 1 0 rfl (by decide)
    go_wp2
    refine bodyPost_ret (results_tmp2 rfl _ _ _) rfl ?_
    exact ⟨_, rfl, H2.oi, H2.below⟩
  · obtain rfl : M1 = [RL] := by rw [HM1.out]; rfl
    obtain rfl : n6 = 1 := HN6.out
    have hvl : vs6.length = 1 := RowsAt.len H6.h1
    obtain ⟨u, rfl⟩ : ∃ u, vs6 = [u] := by
      match vs6, hvl with
      | [u], _ => exact ⟨u, rfl⟩
    have x0 : w7.cell? ⟨g6, 0, none⟩ = some u := by have := own_cell H6.h0 (j := 0) (u := u) rfl; rwa [Nat.zero_add] at this
    have ho := H6.drop.rowsOi (i := 0) rfl rfl
    have HO := Lib.hid ho
    have HBL := Lib.hid H6.below
    obtain ⟨Au, cu, rfl, _, _⟩ := ho.rd
    clear ho H6 hvl
    go_wp2
    refine bodyPost_ret (results_tmp2 rfl _ _ _) rfl ?_
    exact ⟨_, rfl, HO.out, HBL.out⟩
set_option maxRecDepth 100000 in
set_option maxHeartbeats 800000 in
theorem impl_hasT_c {v v2 : Value} {r : Reg} {ps : List (List Cell)} (w : World) (h : RegRd w 0 w.heap.size v r) (h2 : CellSSRd w 0 w.heap.size v2 ps) (hn : ps.length ≤ 1048576) (hl : ∀ s ∈ ps, s.length ≤ 1048576) (ht : Tab64 w) :
    Calls Tryz.prog 159 #[v, v2] w fun e w' => e = .returned (.bool (findB r ps)) ∧ Below w.heap.size w w' := by
  have HRD : Hid (∀ w1, Below w.heap.size w w1 → RegRd w1 0 w1.heap.size v r) := Lib.hid fun w1 b1 => (h.keep (SameIn.of_below b1 (Nat.le_refl _))).more (Nat.le_refl _) b1.size
  have HR2 : Hid (∀ w1, Below w.heap.size w w1 → CellSSRd w1 0 w1.heap.size v2 ps) := Lib.hid fun w1 b1 => (h2.keep (SameIn.of_below b1 (Nat.le_refl _))).more (Nat.le_refl _) b1.size
  have HFT : Hid (∀ w1, Below w.heap.size w w1 → Calls Tryz.prog 52 #[v, v2] w1 fun e w' => ∃ v', e = .returned (.tuple #[v', .bool (findB r ps)]) ∧ IntsIn w' w1.heap.size w'.heap.size v' (nl (findL r ps)) ∧ Below w1.heap.size w1 w') := Lib.hid fun w1 b1 =>
    impl_find_c w1 (HRD.out w1 b1) (HR2.out w1 b1) hn hl (tab64_on ht b1)
  obtain ⟨RB, hRB⟩ : ∃ b, b = findB r ps := ⟨_, rfl⟩
  rw [← hRB] at HFT ⊢
  obtain ⟨sr, rfl, hsr⟩ := h
  obtain ⟨A, c, rfl, _, _⟩ := hsr
  obtain ⟨vs, ⟨A2, c2, rfl, _, _⟩, _⟩ := h2
  have H0 := (Sep.start w).box 36 #[.int .i64 r.w, .slice A r.rows.length c]
  have HF2 := Lib.hid (HFT.out _ H0.below)
  clear hRB HFT HRD HR2
  go_enter Tryz.func159, Tryz.ntmps159
  go_wp2_with fail
  refine (HF2.out).mono ?_
  rintro e w1 ⟨v1, rfl, o1, b1⟩
  obtain ⟨A1, c1, rfl, _, _⟩ := o1.rd
  have hb := H0.below.trans (b1.mono H0.size)
  clear b1 o1 HF2 H0
  go_wp2
  go_ret
  exact ⟨rfl, hb⟩
set_option maxRecDepth 100000 in
set_option maxHeartbeats 800000 in
theorem spec_hasT_c {v v2 : Value} {r : Reg} {ps : List (List Cell)} (w : World) (h : RegRd w 0 w.heap.size v r) (h2 : CellSSRd w 0 w.heap.size v2 ps) (hn : ps.length ≤ 1048576) (hl : ∀ s ∈ ps, s.length ≤ 1048576)  :
    Calls Tryz.prog 148 #[v, v2] w fun e w' => e = .returned (.bool (findB r ps)) ∧ Below w.heap.size w w' := by
  have HRD : Hid (∀ w1, Below w.heap.size w w1 → RegRd w1 0 w1.heap.size v r) := Lib.hid fun w1 b1 => (h.keep (SameIn.of_below b1 (Nat.le_refl _))).more (Nat.le_refl _) b1.size
  have HR2 : Hid (∀ w1, Below w.heap.size w w1 → CellSSRd w1 0 w1.heap.size v2 ps) := Lib.hid fun w1 b1 => (h2.keep (SameIn.of_below b1 (Nat.le_refl _))).more (Nat.le_refl _) b1.size
  have HFT : Hid (∀ w1, Below w.heap.size w w1 → Calls Tryz.prog 43 #[v, v2] w1 fun e w' => ∃ v', e = .returned (.tuple #[v', .bool (findB r ps)]) ∧ IntsIn w' w1.heap.size w'.heap.size v' (nl (findL r ps)) ∧ Below w1.heap.size w1 w') := Lib.hid fun w1 b1 =>
    spec_find_c w1 (HRD.out w1 b1) (HR2.out w1 b1) hn hl 
  obtain ⟨RB, hRB⟩ : ∃ b, b = findB r ps := ⟨_, rfl⟩
  rw [← hRB] at HFT ⊢
  obtain ⟨sr, rfl, hsr⟩ := h
  obtain ⟨A, c, rfl, _, _⟩ := hsr
  obtain ⟨vs, ⟨A2, c2, rfl, _, _⟩, _⟩ := h2
  have H0 := (Sep.start w).box 36 #[.int .i64 r.w, .slice A r.rows.length c]
  have HF2 := Lib.hid (HFT.out _ H0.below)
  clear hRB HFT HRD HR2
  go_enter Tryz.func148, Tryz.ntmps148
  go_wp2_with fail
  refine (HF2.out).mono ?_
  rintro e w1 ⟨v1, rfl, o1, b1⟩
  obtain ⟨A1, c1, rfl, _, _⟩ := o1.rd
  have hb := H0.below.trans (b1.mono H0.size)
  clear b1 o1 HF2 H0
  go_wp2
  go_ret
  exact ⟨rfl, hb⟩
end Go.Proofs.YtjkppigjajknaaaGreatDoor
