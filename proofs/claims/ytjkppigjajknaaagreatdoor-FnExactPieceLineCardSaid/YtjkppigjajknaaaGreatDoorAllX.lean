
/-
  Are these pieces? Both walks; is a problem right? All placements of some shapes: the program's walk.
-/
import Derived.Test.YtjkppigjajknaaaGreatDoorPlcP
import Derived.Test.YtjkppigjajknaaaGreatDoorEqV
import Derived.Test.YtjkppigjajknaaaGreatDoorShpX
import Derived.Test.YtjkppigjajknaaaGreatDoorRegX
import Derived.Test.YtjkppigjajknaaaGreatDoorPlcIX
namespace Go.Proofs.YtjkppigjajknaaaGreatDoor
open Go.RowKit

theorem arePcs_no {ps : List (List Cell)} {i : Nat} {s : List Cell} (h : ps[i]? = some s) (hs : isShape s = false) : arePcs ps = false := by
  unfold arePcs
  have : ps.all isShape = false := by
    rw [List.all_eq_false]
    exact ⟨s, List.mem_of_getElem? h, by rw [hs]; simp⟩
  rw [this]; rfl
theorem arePcs_end {ps : List (List Cell)} (h : ∀ (j : Nat) (s : List Cell), j < ps.length → ps[j]? = some s → isShape s = true) : arePcs ps = inR ps.length 1 5 := by
  unfold arePcs
  have : ps.all isShape = true := by
    rw [List.all_eq_true]
    intro s hs
    obtain ⟨j, hj⟩ := List.getElem?_of_mem hs
    exact h j s (List.getElem?_eq_some_iff.1 hj).1 hj
  rw [this]; rfl
theorem arePcs_on {ps : List (List Cell)} (h : arePcs ps = true) : (∀ s ∈ ps, isShape s = true) ∧ 1 ≤ ps.length ∧ ps.length ≤ 5 := by
  unfold arePcs at h
  simp only [Bool.and_eq_true, List.all_eq_true] at h
  have := inR_iff.1 h.2
  exact ⟨h.1, by omega, by omega⟩
set_option maxRecDepth 100000 in
set_option maxHeartbeats 1600000 in
theorem spec_arePcs_c {v : Value} {ps : List (List Cell)} (w : World) (h : CellSSRd w 0 w.heap.size v ps) (hn : ps.length ≤ 1048576) (hl : ∀ s ∈ ps, s.length ≤ 1048576) :
    Calls Tryz.prog 40 #[v] w fun e w' => e = .returned (.bool (arePcs ps)) ∧ Below w.heap.size w w' := by
  obtain ⟨vs, ⟨A, c, rfl, hm, hr⟩, hsl⟩ := h
  obtain ⟨R, hR⟩ : ∃ R, R = arePcs ps := ⟨_, rfl⟩
  rw [← hR]
  have HR := Lib.hid hR
  have HL := Lib.hid hl
  have HS := Lib.hid hsl
  clear hR hl hsl
  go_enter Tryz.func40, Tryz.ntmps40
  go_wp2
  go_loopw [3] (fun iv wx => ∃ i : Nat, i ≤ ps.length ∧ iv = .int .i64 i ∧ Hid (∀ (j : Nat) (s : List Cell), j < i → ps[j]? = some s → isShape s = true) ∧ Below w.heap.size w wx) (fun iv _ => ps.length - (intOf iv).toNat)
  case atStart => exact ⟨0, Nat.zero_le _, rfl, Lib.hid (fun j s hj => absurd hj (Nat.not_lt_zero j)), Below.refl _ _⟩
  case round =>
    obtain ⟨i, hi, rfl, HK, hbel⟩ := hrel
    by_cases hlt : i < ps.length
    · obtain ⟨b, off, u, x, rfl, _, hb, hla, x1, xr⟩ := hr.slot HS.out rfl hlt
      have x2 := (hbel.cell (p := ⟨b, off + i, none⟩) hb).trans x1
      have HC := Lib.hid (spec_isShape_c wr ((xr.keep (SameIn.of_below hbel (Nat.le_refl _))).more (Nat.le_refl _) hbel.size) (HL.out u (List.mem_of_getElem? hla)))
      have HLA := Lib.hid hla
      obtain ⟨Ax, cx, hx, _, _⟩ := xr
      subst hx
      clear x1 hla
      go_wp2_with fail
      refine (HC.out).mono ?_
      rintro e w1 ⟨rfl, b1⟩
      have hb1 := hbel.trans (b1.mono hbel.size)
      clear b1 hbel x2 HC
      cases hs : isShape u
      · obtain rfl : R = false := by rw [HR.out]; exact arePcs_no HLA.out hs
        clear hs
        go_wp2
        go_ret
        exact ⟨rfl, hb1⟩
      · have HK2 : Hid (∀ (j : Nat) (s : List Cell), j < i + 1 → ps[j]? = some s → isShape s = true) := Lib.hid fun j s hj hjs => by
          by_cases e : j = i
          · subst e
            have := HLA.out
            rw [hjs] at this
            injection this with this
            rw [this]; exact hs
          · exact HK.out j s (by omega) hjs
        clear hs
        go_wp2
        go_roundw
        case rel => exact ⟨i + 1, by omega, by go_num, HK2, hb1⟩
        case measure => simp [intOf]; omega
    · obtain rfl : i = ps.length := by omega
      obtain rfl : R = inR ps.length 1 5 := by rw [HR.out]; exact arePcs_end HK.out
      go_wp2_with (go_at_call 59; refine (l1In_r _ _ _ _).mono ?_; rintro e w' ⟨rfl, rfl⟩)
      go_ret
      exact ⟨rfl, hbel⟩
set_option maxRecDepth 100000 in
set_option maxHeartbeats 1600000 in
theorem impl_arePcs_c {v : Value} {ps : List (List Cell)} (w : World) (h : CellSSRd w 0 w.heap.size v ps) (hn : ps.length ≤ 1048576) (hl : ∀ s ∈ ps, s.length ≤ 1048576) :
    Calls Tryz.prog 92 #[v] w fun e w' => e = .returned (.bool (arePcs ps)) ∧ Below w.heap.size w w' := by
  obtain ⟨vs, ⟨A, c, rfl, hm, hr⟩, hsl⟩ := h
  obtain ⟨R, hR⟩ : ∃ R, R = arePcs ps := ⟨_, rfl⟩
  rw [← hR]
  have HR := Lib.hid hR
  have HL := Lib.hid hl
  have HS := Lib.hid hsl
  clear hR hl hsl
  go_enter Tryz.func92, Tryz.ntmps92
  go_wp2
  go_loopw [7] (fun iv wx => ∃ i : Nat, i ≤ ps.length ∧ iv = .int .i64 i ∧ Hid (∀ (j : Nat) (s : List Cell), j < i → ps[j]? = some s → isShape s = true) ∧ Below w.heap.size w wx) (fun iv _ => ps.length - (intOf iv).toNat)
  case atStart => exact ⟨0, Nat.zero_le _, rfl, Lib.hid (fun j s hj => absurd hj (Nat.not_lt_zero j)), Below.refl _ _⟩
  case round =>
    obtain ⟨i, hi, rfl, HK, hbel⟩ := hrel
    by_cases hlt : i < ps.length
    · obtain ⟨b, off, u, x, rfl, _, hb, hla, x1, xr⟩ := hr.slot HS.out rfl hlt
      have x2 := (hbel.cell (p := ⟨b, off + i, none⟩) hb).trans x1
      have HC := Lib.hid (impl_isShape_c wr ((xr.keep (SameIn.of_below hbel (Nat.le_refl _))).more (Nat.le_refl _) hbel.size) (HL.out u (List.mem_of_getElem? hla)))
      have HLA := Lib.hid hla
      obtain ⟨Ax, cx, hx, _, _⟩ := xr
      subst hx
      clear x1 hla
      go_wp2_with fail
      refine (HC.out).mono ?_
      rintro e w1 ⟨rfl, b1⟩
      have hb1 := hbel.trans (b1.mono hbel.size)
      clear b1 hbel x2 HC
      cases hs : isShape u
      · obtain rfl : R = false := by rw [HR.out]; exact arePcs_no HLA.out hs
        clear hs
        go_wp2
        go_ret
        exact ⟨rfl, hb1⟩
      · have HK2 : Hid (∀ (j : Nat) (s : List Cell), j < i + 1 → ps[j]? = some s → isShape s = true) := Lib.hid fun j s hj hjs => by
          by_cases e : j = i
          · subst e
            have := HLA.out
            rw [hjs] at this
            injection this with this
            rw [this]; exact hs
          · exact HK.out j s (by omega) hjs
        clear hs
        go_wp2
        go_roundw
        case rel => exact ⟨i + 1, by omega, by go_num, HK2, hb1⟩
        case measure => simp [intOf]; omega
    · obtain rfl : i = ps.length := by omega
      obtain rfl : R = inR ps.length 1 5 := by rw [HR.out]; exact arePcs_end HK.out
      go_wp2_with (go_at_call 67; refine (between_r _ _ _ _).mono ?_; rintro e w' ⟨rfl, rfl⟩)
      go_ret
      exact ⟨rfl, hbel⟩
set_option maxRecDepth 100000 in
set_option maxHeartbeats 800000 in
theorem impl_prob_c {v v2 : Value} {r : Reg} {ps : List (List Cell)} (w : World) (h : RegRd w 0 w.heap.size v r) (h2 : CellSSRd w 0 w.heap.size v2 ps) (hn : ps.length ≤ 1048576) (hl : ∀ s ∈ ps, s.length ≤ 1048576) :
    Calls Tryz.prog 49 #[v, v2] w fun e w' => e = .returned (.bool (r.valid && arePcs ps)) ∧ Below w.heap.size w w' := by
  obtain ⟨s, rfl, hs⟩ := h
  have H := (Sep.start w).box 36 #[.int .i64 r.w, s]
  obtain ⟨A, c, rfl, _, _⟩ := id hs
  have H2 : Hid (∀ w1, Below w.heap.size w w1 → Calls Tryz.prog 92 #[v2] w1 fun e w' => e = .returned (.bool (arePcs ps)) ∧ Below w1.heap.size w1 w') := Lib.hid fun w1 b1 =>
    impl_arePcs_c w1 ((h2.keep (SameIn.of_below b1 (Nat.le_refl _))).more (Nat.le_refl _) b1.size) hn hl
  obtain ⟨vs, ⟨A2, c2, rfl, _, _⟩, _⟩ := h2
  obtain ⟨R, hR⟩ : ∃ R, R = (r.valid && arePcs ps) := ⟨_, rfl⟩
  rw [← hR]
  have HR := Lib.hid hR
  clear hR
  go_enter Tryz.func49, Tryz.ntmps49
  go_wp2_with fail
  generalize w.alloc (.cells #[.int .i64 r.w, .slice A r.rows.length c] 36) = W at *
  refine (impl_IsRegion_c (r := r) W ⟨_, rfl, (hs.keep (SameIn.of_below H.below (Nat.le_refl _))).more (Nat.le_refl _) H.size⟩).mono ?_
  rintro e w1 ⟨rfl, b1⟩
  have H1 := H.step b1
  have hB := H1.below
  clear b1 H
  cases hv : r.valid
  · obtain rfl : R = false := by rw [HR.out, hv]; rfl
    clear hv
    go_wp2
    go_ret
    exact ⟨rfl, hB⟩
  · obtain rfl : R = arePcs ps := by rw [HR.out, hv]; rfl
    clear hv
    have H3 := Lib.hid (H2.out w1 hB)
    go_wp2_with fail
    refine (H3.out).mono ?_
    rintro e w2 ⟨rfl, b2⟩
    have hB2 := hB.trans (b2.mono hB.size)
    clear b2
    go_wp2
    go_ret
    exact ⟨rfl, hB2⟩
end Go.Proofs.YtjkppigjajknaaaGreatDoor

namespace Go.Proofs.YtjkppigjajknaaaGreatDoor
open Go.RowKit

set_option maxRecDepth 100000 in
set_option maxHeartbeats 1600000 in
theorem impl_all_c {v v2 : Value} {r : Reg} {ps : List (List Cell)} (w : World) (h : RegRd w 0 w.heap.size v r) (h2 : CellSSRd w 0 w.heap.size v2 ps) (hv : r.Valid) (hp : arePcs ps = true) :
    Calls Tryz.prog 94 #[v, v2] w fun e w' => ∃ v', e = .returned v' ∧ IntsIn w' w.heap.size w'.heap.size v' (allP r ps) ∧ Below w.heap.size w w' := by
  obtain ⟨j0, hj, hy0, hy1, hy2⟩ := info_parts infoIntC
  have HV := Lib.hid hv
  have HPS := Lib.hid (arePcs_on hp).1
  have hp5 := (arePcs_on hp).2.2
  have HRD : Hid (∀ w1, Below w.heap.size w w1 → RegRd w1 0 w1.heap.size v r) := Lib.hid fun w1 b1 => (h.keep (SameIn.of_below b1 (Nat.le_refl _))).more (Nat.le_refl _) b1.size
  obtain ⟨sr, rfl, hsr⟩ := h
  obtain ⟨A, c, rfl, _, _⟩ := hsr
  obtain ⟨vs, ⟨A2, c2, rfl, hm2, hr2⟩, hsl⟩ := h2
  have HR2 := Lib.hid hr2
  have HSL := Lib.hid hsl
  have H0 := ((Sep.start w).box 36 #[.int .i64 r.w, .slice A r.rows.length c]).nil 3 1
  obtain ⟨bR, hbR⟩ : ∃ bR, bR = w.heap.size := ⟨_, rfl⟩
  rw [← hbR] at H0
  clear hv hp hr2 hsl
  go_enter Tryz.func94, Tryz.ntmps94
  go_upto_region 2 with fail
  rw [← hbR]
  generalize (w.alloc (.cells #[.int .i64 r.w, .slice A r.rows.length c] 36)) = W at *
  clear hbR
  go_wp2
  go_loopw [5, 10] (fun ov kv wx => ∃ (k : Nat) (acc : List Int), k ≤ ps.length ∧ kv = .int .i64 k ∧ Hid (acc = allRaw r (ps.take k)) ∧ Sep w wx [Res.row ov 3 1 acc.length (ic acc), Res.box bR 36 #[.int .i64 r.w, .slice A r.rows.length c]]) (fun _ kv _ => ps.length - (intOf kv).toNat)
  case atStart => exact ⟨0, [], Nat.zero_le _, rfl, Lib.hid rfl, H0⟩
  case round =>
    clear H0
    obtain ⟨k, acc, hk, rfl, HACC, H⟩ := hrel
    have hnl : acc.length ≤ 1440 := by
      rw [HACC.out]
      have a1 := allRaw_len HV.out (ps.take k)
      rw [List.length_take] at a1
      omega
    obtain ⟨Au, cu, rfl, _, _, _⟩ := Res.row_at H.h0
    by_cases hlt : k < ps.length
    · have hlti : (k : Int) < (ps.length : Int) := by omega
      obtain ⟨b, off, s, x, rfl, hb1, hb2, hla, x1, xr⟩ := HR2.out.slot HSL.out rfl hlt
      have y1 := (H.below.cell (p := ⟨b, off + k, none⟩) hb2).trans x1
      have HPC := Lib.hid (impl_plc_c wr (HRD.out wr H.below) ((xr.keep (SameIn.of_below H.below (Nat.le_refl _))).more (Nat.le_refl _) H.size) HV.out (HPS.out s (List.mem_of_getElem? hla)))
      have c0 : wr.cell? ⟨bR, 0, none⟩ = some (.int .i64 r.w) := H.h1.cell 0
      have c1 : wr.cell? ⟨bR, 1, none⟩ = some (.slice A r.rows.length c) := H.h1.cell 1
      have HLA := Lib.hid hla
      obtain ⟨Ax, cx, rfl, _, _⟩ := xr
      have hpl := plc_len HV.out (s := s)
      obtain ⟨Q, hQ⟩ : ∃ Q, Q = plc r s := ⟨_, rfl⟩
      rw [← hQ] at HPC hpl
      have HQ := Lib.hid hQ
      clear hQ
      clear hla x1
      go_wp2_with fail
      refine (HPC.out).mono ?_
      rintro e w4 ⟨pv, rfl, o4, b4⟩
      have H4 := H.step b4
      obtain ⟨Ap, cp, rfl, _, hrp⟩ := o4.rd
      have HRP := Lib.hid hrp
      clear H HPC b4 o4 hrp c0 c1 y1
      go_wp2_with (at_builtin; refine wpList_app rfl _ _ 29 rfl 3 j0 _ 1 8 Tryz.underlying29 hj hy0 hy1 hy2 rfl (by decide) _ _ _ rfl H4 _ _ _ (ic Q) rfl HRP.out ic_one (by unfold maxLen; omega) (by omega) ?_; intro v8 w8 H8; clear H4)
      rw [← ic_append, ← List.length_append] at H8
      have HACC2 : Hid (acc ++ Q = allRaw r (ps.take (k + 1))) := Lib.hid (by rw [HACC.out, allRaw_take HLA.out, HQ.out])
      go_roundw
      case rel => exact ⟨k + 1, acc ++ Q, by omega, by go_num, HACC2, H8⟩
      case measure => simp [intOf]; omega
    · obtain rfl : k = ps.length := by omega
      have HOD := Lib.hid (impl_ordered_c wr (H.oi.sr.more (Nat.zero_le _) (Nat.le_refl _)) (by omega))
      have HP2 : Hid (srtU acc = allP r ps) := Lib.hid (by rw [HACC.out, List.take_length]; rfl)
      rw [HP2.out] at HOD
      have hbw := H.below
      clear H
      go_wp2_with fail
      refine (HOD.out).mono ?_
      rintro e w6 ⟨v6, rfl, o6, b6⟩
      obtain ⟨A6, c6, rfl, _, _⟩ := o6.rd
      go_wp2
      go_ret
      exact ⟨_, rfl, OI.base o6 hbw.size (Nat.le_refl _), hbw.trans (b6.mono hbw.size)⟩
end Go.Proofs.YtjkppigjajknaaaGreatDoor
