
/-
  All placements of a shape, of some shapes: the program's walks.
-/
import Derived.Test.YtelneohlpljblaaGreatDoorMcS
import Derived.Test.YtelneohlpljblaaGreatDoorOrdI
import Derived.Test.YtelneohlpljblaaGreatDoorPlcX
import Derived.Test.YtelneohlpljblaaGreatDoorOriX
import Derived.Deep.DeepCutAuto
namespace Go.Proofs.YtelneohlpljblaaGreatDoor
open Go.RowKit

set_option maxRecDepth 100000 in
theorem impl_orients_ro {v : Value} {s : List Cell} (w : World) (h : CellsRd w 0 w.heap.size v s) (hsh : isShape s = true) :
    Calls Tryz.prog 108 #[v] w fun e w' => ∃ v', e = .returned v' ∧ CellSSRd w' w.heap.size w'.heap.size v' (orients s) ∧ Below w.heap.size w w' :=
  (impl_orients_c w h hsh).mono fun _ _ ⟨v', _, he, hP, H⟩ => ⟨v', he, hP ▸ H.shpsRdNew rfl, H.below⟩
set_option maxRecDepth 100000 in
set_option maxHeartbeats 1600000 in
theorem impl_plc_c {v v2 : Value} {r : Reg} {s : List Cell} (w : World) (h : RegRd w 0 w.heap.size v r) (h2 : CellsRd w 0 w.heap.size v2 s) (hv : r.Valid) (hsh : isShape s = true) :
    Calls Tryz.prog 85 #[v, v2] w fun e w' => ∃ v', e = .returned v' ∧ IntsIn w' w.heap.size w'.heap.size v' (plc r s) ∧ Below w.heap.size w w' := by
  obtain ⟨j0, hj, hy0, hy1, hy2⟩ := info_parts infoIntC
  obtain ⟨wn, hwn⟩ : ∃ wn : Nat, r.w = (wn : Int) := ⟨r.w.toNat, by have := hv.1; omega⟩
  obtain ⟨hn, hhn⟩ : ∃ hn : Nat, hn = r.rows.length := ⟨_, rfl⟩
  have hw1 := hv.1
  have hw6 := hv.2.1
  have hh6 := hv.2.2.2.1
  have HW := Lib.hid hwn
  have HHN := Lib.hid hhn
  have HV := Lib.hid hv
  have HRD : Hid (∀ w1, Below w.heap.size w w1 → RegRd w1 0 w1.heap.size v r) := Lib.hid fun w1 b1 => (h.keep (SameIn.of_below b1 (Nat.le_refl _))).more (Nat.le_refl _) b1.size
  have HOR : Hid (∀ w1, Below w.heap.size w w1 → Calls Tryz.prog 108 #[v2] w1 fun e w' => ∃ v', e = .returned v' ∧ CellSSRd w' w1.heap.size w'.heap.size v' (orients s) ∧ Below w1.heap.size w1 w') := Lib.hid fun w1 b1 =>
    impl_orients_ro w1 ((h2.keep (SameIn.of_below b1 (Nat.le_refl _))).more (Nat.le_refl _) b1.size) hsh
  obtain ⟨T, hT⟩ : ∃ T, T = orients s := ⟨_, rfl⟩
  have HTS : Hid (∀ t ∈ T, ∀ c ∈ t, Sml 20 c) := Lib.hid (by rw [hT]; exact orients_sml hsh)
  have HTL : Hid (∀ t ∈ T, t.length ≤ 8) := Lib.hid (by rw [hT]; exact orients_len8 hsh)
  have HT8 : Hid (T.length ≤ 8) := Lib.hid (by rw [hT]; exact orients_le 8)
  have HPL : Hid (plc r s = srtU (rawT r T)) := Lib.hid (by rw [hT]; rfl)
  rw [← hT] at HOR
  obtain ⟨sr, rfl, hsr⟩ := h
  obtain ⟨A, c, rfl, _, _⟩ := hsr
  obtain ⟨A2, c2, rfl, _, _⟩ := h2
  rw [hwn] at hw1 hw6 HRD ⊢
  rw [← hhn] at hh6 HRD ⊢
  have H0 := ((Sep.start w).box 31 #[.int .i64 (wn : Int), .slice A hn c]).nil 3 1
  obtain ⟨bR, hbR⟩ : ∃ bR, bR = w.heap.size := ⟨_, rfl⟩
  rw [← hbR] at H0
  clear hv hwn hhn hT hsh
  go_enter Tryz.func85, Tryz.ntmps85
  go_upto_region 2 with fail
  rw [← hbR]
  generalize (w.alloc (.cells #[.int .i64 (wn : Int), .slice A hn c] 31)) = W at *
  clear hbR
  have HO1 := Lib.hid (HOR.out W H0.below)
  go_wp2_with fail
  refine (HO1.out).mono ?_
  rintro e w2 ⟨ov, rfl, hss, b2⟩
  have H2 := (H0.same b2).p2
  obtain ⟨vs, ⟨At, ct, rfl, hmt, hrt⟩, hsl⟩ := hss
  have HRT := Lib.hid hrt
  have HSL := Lib.hid hsl
  obtain ⟨lo, hlo⟩ : ∃ lo, lo = W.heap.size := ⟨_, rfl⟩
  rw [← hlo] at H2 HRT HSL b2
  clear H0 HO1 b2 hrt hsl HOR hlo
  go_wp2
  go_loopw [5, 15] (fun ov kv wx => ∃ (k : Nat) (acc : List Int), k ≤ T.length ∧ kv = .int .i64 k ∧ Hid (acc = rawT r (T.take k)) ∧ Sep w wx [Res.row ov 3 1 acc.length (ic acc), Res.box bR 31 #[.int .i64 (wn : Int), .slice A hn c], Res.same lo w2.heap.size w2]) (fun _ kv _ => T.length - (intOf kv).toNat)
  case atStart => exact ⟨0, [], Nat.zero_le _, rfl, Lib.hid rfl, H2⟩
  case round =>
    clear H2
    obtain ⟨k, acc, hk, rfl, HACC, H⟩ := hrel
    have hT8 := HT8.out
    by_cases hlt : k < T.length
    · have hlti : (k : Int) < (T.length : Int) := by omega
      obtain ⟨b, off, t, x, rfl, hb1, hb2, hla, x1, xr⟩ := HRT.out.slot HSL.out rfl hlt
      have y1 := (same_cell H.h2 hb1 hb2).trans x1
      have c1 : wr.cell? ⟨bR, 1, none⟩ = some (.slice A hn c) := H.h1.cell 1
      have HLA := Lib.hid hla
      obtain ⟨Ax, cx, rfl, hmx, hrx⟩ := id xr
      have HXR : Hid (∀ w1, SameIn lo w2.heap.size w2 w1 → w2.heap.size ≤ w1.heap.size → CellsRd w1 0 w1.heap.size (.slice Ax t.length cx) t) := Lib.hid fun w1 hs h1 => (xr.keep hs).more (Nat.zero_le _) h1
      have HIN2 : Hid (w2.heap.size ≤ wr.heap.size) := Lib.hid (by
        have h1 := H.h2.2 (by omega)
        exact h1)
      clear hla x1 hrx xr
      go_wp2
      clear c1 y1
      go_loopw [5, 22] (fun ov yv wx => ∃ (y : Nat) (acc : List Int), y ≤ hn ∧ yv = .int .i64 y ∧ Hid (acc = rawT r (T.take k) ++ rawY r t y) ∧ Sep w wx [Res.row ov 3 1 acc.length (ic acc), Res.box bR 31 #[.int .i64 (wn : Int), .slice A hn c], Res.same lo w2.heap.size w2]) (fun _ yv _ => hn - (intOf yv).toNat)
      case atStart => exact ⟨0, acc, Nat.zero_le _, rfl, Lib.hid (by rw [HACC.out]; simp [rawY]), H⟩
      case round =>
        clear H HACC HIN2
        obtain ⟨y, acc, hy, rfl, HACC, H⟩ := hrel
        by_cases hlty : y < hn
        · have hltyi : (y : Int) < (hn : Int) := by omega
          have c0 : wr.cell? ⟨bR, 0, none⟩ = some (.int .i64 (wn : Int)) := H.h1.cell 0
          go_wp2
          clear c0
          go_loopw [5, 27] (fun ov xv wx => ∃ (x : Nat) (acc : List Int), x ≤ wn ∧ xv = .int .i64 x ∧ Hid (acc = rawT r (T.take k) ++ rawY r t y ++ rawX r t y x) ∧ Sep w wx [Res.row ov 3 1 acc.length (ic acc), Res.box bR 31 #[.int .i64 (wn : Int), .slice A hn c], Res.same lo w2.heap.size w2]) (fun _ xv _ => wn - (intOf xv).toNat)
          case atStart => exact ⟨0, acc, Nat.zero_le _, rfl, Lib.hid (by rw [HACC.out]; simp [rawX]), H⟩
          case round =>
            clear H HACC
            obtain ⟨x, acc, hx, rfl, HACC, H⟩ := hrel
            by_cases hltx : x < wn
            · have hltxi : (x : Int) < (wn : Int) := by omega
              have htl := HTL.out t (List.mem_of_getElem? HLA.out)
              obtain ⟨M, hM⟩ : ∃ M, M = moveS t x y := ⟨_, rfl⟩
              have hml : M.length ≤ 8 := by rw [hM, moveS_len]; exact htl
              have HMV : Hid (Calls Tryz.prog 110 #[.slice Ax t.length cx, .int .i64 x, .int .i64 y] wr.drew fun e w' => ∃ v', e = .returned v' ∧ CellsIn w' wr.drew.heap.size w'.heap.size v' M ∧ Below wr.drew.heap.size wr.drew w') := Lib.hid (by
                rw [hM]
                refine impl_moved_c (x : Int) (y : Int) wr.drew (HXR.out wr.drew (same_of H.drew.h2) ?_) (by omega) (fun c hc => ?_) ⟨by omega, by omega⟩ ⟨by omega, by omega⟩
                · have h1 := H.drew.h2.2 (by omega)
                  exact h1
                · obtain ⟨⟨a1, a2⟩, a3, a4⟩ := HTS.out t (List.mem_of_getElem? HLA.out) c hc
                  exact ⟨⟨by omega, by omega⟩, by omega, by omega⟩)
              have HMC : Hid (∀ w1 mv, Below w.heap.size w w1 → CellsRd w1 0 w1.heap.size mv M → Calls Tryz.prog 109 #[.agg #[.int .i64 (wn : Int), .slice A hn c], mv] w1 fun e w' => e = .returned (.tuple #[.int .i64 (mskN (maskS r M)), .bool (maskS r M).isSome]) ∧ Below w1.heap.size w1 w') := Lib.hid fun w1 mv b1 hm => by
                have := impl_maskCells_c w1 (HRD.out w1 b1) hm HV.out (by omega)
                rw [mskV_eq] at this
                exact this
              have HXS : Hid (rawX r t y (x + 1) = rawX r t y x ++ optI (maskS r M)) := Lib.hid (by rw [hM]; exact rawX_succ)
              have hnl : acc.length ≤ 1000 := by
                rw [HACC.out, List.length_append, List.length_append]
                have a1 := rawT_len HV.out (T.take k)
                have a2 := rawY_len (t := t) HV.out y
                have a3 := rawX_len (r := r) (t := t) (y := y) x
                rw [List.length_take] at a1
                omega
              obtain ⟨O, hO⟩ : ∃ O, O = maskS r M := ⟨_, rfl⟩
              rw [← hO] at HMC HXS
              have H1 := H.drew
              have hb1 := H1.below
              have c0 : wr.drew.cell? ⟨bR, 0, none⟩ = some (.int .i64 (wn : Int)) := H1.h1.cell 0
              have c1 : wr.drew.cell? ⟨bR, 1, none⟩ = some (.slice A hn c) := H1.h1.cell 1
              clear hM hO H
              go_wp2_with fail
              go_cut [10, 11] (fun mv okv wx => mv = .int .i64 (mskN O) ∧ okv = .bool O.isSome ∧ Sep w wx [Res.row u5 3 1 acc.length (ic acc), Res.box bR 31 #[.int .i64 (wn : Int), .slice A hn c], Res.same lo w2.heap.size w2])
              case first =>
                go_region_with (first
                  | (go_at_call 110; (with_reducible refine (HMV.out).mono ?_); rintro e w4 ⟨mv, rfl, o4, b4⟩; obtain ⟨Am, cm, rfl, _, _⟩ := o4.rd; have H4 := H1.step b4; have d0 : w4.cell? ⟨bR, 0, none⟩ = some (.int .i64 (wn : Int)) := H4.h1.cell 0; have d1 : w4.cell? ⟨bR, 1, none⟩ = some (.slice A hn c) := H4.h1.cell 1)
                  | (go_at_call 109; (with_reducible refine (HMC.out _ _ H4.below (o4.rd.more (Nat.zero_le _) (Nat.le_refl _))).mono ?_); rintro e w6 ⟨rfl, b6⟩))
                all_goals (go_wp2_with fail; go_meet; exact ⟨rfl, rfl, H4.step b6⟩)
              case rest =>
              obtain ⟨rfl, rfl, H7⟩ := hcut
              clear H1 hb1 c0 c1 HMV HMC
              generalize hwc : wc = w7 at *
              clear hwc
              cases O with
              | none =>
                have HACC2 : Hid (acc = rawT r (T.take k) ++ rawY r t y ++ rawX r t y (x + 1)) := Lib.hid (by rw [HACC.out, HXS.out]; simp [optI])
                have hso : (none : Option Nat).isSome = false := rfl
                rw [hso]
                clear hso
                go_wp2
                go_roundw
                case rel => exact ⟨x + 1, acc, by omega, by go_num, HACC2, H7⟩
                case measure => simp [intOf]; omega
              | some m =>
                have HACC2 : Hid (acc ++ [(m : Int)] = rawT r (T.take k) ++ rawY r t y ++ rawX r t y (x + 1)) := Lib.hid (by rw [HACC.out, HXS.out]; simp [optI])
                have hso : (some m : Option Nat).isSome = true := rfl
                have hmn : mskN (some m) = (m : Int) := rfl
                rw [hso, hmn]
                clear hso hmn
                go_wp2_with (at_builtin; refine wpList_app rfl _ _ 23 rfl 3 j0 _ 1 8 Tryz.underlying23 hj hy0 hy1 hy2 rfl (by decide) _ _ _ rfl (H7.alloc _) _ _ _ [.int .i64 (m : Int)] rfl (Rd.fresh w7 _ #[.int .i64 (m : Int)] 1 1 rfl) oc1 (by unfold maxLen; omega) (by omega) ?_; intro v8 w8 H8; clear H7)
                rw [show [Value.int .i64 (m : Int)] = ic [(m : Int)] from rfl, ← ic_append, show acc.length + 1 = (acc ++ [(m : Int)]).length by simp] at H8
                go_roundw
                case rel => exact ⟨x + 1, acc ++ [(m : Int)], by omega, by go_num, HACC2, H8⟩
                case measure => simp [intOf]; omega
            · obtain rfl : x = wn := by omega
              have HACC2 : Hid (acc = rawT r (T.take k) ++ rawY r t (y + 1)) := Lib.hid (by
                have : r.w.toNat = x := by rw [HW.out]; rfl
                rw [HACC.out, rawY_succ, this, List.append_assoc])
              go_wp2
              go_roundw
              case rel => exact ⟨y + 1, acc, by omega, by go_num, HACC2, H⟩
              case measure => simp [intOf]; omega
        · obtain rfl : y = hn := by omega
          have HACC2 : Hid (acc = rawT r (T.take (k + 1))) := Lib.hid (by rw [HACC.out, rawT_take HLA.out, HHN.out])
          go_wp2
          go_roundw
          case rel => exact ⟨k + 1, acc, by omega, by go_num, HACC2, H⟩
          case measure => simp [intOf]; omega
    · obtain rfl : k = T.length := by omega
      have hnl : acc.length ≤ 1000 := by
        rw [HACC.out, List.take_length]
        have a1 := rawT_len HV.out T
        omega
      have HOD := Lib.hid (impl_ordered_c wr (H.oi.sr.more (Nat.zero_le _) (Nat.le_refl _)) (by omega))
      have HP2 : Hid (srtU acc = plc r s) := Lib.hid (by rw [HPL.out, HACC.out, List.take_length])
      rw [HP2.out] at HOD
      obtain ⟨Au, cu, rfl, _, _, _⟩ := Res.row_at H.h0
      have hbw := H.below
      clear H
      go_wp2_with fail
      refine (HOD.out).mono ?_
      rintro e w6 ⟨v6, rfl, o6, b6⟩
      obtain ⟨A6, c6, rfl, _, _⟩ := o6.rd
      go_wp2
      go_ret
      exact ⟨_, rfl, OI.base o6 hbw.size (Nat.le_refl _), hbw.trans (b6.mono hbw.size)⟩
end Go.Proofs.YtelneohlpljblaaGreatDoor
