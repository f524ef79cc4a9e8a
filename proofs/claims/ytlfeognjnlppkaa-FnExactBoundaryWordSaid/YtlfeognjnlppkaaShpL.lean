
/-
  Holes: the walk of the reference's 'HolesOf'.
-/
import Derived.Test.YtlfeognjnlppkaaShpK
namespace Go.Proofs.Ytlfeognjnlppkaa
open Go.RowKit

theorem cc_two {S T : List Cell} : cc S ++ cc T = cc (S ++ T) := (cc_append S T).symm
theorem at_two {S T : List Cell} {n : Nat} {b : Cell} (h : T[n]? = some b) : (S ++ T)[S.length + n]? = some b := by
  rw [List.getElem?_append_right (by omega), Nat.add_sub_cancel_left]; exact h
noncomputable def holesZ (s : List Cell) : Int := if isShape s then ((holesN s : Nat) : Int) else -1
set_option maxRecDepth 100000 in
set_option maxHeartbeats 6400000 in
theorem spec_holes_c {v : Value} {s : List Cell} (w : World) (h : CellsRd w 0 w.heap.size v s) (hn : s.length ≤ 1048576) :
    Calls Try.prog 20 #[v] w fun e w' => e = .returned (.int .i64 (holesZ s)) ∧ Below w.heap.size w w' := by
  obtain ⟨i0, hi, hz0, hz1, hz2⟩ := info_parts infoCellS
  have HS0 := Lib.hid (spec_isShape_c w h hn)
  have HSZ : Hid (isShape s = true → ∀ w1, Below w.heap.size w w1 → Calls Try.prog 49 #[v] w1 fun e w' => e = .returned (.tuple #[.int .i64 (wdOf s), .int .i64 (htOf s)]) ∧ Below w1.heap.size w1 w') := Lib.hid fun hs w1 hb =>
    sizeOf_c w1 ((h.keep (SameIn.of_below hb (Nat.le_refl _))).more (Nat.le_refl _) hb.size) hs
  have HCO : Hid (isShape s = true → ∀ w1, Below w.heap.size w w1 → Calls Try.prog 50 #[v] w1 fun e w' => ∃ v', e = .returned v' ∧ CellsIn w' w1.heap.size w'.heap.size v' (corner s) ∧ Below w1.heap.size w1 w') := Lib.hid fun hs w1 hb =>
    cornerShape_c w1 ((h.keep (SameIn.of_below hb (Nat.le_refl _))).more (Nat.le_refl _) hb.size) hs
  have HOU : Hid (isShape s = true → ∀ w1, Below w.heap.size w w1 → Calls Try.prog 51 #[v] w1 fun e w' => ∃ v' T, e = .returned v' ∧ CellsIn w' w1.heap.size w'.heap.size v' T ∧ Fld (frO s) (fun _ => False) ⟨-1, -1⟩ T T.length 0 ∧ Below w1.heap.size w1 w') := Lib.hid fun hs w1 hb =>
    outside_c w1 ((h.keep (SameIn.of_below hb (Nat.le_refl _))).more (Nat.le_refl _) hb.size) hs
  obtain ⟨A, c, rfl, _, _⟩ := id h
  obtain ⟨R, hR⟩ : ∃ R : Int, R = holesZ s := ⟨_, rfl⟩
  rw [← hR]
  have HR := Lib.hid hR
  clear h hR
  go_enter Try.func20, Try.ntmps20
  go_wp2_with fail
  refine (HS0.out).mono ?_
  rintro e w1 ⟨rfl, b1⟩
  clear HS0
  cases hsh : isShape s
  · obtain rfl : R = -1 := by rw [HR.out, holesZ, hsh]; rfl
    clear hsh
    go_wp2
    go_ret
    exact ⟨rfl, b1⟩
  have HSH := Lib.hid hsh
  obtain ⟨⟨w1', w2'⟩, h1', h2'⟩ := shp_size hsh
  obtain ⟨⟨mn1, mn2⟩, mn3, mn4⟩ := shp_min hsh
  have HR2 : Hid (R = (holesN s : Nat)) := Lib.hid (by rw [HR.out, holesZ, hsh]; rfl)
  have HS1 := Lib.hid (HSZ.out hsh w1 b1)
  obtain ⟨cs, hcs⟩ : ∃ cs, cs = corner s := ⟨_, rfl⟩
  have hcl : cs.length ≤ 8 := by rw [hcs]; unfold corner; rw [shift_length]; exact (shp_len hsh).2
  rw [← hcs] at HCO
  have HCS := Lib.hid hcs
  obtain ⟨wd, hwd⟩ : ∃ wd, wd = wdOf s := ⟨_, rfl⟩
  obtain ⟨ht, hht⟩ : ∃ ht, ht = htOf s := ⟨_, rfl⟩
  rw [← hwd] at w1' w2' HS1
  rw [← hht] at h1' h2' HS1
  have HWD := Lib.hid hwd
  have HHT := Lib.hid hht
  clear hsh hcs hwd hht HSZ
  go_wp2_with fail
  refine (HS1.out).mono ?_
  rintro e w2 ⟨rfl, b2⟩
  have hb2 := b1.trans (b2.mono b1.size)
  have HC1 := Lib.hid (HCO.out HSH.out w2 hb2)
  clear HS1 HCO b1 b2
  go_wp2_with fail
  refine (HC1.out).mono ?_
  rintro e w3 ⟨v2, rfl, o2, b3⟩
  have hb3 := hb2.trans (b3.mono hb2.size)
  have H2 := ((Sep.start w).step hb2).oiNew b3 o2
  obtain ⟨A2, c2, rfl, _, _⟩ := o2.rd
  have HO1 := Lib.hid (HOU.out HSH.out w3 hb3)
  clear HC1 HOU hb2 b3 o2
  go_wp2_with fail
  refine (HO1.out).mono ?_
  rintro e w4 ⟨v3, T0, rfl, o3, hfl, b4⟩
  have H0 := H2.oiNew b4 o3
  obtain ⟨A3, c3, rfl, _, _⟩ := o3.rd
  have HI0 := Lib.hid (HInv.start hfl (Nat.le_refl _))
  have hT0 := HI0.out.len HSH.out
  clear b4 o3 hfl H2 HO1 hb3
  go_wp2
  go_loopw [6, 7, 8] (fun sv nv yv wr => ∃ (S L : List Cell) (y : Int) (m : Nat), 0 ≤ y ∧ y ≤ ht ∧ yv = .int .i64 y ∧ nv = .int .i64 m ∧ m ≤ 100 ∧ Hid (m = L.length) ∧ S.length ≤ 100 ∧ Hid (HInv s S L ⟨0, y⟩) ∧ Sep w wr [Res.row sv 50 2 S.length (cc S), Res.row (.slice A2 cs.length c2) 50 2 cs.length (cc cs)]) (fun _ _ yv _ => (ht - intOf yv).toNat)
  case atStart => exact ⟨T0, [], 0, 0, by omega, by omega, rfl, rfl, by omega, Lib.hid rfl, hT0, HI0, H0⟩
  case round =>
    clear H0 HI0 hT0
    obtain ⟨S, L, y, m, hy0, hyh, rfl, rfl, hm, HM, hS, HI, H⟩ := hrel
    by_cases hy : y < ht
    · have hdy : decide (y < ht) = true := by simpa using hy
      obtain ⟨wo, hwo⟩ : ∃ wo : World, wo = wr := ⟨_, rfl⟩
      subst hwo
      obtain ⟨As, cs', rfl, _, _, _⟩ := Res.row_at H.h0
      go_wp2
      go_loopw [6, 7, 9] (fun sv nv xv wr => ∃ (S L : List Cell) (x : Int) (m : Nat), 0 ≤ x ∧ x ≤ wd ∧ xv = .int .i64 x ∧ nv = .int .i64 m ∧ m ≤ 100 ∧ Hid (m = L.length) ∧ S.length ≤ 100 ∧ Hid (HInv s S L ⟨x, y⟩) ∧ Sep w wr [Res.row sv 50 2 S.length (cc S), Res.row (.slice A2 cs.length c2) 50 2 cs.length (cc cs)]) (fun _ _ xv _ => (wd - intOf xv).toNat)
      case atStart => exact ⟨S, L, 0, m, by omega, by omega, rfl, rfl, hm, HM, hS, HI, H⟩
      case round =>
        clear H hm HM hS HI
        obtain ⟨S, L, x, m, hx0, hxw, rfl, rfl, hm, HM, hS, HI, H⟩ := hrel
        by_cases hx : x < wd
        · have hdx : decide (x < wd) = true := by simpa using hx
          obtain ⟨As, cs', rfl, hsn, hsm, hsr⟩ := Res.row_at H.h0
          obtain ⟨p1, hp1⟩ : ∃ p, p = decide ((⟨x, y⟩ : Cell) ∈ cs) := ⟨_, rfl⟩
          obtain ⟨p2, hp2⟩ : ∃ p, p = decide ((⟨x, y⟩ : Cell) ∈ S) := ⟨_, rfl⟩
          have hcsR : CellsRd wr 0 wr.heap.size (.slice A2 cs.length c2) cs := H.drop.cellsRd (by omega)
          have hSR : CellsRd wr 0 wr.heap.size (.slice As S.length cs') S := H.cellsRd (by omega)
          have HHC : Hid (∀ _ : Unit, Calls Try.prog 48 #[.slice A2 cs.length c2, .int .i64 x, .int .i64 y] wr fun e w' => e = .returned (.bool p1) ∧ wr = w') := Lib.hid fun _ => by rw [hp1]; exact spec_has2_c _ _ _ hcsR (by omega)
          have HHS : Hid (∀ _ : Unit, Calls Try.prog 48 #[.slice As S.length cs', .int .i64 x, .int .i64 y] wr fun e w' => e = .returned (.bool p2) ∧ wr = w') := Lib.hid fun _ => by rw [hp2]; exact spec_has2_c _ _ _ hSR (by omega)
          have HP1 := Lib.hid hp1
          have HP2 := Lib.hid hp2
          clear hcsR hSR hp1 hp2 hsn hsm hsr
          cases p1
          rotate_left
          · have hi2 : HInv s S L ⟨x + 1, y⟩ := HI.out.skip fun hf => absurd (of_decide_eq_true HP1.out.symm) (by rw [HCS.out]; exact (frB_iff.1 hf).2.2)
            have HI2 := Lib.hid hi2
            clear hi2
            go_wp2_with fail
            refine (HHC.out ()).mono ?_
            rintro e w' ⟨rfl, rfl⟩
            go_wp2
            go_roundw
            case rel => exact ⟨S, L, x + 1, m, by omega, by omega, rfl, rfl, hm, HM, hS, HI2, H⟩
            case measure => simp [intOf]; omega
          cases p2
          rotate_left
          · have hi2 : HInv s S L ⟨x + 1, y⟩ := HI.out.skip fun _ => of_decide_eq_true HP2.out.symm
            have HI2 := Lib.hid hi2
            clear hi2
            go_wp2_with fail
            refine (HHC.out ()).mono ?_
            rintro e w' ⟨rfl, rfl⟩
            go_wp2_with fail
            refine (HHS.out ()).mono ?_
            rintro e w' ⟨rfl, rfl⟩
            go_wp2
            go_roundw
            case rel => exact ⟨S, L, x + 1, m, by omega, by omega, rfl, rfl, hm, HM, hS, HI2, H⟩
            case measure => simp [intOf]; omega
          have HFR : Hid (frB s ⟨x, y⟩ = true) := Lib.hid (frB_iff.2 ⟨by rw [← HWD.out]; simp only; omega, by rw [← HHT.out]; simp only; omega, by rw [← HCS.out]; exact of_decide_eq_false HP1.out.symm⟩)
          have HNS : Hid (¬ (⟨x, y⟩ : Cell) ∈ S) := Lib.hid (of_decide_eq_false HP2.out.symm)
          have HF0 := Lib.hid (Fld.start (B := (· ∈ S)) HFR.out HNS.out)
          have hS1 := HI.out.flen HSH.out HF0.out
          simp only [List.length_cons, List.length_nil] at hS1
          have hLS : m ≤ S.length := by rw [HM.out]; exact nodup_len HI.out.lnodup HI.out.lsub
          have hm2 : m + 1 ≤ 100 := by omega
          go_wp2_with fail
          refine (HHC.out ()).mono ?_
          rintro e w' ⟨rfl, rfl⟩
          go_wp2_with fail
          refine (HHS.out ()).mono ?_
          rintro e w' ⟨rfl, rfl⟩
          go_wp2_with (at_builtin; refine wpList_app rfl _ _ 26 rfl 50 i0 _ 2 16 Try.underlying26 hi hz0 hz1 hz2 rfl (by decide) _ _ _ rfl (H.alloc _) _ _ _ [.int .i64 x, .int .i64 y] rfl (Rd.fresh wr _ #[.int .i64 x, .int .i64 y] 2 1 rfl) oc2 (by unfold maxLen; omega) (by omega) ?_; intro v3 w3 H3; clear H HHC HHS)
          obtain ⟨U0, hU0⟩ : ∃ U0, U0 = S ++ [(⟨x, y⟩ : Cell)] := ⟨_, rfl⟩
          have H4 : Sep w w3 [Res.row v3 50 2 U0.length (cc U0), Res.row (.slice A2 cs.length c2) 50 2 cs.length (cc cs)] := by rw [hU0, cc_append, List.length_append]; exact H3
          have HU0 := Lib.hid hU0
          clear H3 hU0
          obtain ⟨wp, hwp⟩ : ∃ wp : World, wp = w3 := ⟨_, rfl⟩
          subst hwp
          go_loopw [6, 11] (fun sv iv wr => ∃ (n i : Nat) (T U : List Cell), n ≤ T.length ∧ iv = .int .i64 i ∧ Hid (i = S.length + n) ∧ i ≤ 100 ∧ Hid (Fld (frB s) (· ∈ S) ⟨x, y⟩ T n 0) ∧ S.length + T.length ≤ 100 ∧ Hid (U = S ++ T) ∧ Sep w wr [Res.row sv 50 2 U.length (cc U), Res.row (.slice A2 cs.length c2) 50 2 cs.length (cc cs)]) (fun _ iv _ => 101 - (intOf iv).toNat)
          case atStart => exact ⟨0, S.length, [⟨x, y⟩], U0, by simp, rfl, Lib.hid rfl, hS, HF0, by simp; omega, HU0, H4⟩
          case round =>
            clear H4 HF0
            obtain ⟨n, i, T, U, hnT0, rfl, HI1, hi100, HF, hST, HU, H⟩ := hrel
            have hlen : U.length = S.length + T.length := by rw [HU.out]; exact List.length_append
            have HLEN := Lib.hid hlen
            clear hlen
            by_cases hlt : n < T.length
            · have hiL : i < U.length := by rw [HLEN.out, HI1.out]; omega
              obtain ⟨bi, hbi⟩ : ∃ bi, T[n]? = some bi := ⟨T[n], List.getElem?_eq_getElem hlt⟩
              have HBI := Lib.hid hbi
              have hfb := frB_iff.1 ((HF.out.reach bi (List.mem_of_getElem? hbi)).2).2
              obtain ⟨⟨z3, z4⟩, ⟨z5, z6⟩, _⟩ := hfb
              rw [← HWD.out] at z4
              rw [← HHT.out] at z6
              obtain ⟨As, cs', rfl, _, _, _⟩ := Res.row_at H.h0
              clear hbi
              obtain ⟨wo, hwo⟩ : ∃ wo : World, wo = wr := ⟨_, rfl⟩
              subst hwo
              have hnT : n < T.length := hlt
              go_wp2
              go_loopw [6, 12] (fun sv dv wr => ∃ (d : Nat) (T U : List Cell), d ≤ 4 ∧ dv = .int .i64 d ∧ Hid (Fld (frB s) (· ∈ S) ⟨x, y⟩ T n d) ∧ n < T.length ∧ Hid (T[n]? = some bi) ∧ Hid (U = S ++ T) ∧ Sep w wr [Res.row sv 50 2 U.length (cc U), Res.row (.slice A2 cs.length c2) 50 2 cs.length (cc cs)]) (fun _ dv _ => 4 - (intOf dv).toNat)
              case atStart => exact ⟨0, T, U, by omega, rfl, HF, hnT, HBI, HU, H⟩
              case round =>
                clear H HF hlt hnT0 hnT HBI hST hiL HLEN HU
                obtain ⟨d, T, U, hd, rfl, HF, hnT, HBI, HU, H⟩ := hrel
                have hST := HI.out.flen HSH.out HF.out
                have hlen : U.length = S.length + T.length := by rw [HU.out]; exact List.length_append
                have hiL : i < U.length := by rw [hlen, HI1.out]; omega
                have hL100 : U.length ≤ 100 := by rw [hlen]; exact hST
                clear hlen
                by_cases hd4 : d < 4
                ·
                  obtain ⟨dx, dy, m1, m2, ⟨x1, x2⟩, ⟨y1, y2⟩, s1, s2⟩ := nbr_step (b := bi) (d := d) hd4
                  obtain ⟨nb, hnb⟩ : ∃ nb, nb = nbr bi d := ⟨_, rfl⟩
                  rw [← hnb] at s1 s2
                  have m3 : IntKind.i64.wrap (Int.tmod (1 - (d : Int)) 2) = dx := by rw [m1]; exact IntWalk.i64_in _ (by omega)
                  have m4 : IntKind.i64.wrap (Int.tmod (2 - (d : Int)) 2) = dy := by rw [m2]; exact IntWalk.i64_in _ (by omega)
                  have HNB := Lib.hid hnb
                  clear hnb
                  obtain ⟨bs, os, cs2, rfl, hsn, hsm, hbs⟩ := own_shape H.h0 (by omega)
                  have hbiL : U[i]? = some bi := by rw [HU.out, HI1.out]; exact at_two HBI.out
                  obtain ⟨q1, q2⟩ := row_at2 H.h0 hbiL
                  clear hsn hsm hbiL
                  have x3 : -2 ≤ nb.x := by omega
                  have x4 : nb.x ≤ 9 := by omega
                  have y3 : -2 ≤ nb.y := by omega
                  have y4 : nb.y ≤ 9 := by omega
                  obtain ⟨p3, hp3⟩ : ∃ p3, p3 = decide ((⟨nb.x, nb.y⟩ : Cell) ∈ cs) := ⟨_, rfl⟩
                  obtain ⟨p4, hp4⟩ : ∃ p4, p4 = decide ((⟨nb.x, nb.y⟩ : Cell) ∈ U) := ⟨_, rfl⟩
                  have hcsR : CellsRd wr 0 wr.heap.size (.slice A2 cs.length c2) cs := H.drop.cellsRd (by omega)
                  have hTR : CellsRd wr 0 wr.heap.size (.slice (some ⟨bs, os, none⟩) U.length cs2) U := H.cellsRd (by omega)
                  have HHC : Hid (∀ _ : Unit, Calls Try.prog 48 #[.slice A2 cs.length c2, .int .i64 nb.x, .int .i64 nb.y] wr fun e w' => e = .returned (.bool p3) ∧ wr = w') := Lib.hid fun _ => by rw [hp3]; exact spec_has2_c _ _ _ hcsR (by omega)
                  have HHS : Hid (∀ _ : Unit, Calls Try.prog 48 #[.slice (some ⟨bs, os, none⟩) U.length cs2, .int .i64 nb.x, .int .i64 nb.y] wr fun e w' => e = .returned (.bool p4) ∧ wr = w') := Lib.hid fun _ => by rw [hp4]; exact spec_has2_c _ _ _ hTR (by omega)
                  have HP3 := Lib.hid hp3
                  have HP4 := Lib.hid hp4
                  clear hcsR hTR hp3 hp4
                  cases p3
                  rotate_left
                  · have HIN : Hid (nb ∈ corner s) := Lib.hid (by rw [← HCS.out]; exact of_decide_eq_true HP3.out.symm)
                    have hf2 : Fld (frB s) (· ∈ S) ⟨x, y⟩ T n (d + 1) := HF.out.skip HBI.out (fun hf => absurd HIN.out (by rw [HNB.out]; exact (frB_iff.1 hf).2.2))
                    have HF2 := Lib.hid hf2
                    have H1 := H
                    clear hf2 H
                    go_wp2_with fail
                    refine (HHC.out ()).mono ?_
                    rintro e w' ⟨rfl, rfl⟩
                    go_wp2
                    clear m1 m2 m3 m4 s1 s2 q1 q2
                    go_roundw
                    case rel => exact ⟨d + 1, T, U, by omega, by go_num, HF2, hnT, HBI, HU, H1⟩
                    case measure => simp [intOf]; omega
                  cases p4
                  rotate_left
                  · have HIN : Hid (nb ∈ S ++ T) := Lib.hid (by rw [← HU.out]; exact of_decide_eq_true HP4.out.symm)
                    have hf2 : Fld (frB s) (· ∈ S) ⟨x, y⟩ T n (d + 1) := HF.out.skip HBI.out (fun _ => by rw [← HNB.out]; exact (List.mem_append.1 HIN.out).symm)
                    have HF2 := Lib.hid hf2
                    have H1 := H
                    clear hf2 H
                    go_wp2_with fail
                    refine (HHC.out ()).mono ?_
                    rintro e w' ⟨rfl, rfl⟩
                    go_wp2_with fail
                    refine (HHS.out ()).mono ?_
                    rintro e w' ⟨rfl, rfl⟩
                    go_wp2
                    clear m1 m2 m3 m4 s1 s2 q1 q2
                    go_roundw
                    case rel => exact ⟨d + 1, T, U, by omega, by go_num, HF2, hnT, HBI, HU, H1⟩
                    case measure => simp [intOf]; omega
                  · have hnc : ¬ nb ∈ corner s := by rw [← HCS.out]; exact of_decide_eq_false HP3.out.symm
                    have hno : ¬ nb ∈ S ++ T := by rw [← HU.out]; exact of_decide_eq_false HP4.out.symm
                    have hnS : ¬ nb ∈ S := fun hm => hno (List.mem_append.2 (.inl hm))
                    have hnTm : ¬ nb ∈ T := fun hm => hno (List.mem_append.2 (.inr hm))
                    have hfr : frB s nb = true := HI.out.nb HSH.out HF.out (List.mem_of_getElem? HBI.out) ⟨d, hd4, HNB.out⟩ hnc hnS
                    rw [HNB.out] at hfr hnTm hnS
                    have hf2 := HF.out.add HBI.out hd4 hfr hnTm hnS
                    rw [← HNB.out] at hf2
                    have HF2 := Lib.hid hf2
                    have hb2 : (T ++ [nb])[n]? = some bi := by rw [List.getElem?_append_left hnT]; exact HBI.out
                    have HB2 := Lib.hid hb2
                    clear hno hnc hfr hf2 hb2 hnS hnTm
                    go_wp2_with fail
                    refine (HHC.out ()).mono ?_
                    rintro e w' ⟨rfl, rfl⟩
                    go_wp2_with fail
                    refine (HHS.out ()).mono ?_
                    rintro e w' ⟨rfl, rfl⟩
                    go_wp2_with (at_builtin; refine wpList_app rfl _ _ 26 rfl 50 i0 _ 2 16 Try.underlying26 hi hz0 hz1 hz2 rfl (by decide) _ _ _ rfl (H.alloc _) _ _ _ [.int .i64 nb.x, .int .i64 nb.y] rfl (Rd.fresh wr _ #[.int .i64 nb.x, .int .i64 nb.y] 2 1 rfl) oc2 (by unfold maxLen; omega) (by omega) ?_; intro v3 w3 H3; clear H)
                    clear m1 m2 m3 m4 s1 s2 q1 q2
                    obtain ⟨U2, hU2⟩ : ∃ U2, U2 = U ++ [nb] := ⟨_, rfl⟩
                    have H4 : Sep w w3 [Res.row v3 50 2 U2.length (cc U2), Res.row (.slice A2 cs.length c2) 50 2 cs.length (cc cs)] := by rw [hU2, cc_append, List.length_append]; exact H3
                    have HU2 : Hid (U2 = S ++ (T ++ [nb])) := Lib.hid (by rw [hU2, HU.out, List.append_assoc])
                    clear hU2
                    clear H3
                    go_roundw
                    case rel => exact ⟨d + 1, T ++ [nb], U2, by omega, by go_num, HF2, by simp; omega, HB2, HU2, H4⟩
                    case measure => simp [intOf]; omega
                · obtain rfl : d = 4 := by omega
                  have HF2 := Lib.hid (HF.out.next (Nat.le_refl _))
                  have hst2 : S.length + T.length ≤ 100 := hST
                  have HI3 : Hid (i + 1 = S.length + (n + 1)) := Lib.hid (by rw [HI1.out]; omega)
                  go_wp2
                  go_roundw
                  case rel => exact ⟨n + 1, i + 1, T, U, by omega, by go_num, HI3, by omega, HF2, hst2, HU, H⟩
                  case measure => simp [intOf]; omega
            · obtain rfl : n = T.length := by omega
              have hiL : ¬ i < U.length := by rw [HLEN.out, HI1.out]; omega
              have hi2 := HI.out.add HFR.out HNS.out HF.out (Nat.le_refl _)
              rw [← HU.out] at hi2
              have HI2 := Lib.hid hi2
              have HM2 : Hid (m + 1 = (L ++ [(⟨x, y⟩ : Cell)]).length) := Lib.hid (by rw [List.length_append, HM.out]; rfl)
              have hL100 : U.length ≤ 100 := by rw [HLEN.out]; exact hST
              obtain ⟨As5, cs5, rfl, _, _, _⟩ := Res.row_at H.h0
              clear hi2
              go_wp2
              go_roundw
              case rel => exact ⟨U, L ++ [⟨x, y⟩], x + 1, m + 1, by omega, by omega, rfl, by go_num, hm2, HM2, hL100, HI2, H⟩
              case measure => simp [intOf]; omega
        · have hdx : decide (x < wd) = false := by simpa using hx
          have HI2 := Lib.hid (HI.out.row (by rw [← HWD.out]; omega))
          go_wp2
          go_roundw
          case rel => exact ⟨S, L, y + 1, m, by omega, by omega, rfl, rfl, hm, HM, hS, HI2, H⟩
          case measure => simp [intOf]; omega
    · have hdy : decide (y < ht) = false := by simpa using hy
      have hRe : R = (m : Int) := by rw [HR2.out, HI.out.last (by rw [← HHT.out]; omega), HM.out]
      subst hRe
      have hbel := H.below
      go_wp2
      go_ret
      exact ⟨rfl, hbel⟩
end Go.Proofs.Ytlfeognjnlppkaa
