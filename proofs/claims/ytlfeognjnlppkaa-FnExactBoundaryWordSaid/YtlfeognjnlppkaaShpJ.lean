
/-
  Holes: the walk of the reference's flood from outside.
-/
import Derived.Test.YtlfeognjnlppkaaShpI
namespace Go.Proofs.Ytlfeognjnlppkaa
open Go.RowKit

theorem nbr_step {b : Cell} {d : Nat} (hd : d < 4) : ∃ dx dy : Int, Int.tmod (1 - (d : Int)) 2 = dx ∧ Int.tmod (2 - (d : Int)) 2 = dy ∧ (-1 ≤ dx ∧ dx ≤ 1) ∧ (-1 ≤ dy ∧ dy ≤ 1) ∧ b.x + dx = (nbr b d).x ∧ b.y + dy = (nbr b d).y := by
  have h4 : d = 0 ∨ d = 1 ∨ d = 2 ∨ d = 3 := by omega
  rcases h4 with rfl | rfl | rfl | rfl
  · exact ⟨1, 0, by decide, by decide, by decide, by decide, rfl, by simp [nbr]⟩
  · exact ⟨0, 1, by decide, by decide, by decide, by decide, by simp [nbr], rfl⟩
  · exact ⟨-1, 0, by decide, by decide, by decide, by decide, by simp [nbr]; omega, by simp [nbr]⟩
  · exact ⟨0, -1, by decide, by decide, by decide, by decide, by simp [nbr], by simp [nbr]; omega⟩
/-- free places of the frame -/
def frO (s : List Cell) (c : Cell) : Bool := inR c.x (-1) (wdOf s) && inR c.y (-1) (htOf s) && !decide (c ∈ corner s)
def OutC (s : List Cell) (c : Cell) : Prop := Rch (frO s) ⟨-1, -1⟩ c
theorem frO_grid {s : List Cell} (h : isShape s = true) : ∀ c, frO s c = true → c ∈ gridL (-1) (-1) 10 10 := fun c hc => by
  unfold frO at hc
  simp only [Bool.and_eq_true] at hc
  have h1 := inR_iff.1 hc.1.1
  have h2 := inR_iff.1 hc.1.2
  have h3 := shp_size h
  have h4 := shp_min h
  exact gridL_mem (by omega) (by omega) (by omega) (by omega)
theorem frO_start {s : List Cell} (h : isShape s = true) : frO s ⟨-1, -1⟩ = true := by
  unfold frO
  have h3 := shp_size h
  rw [inR_t (a := -1) (by omega) (by omega), inR_t (a := -1) (by omega) (by omega)]
  have : ¬ (⟨-1, -1⟩ : Cell) ∈ corner s := fun hm => by have := corner_ge hm; simp at this
  simp [this]
set_option maxRecDepth 100000 in
set_option maxHeartbeats 3200000 in
theorem outside_c {v : Value} {s : List Cell} (w : World) (h : CellsRd w 0 w.heap.size v s) (hsh : isShape s = true) :
    Calls Try.prog 51 #[v] w fun e w' => ∃ v' T, e = .returned v' ∧ CellsIn w' w.heap.size w'.heap.size v' T ∧ Fld (frO s) (fun _ => False) ⟨-1, -1⟩ T T.length 0 ∧ Below w.heap.size w w' := by
  obtain ⟨i0, hi, hz0, hz1, hz2⟩ := info_parts infoCellS
  have HSZ := Lib.hid (sizeOf_c w h hsh)
  have HCO : Hid (∀ w1, Below w.heap.size w w1 → Calls Try.prog 50 #[v] w1 fun e w' => ∃ v', e = .returned v' ∧ CellsIn w' w1.heap.size w'.heap.size v' (corner s) ∧ Below w1.heap.size w1 w') := Lib.hid fun w1 hb =>
    cornerShape_c w1 ((h.keep (SameIn.of_below hb (Nat.le_refl _))).more (Nat.le_refl _) hb.size) hsh
  obtain ⟨A, c, rfl, _, _⟩ := id h
  have HSH := Lib.hid hsh
  obtain ⟨⟨w1', w2'⟩, h1', h2'⟩ := shp_size hsh
  obtain ⟨⟨mn1, mn2⟩, mn3, mn4⟩ := shp_min hsh
  obtain ⟨cs, hcs⟩ : ∃ cs, cs = corner s := ⟨_, rfl⟩
  have hcl : cs.length ≤ 8 := by rw [hcs]; unfold corner; rw [shift_length]; exact (shp_len hsh).2
  rw [← hcs] at HCO
  have HCS := Lib.hid hcs
  clear h hsh hcs
  obtain ⟨wd, hwd⟩ : ∃ wd, wd = wdOf s := ⟨_, rfl⟩
  obtain ⟨ht, hht⟩ : ∃ ht, ht = htOf s := ⟨_, rfl⟩
  rw [← hwd] at w1' w2' HSZ
  rw [← hht] at h1' h2' HSZ
  have HWD := Lib.hid hwd
  have HHT := Lib.hid hht
  clear hwd hht
  go_enter Try.func51, Try.ntmps51
  go_wp2_with fail
  refine (HSZ.out).mono ?_
  rintro e w1 ⟨rfl, b1⟩
  have HC1 := Lib.hid (HCO.out w1 b1)
  clear HSZ HCO
  go_wp2_with fail
  refine (HC1.out).mono ?_
  rintro e w2 ⟨v2, rfl, o2, b2⟩
  have H2 := ((Sep.start w).step b1).oiNew b2 o2
  obtain ⟨A2, c2, rfl, _, _⟩ := o2.rd
  have H0 := H2.rowBox 50 #[.int .i64 (-1), .int .i64 (-1)] 2 1 rfl (by decide)
  clear b1 b2 o2 HC1 H2
  go_wp2
  generalize hW : w2.alloc (.cells #[.int .i64 (-1), .int .i64 (-1)] 50) = W at *
  clear hW
  go_loopw [6, 7] (fun sv i wr => ∃ (n : Nat) (T : List Cell), n ≤ T.length ∧ i = .int .i64 n ∧ Hid (Fld (frO s) (fun _ => False) ⟨-1, -1⟩ T n 0) ∧ T.length ≤ 100 ∧ Sep w wr [Res.row sv 50 2 T.length (cc T), Res.row (.slice A2 cs.length c2) 50 2 cs.length (cc cs)]) (fun _ i _ => 101 - (intOf i).toNat)
  case atStart => exact ⟨0, [⟨-1, -1⟩], by simp, rfl, Lib.hid (Fld.start (frO_start HSH.out) (fun h => h)), by simp, H0⟩
  case round =>
    clear H0
    obtain ⟨n, T, hn, rfl, HF, hT, H⟩ := hrel
    by_cases hlt : n < T.length
    · obtain ⟨bi, hbi⟩ : ∃ bi, T[n]? = some bi := ⟨T[n], List.getElem?_eq_getElem hlt⟩
      have HBI := Lib.hid hbi
      have hfb := ((HF.out.reach bi (List.mem_of_getElem? hbi)).2).2
      unfold frO at hfb
      simp only [Bool.and_eq_true] at hfb
      have z1 := inR_iff.1 hfb.1.1
      have z2 := inR_iff.1 hfb.1.2
      rw [← HWD.out] at z1
      rw [← HHT.out] at z2
      obtain ⟨z3, z4⟩ := z1
      obtain ⟨z5, z6⟩ := z2
      obtain ⟨As, cs', rfl, hsn, hsm, _⟩ := Res.row_at H.h0
      clear hbi hfb hsn hsm
      obtain ⟨wo, hwo⟩ : ∃ wo : World, wo = wr := ⟨_, rfl⟩
      subst hwo
      have hnT : n < T.length := hlt
      go_wp2
      go_loopw [6, 8] (fun sv dv wr => ∃ (d : Nat) (T : List Cell), d ≤ 4 ∧ dv = .int .i64 d ∧ Hid (Fld (frO s) (fun _ => False) ⟨-1, -1⟩ T n d) ∧ n < T.length ∧ Hid (T[n]? = some bi) ∧ Sep w wr [Res.row sv 50 2 T.length (cc T), Res.row (.slice A2 cs.length c2) 50 2 cs.length (cc cs)]) (fun _ dv _ => 4 - (intOf dv).toNat)
      case atStart => exact ⟨0, T, by omega, rfl, HF, hnT, HBI, H⟩
      case round =>
        clear H HF hT hlt hn hnT HBI
        obtain ⟨d, T, hd, rfl, HF, hnT, HBI, H⟩ := hrel
        have hT : T.length ≤ 100 := Nat.le_trans (HF.out.len (frO_grid HSH.out)) (by rw [gridL_len]; exact Nat.le_refl _)
        by_cases hd4 : d < 4
        ·
          obtain ⟨dx, dy, m1, m2, ⟨x1, x2⟩, ⟨y1, y2⟩, s1, s2⟩ := nbr_step (b := bi) (d := d) hd4
          obtain ⟨nb, hnb⟩ : ∃ nb, nb = nbr bi d := ⟨_, rfl⟩
          rw [← hnb] at s1 s2
          have m3 : IntKind.i64.wrap (Int.tmod (1 - (d : Int)) 2) = dx := by rw [m1]; exact IntWalk.i64_in _ (by omega)
          have m4 : IntKind.i64.wrap (Int.tmod (2 - (d : Int)) 2) = dy := by rw [m2]; exact IntWalk.i64_in _ (by omega)
          have HNB := Lib.hid hnb
          clear hnb
          obtain ⟨bs, os, cs2, rfl, hsn, hsm, hbs⟩ := own_shape H.h0 (by omega)
          obtain ⟨q1, q2⟩ := row_at2 H.h0 HBI.out
          clear hsn hsm
          have x3 : -2 ≤ nb.x := by omega
          have x4 : nb.x ≤ 9 := by omega
          have y3 : -2 ≤ nb.y := by omega
          have y4 : nb.y ≤ 9 := by omega
          obtain ⟨p3, hp3⟩ : ∃ p3, p3 = decide ((⟨nb.x, nb.y⟩ : Cell) ∈ cs) := ⟨_, rfl⟩
          obtain ⟨p4, hp4⟩ : ∃ p4, p4 = decide ((⟨nb.x, nb.y⟩ : Cell) ∈ T) := ⟨_, rfl⟩
          have hcsR : CellsRd wr 0 wr.heap.size (.slice A2 cs.length c2) cs := H.drop.cellsRd (by omega)
          have hTR : CellsRd wr 0 wr.heap.size (.slice (some ⟨bs, os, none⟩) T.length cs2) T := H.cellsRd (by omega)
          have HHC : Hid (∀ _ : Unit, Calls Try.prog 48 #[.slice A2 cs.length c2, .int .i64 nb.x, .int .i64 nb.y] wr fun e w' => e = .returned (.bool p3) ∧ wr = w') := Lib.hid fun _ => by rw [hp3]; exact spec_has2_c _ _ _ hcsR (by omega)
          have HHS : Hid (∀ _ : Unit, Calls Try.prog 48 #[.slice (some ⟨bs, os, none⟩) T.length cs2, .int .i64 nb.x, .int .i64 nb.y] wr fun e w' => e = .returned (.bool p4) ∧ wr = w') := Lib.hid fun _ => by rw [hp4]; exact spec_has2_c _ _ _ hTR (by omega)
          have HP3 := Lib.hid hp3
          have HP4 := Lib.hid hp4
          clear hcsR hTR hp3 hp4
          have hfr : frO s nb = (inR nb.x (-1) wd && inR nb.y (-1) ht && !p3) := by unfold frO; rw [HP3.out, HWD.out, HHT.out, HCS.out]
          have HFR := Lib.hid hfr
          clear hfr
          cases hp1 : inR nb.x (-1) wd
          · have HP1 := Lib.hid hp1
            have hno : frO s (nbr bi d) = false := by rw [← HNB.out, HFR.out, HP1.out]; rfl
            have HNO := Lib.hid hno
            clear hno
            have hf2 : Fld (frO s) (fun _ => False) ⟨-1, -1⟩ T n (d + 1) := HF.out.skip HBI.out (fun h => absurd h (by rw [HNO.out]; exact Bool.false_ne_true))
            have HF2 := Lib.hid hf2
            have H1 := H
            clear hf2 H
            go_wp2_with (go_at_call 65; refine (l1In_r _ _ _ _).mono ?_; rintro e w' ⟨rfl, rfl⟩)
            skip
            clear m1 m2 m3 m4 s1 s2 q1 q2
            go_roundw
            case rel => exact ⟨d + 1, T, by omega, by go_num, HF2, hnT, HBI, H1⟩
            case measure => simp [intOf]; omega
          cases hp2 : inR nb.y (-1) ht
          · have HP1 := Lib.hid hp1
            have HP2 := Lib.hid hp2
            have hno : frO s (nbr bi d) = false := by rw [← HNB.out, HFR.out, HP1.out, HP2.out]; rfl
            have HNO := Lib.hid hno
            clear hno
            have hf2 : Fld (frO s) (fun _ => False) ⟨-1, -1⟩ T n (d + 1) := HF.out.skip HBI.out (fun h => absurd h (by rw [HNO.out]; exact Bool.false_ne_true))
            have HF2 := Lib.hid hf2
            have H1 := H
            clear hf2 H
            go_wp2_with (go_at_call 65; refine (l1In_r _ _ _ _).mono ?_; rintro e w' ⟨rfl, rfl⟩)
            skip
            clear m1 m2 m3 m4 s1 s2 q1 q2
            go_roundw
            case rel => exact ⟨d + 1, T, by omega, by go_num, HF2, hnT, HBI, H1⟩
            case measure => simp [intOf]; omega
          cases p3
          rotate_left
          · have HP1 := Lib.hid hp1
            have HP2 := Lib.hid hp2
            have hno : frO s (nbr bi d) = false := by rw [← HNB.out, HFR.out, HP1.out, HP2.out]; rfl
            have HNO := Lib.hid hno
            clear hno
            have hf2 : Fld (frO s) (fun _ => False) ⟨-1, -1⟩ T n (d + 1) := HF.out.skip HBI.out (fun h => absurd h (by rw [HNO.out]; exact Bool.false_ne_true))
            have HF2 := Lib.hid hf2
            have H1 := H
            clear hf2 H
            go_wp2_with (go_at_call 65; refine (l1In_r _ _ _ _).mono ?_; rintro e w' ⟨rfl, rfl⟩)
            refine (HHC.out ()).mono ?_
            rintro e w' ⟨rfl, rfl⟩
            go_wp2
            clear m1 m2 m3 m4 s1 s2 q1 q2
            go_roundw
            case rel => exact ⟨d + 1, T, by omega, by go_num, HF2, hnT, HBI, H1⟩
            case measure => simp [intOf]; omega
          cases p4
          rotate_left
          · have HIN : Hid (nbr bi d ∈ T) := Lib.hid (by rw [← HNB.out]; exact of_decide_eq_true HP4.out.symm)
            have hf2 : Fld (frO s) (fun _ => False) ⟨-1, -1⟩ T n (d + 1) := HF.out.skip HBI.out (fun _ => .inl HIN.out)
            have HF2 := Lib.hid hf2
            have H1 := H
            clear hf2 H
            go_wp2_with (go_at_call 65; refine (l1In_r _ _ _ _).mono ?_; rintro e w' ⟨rfl, rfl⟩)
            refine (HHC.out ()).mono ?_
            rintro e w' ⟨rfl, rfl⟩
            go_wp2_with fail
            refine (HHS.out ()).mono ?_
            rintro e w' ⟨rfl, rfl⟩
            go_wp2
            clear m1 m2 m3 m4 s1 s2 q1 q2
            go_roundw
            case rel => exact ⟨d + 1, T, by omega, by go_num, HF2, hnT, HBI, H1⟩
            case measure => simp [intOf]; omega
          · have HP1 := Lib.hid hp1
            have HP2 := Lib.hid hp2
            have hno : ¬ nbr bi d ∈ T := by rw [← HNB.out]; exact of_decide_eq_false HP4.out.symm
            have hyes : frO s (nbr bi d) = true := by rw [← HNB.out, HFR.out, HP1.out, HP2.out]; rfl
            have hf2 := HF.out.add HBI.out hd4 hyes hno (fun h => h)
            rw [← HNB.out] at hf2
            have HF2 := Lib.hid hf2
            have hb2 : (T ++ [nb])[n]? = some bi := by rw [List.getElem?_append_left hnT]; exact HBI.out
            have HB2 := Lib.hid hb2
            clear hno hyes hf2 hb2
            go_wp2_with (go_at_call 65; refine (l1In_r _ _ _ _).mono ?_; rintro e w' ⟨rfl, rfl⟩)
            refine (HHC.out ()).mono ?_
            rintro e w' ⟨rfl, rfl⟩
            go_wp2_with fail
            refine (HHS.out ()).mono ?_
            rintro e w' ⟨rfl, rfl⟩
            go_wp2_with (at_builtin; refine wpList_app rfl _ _ 26 rfl 50 i0 _ 2 16 Try.underlying26 hi hz0 hz1 hz2 rfl (by decide) _ _ _ rfl (H.alloc _) _ _ _ [.int .i64 nb.x, .int .i64 nb.y] rfl (Rd.fresh wr _ #[.int .i64 nb.x, .int .i64 nb.y] 2 1 rfl) oc2 (by unfold maxLen; omega) (by omega) ?_; intro v3 w3 H3; clear H)
            clear m1 m2 m3 m4 s1 s2 q1 q2
            have H4 : Sep w w3 [Res.row v3 50 2 (T ++ [nb]).length (cc (T ++ [nb])), Res.row (.slice A2 cs.length c2) 50 2 cs.length (cc cs)] := by rw [cc_append, List.length_append]; exact H3
            clear H3
            go_roundw
            case rel => exact ⟨d + 1, T ++ [nb], by omega, by go_num, HF2, by simp; omega, HB2, H4⟩
            case measure => simp [intOf]; omega
        · obtain rfl : d = 4 := by omega
          have HF2 := Lib.hid (HF.out.next (Nat.le_refl _))
          go_wp2
          go_roundw
          case rel => exact ⟨n + 1, T, by omega, by go_num, HF2, hT, H⟩
          case measure => simp [intOf]; omega
    · obtain rfl : n = T.length := by omega
      obtain ⟨As, cs', rfl, hsn, hsm, _⟩ := Res.row_at H.h0
      go_wp2
      go_ret
      exact ⟨_, T, rfl, CellsIn.mk H.oi.1 rfl rfl, HF.out, H.below⟩
end Go.Proofs.Ytlfeognjnlppkaa
