
/-
  Holes: the walk of the reference's flood from outside. Holes: what the reference counts, in plain Lean. Holes: the walk of the reference's 'HolesOf'. Holes: what the program counts, in plain Lean; that it is one more than what the reference counts. Holes: the program counts one more than the reference. Plain Lean.
-/
import Derived.Test.YtghpkfihdcjlaaaGreatDoorShpI
import Derived.Test.YtghpkfihdcjlaaaGreatDoorShpFG
namespace Go.Proofs.YtghpkfihdcjlaaaGreatDoor
open Go.RowKit

theorem nbr_step {b : Cell} {d : Nat} (hd : d < 4) : ∃ dx dy : Int, Int.tmod (1 - (d : Int)) 2 = dx ∧ Int.tmod (2 - (d : Int)) 2 = dy ∧ (-1 ≤ dx ∧ dx ≤ 1) ∧ (-1 ≤ dy ∧ dy ≤ 1) ∧ b.x + dx = (nbr b d).x ∧ b.y + dy = (nbr b d).y := by
  have h4 : d = 0 ∨ d = 1 ∨ d = 2 ∨ d = 3 := by omega
  rcases h4 with rfl | rfl | rfl | rfl
  · exact ⟨1, 0, by decide, by decide, by decide, by decide, rfl, by simp [nbr]⟩
  · exact ⟨0, 1, by decide, by decide, by decide, by decide, by simp [nbr], rfl⟩
  · exact ⟨-1, 0, by decide, by decide, by decide, by decide, by simp [nbr]; omega, by simp [nbr]⟩
  · exact ⟨0, -1, by decide, by decide, by decide, by decide, by simp [nbr], by simp [nbr]; omega⟩
/-- free places of the frame -/
def frO (s : List Cell) (c : Cell) : Bool := inR c.x (-1) (wdOf s) && inR c.y (-1) (htOf s) && !decide (c ∈ corner s)
def OutC (s : List Cell) (c : Cell) : Prop := Rch (frO s) ⟨-1, -1⟩ c
theorem frO_grid {s : List Cell} (h : isShape s = true) : ∀ c, frO s c = true → c ∈ gridL (-1) (-1) 10 10 := fun c hc => by
  unfold frO at hc
  simp only [Bool.and_eq_true] at hc
  have h1 := inR_iff.1 hc.1.1
  have h2 := inR_iff.1 hc.1.2
  have h3 := shp_size h
  have h4 := shp_min h
  exact gridL_mem (by omega) (by omega) (by omega) (by omega)
theorem frO_start {s : List Cell} (h : isShape s = true) : frO s ⟨-1, -1⟩ = true := by
  unfold frO
  have h3 := shp_size h
  rw [inR_t (a := -1) (by omega) (by omega), inR_t (a := -1) (by omega) (by omega)]
  have : ¬ (⟨-1, -1⟩ : Cell) ∈ corner s := fun hm => by have := corner_ge hm; simp at this
  simp [this]
set_option maxRecDepth 100000 in
set_option maxHeartbeats 3200000 in
theorem outside_c {v : Value} {s : List Cell} (w : World) (h : CellsRd w 0 w.heap.size v s) (hsh : isShape s = true) :
    Calls Tryz.prog 59 #[v] w fun e w' => ∃ v' T, e = .returned v' ∧ CellsIn w' w.heap.size w'.heap.size v' T ∧ Fld (frO s) (fun _ => False) ⟨-1, -1⟩ T T.length 0 ∧ Below w.heap.size w w' := by
  obtain ⟨i0, hi, hz0, hz1, hz2⟩ := info_parts infoCellS
  have HSZ := Lib.hid (sizeOf_c w h hsh)
  have HCO : Hid (∀ w1, Below w.heap.size w w1 → Calls Tryz.prog 12 #[v] w1 fun e w' => ∃ v', e = .returned v' ∧ CellsIn w' w1.heap.size w'.heap.size v' (corner s) ∧ Below w1.heap.size w1 w') := Lib.hid fun w1 hb =>
    cornerShape_c w1 ((h.keep (SameIn.of_below hb (Nat.le_refl _))).more (Nat.le_refl _) hb.size) hsh
  obtain ⟨A, c, rfl, _, _⟩ := id h
  have HSH := Lib.hid hsh
  obtain ⟨⟨w1', w2'⟩, h1', h2'⟩ := shp_size hsh
  obtain ⟨⟨mn1, mn2⟩, mn3, mn4⟩ := shp_min hsh
  obtain ⟨cs, hcs⟩ : ∃ cs, cs = corner s := ⟨_, rfl⟩
  have hcl : cs.length ≤ 8 := by rw [hcs]; unfold corner; rw [shift_length]; exact (shp_len hsh).2
  rw [← hcs] at HCO
  have HCS := Lib.hid hcs
  clear h hsh hcs
  obtain ⟨wd, hwd⟩ : ∃ wd, wd = wdOf s := ⟨_, rfl⟩
  obtain ⟨ht, hht⟩ : ∃ ht, ht = htOf s := ⟨_, rfl⟩
  rw [← hwd] at w1' w2' HSZ
  rw [← hht] at h1' h2' HSZ
  have HWD := Lib.hid hwd
  have HHT := Lib.hid hht
  clear hwd hht
  go_enter Tryz.func59, Tryz.ntmps59
  go_wp2_with fail
  refine (HSZ.out).mono ?_
  rintro e w1 ⟨rfl, b1⟩
  have HC1 := Lib.hid (HCO.out w1 b1)
  clear HSZ HCO
  go_wp2_with fail
  refine (HC1.out).mono ?_
  rintro e w2 ⟨v2, rfl, o2, b2⟩
  have H2 := ((Sep.start w).step b1).oiNew b2 o2
  obtain ⟨A2, c2, rfl, _, _⟩ := o2.rd
  have H0 := H2.rowBox 46 #[.int .i64 (-1), .int .i64 (-1)] 2 1 rfl (by decide)
  clear b1 b2 o2 HC1 H2
  go_wp2
  generalize hW : w2.alloc (.cells #[.int .i64 (-1), .int .i64 (-1)] 46) = W at *
  clear hW
  go_loopw [6, 7] (fun sv i wr => ∃ (n : Nat) (T : List Cell), n ≤ T.length ∧ i = .int .i64 n ∧ Hid (Fld (frO s) (fun _ => False) ⟨-1, -1⟩ T n 0) ∧ T.length ≤ 100 ∧ Sep w wr [Res.row sv 46 2 T.length (cc T), Res.row (.slice A2 cs.length c2) 46 2 cs.length (cc cs)]) (fun _ i _ => 101 - (intOf i).toNat)
  case atStart => exact ⟨0, [⟨-1, -1⟩], by simp, rfl, Lib.hid (Fld.start (frO_start HSH.out) (fun h => h)), by simp, H0⟩
  case round =>
    clear H0
    obtain ⟨n, T, hn, rfl, HF, hT, H⟩ := hrel
    by_cases hlt : n < T.length
    · obtain ⟨bi, hbi⟩ : ∃ bi, T[n]? = some bi := ⟨T[n], List.getElem?_eq_getElem hlt⟩
      have HBI := Lib.hid hbi
      have hfb := ((HF.out.reach bi (List.mem_of_getElem? hbi)).2).2
      unfold frO at hfb
      simp only [Bool.and_eq_true] at hfb
      have z1 := inR_iff.1 hfb.1.1
      have z2 := inR_iff.1 hfb.1.2
      rw [← HWD.out] at z1
      rw [← HHT.out] at z2
      obtain ⟨z3, z4⟩ := z1
      obtain ⟨z5, z6⟩ := z2
      obtain ⟨As, cs', rfl, hsn, hsm, _⟩ := Res.row_at H.h0
      clear hbi hfb hsn hsm
      obtain ⟨wo, hwo⟩ : ∃ wo : World, wo = wr := ⟨_, rfl⟩
      subst hwo
      have hnT : n < T.length := hlt
      go_wp2
      go_loopw [6, 8] (fun sv dv wr => ∃ (d : Nat) (T : List Cell), d ≤ 4 ∧ dv = .int .i64 d ∧ Hid (Fld (frO s) (fun _ => False) ⟨-1, -1⟩ T n d) ∧ n < T.length ∧ Hid (T[n]? = some bi) ∧ Sep w wr [Res.row sv 46 2 T.length (cc T), Res.row (.slice A2 cs.length c2) 46 2 cs.length (cc cs)]) (fun _ dv _ => 4 - (intOf dv).toNat)
      case atStart => exact ⟨0, T, by omega, rfl, HF, hnT, HBI, H⟩
      case round =>
        clear H HF hT hlt hn hnT HBI
        obtain ⟨d, T, hd, rfl, HF, hnT, HBI, H⟩ := hrel
        have hT : T.length ≤ 100 := Nat.le_trans (HF.out.len (frO_grid HSH.out)) (by rw [gridL_len]; exact Nat.le_refl _)
        by_cases hd4 : d < 4
        ·
          obtain ⟨dx, dy, m1, m2, ⟨x1, x2⟩, ⟨y1, y2⟩, s1, s2⟩ := nbr_step (b := bi) (d := d) hd4
          obtain ⟨nb, hnb⟩ : ∃ nb, nb = nbr bi d := ⟨_, rfl⟩
          rw [← hnb] at s1 s2
          have m3 : IntKind.i64.wrap (Int.tmod (1 - (d : Int)) 2) = dx := by rw [m1]; exact IntWalk.i64_in _ (by omega)
          have m4 : IntKind.i64.wrap (Int.tmod (2 - (d : Int)) 2) = dy := by rw [m2]; exact IntWalk.i64_in _ (by omega)
          have HNB := Lib.hid hnb
          clear hnb
          obtain ⟨bs, os, cs2, rfl, hsn, hsm, hbs⟩ := own_shape H.h0 (by omega)
          obtain ⟨q1, q2⟩ := row_at2 H.h0 HBI.out
          clear hsn hsm
          have x3 : -2 ≤ nb.x := by omega
          have x4 : nb.x ≤ 9 := by omega
          have y3 : -2 ≤ nb.y := by omega
          have y4 : nb.y ≤ 9 := by omega
          obtain ⟨p3, hp3⟩ : ∃ p3, p3 = decide ((⟨nb.x, nb.y⟩ : Cell) ∈ cs) := ⟨_, rfl⟩
          obtain ⟨p4, hp4⟩ : ∃ p4, p4 = decide ((⟨nb.x, nb.y⟩ : Cell) ∈ T) := ⟨_, rfl⟩
          have hcsR : CellsRd wr 0 wr.heap.size (.slice A2 cs.length c2) cs := H.drop.cellsRd (by omega)
          have hTR : CellsRd wr 0 wr.heap.size (.slice (some ⟨bs, os, none⟩) T.length cs2) T := H.cellsRd (by omega)
          have HHC : Hid (∀ _ : Unit, Calls Tryz.prog 57 #[.slice A2 cs.length c2, .int .i64 nb.x, .int .i64 nb.y] wr fun e w' => e = .returned (.bool p3) ∧ wr = w') := Lib.hid fun _ => by rw [hp3]; exact spec_has2_c _ _ _ hcsR (by omega)
          have HHS : Hid (∀ _ : Unit, Calls Tryz.prog 57 #[.slice (some ⟨bs, os, none⟩) T.length cs2, .int .i64 nb.x, .int .i64 nb.y] wr fun e w' => e = .returned (.bool p4) ∧ wr = w') := Lib.hid fun _ => by rw [hp4]; exact spec_has2_c _ _ _ hTR (by omega)
          have HP3 := Lib.hid hp3
          have HP4 := Lib.hid hp4
          clear hcsR hTR hp3 hp4
          have hfr : frO s nb = (inR nb.x (-1) wd && inR nb.y (-1) ht && !p3) := by unfold frO; rw [HP3.out, HWD.out, HHT.out, HCS.out]
          have HFR := Lib.hid hfr
          clear hfr
          cases hp1 : inR nb.x (-1) wd
          · have HP1 := Lib.hid hp1
            have hno : frO s (nbr bi d) = false := by rw [← HNB.out, HFR.out, HP1.out]; rfl
            have HNO := Lib.hid hno
            clear hno
            have hf2 : Fld (frO s) (fun _ => False) ⟨-1, -1⟩ T n (d + 1) := HF.out.skip HBI.out (fun h => absurd h (by rw [HNO.out]; exact Bool.false_ne_true))
            have HF2 := Lib.hid hf2
            have H1 := H
            clear hf2 H
            go_wp2_with (go_at_call 41; refine (l1In_r _ _ _ _).mono ?_; rintro e w' ⟨rfl, rfl⟩)
            skip
            clear m1 m2 m3 m4 s1 s2 q1 q2
            go_roundw
            case rel => exact ⟨d + 1, T, by omega, by go_num, HF2, hnT, HBI, H1⟩
            case measure => simp [intOf]; omega
          cases hp2 : inR nb.y (-1) ht
          · have HP1 := Lib.hid hp1
            have HP2 := Lib.hid hp2
            have hno : frO s (nbr bi d) = false := by rw [← HNB.out, HFR.out, HP1.out, HP2.out]; rfl
            have HNO := Lib.hid hno
            clear hno
            have hf2 : Fld (frO s) (fun _ => False) ⟨-1, -1⟩ T n (d + 1) := HF.out.skip HBI.out (fun h => absurd h (by rw [HNO.out]; exact Bool.false_ne_true))
            have HF2 := Lib.hid hf2
            have H1 := H
            clear hf2 H
            go_wp2_with (go_at_call 41; refine (l1In_r _ _ _ _).mono ?_; rintro e w' ⟨rfl, rfl⟩)
            skip
            clear m1 m2 m3 m4 s1 s2 q1 q2
            go_roundw
            case rel => exact ⟨d + 1, T, by omega, by go_num, HF2, hnT, HBI, H1⟩
            case measure => simp [intOf]; omega
          cases p3
          rotate_left
          · have HP1 := Lib.hid hp1
            have HP2 := Lib.hid hp2
            have hno : frO s (nbr bi d) = false := by rw [← HNB.out, HFR.out, HP1.out, HP2.out]; rfl
            have HNO := Lib.hid hno
            clear hno
            have hf2 : Fld (frO s) (fun _ => False) ⟨-1, -1⟩ T n (d + 1) := HF.out.skip HBI.out (fun h => absurd h (by rw [HNO.out]; exact Bool.false_ne_true))
            have HF2 := Lib.hid hf2
            have H1 := H
            clear hf2 H
            go_wp2_with (go_at_call 41; refine (l1In_r _ _ _ _).mono ?_; rintro e w' ⟨rfl, rfl⟩)
            refine (HHC.out ()).mono ?_
            rintro e w' ⟨rfl, rfl⟩
            go_wp2
            clear m1 m2 m3 m4 s1 s2 q1 q2
            go_roundw
            case rel => exact ⟨d + 1, T, by omega, by go_num, HF2, hnT, HBI, H1⟩
            case measure => simp [intOf]; omega
          cases p4
          rotate_left
          · have HIN : Hid (nbr bi d ∈ T) := Lib.hid (by rw [← HNB.out]; exact of_decide_eq_true HP4.out.symm)
            have hf2 : Fld (frO s) (fun _ => False) ⟨-1, -1⟩ T n (d + 1) := HF.out.skip HBI.out (fun _ => .inl HIN.out)
            have HF2 := Lib.hid hf2
            have H1 := H
            clear hf2 H
            go_wp2_with (go_at_call 41; refine (l1In_r _ _ _ _).mono ?_; rintro e w' ⟨rfl, rfl⟩)
            refine (HHC.out ()).mono ?_
            rintro e w' ⟨rfl, rfl⟩
            go_wp2_with fail
            refine (HHS.out ()).mono ?_
            rintro e w' ⟨rfl, rfl⟩
            go_wp2
            clear m1 m2 m3 m4 s1 s2 q1 q2
            go_roundw
            case rel => exact ⟨d + 1, T, by omega, by go_num, HF2, hnT, HBI, H1⟩
            case measure => simp [intOf]; omega
          · have HP1 := Lib.hid hp1
            have HP2 := Lib.hid hp2
            have hno : ¬ nbr bi d ∈ T := by rw [← HNB.out]; exact of_decide_eq_false HP4.out.symm
            have hyes : frO s (nbr bi d) = true := by rw [← HNB.out, HFR.out, HP1.out, HP2.out]; rfl
            have hf2 := HF.out.add HBI.out hd4 hyes hno (fun h => h)
            rw [← HNB.out] at hf2
            have HF2 := Lib.hid hf2
            have hb2 : (T ++ [nb])[n]? = some bi := by rw [List.getElem?_append_left hnT]; exact HBI.out
            have HB2 := Lib.hid hb2
            clear hno hyes hf2 hb2
            go_wp2_with (go_at_call 41; refine (l1In_r _ _ _ _).mono ?_; rintro e w' ⟨rfl, rfl⟩)
            refine (HHC.out ()).mono ?_
            rintro e w' ⟨rfl, rfl⟩
            go_wp2_with fail
            refine (HHS.out ()).mono ?_
            rintro e w' ⟨rfl, rfl⟩
            go_wp2_with (at_builtin; refine wpList_app rfl _ _ 24 rfl 46 i0 _ 2 16 Tryz.underlying24 hi hz0 hz1 hz2 rfl (by decide) _ _ _ rfl (H.alloc _) _ _ _ [.int .i64 nb.x, .int .i64 nb.y] rfl (Rd.fresh wr _ #[.int .i64 nb.x, .int .i64 nb.y] 2 1 rfl) oc2 (by unfold maxLen; omega) (by omega) ?_; intro v3 w3 H3; clear H)
            clear m1 m2 m3 m4 s1 s2 q1 q2
            have H4 : Sep w w3 [Res.row v3 46 2 (T ++ [nb]).length (cc (T ++ [nb])), Res.row (.slice A2 cs.length c2) 46 2 cs.length (cc cs)] := by rw [cc_append, List.length_append]; exact H3
            clear H3
            go_roundw
            case rel => exact ⟨d + 1, T ++ [nb], by omega, by go_num, HF2, by simp; omega, HB2, H4⟩
            case measure => simp [intOf]; omega
        · obtain rfl : d = 4 := by omega
          have HF2 := Lib.hid (HF.out.next (Nat.le_refl _))
          go_wp2
          go_roundw
          case rel => exact ⟨n + 1, T, by omega, by go_num, HF2, hT, H⟩
          case measure => simp [intOf]; omega
    · obtain rfl : n = T.length := by omega
      obtain ⟨As, cs', rfl, hsn, hsm, _⟩ := Res.row_at H.h0
      go_wp2
      go_ret
      exact ⟨_, T, rfl, CellsIn.mk H.oi.1 rfl rfl, HF.out, H.below⟩
end Go.Proofs.YtghpkfihdcjlaaaGreatDoor

namespace Go.Proofs.YtghpkfihdcjlaaaGreatDoor

def frB (s : List Cell) (c : Cell) : Bool := inR c.x 0 (wdOf s - 1) && inR c.y 0 (htOf s - 1) && !decide (c ∈ corner s)
theorem frB_iff {s : List Cell} {c : Cell} : frB s c = true ↔ (0 ≤ c.x ∧ c.x ≤ wdOf s - 1) ∧ (0 ≤ c.y ∧ c.y ≤ htOf s - 1) ∧ ¬ c ∈ corner s := by
  unfold frB
  rw [Bool.and_eq_true, Bool.and_eq_true, inR_iff, inR_iff]
  simp [and_assoc]
theorem frO_iff {s : List Cell} {c : Cell} : frO s c = true ↔ (-1 ≤ c.x ∧ c.x ≤ wdOf s) ∧ (-1 ≤ c.y ∧ c.y ≤ htOf s) ∧ ¬ c ∈ corner s := by
  unfold frO
  rw [Bool.and_eq_true, Bool.and_eq_true, inR_iff, inR_iff]
  simp [and_assoc]
theorem frB_O {s : List Cell} {c : Cell} (h : frB s c = true) : frO s c = true := by
  rw [frB_iff] at h
  rw [frO_iff]
  exact ⟨by omega, by omega, h.2.2⟩
theorem not_corner {s : List Cell} {c : Cell} (h : c.x < 0 ∨ c.y < 0 ∨ wdOf s ≤ c.x ∨ htOf s ≤ c.y) : ¬ c ∈ corner s := fun hm => by
  have h1 := corner_ge hm
  have h2 := corner_lt hm
  omega
theorem nb_x {c : Cell} : Adj c ⟨c.x + 1, c.y⟩ := ⟨0, by omega, rfl⟩
theorem nb_y {c : Cell} : Adj c ⟨c.x, c.y + 1⟩ := ⟨1, by omega, rfl⟩
/-- the frame hangs together -/
theorem ring_top {s : List Cell} (h : isShape s = true) : ∀ k : Nat, (k : Int) ≤ wdOf s + 1 → OutC s ⟨-1 + (k : Int), -1⟩
  | 0, _ => Rch.base
  | k + 1, hk => by
    have hs := shp_size h
    have hm := shp_min h
    have := ring_top h k (by omega)
    have e : (⟨-1 + ((k + 1 : Nat) : Int), -1⟩ : Cell) = ⟨(⟨-1 + (k : Int), -1⟩ : Cell).x + 1, (⟨-1 + (k : Int), -1⟩ : Cell).y⟩ := by simp; omega
    rw [e]
    refine .step this nb_x ?_
    rw [frO_iff]
    refine ⟨?_, ?_, not_corner (.inr (.inl ?_))⟩ <;> simp <;> omega
theorem ring_left {s : List Cell} (h : isShape s = true) : ∀ k : Nat, (k : Int) ≤ htOf s + 1 → OutC s ⟨-1, -1 + (k : Int)⟩
  | 0, _ => Rch.base
  | k + 1, hk => by
    have hs := shp_size h
    have hm := shp_min h
    have := ring_left h k (by omega)
    have e : (⟨-1, -1 + ((k + 1 : Nat) : Int)⟩ : Cell) = ⟨(⟨-1, -1 + (k : Int)⟩ : Cell).x, (⟨-1, -1 + (k : Int)⟩ : Cell).y + 1⟩ := by simp; omega
    rw [e]
    refine .step this nb_y ?_
    rw [frO_iff]
    refine ⟨?_, ?_, not_corner (.inl ?_)⟩ <;> simp <;> omega
theorem ring_right {s : List Cell} (h : isShape s = true) : ∀ k : Nat, (k : Int) ≤ htOf s + 1 → OutC s ⟨wdOf s, -1 + (k : Int)⟩
  | 0, _ => by
    have hs := shp_size h
    have hm := shp_min h
    have := ring_top h (wdOf s + 1).toNat (by omega)
    have e : (⟨-1 + (((wdOf s + 1).toNat : Nat) : Int), -1⟩ : Cell) = ⟨wdOf s, -1 + ((0 : Nat) : Int)⟩ := by simp; omega
    rwa [e] at this
  | k + 1, hk => by
    have hs := shp_size h
    have hm := shp_min h
    have := ring_right h k (by omega)
    have e : (⟨wdOf s, -1 + ((k + 1 : Nat) : Int)⟩ : Cell) = ⟨(⟨wdOf s, -1 + (k : Int)⟩ : Cell).x, (⟨wdOf s, -1 + (k : Int)⟩ : Cell).y + 1⟩ := by simp; omega
    rw [e]
    refine .step this nb_y ?_
    rw [frO_iff]
    refine ⟨?_, ?_, not_corner (.inr (.inr (.inl ?_)))⟩ <;> simp <;> omega
theorem ring_bot {s : List Cell} (h : isShape s = true) : ∀ k : Nat, (k : Int) ≤ wdOf s + 1 → OutC s ⟨-1 + (k : Int), htOf s⟩
  | 0, _ => by
    have hs := shp_size h
    have hm := shp_min h
    have := ring_left h (htOf s + 1).toNat (by omega)
    have e : (⟨-1, -1 + (((htOf s + 1).toNat : Nat) : Int)⟩ : Cell) = ⟨-1 + ((0 : Nat) : Int), htOf s⟩ := by simp; omega
    rwa [e] at this
  | k + 1, hk => by
    have hs := shp_size h
    have hm := shp_min h
    have := ring_bot h k (by omega)
    have e : (⟨-1 + ((k + 1 : Nat) : Int), htOf s⟩ : Cell) = ⟨(⟨-1 + (k : Int), htOf s⟩ : Cell).x + 1, (⟨-1 + (k : Int), htOf s⟩ : Cell).y⟩ := by simp; omega
    rw [e]
    refine .step this nb_x ?_
    rw [frO_iff]
    refine ⟨?_, ?_, not_corner (.inr (.inr (.inr ?_)))⟩ <;> simp <;> omega
theorem ring_out {s : List Cell} (h : isShape s = true) {c : Cell} (hf : frO s c = true) (hn : frB s c = false) : OutC s c := by
  rw [frO_iff] at hf
  obtain ⟨h1, h2, h3⟩ := hf
  have h4 : ¬ frB s c = true := by rw [hn]; exact Bool.false_ne_true
  rw [frB_iff] at h4
  have h5 : ¬ ((0 ≤ c.x ∧ c.x ≤ wdOf s - 1) ∧ (0 ≤ c.y ∧ c.y ≤ htOf s - 1)) := fun hh => h4 ⟨hh.1, hh.2, h3⟩
  have hk : c.y = -1 ∨ c.x = -1 ∨ c.x = wdOf s ∨ c.y = htOf s := by omega
  obtain ⟨x, y⟩ := c
  simp only at *
  rcases hk with rfl | rfl | rfl | rfl
  · have := ring_top h (x + 1).toNat (by omega)
    rwa [show -1 + (((x + 1).toNat : Nat) : Int) = x by omega] at this
  · have := ring_left h (y + 1).toNat (by omega)
    rwa [show -1 + (((y + 1).toNat : Nat) : Int) = y by omega] at this
  · have := ring_right h (y + 1).toNat (by omega)
    rwa [show -1 + (((y + 1).toNat : Nat) : Int) = y by omega] at this
  · have := ring_bot h (x + 1).toNat (by omega)
    rwa [show -1 + (((x + 1).toNat : Nat) : Int) = x by omega] at this

/-- the first place of a hole, in the order of places -/
def rootS (s : List Cell) (q : Cell) : Prop := frB s q = true ∧ ¬ OutC s q ∧ ∀ p, befB p q = true → frB s p = true → ¬ Rch (frB s) p q
noncomputable def holesN (s : List Cell) : Nat := cardP (rootS s)
/-- what has been seen when a place comes up; the roots so far -/
structure HInv (s : List Cell) (S L : List Cell) (at_ : Cell) : Prop where
  nodup : S.Nodup
  out : ∀ c, OutC s c → c ∈ S
  sub : ∀ c ∈ S, frO s c = true
  why : ∀ c ∈ S, OutC s c ∨ ∃ r ∈ L, Rch (frB s) r c
  closed : ∀ b c, b ∈ S → Adj b c → frB s c = true → c ∈ S
  scan : ∀ q, befB q at_ = true → frB s q = true → q ∈ S
  lnodup : L.Nodup
  roots : ∀ q, q ∈ L ↔ rootS s q ∧ befB q at_ = true
  lsub : ∀ q ∈ L, q ∈ S
section
variable {s S L T : List Cell} {a b r : Cell}
theorem HInv.move (h : HInv s S L a) (hb : ∀ q, frB s q = true → (befB q b = true ↔ befB q a = true)) : HInv s S L b :=
  ⟨h.nodup, h.out, h.sub, h.why, h.closed, fun q hq hf => h.scan q ((hb q hf).1 hq) hf, h.lnodup, fun q => by
    rw [h.roots]
    constructor
    · rintro ⟨h1, h2⟩; exact ⟨h1, (hb q h1.1).2 h2⟩
    · rintro ⟨h1, h2⟩; exact ⟨h1, (hb q h1.1).1 h2⟩, h.lsub⟩
theorem bef_step {q : Cell} {x y : Int} : befB q ⟨x + 1, y⟩ = true ↔ befB q ⟨x, y⟩ = true ∨ q = ⟨x, y⟩ := by
  obtain ⟨u, v⟩ := q
  simp only [befB, Bool.or_eq_true, Bool.and_eq_true, decide_eq_true_eq, Cell.mk.injEq]
  omega
/-- what has been seen is no new root -/
theorem HInv.old (h : HInv s S L a) {q : Cell} (hq : rootS s q) (hm : q ∈ S) (hb : ∀ r, befB r a = true → befB r q = true) : False := by
  rcases h.why q hm with h1 | ⟨r, hr, h2⟩
  · exact hq.2.1 h1
  · have h3 := (h.roots r).1 hr
    exact hq.2.2 r (hb r h3.2) h3.1.1 h2
theorem HInv.skip {x y : Int} (h : HInv s S L ⟨x, y⟩) (hs : frB s ⟨x, y⟩ = true → (⟨x, y⟩ : Cell) ∈ S) : HInv s S L ⟨x + 1, y⟩ :=
  ⟨h.nodup, h.out, h.sub, h.why, h.closed, fun q hq hf => by
    rcases bef_step.1 hq with h1 | rfl
    · exact h.scan q h1 hf
    · exact hs hf, h.lnodup, fun q => by
    rw [h.roots]
    constructor
    · rintro ⟨h1, h2⟩; exact ⟨h1, bef_step.2 (.inl h2)⟩
    · rintro ⟨h1, h2⟩
      refine ⟨h1, ?_⟩
      rcases bef_step.1 h2 with h3 | rfl
      · exact h3
      · exact absurd (hs h1.1) fun hm => h.old h1 hm (fun _ hr => hr), h.lsub⟩
theorem HInv.root {x y : Int} (h : HInv s S L ⟨x, y⟩) (hf : frB s ⟨x, y⟩ = true) (hn : ¬ (⟨x, y⟩ : Cell) ∈ S) : rootS s ⟨x, y⟩ :=
  ⟨hf, fun ho => hn (h.out _ ho), fun p hp hpf hr => hn (hr.into (B := (· ∈ S)) h.closed (h.scan p hp hpf))⟩
/-- a hole has been flooded -/
theorem HInv.add {x y : Int} (h : HInv s S L ⟨x, y⟩) (hf : frB s ⟨x, y⟩ = true) (hn : ¬ (⟨x, y⟩ : Cell) ∈ S) {i d : Nat} (hT : Fld (frB s) (· ∈ S) ⟨x, y⟩ T i d) (hi : T.length ≤ i) : HInv s (S ++ T) (L ++ [⟨x, y⟩]) ⟨x + 1, y⟩ := by
  have hend := hT.end_ hi h.closed
  have hroot := h.root hf hn
  refine ⟨List.nodup_append.2 ⟨h.nodup, hT.nodup, fun p hp q hq e => (hT.reach q hq).2.1 (e ▸ hp)⟩, fun c hc => List.mem_append.2 (.inl (h.out c hc)), fun c hc => ?_, fun c hc => ?_, fun b c hb hadj hfc => ?_, fun q hq hfq => ?_, ?_, fun q => ?_, fun q hq => ?_⟩
  · rcases List.mem_append.1 hc with hc | hc
    · exact h.sub c hc
    · exact frB_O (hT.reach c hc).2.2
  · rcases List.mem_append.1 hc with hc | hc
    · rcases h.why c hc with h1 | ⟨r, hr, h1⟩
      · exact .inl h1
      · exact .inr ⟨r, List.mem_append.2 (.inl hr), h1⟩
    · exact .inr ⟨⟨x, y⟩, by simp, (hT.reach c hc).1⟩
  · rcases List.mem_append.1 hb with hb | hb
    · exact List.mem_append.2 (.inl (h.closed b c hb hadj hfc))
    · exact List.mem_append.2 (.inr ((hend c).2 (.step ((hend b).1 hb) hadj hfc)))
  · rcases bef_step.1 hq with h1 | rfl
    · exact List.mem_append.2 (.inl (h.scan q h1 hfq))
    · exact List.mem_append.2 (.inr hT.root)
  · refine List.nodup_append.2 ⟨h.lnodup, by simp, fun p hp q hq e => ?_⟩
    simp at hq
    subst hq
    subst e
    exact hn (h.lsub _ hp)
  · rw [List.mem_append, h.roots, List.mem_singleton]
    constructor
    · rintro (⟨h1, h2⟩ | rfl)
      · exact ⟨h1, bef_step.2 (.inl h2)⟩
      · exact ⟨hroot, bef_step.2 (.inr rfl)⟩
    · rintro ⟨h1, h2⟩
      rcases bef_step.1 h2 with h3 | rfl
      · exact .inl ⟨h1, h3⟩
      · exact .inr rfl
  · rcases List.mem_append.1 hq with hq | hq
    · exact List.mem_append.2 (.inl (h.lsub q hq))
    · simp at hq
      subst hq
      exact List.mem_append.2 (.inr hT.root)
theorem HInv.row {x y : Int} (h : HInv s S L ⟨x, y⟩) (hx : wdOf s ≤ x) : HInv s S L ⟨0, y + 1⟩ := h.move fun q hf => by
  rw [frB_iff] at hf
  obtain ⟨u, v⟩ := q
  simp only [befB, Bool.or_eq_true, Bool.and_eq_true, decide_eq_true_eq] at *
  omega
theorem HInv.start {i d : Nat} (hT : Fld (frO s) (fun _ => False) ⟨-1, -1⟩ T i d) (hi : T.length ≤ i) : HInv s T [] ⟨0, 0⟩ := by
  have hend := hT.end_ hi (fun _ _ h => h.elim)
  have hno : ∀ q, befB q ⟨0, 0⟩ = true → frB s q = true → False := fun q hq hf => by
    rw [frB_iff] at hf
    simp only [befB, Bool.or_eq_true, Bool.and_eq_true, decide_eq_true_eq] at hq
    omega
  exact ⟨hT.nodup, fun c hc => (hend c).2 hc, fun c hc => (hT.reach c hc).2.2, fun c hc => .inl ((hend c).1 hc), fun b c hb hadj hf => (hend c).2 (.step ((hend b).1 hb) hadj (frB_O hf)), fun q hq hf => (hno q hq hf).elim, by simp,
    fun q => ⟨fun h => by simp at h, fun h => (hno q h.2 h.1.1).elim⟩, fun q hq => by simp at hq⟩
theorem HInv.last {y : Int} (h : HInv s S L ⟨0, y⟩) (hy : htOf s ≤ y) : holesN s = L.length := by
  refine cardP_eq h.lnodup fun q => ?_
  rw [h.roots]
  constructor
  · exact fun hh => hh.1
  · intro hq
    refine ⟨hq, ?_⟩
    have := frB_iff.1 hq.1
    simp only [befB, Bool.or_eq_true, Bool.and_eq_true, decide_eq_true_eq]
    omega
theorem HInv.len (h : HInv s S L a) (hs : isShape s = true) : S.length ≤ 100 := Nat.le_trans (nodup_len h.nodup fun c hc => frO_grid hs c (h.sub c hc)) (by rw [gridL_len]; exact Nat.le_refl _)
theorem HInv.flen (h : HInv s S L a) (hs : isShape s = true) {i d : Nat} (hT : Fld (frB s) (· ∈ S) r T i d) : S.length + T.length ≤ 100 := by
  have := nodup_len (l := S ++ T) (G := gridL (-1) (-1) 10 10) (List.nodup_append.2 ⟨h.nodup, hT.nodup, fun p hp q hq e => (hT.reach q hq).2.1 (e ▸ hp)⟩) (fun c hc => by
    rcases List.mem_append.1 hc with hc | hc
    · exact frO_grid hs c (h.sub c hc)
    · exact frO_grid hs c (frB_O (hT.reach c hc).2.2))
  rw [gridL_len, List.length_append] at this
  exact this
theorem HInv.llen (h : HInv s S L a) (hs : isShape s = true) : L.length ≤ 100 := Nat.le_trans (nodup_len h.lnodup h.lsub) (h.len hs)
/-- a neighbour that is no cell and was not seen lies in the box -/
theorem HInv.nb (h : HInv s S L a) (hs : isShape s = true) {i d : Nat} (hT : Fld (frB s) (· ∈ S) r T i d) {b c : Cell} (hb : b ∈ T) (hadj : Adj b c) (hc : ¬ c ∈ corner s) (hS : ¬ c ∈ S) : frB s c = true := by
  have hbf := frB_iff.1 (hT.reach b hb).2.2
  have hn := hadj.near
  have hfo : frO s c = true := frO_iff.2 ⟨by omega, by omega, hc⟩
  cases hfb : frB s c with
  | true => rfl
  | false => exact absurd (h.out c (ring_out hs hfo hfb)) hS
end
end Go.Proofs.YtghpkfihdcjlaaaGreatDoor

namespace Go.Proofs.YtghpkfihdcjlaaaGreatDoor
open Go.RowKit

theorem cc_two {S T : List Cell} : cc S ++ cc T = cc (S ++ T) := (cc_append S T).symm
theorem at_two {S T : List Cell} {n : Nat} {b : Cell} (h : T[n]? = some b) : (S ++ T)[S.length + n]? = some b := by
  rw [List.getElem?_append_right (by omega), Nat.add_sub_cancel_left]; exact h
noncomputable def holesZ (s : List Cell) : Int := if isShape s then ((holesN s : Nat) : Int) else -1
set_option maxRecDepth 100000 in
set_option maxHeartbeats 6400000 in
theorem spec_holes_c {v : Value} {s : List Cell} (w : World) (h : CellsRd w 0 w.heap.size v s) (hn : s.length ≤ 1048576) :
    Calls Tryz.prog 31 #[v] w fun e w' => e = .returned (.int .i64 (holesZ s)) ∧ Below w.heap.size w w' := by
  obtain ⟨i0, hi, hz0, hz1, hz2⟩ := info_parts infoCellS
  have HS0 := Lib.hid (spec_isShape_c w h hn)
  have HSZ : Hid (isShape s = true → ∀ w1, Below w.heap.size w w1 → Calls Tryz.prog 58 #[v] w1 fun e w' => e = .returned (.tuple #[.int .i64 (wdOf s), .int .i64 (htOf s)]) ∧ Below w1.heap.size w1 w') := Lib.hid fun hs w1 hb =>
    sizeOf_c w1 ((h.keep (SameIn.of_below hb (Nat.le_refl _))).more (Nat.le_refl _) hb.size) hs
  have HCO : Hid (isShape s = true → ∀ w1, Below w.heap.size w w1 → Calls Tryz.prog 12 #[v] w1 fun e w' => ∃ v', e = .returned v' ∧ CellsIn w' w1.heap.size w'.heap.size v' (corner s) ∧ Below w1.heap.size w1 w') := Lib.hid fun hs w1 hb =>
    cornerShape_c w1 ((h.keep (SameIn.of_below hb (Nat.le_refl _))).more (Nat.le_refl _) hb.size) hs
  have HOU : Hid (isShape s = true → ∀ w1, Below w.heap.size w w1 → Calls Tryz.prog 59 #[v] w1 fun e w' => ∃ v' T, e = .returned v' ∧ CellsIn w' w1.heap.size w'.heap.size v' T ∧ Fld (frO s) (fun _ => False) ⟨-1, -1⟩ T T.length 0 ∧ Below w1.heap.size w1 w') := Lib.hid fun hs w1 hb =>
    outside_c w1 ((h.keep (SameIn.of_below hb (Nat.le_refl _))).more (Nat.le_refl _) hb.size) hs
  obtain ⟨A, c, rfl, _, _⟩ := id h
  obtain ⟨R, hR⟩ : ∃ R : Int, R = holesZ s := ⟨_, rfl⟩
  rw [← hR]
  have HR := Lib.hid hR
  clear h hR
  go_enter Tryz.func31, Tryz.ntmps31
  go_wp2_with fail
  refine (HS0.out).mono ?_
  rintro e w1 ⟨rfl, b1⟩
  clear HS0
  cases hsh : isShape s
  · obtain rfl : R = -1 := by rw [HR.out, holesZ, hsh]; rfl
    clear hsh
    go_wp2
    go_ret
    exact ⟨rfl, b1⟩
  have HSH := Lib.hid hsh
  obtain ⟨⟨w1', w2'⟩, h1', h2'⟩ := shp_size hsh
  obtain ⟨⟨mn1, mn2⟩, mn3, mn4⟩ := shp_min hsh
  have HR2 : Hid (R = (holesN s : Nat)) := Lib.hid (by rw [HR.out, holesZ, hsh]; rfl)
  have HS1 := Lib.hid (HSZ.out hsh w1 b1)
  obtain ⟨cs, hcs⟩ : ∃ cs, cs = corner s := ⟨_, rfl⟩
  have hcl : cs.length ≤ 8 := by rw [hcs]; unfold corner; rw [shift_length]; exact (shp_len hsh).2
  rw [← hcs] at HCO
  have HCS := Lib.hid hcs
  obtain ⟨wd, hwd⟩ : ∃ wd, wd = wdOf s := ⟨_, rfl⟩
  obtain ⟨ht, hht⟩ : ∃ ht, ht = htOf s := ⟨_, rfl⟩
  rw [← hwd] at w1' w2' HS1
  rw [← hht] at h1' h2' HS1
  have HWD := Lib.hid hwd
  have HHT := Lib.hid hht
  clear hsh hcs hwd hht HSZ
  go_wp2_with fail
  refine (HS1.out).mono ?_
  rintro e w2 ⟨rfl, b2⟩
  have hb2 := b1.trans (b2.mono b1.size)
  have HC1 := Lib.hid (HCO.out HSH.out w2 hb2)
  clear HS1 HCO b1 b2
  go_wp2_with fail
  refine (HC1.out).mono ?_
  rintro e w3 ⟨v2, rfl, o2, b3⟩
  have hb3 := hb2.trans (b3.mono hb2.size)
  have H2 := ((Sep.start w).step hb2).oiNew b3 o2
  obtain ⟨A2, c2, rfl, _, _⟩ := o2.rd
  have HO1 := Lib.hid (HOU.out HSH.out w3 hb3)
  clear HC1 HOU hb2 b3 o2
  go_wp2_with fail
  refine (HO1.out).mono ?_
  rintro e w4 ⟨v3, T0, rfl, o3, hfl, b4⟩
  have H0 := H2.oiNew b4 o3
  obtain ⟨A3, c3, rfl, _, _⟩ := o3.rd
  have HI0 := Lib.hid (HInv.start hfl (Nat.le_refl _))
  have hT0 := HI0.out.len HSH.out
  clear b4 o3 hfl H2 HO1 hb3
  go_wp2
  go_loopw [6, 7, 8] (fun sv nv yv wr => ∃ (S L : List Cell) (y : Int) (m : Nat), 0 ≤ y ∧ y ≤ ht ∧ yv = .int .i64 y ∧ nv = .int .i64 m ∧ m ≤ 100 ∧ Hid (m = L.length) ∧ S.length ≤ 100 ∧ Hid (HInv s S L ⟨0, y⟩) ∧ Sep w wr [Res.row sv 46 2 S.length (cc S), Res.row (.slice A2 cs.length c2) 46 2 cs.length (cc cs)]) (fun _ _ yv _ => (ht - intOf yv).toNat)
  case atStart => exact ⟨T0, [], 0, 0, by omega, by omega, rfl, rfl, by omega, Lib.hid rfl, hT0, HI0, H0⟩
  case round =>
    clear H0 HI0 hT0
    obtain ⟨S, L, y, m, hy0, hyh, rfl, rfl, hm, HM, hS, HI, H⟩ := hrel
    by_cases hy : y < ht
    · have hdy : decide (y < ht) = true := by simpa using hy
      obtain ⟨wo, hwo⟩ : ∃ wo : World, wo = wr := ⟨_, rfl⟩
      subst hwo
      obtain ⟨As, cs', rfl, _, _, _⟩ := Res.row_at H.h0
      go_wp2
      go_loopw [6, 7, 9] (fun sv nv xv wr => ∃ (S L : List Cell) (x : Int) (m : Nat), 0 ≤ x ∧ x ≤ wd ∧ xv = .int .i64 x ∧ nv = .int .i64 m ∧ m ≤ 100 ∧ Hid (m = L.length) ∧ S.length ≤ 100 ∧ Hid (HInv s S L ⟨x, y⟩) ∧ Sep w wr [Res.row sv 46 2 S.length (cc S), Res.row (.slice A2 cs.length c2) 46 2 cs.length (cc cs)]) (fun _ _ xv _ => (wd - intOf xv).toNat)
      case atStart => exact ⟨S, L, 0, m, by omega, by omega, rfl, rfl, hm, HM, hS, HI, H⟩
      case round =>
        clear H hm HM hS HI
        obtain ⟨S, L, x, m, hx0, hxw, rfl, rfl, hm, HM, hS, HI, H⟩ := hrel
        by_cases hx : x < wd
        · have hdx : decide (x < wd) = true := by simpa using hx
          obtain ⟨As, cs', rfl, hsn, hsm, hsr⟩ := Res.row_at H.h0
          obtain ⟨p1, hp1⟩ : ∃ p, p = decide ((⟨x, y⟩ : Cell) ∈ cs) := ⟨_, rfl⟩
          obtain ⟨p2, hp2⟩ : ∃ p, p = decide ((⟨x, y⟩ : Cell) ∈ S) := ⟨_, rfl⟩
          have hcsR : CellsRd wr 0 wr.heap.size (.slice A2 cs.length c2) cs := H.drop.cellsRd (by omega)
          have hSR : CellsRd wr 0 wr.heap.size (.slice As S.length cs') S := H.cellsRd (by omega)
          have HHC : Hid (∀ _ : Unit, Calls Tryz.prog 57 #[.slice A2 cs.length c2, .int .i64 x, .int .i64 y] wr fun e w' => e = .returned (.bool p1) ∧ wr = w') := Lib.hid fun _ => by rw [hp1]; exact spec_has2_c _ _ _ hcsR (by omega)
          have HHS : Hid (∀ _ : Unit, Calls Tryz.prog 57 #[.slice As S.length cs', .int .i64 x, .int .i64 y] wr fun e w' => e = .returned (.bool p2) ∧ wr = w') := Lib.hid fun _ => by rw [hp2]; exact spec_has2_c _ _ _ hSR (by omega)
          have HP1 := Lib.hid hp1
          have HP2 := Lib.hid hp2
          clear hcsR hSR hp1 hp2 hsn hsm hsr
          cases p1
          rotate_left
          · have hi2 : HInv s S L ⟨x + 1, y⟩ := HI.out.skip fun hf => absurd (of_decide_eq_true HP1.out.symm) (by rw [HCS.out]; exact (frB_iff.1 hf).2.2)
            have HI2 := Lib.hid hi2
            clear hi2
            go_wp2_with fail
            refine (HHC.out ()).mono ?_
            rintro e w' ⟨rfl, rfl⟩
            go_wp2
            go_roundw
            case rel => exact ⟨S, L, x + 1, m, by omega, by omega, rfl, rfl, hm, HM, hS, HI2, H⟩
            case measure => simp [intOf]; omega
          cases p2
          rotate_left
          · have hi2 : HInv s S L ⟨x + 1, y⟩ := HI.out.skip fun _ => of_decide_eq_true HP2.out.symm
            have HI2 := Lib.hid hi2
            clear hi2
            go_wp2_with fail
            refine (HHC.out ()).mono ?_
            rintro e w' ⟨rfl, rfl⟩
            go_wp2_with fail
            refine (HHS.out ()).mono ?_
            rintro e w' ⟨rfl, rfl⟩
            go_wp2
            go_roundw
            case rel => exact ⟨S, L, x + 1, m, by omega, by omega, rfl, rfl, hm, HM, hS, HI2, H⟩
            case measure => simp [intOf]; omega
          have HFR : Hid (frB s ⟨x, y⟩ = true) := Lib.hid (frB_iff.2 ⟨by rw [← HWD.out]; simp only; omega, by rw [← HHT.out]; simp only; omega, by rw [← HCS.out]; exact of_decide_eq_false HP1.out.symm⟩)
          have HNS : Hid (¬ (⟨x, y⟩ : Cell) ∈ S) := Lib.hid (of_decide_eq_false HP2.out.symm)
          have HF0 := Lib.hid (Fld.start (B := (· ∈ S)) HFR.out HNS.out)
          have hS1 := HI.out.flen HSH.out HF0.out
          simp only [List.length_cons, List.length_nil] at hS1
          have hLS : m ≤ S.length := by rw [HM.out]; exact nodup_len HI.out.lnodup HI.out.lsub
          have hm2 : m + 1 ≤ 100 := by omega
          go_wp2_with fail
          refine (HHC.out ()).mono ?_
          rintro e w' ⟨rfl, rfl⟩
          go_wp2_with fail
          refine (HHS.out ()).mono ?_
          rintro e w' ⟨rfl, rfl⟩
          go_wp2_with (at_builtin; refine wpList_app rfl _ _ 24 rfl 46 i0 _ 2 16 Tryz.underlying24 hi hz0 hz1 hz2 rfl (by decide) _ _ _ rfl (H.alloc _) _ _ _ [.int .i64 x, .int .i64 y] rfl (Rd.fresh wr _ #[.int .i64 x, .int .i64 y] 2 1 rfl) oc2 (by unfold maxLen; omega) (by omega) ?_; intro v3 w3 H3; clear H HHC HHS)
          obtain ⟨U0, hU0⟩ : ∃ U0, U0 = S ++ [(⟨x, y⟩ : Cell)] := ⟨_, rfl⟩
          have H4 : Sep w w3 [Res.row v3 46 2 U0.length (cc U0), Res.row (.slice A2 cs.length c2) 46 2 cs.length (cc cs)] := by rw [hU0, cc_append, List.length_append]; exact H3
          have HU0 := Lib.hid hU0
          clear H3 hU0
          obtain ⟨wp, hwp⟩ : ∃ wp : World, wp = w3 := ⟨_, rfl⟩
          subst hwp
          go_loopw [6, 11] (fun sv iv wr => ∃ (n i : Nat) (T U : List Cell), n ≤ T.length ∧ iv = .int .i64 i ∧ Hid (i = S.length + n) ∧ i ≤ 100 ∧ Hid (Fld (frB s) (· ∈ S) ⟨x, y⟩ T n 0) ∧ S.length + T.length ≤ 100 ∧ Hid (U = S ++ T) ∧ Sep w wr [Res.row sv 46 2 U.length (cc U), Res.row (.slice A2 cs.length c2) 46 2 cs.length (cc cs)]) (fun _ iv _ => 101 - (intOf iv).toNat)
          case atStart => exact ⟨0, S.length, [⟨x, y⟩], U0, by simp, rfl, Lib.hid rfl, hS, HF0, by simp; omega, HU0, H4⟩
          case round =>
            clear H4 HF0
            obtain ⟨n, i, T, U, hnT0, rfl, HI1, hi100, HF, hST, HU, H⟩ := hrel
            have hlen : U.length = S.length + T.length := by rw [HU.out]; exact List.length_append
            have HLEN := Lib.hid hlen
            clear hlen
            by_cases hlt : n < T.length
            · have hiL : i < U.length := by rw [HLEN.out, HI1.out]; omega
              obtain ⟨bi, hbi⟩ : ∃ bi, T[n]? = some bi := ⟨T[n], List.getElem?_eq_getElem hlt⟩
              have HBI := Lib.hid hbi
              have hfb := frB_iff.1 ((HF.out.reach bi (List.mem_of_getElem? hbi)).2).2
              obtain ⟨⟨z3, z4⟩, ⟨z5, z6⟩, _⟩ := hfb
              rw [← HWD.out] at z4
              rw [← HHT.out] at z6
              obtain ⟨As, cs', rfl, _, _, _⟩ := Res.row_at H.h0
              clear hbi
              obtain ⟨wo, hwo⟩ : ∃ wo : World, wo = wr := ⟨_, rfl⟩
              subst hwo
              have hnT : n < T.length := hlt
              go_wp2
              go_loopw [6, 12] (fun sv dv wr => ∃ (d : Nat) (T U : List Cell), d ≤ 4 ∧ dv = .int .i64 d ∧ Hid (Fld (frB s) (· ∈ S) ⟨x, y⟩ T n d) ∧ n < T.length ∧ Hid (T[n]? = some bi) ∧ Hid (U = S ++ T) ∧ Sep w wr [Res.row sv 46 2 U.length (cc U), Res.row (.slice A2 cs.length c2) 46 2 cs.length (cc cs)]) (fun _ dv _ => 4 - (intOf dv).toNat)
              case atStart => exact ⟨0, T, U, by omega, rfl, HF, hnT, HBI, HU, H⟩
              case round =>
                clear H HF hlt hnT0 hnT HBI hST hiL HLEN HU
                obtain ⟨d, T, U, hd, rfl, HF, hnT, HBI, HU, H⟩ := hrel
                have hST := HI.out.flen HSH.out HF.out
                have hlen : U.length = S.length + T.length := by rw [HU.out]; exact List.length_append
                have hiL : i < U.length := by rw [hlen, HI1.out]; omega
                have hL100 : U.length ≤ 100 := by rw [hlen]; exact hST
                clear hlen
                by_cases hd4 : d < 4
                ·
                  obtain ⟨dx, dy, m1, m2, ⟨x1, x2⟩, ⟨y1, y2⟩, s1, s2⟩ := nbr_step (b := bi) (d := d) hd4
                  obtain ⟨nb, hnb⟩ : ∃ nb, nb = nbr bi d := ⟨_, rfl⟩
                  rw [← hnb] at s1 s2
                  have m3 : IntKind.i64.wrap (Int.tmod (1 - (d : Int)) 2) = dx := by rw [m1]; exact IntWalk.i64_in _ (by omega)
                  have m4 : IntKind.i64.wrap (Int.tmod (2 - (d : Int)) 2) = dy := by rw [m2]; exact IntWalk.i64_in _ (by omega)
                  have HNB := Lib.hid hnb
                  clear hnb
                  obtain ⟨bs, os, cs2, rfl, hsn, hsm, hbs⟩ := own_shape H.h0 (by omega)
                  have hbiL : U[i]? = some bi := by rw [HU.out, HI1.out]; exact at_two HBI.out
                  obtain ⟨q1, q2⟩ := row_at2 H.h0 hbiL
                  clear hsn hsm hbiL
                  have x3 : -2 ≤ nb.x := by omega
                  have x4 : nb.x ≤ 9 := by omega
                  have y3 : -2 ≤ nb.y := by omega
                  have y4 : nb.y ≤ 9 := by omega
                  obtain ⟨p3, hp3⟩ : ∃ p3, p3 = decide ((⟨nb.x, nb.y⟩ : Cell) ∈ cs) := ⟨_, rfl⟩
                  obtain ⟨p4, hp4⟩ : ∃ p4, p4 = decide ((⟨nb.x, nb.y⟩ : Cell) ∈ U) := ⟨_, rfl⟩
                  have hcsR : CellsRd wr 0 wr.heap.size (.slice A2 cs.length c2) cs := H.drop.cellsRd (by omega)
                  have hTR : CellsRd wr 0 wr.heap.size (.slice (some ⟨bs, os, none⟩) U.length cs2) U := H.cellsRd (by omega)
                  have HHC : Hid (∀ _ : Unit, Calls Tryz.prog 57 #[.slice A2 cs.length c2, .int .i64 nb.x, .int .i64 nb.y] wr fun e w' => e = .returned (.bool p3) ∧ wr = w') := Lib.hid fun _ => by rw [hp3]; exact spec_has2_c _ _ _ hcsR (by omega)
                  have HHS : Hid (∀ _ : Unit, Calls Tryz.prog 57 #[.slice (some ⟨bs, os, none⟩) U.length cs2, .int .i64 nb.x, .int .i64 nb.y] wr fun e w' => e = .returned (.bool p4) ∧ wr = w') := Lib.hid fun _ => by rw [hp4]; exact spec_has2_c _ _ _ hTR (by omega)
                  have HP3 := Lib.hid hp3
                  have HP4 := Lib.hid hp4
                  clear hcsR hTR hp3 hp4
                  cases p3
                  rotate_left
                  · have HIN : Hid (nb ∈ corner s) := Lib.hid (by rw [← HCS.out]; exact of_decide_eq_true HP3.out.symm)
                    have hf2 : Fld (frB s) (· ∈ S) ⟨x, y⟩ T n (d + 1) := HF.out.skip HBI.out (fun hf => absurd HIN.out (by rw [HNB.out]; exact (frB_iff.1 hf).2.2))
                    have HF2 := Lib.hid hf2
                    have H1 := H
                    clear hf2 H
                    go_wp2_with fail
                    refine (HHC.out ()).mono ?_
                    rintro e w' ⟨rfl, rfl⟩
                    go_wp2
                    clear m1 m2 m3 m4 s1 s2 q1 q2
                    go_roundw
                    case rel => exact ⟨d + 1, T, U, by omega, by go_num, HF2, hnT, HBI, HU, H1⟩
                    case measure => simp [intOf]; omega
                  cases p4
                  rotate_left
                  · have HIN : Hid (nb ∈ S ++ T) := Lib.hid (by rw [← HU.out]; exact of_decide_eq_true HP4.out.symm)
                    have hf2 : Fld (frB s) (· ∈ S) ⟨x, y⟩ T n (d + 1) := HF.out.skip HBI.out (fun _ => by rw [← HNB.out]; exact (List.mem_append.1 HIN.out).symm)
                    have HF2 := Lib.hid hf2
                    have H1 := H
                    clear hf2 H
                    go_wp2_with fail
                    refine (HHC.out ()).mono ?_
                    rintro e w' ⟨rfl, rfl⟩
                    go_wp2_with fail
                    refine (HHS.out ()).mono ?_
                    rintro e w' ⟨rfl, rfl⟩
                    go_wp2
                    clear m1 m2 m3 m4 s1 s2 q1 q2
                    go_roundw
                    case rel => exact ⟨d + 1, T, U, by omega, by go_num, HF2, hnT, HBI, HU, H1⟩
                    case measure => simp [intOf]; omega
                  · have hnc : ¬ nb ∈ corner s := by rw [← HCS.out]; exact of_decide_eq_false HP3.out.symm
                    have hno : ¬ nb ∈ S ++ T := by rw [← HU.out]; exact of_decide_eq_false HP4.out.symm
                    have hnS : ¬ nb ∈ S := fun hm => hno (List.mem_append.2 (.inl hm))
                    have hnTm : ¬ nb ∈ T := fun hm => hno (List.mem_append.2 (.inr hm))
                    have hfr : frB s nb = true := HI.out.nb HSH.out HF.out (List.mem_of_getElem? HBI.out) ⟨d, hd4, HNB.out⟩ hnc hnS
                    rw [HNB.out] at hfr hnTm hnS
                    have hf2 := HF.out.add HBI.out hd4 hfr hnTm hnS
                    rw [← HNB.out] at hf2
                    have HF2 := Lib.hid hf2
                    have hb2 : (T ++ [nb])[n]? = some bi := by rw [List.getElem?_append_left hnT]; exact HBI.out
                    have HB2 := Lib.hid hb2
                    clear hno hnc hfr hf2 hb2 hnS hnTm
                    go_wp2_with fail
                    refine (HHC.out ()).mono ?_
                    rintro e w' ⟨rfl, rfl⟩
                    go_wp2_with fail
                    refine (HHS.out ()).mono ?_
                    rintro e w' ⟨rfl, rfl⟩
                    go_wp2_with (at_builtin; refine wpList_app rfl _ _ 24 rfl 46 i0 _ 2 16 Tryz.underlying24 hi hz0 hz1 hz2 rfl (by decide) _ _ _ rfl (H.alloc _) _ _ _ [.int .i64 nb.x, .int .i64 nb.y] rfl (Rd.fresh wr _ #[.int .i64 nb.x, .int .i64 nb.y] 2 1 rfl) oc2 (by unfold maxLen; omega) (by omega) ?_; intro v3 w3 H3; clear H)
                    clear m1 m2 m3 m4 s1 s2 q1 q2
                    obtain ⟨U2, hU2⟩ : ∃ U2, U2 = U ++ [nb] := ⟨_, rfl⟩
                    have H4 : Sep w w3 [Res.row v3 46 2 U2.length (cc U2), Res.row (.slice A2 cs.length c2) 46 2 cs.length (cc cs)] := by rw [hU2, cc_append, List.length_append]; exact H3
                    have HU2 : Hid (U2 = S ++ (T ++ [nb])) := Lib.hid (by rw [hU2, HU.out, List.append_assoc])
                    clear hU2
                    clear H3
                    go_roundw
                    case rel => exact ⟨d + 1, T ++ [nb], U2, by omega, by go_num, HF2, by simp; omega, HB2, HU2, H4⟩
                    case measure => simp [intOf]; omega
                · obtain rfl : d = 4 := by omega
                  have HF2 := Lib.hid (HF.out.next (Nat.le_refl _))
                  have hst2 : S.length + T.length ≤ 100 := hST
                  have HI3 : Hid (i + 1 = S.length + (n + 1)) := Lib.hid (by rw [HI1.out]; omega)
                  go_wp2
                  go_roundw
                  case rel => exact ⟨n + 1, i + 1, T, U, by omega, by go_num, HI3, by omega, HF2, hst2, HU, H⟩
                  case measure => simp [intOf]; omega
            · obtain rfl : n = T.length := by omega
              have hiL : ¬ i < U.length := by rw [HLEN.out, HI1.out]; omega
              have hi2 := HI.out.add HFR.out HNS.out HF.out (Nat.le_refl _)
              rw [← HU.out] at hi2
              have HI2 := Lib.hid hi2
              have HM2 : Hid (m + 1 = (L ++ [(⟨x, y⟩ : Cell)]).length) := Lib.hid (by rw [List.length_append, HM.out]; rfl)
              have hL100 : U.length ≤ 100 := by rw [HLEN.out]; exact hST
              obtain ⟨As5, cs5, rfl, _, _, _⟩ := Res.row_at H.h0
              clear hi2
              go_wp2
              go_roundw
              case rel => exact ⟨U, L ++ [⟨x, y⟩], x + 1, m + 1, by omega, by omega, rfl, by go_num, hm2, HM2, hL100, HI2, H⟩
              case measure => simp [intOf]; omega
        · have hdx : decide (x < wd) = false := by simpa using hx
          have HI2 := Lib.hid (HI.out.row (by rw [← HWD.out]; omega))
          go_wp2
          go_roundw
          case rel => exact ⟨S, L, y + 1, m, by omega, by omega, rfl, rfl, hm, HM, hS, HI2, H⟩
          case measure => simp [intOf]; omega
    · have hdy : decide (y < ht) = false := by simpa using hy
      have hRe : R = (m : Int) := by rw [HR2.out, HI.out.last (by rw [← HHT.out]; omega), HM.out]
      subst hRe
      have hbel := H.below
      go_wp2
      go_ret
      exact ⟨rfl, hbel⟩
end Go.Proofs.YtghpkfihdcjlaaaGreatDoor

namespace Go.Proofs.YtghpkfihdcjlaaaGreatDoor

/-- the neighbours in the program's order -/
def nbi (c : Cell) (e : Nat) : Cell := match e with
  | 0 => ⟨c.x, c.y - 1⟩
  | 1 => ⟨c.x - 1, c.y⟩
  | 2 => ⟨c.x + 1, c.y⟩
  | _ => ⟨c.x, c.y + 1⟩
theorem nbi_adj {c : Cell} {e : Nat} (he : e < 4) : Adj c (nbi c e) := by
  have h4 : e = 0 ∨ e = 1 ∨ e = 2 ∨ e = 3 := by omega
  rcases h4 with rfl | rfl | rfl | rfl
  · exact ⟨3, by omega, rfl⟩
  · exact ⟨2, by omega, rfl⟩
  · exact ⟨0, by omega, rfl⟩
  · exact ⟨1, by omega, rfl⟩
theorem adj_nbi {b c : Cell} (h : Adj b c) : ∃ e, e < 4 ∧ c = nbi b e := by
  obtain ⟨d, hd, rfl⟩ := h
  have h4 : d = 0 ∨ d = 1 ∨ d = 2 ∨ d = 3 := by omega
  rcases h4 with rfl | rfl | rfl | rfl
  · exact ⟨2, by omega, rfl⟩
  · exact ⟨3, by omega, rfl⟩
  · exact ⟨1, by omega, rfl⟩
  · exact ⟨0, by omega, rfl⟩
/-- a search from r: T in order, the first i done, of the next one d directions -/
structure Fle (fr : Cell → Bool) (B : Cell → Prop) (r : Cell) (T : List Cell) (i d : Nat) : Prop where
  nodup : T.Nodup
  reach : ∀ c ∈ T, Rch fr r c ∧ ¬ B c ∧ fr c = true
  root : r ∈ T
  done : ∀ (j : Nat) (b c : Cell) (e : Nat), T[j]? = some b → e < 4 → (j < i ∨ j = i ∧ e < d) → c = nbi b e → fr c = true → c ∈ T ∨ B c
section
variable {fr : Cell → Bool} {B : Cell → Prop} {r : Cell} {T : List Cell} {i d : Nat}
theorem Fle.start (hr : fr r = true) (hB : ¬ B r) : Fle fr B r [r] 0 0 :=
  ⟨by simp, fun c hc => by simp at hc; subst hc; exact ⟨.base, hB, hr⟩, by simp, fun j b c e _ _ hj => by omega⟩
theorem Fle.skip (h : Fle fr B r T i d) {b : Cell} (hb : T[i]? = some b) (hs : fr (nbi b d) = true → nbi b d ∈ T ∨ B (nbi b d)) : Fle fr B r T i (d + 1) :=
  ⟨h.nodup, h.reach, h.root, fun j b' c e hj he hle hc hf => by
    by_cases hl : j < i ∨ j = i ∧ e < d
    · exact h.done j b' c e hj he hl hc hf
    · obtain ⟨rfl, rfl⟩ : j = i ∧ e = d := by omega
      rw [hb] at hj
      injection hj with hj
      subst hj
      subst hc
      exact hs hf⟩
theorem Fle.add (h : Fle fr B r T i d) {b : Cell} (hb : T[i]? = some b) (hd : d < 4) (hf : fr (nbi b d) = true) (hT : ¬ nbi b d ∈ T) (hB : ¬ B (nbi b d)) : Fle fr B r (T ++ [nbi b d]) i (d + 1) := by
  have hi : i < T.length := (List.getElem?_eq_some_iff.1 hb).1
  refine ⟨List.nodup_append.2 ⟨h.nodup, by simp, fun x hx y hy => by simp at hy; subst hy; exact fun e => hT (e ▸ hx)⟩, fun c hc => ?_, List.mem_append.2 (.inl h.root), fun j b' c e hj he hle hc hf' => ?_⟩
  · rcases List.mem_append.1 hc with hc | hc
    · exact h.reach c hc
    · simp at hc
      subst hc
      exact ⟨.step (h.reach b (List.mem_of_getElem? hb)).1 (nbi_adj hd) hf, hB, hf⟩
  · rw [List.getElem?_append_left (by omega)] at hj
    by_cases hl : j < i ∨ j = i ∧ e < d
    · rcases h.done j b' c e hj he hl hc hf' with h1 | h1
      · exact .inl (List.mem_append.2 (.inl h1))
      · exact .inr h1
    · obtain ⟨rfl, rfl⟩ : j = i ∧ e = d := by omega
      rw [hb] at hj
      injection hj with hj
      subst hj
      subst hc
      exact .inl (by simp)
theorem Fle.next (h : Fle fr B r T i d) (hd : 4 ≤ d) : Fle fr B r T (i + 1) 0 :=
  ⟨h.nodup, h.reach, h.root, fun j b c e hj he hle hc hf => h.done j b c e hj he (by omega) hc hf⟩
/-- at the end: all that is reached -/
theorem Fle.end_ (h : Fle fr B r T i d) (hi : T.length ≤ i) (hB : ∀ b c, B b → Adj b c → fr c = true → B c) (c : Cell) : c ∈ T ↔ Rch fr r c := by
  constructor
  · exact fun hc => (h.reach c hc).1
  · intro hc
    have hr := (h.reach r h.root)
    induction hc with
    | base => exact h.root
    | @step b c hb hadj hf ih =>
      obtain ⟨e, he, rfl⟩ := adj_nbi hadj
      obtain ⟨j, hj, ej⟩ := List.getElem_of_mem ih
      rcases h.done j b _ e (by rw [List.getElem?_eq_getElem hj, ej]) he (by omega) rfl hf with h1 | h1
      · exact h1
      · exact absurd h1 (Rch.out hB (.step hb (nbi_adj he) hf) hr.2.2 hr.2.1)
theorem Fle.len (h : Fle fr B r T i d) {G : List Cell} (hG : ∀ c, fr c = true → c ∈ G) : T.length ≤ G.length := nodup_len h.nodup fun c hc => hG c (h.reach c hc).2.2
end
/-- a place of the grid is a cell of the shape -/
def shpAt (s : List Cell) (c : Cell) : Prop := (⟨c.x - 1, c.y - 1⟩ : Cell) ∈ s
def frG (s : List Cell) (c : Cell) : Bool := inR c.x 0 9 && inR c.y 0 9 && !decide ((⟨c.x - 1, c.y - 1⟩ : Cell) ∈ s)
theorem frG_iff {s : List Cell} {c : Cell} : frG s c = true ↔ (0 ≤ c.x ∧ c.x ≤ 9) ∧ (0 ≤ c.y ∧ c.y ≤ 9) ∧ ¬ shpAt s c := by
  unfold frG
  rw [Bool.and_eq_true, Bool.and_eq_true, inR_iff, inR_iff]
  simp [and_assoc, shpAt]
def rootG (s : List Cell) (q : Cell) : Prop := frG s q = true ∧ ∀ p, befB p q = true → frG s p = true → ¬ Rch (frG s) p q
structure KInv (s : List Cell) (S L : List Cell) (at_ : Cell) : Prop where
  sub : ∀ c ∈ S, frG s c = true
  why : ∀ c ∈ S, ∃ r ∈ L, Rch (frG s) r c
  closed : ∀ b c, b ∈ S → Adj b c → frG s c = true → c ∈ S
  scan : ∀ q, befB q at_ = true → frG s q = true → q ∈ S
  lnodup : L.Nodup
  roots : ∀ q, q ∈ L ↔ rootG s q ∧ befB q at_ = true
  lsub : ∀ q ∈ L, q ∈ S
section
variable {s S L T : List Cell} {a b r : Cell}
theorem KInv.move (h : KInv s S L a) (hb : ∀ q, frG s q = true → (befB q b = true ↔ befB q a = true)) : KInv s S L b :=
  ⟨h.sub, h.why, h.closed, fun q hq hf => h.scan q ((hb q hf).1 hq) hf, h.lnodup, fun q => by
    rw [h.roots]
    constructor
    · rintro ⟨h1, h2⟩; exact ⟨h1, (hb q h1.1).2 h2⟩
    · rintro ⟨h1, h2⟩; exact ⟨h1, (hb q h1.1).1 h2⟩, h.lsub⟩
/-- what has been seen is no new root -/
theorem KInv.old (h : KInv s S L a) {q : Cell} (hq : rootG s q) (hm : q ∈ S) (hb : ∀ r, befB r a = true → befB r q = true) : False := by
  obtain ⟨r, hr, h2⟩ := h.why q hm
  have h3 := (h.roots r).1 hr
  exact hq.2 r (hb r h3.2) h3.1.1 h2
theorem KInv.skip {x y : Int} (h : KInv s S L ⟨x, y⟩) (hs : frG s ⟨x, y⟩ = true → (⟨x, y⟩ : Cell) ∈ S) : KInv s S L ⟨x + 1, y⟩ :=
  ⟨h.sub, h.why, h.closed, fun q hq hf => by
    rcases bef_step.1 hq with h1 | rfl
    · exact h.scan q h1 hf
    · exact hs hf, h.lnodup, fun q => by
    rw [h.roots]
    constructor
    · rintro ⟨h1, h2⟩; exact ⟨h1, bef_step.2 (.inl h2)⟩
    · rintro ⟨h1, h2⟩
      refine ⟨h1, ?_⟩
      rcases bef_step.1 h2 with h3 | rfl
      · exact h3
      · exact absurd (hs h1.1) fun hm => h.old h1 hm (fun _ hr => hr), h.lsub⟩
theorem KInv.root {x y : Int} (h : KInv s S L ⟨x, y⟩) (hf : frG s ⟨x, y⟩ = true) (hn : ¬ (⟨x, y⟩ : Cell) ∈ S) : rootG s ⟨x, y⟩ :=
  ⟨hf, fun p hp hpf hr => hn (hr.into (B := (· ∈ S)) h.closed (h.scan p hp hpf))⟩
/-- a hole has been flooded -/
theorem KInv.add {x y : Int} (h : KInv s S L ⟨x, y⟩) (hf : frG s ⟨x, y⟩ = true) (hn : ¬ (⟨x, y⟩ : Cell) ∈ S) {i d : Nat} (hT : Fle (frG s) (· ∈ S) ⟨x, y⟩ T i d) (hi : T.length ≤ i) : KInv s (S ++ T) (L ++ [⟨x, y⟩]) ⟨x + 1, y⟩ := by
  have hend := hT.end_ hi h.closed
  have hroot := h.root hf hn
  refine ⟨fun c hc => ?_, fun c hc => ?_, fun b c hb hadj hfc => ?_, fun q hq hfq => ?_, ?_, fun q => ?_, fun q hq => ?_⟩
  · rcases List.mem_append.1 hc with hc | hc
    · exact h.sub c hc
    · exact (hT.reach c hc).2.2
  · rcases List.mem_append.1 hc with hc | hc
    · obtain ⟨r, hr, h1⟩ := h.why c hc
      exact ⟨r, List.mem_append.2 (.inl hr), h1⟩
    · exact ⟨⟨x, y⟩, by simp, (hT.reach c hc).1⟩
  · rcases List.mem_append.1 hb with hb | hb
    · exact List.mem_append.2 (.inl (h.closed b c hb hadj hfc))
    · exact List.mem_append.2 (.inr ((hend c).2 (.step ((hend b).1 hb) hadj hfc)))
  · rcases bef_step.1 hq with h1 | rfl
    · exact List.mem_append.2 (.inl (h.scan q h1 hfq))
    · exact List.mem_append.2 (.inr hT.root)
  · refine List.nodup_append.2 ⟨h.lnodup, by simp, fun p hp q hq e => ?_⟩
    simp at hq
    subst hq
    subst e
    exact hn (h.lsub _ hp)
  · rw [List.mem_append, h.roots, List.mem_singleton]
    constructor
    · rintro (⟨h1, h2⟩ | rfl)
      · exact ⟨h1, bef_step.2 (.inl h2)⟩
      · exact ⟨hroot, bef_step.2 (.inr rfl)⟩
    · rintro ⟨h1, h2⟩
      rcases bef_step.1 h2 with h3 | rfl
      · exact .inl ⟨h1, h3⟩
      · exact .inr rfl
  · rcases List.mem_append.1 hq with hq | hq
    · exact List.mem_append.2 (.inl (h.lsub q hq))
    · simp at hq
      subst hq
      exact List.mem_append.2 (.inr hT.root)
theorem KInv.row {x y : Int} (h : KInv s S L ⟨x, y⟩) (hx : 10 ≤ x) : KInv s S L ⟨0, y + 1⟩ := h.move fun q hf => by
  rw [frG_iff] at hf
  obtain ⟨u, v⟩ := q
  simp only [befB, Bool.or_eq_true, Bool.and_eq_true, decide_eq_true_eq] at *
  omega
theorem KInv.start : KInv s [] [] ⟨0, 0⟩ := by
  have hno : ∀ q, befB q ⟨0, 0⟩ = true → frG s q = true → False := fun q hq hf => by
    rw [frG_iff] at hf
    simp only [befB, Bool.or_eq_true, Bool.and_eq_true, decide_eq_true_eq] at hq
    omega
  exact ⟨fun c hc => by simp at hc, fun c hc => by simp at hc, fun b c hb => by simp at hb, fun q hq hf => (hno q hq hf).elim, by simp, fun q => ⟨fun h => by simp at h, fun h => (hno q h.2 h.1.1).elim⟩, fun q hq => by simp at hq⟩
theorem frG_grid : ∀ c, frG s c = true → c ∈ gridL 0 0 10 10 := fun c hc => by
  have := frG_iff.1 hc
  exact gridL_mem (by omega) (by omega) (by omega) (by omega)
theorem KInv.llen (h : KInv s S L a) : L.length ≤ 100 := Nat.le_trans (nodup_len h.lnodup fun q hq => frG_grid q (h.sub q (h.lsub q hq))) (by rw [gridL_len]; exact Nat.le_refl _)
theorem KInv.last {y : Int} (h : KInv s S L ⟨0, y⟩) (hy : 10 ≤ y) (q : Cell) : q ∈ L ↔ rootG s q := by
  rw [h.roots]
  constructor
  · exact fun hh => hh.1
  · intro hq
    refine ⟨hq, ?_⟩
    have := frG_iff.1 hq.1
    simp only [befB, Bool.or_eq_true, Bool.and_eq_true, decide_eq_true_eq]
    omega
end
end Go.Proofs.YtghpkfihdcjlaaaGreatDoor

namespace Go.Proofs.YtghpkfihdcjlaaaGreatDoor

section
variable {s : List Cell}
def up (s : List Cell) (q : Cell) : Cell := ⟨q.x + minX s + 1, q.y + minY s + 1⟩
def dn (s : List Cell) (q : Cell) : Cell := ⟨q.x - minX s - 1, q.y - minY s - 1⟩
theorem up_dn (q : Cell) : up s (dn s q) = q := by
  obtain ⟨x, y⟩ := q
  simp only [up, dn, Cell.mk.injEq]
  omega
theorem dn_up (q : Cell) : dn s (up s q) = q := by
  obtain ⟨x, y⟩ := q
  simp only [up, dn, Cell.mk.injEq]
  omega
theorem shp_up {q : Cell} : shpAt s (up s q) ↔ q ∈ corner s := by
  unfold shpAt up corner
  rw [mem_shift]
  rw [show (⟨q.x + minX s + 1 - 1, q.y + minY s + 1 - 1⟩ : Cell) = ⟨q.x + minX s, q.y + minY s⟩ by simp only [Cell.mk.injEq]; omega]
theorem adj_up {b c : Cell} (h : Adj b c) : Adj (up s b) (up s c) := by
  obtain ⟨d, hd, rfl⟩ := h
  refine ⟨d, hd, ?_⟩
  have h4 : d = 0 ∨ d = 1 ∨ d = 2 ∨ d = 3 := by omega
  rcases h4 with rfl | rfl | rfl | rfl <;> simp [up, nbr] <;> omega
theorem adj_dn {b c : Cell} (h : Adj b c) : Adj (dn s b) (dn s c) := by
  obtain ⟨d, hd, rfl⟩ := h
  refine ⟨d, hd, ?_⟩
  have h4 : d = 0 ∨ d = 1 ∨ d = 2 ∨ d = 3 := by omega
  rcases h4 with rfl | rfl | rfl | rfl <;> simp [dn, nbr] <;> omega
theorem frO_up (hs : isShape s = true) {q : Cell} (h : frO s q = true) : frG s (up s q) = true := by
  have h1 := shp_size hs
  have h2 := shp_min hs
  have h3 := frO_iff.1 h
  refine frG_iff.2 ⟨by unfold up; simp only; omega, by unfold up; simp only; omega, fun hm => h3.2.2 (shp_up.1 hm)⟩
theorem rch_up (hs : isShape s = true) {p q : Cell} (h : Rch (frO s) p q) : Rch (frG s) (up s p) (up s q) := by
  induction h with
  | base => exact .base
  | step _ hadj hf ih => exact .step ih (adj_up hadj) (frO_up hs hf)
theorem rchB_O {p q : Cell} (h : Rch (frB s) p q) : Rch (frO s) p q := by
  induction h with
  | base => exact .base
  | step _ hadj hf ih => exact .step ih hadj (frB_O hf)
/-- a place of the grid beside the box is free -/
theorem frG_out (_ : isShape s = true) {c : Cell} (h1 : 0 ≤ c.x ∧ c.x ≤ 9) (h2 : 0 ≤ c.y ∧ c.y ≤ 9) (h : c.x ≤ minX s ∨ minX s + wdOf s + 1 ≤ c.x ∨ c.y ≤ minY s ∨ minY s + htOf s + 1 ≤ c.y) : frG s c = true := by
  refine frG_iff.2 ⟨h1, h2, fun hm => ?_⟩
  rw [← up_dn (s := s) c, shp_up] at hm
  have h3 := corner_ge hm
  have h4 := corner_lt hm
  unfold dn at h3 h4
  simp only at h3 h4
  omega
theorem row0 (hs : isShape s = true) : ∀ k : Nat, k ≤ 9 → Rch (frG s) ⟨0, 0⟩ ⟨(k : Int), 0⟩
  | 0, _ => .base
  | k + 1, hk => by
    have := shp_min hs
    have e : (⟨((k + 1 : Nat) : Int), 0⟩ : Cell) = ⟨(⟨(k : Int), 0⟩ : Cell).x + 1, (⟨(k : Int), 0⟩ : Cell).y⟩ := by simp
    rw [e]
    refine .step (row0 hs k (by omega)) nb_x (frG_out hs ?_ ?_ (.inr (.inr (.inl ?_)))) <;> simp only <;> omega
theorem colX (hs : isShape s = true) {x : Int} (h0 : 0 ≤ x ∧ x ≤ 9) (h : x ≤ minX s ∨ minX s + wdOf s + 1 ≤ x) : ∀ k : Nat, k ≤ 9 → Rch (frG s) ⟨0, 0⟩ ⟨x, (k : Int)⟩
  | 0, _ => by
    have := row0 hs x.toNat (by omega)
    rwa [show ((x.toNat : Nat) : Int) = x by omega] at this
  | k + 1, hk => by
    have e : (⟨x, ((k + 1 : Nat) : Int)⟩ : Cell) = ⟨(⟨x, (k : Int)⟩ : Cell).x, (⟨x, (k : Int)⟩ : Cell).y + 1⟩ := by simp
    rw [e]
    refine .step (colX hs h0 h k (by omega)) nb_y (frG_out hs ?_ ?_ ?_) <;> simp only <;> omega
theorem rowY (hs : isShape s = true) {y : Int} (h0 : 0 ≤ y ∧ y ≤ 9) (h : y ≤ minY s ∨ minY s + htOf s + 1 ≤ y) : ∀ k : Nat, k ≤ 9 → Rch (frG s) ⟨0, 0⟩ ⟨(k : Int), y⟩
  | 0, _ => by
    have h1 := shp_min hs
    have := colX hs (x := 0) (by omega) (.inl (by omega)) y.toNat (by omega)
    rwa [show ((y.toNat : Nat) : Int) = y by omega] at this
  | k + 1, hk => by
    have e : (⟨((k + 1 : Nat) : Int), y⟩ : Cell) = ⟨(⟨(k : Int), y⟩ : Cell).x + 1, (⟨(k : Int), y⟩ : Cell).y⟩ := by simp
    rw [e]
    refine .step (rowY hs h0 h k (by omega)) nb_x (frG_out hs ?_ ?_ ?_) <;> simp only <;> omega
/-- what lies beside the box is outside -/
theorem outG (hs : isShape s = true) {c : Cell} (hf : frG s c = true) (hn : frB s (dn s c) = false) : Rch (frG s) ⟨0, 0⟩ c := by
  obtain ⟨h1, h2, h3⟩ := frG_iff.1 hf
  have h4 : ¬ frB s (dn s c) = true := by rw [hn]; exact Bool.false_ne_true
  rw [frB_iff] at h4
  have h5 : ¬ dn s c ∈ corner s := fun hm => h3 (by rw [← up_dn (s := s) c]; exact shp_up.2 hm)
  have h6 : ¬ ((0 ≤ (dn s c).x ∧ (dn s c).x ≤ wdOf s - 1) ∧ (0 ≤ (dn s c).y ∧ (dn s c).y ≤ htOf s - 1)) := fun hh => h4 ⟨hh.1, hh.2, h5⟩
  unfold dn at h6
  simp only at h6
  obtain ⟨x, y⟩ := c
  simp only at *
  by_cases hx : x ≤ minX s ∨ minX s + wdOf s + 1 ≤ x
  · have := colX hs h1 hx y.toNat (by omega)
    rwa [show ((y.toNat : Nat) : Int) = y by omega] at this
  · have := rowY hs h2 (by omega) x.toNat (by omega)
    rwa [show ((x.toNat : Nat) : Int) = x by omega] at this
theorem out_up (hs : isShape s = true) {q : Cell} (h : OutC s q) : Rch (frG s) ⟨0, 0⟩ (up s q) := by
  have h1 := rch_up hs h
  have h2 := shp_min hs
  have h3 : Rch (frG s) ⟨0, 0⟩ (up s ⟨-1, -1⟩) := by
    refine outG hs (frO_up hs (frO_start hs)) ?_
    rw [dn_up]
    cases hb : frB s ⟨-1, -1⟩ with
    | false => rfl
    | true => have := frB_iff.1 hb; simp only at this; omega
  exact h3.trans h1
/-- a hole's places stay among themselves -/
theorem hole_closed (hs : isShape s = true) {r : Cell} : ∀ b c, (∃ q, frB s q = true ∧ ¬ OutC s q ∧ Rch (frB s) r q ∧ b = up s q) → Adj b c → frG s c = true → ∃ q, frB s q = true ∧ ¬ OutC s q ∧ Rch (frB s) r q ∧ c = up s q := by
  rintro b c ⟨q, h1, h2, h3, rfl⟩ hadj hf
  have ha : Adj q (dn s c) := by have := adj_dn (s := s) hadj; rwa [dn_up] at this
  have hn := ha.near
  have hb := frB_iff.1 h1
  have hnc : ¬ dn s c ∈ corner s := fun hm => (frG_iff.1 hf).2.2 (by rw [← up_dn (s := s) c]; exact shp_up.2 hm)
  have hfo : frO s (dn s c) = true := frO_iff.2 ⟨by omega, by omega, hnc⟩
  have hno : ¬ OutC s (dn s c) := fun ho => h2 (.step ho ha.symm (frB_O h1))
  cases hfb : frB s (dn s c) with
  | false => exact absurd (ring_out hs hfo hfb) hno
  | true => exact ⟨dn s c, hfb, hno, .step h3 ha hfb, (up_dn c).symm⟩
theorem frG_zero (hs : isShape s = true) : frG s ⟨0, 0⟩ = true := by
  have := shp_min hs
  exact frG_out hs (by simp) (by simp) (.inl (by simp only; omega))
theorem in_hole (hs : isShape s = true) {q p : Cell} (h1 : frB s q = true) (h2 : ¬ OutC s q) (h : Rch (frG s) p (up s q)) (hp : frG s p = true) : ∃ p', frB s p' = true ∧ ¬ OutC s p' ∧ Rch (frB s) q p' ∧ p = up s p' :=
  (h.symm hp).into (B := fun c => ∃ p', frB s p' = true ∧ ¬ OutC s p' ∧ Rch (frB s) q p' ∧ c = up s p') (hole_closed hs) ⟨q, h1, h2, .base, rfl⟩
theorem bef_up {p q : Cell} : befB (up s p) (up s q) = befB p q := by
  have e1 : (p.y + minY s + 1 < q.y + minY s + 1) ↔ p.y < q.y := by omega
  have e2 : (p.y + minY s + 1 = q.y + minY s + 1) ↔ p.y = q.y := by omega
  have e3 : (p.x + minX s + 1 < q.x + minX s + 1) ↔ p.x < q.x := by omega
  simp only [befB, up, e1, e2, e3]
theorem root_iff (hs : isShape s = true) {q : Cell} : rootG s q ↔ q = ⟨0, 0⟩ ∨ ∃ p, rootS s p ∧ q = up s p := by
  constructor
  · rintro ⟨h1, h2⟩
    by_cases ho : Rch (frG s) ⟨0, 0⟩ q
    · left
      obtain ⟨x, y⟩ := q
      have := frG_iff.1 h1
      simp only at this
      rcases Classical.em ((⟨x, y⟩ : Cell) = ⟨0, 0⟩) with e | e
      · exact e
      · refine absurd ho (h2 ⟨0, 0⟩ ?_ (frG_zero hs))
        simp only [Cell.mk.injEq] at e
        simp only [befB, Bool.or_eq_true, Bool.and_eq_true, decide_eq_true_eq]
        omega
    · right
      cases hfb : frB s (dn s q) with
      | false => exact absurd (outG hs h1 hfb) ho
      | true =>
        refine ⟨dn s q, ⟨hfb, fun h => ho (by have := out_up hs h; rwa [up_dn] at this), fun p hp hpf hr => ?_⟩, (up_dn q).symm⟩
        have h3 := rch_up hs (rchB_O hr)
        rw [up_dn] at h3
        exact h2 (up s p) (by rw [← up_dn (s := s) q, bef_up]; exact hp) (frO_up hs (frB_O hpf)) h3
  · rintro (rfl | ⟨p, ⟨h1, h2, h3⟩, rfl⟩)
    · refine ⟨frG_zero hs, fun p hp hpf => ?_⟩
      have := frG_iff.1 hpf
      simp only [befB, Bool.or_eq_true, Bool.and_eq_true, decide_eq_true_eq] at hp
      omega
    · refine ⟨frO_up hs (frB_O h1), fun t ht htf hr => ?_⟩
      obtain ⟨t', k1, _, k3, rfl⟩ := in_hole hs h1 h2 hr htf
      rw [bef_up] at ht
      exact h3 t' ht k1 (k3.symm h1)
/-- the program's count -/
theorem count_eq (hs : isShape s = true) {L : List Cell} (hn : L.Nodup) (hL : ∀ q, q ∈ L ↔ rootG s q) : L.length = holesN s + 1 := by
  have hz : (⟨0, 0⟩ : Cell) ∈ L := (hL _).2 ((root_iff hs).2 (.inl rfl))
  have hup : ∀ p, rootS s p → up s p ≠ ⟨0, 0⟩ := fun p hp e => by
    have h1 := frB_iff.1 hp.1
    have h2 := shp_min hs
    simp only [up, Cell.mk.injEq] at e
    omega
  have hM : holesN s = ((L.erase ⟨0, 0⟩).map (dn s)).length := by
    refine cardP_eq ?_ fun q => ?_
    · refine List.Pairwise.map (R := fun a b => a ≠ b) (S := fun a b => a ≠ b) (dn s) (fun a b hab e => hab ?_) (List.Nodup.erase _ hn)
      rw [← up_dn (s := s) a, ← up_dn (s := s) b, e]
    · rw [List.mem_map]
      constructor
      · rintro ⟨p, hp, rfl⟩
        have h1 := (hn.mem_erase_iff).1 hp
        rcases (root_iff hs).1 ((hL p).1 h1.2) with h2 | ⟨t, ht, rfl⟩
        · exact absurd h2 h1.1
        · rw [dn_up]; exact ht
      · intro hq
        exact ⟨up s q, (hn.mem_erase_iff).2 ⟨hup q hq, (hL _).2 ((root_iff hs).2 (.inr ⟨q, hq, rfl⟩))⟩, dn_up q⟩
  rw [hM, List.length_map, List.length_erase_of_mem hz]
  have := List.length_pos_of_mem hz
  omega
end
end Go.Proofs.YtghpkfihdcjlaaaGreatDoor
