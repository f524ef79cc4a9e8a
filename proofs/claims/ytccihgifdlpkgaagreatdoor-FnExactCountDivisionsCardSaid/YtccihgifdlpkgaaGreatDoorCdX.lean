
/-
  How many divisions a region has: both walks.
-/
import Derived.Test.YtccihgifdlpkgaaGreatDoorCntR
import Derived.Test.YtccihgifdlpkgaaGreatDoorDpX
namespace Go.Proofs.YtccihgifdlpkgaaGreatDoor
open Go.RowKit

def cdTo (r : Reg) (L : List (List Cell)) : Int := L.foldl (fun n s => wrap64 (n + cntR r [s])) 0
theorem cdTo_snoc {r : Reg} {L : List (List Cell)} {s : List Cell} : cdTo r (L ++ [s]) = wrap64 (cdTo r L + cntR r [s]) := by simp [cdTo]
def cdOk (r : Reg) (k : Int) : Bool := decide (1 ≤ areaR r) && inR k 1 12
def cdR (r : Reg) (k : Int) : Int := if cdOk r k = true then cdTo r (divP r k) else -1
theorem cdR_no {r : Reg} {k : Int} (h : cdOk r k = false) : cdR r k = -1 := by unfold cdR; rw [h]; rfl
theorem cdR_yes {r : Reg} {k : Int} (h : cdOk r k = true) : cdR r k = cdTo r (divP r k) := by unfold cdR; rw [if_pos h]
set_option maxRecDepth 100000 in
set_option maxHeartbeats 3200000 in
theorem impl_cd_c {v : Value} {r : Reg} (w : World) (h : RegRd w 0 w.heap.size v r) (k : Int) (hn : r.rows.length ≤ 1048576) (ht : Tab64 w) :
    Calls Tryz.prog 19 #[v, .int .i64 k] w fun e w' => e = .returned (.int .i64 (cdR r k)) ∧ Below w.heap.size w w' := by
  have HRD : Hid (∀ w1, Below w.heap.size w w1 → RegRd w1 0 w1.heap.size v r) := Lib.hid fun w1 b1 => (h.keep (SameIn.of_below b1 (Nat.le_refl _))).more (Nat.le_refl _) b1.size
  have HCT : Hid (∀ w1 g x s, Below w.heap.size w w1 → s.length ≤ 1048576 → CellsRd w1 0 w1.heap.size x s → Blk w1 g 42 #[x] → Calls Tryz.prog 34 #[v, .slice (some ⟨g, 0, none⟩) 1 1] w1 fun e w' => e = .returned (.int .i64 (cntR r [s])) ∧ Below w1.heap.size w1 w') := Lib.hid fun w1 g x s b1 hs hx hbk =>
    impl_count_c (ps := [s]) w1 (HRD.out w1 b1) (one_ssR hbk hx) (by show 1 ≤ 1048576; omega) (fun t ht => by rw [List.mem_singleton] at ht; rw [ht]; exact hs) (tab64_on ht b1)
  have HAR : Hid (∀ w1, Below w.heap.size w w1 → Calls Tryz.prog 32 #[v] w1 fun e w' => e = .returned (.int .i64 (areaR r)) ∧ Below w1.heap.size w1 w') := Lib.hid fun w1 b1 => impl_area_c w1 (HRD.out w1 b1) hn
  have hbt : Hid (∀ w1, Calls Tryz.prog 33 #[.int .i64 k, .int .i64 1, .int .i64 12] w1 fun e w' => e = .returned (.bool (inR k 1 12)) ∧ w1 = w') := Lib.hid fun w1 => between_r _ _ _ _
  have HDP : Hid (∀ w1, Below w.heap.size w w1 → Calls Tryz.prog 21 #[v, .int .i64 k] w1 fun e w' => ∃ v' P, e = .returned v' ∧ P.map Prod.snd = divP r k ∧ Sep w1 w' [Res.row v' 42 1 P.length (P.map Prod.fst), Res.shps P]) := Lib.hid fun w1 b1 => impl_divP_c k w1 (HRD.out w1 b1) hn (tab64_on ht b1)
  obtain ⟨N, hN⟩ : ∃ N, N = areaR r := ⟨_, rfl⟩
  obtain ⟨R, hR⟩ : ∃ R, R = cdR r k := ⟨_, rfl⟩
  rw [← hR]
  have HR := Lib.hid hR
  have HOK : Hid (cdOk r k = (decide (1 ≤ N) && inR k 1 12)) := Lib.hid (by rw [hN]; rfl)
  rw [← hN] at HAR
  obtain ⟨s, rfl, hs⟩ := h
  obtain ⟨A, c, rfl, _, _⟩ := hs
  have H0 := (Sep.start w).box 28 #[.int .i64 r.w, .slice A r.rows.length c]
  have HC1 := Lib.hid (HAR.out _ H0.below)
  clear hN hR ht hn
  go_enter Tryz.func19, Tryz.ntmps19
  go_wp2_with fail
  refine (HC1.out).mono ?_
  rintro e w1 ⟨rfl, b1⟩
  have H1 := H0.step b1
  clear H0 b1 HC1 HAR
  by_cases hN1 : N < 1
  · obtain rfl : R = -1 := by rw [HR.out, cdR_no (by rw [HOK.out, decide_eq_false (by omega)]; rfl)]
    have hB := H1.below
    clear H1
    go_wp2
    go_ret
    exact ⟨rfl, hB⟩
  cases hin : inR k 1 12
  · obtain rfl : R = -1 := by rw [HR.out, cdR_no (by rw [HOK.out, hin, Bool.and_false])]
    rw [hin] at hbt
    have hB := H1.below
    clear H1 hin
    go_wp2_with fail
    refine (hbt.out _).mono ?_
    rintro e w3 ⟨rfl, rfl⟩
    go_wp2
    go_ret
    exact ⟨rfl, hB⟩
  rw [hin] at hbt
  have HRR : Hid (R = cdTo r (divP r k)) := Lib.hid (by rw [HR.out, cdR_yes (by rw [HOK.out, hin, decide_eq_true (by omega)]; rfl)])
  have c0 : w1.cell? ⟨w.heap.size, 0, none⟩ = some (.int .i64 r.w) := H1.h0.cell 0
  have c1 : w1.cell? ⟨w.heap.size, 1, none⟩ = some (.slice A r.rows.length c) := H1.h0.cell 1
  have HC2 := Lib.hid (HDP.out w1 H1.below)
  clear hin HR HOK
  go_wp2_with fail
  refine (hbt.out _).mono ?_
  rintro e w2 ⟨rfl, rfl⟩
  go_wp2_with fail
  refine (HC2.out).mono ?_
  rintro e w2 ⟨vf, P, rfl, hP, HF⟩
  have H2 := Sep.join (K := [Res.row vf 42 1 P.length (P.map Prod.fst), Res.shps P]) HF H1
  simp only [List.cons_append, List.nil_append] at H2
  have HP := Lib.hid hP
  have HRW : Hid (∀ p ∈ P, p.2.length ≤ 5) := Lib.hid fun p hp => (divP_row (r := r) (k := k) (by rw [← hP]; exact List.mem_map.2 ⟨p, hp, rfl⟩)).2
  obtain ⟨m, hm⟩ : ∃ m, m = P.length := ⟨_, rfl⟩
  rw [← hm] at H2
  obtain ⟨Af, cf, hv, _, hcm, _⟩ := Res.row_at H2.h0
  have hmx : m ≤ 160000 := by have := divP_len r k; rw [← hP, List.length_map] at this; rw [hm]; exact this
  subst hv
  have HM := Lib.hid hm
  clear hP H1 HF HC2 hm hbt HDP c0 c1
  go_wp2
  go_loopw [5, 20] (fun nv iv wx => ∃ (i : Nat) (n : Int), i ≤ m ∧ iv = .int .i64 i ∧ nv = .int .i64 n ∧ Hid (n = cdTo r ((P.take i).map Prod.snd)) ∧ Sep w wx [Res.row (.slice Af m cf) 42 1 m (P.map Prod.fst), Res.shps P, Res.box w.heap.size 28 #[.int .i64 r.w, .slice A r.rows.length c]]) (fun _ iv _ => m - (intOf iv).toNat)
  case atStart => exact ⟨0, 0, Nat.zero_le _, rfl, rfl, Lib.hid rfl, H2⟩
  case round =>
    clear H2
    obtain ⟨i, n, him, rfl, rfl, HNN, H⟩ := hrel
    by_cases hlt : i < m
    · obtain ⟨p, hp⟩ : ∃ p, P[i]? = some p := ⟨P[i]'(by rw [← HM.out]; exact hlt), List.getElem?_eq_getElem _⟩
      obtain ⟨g, o, rfl⟩ : ∃ g o, Af = some ⟨g, o, none⟩ := by
        obtain ⟨g, o, c, e, _⟩ := own_shape H.h0 (by omega)
        injection e with e1
        exact ⟨g, o, e1⟩
      have x1 : wr.cell? ⟨g, o + i, none⟩ = some p.1 := own_cell H.h0 (by rw [List.getElem?_map, hp]; rfl)
      have hpm := List.mem_of_getElem? hp
      have HTK : Hid (cdTo r ((P.take (i + 1)).map Prod.snd) = wrap64 (cdTo r ((P.take i).map Prod.snd) + cntR r [p.2])) := Lib.hid (by
        rw [List.take_add_one, hp, List.map_append]; exact cdTo_snoc)
      have hsr : CellsRd wr 0 wr.heap.size p.1 p.2 := ShpsAt.rd H.h1 hpm
      have hsl := HRW.out p hpm
      have c0 : wr.cell? ⟨w.heap.size, 0, none⟩ = some (.int .i64 r.w) := H.h2.cell 0
      have c1 : wr.cell? ⟨w.heap.size, 1, none⟩ = some (.slice A r.rows.length c) := H.h2.cell 1
      obtain ⟨pv, s⟩ := p
      obtain ⟨Ap, cp, hpe, _, _⟩ := id hsr
      simp only at hpe x1 HTK hsr hsl
      subst hpe
      have H1 := H.box 42 #[.slice Ap s.length cp]
      have HC := Lib.hid (HCT.out _ _ _ s H1.below (by omega) (cells_more hsr ((Below.refl _ _).alloc (Nat.le_refl _) _)) H1.h0)
      obtain ⟨ct, hct⟩ : ∃ b, b = cntR r [s] := ⟨_, rfl⟩
      rw [← hct] at HC HTK
      obtain ⟨n2, hn2⟩ : ∃ n2, n2 = wrap64 (n + ct) := ⟨_, rfl⟩
      have hw : IntKind.i64.wrap (n + ct) = n2 := by rw [hn2]; exact IntWalk.i64_left _
      have HN2 : Hid (n2 = cdTo r ((P.take (i + 1)).map Prod.snd)) := Lib.hid (by rw [hn2, HTK.out, HNN.out])
      clear hsr hsl hpm hp H hct hn2
      go_wp2_with fail
      refine (HC.out).mono ?_
      rintro e w3 ⟨rfl, b3⟩
      have H3 := (H1.step b3).drop
      clear HC b3 H1 x1 c0 c1
      go_wp2
      go_roundw
      case rel => exact ⟨i + 1, n2, by omega, by go_num, rfl, HN2, H3⟩
      case measure => simp [intOf]; omega
    · obtain rfl : i = m := by omega
      obtain rfl : R = n := by rw [HRR.out, HNN.out, HM.out, List.take_length, HP.out]
      have hB := H.below
      go_wp2
      go_ret
      exact ⟨rfl, hB⟩
set_option maxRecDepth 100000 in
set_option maxHeartbeats 3200000 in
theorem spec_cd_c {v : Value} {r : Reg} (w : World) (h : RegRd w 0 w.heap.size v r) (k : Int) (hn : r.rows.length ≤ 1048576) :
    Calls Tryz.prog 18 #[v, .int .i64 k] w fun e w' => e = .returned (.int .i64 (cdR r k)) ∧ Below w.heap.size w w' := by
  have HRD : Hid (∀ w1, Below w.heap.size w w1 → RegRd w1 0 w1.heap.size v r) := Lib.hid fun w1 b1 => (h.keep (SameIn.of_below b1 (Nat.le_refl _))).more (Nat.le_refl _) b1.size
  have HCT : Hid (∀ w1 g x s, Below w.heap.size w w1 → s.length ≤ 1048576 → CellsRd w1 0 w1.heap.size x s → Blk w1 g 42 #[x] → Calls Tryz.prog 31 #[v, .slice (some ⟨g, 0, none⟩) 1 1] w1 fun e w' => e = .returned (.int .i64 (cntR r [s])) ∧ Below w1.heap.size w1 w') := Lib.hid fun w1 g x s b1 hs hx hbk =>
    spec_count_c (ps := [s]) w1 (HRD.out w1 b1) (one_ssR hbk hx) (by show 1 ≤ 1048576; omega) (fun t ht => by rw [List.mem_singleton] at ht; rw [ht]; exact hs) 
  have HAR : Hid (∀ w1, Below w.heap.size w w1 → Calls Tryz.prog 29 #[v] w1 fun e w' => e = .returned (.int .i64 (areaR r)) ∧ Below w1.heap.size w1 w') := Lib.hid fun w1 b1 => spec_area_c w1 (HRD.out w1 b1) hn
  have hbt : Hid (∀ w1, Calls Tryz.prog 30 #[.int .i64 k, .int .i64 1, .int .i64 12] w1 fun e w' => e = .returned (.bool (inR k 1 12)) ∧ w1 = w') := Lib.hid fun w1 => l1In_r _ _ _ _
  have HDP : Hid (∀ w1, Below w.heap.size w w1 → Calls Tryz.prog 20 #[v, .int .i64 k] w1 fun e w' => ∃ v', e = .returned v' ∧ ListAt w1 w' v' (divP r k)) := Lib.hid fun w1 b1 => spec_divP_c k w1 (HRD.out w1 b1) hn
  obtain ⟨N, hN⟩ : ∃ N, N = areaR r := ⟨_, rfl⟩
  obtain ⟨R, hR⟩ : ∃ R, R = cdR r k := ⟨_, rfl⟩
  rw [← hR]
  have HR := Lib.hid hR
  have HOK : Hid (cdOk r k = (decide (1 ≤ N) && inR k 1 12)) := Lib.hid (by rw [hN]; rfl)
  rw [← hN] at HAR
  obtain ⟨s, rfl, hs⟩ := h
  obtain ⟨A, c, rfl, _, _⟩ := hs
  have H0 := (Sep.start w).box 28 #[.int .i64 r.w, .slice A r.rows.length c]
  have HC0 := Lib.hid (HDP.out _ H0.below)
  clear hN hR hn
  go_enter Tryz.func18, Tryz.ntmps18
  go_wp2_with fail
  refine (HC0.out).mono ?_
  rintro e w1 ⟨vf, rfl, L⟩
  obtain ⟨g, cf, P, rfl, hP, HPA⟩ := L.pairs
  have HA := (H0.same L.below)
  obtain ⟨lo, hlo⟩ : ∃ lo, lo = (w.alloc (.cells #[.int .i64 r.w, .slice A r.rows.length c] 28)).heap.size := ⟨_, rfl⟩
  rw [← hlo] at HPA HA
  obtain ⟨m, hm⟩ : ∃ m, m = (divP r k).length := ⟨_, rfl⟩
  have hmx : m ≤ 160000 := by rw [hm]; exact divP_len r k
  rw [← hm] at HPA ⊢
  have HPP := Lib.hid HPA
  have HM := Lib.hid HPA.len
  have HP := Lib.hid hP
  have HRW : Hid (∀ p ∈ P, p.2.length ≤ 5) := Lib.hid fun p hp => (divP_row (r := r) (k := k) (by rw [← hP]; exact List.mem_map.2 ⟨p, hp, rfl⟩)).2
  have c0 : w1.cell? ⟨w.heap.size, 0, none⟩ = some (.int .i64 r.w) := HA.h1.cell 0
  have c1 : w1.cell? ⟨w.heap.size, 1, none⟩ = some (.slice A r.rows.length c) := HA.h1.cell 1
  have HC1 := Lib.hid (HAR.out _ HA.below)
  clear HC0 L H0 hP HPA hlo hm HDP
  go_wp2_with fail
  refine (HC1.out).mono ?_
  rintro e w2 ⟨rfl, b2⟩
  have H1 := HA.step b2
  clear b2 HC1 HAR c0 c1 HA
  by_cases hN1 : N < 1
  · obtain rfl : R = -1 := by rw [HR.out, cdR_no (by rw [HOK.out, decide_eq_false (by omega)]; rfl)]
    have hB := H1.below
    clear H1
    go_wp2
    go_ret
    exact ⟨rfl, hB⟩
  cases hin : inR k 1 12
  · obtain rfl : R = -1 := by rw [HR.out, cdR_no (by rw [HOK.out, hin, Bool.and_false])]
    rw [hin] at hbt
    have hB := H1.below
    clear H1 hin
    go_wp2_with fail
    refine (hbt.out _).mono ?_
    rintro e w3 ⟨rfl, rfl⟩
    go_wp2
    go_ret
    exact ⟨rfl, hB⟩
  rw [hin] at hbt
  have HRR : Hid (R = cdTo r (divP r k)) := Lib.hid (by rw [HR.out, cdR_yes (by rw [HOK.out, hin, decide_eq_true (by omega)]; rfl)])
  clear hin HR HOK
  go_wp2_with fail
  refine (hbt.out _).mono ?_
  rintro e w3 ⟨rfl, rfl⟩
  clear hbt
  go_wp2
  go_loopw [6, 7] (fun nv iv wx => ∃ (i : Nat) (n : Int), i ≤ m ∧ iv = .int .i64 i ∧ nv = .int .i64 n ∧ Hid (n = cdTo r ((P.take i).map Prod.snd)) ∧ Sep w wx [Res.same lo w1.heap.size w1, Res.box w.heap.size 28 #[.int .i64 r.w, .slice A r.rows.length c]]) (fun _ iv _ => m - (intOf iv).toNat)
  case atStart => exact ⟨0, 0, Nat.zero_le _, rfl, rfl, Lib.hid rfl, H1⟩
  case round =>
    clear H1
    obtain ⟨i, n, him, rfl, rfl, HNN, H⟩ := hrel
    by_cases hlt : i < m
    · obtain ⟨p, hp⟩ : ∃ p, P[i]? = some p := ⟨P[i]'(by rw [← HM.out]; exact hlt), List.getElem?_eq_getElem _⟩
      obtain ⟨hg1, hg2⟩ := HPP.out.at_ (by omega)
      have X0 := Lib.hid (HPP.out.cell i p hp)
      have hpm := List.mem_of_getElem? hp
      have HTK : Hid (cdTo r ((P.take (i + 1)).map Prod.snd) = wrap64 (cdTo r ((P.take i).map Prod.snd) + cntR r [p.2])) := Lib.hid (by
        rw [List.take_add_one, hp, List.map_append]; exact cdTo_snoc)
      have hw2 : w1.heap.size ≤ wr.heap.size := H.h0.2 (by omega)
      have hsr : CellsRd wr 0 wr.heap.size p.1 p.2 := ((HPP.out.rd p hpm).keep (same_of H.h0)).more (Nat.zero_le _) hw2
      have hsl := HRW.out p hpm
      obtain ⟨pv, s⟩ := p
      obtain ⟨Ap, cp, hpe, _, _⟩ := id hsr
      simp only at hpe HTK hsr hsl X0
      subst hpe
      have H1 := (H.box 42 #[.slice Ap s.length cp]).drew
      have HC := Lib.hid (HCT.out _ _ _ s H1.below (by omega) (cells_more hsr (below_drew ((Below.refl _ _).alloc (Nat.le_refl _) _))) H1.h0)
      obtain ⟨ct, hct⟩ : ∃ b, b = cntR r [s] := ⟨_, rfl⟩
      rw [← hct] at HC HTK
      obtain ⟨n2, hn2⟩ : ∃ n2, n2 = wrap64 (n + ct) := ⟨_, rfl⟩
      have hw : IntKind.i64.wrap (n + ct) = n2 := by rw [hn2]; exact IntWalk.i64_left _
      have HN2 : Hid (n2 = cdTo r ((P.take (i + 1)).map Prod.snd)) := Lib.hid (by rw [hn2, HTK.out, HNN.out])
      have hgw : g < wr.heap.size := by omega
      have hbw : w.heap.size < wr.heap.size := H.h1.lt
      have c0 : wr.drew.cell? ⟨w.heap.size, 0, none⟩ = some (.int .i64 r.w) := H.drew.h1.cell 0
      have c1 : wr.drew.cell? ⟨w.heap.size, 1, none⟩ = some (.slice A r.rows.length c) := H.drew.h1.cell 1
      have x1 : wr.drew.cell? ⟨g, i, none⟩ = some (.slice Ap s.length cp) := (same_cell H.drew.h0 hg1 hg2).trans X0.out
      have c0' : (wr.alloc (.cells #[.slice Ap s.length cp] 42)).drew.cell? ⟨w.heap.size, 0, none⟩ = some (.int .i64 r.w) := H1.h2.cell 0
      have c1' : (wr.alloc (.cells #[.slice Ap s.length cp] 42)).drew.cell? ⟨w.heap.size, 1, none⟩ = some (.slice A r.rows.length c) := H1.h2.cell 1
      have x1' : (wr.alloc (.cells #[.slice Ap s.length cp] 42)).drew.cell? ⟨g, i, none⟩ = some (.slice Ap s.length cp) := (same_cell H1.h1 hg1 hg2).trans X0.out
      clear hsr hsl hpm hp H hct hn2
      go_wp2_with fail
      go_region_held3 (fun w' => w'.cell? ⟨w.heap.size, 0, none⟩ = some (.int .i64 r.w) ∧ w'.cell? ⟨w.heap.size, 1, none⟩ = some (.slice A r.rows.length c) ∧ w'.cell? ⟨g, i, none⟩ = some (.slice Ap s.length cp))
        (first | ((try dsimp only); refine ⟨?_, ?_, ?_⟩ <;> assumption) | go_keep)
        ((go_at_call 31; (with_reducible refine (HC.out).mono ?_); rintro e w3 ⟨rfl, b3⟩; have H3 := (H1.step b3).drop; have d0 := H3.h1.cell 0; have d1 := H3.h1.cell 1; have y1 : w3.cell? ⟨g, i, none⟩ = some (.slice Ap s.length cp) := (same_cell H3.h0 hg1 hg2).trans X0.out; simp at d0 d1))
      clear HC b3 H1 x1 c0 c1 x1' c0' c1' d0 d1 y1
      go_wp2
      go_roundw
      case rel => exact ⟨i + 1, n2, by omega, by go_num, rfl, HN2, H3⟩
      case measure => simp [intOf]; omega
    · obtain rfl : i = m := by omega
      obtain rfl : R = n := by rw [HRR.out, HNN.out, HM.out, List.take_length, HP.out]
      have hB := H.below
      go_wp2
      go_ret
      exact ⟨rfl, hB⟩
end Go.Proofs.YtccihgifdlpkgaaGreatDoor
