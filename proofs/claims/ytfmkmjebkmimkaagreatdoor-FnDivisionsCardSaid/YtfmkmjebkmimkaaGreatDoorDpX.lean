
/-
  The shapes of which some tile a region: both walks. The shapes of which some tile a region: the reference's walk. A region divided: both walks. The numbers of parts: both walks. The numbers of parts of a region: both walks.
-/
import Derived.Test.YtfmkmjebkmimkaaGreatDoorFreY
import Derived.Test.YtfmkmjebkmimkaaGreatDoorFtS
import Derived.Test.YtfmkmjebkmimkaaGreatDoorRlX
namespace Go.Proofs.YtfmkmjebkmimkaaGreatDoor
open Go.RowKit

theorem one_ssR {w : World} {g : Nat} {x : Value} {s : List Cell} (hb : Blk w g 49 #[x]) (hx : CellsRd w 0 w.heap.size x s) : CellSSRd w 0 w.heap.size (.slice (some ⟨g, 0, none⟩) 1 1) [s] := by
  refine ⟨[x], ⟨_, _, rfl, by show 1 ≤ maxLen; decide, rfl, fun _ => ⟨g, 0, rfl, Nat.zero_le _, hb.lt, fun j u hu => ?_⟩⟩, rfl, fun i u hu => ?_⟩
  · rw [hb.cell]
    simpa using hu
  · match i, hu with
    | 0, hu => simp at hu; subst hu; exact ⟨x, rfl, hx⟩
def divOk (r : Reg) (k : Int) : Bool := (decide (1 ≤ areaR r) && inR k 1 12) && decide ((areaR r).toNat % k.toNat = 0)
def tileF (r : Reg) (s : List Cell) : Bool := findB r [s]
def divP (r : Reg) (k : Int) : List (List Cell) := if divOk r k = true then (freeS (((areaR r).toNat / k.toNat : Nat) : Int)).filter (tileF r) else []
theorem area_le (r : Reg) : -1 ≤ areaR r ∧ areaR r ≤ 36 := by
  unfold areaR
  cases hv : r.valid
  · exact ⟨by simp, by simp⟩
  · have := Reg.cells_le (Reg.valid_iff.1 hv)
    simp only [if_true]
    omega
theorem freeS_row {n : Int} {t : List Cell} (h : t ∈ freeS n) : isShape t = true ∧ t.length ≤ 5 := fixedS_row (List.mem_filter.1 h).1
theorem freeS_len {n : Int} : (freeS n).length ≤ 160000 := Nat.le_trans (List.length_filter_le _ _) fixedS_len
theorem divP_len (r : Reg) (k : Int) : (divP r k).length ≤ 160000 := by
  unfold divP
  split
  · exact Nat.le_trans (List.length_filter_le _ _) freeS_len
  · simp
theorem divP_row {r : Reg} {k : Int} {t : List Cell} (h : t ∈ divP r k) : isShape t = true ∧ t.length ≤ 5 := by
  unfold divP at h
  split at h
  · exact freeS_row (List.mem_filter.1 h).1
  · cases h
set_option maxRecDepth 100000 in
set_option maxHeartbeats 3200000 in
theorem impl_divP_c {v : Value} {r : Reg} (k : Int) (w : World) (h : RegRd w 0 w.heap.size v r) (hn : r.rows.length ≤ 1048576) (ht : Tab64 w) :
    Calls Tryz.prog 38 #[v, .int .i64 k] w fun e w' => ∃ v' P, e = .returned v' ∧ P.map Prod.snd = divP r k ∧ Sep w w' [Res.row v' 49 1 P.length (P.map Prod.fst), Res.shps P] := by
  obtain ⟨i0, hi, hz0, hz1, hz2⟩ := info_parts infoSlF
  have HRD : Hid (∀ w1, Below w.heap.size w w1 → RegRd w1 0 w1.heap.size v r) := Lib.hid fun w1 b1 => (h.keep (SameIn.of_below b1 (Nat.le_refl _))).more (Nat.le_refl _) b1.size
  have HT : Hid (∀ w1 g x s, Below w.heap.size w w1 → s.length ≤ 1048576 → CellsRd w1 0 w1.heap.size x s → Blk w1 g 49 #[x] → Calls Tryz.prog 100 #[v, .slice (some ⟨g, 0, none⟩) 1 1] w1 fun e w' => e = .returned (.bool (tileF r s)) ∧ Below w1.heap.size w1 w') := Lib.hid fun w1 g x s b1 hs hx hbk =>
    impl_hasT_c (ps := [s]) w1 (HRD.out w1 b1) (one_ssR hbk hx) (by show 1 ≤ 1048576; omega) (fun t ht => by rw [List.mem_singleton] at ht; rw [ht]; exact hs) (tab64_on ht b1)
  have HAR : Hid (∀ w1, Below w.heap.size w w1 → Calls Tryz.prog 105 #[v] w1 fun e w' => e = .returned (.int .i64 (areaR r)) ∧ Below w1.heap.size w1 w') := Lib.hid fun w1 b1 => impl_area_c w1 (HRD.out w1 b1) hn
  have hbt : Hid (∀ w1, Calls Tryz.prog 106 #[.int .i64 k, .int .i64 1, .int .i64 12] w1 fun e w' => e = .returned (.bool (inR k 1 12)) ∧ w1 = w') := Lib.hid fun w1 => between_r _ _ _ _
  have hal := area_le r
  obtain ⟨N, hN⟩ : ∃ N, N = areaR r := ⟨_, rfl⟩
  obtain ⟨D, hD⟩ : ∃ D, D = divP r k := ⟨_, rfl⟩
  have HD0 : Hid (divOk r k = false → D = []) := Lib.hid fun h => by rw [hD, divP, h]; rfl
  have HD1 : Hid (divOk r k = true → D = (freeS ((N.toNat / k.toNat : Nat) : Int)).filter (tileF r)) := Lib.hid fun h => by rw [hD, divP, h, hN]; rfl
  have HOK : Hid (divOk r k = ((decide (1 ≤ N) && inR k 1 12) && decide (N.toNat % k.toNat = 0))) := Lib.hid (by rw [hN]; rfl)
  rw [← hN] at hal HAR
  rw [← hD]
  obtain ⟨s, rfl, hs⟩ := h
  obtain ⟨A, c, rfl, _, _⟩ := hs
  have H0 := (Sep.start w).box 29 #[.int .i64 r.w, .slice A r.rows.length c]
  have HC1 := Lib.hid (HAR.out _ H0.below)
  clear hN hD ht hn
  go_enter Tryz.func38, Tryz.ntmps38
  go_wp2_with fail
  refine (HC1.out).mono ?_
  rintro e w1 ⟨rfl, b1⟩
  have H1 := H0.step b1
  clear H0 b1 HC1 HAR
  by_cases hN1 : N < 1
  · obtain rfl : D = [] := HD0.out (by rw [HOK.out, decide_eq_false (by omega)]; rfl)
    have HNL := (H1.drop.shpsNil).nil 49 1
    clear H1
    go_wp2
    go_ret
    exact ⟨_, [], rfl, rfl, HNL⟩
  cases hin : inR k 1 12
  · obtain rfl : D = [] := HD0.out (by rw [HOK.out, hin, Bool.and_false]; rfl)
    rw [hin] at hbt
    have HNL := (H1.drop.shpsNil).nil 49 1
    clear H1 hin
    go_wp2_with fail
    refine (hbt.out _).mono ?_
    rintro e w2 ⟨rfl, rfl⟩
    go_wp2
    go_ret
    exact ⟨_, [], rfl, rfl, HNL⟩
  have hk := inR_iff.1 hin
  rw [hin] at hbt
  obtain ⟨Nn, rfl⟩ : ∃ n : Nat, N = (n : Int) := ⟨N.toNat, by omega⟩
  obtain ⟨K, rfl⟩ : ∃ n : Nat, k = (n : Int) := ⟨k.toNat, by omega⟩
  have hrem : Int.tmod (Nn : Int) (K : Int) = ((Nn % K : Nat) : Int) := Int.ofNat_tmod Nn K
  have hquo : Int.tdiv (Nn : Int) (K : Int) = ((Nn / K : Nat) : Int) := Int.ofNat_tdiv Nn K
  have hql : Nn / K ≤ 36 := Nat.le_trans (Nat.div_le_self _ _) (by omega)
  obtain ⟨q, hq⟩ : ∃ q, q = Nn / K := ⟨_, rfl⟩
  rw [← hq] at hquo hql
  have hquo2 : IntKind.i64.wrap (Int.tdiv (Nn : Int) (K : Int)) = (q : Int) := by rw [hquo]; exact IntWalk.i64_in _ (by omega)
  have hK0 : ¬ (K : Int) = 0 := by omega
  have hK1 : 1 ≤ K := by omega
  have hN1i : ¬ (Nn : Int) < 1 := hN1
  by_cases hmod : Nn % K = 0
  · have HDD : Hid (D = (freeS (q : Int)).filter (tileF r)) := Lib.hid (by
      rw [HD1.out (by rw [HOK.out, hin, decide_eq_true (by omega)]; simp [hmod]), hq]; rfl)
    rw [hmod] at hrem
    have HC2 := Lib.hid (freeI_c (q : Int) w1)
    clear hin hk hq HD0 HD1 HOK
    go_wp2_with fail
    refine (hbt.out _).mono ?_
    rintro e w2 ⟨rfl, rfl⟩
    go_wp2_with fail
    refine (HC2.out).mono ?_
    rintro e w2 ⟨vf, P, rfl, hP, HF⟩
    have H2 := Sep.join (K := [Res.row vf 49 1 P.length (P.map Prod.fst), Res.shps P]) HF H1
    simp only [List.cons_append, List.nil_append] at H2
    have HP := Lib.hid hP
    have HR : Hid (∀ p ∈ P, isShape p.2 = true ∧ p.2.length ≤ 5) := Lib.hid fun p hp => freeS_row (n := (q : Int)) (by rw [← hP]; exact List.mem_map.2 ⟨p, hp, rfl⟩)
    have hm16 : P.length ≤ 160000 := by have := freeS_len (n := (q : Int)); rw [← hP, List.length_map] at this; exact this
    obtain ⟨m, hm⟩ : ∃ m, m = P.length := ⟨_, rfl⟩
    rw [← hm] at H2 hm16
    obtain ⟨Af, cf, hv, _⟩ := Res.row_at H2.h0
    subst hv
    have HM := Lib.hid hm
    have H3 := H2.nil 49 1
    clear hP H1 H2 HF HC2 hm hrem hquo hquo2 hK0 hbt
    go_wp2
    go_loopw [6, 29] (fun ov iv wx => ∃ (i q : Nat), i ≤ m ∧ iv = .int .i64 i ∧ Hid (q = ((P.take i).filter fun p => tileF r p.2).length) ∧ q ≤ i ∧ Sep w wx [Res.row ov 49 1 q (((P.take i).filter fun p => tileF r p.2).map Prod.fst), Res.row (.slice Af m cf) 49 1 m (P.map Prod.fst), Res.shps P, Res.box w.heap.size 29 #[.int .i64 r.w, .slice A r.rows.length c]]) (fun _ iv _ => m - (intOf iv).toNat)
    case atStart => exact ⟨0, 0, Nat.zero_le _, rfl, Lib.hid rfl, Nat.le_refl _, H3⟩
    case round =>
      clear H3
      obtain ⟨i, q, him, rfl, HQ, hqi, H⟩ := hrel
      by_cases hlt : i < m
      · obtain ⟨p, hp⟩ : ∃ p, P[i]? = some p := ⟨P[i]'(by rw [← HM.out]; exact hlt), List.getElem?_eq_getElem _⟩
        obtain ⟨g, o, rfl⟩ : ∃ g o, Af = some ⟨g, o, none⟩ := by
          obtain ⟨g, o, c, e, _⟩ := own_shape H.h1 (by omega)
          injection e with e1
          exact ⟨g, o, e1⟩
        have x1 : wr.cell? ⟨g, o + i, none⟩ = some p.1 := own_cell H.h1 (by rw [List.getElem?_map, hp]; rfl)
        have HPM := Lib.hid (List.mem_of_getElem? hp)
        have HST : Hid ((P.take (i + 1)).filter (fun p => tileF r p.2) = (P.take i).filter (fun p => tileF r p.2) ++ if tileF r p.2 = true then [p] else []) := Lib.hid (pfilter_snoc hp)
        have hsr : CellsRd wr 0 wr.heap.size p.1 p.2 := ShpsAt.rd H.h2 HPM.out
        have hsh := HR.out p HPM.out
        have c0 : wr.cell? ⟨w.heap.size, 0, none⟩ = some (.int .i64 r.w) := H.h3.cell 0
        have c1 : wr.cell? ⟨w.heap.size, 1, none⟩ = some (.slice A r.rows.length c) := H.h3.cell 1
        obtain ⟨pv, s⟩ := p
        obtain ⟨Ap, cp, hpe, _, _⟩ := id hsr
        simp only at hpe x1 hsh HST hsr
        subst hpe
        have H1 := H.box 49 #[.slice Ap s.length cp]
        have HC := Lib.hid (HT.out _ _ _ s H1.below (by omega) (cells_more hsr ((Below.refl _ _).alloc (Nat.le_refl _) _)) H1.h0)
        obtain ⟨tf, htf⟩ : ∃ b, b = tileF r s := ⟨_, rfl⟩
        rw [← htf] at HC
        have HTF := Lib.hid htf
        clear hsr hsh hp H htf
        go_wp2_with fail
        refine (HC.out).mono ?_
        rintro e w3 ⟨rfl, b3⟩
        have H3 := (H1.step b3).drop
        clear HC b3 H1 x1 c0 c1
        cases tf
        · have hst := HST.out
          rw [← HTF.out] at hst
          simp only [Bool.false_eq_true, if_false, List.append_nil] at hst
          have HS := Lib.hid hst
          have HQ2 : Hid (q = ((P.take (i + 1)).filter fun p => tileF r p.2).length) := Lib.hid (by rw [HS.out]; exact HQ.out)
          rw [← HS.out] at H3
          clear hst
          go_wp2
          go_roundw
          case rel => exact ⟨i + 1, q, by omega, by go_num, HQ2, by omega, H3⟩
          case measure => simp [intOf]; omega
        · have hst := HST.out
          rw [← HTF.out] at hst
          simp only [if_true] at hst
          have HS := Lib.hid hst
          clear hst
          go_wp2_with (at_builtin; refine wpList_app rfl _ _ 31 rfl 49 i0 _ 1 24 Tryz.underlying31 hi hz0 hz1 hz2 rfl (by decide) _ _ _ rfl (H3.alloc _) _ _ _ [.slice Ap s.length cp] rfl (Rd.fresh w3 49 #[.slice Ap s.length cp] 1 1 rfl) (ocv2 rfl) (by unfold maxLen; omega) (by omega) ?_; intro v4 w4 H4)
          have HQ2 : Hid (q + 1 = ((P.take (i + 1)).filter fun p => tileF r p.2).length) := Lib.hid (by rw [HS.out, List.length_append, ← HQ.out]; rfl)
          have H5 : Sep w w4 [Res.row v4 49 1 (q + 1) (((P.take (i + 1)).filter fun p => tileF r p.2).map Prod.fst), Res.row (.slice (some ⟨g, o, none⟩) m cf) 49 1 m (P.map Prod.fst), Res.shps P, Res.box w.heap.size 29 #[.int .i64 r.w, .slice A r.rows.length c]] := by
            rw [HS.out, List.map_append]; exact H4
          clear H4 H3
          go_wp2
          go_roundw
          case rel => exact ⟨i + 1, q + 1, by omega, by go_num, HQ2, by omega, H5⟩
          case measure => simp [intOf]; omega
      · obtain rfl : i = m := by omega
        have hq := HQ.out
        have htk : P.take i = P := by rw [HM.out, List.take_length]
        rw [htk] at hq H
        have HF : Hid ((P.filter fun p => tileF r p.2).map Prod.snd = D) := Lib.hid (by rw [pfilter, HP.out, HDD.out])
        have H5 := ((H.drop2.g1.shpsSub (List.filter_sublist (p := fun p => tileF r p.2))).g1.g2).drop
        clear H htk
        go_wp2
        go_ret
        subst hq
        exact ⟨_, _, rfl, HF.out, H5⟩
  · obtain rfl : D = [] := HD0.out (by rw [HOK.out]; simp [hmod])
    obtain ⟨t, htt⟩ : ∃ t, t = Nn % K := ⟨_, rfl⟩
    rw [← htt] at hmod hrem
    have hmodi : ¬ (t : Int) = 0 := by omega
    have hmodb : ((t : Int) != 0) = true := by simp; omega
    have HNL := (H1.drop.shpsNil).nil 49 1
    clear H1 hin hk htt hq
    go_wp2_with fail
    refine (hbt.out _).mono ?_
    rintro e w2 ⟨rfl, rfl⟩
    go_wp2
    go_ret
    exact ⟨_, [], rfl, rfl, HNL⟩
end Go.Proofs.YtfmkmjebkmimkaaGreatDoor

namespace Go.Proofs.YtfmkmjebkmimkaaGreatDoor
open Go.RowKit

set_option maxRecDepth 100000 in
set_option maxHeartbeats 3200000 in
theorem spec_divP_c {v : Value} {r : Reg} (k : Int) (w : World) (h : RegRd w 0 w.heap.size v r) (hn : r.rows.length ≤ 1048576) :
    Calls Tryz.prog 40 #[v, .int .i64 k] w fun e w' => ∃ v', e = .returned v' ∧ ListAt w w' v' (divP r k) := by
  obtain ⟨i0, hi, hz0, hz1, hz2⟩ := info_parts infoSlF
  have HRD : Hid (∀ w1, Below w.heap.size w w1 → RegRd w1 0 w1.heap.size v r) := Lib.hid fun w1 b1 => (h.keep (SameIn.of_below b1 (Nat.le_refl _))).more (Nat.le_refl _) b1.size
  have HT : Hid (∀ w1 g x s, Below w.heap.size w w1 → s.length ≤ 1048576 → CellsRd w1 0 w1.heap.size x s → Blk w1 g 49 #[x] → Calls Tryz.prog 103 #[v, .slice (some ⟨g, 0, none⟩) 1 1] w1 fun e w' => e = .returned (.bool (tileF r s)) ∧ Below w1.heap.size w1 w') := Lib.hid fun w1 g x s b1 hs hx hbk =>
    spec_hasT_c (ps := [s]) w1 (HRD.out w1 b1) (one_ssR hbk hx) (by show 1 ≤ 1048576; omega) (fun t ht => by rw [List.mem_singleton] at ht; rw [ht]; exact hs)
  have HAR : Hid (∀ w1, Below w.heap.size w w1 → Calls Tryz.prog 47 #[v] w1 fun e w' => e = .returned (.int .i64 (areaR r)) ∧ Below w1.heap.size w1 w') := Lib.hid fun w1 b1 => spec_area_c w1 (HRD.out w1 b1) hn
  have hbt : Hid (∀ w1, Calls Tryz.prog 95 #[.int .i64 k, .int .i64 1, .int .i64 12] w1 fun e w' => e = .returned (.bool (inR k 1 12)) ∧ w1 = w') := Lib.hid fun w1 => l1In_r _ _ _ _
  have hal := area_le r
  obtain ⟨N, hN⟩ : ∃ N, N = areaR r := ⟨_, rfl⟩
  obtain ⟨D, hD⟩ : ∃ D, D = divP r k := ⟨_, rfl⟩
  have HD0 : Hid (divOk r k = false → D = []) := Lib.hid fun h => by rw [hD, divP, h]; rfl
  have HD1 : Hid (divOk r k = true → D = (freeS ((N.toNat / k.toNat : Nat) : Int)).filter (tileF r)) := Lib.hid fun h => by rw [hD, divP, h, hN]; rfl
  have HOK : Hid (divOk r k = ((decide (1 ≤ N) && inR k 1 12) && decide (N.toNat % k.toNat = 0))) := Lib.hid (by rw [hN]; rfl)
  rw [← hN] at hal HAR
  rw [← hD]
  obtain ⟨s, rfl, hs⟩ := h
  obtain ⟨A, c, rfl, _, _⟩ := hs
  have H0 := ((Sep.start w).box 29 #[.int .i64 r.w, .slice A r.rows.length c]).rowBox 49 #[] 1 0 rfl (by decide)
  have LN := list_nil (((Below.refl w.heap.size w).alloc (Nat.le_refl _) (.cells #[.int .i64 r.w, .slice A r.rows.length c] 29)))
  simp only [World.size_alloc] at H0 LN
  have cc0 : ((w.alloc (.cells #[.int .i64 r.w, .slice A r.rows.length c] 29)).alloc (.cells #[] 49)).cell? ⟨w.heap.size, 0, none⟩ = some (.int .i64 r.w) := H0.h1.cell 0
  have cc1 : ((w.alloc (.cells #[.int .i64 r.w, .slice A r.rows.length c] 29)).alloc (.cells #[] 49)).cell? ⟨w.heap.size, 1, none⟩ = some (.slice A r.rows.length c) := H0.h1.cell 1
  have HC1 := Lib.hid (HAR.out _ H0.below)
  clear hN hD hn
  go_enter Tryz.func40, Tryz.ntmps40
  go_wp2_with fail
  refine (HC1.out).mono ?_
  rintro e w1 ⟨rfl, b1⟩
  have H1 := H0.step b1
  have LN1 := LN.step b1
  clear H0 b1 HC1 HAR LN cc0 cc1
  by_cases hN1 : N < 1
  · obtain rfl : D = [] := HD0.out (by rw [HOK.out, decide_eq_false (by omega)]; rfl)
    clear H1
    go_wp2
    go_ret
    exact ⟨_, rfl, LN1⟩
  cases hin : inR k 1 12
  · obtain rfl : D = [] := HD0.out (by rw [HOK.out, hin, Bool.and_false]; rfl)
    rw [hin] at hbt
    clear H1 hin
    go_wp2_with fail
    refine (hbt.out _).mono ?_
    rintro e w2 ⟨rfl, rfl⟩
    go_wp2
    go_ret
    exact ⟨_, rfl, LN1⟩
  have hk := inR_iff.1 hin
  rw [hin] at hbt
  obtain ⟨Nn, rfl⟩ : ∃ n : Nat, N = (n : Int) := ⟨N.toNat, by omega⟩
  obtain ⟨K, rfl⟩ : ∃ n : Nat, k = (n : Int) := ⟨k.toNat, by omega⟩
  have hrem : Int.tmod (Nn : Int) (K : Int) = ((Nn % K : Nat) : Int) := Int.ofNat_tmod Nn K
  have hquo : Int.tdiv (Nn : Int) (K : Int) = ((Nn / K : Nat) : Int) := Int.ofNat_tdiv Nn K
  have hql : Nn / K ≤ 36 := Nat.le_trans (Nat.div_le_self _ _) (by omega)
  obtain ⟨q, hq⟩ : ∃ q, q = Nn / K := ⟨_, rfl⟩
  rw [← hq] at hquo hql
  have hquo2 : IntKind.i64.wrap (Int.tdiv (Nn : Int) (K : Int)) = (q : Int) := by rw [hquo]; exact IntWalk.i64_in _ (by omega)
  have hK0 : ¬ (K : Int) = 0 := by omega
  have hK1 : 1 ≤ K := by omega
  have hN1i : ¬ (Nn : Int) < 1 := hN1
  by_cases hmod : Nn % K = 0
  · have HDD : Hid (D = (freeS (q : Int)).filter (tileF r)) := Lib.hid (by
      rw [HD1.out (by rw [HOK.out, hin, decide_eq_true (by omega)]; simp [hmod]), hq]; rfl)
    rw [hmod] at hrem
    have HC2 := Lib.hid (freeSp_c (q : Int) w1)
    clear hin hk hq HD0 HD1 HOK LN1
    go_wp2_with fail
    refine (hbt.out _).mono ?_
    rintro e w2 ⟨rfl, rfl⟩
    go_wp2_with fail
    refine (HC2.out).mono ?_
    rintro e w2 ⟨vf, rfl, L⟩
    obtain ⟨g, cf, P, rfl, hP, HPA⟩ := L.pairs
    have H2 := (H1.same L.below).g1.p1.g1
    obtain ⟨lo, hlo⟩ : ∃ lo, lo = w1.heap.size := ⟨_, rfl⟩
    have hlow : w.heap.size ≤ lo := by rw [hlo]; exact H1.below.size
    rw [← hlo] at HPA H2
    have HP := Lib.hid hP
    have HPP := Lib.hid HPA
    obtain ⟨m, hm⟩ : ∃ m, m = (freeS (q : Int)).length := ⟨_, rfl⟩
    have hm16 : m ≤ 160000 := by rw [hm]; exact freeS_len
    rw [← hm] at HPP ⊢
    have HM := Lib.hid HPP.out.len
    have HR : Hid (∀ p ∈ P, isShape p.2 = true ∧ p.2.length ≤ 5) := Lib.hid fun p hp => freeS_row (n := (q : Int)) (by rw [← hP]; exact List.mem_map.2 ⟨p, hp, rfl⟩)
    have H3 : Sep w w2 [Res.row (.slice (some ⟨w.heap.size + 1, 0, none⟩) 0 0) 49 1 0 [], Res.same lo w2.heap.size w2, Res.box w.heap.size 29 #[.int .i64 r.w, .slice A r.rows.length c]] := H2
    clear hP H1 H2 L HC2 hm hrem hquo hquo2 hK0 hbt hlo HPA
    go_wp2
    go_loopw [5, 8] (fun ov iv wx => ∃ (i q go co : Nat), i ≤ m ∧ iv = .int .i64 i ∧ ov = .slice (some ⟨go, 0, none⟩) q co ∧ Hid (q = ((P.take i).filter fun p => tileF r p.2).length) ∧ q ≤ i ∧ Sep w wx [Res.row (.slice (some ⟨go, 0, none⟩) q co) 49 1 q (((P.take i).filter fun p => tileF r p.2).map Prod.fst), Res.same lo w2.heap.size w2, Res.box w.heap.size 29 #[.int .i64 r.w, .slice A r.rows.length c]]) (fun _ iv _ => m - (intOf iv).toNat)
    case atStart => exact ⟨0, 0, _, _, Nat.zero_le _, rfl, rfl, Lib.hid rfl, Nat.le_refl _, H3⟩
    case round =>
      clear H3
      obtain ⟨i, q, go, co, him, rfl, rfl, HQ, hqi, H⟩ := hrel
      by_cases hlt : i < m
      · obtain ⟨p, hp⟩ : ∃ p, P[i]? = some p := ⟨P[i]'(by rw [← HM.out]; exact hlt), List.getElem?_eq_getElem _⟩
        obtain ⟨hg1, hg2⟩ := HPP.out.at_ (by omega)
        have X0 := Lib.hid (HPP.out.cell i p hp)
        have HPM := Lib.hid (List.mem_of_getElem? hp)
        have HST : Hid ((P.take (i + 1)).filter (fun p => tileF r p.2) = (P.take i).filter (fun p => tileF r p.2) ++ if tileF r p.2 = true then [p] else []) := Lib.hid (pfilter_snoc hp)
        have hw2 : w2.heap.size ≤ wr.heap.size := H.h1.2 (by omega)
        have hsr : CellsRd wr 0 wr.heap.size p.1 p.2 := ((HPP.out.rd p HPM.out).keep (same_of H.h1)).more (Nat.zero_le _) hw2
        have hsh := HR.out p HPM.out
        obtain ⟨pv, s⟩ := p
        obtain ⟨Ap, cp, hpe, _, _⟩ := id hsr
        simp only at hpe hsh HST hsr X0
        subst hpe
        have H1 := (H.box 49 #[.slice Ap s.length cp]).drew
        have HC := Lib.hid (HT.out _ _ _ s H1.below (by omega) (cells_more hsr (below_drew ((Below.refl _ _).alloc (Nat.le_refl _) _))) H1.h0)
        obtain ⟨tf, htf⟩ : ∃ b, b = tileF r s := ⟨_, rfl⟩
        rw [← htf] at HC
        have HTF := Lib.hid htf
        have hgw : g < wr.heap.size := by omega
        have hbw : w.heap.size < wr.heap.size := H.h2.lt
        have c0 : wr.drew.cell? ⟨w.heap.size, 0, none⟩ = some (.int .i64 r.w) := H.drew.h2.cell 0
        have c1 : wr.drew.cell? ⟨w.heap.size, 1, none⟩ = some (.slice A r.rows.length c) := H.drew.h2.cell 1
        have x1 : wr.drew.cell? ⟨g, i, none⟩ = some (.slice Ap s.length cp) := (same_cell H.drew.h1 hg1 hg2).trans X0.out
        have c0' : (wr.alloc (.cells #[.slice Ap s.length cp] 49)).drew.cell? ⟨w.heap.size, 0, none⟩ = some (.int .i64 r.w) := H1.h3.cell 0
        have c1' : (wr.alloc (.cells #[.slice Ap s.length cp] 49)).drew.cell? ⟨w.heap.size, 1, none⟩ = some (.slice A r.rows.length c) := H1.h3.cell 1
        have x1' : (wr.alloc (.cells #[.slice Ap s.length cp] 49)).drew.cell? ⟨g, i, none⟩ = some (.slice Ap s.length cp) := (same_cell H1.h2 hg1 hg2).trans X0.out
        clear hsr hsh hp H htf
        go_wp2_with fail
        go_region_held3 (fun w' => w'.cell? ⟨w.heap.size, 0, none⟩ = some (.int .i64 r.w) ∧ w'.cell? ⟨w.heap.size, 1, none⟩ = some (.slice A r.rows.length c) ∧ w'.cell? ⟨g, i, none⟩ = some (.slice Ap s.length cp))
          (first | ((try dsimp only); refine ⟨?_, ?_, ?_⟩ <;> assumption) | go_keep)
          ((go_at_call 103; (with_reducible refine (HC.out).mono ?_); rintro e w3 ⟨rfl, b3⟩; have H3 := (H1.step b3).drop; have d0 := H3.h2.cell 0; have d1 := H3.h2.cell 1; have y1 : w3.cell? ⟨g, i, none⟩ = some (.slice Ap s.length cp) := (same_cell H3.h1 hg1 hg2).trans X0.out; simp at d0 d1))
        clear HC b3 H1 x1 c0 c1 x1' c0' c1' d0 d1
        cases tf
        · have hst := HST.out
          rw [← HTF.out] at hst
          simp only [Bool.false_eq_true, if_false, List.append_nil] at hst
          have HS := Lib.hid hst
          have HQ2 : Hid (q = ((P.take (i + 1)).filter fun p => tileF r p.2).length) := Lib.hid (by rw [HS.out]; exact HQ.out)
          rw [← HS.out] at H3
          clear hst y1
          go_wp2
          go_roundw
          case rel => exact ⟨i + 1, q, go, co, by omega, by go_num, rfl, HQ2, by omega, H3⟩
          case measure => simp [intOf]; omega
        · have hst := HST.out
          rw [← HTF.out] at hst
          simp only [if_true] at hst
          have HS := Lib.hid hst
          clear hst
          go_wp2_with (at_builtin; refine wpList_app rfl _ _ 31 rfl 49 i0 _ 1 24 Tryz.underlying31 hi hz0 hz1 hz2 rfl (by decide) _ _ _ rfl (H3.alloc _) _ _ _ [.slice Ap s.length cp] rfl (Rd.fresh w3 49 #[.slice Ap s.length cp] 1 1 rfl) (ocv2 rfl) (by unfold maxLen; omega) (by omega) ?_; intro v4 w4 H4)
          have HQ2 : Hid (q + 1 = ((P.take (i + 1)).filter fun p => tileF r p.2).length) := Lib.hid (by rw [HS.out, List.length_append, ← HQ.out]; rfl)
          have H5 : Sep w w4 [Res.row v4 49 1 (q + 1) (((P.take (i + 1)).filter fun p => tileF r p.2).map Prod.fst), Res.same lo w2.heap.size w2, Res.box w.heap.size 29 #[.int .i64 r.w, .slice A r.rows.length c]] := by
            rw [HS.out, List.map_append]; exact H4
          obtain ⟨g4, o4, c4, e4, _, _, _⟩ := own_shape H5.h0 (Nat.succ_pos _)
          subst e4
          obtain ⟨rfl, _⟩ := own_blk H5.h0
          clear H4 H3 y1
          go_wp2
          go_roundw
          case rel => exact ⟨i + 1, q + 1, g4, c4, by omega, by go_num, rfl, HQ2, by omega, H5⟩
          case measure => simp [intOf]; omega
      · obtain rfl : i = m := by omega
        have hq := HQ.out
        have htk : P.take i = P := by rw [HM.out, List.take_length]
        rw [htk] at hq H
        obtain ⟨Q, hQ⟩ : ∃ Q, Q = P.filter fun p => tileF r p.2 := ⟨_, rfl⟩
        have HF : Hid (Q.map Prod.snd = D) := Lib.hid (by rw [hQ, pfilter, HP.out, HDD.out])
        have hsame := same_of H.h1
        have hw2 : i = 0 ∨ w2.heap.size ≤ wr.heap.size := by
          rcases Nat.eq_zero_or_pos i with h0 | h0
          · exact .inl h0
          · have := HPP.out.at_ h0
            exact .inr (H.h1.2 (by omega))
        have ho := H.oi
        have hbel := H.below
        rw [← hQ] at hq ho
        have HL : Hid (ListAt w wr (.slice (some ⟨go, 0, none⟩) q co) D) := Lib.hid (by
          rw [← HF.out]
          have hlen : (Q.map Prod.snd).length = q := by rw [List.length_map, hq]
          refine list_mk (M := Q.map Prod.snd) (vs := Q.map Prod.fst) (by rw [hlen]; exact ho) (fun h => by cases h) (slots_of fun p hp => ?_) hbel
          rw [hQ] at hp
          have hpm := (List.mem_filter.1 hp).1
          rcases hw2 with h0 | h0
          · have h1 := HM.out
            rw [h0] at h1
            rw [List.eq_nil_of_length_eq_zero h1.symm] at hpm
            cases hpm
          · exact ((HPP.out.rd p hpm).keep hsame).more hlow h0)
        clear hsame hw2 H hq htk ho hbel hQ
        go_wp2
        go_ret
        exact ⟨_, rfl, HL.out⟩
  · obtain rfl : D = [] := HD0.out (by rw [HOK.out]; simp [hmod])
    obtain ⟨t, htt⟩ : ∃ t, t = Nn % K := ⟨_, rfl⟩
    rw [← htt] at hmod hrem
    have hmodi : ¬ (t : Int) = 0 := by omega
    have hmodb : ((t : Int) != 0) = true := by simp; omega
    clear H1 hin hk htt hq
    go_wp2_with fail
    refine (hbt.out _).mono ?_
    rintro e w2 ⟨rfl, rfl⟩
    go_wp2
    go_ret
    exact ⟨_, rfl, LN1⟩
end Go.Proofs.YtfmkmjebkmimkaaGreatDoor

namespace Go.Proofs.YtfmkmjebkmimkaaGreatDoor
open Go.RowKit

set_option maxRecDepth 100000 in
theorem infoIntD : (Tryz.prog.info? 3).map (fun i => (i.zero, i.size, i.bytes)) = some (some (.int .i64 0), 1, 8) := by kernel_rfl
def divL (r : Reg) (k : Int) : List Int := match divP r k with
  | [] => []
  | s :: _ => nl (findL r [s])
def divB (r : Reg) (k : Int) : Bool := match divP r k with
  | [] => false
  | s :: _ => findB r [s]
theorem div_no {r : Reg} {k : Int} (h : divP r k = []) : divL r k = [] ∧ divB r k = false := by unfold divL divB; rw [h]; exact ⟨rfl, rfl⟩
theorem div_yes {r : Reg} {k : Int} {s : List Cell} {M : List (List Cell)} (h : divP r k = s :: M) : divL r k = nl (findL r [s]) ∧ divB r k = findB r [s] := by unfold divL divB; rw [h]; exact ⟨rfl, rfl⟩
set_option maxRecDepth 100000 in
set_option maxHeartbeats 1600000 in
theorem impl_into_c {v : Value} {r : Reg} (w : World) (h : RegRd w 0 w.heap.size v r) (k : Int) (hn : r.rows.length ≤ 1048576) (ht : Tab64 w) :
    Calls Tryz.prog 36 #[v, .int .i64 k] w fun e w' => ∃ v', e = .returned (.tuple #[v', .bool (divB r k)]) ∧ IntsIn w' w.heap.size w'.heap.size v' (divL r k) ∧ Below w.heap.size w w' := by
  have HRD : Hid (∀ w1, Below w.heap.size w w1 → RegRd w1 0 w1.heap.size v r) := Lib.hid fun w1 b1 => (h.keep (SameIn.of_below b1 (Nat.le_refl _))).more (Nat.le_refl _) b1.size
  have HFT : Hid (∀ w1 g x s, Below w.heap.size w w1 → s.length ≤ 1048576 → CellsRd w1 0 w1.heap.size x s → Blk w1 g 49 #[x] → Calls Tryz.prog 93 #[v, .slice (some ⟨g, 0, none⟩) 1 1] w1 fun e w' => ∃ v', e = .returned (.tuple #[v', .bool (findB r [s])]) ∧ IntsIn w' w1.heap.size w'.heap.size v' (nl (findL r [s])) ∧ Below w1.heap.size w1 w') := Lib.hid fun w1 g x s b1 hs hx hbk =>
    impl_find_c (ps := [s]) w1 (HRD.out w1 b1) (one_ssR hbk hx) (by show 1 ≤ 1048576; omega) (fun t ht => by rw [List.mem_singleton] at ht; rw [ht]; exact hs) (tab64_on ht b1)
  have HDP : Hid (∀ w1, Below w.heap.size w w1 → Calls Tryz.prog 38 #[v, .int .i64 k] w1 fun e w' => ∃ v' P, e = .returned v' ∧ Hid (P.map Prod.snd = divP r k) ∧ (∃ g c, (P = [] → v' = .slice (some ⟨g, 0, none⟩) 0 c ∨ v' = .slice none 0 0) ∧ (P ≠ [] → v' = .slice (some ⟨g, 0, none⟩) P.length c ∧ g < w'.heap.size ∧ ∀ p, P[0]? = some p → w'.cell? ⟨g, 0, none⟩ = some p.1 ∧ CellsRd w' 0 w'.heap.size p.1 p.2)) ∧ Below w1.heap.size w1 w') := Lib.hid fun w1 b1 => by
    refine (impl_divP_c k w1 (HRD.out w1 b1) hn (tab64_on ht b1)).mono ?_
    rintro e w' ⟨v', P, rfl, hP, H⟩
    have H' : Sep w1 w' [Res.row v' 49 1 P.length (P.map Prod.fst), Res.shps P] := H
    refine ⟨v', P, rfl, Lib.hid hP, ?_, H'.below⟩
    by_cases h0 : P = []
    · subst h0
      obtain ⟨A, c, e, _⟩ := Res.row_at H'.h0
      rcases H'.h0.2 with ⟨e2, _⟩ | ⟨g, cap, cur, e2, _⟩
      · exact ⟨0, 0, fun _ => .inr e2, fun h => absurd rfl h⟩
      · exact ⟨g, cap, fun _ => .inl e2, fun h => absurd rfl h⟩
    · have hpos : 0 < P.length := List.length_pos_iff.2 h0
      obtain ⟨g, o, c, e, _, _, hg⟩ := own_shape H'.h0 hpos
      subst e
      obtain ⟨rfl, _⟩ := own_blk H'.h0
      refine ⟨g, c, fun h => absurd h h0, fun _ => ⟨rfl, hg, fun p hp => ⟨?_, ShpsAt.rd H'.h1 (List.mem_of_getElem? hp)⟩⟩⟩
      have := own_cell H'.h0 (j := 0) (u := p.1) (by rw [List.getElem?_map, hp]; rfl)
      rwa [Nat.zero_add] at this
  obtain ⟨BL, hBL⟩ : ∃ BL, BL = divL r k := ⟨_, rfl⟩
  obtain ⟨BB, hBB⟩ : ∃ BB, BB = divB r k := ⟨_, rfl⟩
  rw [← hBL, ← hBB]
  have HBL := Lib.hid hBL
  have HBB := Lib.hid hBB
  obtain ⟨s, rfl, hs⟩ := h
  obtain ⟨A, c, rfl, _, _⟩ := hs
  have H0 := (Sep.start w).box 29 #[.int .i64 r.w, .slice A r.rows.length c]
  have HC1 := Lib.hid (HDP.out _ H0.below)
  clear hBL hBB ht hn
  go_enter Tryz.func36, Tryz.ntmps36
  go_wp2_with fail
  refine (HC1.out).mono ?_
  rintro e w1 ⟨vp, P, rfl, HP, ⟨g, cp, h1, h2⟩, b1⟩
  have H1 := H0.step b1
  clear H0 b1 HC1 HDP
  match P, HP, h1, h2 with
  | [], HP, h1, _ =>
    have hno := div_no (r := r) (k := k) HP.out.symm
    obtain rfl : BL = [] := by rw [HBL.out]; exact hno.1
    obtain rfl : BB = false := by rw [HBB.out]; exact hno.2
    clear hno h2
    rcases h1 rfl with rfl | rfl
    all_goals
      clear h1
      have hB := H1.below
      clear H1
      go_wp2
      exact bodyPost_ret (results_tmp2 rfl _ _ _) rfl ⟨_, rfl, IntsIn.nil, hB⟩
  | p :: P, HP, _, h2 =>
    obtain ⟨rfl, hg, hp0⟩ := h2 (by simp)
    obtain ⟨x0, xr⟩ := hp0 p rfl
    have hyes := div_yes (r := r) (k := k) (s := p.2) (M := P.map Prod.snd) HP.out.symm
    have hrow : p.2.length ≤ 5 := (divP_row (r := r) (k := k) (by rw [← HP.out]; exact List.mem_cons_self)).2
    obtain ⟨Ap, ca, hpe, _, _⟩ := id xr
    rw [hpe] at x0 xr
    have H2 := (H1.box 49 #[.slice Ap p.2.length ca]).drew
    have HC2 := Lib.hid (HFT.out _ _ _ p.2 H2.below (by omega) (cells_more xr (below_drew ((Below.refl _ _).alloc (Nat.le_refl _) _))) H2.h0)
    rw [← hyes.1, ← hyes.2, ← HBL.out, ← HBB.out] at HC2
    have HX := Lib.hid x0
    have hlen : ((((p :: P).length : Nat) : Int) == 0) = false := by simp; omega
    have hlen1 : 0 < (p :: P).length := by simp
    obtain ⟨m, hm⟩ : ∃ m, m = (p :: P).length := ⟨_, rfl⟩
    rw [← hm] at hlen hlen1 ⊢
    have hbw : w.heap.size < w1.heap.size := H1.h0.lt
    have c0 : w1.drew.cell? ⟨w.heap.size, 0, none⟩ = some (.int .i64 r.w) := H1.drew.h0.cell 0
    have c1 : w1.drew.cell? ⟨w.heap.size, 1, none⟩ = some (.slice A r.rows.length c) := H1.drew.h0.cell 1
    have x1 : w1.drew.cell? ⟨g, 0, none⟩ = some (.slice Ap p.2.length ca) := x0
    have B2 : Below w1.heap.size w1 (w1.alloc (.cells #[.slice Ap p.2.length ca] 49)).drew := below_drew ((Below.refl _ _).alloc (Nat.le_refl _) _)
    have c0' : (w1.alloc (.cells #[.slice Ap p.2.length ca] 49)).drew.cell? ⟨w.heap.size, 0, none⟩ = some (.int .i64 r.w) := H2.h1.cell 0
    have c1' : (w1.alloc (.cells #[.slice Ap p.2.length ca] 49)).drew.cell? ⟨w.heap.size, 1, none⟩ = some (.slice A r.rows.length c) := H2.h1.cell 1
    have x1' : (w1.alloc (.cells #[.slice Ap p.2.length ca] 49)).drew.cell? ⟨g, 0, none⟩ = some (.slice Ap p.2.length ca) := (B2.cell (p := ⟨g, 0, none⟩) hg).trans x0
    clear h2 hp0 xr hyes hpe hm x0
    go_wp2_with fail
    go_region_held3 (fun w' => w'.cell? ⟨w.heap.size, 0, none⟩ = some (.int .i64 r.w) ∧ w'.cell? ⟨w.heap.size, 1, none⟩ = some (.slice A r.rows.length c) ∧ w'.cell? ⟨g, 0, none⟩ = some (.slice Ap p.2.length ca))
      (first | ((try dsimp only); refine ⟨?_, ?_, ?_⟩ <;> assumption) | go_keep)
      ((go_at_call 93; (with_reducible refine (HC2.out).mono ?_); rintro e w3 ⟨v3, rfl, o3, b3⟩; have H3 := H2.step b3; have d0 := H3.h1.cell 0; have d1 := H3.h1.cell 1; have B3 := B2.trans (b3.mono B2.size); have y1 : w3.cell? ⟨g, 0, none⟩ = some (.slice Ap p.2.length ca) := (B3.cell (p := ⟨g, 0, none⟩) hg).trans HX.out; simp at d0 d1))
    have HO : Hid (IntsIn w3 w.heap.size w3.heap.size v3 BL) := Lib.hid (OI.base o3 H2.below.size (Nat.le_refl _))
    have HB3 := Lib.hid H3.below
    obtain ⟨A3, c3, rfl, _, _⟩ := o3.rd
    clear o3 b3 H3 H2 H1 x1 c0 c1 x1' c0' c1' d0 d1 y1 B2 B3 HC2
    go_wp2
    exact bodyPost_ret (results_tmp2 rfl _ _ _) rfl ⟨_, rfl, HO.out, HB3.out⟩
set_option maxRecDepth 100000 in
set_option maxHeartbeats 1600000 in
theorem spec_into_c {v : Value} {r : Reg} (w : World) (h : RegRd w 0 w.heap.size v r) (k : Int) (hn : r.rows.length ≤ 1048576)  :
    Calls Tryz.prog 37 #[v, .int .i64 k] w fun e w' => ∃ v', e = .returned (.tuple #[v', .bool (divB r k)]) ∧ IntsIn w' w.heap.size w'.heap.size v' (divL r k) ∧ Below w.heap.size w w' := by
  have HRD : Hid (∀ w1, Below w.heap.size w w1 → RegRd w1 0 w1.heap.size v r) := Lib.hid fun w1 b1 => (h.keep (SameIn.of_below b1 (Nat.le_refl _))).more (Nat.le_refl _) b1.size
  have HFT : Hid (∀ w1 g x s, Below w.heap.size w w1 → s.length ≤ 1048576 → CellsRd w1 0 w1.heap.size x s → Blk w1 g 49 #[x] → Calls Tryz.prog 94 #[v, .slice (some ⟨g, 0, none⟩) 1 1] w1 fun e w' => ∃ v', e = .returned (.tuple #[v', .bool (findB r [s])]) ∧ IntsIn w' w1.heap.size w'.heap.size v' (nl (findL r [s])) ∧ Below w1.heap.size w1 w') := Lib.hid fun w1 g x s b1 hs hx hbk =>
    spec_find_c (ps := [s]) w1 (HRD.out w1 b1) (one_ssR hbk hx) (by show 1 ≤ 1048576; omega) (fun t ht => by rw [List.mem_singleton] at ht; rw [ht]; exact hs) 
  have HDP : Hid (∀ w1, Below w.heap.size w w1 → Calls Tryz.prog 40 #[v, .int .i64 k] w1 fun e w' => ∃ v' P, e = .returned v' ∧ Hid (P.map Prod.snd = divP r k) ∧ (∃ g c, (P = [] → v' = .slice (some ⟨g, 0, none⟩) 0 c ∨ v' = .slice none 0 0) ∧ (P ≠ [] → v' = .slice (some ⟨g, 0, none⟩) P.length c ∧ g < w'.heap.size ∧ ∀ p, P[0]? = some p → w'.cell? ⟨g, 0, none⟩ = some p.1 ∧ CellsRd w' 0 w'.heap.size p.1 p.2)) ∧ Below w1.heap.size w1 w') := Lib.hid fun w1 b1 => by
    refine (spec_divP_c k w1 (HRD.out w1 b1) hn ).mono ?_
    rintro e w' ⟨v', rfl, L⟩
    obtain ⟨g, c, P, rfl, hP, HPA⟩ := L.pairs
    refine ⟨_, P, rfl, Lib.hid hP, ⟨g, c, fun h => ?_, fun h => ⟨by rw [HPA.len], (HPA.at_ (by rw [HPA.len]; exact List.length_pos_iff.2 h)).2, fun p hp => ⟨HPA.cell 0 p hp, (HPA.rd p (List.mem_of_getElem? hp)).more (Nat.zero_le _) (Nat.le_refl _)⟩⟩⟩, L.below⟩
    left
    rw [HPA.len, h]; rfl
  obtain ⟨BL, hBL⟩ : ∃ BL, BL = divL r k := ⟨_, rfl⟩
  obtain ⟨BB, hBB⟩ : ∃ BB, BB = divB r k := ⟨_, rfl⟩
  rw [← hBL, ← hBB]
  have HBL := Lib.hid hBL
  have HBB := Lib.hid hBB
  obtain ⟨s, rfl, hs⟩ := h
  obtain ⟨A, c, rfl, _, _⟩ := hs
  have H0 := (Sep.start w).box 29 #[.int .i64 r.w, .slice A r.rows.length c]
  have HC1 := Lib.hid (HDP.out _ H0.below)
  clear hBL hBB  hn
  go_enter Tryz.func37, Tryz.ntmps37
  go_wp2_with fail
  refine (HC1.out).mono ?_
  rintro e w1 ⟨vp, P, rfl, HP, ⟨g, cp, h1, h2⟩, b1⟩
  have H1 := H0.step b1
  clear H0 b1 HC1 HDP
  match P, HP, h1, h2 with
  | [], HP, h1, _ =>
    have hno := div_no (r := r) (k := k) HP.out.symm
    obtain rfl : BL = [] := by rw [HBL.out]; exact hno.1
    obtain rfl : BB = false := by rw [HBB.out]; exact hno.2
    clear hno h2
    rcases h1 rfl with rfl | rfl
    all_goals
      clear h1
      have HR := H1.rowBox 3 #[] 1 0 rfl (by decide)
      clear H1
      go_wp2
      exact bodyPost_ret (results_tmp2 rfl _ _ _) rfl ⟨_, rfl, HR.oi, HR.below⟩
  | p :: P, HP, _, h2 =>
    obtain ⟨rfl, hg, hp0⟩ := h2 (by simp)
    obtain ⟨x0, xr⟩ := hp0 p rfl
    have hyes := div_yes (r := r) (k := k) (s := p.2) (M := P.map Prod.snd) HP.out.symm
    have hrow : p.2.length ≤ 5 := (divP_row (r := r) (k := k) (by rw [← HP.out]; exact List.mem_cons_self)).2
    obtain ⟨Ap, ca, hpe, _, _⟩ := id xr
    rw [hpe] at x0 xr
    have H2 := (H1.box 49 #[.slice Ap p.2.length ca]).drew
    have HC2 := Lib.hid (HFT.out _ _ _ p.2 H2.below (by omega) (cells_more xr (below_drew ((Below.refl _ _).alloc (Nat.le_refl _) _))) H2.h0)
    rw [← hyes.1, ← hyes.2, ← HBL.out, ← HBB.out] at HC2
    have HX := Lib.hid x0
    have hlen : ((((p :: P).length : Nat) : Int) == 0) = false := by simp; omega
    have hlen1 : 0 < (p :: P).length := by simp
    obtain ⟨m, hm⟩ : ∃ m, m = (p :: P).length := ⟨_, rfl⟩
    rw [← hm] at hlen hlen1 ⊢
    have hbw : w.heap.size < w1.heap.size := H1.h0.lt
    have c0 : w1.drew.cell? ⟨w.heap.size, 0, none⟩ = some (.int .i64 r.w) := H1.drew.h0.cell 0
    have c1 : w1.drew.cell? ⟨w.heap.size, 1, none⟩ = some (.slice A r.rows.length c) := H1.drew.h0.cell 1
    have x1 : w1.drew.cell? ⟨g, 0, none⟩ = some (.slice Ap p.2.length ca) := x0
    have B2 : Below w1.heap.size w1 (w1.alloc (.cells #[.slice Ap p.2.length ca] 49)).drew := below_drew ((Below.refl _ _).alloc (Nat.le_refl _) _)
    have c0' : (w1.alloc (.cells #[.slice Ap p.2.length ca] 49)).drew.cell? ⟨w.heap.size, 0, none⟩ = some (.int .i64 r.w) := H2.h1.cell 0
    have c1' : (w1.alloc (.cells #[.slice Ap p.2.length ca] 49)).drew.cell? ⟨w.heap.size, 1, none⟩ = some (.slice A r.rows.length c) := H2.h1.cell 1
    have x1' : (w1.alloc (.cells #[.slice Ap p.2.length ca] 49)).drew.cell? ⟨g, 0, none⟩ = some (.slice Ap p.2.length ca) := (B2.cell (p := ⟨g, 0, none⟩) hg).trans x0
    clear h2 hp0 xr hyes hpe hm x0
    go_wp2_with fail
    go_region_held3 (fun w' => w'.cell? ⟨w.heap.size, 0, none⟩ = some (.int .i64 r.w) ∧ w'.cell? ⟨w.heap.size, 1, none⟩ = some (.slice A r.rows.length c) ∧ w'.cell? ⟨g, 0, none⟩ = some (.slice Ap p.2.length ca))
      (first | ((try dsimp only); refine ⟨?_, ?_, ?_⟩ <;> assumption) | go_keep)
      ((go_at_call 94; (with_reducible refine (HC2.out).mono ?_); rintro e w3 ⟨v3, rfl, o3, b3⟩; have H3 := H2.step b3; have d0 := H3.h1.cell 0; have d1 := H3.h1.cell 1; have B3 := B2.trans (b3.mono B2.size); have y1 : w3.cell? ⟨g, 0, none⟩ = some (.slice Ap p.2.length ca) := (B3.cell (p := ⟨g, 0, none⟩) hg).trans HX.out; simp at d0 d1))
    have HO : Hid (IntsIn w3 w.heap.size w3.heap.size v3 BL) := Lib.hid (OI.base o3 H2.below.size (Nat.le_refl _))
    have HB3 := Lib.hid H3.below
    obtain ⟨A3, c3, rfl, _, _⟩ := o3.rd
    clear o3 b3 H3 H2 H1 x1 c0 c1 x1' c0' c1' d0 d1 y1 B2 B3 HC2
    go_wp2
    exact bodyPost_ret (results_tmp2 rfl _ _ _) rfl ⟨_, rfl, HO.out, HB3.out⟩
end Go.Proofs.YtfmkmjebkmimkaaGreatDoor

namespace Go.Proofs.YtfmkmjebkmimkaaGreatDoor
open Go.RowKit

def divsTo (r : Reg) (k : Nat) : List Int := ((List.range k).filter fun j => !(divP r ((j + 1 : Nat) : Int)).isEmpty).map fun j => ((j + 1 : Nat) : Int)
def divs (r : Reg) : List Int := divsTo r 12
theorem divsTo_no {r : Reg} {k : Nat} (h : divP r ((k + 1 : Nat) : Int) = []) : divsTo r (k + 1) = divsTo r k := by
  unfold divsTo
  have h2 : (!(divP r ((k + 1 : Nat) : Int)).isEmpty) = false := by rw [h]; rfl
  rw [List.range_succ, List.filter_append]
  simp only [List.filter_cons, h2, Bool.false_eq_true, if_false, List.filter_nil, List.append_nil]
theorem divsTo_yes {r : Reg} {k : Nat} (h : divP r ((k + 1 : Nat) : Int) ≠ []) : divsTo r (k + 1) = divsTo r k ++ [((k + 1 : Nat) : Int)] := by
  unfold divsTo
  rw [List.range_succ, List.filter_append]
  have : (!(divP r ((k + 1 : Nat) : Int)).isEmpty) = true := by simpa using h
  simp only [List.filter_cons, this, if_true, List.filter_nil, List.map_append, List.map_cons, List.map_nil]
theorem divsTo_len {r : Reg} {k : Nat} : (divsTo r k).length ≤ k := by
  unfold divsTo
  rw [List.length_map]
  exact Nat.le_trans (List.length_filter_le _ _) (by simp)
set_option maxRecDepth 100000 in
set_option maxHeartbeats 1600000 in
theorem impl_divs_c {v : Value} {r : Reg} (w : World) (h : RegRd w 0 w.heap.size v r) (hn : r.rows.length ≤ 1048576) (ht : Tab64 w) :
    Calls Tryz.prog 45 #[v] w fun e w' => ∃ v', e = .returned v' ∧ IntsIn w' w.heap.size w'.heap.size v' (divs r) ∧ Below w.heap.size w w' := by
  obtain ⟨i0, hi, hz0, hz1, hz2⟩ := info_parts infoIntD
  have HRD : Hid (∀ w1, Below w.heap.size w w1 → RegRd w1 0 w1.heap.size v r) := Lib.hid fun w1 b1 => (h.keep (SameIn.of_below b1 (Nat.le_refl _))).more (Nat.le_refl _) b1.size
  have HDP : Hid (∀ (k : Int) w1, Below w.heap.size w w1 → Calls Tryz.prog 38 #[v, .int .i64 k] w1 fun e w' => ∃ A c, e = .returned (.slice A (divP r k).length c) ∧ Below w1.heap.size w1 w') := Lib.hid fun k w1 b1 => by
    refine (impl_divP_c k w1 (HRD.out w1 b1) hn (tab64_on ht b1)).mono ?_
    rintro e w' ⟨v', P, rfl, hP, H⟩
    have H' : Sep w1 w' [Res.row v' 49 1 P.length (P.map Prod.fst), Res.shps P] := H
    obtain ⟨A, c, e, _⟩ := Res.row_at H'.h0
    exact ⟨A, c, by rw [e, ← hP, List.length_map], H'.below⟩
  have HLN : Hid (∀ k, (divP r k).length ≤ 160000) := Lib.hid fun k => divP_len r k
  obtain ⟨s, rfl, hs⟩ := h
  obtain ⟨A, c, rfl, _, _⟩ := hs
  have H0 := ((Sep.start w).box 29 #[.int .i64 r.w, .slice A r.rows.length c]).nil 3 1
  try simp only [World.size_alloc] at H0
  clear ht hn
  go_enter Tryz.func45, Tryz.ntmps45
  go_wp2
  go_loopw [3, 4] (fun ov kv wx => ∃ k : Nat, k ≤ 12 ∧ kv = .int .i64 ((k + 1 : Nat) : Int) ∧ Sep w wx [Res.row ov 3 1 (divsTo r k).length (ic (divsTo r k)), Res.box w.heap.size 29 #[.int .i64 r.w, .slice A r.rows.length c]]) (fun _ kv _ => 13 - (intOf kv).toNat)
  case atStart => exact ⟨0, Nat.zero_le _, rfl, H0⟩
  case round =>
    clear H0
    obtain ⟨k, hk, rfl, H⟩ := hrel
    by_cases hlt : k < 12
    · obtain ⟨k1, hk1⟩ : ∃ k1, k1 = k + 1 := ⟨_, rfl⟩
      have hlti : (k1 : Int) ≤ 12 := by omega
      have hlti2 : k1 ≤ 12 := by omega
      have HC := Lib.hid (HDP.out ((k1 : Nat) : Int) wr H.below)
      have c0 : wr.cell? ⟨w.heap.size, 0, none⟩ = some (.int .i64 r.w) := H.h1.cell 0
      have c1 : wr.cell? ⟨w.heap.size, 1, none⟩ = some (.slice A r.rows.length c) := H.h1.cell 1
      have hll := divsTo_len (r := r) (k := k)
      rw [← hk1]
      have HNO : Hid (divP r (k1 : Int) = [] → divsTo r (k + 1) = divsTo r k) := Lib.hid fun h => divsTo_no (by rw [← hk1]; exact h)
      have HYS : Hid (divP r (k1 : Int) ≠ [] → divsTo r (k + 1) = divsTo r k ++ [(k1 : Int)]) := Lib.hid fun h => by rw [hk1]; exact divsTo_yes (by rw [← hk1]; exact h)
      have HK1 := Lib.hid hk1
      have hk1b : 1 ≤ k1 := by omega
      clear hk1
      go_wp2_with fail
      refine (HC.out).mono ?_
      rintro e w2 ⟨Ad, cd, rfl, b2⟩
      have H2 := H.step b2
      obtain ⟨D, hD⟩ : ∃ D, D = divP r (k1 : Int) := ⟨_, rfl⟩
      have hDl := HLN.out (k1 : Int)
      rw [← hD] at HNO HYS hDl ⊢
      clear HC b2 H c0 c1 hD
      by_cases hD0 : D = []
      · subst hD0
        have hst := HNO.out rfl
        rw [← hst] at H2
        clear hst HNO HYS
        go_wp2
        go_roundw
        case rel => exact ⟨k + 1, by omega, by rw [← HK1.out]; go_num, H2⟩
        case measure => have := HK1.out; simp [intOf]; omega
      · have hst := Lib.hid (HYS.out hD0)
        have hpos : 0 < D.length := List.length_pos_iff.2 hD0
        obtain ⟨dl, hdl⟩ : ∃ dl, dl = D.length := ⟨_, rfl⟩
        rw [← hdl] at hpos hDl ⊢
        have hposi : (0 : Int) < (dl : Int) := by omega
        clear HNO HYS hD0 hdl
        go_wp2_with (at_builtin; refine wpList_app rfl _ _ 22 rfl 3 i0 _ 1 8 Tryz.underlying22 hi hz0 hz1 hz2 rfl (by decide) _ _ _ rfl (H2.alloc _) _ _ _ [.int .i64 (k1 : Int)] rfl (Rd.fresh w2 3 #[.int .i64 (k1 : Int)] 1 1 rfl) oc1 (by unfold maxLen; omega) (by omega) ?_; intro v4 w4 H4)
        have H5 : Sep w w4 [Res.row v4 3 1 (divsTo r (k + 1)).length (ic (divsTo r (k + 1))), Res.box w.heap.size 29 #[.int .i64 r.w, .slice A r.rows.length c]] := by
          rw [hst.out, ic_append, List.length_append]; exact H4
        clear H4 H2
        go_wp2
        go_roundw
        case rel => exact ⟨k + 1, by omega, by rw [← HK1.out]; go_num, H5⟩
        case measure => have := HK1.out; simp [intOf]; omega
    · obtain rfl : k = 12 := by omega
      go_wp2
      go_ret
      exact ⟨_, rfl, IntsIn.mk H.oi.1 rfl rfl, H.below⟩
set_option maxRecDepth 100000 in
set_option maxHeartbeats 1600000 in
theorem spec_divs_c {v : Value} {r : Reg} (w : World) (h : RegRd w 0 w.heap.size v r) (hn : r.rows.length ≤ 1048576)  :
    Calls Tryz.prog 46 #[v] w fun e w' => ∃ v', e = .returned v' ∧ IntsIn w' w.heap.size w'.heap.size v' (divs r) ∧ Below w.heap.size w w' := by
  obtain ⟨i0, hi, hz0, hz1, hz2⟩ := info_parts infoIntD
  have HRD : Hid (∀ w1, Below w.heap.size w w1 → RegRd w1 0 w1.heap.size v r) := Lib.hid fun w1 b1 => (h.keep (SameIn.of_below b1 (Nat.le_refl _))).more (Nat.le_refl _) b1.size
  have HDP : Hid (∀ (k : Int) w1, Below w.heap.size w w1 → Calls Tryz.prog 40 #[v, .int .i64 k] w1 fun e w' => ∃ A c, e = .returned (.slice A (divP r k).length c) ∧ Below w1.heap.size w1 w') := Lib.hid fun k w1 b1 => by
    refine (spec_divP_c k w1 (HRD.out w1 b1) hn ).mono ?_
    rintro e w' ⟨v', rfl, L⟩
    obtain ⟨g, c, e⟩ := L.shape
    exact ⟨_, c, by rw [e], L.below⟩
  have HLN : Hid (∀ k, (divP r k).length ≤ 160000) := Lib.hid fun k => divP_len r k
  obtain ⟨s, rfl, hs⟩ := h
  obtain ⟨A, c, rfl, _, _⟩ := hs
  have H0 := ((Sep.start w).box 29 #[.int .i64 r.w, .slice A r.rows.length c]).rowBox 3 #[] 1 0 rfl (by decide)
  try simp only [World.size_alloc] at H0
  clear  hn
  go_enter Tryz.func46, Tryz.ntmps46
  go_wp2
  go_loopw [3, 4] (fun ov kv wx => ∃ k : Nat, k ≤ 12 ∧ kv = .int .i64 ((k + 1 : Nat) : Int) ∧ Sep w wx [Res.row ov 3 1 (divsTo r k).length (ic (divsTo r k)), Res.box w.heap.size 29 #[.int .i64 r.w, .slice A r.rows.length c]]) (fun _ kv _ => 13 - (intOf kv).toNat)
  case atStart => exact ⟨0, Nat.zero_le _, rfl, H0⟩
  case round =>
    clear H0
    obtain ⟨k, hk, rfl, H⟩ := hrel
    by_cases hlt : k < 12
    · obtain ⟨k1, hk1⟩ : ∃ k1, k1 = k + 1 := ⟨_, rfl⟩
      have hlti : (k1 : Int) ≤ 12 := by omega
      have hlti2 : k1 ≤ 12 := by omega
      have HC := Lib.hid (HDP.out ((k1 : Nat) : Int) wr H.below)
      have c0 : wr.cell? ⟨w.heap.size, 0, none⟩ = some (.int .i64 r.w) := H.h1.cell 0
      have c1 : wr.cell? ⟨w.heap.size, 1, none⟩ = some (.slice A r.rows.length c) := H.h1.cell 1
      have hll := divsTo_len (r := r) (k := k)
      rw [← hk1]
      have HNO : Hid (divP r (k1 : Int) = [] → divsTo r (k + 1) = divsTo r k) := Lib.hid fun h => divsTo_no (by rw [← hk1]; exact h)
      have HYS : Hid (divP r (k1 : Int) ≠ [] → divsTo r (k + 1) = divsTo r k ++ [(k1 : Int)]) := Lib.hid fun h => by rw [hk1]; exact divsTo_yes (by rw [← hk1]; exact h)
      have HK1 := Lib.hid hk1
      have hk1b : 1 ≤ k1 := by omega
      clear hk1
      go_wp2_with fail
      refine (HC.out).mono ?_
      rintro e w2 ⟨Ad, cd, rfl, b2⟩
      have H2 := H.step b2
      obtain ⟨D, hD⟩ : ∃ D, D = divP r (k1 : Int) := ⟨_, rfl⟩
      have hDl := HLN.out (k1 : Int)
      rw [← hD] at HNO HYS hDl ⊢
      clear HC b2 H c0 c1 hD
      by_cases hD0 : D = []
      · subst hD0
        have hst := HNO.out rfl
        rw [← hst] at H2
        clear hst HNO HYS
        go_wp2
        go_roundw
        case rel => exact ⟨k + 1, by omega, by rw [← HK1.out]; go_num, H2⟩
        case measure => have := HK1.out; simp [intOf]; omega
      · have hst := Lib.hid (HYS.out hD0)
        have hpos : 0 < D.length := List.length_pos_iff.2 hD0
        obtain ⟨dl, hdl⟩ : ∃ dl, dl = D.length := ⟨_, rfl⟩
        rw [← hdl] at hpos hDl ⊢
        have hposi : (0 : Int) < (dl : Int) := by omega
        clear HNO HYS hD0 hdl
        go_wp2_with (at_builtin; refine wpList_app rfl _ _ 22 rfl 3 i0 _ 1 8 Tryz.underlying22 hi hz0 hz1 hz2 rfl (by decide) _ _ _ rfl (H2.alloc _) _ _ _ [.int .i64 (k1 : Int)] rfl (Rd.fresh w2 3 #[.int .i64 (k1 : Int)] 1 1 rfl) oc1 (by unfold maxLen; omega) (by omega) ?_; intro v4 w4 H4)
        have H5 : Sep w w4 [Res.row v4 3 1 (divsTo r (k + 1)).length (ic (divsTo r (k + 1))), Res.box w.heap.size 29 #[.int .i64 r.w, .slice A r.rows.length c]] := by
          rw [hst.out, ic_append, List.length_append]; exact H4
        clear H4 H2
        go_wp2
        go_roundw
        case rel => exact ⟨k + 1, by omega, by rw [← HK1.out]; go_num, H5⟩
        case measure => have := HK1.out; simp [intOf]; omega
    · obtain rfl : k = 12 := by omega
      go_wp2
      go_ret
      exact ⟨_, rfl, IntsIn.mk H.oi.1 rfl rfl, H.below⟩
end Go.Proofs.YtfmkmjebkmimkaaGreatDoor
