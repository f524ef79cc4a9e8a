
/-
  The least rectangle that two shapes tile: the program's walk. The least rectangle that two shapes tile: the reference's walk. Is there a rectangle that both shapes tile, and how great is the least? Both walks.
-/
import Derived.Test.YtelneohlpljblaaGreatDoorRctX
namespace Go.Proofs.YtelneohlpljblaaGreatDoor
open Go.RowKit

set_option maxRecDepth 100000 in
set_option maxHeartbeats 1600000 in
theorem impl_comRect_c {va vb : Value} {a b : List Cell} (w : World) (ha : CellsRd w 0 w.heap.size va a) (hb : CellsRd w 0 w.heap.size vb b) (hla : a.length ≤ 1048576) (hlb : b.length ≤ 1048576) (ht : Tab64 w) :
    Calls Tryz.prog 19 #[va, vb] w fun e w' => e = .returned (.tuple #[.int .i64 (p1 (comL a b) : Nat), .int .i64 (p2 (comL a b) : Nat), .bool (comL a b).isSome]) ∧ Below w.heap.size w w' := by
  obtain ⟨i0, hi, hz0, hz1, hz2⟩ := info_parts infoRowT
  have HRB := Lib.hid (impl_rects_c w hb hlb ht)
  have HRA : Hid (∀ w1, Below w.heap.size w w1 → Calls Tryz.prog 47 #[va] w1 fun e w' => ∃ u vs, e = .returned u ∧ Sep w1 w' [Res.row u 23 1 (rectsT a).length vs, Res.rows vs (rowsP (rectsT a))]) := Lib.hid fun w1 b1 => impl_rects_c w1 (cells_keep ha b1) hla (tab64_on ht b1)
  have HLE : Hid (∀ (v : Value) (w1 : World), IntSSRd w1 0 w1.heap.size v (rowsP (comP a b)) → Calls Tryz.prog 49 #[v] w1 fun e w' => e = .returned (.tuple #[.int .i64 (p1 (comL a b) : Nat), .int .i64 (p2 (comL a b) : Nat), .bool (comL a b).isSome]) ∧ Below w1.heap.size w1 w') := Lib.hid fun v w1 h => least_c w1 h comP_up (fun p hp => pairsN_le p (comP_mem hp)) comP_len
  obtain ⟨P1, hP1⟩ : ∃ k, k = p1 (comL a b) := ⟨_, rfl⟩
  obtain ⟨P2, hP2⟩ : ∃ k, k = p2 (comL a b) := ⟨_, rfl⟩
  obtain ⟨PB, hPB⟩ : ∃ k, k = (comL a b).isSome := ⟨_, rfl⟩
  rw [← hP1, ← hP2, ← hPB] at HLE ⊢
  obtain ⟨f, hf⟩ : ∃ f, f = tilesB b := ⟨_, rfl⟩
  obtain ⟨LA, hLA⟩ : ∃ L, L = rectsT a := ⟨_, rfl⟩
  obtain ⟨LB, hLB⟩ : ∃ L, L = rectsT b := ⟨_, rfl⟩
  have HMET : Hid (∀ p ∈ LA, LB.filter (fun q => decide (p = q)) = if f p then [p] else []) := Lib.hid fun p hp => by
    rw [hLB, hf]
    rw [hLA] at hp
    exact met_rects (rectsT_mem.1 hp).1
  have HCP : Hid (comP a b = LA.filter f) := Lib.hid (by rw [hLA, hf]; rfl)
  have HNA : Hid LA.Nodup := Lib.hid (by rw [hLA]; exact rectsT_nodup)
  have HNB : Hid LB.Nodup := Lib.hid (by rw [hLB]; exact rectsT_nodup)
  have hA15 : LA.length ≤ 15 := by rw [hLA]; exact Nat.le_trans (List.length_filter_le _ _) (by decide)
  have hB15 : LB.length ≤ 15 := by rw [hLB]; exact Nat.le_trans (List.length_filter_le _ _) (by decide)
  rw [← hLA] at HRA
  rw [← hLB] at HRB
  obtain ⟨A1, c1, rfl, _, _⟩ := ha
  obtain ⟨A2, c2, rfl, _, _⟩ := hb
  clear hP1 hP2 hPB hf hLA hLB ht hla hlb
  go_enter Tryz.func19, Tryz.ntmps19
  go_wp2_with fail
  refine (HRB.out).mono ?_
  rintro e w1 ⟨ub, vb', rfl, H1⟩
  obtain ⟨fb, rfl⟩ := as_map HNB.out (by have := RowsAt.len H1.h1; rwa [rowsP_len] at this)
  obtain ⟨B, cB, rfl, _, _, _⟩ := Res.row_at H1.h0
  have HC2 := Lib.hid (HRA.out _ H1.below)
  clear HRA HRB
  go_wp2_with fail
  refine (HC2.out).mono ?_
  rintro e w2 ⟨ua, va', rfl, H2⟩
  obtain ⟨fa, rfl⟩ := as_map HNA.out (by have := RowsAt.len H2.h1; rwa [rowsP_len] at this)
  obtain ⟨A, cA, rfl, _, _, _⟩ := Res.row_at H2.h0
  have H3 := (H2.join H1).nil 23 1
  obtain ⟨nA, hnA⟩ : ∃ n, n = LA.length := ⟨_, rfl⟩
  obtain ⟨nB, hnB⟩ : ∃ n, n = LB.length := ⟨_, rfl⟩
  simp only [List.cons_append, List.nil_append] at H3
  rw [← hnA] at H3 hA15 ⊢
  rw [← hnB] at H3 hB15 ⊢
  have HNL := Lib.hid hnA
  have HNM := Lib.hid hnB
  clear HC2 H1 H2 hnA hnB
  go_wp2
  go_loopw [7, 18] (fun lv iv wx => ∃ (i n : Nat) (K : List (Nat × Nat)), i ≤ nA ∧ iv = .int .i64 i ∧ Hid (K = (LA.take i).filter f) ∧ n = K.length ∧ n ≤ i ∧ Sep w wx [Res.row lv 23 1 n (K.map fa), Res.row (.slice A nA cA) 23 1 nA (LA.map fa), Res.rows (LA.map fa) (rowsP LA), Res.row (.slice B nB cB) 23 1 nB (LB.map fb), Res.rows (LB.map fb) (rowsP LB)]) (fun _ iv _ => nA - (intOf iv).toNat)
  case atStart => exact ⟨0, 0, [], Nat.zero_le _, rfl, Lib.hid rfl, rfl, Nat.le_refl _, H3⟩
  case round =>
    clear H3
    obtain ⟨i, n, K, hi', rfl, HK, hnK, hni, H⟩ := hrel
    by_cases hlt : i < nA
    · obtain ⟨p, hp⟩ : ∃ p, LA[i]? = some p := ⟨LA[i]'(by rw [← HNL.out]; exact hlt), List.getElem?_eq_getElem _⟩
      obtain ⟨gA, oA, rfl⟩ : ∃ g o, A = some ⟨g, o, none⟩ := by
        obtain ⟨g, o, c, e, _⟩ := own_shape H.h1 (by omega)
        injection e with e1
        exact ⟨g, o, e1⟩
      have x1 : wr.cell? ⟨gA, oA + i, none⟩ = some (fa p) := own_cell H.h1 (by rw [List.getElem?_map, hp]; rfl)
      obtain ⟨pv, hpv⟩ : ∃ v, v = fa p := ⟨_, rfl⟩
      rw [← hpv] at x1
      have hown := rows_own H.h2 (List.mem_of_getElem? hp)
      rw [← hpv] at hown
      obtain ⟨Ap, cp, rfl, _, _, _⟩ := own_rd hown
      have HPV := Lib.hid hpv
      have HP := Lib.hid hp
      have HPM := Lib.hid (List.mem_of_getElem? hp)
      clear hown hpv hp
      go_wp2
      clear x1
      go_loopw [7, 24] (fun lv kv wx => ∃ (k n : Nat) (J : List (Nat × Nat)), k ≤ nB ∧ kv = .int .i64 k ∧ Hid (J = K ++ (LB.take k).filter (fun q => decide (p = q))) ∧ n = J.length ∧ n ≤ i + k ∧ Sep w wx [Res.row lv 23 1 n (J.map fa), Res.row (.slice (some ⟨gA, oA, none⟩) nA cA) 23 1 nA (LA.map fa), Res.rows (LA.map fa) (rowsP LA), Res.row (.slice B nB cB) 23 1 nB (LB.map fb), Res.rows (LB.map fb) (rowsP LB)]) (fun _ kv _ => nB - (intOf kv).toNat)
      case atStart => exact ⟨0, n, K, Nat.zero_le _, rfl, Lib.hid (by simp), hnK, hni, H⟩
      case round =>
        clear H hnK hni
        obtain ⟨k, m, J, hk, rfl, HJ, hmJ, hmk, H⟩ := hrel
        by_cases hltk : k < nB
        · obtain ⟨q, hq⟩ : ∃ q, LB[k]? = some q := ⟨LB[k]'(by rw [← HNM.out]; exact hltk), List.getElem?_eq_getElem _⟩
          obtain ⟨gB, oB, rfl⟩ : ∃ g o, B = some ⟨g, o, none⟩ := by
            obtain ⟨g, o, c, e, _⟩ := own_shape H.h3 (by omega)
            injection e with e1
            exact ⟨g, o, e1⟩
          have x1 : wr.cell? ⟨gB, oB + k, none⟩ = some (fb q) := own_cell H.h3 (by rw [List.getElem?_map, hq]; rfl)
          obtain ⟨qv, hqv⟩ : ∃ v, v = fb q := ⟨_, rfl⟩
          rw [← hqv] at x1
          have hown := rows_own H.h4 (List.mem_of_getElem? hq)
          rw [← hqv] at hown
          have hown2 := rows_own H.h2 HPM.out
          rw [← HPV.out] at hown2
          have HC := Lib.hid (impl_sameInts_c wr (rowP_rd hown2) (rowP_rd hown))
          obtain ⟨Aq, cq, rfl, _, _, _⟩ := own_rd hown
          have HTK : Hid (LB.take (k + 1) = LB.take k ++ [q]) := Lib.hid (by rw [List.take_add_one, hq]; rfl)
          clear hown hown2 hqv hq
          go_wp2_with fail
          refine (HC.out).mono ?_
          rintro e w3 ⟨rfl, b3⟩
          replace H := H.step b3
          rw [rowP_eq]
          clear b3 HC x1
          by_cases hpq : p = q
          · subst hpq
            rw [decide_eq_true (rfl : p = p)]
            have HJ2 : Hid (J ++ [p] = K ++ (LB.take (k + 1)).filter (fun q => decide (p = q))) := Lib.hid (by rw [HTK.out, List.filter_append, HJ.out, List.append_assoc]; simp)
            go_wp2_with (at_builtin; refine wpList_app rfl _ _ 64 rfl 23 i0 _ 1 24 Tryz.underlying64 hi hz0 hz1 hz2 rfl (by decide) _ _ _ rfl (H.alloc _) _ _ _ [.slice Ap 2 cp] rfl (Rd.fresh w3 23 #[.slice Ap 2 cp] 1 1 rfl) (ocT rfl) (by unfold maxLen; omega) (by omega) ?_; intro v4 w4 H4; clear H)
            rw [HPV.out, ← List.map_singleton, ← List.map_append] at H4
            have hm2 : m + 1 = (J ++ [p]).length := by rw [List.length_append, ← hmJ]; rfl
            have HM2 := Lib.hid hm2
            clear hm2
            go_wp2
            go_roundw
            case rel => exact ⟨k + 1, m + 1, J ++ [p], by omega, by go_num, HJ2, HM2.out, by omega, H4⟩
            case measure => simp [intOf]; omega
          · rw [decide_eq_false hpq]
            have HJ2 : Hid (J = K ++ (LB.take (k + 1)).filter (fun q => decide (p = q))) := Lib.hid (by rw [HTK.out, List.filter_append, HJ.out]; simp [hpq])
            clear hpq
            go_wp2
            go_roundw
            case rel => exact ⟨k + 1, m, J, by omega, by go_num, HJ2, hmJ, by omega, H⟩
            case measure => simp [intOf]; omega
        · obtain rfl : k = nB := by omega
          have hJ : J = (LA.take (i + 1)).filter f := by
            rw [HJ.out, HNM.out, List.take_length, HMET.out p HPM.out, List.take_add_one, HP.out, List.filter_append, HK.out]
            congr 1
            simp only [Option.toList, List.filter_cons, List.filter_nil]
          have hJn : J.length ≤ i + 1 := by rw [hJ]; refine Nat.le_trans (List.length_filter_le _ _) ?_; rw [List.length_take]; omega
          have HJ2 := Lib.hid hJ
          clear hJ
          go_wp2
          go_roundw
          case rel => exact ⟨i + 1, m, J, by omega, by go_num, HJ2, hmJ, by omega, H⟩
          case measure => simp [intOf]; omega
    · obtain rfl : i = nA := by omega
      obtain rfl : K = comP a b := by rw [HK.out, HNL.out, List.take_length, HCP.out]
      have HSS := rows_some H hnK H.h2 (fun p hp => by rw [HCP.out] at hp; exact (List.mem_filter.1 hp).1)
      have HC := Lib.hid (HLE.out _ _ HSS)
      have hB := H.below
      obtain ⟨Al, cl, rfl, _, _, _⟩ := Res.row_at H.h0
      clear HSS HLE H hnK
      go_wp2_with fail
      refine (HC.out).mono ?_
      rintro e w3 ⟨rfl, b3⟩
      have hB2 := hB.trans (b3.mono hB.size)
      clear HC b3 hB
      go_wp2
      exact bodyPost_ret (results_tmp3 rfl _ _ _) rfl ⟨rfl, hB2⟩
end Go.Proofs.YtelneohlpljblaaGreatDoor

namespace Go.Proofs.YtelneohlpljblaaGreatDoor
open Go.RowKit

theorem row_cells {w : World} {A : List (Nat × Nat)} {f : Nat × Nat → Value} (h : RowsAt w (A.map f) (rowsP A)) {p : Nat × Nat} (hp : p ∈ A) :
    ∃ g c, f p = .slice (some ⟨g, 0, none⟩) 2 c ∧ w.cell? ⟨g, 0, none⟩ = some (.int .i64 p.1) ∧ w.cell? ⟨g, 1, none⟩ = some (.int .i64 p.2) := by
  have ho := rows_own h hp
  obtain ⟨g, off, c, e, h1, h2, h3⟩ := own_shape ho (by decide)
  rw [e] at ho ⊢
  obtain ⟨rfl, _⟩ := own_blk ho
  exact ⟨g, c, rfl, by have := own_cell1 ho (j := 0) (u := (p.1 : Int)) rfl; simpa using this, by have := own_cell1 ho (j := 1) (u := (p.2 : Int)) rfl; simpa using this⟩
def bestV : Option Nat → Value
  | none => .int .i64 (-1)
  | some j => .int .i64 (j : Int)
def BestAt (LA : List (Nat × Nat)) (f : Nat × Nat → Bool) (i : Nat) : Option Nat → Prop
  | none => leastP ((LA.take i).filter f) = none
  | some j => j < i ∧ ∃ p, LA[j]? = some p ∧ leastP ((LA.take i).filter f) = some p
theorem best_no {LA : List (Nat × Nat)} {f : Nat × Nat → Bool} {i : Nat} {o : Option Nat} {p : Nat × Nat} (h : BestAt LA f i o) (hp : LA[i]? = some p) (hf : f p = false) : BestAt LA f (i + 1) o := by
  have e : (LA.take (i + 1)).filter f = (LA.take i).filter f := by rw [List.take_add_one, hp, List.filter_append]; simp [hf]
  cases o with
  | none => unfold BestAt; rw [e]; exact h
  | some j =>
    obtain ⟨h1, q, h2, h3⟩ := h
    exact ⟨by omega, q, h2, by rw [e]; exact h3⟩
theorem best_snoc {LA : List (Nat × Nat)} {f : Nat × Nat → Bool} {i : Nat} {p : Nat × Nat} (hp : LA[i]? = some p) (hf : f p = true) : leastP ((LA.take (i + 1)).filter f) = lessP (leastP ((LA.take i).filter f)) p := by
  rw [List.take_add_one, hp, List.filter_append]
  simp only [Option.toList, List.filter_cons, hf, if_true, List.filter_nil]
  exact leastP_snoc
theorem best_new {LA : List (Nat × Nat)} {f : Nat × Nat → Bool} {i : Nat} {p : Nat × Nat} (h : BestAt LA f i none) (hp : LA[i]? = some p) (hf : f p = true) : BestAt LA f (i + 1) (some i) :=
  ⟨Nat.lt_succ_self _, p, hp, by rw [best_snoc hp hf, (h : leastP _ = none)]; rfl⟩
theorem best_less {LA : List (Nat × Nat)} {f : Nat × Nat → Bool} {i j : Nat} {p q : Nat × Nat} (h : BestAt LA f i (some j)) (hq : LA[j]? = some q) (hp : LA[i]? = some p) (hf : f p = true) (hl : p.1 * p.2 < q.1 * q.2) : BestAt LA f (i + 1) (some i) := by
  obtain ⟨h1, r, h2, h3⟩ := h
  rw [h2] at hq
  injection hq with hq
  subst hq
  exact ⟨Nat.lt_succ_self _, p, hp, by rw [best_snoc hp hf, h3, lessP, if_pos hl]⟩
theorem best_keep {LA : List (Nat × Nat)} {f : Nat × Nat → Bool} {i j : Nat} {p q : Nat × Nat} (h : BestAt LA f i (some j)) (hq : LA[j]? = some q) (hp : LA[i]? = some p) (hf : f p = true) (hl : ¬ p.1 * p.2 < q.1 * q.2) : BestAt LA f (i + 1) (some j) := by
  obtain ⟨h1, r, h2, h3⟩ := h
  rw [h2] at hq
  injection hq with hq
  subst hq
  exact ⟨by omega, r, h2, by rw [best_snoc hp hf, h3, lessP, if_neg hl]⟩
theorem any_met {LB : List (Nat × Nat)} {p : Nat × Nat} : LB.any (fun q => decide (p = q)) = !(LB.filter (fun q => decide (p = q))).isEmpty := by
  induction LB with
  | nil => rfl
  | cons q l ih =>
    rw [List.any_cons, List.filter_cons, ih]
    by_cases h : p = q <;> simp [h]

set_option maxRecDepth 100000 in
set_option maxHeartbeats 1600000 in
theorem spec_comRect_c {va vb : Value} {a b : List Cell} (w : World) (ha : CellsRd w 0 w.heap.size va a) (hb : CellsRd w 0 w.heap.size vb b) (hla : a.length ≤ 1048576) (hlb : b.length ≤ 1048576) :
    Calls Tryz.prog 18 #[va, vb] w fun e w' => e = .returned (.tuple #[.int .i64 (p1 (comL a b) : Nat), .int .i64 (p2 (comL a b) : Nat), .bool (comL a b).isSome]) ∧ Below w.heap.size w w' := by
  have HRA := Lib.hid (spec_rects_c w ha hla)
  have HRB : Hid (∀ w1, Below w.heap.size w w1 → Calls Tryz.prog 46 #[vb] w1 fun e w' => ∃ u vs, e = .returned u ∧ Sep w1 w' [Res.row u 23 1 (rectsT b).length vs, Res.rows vs (rowsP (rectsT b))]) := Lib.hid fun w1 b1 => spec_rects_c w1 (cells_keep hb b1) hlb
  obtain ⟨f, hf⟩ : ∃ f, f = tilesB b := ⟨_, rfl⟩
  obtain ⟨LA, hLA⟩ : ∃ L, L = rectsT a := ⟨_, rfl⟩
  obtain ⟨LB, hLB⟩ : ∃ L, L = rectsT b := ⟨_, rfl⟩
  have HANY : Hid (∀ p ∈ LA, LB.any (fun q => decide (p = q)) = f p) := Lib.hid fun p hp => by
    rw [any_met, hLB, hf]
    rw [hLA] at hp
    rw [met_rects (rectsT_mem.1 hp).1]
    cases tilesB b p <;> rfl
  have HCP : Hid (comL a b = leastP (LA.filter f)) := Lib.hid (by rw [hLA, hf]; rfl)
  obtain ⟨R, hR⟩ : ∃ R, R = comL a b := ⟨_, rfl⟩
  rw [← hR] at HCP ⊢
  have HNA : Hid LA.Nodup := Lib.hid (by rw [hLA]; exact rectsT_nodup)
  have HNB : Hid LB.Nodup := Lib.hid (by rw [hLB]; exact rectsT_nodup)
  have HBD : Hid (∀ p ∈ LA, 1 ≤ p.1 ∧ p.1 ≤ 5 ∧ 1 ≤ p.2 ∧ p.2 ≤ 5) := Lib.hid fun p hp => by rw [hLA] at hp; exact pairsN_le p (rectsT_mem.1 hp).1
  have hA15 : LA.length ≤ 15 := by rw [hLA]; exact Nat.le_trans (List.length_filter_le _ _) (by decide)
  have hB15 : LB.length ≤ 15 := by rw [hLB]; exact Nat.le_trans (List.length_filter_le _ _) (by decide)
  rw [← hLA] at HRA
  rw [← hLB] at HRB
  obtain ⟨A1, c1, rfl, _, _⟩ := ha
  obtain ⟨A2, c2, rfl, _, _⟩ := hb
  clear hf hLA hLB hR hla hlb
  go_enter Tryz.func18, Tryz.ntmps18
  go_wp2_with fail
  refine (HRA.out).mono ?_
  rintro e w1 ⟨ua, va', rfl, H1⟩
  obtain ⟨fa, rfl⟩ := as_map HNA.out (by have := RowsAt.len H1.h1; rwa [rowsP_len] at this)
  obtain ⟨A, cA, rfl, _, _, _⟩ := Res.row_at H1.h0
  have HC2 := Lib.hid (HRB.out _ H1.below)
  clear HRA HRB
  go_wp2_with fail
  refine (HC2.out).mono ?_
  rintro e w2 ⟨ub, vb', rfl, H2⟩
  obtain ⟨fb, rfl⟩ := as_map HNB.out (by have := RowsAt.len H2.h1; rwa [rowsP_len] at this)
  obtain ⟨B, cB, rfl, _, _, _⟩ := Res.row_at H2.h0
  have H3 := H2.join H1
  obtain ⟨nA, hnA⟩ : ∃ n, n = LA.length := ⟨_, rfl⟩
  obtain ⟨nB, hnB⟩ : ∃ n, n = LB.length := ⟨_, rfl⟩
  simp only [List.cons_append, List.nil_append] at H3
  rw [← hnA] at H3 hA15 ⊢
  rw [← hnB] at H3 hB15 ⊢
  have HNL := Lib.hid hnA
  have HNM := Lib.hid hnB
  clear HC2 H1 H2 hnA hnB
  go_wp2
  go_loopw [9, 10] (fun ov iv wx => ∃ (i : Nat) (o : Option Nat), i ≤ nA ∧ iv = .int .i64 i ∧ ov = bestV o ∧ Hid (BestAt LA f i o) ∧ Sep w wx [Res.row (.slice B nB cB) 23 1 nB (LB.map fb), Res.rows (LB.map fb) (rowsP LB), Res.row (.slice A nA cA) 23 1 nA (LA.map fa), Res.rows (LA.map fa) (rowsP LA)]) (fun _ iv _ => nA - (intOf iv).toNat)
  case atStart => exact ⟨0, none, Nat.zero_le _, rfl, rfl, Lib.hid rfl, H3⟩
  case round =>
    clear H3
    obtain ⟨i, o, hi', rfl, rfl, HO, H⟩ := hrel
    by_cases hlt : i < nA
    · obtain ⟨p, hp⟩ : ∃ p, LA[i]? = some p := ⟨LA[i]'(by rw [← HNL.out]; exact hlt), List.getElem?_eq_getElem _⟩
      obtain ⟨gA, oA, rfl⟩ : ∃ g o, A = some ⟨g, o, none⟩ := by
        obtain ⟨g, o, c, e, _⟩ := own_shape H.h2 (by omega)
        injection e with e1
        exact ⟨g, o, e1⟩
      have HP := Lib.hid hp
      have HPM := Lib.hid (List.mem_of_getElem? hp)
      clear hp
      obtain ⟨bo, hbo⟩ : ∃ v, v = bestV o := ⟨_, rfl⟩
      rw [← hbo]
      have HBO := Lib.hid hbo
      clear hbo
      go_wp2
      go_loopw [11, 12] (fun bv kv wx => ∃ (k : Nat) (bt : Bool), k ≤ nB ∧ kv = .int .i64 k ∧ bv = .bool bt ∧ Hid (bt = (LB.take k).any (fun q => decide (p = q))) ∧ Sep w wx [Res.row (.slice B nB cB) 23 1 nB (LB.map fb), Res.rows (LB.map fb) (rowsP LB), Res.row (.slice (some ⟨gA, oA, none⟩) nA cA) 23 1 nA (LA.map fa), Res.rows (LA.map fa) (rowsP LA)]) (fun _ kv _ => nB - (intOf kv).toNat)
      case atStart => exact ⟨0, false, Nat.zero_le _, rfl, rfl, Lib.hid rfl, H⟩
      case round =>
        clear H
        obtain ⟨k, bt, hk, rfl, rfl, HBT, H⟩ := hrel
        obtain ⟨ga, ca, hfa, y0, y1⟩ := row_cells H.h3 HPM.out
        have x1 : wr.cell? ⟨gA, oA + i, none⟩ = some (fa p) := own_cell H.h2 (by rw [List.getElem?_map, HP.out]; rfl)
        rw [hfa] at x1
        clear hfa
        by_cases hltk : k < nB
        · obtain ⟨q, hq⟩ : ∃ q, LB[k]? = some q := ⟨LB[k]'(by rw [← HNM.out]; exact hltk), List.getElem?_eq_getElem _⟩
          obtain ⟨gB, oB, rfl⟩ : ∃ g o, B = some ⟨g, o, none⟩ := by
            obtain ⟨g, o, c, e, _⟩ := own_shape H.h0 (by omega)
            injection e with e1
            exact ⟨g, o, e1⟩
          obtain ⟨gb, cb, hfb, z0, z1⟩ := row_cells H.h1 (List.mem_of_getElem? hq)
          have x2 : wr.cell? ⟨gB, oB + k, none⟩ = some (fb q) := own_cell H.h0 (by rw [List.getElem?_map, hq]; rfl)
          rw [hfb] at x2
          have HTK : Hid ((LB.take (k + 1)).any (fun q => decide (p = q)) = (bt || decide (p = q))) := Lib.hid (by rw [List.take_add_one, hq, List.any_append, HBT.out]; simp)
          clear hq hfb
          cases bt
          · obtain ⟨pa, pb⟩ := p
            obtain ⟨qa, qb⟩ := q
            simp only at y0 y1 z0 z1
            by_cases h1 : pa = qa
            · subst h1
              by_cases h2 : pb = qb
              · subst h2
                have HB2 : Hid (true = (LB.take (k + 1)).any (fun q => decide ((pa, pb) = q))) := Lib.hid (by rw [HTK.out]; simp)
                go_wp2_with fail
                go_quiet (fail)
                replace H := H.drewN nq
                generalize wr.drewN nq = w2 at *
                clear x1 x2 y0 y1 z0 z1
                go_wp2
                go_roundw
                case rel => exact ⟨k + 1, true, by omega, by go_num, rfl, HB2, H⟩
                case measure => simp [intOf]; omega
              · have e2 : ((pb : Int) == (qb : Int)) = false := by simp; omega
                have HB2 : Hid (false = (LB.take (k + 1)).any (fun q => decide ((pa, pb) = q))) := Lib.hid (by rw [HTK.out]; simp [h2])
                clear h2
                go_wp2_with fail
                go_quiet (fail)
                replace H := H.drewN nq
                generalize wr.drewN nq = w2 at *
                clear x1 x2 y0 y1 z0 z1
                go_wp2
                go_roundw
                case rel => exact ⟨k + 1, false, by omega, by go_num, rfl, HB2, H⟩
                case measure => simp [intOf]; omega
            · have e1 : ((pa : Int) == (qa : Int)) = false := by simp; omega
              have HB2 : Hid (false = (LB.take (k + 1)).any (fun q => decide ((pa, pb) = q))) := Lib.hid (by rw [HTK.out]; simp [h1])
              clear h1
              go_wp2_with fail
              go_quiet (fail)
              replace H := H.drewN nq
              generalize wr.drewN nq = w2 at *
              clear x1 x2 y0 y1 z0 z1
              go_wp2
              go_roundw
              case rel => exact ⟨k + 1, false, by omega, by go_num, rfl, HB2, H⟩
              case measure => simp [intOf]; omega
          · have HB2 : Hid (true = (LB.take (k + 1)).any (fun q => decide (p = q))) := Lib.hid (by rw [HTK.out]; rfl)
            go_wp2_with fail
            go_quiet (fail)
            replace H := H.drewN nq
            generalize wr.drewN nq = w2 at *
            clear x1 x2 y0 y1 z0 z1
            go_wp2
            go_roundw
            case rel => exact ⟨k + 1, true, by omega, by go_num, rfl, HB2, H⟩
            case measure => simp [intOf]; omega
        · obtain rfl : k = nB := by omega
          have hbf : bt = f p := by rw [HBT.out, HNM.out, List.take_length, HANY.out p HPM.out]
          have HBF := Lib.hid hbf
          clear hbf HBT
          obtain ⟨hp1, hp5, hq1, hq5⟩ := HBD.out p HPM.out
          cases bt
          · have HO2 := Lib.hid (best_no HO.out HP.out HBF.out.symm)
            obtain rfl := HBO.out
            clear hp1 hp5 hq1 hq5
            go_wp2_with fail
            go_quiet (fail)
            replace H := H.drewN nq
            generalize wr.drewN nq = w2 at *
            clear x1 y0 y1
            go_wp2
            go_roundw
            case rel => exact ⟨i + 1, o, by omega, by go_num, rfl, HO2, H⟩
            case measure => simp [intOf]; omega
          · cases o with
            | none =>
              obtain rfl : bo = .int .i64 (-1) := HBO.out
              have HO2 := Lib.hid (best_new HO.out HP.out HBF.out.symm)
              clear hp1 hp5 hq1 hq5
              go_wp2_with fail
              go_quiet (fail)
              replace H := H.drewN nq
              generalize wr.drewN nq = w2 at *
              clear x1 y0 y1
              go_wp2
              go_roundw
              case rel => exact ⟨i + 1, some i, by omega, by go_num, rfl, HO2, H⟩
              case measure => simp [intOf]; omega
            | some j =>
              obtain rfl : bo = .int .i64 (j : Int) := HBO.out
              obtain ⟨hji, r, hr, _⟩ := id HO.out
              obtain ⟨gr, cr, hfr, z0, z1⟩ := row_cells H.h3 (List.mem_of_getElem? hr)
              have x2 : wr.cell? ⟨gA, oA + j, none⟩ = some (fa r) := own_cell H.h2 (by rw [List.getElem?_map, hr]; rfl)
              rw [hfr] at x2
              obtain ⟨hr1, hr5, hs1, hs5⟩ := HBD.out r (List.mem_of_getElem? hr)
              have HRR := Lib.hid hr
              have hj1 : ((j : Int) < 0) = False := by simp
              have hw1 := mul55 hp5 hq5
              have hw2 := mul55 hr5 hs5
              obtain ⟨pr, hpr⟩ : ∃ k, k = p.1 * p.2 := ⟨_, rfl⟩
              obtain ⟨qr, hqr⟩ : ∃ k, k = r.1 * r.2 := ⟨_, rfl⟩
              rw [← hpr] at hw1
              rw [← hqr] at hw2
              have HPR := Lib.hid hpr
              have HQR := Lib.hid hqr
              clear hfr hr hpr hqr hp1 hp5 hq1 hq5 hr1 hr5 hs1 hs5
              by_cases hless : pr < qr
              · have hlessi : (pr : Int) < (qr : Int) := by omega
                have HO2 := Lib.hid (best_less HO.out HRR.out HP.out HBF.out.symm (by rw [← HPR.out, ← HQR.out]; exact hless))
                go_wp2_with fail
                go_quiet (fail)
                replace H := H.drewN nq
                generalize wr.drewN nq = w2 at *
                clear x1 y0 y1 x2 z0 z1 hw1 hw2
                go_wp2
                go_roundw
                case rel => exact ⟨i + 1, some i, by omega, by go_num, rfl, HO2, H⟩
                case measure => simp [intOf]; omega
              · have hlessi : ¬ (pr : Int) < (qr : Int) := by omega
                have HO2 := Lib.hid (best_keep HO.out HRR.out HP.out HBF.out.symm (by rw [← HPR.out, ← HQR.out]; exact hless))
                go_wp2_with fail
                go_quiet (fail)
                replace H := H.drewN nq
                generalize wr.drewN nq = w2 at *
                clear x1 y0 y1 x2 z0 z1 hw1 hw2
                go_wp2
                go_roundw
                case rel => exact ⟨i + 1, some j, by omega, by go_num, rfl, HO2, H⟩
                case measure => simp [intOf]; omega
    · obtain rfl : i = nA := by omega
      have hRO : R = leastP ((LA.take i).filter f) := by rw [HNL.out, List.take_length, HCP.out]
      have hB := H.below
      obtain ⟨bo, hbo⟩ : ∃ v, v = bestV o := ⟨_, rfl⟩
      rw [← hbo]
      cases o with
      | none =>
        obtain rfl : bo = .int .i64 (-1) := hbo
        obtain rfl : R = none := by rw [hRO]; exact HO.out
        clear H HO hRO HCP
        go_wp2
        exact bodyPost_ret (results_tmp3 rfl _ _ _) rfl ⟨rfl, hB⟩
      | some j =>
        obtain rfl : bo = .int .i64 (j : Int) := hbo
        obtain ⟨hji, r, hr, hrl⟩ := id HO.out
        obtain ⟨gA, oA, rfl⟩ : ∃ g o, A = some ⟨g, o, none⟩ := by
          obtain ⟨g, o, c, e, _⟩ := own_shape H.h2 (by omega)
          injection e with e1
          exact ⟨g, o, e1⟩
        obtain ⟨gr, cr, hfr, z0, z1⟩ := row_cells H.h3 (List.mem_of_getElem? hr)
        have x2 : wr.cell? ⟨gA, oA + j, none⟩ = some (fa r) := own_cell H.h2 (by rw [List.getElem?_map, hr]; rfl)
        rw [hfr] at x2
        obtain rfl : R = some r := by rw [hRO]; exact hrl
        have hj0 : ¬ (j : Int) < 0 := by omega
        clear hRO HCP hrl hr hfr
        go_wp2_with fail
        go_quiet (fail)
        have hB2 := below_drewN hB nq
        generalize wr.drewN nq = w2 at *
        clear x2 z0 z1
        go_wp2
        exact bodyPost_ret (results_tmp3 rfl _ _ _) rfl ⟨rfl, hB2⟩
end Go.Proofs.YtelneohlpljblaaGreatDoor

namespace Go.Proofs.YtelneohlpljblaaGreatDoor
open Go.RowKit

def comArea (a b : List Cell) : Int := if (comL a b).isSome then ((p1 (comL a b) * p2 (comL a b) : Nat) : Int) else -1
set_option maxRecDepth 100000 in
set_option maxHeartbeats 400000 in
theorem impl_compat_c {va vb : Value} {a b : List Cell} (w : World) (ha : CellsRd w 0 w.heap.size va a) (hb : CellsRd w 0 w.heap.size vb b) (hla : a.length ≤ 1048576) (hlb : b.length ≤ 1048576) (ht : Tab64 w) :
    Calls Tryz.prog 21 #[va, vb] w fun e w' => e = .returned (.bool (comL a b).isSome) ∧ Below w.heap.size w w' := by
  have HC := Lib.hid (impl_comRect_c w ha hb hla hlb ht)
  obtain ⟨A1, c1, rfl, _, _⟩ := ha
  obtain ⟨A2, c2, rfl, _, _⟩ := hb
  go_enter Tryz.func21, Tryz.ntmps21
  go_wp2_with fail
  refine (HC.out).mono ?_
  rintro e w1 ⟨rfl, b1⟩
  go_wp2
  go_ret
  exact ⟨rfl, b1⟩
set_option maxRecDepth 100000 in
set_option maxHeartbeats 400000 in
theorem impl_comArea_c {va vb : Value} {a b : List Cell} (w : World) (ha : CellsRd w 0 w.heap.size va a) (hb : CellsRd w 0 w.heap.size vb b) (hla : a.length ≤ 1048576) (hlb : b.length ≤ 1048576) (ht : Tab64 w) :
    Calls Tryz.prog 23 #[va, vb] w fun e w' => e = .returned (.int .i64 (comArea a b)) ∧ Below w.heap.size w w' := by
  have HC := Lib.hid (impl_comRect_c w ha hb hla hlb ht)
  obtain ⟨A1, c1, rfl, _, _⟩ := ha
  obtain ⟨A2, c2, rfl, _, _⟩ := hb
  obtain ⟨R, hR⟩ : ∃ R, R = comArea a b := ⟨_, rfl⟩
  rw [← hR]
  cases ho : comL a b with
  | none =>
    obtain rfl : R = -1 := by rw [hR, comArea, ho]; rfl
    rw [ho] at HC
    clear hR ho
    go_enter Tryz.func23, Tryz.ntmps23
    go_wp2_with fail
    refine (HC.out).mono ?_
    rintro e w1 ⟨rfl, b1⟩
    go_wp2
    go_ret
    exact ⟨rfl, b1⟩
  | some p =>
    obtain ⟨x1, x5, y1, y5⟩ := comL_mem ho
    have hw := mul55 x5 y5
    obtain ⟨q, hq⟩ : ∃ q, q = p.1 * p.2 := ⟨_, rfl⟩
    obtain rfl : R = (q : Int) := by rw [hR, comArea, ho, hq]; rfl
    rw [← hq] at hw
    rw [ho] at HC
    obtain ⟨pa, hpa⟩ : ∃ k, k = p1 (some p) := ⟨_, rfl⟩
    obtain ⟨pb, hpb⟩ : ∃ k, k = p2 (some p) := ⟨_, rfl⟩
    rw [← hpa, ← hpb] at HC
    obtain rfl : pa = p.1 := hpa
    obtain rfl : pb = p.2 := hpb
    clear hR ho hq
    go_enter Tryz.func23, Tryz.ntmps23
    go_wp2_with fail
    refine (HC.out).mono ?_
    rintro e w1 ⟨rfl, b1⟩
    go_wp2
    go_ret
    exact ⟨rfl, b1⟩
set_option maxRecDepth 100000 in
set_option maxHeartbeats 400000 in
theorem spec_compat_c {va vb : Value} {a b : List Cell} (w : World) (ha : CellsRd w 0 w.heap.size va a) (hb : CellsRd w 0 w.heap.size vb b) (hla : a.length ≤ 1048576) (hlb : b.length ≤ 1048576)  :
    Calls Tryz.prog 20 #[va, vb] w fun e w' => e = .returned (.bool (comL a b).isSome) ∧ Below w.heap.size w w' := by
  have HC := Lib.hid (spec_comRect_c w ha hb hla hlb )
  obtain ⟨A1, c1, rfl, _, _⟩ := ha
  obtain ⟨A2, c2, rfl, _, _⟩ := hb
  go_enter Tryz.func20, Tryz.ntmps20
  go_wp2_with fail
  refine (HC.out).mono ?_
  rintro e w1 ⟨rfl, b1⟩
  go_wp2
  go_ret
  exact ⟨rfl, b1⟩
set_option maxRecDepth 100000 in
set_option maxHeartbeats 400000 in
theorem spec_comArea_c {va vb : Value} {a b : List Cell} (w : World) (ha : CellsRd w 0 w.heap.size va a) (hb : CellsRd w 0 w.heap.size vb b) (hla : a.length ≤ 1048576) (hlb : b.length ≤ 1048576)  :
    Calls Tryz.prog 22 #[va, vb] w fun e w' => e = .returned (.int .i64 (comArea a b)) ∧ Below w.heap.size w w' := by
  have HC := Lib.hid (spec_comRect_c w ha hb hla hlb )
  obtain ⟨A1, c1, rfl, _, _⟩ := ha
  obtain ⟨A2, c2, rfl, _, _⟩ := hb
  obtain ⟨R, hR⟩ : ∃ R, R = comArea a b := ⟨_, rfl⟩
  rw [← hR]
  cases ho : comL a b with
  | none =>
    obtain rfl : R = -1 := by rw [hR, comArea, ho]; rfl
    rw [ho] at HC
    clear hR ho
    go_enter Tryz.func22, Tryz.ntmps22
    go_wp2_with fail
    refine (HC.out).mono ?_
    rintro e w1 ⟨rfl, b1⟩
    go_wp2
    go_ret
    exact ⟨rfl, b1⟩
  | some p =>
    obtain ⟨x1, x5, y1, y5⟩ := comL_mem ho
    have hw := mul55 x5 y5
    obtain ⟨q, hq⟩ : ∃ q, q = p.1 * p.2 := ⟨_, rfl⟩
    obtain rfl : R = (q : Int) := by rw [hR, comArea, ho, hq]; rfl
    rw [← hq] at hw
    rw [ho] at HC
    obtain ⟨pa, hpa⟩ : ∃ k, k = p1 (some p) := ⟨_, rfl⟩
    obtain ⟨pb, hpb⟩ : ∃ k, k = p2 (some p) := ⟨_, rfl⟩
    rw [← hpa, ← hpb] at HC
    obtain rfl : pa = p.1 := hpa
    obtain rfl : pb = p.2 := hpb
    clear hR ho hq
    go_enter Tryz.func22, Tryz.ntmps22
    go_wp2_with fail
    refine (HC.out).mono ?_
    rintro e w1 ⟨rfl, b1⟩
    go_wp2
    go_ret
    exact ⟨rfl, b1⟩
end Go.Proofs.YtelneohlpljblaaGreatDoor
