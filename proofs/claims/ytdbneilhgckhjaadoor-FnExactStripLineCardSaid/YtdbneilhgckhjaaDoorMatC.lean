
/-
  Products of square matrices: the walks of both sides.
-/
import Derived.Test.YtdbneilhgckhjaaDoorMatA
import Derived.Test.YtdbneilhgckhjaaDoorStQ
import Derived.Test.YtdbneilhgckhjaaDoorDomW
import Derived.Deep.DeepCutAuto
namespace Go.Proofs.YtdbneilhgckhjaaDoor
open Go.RowKit

set_option maxRecDepth 100000 in
theorem infoIntM : (Tryd.prog.info? 3).map (fun i => (i.zero, i.size, i.bytes)) = some (some (.int .i64 0), 1, 8) := by kernel_rfl
set_option maxRecDepth 100000 in
theorem infoIntsM : (Tryd.prog.info? 24).map (fun i => (i.zero, i.size, i.bytes)) = some (some (.slice none 0 0), 1, 24) := by kernel_rfl
/-- where a list of rows lies, that is not empty -/
theorem IntSSRd.shape {w : World} {v : Value} {M : List (List Int)} (h : IntSSRd w 0 w.heap.size v M) (hn : 0 < M.length) :
    ∃ b off c, v = .slice (some ⟨b, off, none⟩) M.length c ∧ b < w.heap.size ∧ ∀ (i : Nat) (r : List Int), M[i]? = some r → 0 < r.length → ∃ g o c', w.cell? ⟨b, off + i, none⟩ = some (.slice (some ⟨g, o, none⟩) r.length c') ∧ g < w.heap.size ∧ ∀ (j : Nat) (a : Int), r[j]? = some a → w.cell? ⟨g, o + j, none⟩ = some (.int .i64 a) := by
  obtain ⟨vs, ⟨A, c, rfl, _, hr⟩, hs⟩ := h
  obtain ⟨b, off, rfl, _, hb, hc⟩ := hr.2 hn
  refine ⟨b, off, c, rfl, hb, fun i r hi h0 => ?_⟩
  obtain ⟨x, hx, A', c', rfl, _, hr'⟩ := hs.2 i r hi
  obtain ⟨g, o, rfl, _, hg, hc'⟩ := hr'.2 h0
  exact ⟨g, o, c', hc i _ hx, hg, fun j a ha => hc' j _ (ic_at ha)⟩
theorem made_ints {n : Nat} : (madeCells (#[.int .i64 0] : Array Value) n).toList = ic (List.replicate n 0) := by rw [toList_madeCells_one]; simp [ic]
theorem ocv {v : Value} (h : v.oneCell' = true) : ∀ u ∈ [v], u.oneCell' = true := by intro u hu; simp at hu; subst hu; exact h
theorem ite_up {n : Nat} (j k : Nat) : ∀ d, d < n → d ≠ j → (if d < j + 1 then k + 1 else k) = if d < j then k + 1 else k := by
  intro d _ hd
  by_cases h : d < j
  · rw [if_pos h, if_pos (by omega)]
  · rw [if_neg h, if_neg (by omega)]
theorem ite_col {n : Nat} (j k : Nat) : ∀ d, d < n → (if d < j then k else if d = j then k else 0) = if d < j + 1 then k else 0 := by
  intro d _
  by_cases h : d < j
  · rw [if_pos h, if_pos (by omega)]
  · by_cases e : d = j
    · rw [if_neg h, if_pos e, if_pos (by omega)]
    · rw [if_neg h, if_neg e, if_neg (by omega)]
theorem mulM_take {A B : List (List Int)} {i : Nat} {r : List Int} (h : A[i]? = some r) : (mulM A B).take i ++ [nextV B r] = (mulM A B).take (i + 1) := by
  rw [List.take_add_one, mulM, List.getElem?_map, h]; rfl
theorem getD_get {l : List Int} {k : Nat} {a : Int} (h : l[k]? = some a) : l.getD k 0 = a := by simp [List.getD, h]
theorem at2_get {M : List (List Int)} {i j : Nat} {r : List Int} {a : Int} (h : M[i]? = some r) (ha : r[j]? = some a) : at2 M i j = a := by simp [at2, List.getD, h, ha]

set_option maxRecDepth 100000 in
set_option maxHeartbeats 1600000 in
theorem impl_product_c {va vb : Value} {A B : List (List Int)} {N : Nat} (w : World) (ha : IntSSRd w 0 w.heap.size va A) (hb : IntSSRd w 0 w.heap.size vb B) (hN1 : 1 ≤ N) (hN : N ≤ 16) (hlA : A.length = N) (hlB : B.length = N) (hA : ∀ r ∈ A, r.length = N) (hB : ∀ r ∈ B, r.length = N) :
    Calls Tryd.prog 102 #[va, vb] w fun e w' => ∃ v vs, e = .returned v ∧ Sep w w' [Res.row v 24 1 N vs, Res.rows vs (mulM A B)] := by
  obtain ⟨i0, hi, hz0, hz1, hz2⟩ := info_parts infoIntM
  obtain ⟨j0, hj, y0, y1, y2⟩ := info_parts infoIntsM
  obtain ⟨bA, oA, cA, rfl, hbA, HA⟩ := ha.shape (by omega)
  obtain ⟨bB, oB, cB, rfl, hbB, HB⟩ := hb.shape (by omega)
  rw [hlA, hlB]
  have HA := Lib.hid HA
  have HB := Lib.hid HB
  have HlA := Lib.hid hlA
  have HlB := Lib.hid hlB
  have HrA := Lib.hid hA
  have HrB := Lib.hid hB
  have hmk := fun W => run_make_rowN (P := Tryd.prog) 24 3 i0 _ Tryd.underlying24 hi hz0 .i64 .i64 N N (Nat.le_refl _) (by rw [hz2]; omega) (by omega) W
  rw [hz1, Nat.mul_one] at hmk
  change ∀ W : World, _ = Result.ok _ (W.alloc (.cells (madeCells #[.int .i64 0] N) 3)) at hmk
  have H0 := ((Sep.start w).rowsNil).nil 24 1
  clear ha hb hlA hlB hA hB
  go_enter Tryd.func102, Tryd.ntmps102
  go_wp2
  go_loopw [5, 12] (fun pv iv wx => ∃ (i : Nat) (vs : List Value), i ≤ N ∧ iv = .int .i64 i ∧ Sep w wx [Res.row pv 24 1 i vs, Res.rows vs ((mulM A B).take i)]) (fun _ iv _ => N - (intOf iv).toNat)
  case atStart => exact ⟨0, [], Nat.zero_le _, rfl, H0⟩
  case round =>
    clear H0
    obtain ⟨i, vs, hiN, rfl, H⟩ := hrel
    by_cases hlt : i < N
    · obtain ⟨r, hr⟩ : ∃ r, A[i]? = some r := ⟨A[i]'(by rw [HlA.out]; exact hlt), List.getElem?_eq_getElem _⟩
      have hrl := HrA.out r (List.mem_of_getElem? hr)
      obtain ⟨gr, or, cr, xr, hgr, HR⟩ := HA.out i r hr (by omega)
      rw [hrl] at xr
      have HR := Lib.hid HR
      have HRL := Lib.hid hrl
      have HT := Lib.hid (mulM_take (B := B) hr)
      have H1 := H.rowBox 3 (madeCells #[.int .i64 0] N) 1 N (by rw [size_madeCells, Nat.mul_one]) (by unfold maxLen; omega)
      rw [made_ints, ← dotRow_zero (v := r) (M := B) (f := fun _ => 0) (fun _ _ => rfl)] at H1
      clear H hr hrl
      go_wp2
      generalize hW : wr.alloc (.cells (madeCells (#[.int .i64 0] : Array Value) N) 3) = W at *
      obtain ⟨g, hg⟩ : ∃ g, g = wr.heap.size := ⟨_, rfl⟩
      rw [← hg] at H1 ⊢
      clear hW hg
      go_loopw [20] (fun kv wx => ∃ k : Nat, k ≤ N ∧ kv = .int .i64 k ∧ Sep w wx [Res.row (.slice (some ⟨g, 0, none⟩) N N) 3 1 N (ic (dotRow N r B fun _ => k)), Res.row u5 24 1 i vs, Res.rows vs ((mulM A B).take i)]) (fun kv _ => N - (intOf kv).toNat)
      case atStart => exact ⟨0, Nat.zero_le _, rfl, H1⟩
      case round =>
        clear H1
        obtain ⟨k, hkN, rfl, H⟩ := hrel
        by_cases hlk : k < N
        · obtain ⟨q, hq⟩ : ∃ q, B[k]? = some q := ⟨B[k]'(by rw [HlB.out]; exact hlk), List.getElem?_eq_getElem _⟩
          have hql := HrB.out q (List.mem_of_getElem? hq)
          obtain ⟨gq, oq, cq, xq, hgq, HQ⟩ := HB.out k q hq (by omega)
          rw [hql] at xq
          obtain ⟨a, ha⟩ : ∃ a, r[k]? = some a := ⟨r[k]'(by rw [HRL.out]; exact hlk), List.getElem?_eq_getElem _⟩
          have xa := HR.out k a ha
          have HQ := Lib.hid HQ
          have HQL := Lib.hid hql
          have HQB := Lib.hid hq
          have HAA := Lib.hid (getD_get ha)
          have H1 : Sep w wr [Res.row (.slice (some ⟨g, 0, none⟩) N N) 3 1 N (ic (dotRow N r B fun c => if c < 0 then k + 1 else k)), Res.row u5 24 1 i vs, Res.rows vs ((mulM A B).take i)] := H
          clear H hq hql ha
          go_wp2
          go_loopw [25] (fun jv wx => ∃ j : Nat, j ≤ N ∧ jv = .int .i64 j ∧ Sep w wx [Res.row (.slice (some ⟨g, 0, none⟩) N N) 3 1 N (ic (dotRow N r B fun c => if c < j then k + 1 else k)), Res.row u5 24 1 i vs, Res.rows vs ((mulM A B).take i)]) (fun jv _ => N - (intOf jv).toNat)
          case atStart => exact ⟨0, Nat.zero_le _, rfl, H1⟩
          case round =>
            clear H1
            obtain ⟨j, hjN, rfl, H⟩ := hrel
            by_cases hlj : j < N
            · obtain ⟨b, hbj⟩ : ∃ b, q[j]? = some b := ⟨q[j]'(by rw [HQL.out]; exact hlj), List.getElem?_eq_getElem _⟩
              have xb := HQ.out j b hbj
              have hdj := dotRow_at (v := r) (M := B) (f := fun c => if c < j then k + 1 else k) hlj
              simp only [Nat.lt_irrefl, if_false] at hdj
              obtain ⟨d, hd⟩ : ∃ d, d = dot r B j k := ⟨_, rfl⟩
              have hbel := H.below
              have x1 := own_cell1 H.h0 hdj
              rw [Nat.zero_add, ← hd] at x1
              have x2 := (hbel.cell (p := ⟨bA, oA + i, none⟩) hbA).trans xr
              have x3 := (hbel.cell (p := ⟨gr, or + k, none⟩) hgr).trans xa
              have x4 := (hbel.cell (p := ⟨bB, oB + k, none⟩) hbB).trans xq
              have x5 := (hbel.cell (p := ⟨gq, oq + j, none⟩) hgq).trans xb
              have x6 := own_free H.drew.h0 j
              rw [Nat.zero_add] at x6
              have HD : Hid (dot r B j (k + 1) = wrap64 (d + wrap64 (a * b))) := Lib.hid (by
                rw [hd, dot, HAA.out, at2_get HQB.out hbj]; rfl)
              have H1 := H.drew.setRow (j := j) (by rw [ic_length, dotRow_len]; exact hlj) (.int .i64 (wrap64 (d + wrap64 (a * b))))
              rw [ic_set, ← HD.out, Nat.zero_add] at H1
              rw [dotRow_put (g := fun c => if c < j + 1 then k + 1 else k) (ite_up j k) (by simp)] at H1
              clear H hbj hdj hd hbel
              go_wp2_with fail
              refine wp_region_stq 21 (by kernel_rfl) (by kernel_rfl) ?_
              simp only [List.take_succ_cons, List.take_zero, List.drop_succ_cons, List.drop_zero]
              repeat (first | go_big_quiet_skip | (go_big_quiet_want; go_big_quiet_op; first | go_big_quiet_on | (apply Exists.intro; refine ⟨?_, ?_⟩; focus (fail); go_big_quiet_on)))
              refine wpQuiet_nil ?_
              go_wp2
              clear x1 x2 x3 x4 x5 x6 xb
              go_roundw
              case rel => exact ⟨j + 1, by omega, by go_num, by rw [HD.out] at H1; exact H1⟩
              case measure => simp [intOf]; omega
            · obtain rfl : j = N := by omega
              rw [dotRow_congr (f := fun _ => k + 1) (fun d hd => if_pos hd)] at H
              go_wp2
              go_roundw
              case rel => exact ⟨k + 1, by omega, by go_num, H⟩
              case measure => simp [intOf]; omega
        · obtain rfl : k = N := by omega
          have e1 : dotRow k r B (fun _ => k) = nextV B r := by unfold nextV; rw [HlB.out]
          rw [e1] at H
          have HL := Lib.hid (nextV_len (M := B) (v := r) |>.trans HlB.out)
          clear e1
          go_wp2_with (at_builtin; refine wpList_app rfl _ _ 61 rfl 24 j0 _ 1 24 Tryd.underlying61 hj y0 y1 y2 rfl (by decide) _ _ _ rfl (H.g1.alloc _) _ _ _ [.slice (some ⟨g, 0, none⟩) k k] rfl (Rd.fresh wr _ #[.slice (some ⟨g, 0, none⟩) k k] 1 1 rfl) (ocv rfl) (by unfold maxLen; omega) (by omega) ?_; intro v2 w2 H2; clear H)
          have H3 := (H2.g1.g2.rowsSnoc HL.out.symm).p1
          rw [HT.out] at H3
          clear H2
          go_wp2
          go_roundw
          case rel => exact ⟨i + 1, _, by omega, by go_num, H3⟩
          case measure => simp [intOf]; omega
    · obtain rfl : i = N := by omega
      have hl : (mulM A B).length = i := by unfold mulM; rw [List.length_map]; exact HlA.out
      rw [List.take_of_length_le (by omega)] at H
      clear hl
      go_wp2
      go_ret
      exact ⟨_, _, rfl, H⟩
set_option maxRecDepth 100000 in
set_option maxHeartbeats 1600000 in
theorem spec_times_c {va vb : Value} {A B : List (List Int)} {N : Nat} (w : World) (ha : IntSSRd w 0 w.heap.size va A) (hb : IntSSRd w 0 w.heap.size vb B) (hN1 : 1 ≤ N) (hN : N ≤ 16) (hlA : A.length = N) (hlB : B.length = N) (hA : ∀ r ∈ A, r.length = N) (hB : ∀ r ∈ B, r.length = N) :
    Calls Tryd.prog 97 #[va, vb] w fun e w' => ∃ v vs, e = .returned v ∧ Sep w w' [Res.row v 24 1 N vs, Res.rows vs (mulM A B)] := by
  obtain ⟨i0, hi, hz0, hz1, hz2⟩ := info_parts infoIntM
  obtain ⟨j0, hj, y0, y1, y2⟩ := info_parts infoIntsM
  obtain ⟨bA, oA, cA, rfl, hbA, HA⟩ := ha.shape (by omega)
  obtain ⟨bB, oB, cB, rfl, hbB, HB⟩ := hb.shape (by omega)
  rw [hlA, hlB]
  have HA := Lib.hid HA
  have HB := Lib.hid HB
  have HlA := Lib.hid hlA
  have HlB := Lib.hid hlB
  have HrA := Lib.hid hA
  have HrB := Lib.hid hB
  have hmk := fun W => run_make_rowN (P := Tryd.prog) 24 3 i0 _ Tryd.underlying24 hi hz0 .i64 .i64 N N (Nat.le_refl _) (by rw [hz2]; omega) (by omega) W
  rw [hz1, Nat.mul_one] at hmk
  change ∀ W : World, _ = Result.ok _ (W.alloc (.cells (madeCells #[.int .i64 0] N) 3)) at hmk
  have H0 := ((Sep.start w).rowBox 24 #[] 1 0 rfl (by decide)).rowsNil.p1
  clear ha hb hlA hlB hA hB
  go_enter Tryd.func97, Tryd.ntmps97
  go_wp2
  go_loopw [5, 6] (fun pv iv wx => ∃ (i : Nat) (vs : List Value), i ≤ N ∧ iv = .int .i64 i ∧ Sep w wx [Res.row pv 24 1 i vs, Res.rows vs ((mulM A B).take i)]) (fun _ iv _ => N - (intOf iv).toNat)
  case atStart => exact ⟨0, [], Nat.zero_le _, rfl, H0⟩
  case round =>
    clear H0
    obtain ⟨i, vs, hiN, rfl, H⟩ := hrel
    by_cases hlt : i < N
    · obtain ⟨r, hr⟩ : ∃ r, A[i]? = some r := ⟨A[i]'(by rw [HlA.out]; exact hlt), List.getElem?_eq_getElem _⟩
      have hrl := HrA.out r (List.mem_of_getElem? hr)
      obtain ⟨gr, or, cr, xr, hgr, HR⟩ := HA.out i r hr (by omega)
      rw [hrl] at xr
      have HR := Lib.hid HR
      have HRL := Lib.hid hrl
      have HT := Lib.hid (mulM_take (B := B) hr)
      have H1 := H.rowBox 3 (madeCells #[.int .i64 0] N) 1 N (by rw [size_madeCells, Nat.mul_one]) (by unfold maxLen; omega)
      rw [made_ints, ← dotRow_zero (v := r) (M := B) (f := fun c => if c < 0 then N else 0) (fun _ _ => rfl)] at H1
      clear H hr hrl
      go_wp2
      generalize hW : wr.alloc (.cells (madeCells (#[.int .i64 0] : Array Value) N) 3) = W at *
      obtain ⟨g, hg⟩ : ∃ g, g = wr.heap.size := ⟨_, rfl⟩
      rw [← hg] at H1 ⊢
      clear hW hg
      go_loopw [8] (fun jv wx => ∃ j : Nat, j ≤ N ∧ jv = .int .i64 j ∧ Sep w wx [Res.row (.slice (some ⟨g, 0, none⟩) N N) 3 1 N (ic (dotRow N r B fun c => if c < j then N else 0)), Res.row u5 24 1 i vs, Res.rows vs ((mulM A B).take i)]) (fun kv _ => N - (intOf kv).toNat)
      case atStart => exact ⟨0, Nat.zero_le _, rfl, H1⟩
      case round =>
        clear H1
        obtain ⟨j, hjN, rfl, H⟩ := hrel
        by_cases hlj : j < N
        · rw [dotRow_congr (f := fun c => if c < j then N else if c = j then 0 else 0) (fun d _ => by split <;> simp)] at H
          go_wp2
          go_loopw [9] (fun kv wx => ∃ k : Nat, k ≤ N ∧ kv = .int .i64 k ∧ Sep w wx [Res.row (.slice (some ⟨g, 0, none⟩) N N) 3 1 N (ic (dotRow N r B fun c => if c < j then N else if c = j then k else 0)), Res.row u5 24 1 i vs, Res.rows vs ((mulM A B).take i)]) (fun kv _ => N - (intOf kv).toNat)
          case atStart => exact ⟨0, Nat.zero_le _, rfl, H⟩
          case round =>
            clear H
            obtain ⟨k, hkN, rfl, H⟩ := hrel
            by_cases hlk : k < N
            · obtain ⟨q, hq⟩ : ∃ q, B[k]? = some q := ⟨B[k]'(by rw [HlB.out]; exact hlk), List.getElem?_eq_getElem _⟩
              have hql := HrB.out q (List.mem_of_getElem? hq)
              obtain ⟨gq, oq, cq, xq, hgq, HQ⟩ := HB.out k q hq (by omega)
              rw [hql] at xq
              obtain ⟨a, ha⟩ : ∃ a, r[k]? = some a := ⟨r[k]'(by rw [HRL.out]; exact hlk), List.getElem?_eq_getElem _⟩
              have xa := HR.out k a ha
              obtain ⟨b, hbj⟩ : ∃ b, q[j]? = some b := ⟨q[j]'(by rw [hql]; exact hlj), List.getElem?_eq_getElem _⟩
              have xb := HQ j b hbj
              have HAA := Lib.hid (getD_get ha)
              have hdj := dotRow_at (v := r) (M := B) (f := fun c => if c < j then N else if c = j then k else 0) hlj
              simp only [Nat.lt_irrefl, if_false, if_true] at hdj
              obtain ⟨d, hd⟩ : ∃ d, d = dot r B j k := ⟨_, rfl⟩
              have hbel := H.below
              have x1 := own_cell1 H.h0 hdj
              rw [Nat.zero_add, ← hd] at x1
              have x2 := (hbel.cell (p := ⟨bA, oA + i, none⟩) hbA).trans xr
              have x3 := (hbel.cell (p := ⟨gr, or + k, none⟩) hgr).trans xa
              have x4 := (hbel.cell (p := ⟨bB, oB + k, none⟩) hbB).trans xq
              have x5 := (hbel.cell (p := ⟨gq, oq + j, none⟩) hgq).trans xb
              have x6 := own_free H.drew.h0 j
              rw [Nat.zero_add] at x6
              have HD : Hid (dot r B j (k + 1) = wrap64 (d + wrap64 (a * b))) := Lib.hid (by
                rw [hd, dot, HAA.out, at2_get hq hbj]; rfl)
              have H1 := H.drew.setRow (j := j) (by rw [ic_length, dotRow_len]; exact hlj) (.int .i64 (wrap64 (d + wrap64 (a * b))))
              rw [ic_set, ← HD.out, Nat.zero_add] at H1
              rw [dotRow_put (g := fun c => if c < j then N else if c = j then k + 1 else 0) (by intro d _ hd; simp only [if_neg hd]) (by simp)] at H1
              clear H hbj hdj hd hbel hq hql ha HQ
              go_wp2_with fail
              refine wp_region_stq 23 (by kernel_rfl) (by kernel_rfl) ?_
              simp only [List.take_succ_cons, List.take_zero, List.drop_succ_cons, List.drop_zero]
              repeat (first | go_big_quiet_skip | (go_big_quiet_want; go_big_quiet_op; first | go_big_quiet_on | (apply Exists.intro; refine ⟨?_, ?_⟩; focus (fail); go_big_quiet_on)))
              refine wpQuiet_nil ?_
              go_wp2
              clear x1 x2 x3 x4 x5 x6 xb xa xq
              go_roundw
              case rel => exact ⟨k + 1, by omega, by go_num, by rw [HD.out] at H1; exact H1⟩
              case measure => simp [intOf]; omega
            · obtain rfl : k = N := by omega
              rw [dotRow_congr (f := fun c => if c < j + 1 then k else 0) (ite_col j k)] at H
              go_wp2
              go_roundw
              case rel => exact ⟨j + 1, by omega, by go_num, H⟩
              case measure => simp [intOf]; omega
        · obtain rfl : j = N := by omega
          have e1 : dotRow j r B (fun c => if c < j then j else 0) = nextV B r := by unfold nextV; rw [HlB.out]; exact dotRow_congr fun d hd => if_pos hd
          rw [e1] at H
          have HL := Lib.hid (nextV_len (M := B) (v := r) |>.trans HlB.out)
          clear e1
          go_wp2_with (at_builtin; refine wpList_app rfl _ _ 61 rfl 24 j0 _ 1 24 Tryd.underlying61 hj y0 y1 y2 rfl (by decide) _ _ _ rfl (H.g1.alloc _) _ _ _ [.slice (some ⟨g, 0, none⟩) j j] rfl (Rd.fresh wr _ #[.slice (some ⟨g, 0, none⟩) j j] 1 1 rfl) (ocv rfl) (by unfold maxLen; omega) (by omega) ?_; intro v2 w2 H2; clear H)
          have H3 := (H2.g1.g2.rowsSnoc HL.out.symm).p1
          rw [HT.out] at H3
          clear H2
          go_wp2
          go_roundw
          case rel => exact ⟨i + 1, _, by omega, by go_num, H3⟩
          case measure => simp [intOf]; omega
    · obtain rfl : i = N := by omega
      have hl : (mulM A B).length = i := by unfold mulM; rw [List.length_map]; exact HlA.out
      rw [List.take_of_length_le (by omega)] at H
      clear hl
      go_wp2
      go_ret
      exact ⟨_, _, rfl, H⟩
end Go.Proofs.YtdbneilhgckhjaaDoor
