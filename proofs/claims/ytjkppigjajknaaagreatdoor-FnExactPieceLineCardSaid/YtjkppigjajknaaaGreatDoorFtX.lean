
/-
  The program's search: its table of placements by their cells. The program's search: it fills what is free, and tells a visitor each tiling. The tiling that is reached after some others: the program's walk. Is there a tiling, and which comes first? The program's walks.
-/
import Derived.Test.YtjkppigjajknaaaGreatDoorRowX
import Derived.Test.YtjkppigjajknaaaGreatDoorTilP
import Derived.Test.YtjkppigjajknaaaGreatDoorMskX
import Derived.Laws.EntriesVeiled
import Derived.Test.YtjkppigjajknaaaGreatDoorFlipX
import Derived.Test.YtjkppigjajknaaaGreatDoorSepX
import Derived.Deep.DeepCutAuto
import Derived.Test.YtjkppigjajknaaaGreatDoorAllX
namespace Go.Proofs.YtjkppigjajknaaaGreatDoor
open Go.RowKit

set_option maxRecDepth 100000 in
theorem infoInt8 : (Tryz.prog.info? 3).map (fun i => (i.zero, i.size, i.bytes)) = some (some (.int .i64 0), 1, 8) := by kernel_rfl
/-- the placements with a cell, for each cell -/
def atM (B : List Nat) : List (List Int) := (List.range 64).map fun j => nl (B.filter fun m => m.testBit j)
/-- .. when m has come in at the cells below k -/
def atK (B : List Nat) (m k : Nat) : List (List Int) := (List.range 64).map fun j => nl (B.filter fun m => m.testBit j) ++ if j < k ∧ m.testBit j = true then [(m : Int)] else []
theorem atM_at {B : List Nat} {j : Nat} (h : j < 64) : (atM B)[j]? = some (nl (B.filter fun m => m.testBit j)) := by simp [atM, h]
theorem atK_at {B : List Nat} {m k j : Nat} (h : j < 64) : (atK B m k)[j]? = some (nl (B.filter fun m => m.testBit j) ++ if j < k ∧ m.testBit j = true then [(m : Int)] else []) := by simp [atK, h]
theorem atK_zero {B : List Nat} {m : Nat} : atK B m 0 = atM B := by
  unfold atK atM
  apply List.map_congr_left
  intro j _
  simp
theorem nl_append {B C : List Nat} : nl (B ++ C) = nl B ++ nl C := by simp [nl]
theorem atK_end {B : List Nat} {m k : Nat} (h : m < 2 ^ k) : atK B m k = atM (B ++ [m]) := by
  unfold atK atM
  apply List.map_congr_left
  intro j _
  rw [List.filter_append, nl_append]
  congr 1
  cases hb : m.testBit j
  · simp [hb, nl]
  · have : j < k := by
      rcases Nat.lt_or_ge j k with q | q
      · exact q
      · rw [Nat.testBit_lt_two_pow (Nat.lt_of_lt_of_le h (Nat.pow_le_pow_right (by decide) q))] at hb; cases hb
    simp [hb, nl, this]
theorem atK_no {B : List Nat} {m k : Nat} (h : m.testBit k = false) : atK B m (k + 1) = atK B m k := by
  unfold atK
  apply List.map_congr_left
  intro j _
  congr 1
  by_cases e : j = k
  · subst e; simp [h]
  · have : (j < k + 1) ↔ (j < k) := by omega
    simp [this]
theorem atK_row {B : List Nat} {m k : Nat} (hk : k < 64) : (atK B m k)[k]? = some (nl (B.filter fun m => m.testBit k)) := by
  rw [atK_at hk]; simp
theorem atK_len {B : List Nat} {m k : Nat} : (atK B m k).length = 64 := by simp [atK]
theorem atK_yes {B : List Nat} {m k : Nat} (hk : k < 64) (h : m.testBit k = true) : (atK B m k).set k (nl (B.filter fun m => m.testBit k) ++ [(m : Int)]) = atK B m (k + 1) := by
  apply List.ext_getElem?
  intro j
  by_cases hj : j < 64
  · rw [atK_at hj]
    by_cases e : j = k
    · subst e
      rw [List.getElem?_set_self (by rw [atK_len]; exact hj)]
      simp [h]
    · rw [List.getElem?_set_ne (fun q => e q.symm), atK_at hj]
      have : (j < k + 1) ↔ (j < k) := by omega
      simp [this]
  · rw [List.getElem?_eq_none (by rw [List.length_set, atK_len]; omega), List.getElem?_eq_none (by rw [atK_len]; omega)]
/-- the search's block -/
def schCells (vs : List Value) (fv : Value) : Array Value := (vs ++ [fv, .nilFunc]).toArray
set_option maxRecDepth 100000 in
theorem sch_zero (fv : Value) : Tryz.zeroCells103.setIfInBounds 64 fv = schCells (List.replicate 64 (.slice none 0 0)) fv := by
  have h : Tryz.zeroCells103 = (List.replicate 64 (Value.slice none 0 0) ++ [Value.nilFunc, Value.nilFunc]).toArray := by kernel_rfl
  rw [h]; rfl
theorem sch_set {vs : List Value} {fv u : Value} {k : Nat} (hk : k < vs.length) : (schCells vs fv).setIfInBounds k u = schCells (vs.set k u) fv := by
  unfold schCells
  rw [List.setIfInBounds_toArray, List.set_append_left _ _ hk]
theorem sch_at {vs : List Value} {fv : Value} {k : Nat} (hk : k < vs.length) : (schCells vs fv)[k]? = vs[k]? := by
  unfold schCells
  rw [List.getElem?_toArray, List.getElem?_append_left hk]
theorem Sep.nils {w0 w : World} {L : List Res} (h : Sep w0 w L) (n : Nat) : Sep w0 w (Res.rows (List.replicate n (.slice none 0 0)) (List.replicate n []) :: L) := by
  have hnil : ∀ u ∈ List.replicate n (Value.slice none 0 0), u = .slice none 0 0 := fun u hu => List.eq_of_mem_replicate hu
  refine h.new (Below.refl _ _) ⟨by simp, fun i u r hu hr => ?_, fun i j u u' _ hu _ b hb => ?_⟩ (fun b ⟨u, hu, hb⟩ => ?_)
  · obtain rfl := hnil u (List.mem_of_getElem? hu)
    obtain rfl := List.eq_of_mem_replicate (List.mem_of_getElem? hr)
    exact World.ownsRow_nil _ _ _ _
  · obtain rfl := hnil u (List.mem_of_getElem? hu)
    simp [Value.ownBlock] at hb
  · obtain rfl := hnil u hu
    simp [Value.ownBlock] at hb
theorem atM_nil : atM [] = List.replicate 64 [] := by decide
set_option maxRecDepth 100000 in
set_option maxHeartbeats 1600000 in
theorem newSearch_c {v : Value} {A : List Nat}{F : FuncId} {caps : Array Value} (w : World) (h : IntsRd w 0 w.heap.size v (nl A)) (hA : ∀ m ∈ A, m < 2 ^ 36) (hl : A.length ≤ 1000000) :
    Calls Tryz.prog 96 #[v, Value.func (.func F) #[] caps] w fun e w' => ∃ vs, e = .returned (.pointer (some ⟨w.heap.size, 0, none⟩)) ∧ vs.length = 64 ∧ Sep w w' [Res.box w.heap.size 103 (schCells vs (Value.func (.func F) #[] caps)), Res.rows vs (atM A)] := by
  obtain ⟨j0, hj, hy0, hy1, hy2⟩ := info_parts infoInt8
  obtain ⟨Av, cv, rfl, hm, hr⟩ := h
  obtain ⟨n, hn⟩ : ∃ n, n = A.length := ⟨_, rfl⟩
  have e0 : (nl A).length = n := by rw [hn]; simp [nl]
  rw [e0] at hm hr ⊢
  rw [← hn] at hl
  obtain ⟨fv, hfv⟩ : ∃ fv, fv = Value.func (.func F) #[] caps := ⟨_, rfl⟩
  have H0 := (((Sep.start w).nils 64).box 103 (Tryz.zeroCells103.setIfInBounds 64 (Value.func (.func F) #[] caps)))
  rw [sch_zero, ← atM_nil, ← hfv] at H0
  obtain ⟨gs, hgs⟩ : ∃ gs, gs = w.heap.size := ⟨_, rfl⟩
  rw [← hgs] at H0 ⊢
  have HR := Lib.hid hr
  have HA := Lib.hid hA
  have HN := Lib.hid hn
  have HFV := Lib.hid hfv
  clear e0 hr hA hn
  go_enter Tryz.func96, Tryz.ntmps96
  go_upto_region 2 with fail
  rw [← hgs, sch_zero, ← HFV.out]
  generalize (w.alloc (.cells (schCells (List.replicate 64 (.slice none 0 0)) fv) 103)) = W at *
  obtain ⟨Z, hZ⟩ : ∃ Z, Z = schCells (List.replicate 64 (.slice none 0 0)) fv := ⟨_, rfl⟩
  rw [← hZ]
  clear hgs hfv hZ
  go_wp2
  go_loopw [14] (fun iv wx => ∃ (i : Nat) (vs : List Value), i ≤ n ∧ iv = .int .i64 i ∧ Hid (vs.length = 64) ∧ Sep w wx [Res.box gs 103 (schCells vs fv), Res.rows vs (atM (A.take i))]) (fun iv _ => n - (intOf iv).toNat)
  case atStart => exact ⟨0, List.replicate 64 (.slice none 0 0), Nat.zero_le _, rfl, Lib.hid (by simp), H0⟩
  case round =>
    clear H0
    obtain ⟨i, vs, hi, rfl, HVL, H⟩ := hrel
    by_cases hlt : i < n
    · have hlti : (i : Int) < (n : Int) := by omega
      obtain ⟨m, hm1⟩ : ∃ m, A[i]? = some m := ⟨A[i]'(by rw [← HN.out]; exact hlt), List.getElem?_eq_getElem _⟩
      obtain ⟨b, off, hA1, _, hb, hc⟩ := HR.out.2 (by omega)
      subst hA1
      have x1 := hc i (.int .i64 m) (by simp [ic, nl, hm1])
      have y1 := (H.below.cell (p := ⟨b, off + i, none⟩) hb).trans x1
      have HM1 := Lib.hid hm1
      have HM36 : Hid (m < 2 ^ 36) := Lib.hid (HA.out m (List.mem_of_getElem? hm1))
      have H1 : Sep w wr [Res.box gs 103 (schCells vs fv), Res.rows vs (atK (A.take i) m 0)] := by rw [atK_zero]; exact H
      have HTK : Hid (A.take (i + 1) = A.take i ++ [m]) := Lib.hid (by rw [List.take_add_one, hm1]; rfl)
      obtain ⟨B, hB⟩ : ∃ B, B = A.take i := ⟨_, rfl⟩
      rw [← hB] at H1 HTK
      have HBL : Hid (B.length ≤ 1000000) := Lib.hid (by rw [hB, List.length_take]; omega)
      clear hm1 hc x1 H hB
      go_wp2
      clear y1
      go_loopw [8] (fun kv wx => ∃ (k : Nat) (vs : List Value), k ≤ 36 ∧ kv = .int .i64 k ∧ Hid (vs.length = 64) ∧ Sep w wx [Res.box gs 103 (schCells vs fv), Res.rows vs (atK B m k)]) (fun kv _ => 37 - (intOf kv).toNat)
      case atStart => exact ⟨0, vs, by omega, rfl, HVL, H1⟩
      case round =>
        clear H1 HVL
        obtain ⟨k, vs, hk, rfl, HVL, H⟩ := hrel
        by_cases hz : (m : Int) / 2 ^ k = 0
        · have hzd : ((m : Int) / 2 ^ k != 0) = false := by simpa using hz
          have HE : Hid (atK B m k = atM (A.take (i + 1))) := Lib.hid (by rw [HTK.out]; exact atK_end (shr_zero.1 hz))
          clear hz
          go_wp2
          go_roundw
          case rel => exact ⟨i + 1, vs, by omega, by go_num, HVL, by rw [← HE.out]; exact H⟩
          case measure => simp [intOf]; omega
        · have hzd : ((m : Int) / 2 ^ k != 0) = true := by simpa using hz
          have hk35 : k < 36 := by
            rcases Nat.lt_or_ge k 36 with h | h
            · exact h
            · obtain rfl : k = 36 := by omega
              exact absurd (shr_zero.2 HM36.out) hz
          have hbit := bit_test (m := m) (x := k) (by have := HM36.out; omega)
          clear hz
          cases hb2 : m.testBit k
          · rw [hb2] at hbit
            have HC : Hid (atK B m (k + 1) = atK B m k) := Lib.hid (atK_no hb2)
            clear hb2
            go_wp2
            go_roundw
            case rel => exact ⟨k + 1, vs, by omega, by go_num, HVL, by rw [HC.out]; exact H⟩
            case measure => simp [intOf]; omega
          · rw [hb2] at hbit
            obtain ⟨r, hr⟩ : ∃ r, r = nl (B.filter fun m => m.testBit k) := ⟨_, rfl⟩
            have HC : Hid ((atK B m k).set k (r ++ [(m : Int)]) = atK B m (k + 1)) := Lib.hid (by rw [hr]; exact atK_yes (by omega) hb2)
            have HRL : Hid (r.length ≤ 1000000) := Lib.hid (by
              rw [hr]
              unfold nl
              rw [List.length_map]
              exact Nat.le_trans (List.length_filter_le _ _) HBL.out)
            have hrow : (atK B m k)[k]? = some r := by rw [hr]; exact atK_row (by omega)
            obtain ⟨u, hu⟩ : ∃ u, vs[k]? = some u := ⟨vs[k]'(by rw [HVL.out]; omega), List.getElem?_eq_getElem _⟩
            have H2 := (((H.g1.rowsTake hu hrow).rowBox 3 #[.int .i64 (m : Int)] 1 1 rfl (by decide)).g1).drew
            obtain ⟨Au, cu, rfl, _, _, _⟩ := Res.row_at H2.h0
            have hkv : k < vs.length := by rw [HVL.out]; omega
            have x0 : (wr.alloc (.cells #[.int .i64 (m : Int)] 3)).drew.cell? ⟨gs, k, none⟩ = some (.slice Au r.length cu) := by
              have := H2.h3.cell k
              rw [sch_at hkv, hu] at this
              exact this
            have xr : wr.drew.cell? ⟨gs, k, none⟩ = some (.slice Au r.length cu) := by
              have := Blk.cell H.h0 k
              rw [sch_at hkv, hu] at this
              exact this
            have HT := own_take (k := 1) H2.h1 (Nat.le_refl _)
            have hrl := HRL.out
            have k1 : (0 : Int) ≤ (k : Int) := by omega
            have k2 : (k : Int) < 64 := by omega
            have k3 : k < 64 := by omega
            clear hr hrow hu hb2 H
            go_wp2_with fail
            go_region_law (refine step_app rfl (.tmp 36) (.tmp 38) 29 (by rfl) 3 j0 _ 1 8 Tryz.underlying29 hj hy0 hy1 hy2 rfl (by decide) _ _ _ (by rfl) H2 _ _ _ [.int .i64 (m : Int)] (by rfl) HT oc1 (by unfold maxLen; omega) (by omega) ?_; intro v5 w5 H5; obtain ⟨A5, c5, rfl, _, _, _⟩ := Res.row_at H5.h0; have y1 := H5.h3.cell k; rw [sch_at hkv] at y1; have f1 := H5.h3.frozen k)
            all_goals
              have HV2 : Hid ((vs.set k (.slice A5 (r.length + 1) c5)).length = 64) := Lib.hid (by rw [List.length_set]; exact HVL.out)
              have H6 := H5.drop2.g1
              rw [show ic r ++ [Value.int .i64 (m : Int)] = ic (r ++ [(m : Int)]) from (ic_append r [(m : Int)]).symm] at H6
              have H7 := ((H6.rowsPut (by simp) k).g1).set_ k (.slice A5 (r.length + 1) c5)
              rw [sch_set hkv, List.set_set, List.set_set, HC.out] at H7
              clear H5 H6 x0 xr HT H2 y1 f1
              go_wp2
              go_roundw
              case rel => exact ⟨k + 1, _, by omega, by go_num, HV2, H7⟩
              case measure => simp [intOf]; omega
    · obtain rfl : i = n := by omega
      rw [HN.out, List.take_length] at H
      go_wp2
      go_ret
      exact ⟨vs, rfl, HVL.out, by rw [← HFV.out]; exact H⟩
set_option maxRecDepth 100000 in
set_option maxHeartbeats 1600000 in
theorem newSearchN_c {v : Value} {A : List Nat} (w : World) (h : IntsRd w 0 w.heap.size v (nl A)) (hA : ∀ m ∈ A, m < 2 ^ 36) (hl : A.length ≤ 1000000) :
    Calls Tryz.prog 96 #[v, Value.nilFunc] w fun e w' => ∃ vs, e = .returned (.pointer (some ⟨w.heap.size, 0, none⟩)) ∧ vs.length = 64 ∧ Sep w w' [Res.box w.heap.size 103 (schCells vs (Value.nilFunc)), Res.rows vs (atM A)] := by
  obtain ⟨j0, hj, hy0, hy1, hy2⟩ := info_parts infoInt8
  obtain ⟨Av, cv, rfl, hm, hr⟩ := h
  obtain ⟨n, hn⟩ : ∃ n, n = A.length := ⟨_, rfl⟩
  have e0 : (nl A).length = n := by rw [hn]; simp [nl]
  rw [e0] at hm hr ⊢
  rw [← hn] at hl
  obtain ⟨fv, hfv⟩ : ∃ fv, fv = Value.nilFunc := ⟨_, rfl⟩
  have H0 := (((Sep.start w).nils 64).box 103 (Tryz.zeroCells103.setIfInBounds 64 (Value.nilFunc)))
  rw [sch_zero, ← atM_nil, ← hfv] at H0
  obtain ⟨gs, hgs⟩ : ∃ gs, gs = w.heap.size := ⟨_, rfl⟩
  rw [← hgs] at H0 ⊢
  have HR := Lib.hid hr
  have HA := Lib.hid hA
  have HN := Lib.hid hn
  have HFV := Lib.hid hfv
  clear e0 hr hA hn
  go_enter Tryz.func96, Tryz.ntmps96
  go_upto_region 2 with fail
  rw [← hgs, sch_zero, ← HFV.out]
  generalize (w.alloc (.cells (schCells (List.replicate 64 (.slice none 0 0)) fv) 103)) = W at *
  obtain ⟨Z, hZ⟩ : ∃ Z, Z = schCells (List.replicate 64 (.slice none 0 0)) fv := ⟨_, rfl⟩
  rw [← hZ]
  clear hgs hfv hZ
  go_wp2
  go_loopw [14] (fun iv wx => ∃ (i : Nat) (vs : List Value), i ≤ n ∧ iv = .int .i64 i ∧ Hid (vs.length = 64) ∧ Sep w wx [Res.box gs 103 (schCells vs fv), Res.rows vs (atM (A.take i))]) (fun iv _ => n - (intOf iv).toNat)
  case atStart => exact ⟨0, List.replicate 64 (.slice none 0 0), Nat.zero_le _, rfl, Lib.hid (by simp), H0⟩
  case round =>
    clear H0
    obtain ⟨i, vs, hi, rfl, HVL, H⟩ := hrel
    by_cases hlt : i < n
    · have hlti : (i : Int) < (n : Int) := by omega
      obtain ⟨m, hm1⟩ : ∃ m, A[i]? = some m := ⟨A[i]'(by rw [← HN.out]; exact hlt), List.getElem?_eq_getElem _⟩
      obtain ⟨b, off, hA1, _, hb, hc⟩ := HR.out.2 (by omega)
      subst hA1
      have x1 := hc i (.int .i64 m) (by simp [ic, nl, hm1])
      have y1 := (H.below.cell (p := ⟨b, off + i, none⟩) hb).trans x1
      have HM1 := Lib.hid hm1
      have HM36 : Hid (m < 2 ^ 36) := Lib.hid (HA.out m (List.mem_of_getElem? hm1))
      have H1 : Sep w wr [Res.box gs 103 (schCells vs fv), Res.rows vs (atK (A.take i) m 0)] := by rw [atK_zero]; exact H
      have HTK : Hid (A.take (i + 1) = A.take i ++ [m]) := Lib.hid (by rw [List.take_add_one, hm1]; rfl)
      obtain ⟨B, hB⟩ : ∃ B, B = A.take i := ⟨_, rfl⟩
      rw [← hB] at H1 HTK
      have HBL : Hid (B.length ≤ 1000000) := Lib.hid (by rw [hB, List.length_take]; omega)
      clear hm1 hc x1 H hB
      go_wp2
      clear y1
      go_loopw [8] (fun kv wx => ∃ (k : Nat) (vs : List Value), k ≤ 36 ∧ kv = .int .i64 k ∧ Hid (vs.length = 64) ∧ Sep w wx [Res.box gs 103 (schCells vs fv), Res.rows vs (atK B m k)]) (fun kv _ => 37 - (intOf kv).toNat)
      case atStart => exact ⟨0, vs, by omega, rfl, HVL, H1⟩
      case round =>
        clear H1 HVL
        obtain ⟨k, vs, hk, rfl, HVL, H⟩ := hrel
        by_cases hz : (m : Int) / 2 ^ k = 0
        · have hzd : ((m : Int) / 2 ^ k != 0) = false := by simpa using hz
          have HE : Hid (atK B m k = atM (A.take (i + 1))) := Lib.hid (by rw [HTK.out]; exact atK_end (shr_zero.1 hz))
          clear hz
          go_wp2
          go_roundw
          case rel => exact ⟨i + 1, vs, by omega, by go_num, HVL, by rw [← HE.out]; exact H⟩
          case measure => simp [intOf]; omega
        · have hzd : ((m : Int) / 2 ^ k != 0) = true := by simpa using hz
          have hk35 : k < 36 := by
            rcases Nat.lt_or_ge k 36 with h | h
            · exact h
            · obtain rfl : k = 36 := by omega
              exact absurd (shr_zero.2 HM36.out) hz
          have hbit := bit_test (m := m) (x := k) (by have := HM36.out; omega)
          clear hz
          cases hb2 : m.testBit k
          · rw [hb2] at hbit
            have HC : Hid (atK B m (k + 1) = atK B m k) := Lib.hid (atK_no hb2)
            clear hb2
            go_wp2
            go_roundw
            case rel => exact ⟨k + 1, vs, by omega, by go_num, HVL, by rw [HC.out]; exact H⟩
            case measure => simp [intOf]; omega
          · rw [hb2] at hbit
            obtain ⟨r, hr⟩ : ∃ r, r = nl (B.filter fun m => m.testBit k) := ⟨_, rfl⟩
            have HC : Hid ((atK B m k).set k (r ++ [(m : Int)]) = atK B m (k + 1)) := Lib.hid (by rw [hr]; exact atK_yes (by omega) hb2)
            have HRL : Hid (r.length ≤ 1000000) := Lib.hid (by
              rw [hr]
              unfold nl
              rw [List.length_map]
              exact Nat.le_trans (List.length_filter_le _ _) HBL.out)
            have hrow : (atK B m k)[k]? = some r := by rw [hr]; exact atK_row (by omega)
            obtain ⟨u, hu⟩ : ∃ u, vs[k]? = some u := ⟨vs[k]'(by rw [HVL.out]; omega), List.getElem?_eq_getElem _⟩
            have H2 := (((H.g1.rowsTake hu hrow).rowBox 3 #[.int .i64 (m : Int)] 1 1 rfl (by decide)).g1).drew
            obtain ⟨Au, cu, rfl, _, _, _⟩ := Res.row_at H2.h0
            have hkv : k < vs.length := by rw [HVL.out]; omega
            have x0 : (wr.alloc (.cells #[.int .i64 (m : Int)] 3)).drew.cell? ⟨gs, k, none⟩ = some (.slice Au r.length cu) := by
              have := H2.h3.cell k
              rw [sch_at hkv, hu] at this
              exact this
            have xr : wr.drew.cell? ⟨gs, k, none⟩ = some (.slice Au r.length cu) := by
              have := Blk.cell H.h0 k
              rw [sch_at hkv, hu] at this
              exact this
            have HT := own_take (k := 1) H2.h1 (Nat.le_refl _)
            have hrl := HRL.out
            have k1 : (0 : Int) ≤ (k : Int) := by omega
            have k2 : (k : Int) < 64 := by omega
            have k3 : k < 64 := by omega
            clear hr hrow hu hb2 H
            go_wp2_with fail
            go_region_law (refine step_app rfl (.tmp 36) (.tmp 38) 29 (by rfl) 3 j0 _ 1 8 Tryz.underlying29 hj hy0 hy1 hy2 rfl (by decide) _ _ _ (by rfl) H2 _ _ _ [.int .i64 (m : Int)] (by rfl) HT oc1 (by unfold maxLen; omega) (by omega) ?_; intro v5 w5 H5; obtain ⟨A5, c5, rfl, _, _, _⟩ := Res.row_at H5.h0; have y1 := H5.h3.cell k; rw [sch_at hkv] at y1; have f1 := H5.h3.frozen k)
            all_goals
              have HV2 : Hid ((vs.set k (.slice A5 (r.length + 1) c5)).length = 64) := Lib.hid (by rw [List.length_set]; exact HVL.out)
              have H6 := H5.drop2.g1
              rw [show ic r ++ [Value.int .i64 (m : Int)] = ic (r ++ [(m : Int)]) from (ic_append r [(m : Int)]).symm] at H6
              have H7 := ((H6.rowsPut (by simp) k).g1).set_ k (.slice A5 (r.length + 1) c5)
              rw [sch_set hkv, List.set_set, List.set_set, HC.out] at H7
              clear H5 H6 x0 xr HT H2 y1 f1
              go_wp2
              go_roundw
              case rel => exact ⟨k + 1, _, by omega, by go_num, HV2, H7⟩
              case measure => simp [intOf]; omega
    · obtain rfl : i = n := by omega
      rw [HN.out, List.take_length] at H
      go_wp2
      go_ret
      exact ⟨vs, rfl, HVL.out, by rw [← HFV.out]; exact H⟩
end Go.Proofs.YtjkppigjajknaaaGreatDoor

namespace Go.Proofs.YtjkppigjajknaaaGreatDoor
open Go.RowKit

theorem Only.tr {D : Nat → Prop} {w w1 w2 : World} (h1 : Only D w w1) (h2 : Only D w1 w2) : Only D w w2 := ⟨h2.os.trans h1.os, h2.tape.trans h1.tape, h2.output.trans h1.output, Nat.le_trans h1.size h2.size, fun b hb hd => (h2.block b (Nat.lt_of_lt_of_le hb h1.size) hd).trans (h1.block b hb hd)⟩
theorem Only.rfl' {D : Nat → Prop} (w : World) : Only D w w := ⟨rfl, rfl, rfl, Nat.le_refl _, fun _ _ _ => rfl⟩
theorem SameIn.of_only {D : Nat → Prop} {lo hi : Nat} {w w' : World} (h : Only D w w') (h1 : hi ≤ w.heap.size) (h2 : ∀ b, D b → b < lo) : SameIn lo hi w w' := fun b hb1 hb2 => h.block b (by omega) (fun hd => by have := h2 b hd; omega)
/-- a visitor: what it keeps (I, in the blocks D below Bd), whether it goes on -/
structure Vis (A : List Nat) (vs : List Value) (gs Bd : Nat) (F : FuncId) (caps : Array Value) (D : Nat → Prop) (I : List (List Nat) → World → Prop) (go : List (List Nat) → List Nat → Bool) : Prop where
  enter : ∀ args w, (callFunc F args).run Tryz.prog w = .ok (.enter F args) w
  dom : ∀ b, D b → b < Bd
  len : vs.length = 64
  box : ∀ {seen w}, I seen w → Blk w gs 103 (schCells vs (.func (.func F) #[] caps))
  slots : ∀ {seen w}, I seen w → IntSlots w 0 Bd vs (atM A)
  keep : ∀ {seen w w'}, I seen w → Below w.heap.size w w' → I seen w'
  size : ∀ {seen w}, I seen w → Bd ≤ w.heap.size
  tab : ∀ {seen w}, I seen w → Tab64 w
  call : ∀ {seen w} {l : List Nat} {lv : Value}, I seen w → OI w Bd w.heap.size 3 1 lv l.length (ic (nl l)) → l.length ≤ 36 →
    Calls Tryz.prog F (#[lv] ++ caps) w fun e w' => e = .returned (.bool (go seen l)) ∧ I (seen ++ [l]) w' ∧ Only D w w'
theorem runV_one {go : List (List Nat) → List Nat → Bool} {seen : List (List Nat)} {l : List Nat} : runV go seen [l] = (seen ++ [l], go seen l) := by
  unfold runV
  cases go seen l <;> rfl
theorem runV_stop {go : List (List Nat) → List Nat → Bool} {X Y seen : List (List Nat)} (h : (runV go seen X).2 = false) : runV go seen (X ++ Y) = runV go seen X := by
  rw [runV_app, h]; simp
theorem runV_on {go : List (List Nat) → List Nat → Bool} {X Y seen : List (List Nat)} (h : (runV go seen X).2 = true) : runV go seen (X ++ Y) = runV go (runV go seen X).1 Y := by
  rw [runV_app, h]; simp
theorem tilL_app {pre : List Nat} {X Y : List (List Nat)} : tilL pre (X ++ Y) = tilL pre X ++ tilL pre Y := by simp [tilL]
/-- what the search has told behind j placements -/
def runJ (go : List (List Nat) → List Nat → Bool) (A : List Nat) (seen : List (List Nat)) (free : Nat) (l : List Nat) (B : List Nat) : List (List Nat) × Bool := runV go seen (tilL l (B.flatMap (tilAt A free)))
theorem runJ_snoc_no {go : List (List Nat) → List Nat → Bool} {A : List Nat} {seen : List (List Nat)} {free : Nat} {l B : List Nat} {m : Nat} (h : fitB free m = false) : runJ go A seen free l (B ++ [m]) = runJ go A seen free l B := by
  unfold runJ
  rw [List.flatMap_append, tilL_app, show [m].flatMap (tilAt A free) = tilAt A free m by simp, tilL_no h, List.append_nil]
theorem runJ_snoc {go : List (List Nat) → List Nat → Bool} {A : List Nat} {seen : List (List Nat)} {free : Nat} {l B : List Nat} {m : Nat} (h : fitB free m = true) (hf : (runJ go A seen free l B).2 = true) :
    runJ go A seen free l (B ++ [m]) = runV go (runJ go A seen free l B).1 (tilL (l ++ [m]) (til A (free - m))) := by
  unfold runJ at hf ⊢
  rw [List.flatMap_append, tilL_app, show [m].flatMap (tilAt A free) = tilAt A free m by simp, runV_on hf, tilL_at h]
theorem runJ_stop {go : List (List Nat) → List Nat → Bool} {A : List Nat} {seen : List (List Nat)} {free : Nat} {l B C : List Nat} (hf : (runJ go A seen free l B).2 = false) : runJ go A seen free l (B ++ C) = runJ go A seen free l B := by
  unfold runJ at hf ⊢
  rw [List.flatMap_append, tilL_app, runV_stop hf]
theorem andNot_ne {a b : Nat} (ha : a < 2 ^ 36) (hb : b < 2 ^ 36) : (bits .andNot .i64 (a : Int) (b : Int) != 0) = !(a &&& b == a) := by
  rw [bne, isMask_step (by omega) (by omega)]
theorem andNot_sub {a m : Nat} (h : m &&& a = m) (ha : a < 2 ^ 36) (hm : m < 2 ^ 36) : bits .andNot .i64 (a : Int) (m : Int) = ((a - m : Nat) : Int) := by
  rw [i64_andNot_nat a m (by omega) (by omega), sub_and h (by omega)]

set_option maxRecDepth 100000 in
theorem neq_nilFunc (w : World) : (binOp .neq 100 .nilFunc .nilFunc).run Tryz.prog w = .ok (.bool false) w := by rfl
def FillC (A : List Nat) (gs Bd : Nat) (D : Nat → Prop) (I : List (List Nat) → World → Prop) (go : List (List Nat) → List Nat → Bool) (free : Nat) : Prop :=
  ∀ (seen : List (List Nat)) (w : World) (l : List Nat) (lv : Value), I seen w → OI w Bd w.heap.size 3 1 lv l.length (ic (nl l)) → l.length + bitsN free 36 ≤ 36 →
    Calls Tryz.prog 99 #[.pointer (some ⟨gs, 0, none⟩), .int .i64 free, lv] w fun e w' => ∃ R, R = runV go seen (tilL l (til A free)) ∧ e = .returned (.bool R.2) ∧ I R.1 w' ∧ Only D w w'
section
variable {A : List Nat} {vs : List Value} {gs Bd : Nat} {F : FuncId} {caps : Array Value} {D : Nat → Prop} {I : List (List Nat) → World → Prop} {go : List (List Nat) → List Nat → Bool}
set_option maxRecDepth 100000 in
set_option maxHeartbeats 800000 in
theorem fill_zero (hV : Vis A vs gs Bd F caps D I go) : FillC A gs Bd D I go 0 := by
  intro seen w l lv hI hl hlen
  have hb := hV.box hI
  have c0 : w.cell? ⟨gs, 64, none⟩ = some (.func (.func F) #[] caps) := by
    rw [hb.cell]
    unfold schCells
    rw [List.getElem?_toArray, List.getElem?_append_right (by rw [hV.len]; exact Nat.le_refl _), hV.len]; rfl
  have HC := Lib.hid (hV.call hI hl (by omega))
  have HE := Lib.hid hV.enter
  have HR : Hid (runV go seen (tilL l (til A 0)) = (seen ++ [l], go seen l)) := Lib.hid (by rw [til_zero, show tilL l [[]] = [l] by simp [tilL], runV_one])
  obtain ⟨A1, c1, rfl, _, _⟩ := hl.rd
  clear hb hI hl hV
  go_enter Tryz.func99, Tryz.ntmps99
  go_wp2_with fail
  rw [HE.out, Oper.upon_enter]
  refine (HC.out).mono ?_
  rintro e w1 ⟨rfl, hI1, ho1⟩
  have HI1 := Lib.hid hI1
  clear hI1 c0 HC HE
  go_wp2
  go_ret
  exact ⟨_, rfl, by rw [HR.out]; rfl, by rw [HR.out]; exact HI1.out, ho1⟩
theorem bitsN_lt {m free : Nat} (h : fitB free m = true) (hf : free < 2 ^ 36) : bitsN (free - m) 36 + 1 ≤ bitsN free 36 := by
  have h2 := bitsN_sub (fit_and h) (by omega) 36
  have h3 : m.testBit (lowB free) = true := by unfold fitB at h; simp only [Bool.and_eq_true] at h; exact h.1
  have h4 : lowB free < 36 := by
    rcases Nat.lt_or_ge (lowB free) 36 with q | q
    · exact q
    · have := fit_le h
      rw [Nat.testBit_lt_two_pow (Nat.lt_of_lt_of_le (Nat.lt_of_le_of_lt this hf) (Nat.pow_le_pow_right (by decide) q))] at h3
      cases h3
  have h5 := bitsN_pos h3 36 h4
  omega
set_option maxRecDepth 100000 in
set_option maxHeartbeats 3200000 in
theorem fill_step (hV : Vis A vs gs Bd F caps D I go) (hA : ∀ m ∈ A, m < 2 ^ 36) {free : Nat} (h0 : free ≠ 0) (hf : free < 2 ^ 36) (ih : ∀ k, k < free → FillC A gs Bd D I go k) : FillC A gs Bd D I go free := by
  intro seen w l lv hI hl hlen
  obtain ⟨j0, hj, hy0, hy1, hy2⟩ := info_parts infoInt8
  have HV := Lib.hid hV
  have HIH := Lib.hid ih
  have HF := Lib.hid hf
  have H0 := Lib.hid h0
  have HLEN := Lib.hid hlen
  have hl36 : l.length ≤ 36 := by omega
  obtain ⟨low, hlow⟩ : ∃ low, low = lowB free := ⟨_, rfl⟩
  have HLOW := Lib.hid hlow
  have hl64 : low < 64 := by rw [hlow]; exact lowB_lt hf
  obtain ⟨B, hB⟩ : ∃ B, B = A.filter fun m => m.testBit low := ⟨_, rfl⟩
  have HB : Hid (til A free = B.flatMap (tilAt A free)) := Lib.hid (by rw [hB, hlow]; exact til_bit h0)
  have HBM : Hid (∀ m ∈ B, m < 2 ^ 36 ∧ m.testBit (lowB free) = true) := Lib.hid fun m hm => by
    rw [hB] at hm
    have := List.mem_filter.1 hm
    exact ⟨hA m this.1, by rw [← hlow]; exact this.2⟩
  have HROW : Hid ((atM A)[low]? = some (nl B)) := Lib.hid (by rw [hB]; exact atM_at hl64)
  have hbox := hV.box hI
  have hslots := hV.slots hI
  obtain ⟨u, hu, hru⟩ := hslots.2 low (nl B) HROW.out
  have HU := Lib.hid hu
  have hszB := hV.size hI
  have c0 : w.cell? ⟨gs, low, none⟩ = some u := by
    rw [hbox.cell, sch_at (by rw [hV.len]; exact hl64), hu]
  have l0 := Later.cell c0 hbox.lt
  have HTZ : Hid (∀ u : Later w, Calls Tryz.prog 139 #[.int .u64 free] u.w fun e w' => e = .returned (.int .i64 low) ∧ u.w = w') := Lib.hid fun u => by
    rw [hlow]
    exact tz_c u.w h0 hf (tab64_on (hV.tab hI) u.h)
  have hw : IntKind.u64.wrap (free : Int) = (free : Int) := by rw [IntKind.wrap_u64]; omega
  have hz : ((free : Int) == 0) = false := by simp; omega
  obtain ⟨Au, cu, rfl, hmu, hru2⟩ := hru
  have HRU := Lib.hid hru2
  obtain ⟨n, hn⟩ : ∃ n, n = B.length := ⟨_, rfl⟩
  have hnl : (nl B).length = n := by rw [hn]; simp [nl]
  rw [hnl] at l0 HRU hmu
  have HN := Lib.hid hn
  have HNL := Lib.hid hnl
  unfold maxLen at hmu
  have HI := Lib.hid hI
  have HL := Lib.hid hl
  obtain ⟨A1, c1, rfl, _, _⟩ := hl.rd
  have t1 : (0 : Int) ≤ (low : Int) := by omega
  have t2 : (low : Int) < 64 := by omega
  have HSP : Hid (Below w.heap.size w w) := Lib.hid (Below.refl _ _)
  clear hV ih hf h0 hlow hB hu hslots c0 hru2 hn hnl hI hl hA hlen hbox
  go_enter Tryz.func99, Tryz.ntmps99
  go_wp2_with fail
  refine wp_region_later (by kernel_rfl) (by kernel_rfl) ?_
  repeat (go_big_quiet_step ((go_at_call 139; with_reducible exact Later.same (HTZ.out _))))
  refine wpQuiet_nil ?_
  intro w3 hw3
  obtain ⟨u3, hu3⟩ := hw3
  subst hu3
  have HI3 := Lib.hid (HV.out.keep HI.out u3.h)
  have HO3 : Hid (Only D w u3.w) := Lib.hid (Only.of_below u3.h)
  clear l0 HTZ HI hw hz HSP
  generalize u3.w = w3 at *
  go_wp2
  go_loopw [26] (fun iv wx => ∃ j : Nat, j ≤ n ∧ iv = .int .i64 j ∧ Hid ((runJ go A seen free l (B.take j)).2 = true) ∧ Hid (I (runJ go A seen free l (B.take j)).1 wx) ∧ Hid (Only D w wx)) (fun iv _ => n - (intOf iv).toNat)
  case atStart => exact ⟨0, Nat.zero_le _, rfl, Lib.hid rfl, HI3, HO3⟩
  case round =>
    clear HI3 HO3
    obtain ⟨j, hjn, rfl, HFL, HI, HO⟩ := hrel
    by_cases hlt : j < n
    · have hlti : (j : Int) < (n : Int) := by omega
      obtain ⟨m, hm⟩ : ∃ m, B[j]? = some m := ⟨B[j]'(by rw [← HN.out]; exact hlt), List.getElem?_eq_getElem _⟩
      obtain ⟨hm36, hmlow⟩ := HBM.out m (List.mem_of_getElem? hm)
      have HM36 := Lib.hid hm36
      have HTK : Hid (B.take (j + 1) = B.take j ++ [m]) := Lib.hid (by rw [List.take_add_one, hm]; rfl)
      have HDR : Hid (B = B.take (j + 1) ++ B.drop (j + 1)) := Lib.hid (List.take_append_drop _ _).symm
      obtain ⟨x, hx, hrx⟩ := (HV.out.slots HI.out).2 low (nl B) HROW.out
      rw [HU.out] at hx
      injection hx with hx
      subst hx
      obtain ⟨Ax, cx, he, _, hrx2⟩ := hrx
      injection he with he1 he2 he3
      subst he1 he3
      rw [HNL.out] at hrx2
      obtain ⟨b, off, hA1, _, hb, hc⟩ := hrx2.2 (by omega)
      subst hA1
      have x1 := hc j (.int .i64 m) (by simp [ic, nl, hm])
      have HNE := andNot_ne hm36 HF.out
      have c65 : wr.cell? ⟨gs, 65, none⟩ = some .nilFunc := by
        rw [(HV.out.box HI.out).cell]
        unfold schCells
        rw [List.getElem?_toArray, List.getElem?_append_right (by rw [HV.out.len]; decide), HV.out.len]; rfl
      clear hm hrx2 hc he2
      have hneq := neq_nilFunc
      cases hsub : (m &&& free == m)
      · rw [hsub] at HNE
        have HS : Hid (runJ go A seen free l (B.take (j + 1)) = runJ go A seen free l (B.take j)) := Lib.hid (by
          rw [HTK.out]
          exact runJ_snoc_no (by unfold fitB; rw [hsub, Bool.and_false]))
        clear hsub hm36 hmlow c65
        go_wp2
        go_roundw
        case rel => exact ⟨j + 1, by omega, by go_num, by rw [HS.out]; exact HFL, by rw [HS.out]; exact HI, HO⟩
        case measure => simp [intOf]; omega
      · rw [hsub] at HNE
        have hfit : fitB free m = true := by unfold fitB; rw [hsub, hmlow]; rfl
        have HFIT := Lib.hid hfit
        have HSUB := andNot_sub (fit_and hfit) HF.out hm36
        have HS : Hid (runJ go A seen free l (B.take (j + 1)) = runV go (runJ go A seen free l (B.take j)).1 (tilL (l ++ [m]) (til A (free - m)))) := Lib.hid (by
          rw [HTK.out]
          exact runJ_snoc hfit HFL.out)
        have HIHK := Lib.hid (HIH.out (free - m) (fit_lt hfit))
        obtain ⟨f2, hf2⟩ : ∃ f2, f2 = free - m := ⟨_, rfl⟩
        rw [← hf2] at HSUB HS HIHK
        have HBN : Hid (bitsN f2 36 + 1 ≤ bitsN free 36) := Lib.hid (by rw [hf2]; exact bitsN_lt hfit HF.out)
        have HSZ : Hid (Bd ≤ wr.heap.size) := Lib.hid (HV.out.size HI.out)
        have HLW : Hid (OI wr Bd wr.heap.size 3 1 (.slice A1 l.length c1) l.length (ic (nl l))) := Lib.hid ((HL.out.keep (SameIn.of_only HO.out (Nat.le_refl _) HV.out.dom)).base (Nat.le_refl _) HO.out.size)
        have hnll : (nl l).length = l.length := by simp [nl]
        have HCP : Hid (Calls Tryz.prog 140 #[.slice A1 l.length c1] wr fun e w' => ∃ v', e = .returned v' ∧ OI w' wr.heap.size w'.heap.size 3 1 v' l.length (ic (nl l)) ∧ Below wr.heap.size wr w') := Lib.hid (by
          have := impl_copyInts_c (l := nl l) wr (by unfold IntsRd; rw [hnll]; exact HLW.out.sr.more (Nat.zero_le _) (Nat.le_refl _)) (by rw [hnll]; omega)
          refine this.mono ?_
          rintro e w' ⟨v', he, ho, hb⟩
          refine ⟨v', he, ?_, hb⟩
          unfold IntsIn at ho
          rw [hnll] at ho
          exact ho)
        clear hsub hm36 hmlow hfit hf2 hnll
        go_wp2_with fail
        refine (HCP.out).mono ?_
        rintro e w4 ⟨v4, rfl, o4, b4⟩
        have H4 := (Sep.start wr).oiNew b4 o4
        clear x1 c65 HCP o4 b4
        go_wp2_with (at_builtin; refine wpList_app rfl _ _ 29 rfl 3 j0 _ 1 8 Tryz.underlying29 hj hy0 hy1 hy2 rfl (by decide) _ _ _ rfl (H4.alloc _) _ _ _ [.int .i64 (m : Int)] rfl (Rd.fresh w4 _ #[.int .i64 (m : Int)] 1 1 rfl) oc1 (by unfold maxLen; omega) (by omega) ?_; intro v5 w5 H5; clear H4)
        have hO5 : OI w5 Bd w5.heap.size 3 1 v5 (l ++ [m]).length (ic (nl (l ++ [m]))) := by
          have e1 : ic (nl (l ++ [m])) = ic (nl l) ++ [.int .i64 (m : Int)] := by rw [nl_append, ic_append]; rfl
          have e2 : (l ++ [m]).length = l.length + 1 := by simp
          rw [e1, e2]
          exact H5.oi.base HSZ.out (Nat.le_refl _)
        have HCALL := Lib.hid (HIHK.out (runJ go A seen free l (B.take j)).1 w5 (l ++ [m]) v5 (HV.out.keep HI.out H5.below) hO5 (by
          have h1 := HBN.out
          have h2 := HLEN.out
          simp only [List.length_append, List.length_cons, List.length_nil]
          omega))
        have HO5 : Hid (Only D w w5) := Lib.hid (HO.out.tr (Only.of_below H5.below))
        clear H5 hO5
        refine (HCALL.out).mono ?_
        rintro e w6 ⟨R, hR, rfl, hI6, ho6⟩
        rw [← HS.out] at hR
        have HRR := Lib.hid hR
        have HI6 := Lib.hid hI6
        have HO6 : Hid (Only D w w6) := Lib.hid (HO5.out.tr ho6)
        clear hR hI6 ho6 HCALL HO5
        cases hR2 : R.2
        · have HFULL : Hid (R = runV go seen (tilL l (til A free))) := Lib.hid (by
            have h1 : (runJ go A seen free l (B.take (j + 1))).2 = false := by rw [← HRR.out]; exact hR2
            have h2 := runJ_stop (C := B.drop (j + 1)) h1
            rw [← HDR.out] at h2
            rw [HRR.out, ← h2, HB.out]; rfl)
          have HR2 := Lib.hid hR2
          clear hR2
          go_wp2
          go_ret
          exact ⟨R, HFULL.out, by rw [HR2.out]; rfl, HI6.out, HO6.out⟩
        · have HFL2 : Hid ((runJ go A seen free l (B.take (j + 1))).2 = true) := Lib.hid (by rw [← HRR.out]; exact hR2)
          have HI7 : Hid (I (runJ go A seen free l (B.take (j + 1))).1 w6) := Lib.hid (by rw [← HRR.out]; exact HI6.out)
          clear hR2
          go_wp2
          go_roundw
          case rel => exact ⟨j + 1, by omega, by go_num, HFL2, HI7, HO6⟩
          case measure => simp [intOf]; omega
    · obtain rfl : j = n := by omega
      have HS : Hid (runJ go A seen free l (B.take j) = runV go seen (tilL l (til A free))) := Lib.hid (by rw [HN.out, List.take_length, HB.out]; rfl)
      go_wp2
      go_ret
      exact ⟨_, rfl, by rw [← HS.out, HFL.out]; rfl, by rw [← HS.out]; exact HI.out, HO.out⟩
theorem fill_c (hV : Vis A vs gs Bd F caps D I go) (hA : ∀ m ∈ A, m < 2 ^ 36) : ∀ free, free < 2 ^ 36 → FillC A gs Bd D I go free := by
  intro free
  induction free using Nat.strongRecOn with
  | _ free ih =>
    intro hf
    by_cases h0 : free = 0
    · subst h0
      exact fill_zero hV
    · exact fill_step hV hA h0 hf fun k hk => ih k hk (by omega)
end
end Go.Proofs.YtjkppigjajknaaaGreatDoor

namespace Go.Proofs.YtjkppigjajknaaaGreatDoor
open Go.RowKit

theorem Sep.rowsSlots {w0 w : World} {L : List Res} {vs : List Value} {M : List (List Int)} (h : Sep w0 w (Res.rows vs M :: L)) : IntSlots w w0.heap.size w.heap.size vs M := by
  have hR : RowsAt w vs M := h.h0
  refine ⟨hR.len, fun i r hr => ?_⟩
  have hl : i < vs.length := by rw [hR.len]; exact (List.getElem?_eq_some_iff.1 hr).1
  have hu : vs[i]? = some vs[i] := List.getElem?_eq_getElem hl
  have h1 := hR.own i _ r hu hr
  refine ⟨vs[i], hu, ?_⟩
  have : OI w w0.heap.size w.heap.size 3 1 vs[i] r.length (ic r) := by
    refine ⟨⟨h1.1, ?_⟩, fun k hk => own_lt h1 k hk⟩
    rcases h1.2 with hn | ⟨g, cap, cur, e, hbg, rest⟩
    · exact .inl hn
    · exact .inr ⟨g, cap, cur, e, h.2.1 g ⟨_, List.mem_of_getElem? hu, by rw [e]; rfl⟩, rest⟩
  exact this.sr
theorem run_ord {N : Nat} : ∀ (T seen : List (List Nat)), seen.length ≤ N → runV (fun s _ => decide (s.length < N)) seen T = (seen ++ T.take (N + 1 - seen.length), decide (seen.length + T.length ≤ N))
  | [], seen, h => by simp [runV, h]
  | t :: T, seen, h => by
    unfold runV
    by_cases hs : seen.length < N
    · rw [if_pos (by simpa using hs), run_ord T (seen ++ [t]) (by simp; omega)]
      have e1 : N + 1 - seen.length = (N + 1 - (seen ++ [t]).length) + 1 := by simp; omega
      rw [e1, List.take_succ_cons]
      simp only [List.append_assoc, List.length_append, List.length_cons, List.length_nil, List.cons_append, List.nil_append]
      congr 2
      apply propext
      omega
    · rw [if_neg (by simpa using hs)]
      have e1 : N + 1 - seen.length = 1 := by omega
      rw [e1]
      simp only [List.take_succ_cons, List.take_zero, List.length_cons]
      congr 1
      symm
      simp; omega
/-- what the visitor of 'ordinal' keeps -/
structure OrdAt (w0 wS : World) (gs Bd N : Nat) (seen : List (List Nat)) (w : World) : Prop where
  bel : Below w0.heap.size w0 w
  size : Bd ≤ w.heap.size
  cnt : Blk w w0.heap.size 3 #[.int .i64 ((N - seen.length : Nat) : Int)]
  out : ∃ ov, Blk w (w0.heap.size + 1) 29 #[ov] ∧ (seen.length ≤ N → ov = .slice none 0 0) ∧ (N < seen.length → ∃ t, seen.getLast? = some t ∧ OI w Bd w.heap.size 3 1 ov t.length (ic (nl t)))
  fnd : Blk w (w0.heap.size + 2) 4 #[.bool (decide (N < seen.length))]
  same : SameIn gs Bd wS w
abbrev ordFn (g : Nat) : Array Value := #[.pointer (some ⟨g, 0, none⟩), .pointer (some ⟨g + 1, 0, none⟩), .pointer (some ⟨g + 2, 0, none⟩)]
set_option maxRecDepth 100000 in
set_option maxHeartbeats 1600000 in
theorem ordV_c {w0 wS w : World} {gs Bd N : Nat} {seen : List (List Nat)} {l : List Nat} {lv : Value} (hgs : gs = w0.heap.size + 3) (hBd : gs ≤ Bd) (hN : N ≤ 1000000) (h : OrdAt w0 wS gs Bd N seen w) (hl : OI w Bd w.heap.size 3 1 lv l.length (ic (nl l))) :
    Calls Tryz.prog 141 (#[lv] ++ ordFn w0.heap.size) w fun e w' => e = .returned (.bool (decide (seen.length < N))) ∧ OrdAt w0 wS gs Bd N (seen ++ [l]) w' ∧ Only (fun b => b = w0.heap.size ∨ b = w0.heap.size + 1 ∨ b = w0.heap.size + 2) w w' := by
  obtain ⟨g, hg⟩ : ∃ g, g = w0.heap.size := ⟨_, rfl⟩
  obtain ⟨ov, ho1, ho2, ho3⟩ := h.out
  have hc := h.cnt
  have hf := h.fnd
  have hb := h.bel
  have hsz := h.size
  have hsm := h.same
  rw [← hg] at ho1 hc hf hgs ⊢
  show Calls Tryz.prog 141 #[lv, .pointer (some ⟨g, 0, none⟩), .pointer (some ⟨g + 1, 0, none⟩), .pointer (some ⟨g + 2, 0, none⟩)] w _
  have c0 := hc.cell 0
  have c1 := ho1.cell 0
  have c2 := hf.cell 0
  have f0 := hc.frozen 0
  have f1 := ho1.frozen 0
  have f2 := hf.frozen 0
  simp only [List.getElem?_toArray, List.getElem?_cons_zero] at c0 c1 c2
  obtain ⟨A1, cv1, rfl, _, _⟩ := hl.rd
  by_cases hlt : seen.length < N
  · obtain ⟨c, hcc⟩ : ∃ c, N - seen.length = c + 1 := ⟨N - seen.length - 1, by omega⟩
    have HCN : Hid (c ≤ N) := Lib.hid (by omega)
    rw [hcc] at c0
    have hd : decide (((c + 1 : Nat) : Int) > 0) = true := decide_eq_true (by omega)
    have hd2 : decide ((0 : Int) < ((c + 1 : Nat) : Int)) = true := decide_eq_true (by omega)
    have e1 : ((c + 1 : Nat) : Int) - 1 = (c : Int) := by omega
    have e2 : IntKind.i64.wrap (((c + 1 : Nat) : Int) - 1) = (c : Int) := by rw [e1]; exact IntWalk.i64_in _ (by omega)
    have hgo : decide (seen.length < N) = true := decide_eq_true hlt
    rw [hgo]
    have HO : Hid (OrdAt w0 wS gs Bd N (seen ++ [l]) (w.setCell ⟨g, 0, none⟩ (.int .i64 (c : Int)))) := Lib.hid (by
      have hk : ∀ b, b ≠ g → (w.setCell ⟨g, 0, none⟩ (.int .i64 (c : Int))).heap[b]? = w.heap[b]? := fun b hb => Below.heap_setCell w _ _ b hb
      refine ⟨hb.setCell (by rw [hg]; exact Nat.le_refl _) _, by simpa [World.setCell] using hsz, ?_, ⟨ov, ?_, ?_, ?_⟩, ?_, ?_⟩
      · rw [← hg]
        have := hc.set_ 0 (.int .i64 (c : Int))
        have e : N - (seen ++ [l]).length = c := by simp; omega
        rw [e]
        exact this
      · rw [← hg]; exact (hk _ (by omega)).trans ho1
      · intro _; exact ho2 (by omega)
      · intro h1; simp at h1; omega
      · rw [← hg]
        have e : decide (N < (seen ++ [l]).length) = decide (N < seen.length) := by
          rw [Bool.eq_iff_iff]; simp; omega
        rw [e]
        exact (hk _ (by omega)).trans hf
      · exact hsm.trans (SameIn.setCell (by left; simp; omega) _))
    have HON : Hid (Only (fun b => b = g ∨ b = g + 1 ∨ b = g + 2) w (w.setCell ⟨g, 0, none⟩ (.int .i64 (c : Int)))) := Lib.hid ⟨rfl, rfl, rfl, by simp [World.setCell], fun b _ hd => Below.heap_setCell w _ _ b (fun e => hd (.inl e))⟩
    clear h ho1 hc hf hb hsm hl hgo hcc ho2 ho3 hlt hg hgs
    go_enter Tryz.func141, Tryz.ntmps141
    go_wp2
    go_ret
    have e3 : wrap64 (c : Int) = (c : Int) := IntWalk.wrap64_in _ ⟨by omega, by have := HCN.out; omega⟩
    rw [e3]
    exact ⟨rfl, HO.out, HON.out⟩
  · have hcc : N - seen.length = 0 := by omega
    rw [hcc] at c0
    have hgo : decide (seen.length < N) = false := decide_eq_false hlt
    rw [hgo]
    have HO : Hid (OrdAt w0 wS gs Bd N (seen ++ [l]) ((w.setCell ⟨g + 1, 0, none⟩ (.slice A1 l.length cv1)).setCell ⟨g + 2, 0, none⟩ (.bool true))) := Lib.hid (by
      have hk : ∀ b, b ≠ g + 1 → b ≠ g + 2 → ((w.setCell ⟨g + 1, 0, none⟩ (.slice A1 l.length cv1)).setCell ⟨g + 2, 0, none⟩ (.bool true)).heap[b]? = w.heap[b]? := fun b h1 h2 => (Below.heap_setCell _ _ _ b h2).trans (Below.heap_setCell w _ _ b h1)
      refine ⟨(hb.setCell (by show w0.heap.size ≤ g + 1; omega) _).setCell (by show w0.heap.size ≤ g + 2; omega) _, by simpa [World.setCell] using hsz, ?_, ⟨.slice A1 l.length cv1, ?_, ?_, ?_⟩, ?_, ?_⟩
      · rw [← hg]
        have e : N - (seen ++ [l]).length = N - seen.length := by simp; omega
        rw [e]
        exact (hk _ (by omega) (by omega)).trans hc
      · rw [← hg]
        exact (Below.heap_setCell _ _ _ _ (by simp)).trans (ho1.set_ 0 _)
      · intro h1; simp at h1; omega
      · intro _
        refine ⟨l, by simp, ?_⟩
        have := hl.keep (w' := (w.setCell ⟨g + 1, 0, none⟩ (.slice A1 l.length cv1)).setCell ⟨g + 2, 0, none⟩ (.bool true)) ((SameIn.setCell (by left; simp; omega) _).trans (SameIn.setCell (by left; simp; omega) _))
        exact this.base (Nat.le_refl _) (by simp [World.setCell])
      · rw [← hg]
        have e : decide (N < (seen ++ [l]).length) = true := by simp; omega
        rw [e]
        have h1 : Blk (w.setCell ⟨g + 1, 0, none⟩ (.slice A1 l.length cv1)) (g + 2) 4 #[.bool (decide (N < seen.length))] := (Below.heap_setCell _ _ _ _ (by simp)).trans hf
        exact h1.set_ 0 _
      · exact (hsm.trans (SameIn.setCell (by left; simp; omega) _)).trans (SameIn.setCell (by left; simp; omega) _))
    have HON : Hid (Only (fun b => b = g ∨ b = g + 1 ∨ b = g + 2) w ((w.setCell ⟨g + 1, 0, none⟩ (.slice A1 l.length cv1)).setCell ⟨g + 2, 0, none⟩ (.bool true))) := Lib.hid ⟨rfl, rfl, rfl, by simp [World.setCell], fun b _ hd => (Below.heap_setCell _ _ _ b (fun e => hd (.inr (.inr e)))).trans (Below.heap_setCell w _ _ b (fun e => hd (.inr (.inl e))))⟩
    have hf3 : Blk (w.setCell ⟨g + 1, 0, none⟩ (.slice A1 l.length cv1)) (g + 2) 4 #[.bool (decide (N < seen.length))] := (Below.heap_setCell _ _ _ _ (by simp)).trans hf
    have d2 := hf3.cell 0
    have q2 := hf3.frozen 0
    simp only [List.getElem?_toArray, List.getElem?_cons_zero] at d2
    clear h ho1 hc hf hf3 hb hsm hl hgo hcc ho2 ho3 hlt hg hgs
    go_enter Tryz.func141, Tryz.ntmps141
    go_wp2
    go_ret
    exact ⟨rfl, HO.out, HON.out⟩
theorem ordVis {A : List Nat} {vs : List Value} {w0 wS : World} {gs Bd N : Nat} (hgs : gs = w0.heap.size + 3) (hBd : gs < Bd) (hN : N ≤ 1000000) (hlen : vs.length = 64)
    (hbox : Blk wS gs 103 (schCells vs (.func (.func 141) #[] (ordFn w0.heap.size)))) (hsl : IntSlots wS gs Bd vs (atM A)) (ht : Tab64 w0) :
    Vis A vs gs Bd 141 (ordFn w0.heap.size) (fun b => b = w0.heap.size ∨ b = w0.heap.size + 1 ∨ b = w0.heap.size + 2) (OrdAt w0 wS gs Bd N) (fun s _ => decide (s.length < N)) where
  enter := fun args w => by kernel_rfl
  dom := fun b hb => by omega
  len := hlen
  box := fun h => (h.same gs (Nat.le_refl _) hBd).trans hbox
  slots := fun h => (hsl.keep h.same).more (Nat.zero_le _) (Nat.le_refl _)
  keep := fun {seen w w'} h hb => by
    have hB := h.size
    obtain ⟨ov, h1, h2, h3⟩ := h.out
    refine ⟨h.bel.trans (hb.mono h.bel.size), Nat.le_trans hB hb.size, h.cnt.below hb h.cnt.lt, ⟨ov, h1.below hb h1.lt, h2, fun hn => ?_⟩, h.fnd.below hb h.fnd.lt, h.same.trans (SameIn.of_below hb hB)⟩
    obtain ⟨t, ht, ho⟩ := h3 hn
    exact ⟨t, ht, (ho.keep (SameIn.of_below hb (Nat.le_refl _))).base (Nat.le_refl _) hb.size⟩
  size := fun h => h.size
  tab := fun h => tab64_on ht h.bel
  call := fun h hl _ => ordV_c hgs (Nat.le_of_lt hBd) hN h hl
def ordR (A : List Nat) (free N : Nat) : List Nat := ((til A free)[N]?).getD []
def ordB (A : List Nat) (free N : Nat) : Bool := ((til A free)[N]?).isSome
set_option maxRecDepth 100000 in
set_option maxHeartbeats 1600000 in
theorem ordinal_c {v : Value} {A : List Nat} {free N : Nat} (w : World) (h : IntsRd w 0 w.heap.size v (nl A)) (hA : ∀ m ∈ A, m < 2 ^ 36) (hl : A.length ≤ 1000000) (hf : free < 2 ^ 36) (hN : N ≤ 1000000) (ht : Tab64 w) :
    Calls Tryz.prog 100 #[v, .int .i64 free, .int .i64 N] w fun e w' => ∃ v', e = .returned (.tuple #[v', .bool (ordB A free N)]) ∧ IntsIn w' w.heap.size w'.heap.size v' (nl (ordR A free N)) ∧ Below w.heap.size w w' := by
  have hmf : ∀ (fn : Fn) (first cap : Array Value) (w : World), (Instr.makeFunc fn first cap).run Tryz.prog w = .ok (.func fn first cap) w := fun _ _ _ _ => rfl
  obtain ⟨g, hg⟩ : ∃ g, g = w.heap.size := ⟨_, rfl⟩
  have H0 := (((Sep.start w).box 3 #[.int .i64 N]).box 29 #[.slice none 0 0]).box 4 #[.bool false]
  simp only [World.size_alloc] at H0
  have hW : (((w.alloc (.cells #[.int .i64 N] 3)).alloc (.cells #[.slice none 0 0] 29)).alloc (.cells #[.bool false] 4)).heap.size = g + 3 := by simp [hg]
  obtain ⟨Av, cv, rfl, _, _⟩ := id h
  have H1 := Lib.hid H0
  have HRD : Hid (∀ w1, Below w.heap.size w w1 → IntsRd w1 0 w1.heap.size (.slice Av (nl A).length cv) (nl A)) := Lib.hid fun w1 b1 => (h.keep (SameIn.of_below b1 (Nat.le_refl _))).more (Nat.le_refl _) b1.size
  clear h H0
  obtain ⟨bb, hbb0⟩ : ∃ bb, bb = ordB A free N := ⟨_, rfl⟩
  rw [← hbb0]
  have HBB := Lib.hid hbb0
  clear hbb0
  go_enter Tryz.func100, Tryz.ntmps100
  go_upto_region 3 with fail
  have HH := H1.out
  generalize (((w.alloc (.cells #[.int .i64 N] 3)).alloc (.cells #[.slice none 0 0] 29)).alloc (.cells #[.bool false] 4)) = W at *
  have HNEW := Lib.hid (newSearch_c (F := 141) (caps := ordFn w.heap.size) W (HRD.out W HH.below) hA hl)
  have HA := Lib.hid hA
  have HWS := Lib.hid (hW.trans (by rw [hg]))
  clear hW hA hl HRD H1
  go_wp2_with fail
  refine (HNEW.out).mono ?_
  rintro e w2 ⟨vs, rfl, hvl, H2⟩
  obtain ⟨gs, hgs⟩ : ∃ gs, gs = W.heap.size := ⟨_, rfl⟩
  rw [← hgs] at H2 HWS ⊢
  have HBX := Lib.hid H2.h0
  have hlt : gs < w2.heap.size := Blk.lt H2.h0
  have HSL : Hid (IntSlots w2 gs w2.heap.size vs (atM A)) := Lib.hid (by rw [hgs]; exact H2.drop.rowsSlots)
  have HV := Lib.hid (ordVis (N := N) HWS.out hlt hN hvl HBX.out HSL.out ht)
  have hbW := H2.below
  have hI0 : OrdAt w w2 gs w2.heap.size N [] w2 := by
    refine ⟨HH.below.trans (hbW.mono HH.size), Nat.le_refl _, ?_, ⟨.slice none 0 0, ?_, fun _ => rfl, fun h => absurd h (Nat.not_lt_zero _)⟩, ?_, SameIn.refl _⟩
    · exact Blk.below HH.h2 hbW (Blk.lt HH.h2)
    · exact Blk.below HH.h1 hbW (Blk.lt HH.h1)
    · exact Blk.below HH.h0 hbW (Blk.lt HH.h0)
  have HFL := Lib.hid (fill_c HV.out HA.out free hf [] w2 [] (.slice none 0 0) hI0 OI.nil (by simpa using bitsN_le 36))
  clear HNEW H2 HBX hlt HSL hvl hbW hI0 HH hgs ht hf
  go_wp2_with fail
  refine (HFL.out).mono ?_
  rintro e w3 ⟨R, hR, rfl, hI, ho⟩
  obtain ⟨T, hT⟩ : ∃ T, T = til A free := ⟨_, rfl⟩
  have hRT : R.1 = T.take (N + 1) := by
    rw [hR, show tilL [] (til A free) = T by rw [hT]; unfold tilL; simp, run_ord T [] (Nat.zero_le _)]
    simp
  obtain ⟨ov, ho1, ho2, ho3⟩ := hI.out
  have c1 : w3.cell? ⟨w.heap.size + 1, 0, none⟩ = some ov := ho1.cell 0
  have hlen : (N < R.1.length) ↔ N < T.length := by rw [hRT, List.length_take]; omega
  have hbb : decide (N < R.1.length) = bb := by
    rw [HBB.out]
    unfold ordB
    rw [← hT, Bool.eq_iff_iff]
    simp [hlen]
  have c2 : w3.cell? ⟨w.heap.size + 1 + 1, 0, none⟩ = some (.bool bb) := by rw [← hbb]; exact hI.fnd.cell 0
  have HFIN : Hid (IntsIn w3 w.heap.size w3.heap.size ov (nl (ordR A free N))) := Lib.hid (by
    unfold IntsIn ordR
    rw [← hT]
    by_cases hn : N < T.length
    · obtain ⟨t, ht, hot⟩ := ho3 (hlen.2 hn)
      have e1 : T[N]? = some t := by
        rw [hRT, List.getLast?_eq_getElem?, List.length_take, Nat.min_eq_left (by omega)] at ht
        simpa [List.getElem?_take] using ht
      rw [e1]
      have : (nl t).length = t.length := by simp [nl]
      simp only [Option.getD_some, this]
      refine hot.base ?_ (Nat.le_refl _)
      have := HWS.out
      have := HV.out.dom w.heap.size (.inl rfl)
      omega
    · rw [List.getElem?_eq_none (by omega), ho2 (by have := fun h => hn (hlen.1 h); omega)]
      exact OI.nil)
  have hbel := hI.bel
  have HOV : Hid (∃ p q r, ov = .slice p q r) := Lib.hid (by
    obtain ⟨p, r, h, _⟩ := HFIN.out.rd
    exact ⟨p, _, r, h⟩)
  obtain ⟨p, q, r, rfl⟩ := HOV.out
  clear hR hT hRT ho1 ho2 ho3 hI ho hlen hbb HFL HV HWS hg
  go_wp2_with fail
  go_quiet (fail)
  go_wp2
  refine bodyPost_ret (results_tmp2 rfl _ _ _) rfl ?_
  exact ⟨_, rfl, HFIN.out, below_drewN hbel _⟩
end Go.Proofs.YtjkppigjajknaaaGreatDoor

namespace Go.Proofs.YtjkppigjajknaaaGreatDoor
open Go.RowKit

def findB (r : Reg) (ps : List (List Cell)) : Bool := (r.valid && arePcs ps) && ordB (allN r ps) r.mask 0
def findL (r : Reg) (ps : List (List Cell)) : List Nat := if (r.valid && arePcs ps) = true then ordR (allN r ps) r.mask 0 else []
theorem find_no {r : Reg} {ps : List (List Cell)} (h : (r.valid && arePcs ps) = false) : findB r ps = false ∧ findL r ps = [] := by
  unfold findB findL
  rw [h]
  exact ⟨rfl, rfl⟩
theorem find_yes {r : Reg} {ps : List (List Cell)} (h : (r.valid && arePcs ps) = true) : findB r ps = ordB (allN r ps) r.mask 0 ∧ findL r ps = ordR (allN r ps) r.mask 0 := by
  unfold findB findL
  rw [h]
  exact ⟨rfl, rfl⟩
theorem ints_keep {w w' : World} {v : Value} {l : List Int} (h : IntsRd w 0 w.heap.size v l) (hb : Below w.heap.size w w') : IntsRd w' 0 w'.heap.size v l := (h.keep (SameIn.of_below hb (Nat.le_refl _))).more (Nat.le_refl _) hb.size
set_option maxRecDepth 100000 in
set_option maxHeartbeats 1600000 in
theorem impl_find_c {v v2 : Value} {r : Reg} {ps : List (List Cell)} (w : World) (h : RegRd w 0 w.heap.size v r) (h2 : CellSSRd w 0 w.heap.size v2 ps) (hn : ps.length ≤ 1048576) (hl : ∀ s ∈ ps, s.length ≤ 1048576) (ht : Tab64 w) :
    Calls Tryz.prog 52 #[v, v2] w fun e w' => ∃ v', e = .returned (.tuple #[v', .bool (findB r ps)]) ∧ IntsIn w' w.heap.size w'.heap.size v' (nl (findL r ps)) ∧ Below w.heap.size w w' := by
  have HRD : Hid (∀ w1, Below w.heap.size w w1 → RegRd w1 0 w1.heap.size v r) := Lib.hid fun w1 b1 => (h.keep (SameIn.of_below b1 (Nat.le_refl _))).more (Nat.le_refl _) b1.size
  have HR2 : Hid (∀ w1, Below w.heap.size w w1 → CellSSRd w1 0 w1.heap.size v2 ps) := Lib.hid fun w1 b1 => (h2.keep (SameIn.of_below b1 (Nat.le_refl _))).more (Nat.le_refl _) b1.size
  have HTB : Hid (∀ w1, Below w.heap.size w w1 → Tab64 w1) := Lib.hid fun w1 b1 => tab64_on ht b1
  have HPR : Hid (∀ w1, Below w.heap.size w w1 → Calls Tryz.prog 49 #[v, v2] w1 fun e w' => e = .returned (.bool (r.valid && arePcs ps)) ∧ Below w1.heap.size w1 w') := Lib.hid fun w1 b1 =>
    impl_prob_c w1 (HRD.out w1 b1) (HR2.out w1 b1) hn hl
  obtain ⟨RB, hRB⟩ : ∃ b, b = findB r ps := ⟨_, rfl⟩
  obtain ⟨RL, hRL⟩ : ∃ b, b = nl (findL r ps) := ⟨_, rfl⟩
  rw [← hRB, ← hRL]
  have HB := Lib.hid hRB
  have HL := Lib.hid hRL
  obtain ⟨sr, rfl, hsr⟩ := h
  obtain ⟨A, c, rfl, _, _⟩ := hsr
  obtain ⟨vs, ⟨A2, c2, rfl, _, _⟩, _⟩ := h2
  have H0 := (Sep.start w).box 36 #[.int .i64 r.w, .slice A r.rows.length c]
  obtain ⟨bR, hbR⟩ : ∃ bR, bR = w.heap.size := ⟨_, rfl⟩
  rw [← hbR] at H0
  clear hRB hRL ht hn hl
  go_enter Tryz.func52, Tryz.ntmps52
  go_upto_region 1 with fail
  rw [← hbR]
  generalize (w.alloc (.cells #[.int .i64 r.w, .slice A r.rows.length c] 36)) = W at *
  clear hbR
  have c0 : W.cell? ⟨bR, 0, none⟩ = some (.int .i64 r.w) := H0.h0.cell 0
  have c1 : W.cell? ⟨bR, 1, none⟩ = some (.slice A r.rows.length c) := H0.h0.cell 1
  have HP := Lib.hid (HPR.out W H0.below)
  go_wp2_with fail
  refine (HP.out).mono ?_
  rintro e w1 ⟨rfl, b1⟩
  have H1 := (H0.step b1).drew
  have hB1 := (H0.step b1).below
  clear H0 b1 HP c0 c1 HPR
  cases hp : (r.valid && arePcs ps)
  · have h1 := find_no hp
    obtain rfl : RB = false := by rw [HB.out, h1.1]
    obtain rfl : RL = [] := by rw [HL.out, h1.2]; rfl
    clear hp h1
    go_wp2
    refine bodyPost_ret (results_tmp2 rfl _ _ _) rfl ?_
    exact ⟨_, rfl, OI.nil, hB1⟩
  · have h1 := find_yes hp
    simp only [Bool.and_eq_true] at hp
    have HV := Lib.hid (Reg.valid_iff.1 hp.1)
    have HAP := Lib.hid hp.2
    have HALL : Hid (∀ w1, Below w.heap.size w w1 → Calls Tryz.prog 94 #[.agg #[.int .i64 r.w, .slice A r.rows.length c], .slice A2 ps.length c2] w1 fun e w' => ∃ v', e = .returned v' ∧ IntsIn w' w1.heap.size w'.heap.size v' (allP r ps) ∧ Below w1.heap.size w1 w') := Lib.hid fun w1 b1 =>
      impl_all_c w1 (HRD.out w1 b1) (HR2.out w1 b1) HV.out HAP.out
    have HMSK : Hid (∀ w1, Below w.heap.size w w1 → Calls Tryz.prog 95 #[.agg #[.int .i64 r.w, .slice A r.rows.length c]] w1 fun e w' => e = .returned (.int .i64 (r.mask : Int)) ∧ Below w1.heap.size w1 w') := Lib.hid fun w1 b1 =>
      impl_mask_c w1 (HRD.out w1 b1) HV.out
    have HORD : Hid (∀ w1 v, Below w.heap.size w w1 → IntsRd w1 0 w1.heap.size v (allP r ps) → Calls Tryz.prog 100 #[v, .int .i64 (r.mask : Int), .int .i64 0] w1 fun e w' => ∃ v', e = .returned (.tuple #[v', .bool RB]) ∧ IntsIn w' w1.heap.size w'.heap.size v' RL ∧ Below w1.heap.size w1 w') := Lib.hid fun w1 v b1 hv => by
      rw [← nl_allN HV.out] at hv
      have h5 := arePcs_on HAP.out
      have := ordinal_c (free := r.mask) (N := 0) w1 hv (allN_lt HV.out) (by have := allN_len HV.out (ps := ps); omega) (by have := Reg.mask_lt HV.out; omega) (by omega) (HTB.out w1 b1)
      rw [HB.out, HL.out, h1.1, h1.2]
      exact this
    have c0 : w1.drew.cell? ⟨bR, 0, none⟩ = some (.int .i64 r.w) := H1.h0.cell 0
    have c1 : w1.drew.cell? ⟨bR, 1, none⟩ = some (.slice A r.rows.length c) := H1.h0.cell 1
    obtain ⟨M, hM⟩ : ∃ M, M = r.mask := ⟨_, rfl⟩
    obtain ⟨Q, hQ⟩ : ∃ Q, Q = allP r ps := ⟨_, rfl⟩
    rw [← hM] at HMSK HORD
    rw [← hQ] at HALL HORD
    clear hp h1 hM hQ hB1
    go_wp2_with fail
    go_cut [4, 5] (fun lv bv wx => ∃ Al cl m, lv = .slice Al m cl ∧ bv = .bool RB ∧ IntsIn wx w.heap.size wx.heap.size lv RL ∧ Below w.heap.size w wx)
    case first =>
      go_region_with (first
        | (go_at_call 94; (with_reducible refine (HALL.out _ H1.below).mono ?_); rintro e w4 ⟨av, rfl, o4, b4⟩; replace H1 := H1.step b4; have oa := (IntsIn.rd o4).more (Nat.zero_le _) (Nat.le_refl _); clear o4; obtain ⟨Aa, ca, rfl, _, _⟩ := id oa; clear c0 c1; have c0 : w4.cell? ⟨bR, 0, none⟩ = some (.int .i64 r.w) := H1.h0.cell 0; have c1 : w4.cell? ⟨bR, 1, none⟩ = some (.slice A r.rows.length c) := H1.h0.cell 1)
        | (go_at_call 95; (with_reducible refine (HMSK.out _ H1.below).mono ?_); rintro e w5 ⟨rfl, b5⟩; replace H1 := H1.step b5; first | replace oa := ints_keep oa b5 | skip; clear c0 c1; have c0 : w5.cell? ⟨bR, 0, none⟩ = some (.int .i64 r.w) := H1.h0.cell 0; have c1 : w5.cell? ⟨bR, 1, none⟩ = some (.slice A r.rows.length c) := H1.h0.cell 1)
        | (go_at_call 100; (with_reducible refine (HORD.out _ _ H1.below oa).mono ?_); rintro e w6 ⟨rv, rfl, o6, b6⟩; obtain ⟨Ar, cr, rfl, _, _⟩ := o6.rd))
      all_goals (go_wp2_with fail; go_meet; exact ⟨_, _, _, rfl, rfl, OI.base o6 H1.below.size (Nat.le_refl _), H1.below.trans (b6.mono H1.below.size)⟩)
    case rest =>
    obtain ⟨Al, cl, m, rfl, rfl, ho, hb⟩ := hcut
    have HO := Lib.hid ho
    have HBL := Lib.hid hb
    generalize hwc : wc = w7 at *
    clear hwc ho hb H1 c0 c1 HALL HMSK HORD
    go_wp2
    refine bodyPost_ret (results_tmp2 rfl _ _ _) rfl ?_
    exact ⟨_, rfl, HO.out, HBL.out⟩
end Go.Proofs.YtjkppigjajknaaaGreatDoor
