
/-
  The program's search: its table of placements by their cells.
-/
import Derived.Test.YtelneohlpljblaaGreatDoorRowX
import Derived.Test.YtelneohlpljblaaGreatDoorTilP
import Derived.Test.YtelneohlpljblaaGreatDoorMskX
import Derived.Laws.EntriesVeiled
namespace Go.Proofs.YtelneohlpljblaaGreatDoor
open Go.RowKit

set_option maxRecDepth 100000 in
theorem infoInt8 : (Tryz.prog.info? 3).map (fun i => (i.zero, i.size, i.bytes)) = some (some (.int .i64 0), 1, 8) := by kernel_rfl
/-- the placements with a cell, for each cell -/
def atM (B : List Nat) : List (List Int) := (List.range 64).map fun j => nl (B.filter fun m => m.testBit j)
/-- .. when m has come in at the cells below k -/
def atK (B : List Nat) (m k : Nat) : List (List Int) := (List.range 64).map fun j => nl (B.filter fun m => m.testBit j) ++ if j < k ∧ m.testBit j = true then [(m : Int)] else []
theorem atM_at {B : List Nat} {j : Nat} (h : j < 64) : (atM B)[j]? = some (nl (B.filter fun m => m.testBit j)) := by simp [atM, h]
theorem atK_at {B : List Nat} {m k j : Nat} (h : j < 64) : (atK B m k)[j]? = some (nl (B.filter fun m => m.testBit j) ++ if j < k ∧ m.testBit j = true then [(m : Int)] else []) := by simp [atK, h]
theorem atK_zero {B : List Nat} {m : Nat} : atK B m 0 = atM B := by
  unfold atK atM
  apply List.map_congr_left
  intro j _
  simp
theorem nl_append {B C : List Nat} : nl (B ++ C) = nl B ++ nl C := by simp [nl]
theorem atK_end {B : List Nat} {m k : Nat} (h : m < 2 ^ k) : atK B m k = atM (B ++ [m]) := by
  unfold atK atM
  apply List.map_congr_left
  intro j _
  rw [List.filter_append, nl_append]
  congr 1
  cases hb : m.testBit j
  · simp [hb, nl]
  · have : j < k := by
      rcases Nat.lt_or_ge j k with q | q
      · exact q
      · rw [Nat.testBit_lt_two_pow (Nat.lt_of_lt_of_le h (Nat.pow_le_pow_right (by decide) q))] at hb; cases hb
    simp [hb, nl, this]
theorem atK_no {B : List Nat} {m k : Nat} (h : m.testBit k = false) : atK B m (k + 1) = atK B m k := by
  unfold atK
  apply List.map_congr_left
  intro j _
  congr 1
  by_cases e : j = k
  · subst e; simp [h]
  · have : (j < k + 1) ↔ (j < k) := by omega
    simp [this]
theorem atK_row {B : List Nat} {m k : Nat} (hk : k < 64) : (atK B m k)[k]? = some (nl (B.filter fun m => m.testBit k)) := by
  rw [atK_at hk]; simp
theorem atK_len {B : List Nat} {m k : Nat} : (atK B m k).length = 64 := by simp [atK]
theorem atK_yes {B : List Nat} {m k : Nat} (hk : k < 64) (h : m.testBit k = true) : (atK B m k).set k (nl (B.filter fun m => m.testBit k) ++ [(m : Int)]) = atK B m (k + 1) := by
  apply List.ext_getElem?
  intro j
  by_cases hj : j < 64
  · rw [atK_at hj]
    by_cases e : j = k
    · subst e
      rw [List.getElem?_set_self (by rw [atK_len]; exact hj)]
      simp [h]
    · rw [List.getElem?_set_ne (fun q => e q.symm), atK_at hj]
      have : (j < k + 1) ↔ (j < k) := by omega
      simp [this]
  · rw [List.getElem?_eq_none (by rw [List.length_set, atK_len]; omega), List.getElem?_eq_none (by rw [atK_len]; omega)]
/-- the search's block -/
def schCells (vs : List Value) (fv : Value) : Array Value := (vs ++ [fv, .nilFunc]).toArray
set_option maxRecDepth 100000 in
theorem sch_zero (fv : Value) : Tryz.zeroCells119.setIfInBounds 64 fv = schCells (List.replicate 64 (.slice none 0 0)) fv := by
  have h : Tryz.zeroCells119 = (List.replicate 64 (Value.slice none 0 0) ++ [Value.nilFunc, Value.nilFunc]).toArray := by kernel_rfl
  rw [h]; rfl
theorem sch_set {vs : List Value} {fv u : Value} {k : Nat} (hk : k < vs.length) : (schCells vs fv).setIfInBounds k u = schCells (vs.set k u) fv := by
  unfold schCells
  rw [List.setIfInBounds_toArray, List.set_append_left _ _ hk]
theorem sch_at {vs : List Value} {fv : Value} {k : Nat} (hk : k < vs.length) : (schCells vs fv)[k]? = vs[k]? := by
  unfold schCells
  rw [List.getElem?_toArray, List.getElem?_append_left hk]
theorem Sep.nils {w0 w : World} {L : List Res} (h : Sep w0 w L) (n : Nat) : Sep w0 w (Res.rows (List.replicate n (.slice none 0 0)) (List.replicate n []) :: L) := by
  have hnil : ∀ u ∈ List.replicate n (Value.slice none 0 0), u = .slice none 0 0 := fun u hu => List.eq_of_mem_replicate hu
  refine h.new (Below.refl _ _) ⟨by simp, fun i u r hu hr => ?_, fun i j u u' _ hu _ b hb => ?_⟩ (fun b ⟨u, hu, hb⟩ => ?_)
  · obtain rfl := hnil u (List.mem_of_getElem? hu)
    obtain rfl := List.eq_of_mem_replicate (List.mem_of_getElem? hr)
    exact World.ownsRow_nil _ _ _ _
  · obtain rfl := hnil u (List.mem_of_getElem? hu)
    simp [Value.ownBlock] at hb
  · obtain rfl := hnil u hu
    simp [Value.ownBlock] at hb
theorem atM_nil : atM [] = List.replicate 64 [] := by decide
set_option maxRecDepth 100000 in
set_option maxHeartbeats 1600000 in
theorem newSearch_c {v : Value} {A : List Nat} {F : FuncId} {caps : Array Value} (w : World) (h : IntsRd w 0 w.heap.size v (nl A)) (hA : ∀ m ∈ A, m < 2 ^ 36) (hl : A.length ≤ 1000000) :
    Calls Tryz.prog 87 #[v, .func (.func F) #[] caps] w fun e w' => ∃ vs, e = .returned (.pointer (some ⟨w.heap.size, 0, none⟩)) ∧ vs.length = 64 ∧ Sep w w' [Res.box w.heap.size 119 (schCells vs (.func (.func F) #[] caps)), Res.rows vs (atM A)] := by
  obtain ⟨j0, hj, hy0, hy1, hy2⟩ := info_parts infoInt8
  obtain ⟨Av, cv, rfl, hm, hr⟩ := h
  obtain ⟨n, hn⟩ : ∃ n, n = A.length := ⟨_, rfl⟩
  have e0 : (nl A).length = n := by rw [hn]; simp [nl]
  rw [e0] at hm hr ⊢
  rw [← hn] at hl
  obtain ⟨fv, hfv⟩ : ∃ fv, fv = Value.func (.func F) #[] caps := ⟨_, rfl⟩
  have H0 := (((Sep.start w).nils 64).box 119 (Tryz.zeroCells119.setIfInBounds 64 (.func (.func F) #[] caps)))
  rw [sch_zero, ← atM_nil, ← hfv] at H0
  obtain ⟨gs, hgs⟩ : ∃ gs, gs = w.heap.size := ⟨_, rfl⟩
  rw [← hgs] at H0 ⊢
  have HR := Lib.hid hr
  have HA := Lib.hid hA
  have HN := Lib.hid hn
  have HFV := Lib.hid hfv
  clear e0 hr hA hn
  go_enter Tryz.func87, Tryz.ntmps87
  go_upto_region 2 with fail
  rw [← hgs, sch_zero, ← HFV.out]
  generalize (w.alloc (.cells (schCells (List.replicate 64 (.slice none 0 0)) fv) 119)) = W at *
  obtain ⟨Z, hZ⟩ : ∃ Z, Z = schCells (List.replicate 64 (.slice none 0 0)) fv := ⟨_, rfl⟩
  rw [← hZ]
  clear hgs hfv hZ
  go_wp2
  go_loopw [14] (fun iv wx => ∃ (i : Nat) (vs : List Value), i ≤ n ∧ iv = .int .i64 i ∧ Hid (vs.length = 64) ∧ Sep w wx [Res.box gs 119 (schCells vs fv), Res.rows vs (atM (A.take i))]) (fun iv _ => n - (intOf iv).toNat)
  case atStart => exact ⟨0, List.replicate 64 (.slice none 0 0), Nat.zero_le _, rfl, Lib.hid (by simp), H0⟩
  case round =>
    clear H0
    obtain ⟨i, vs, hi, rfl, HVL, H⟩ := hrel
    by_cases hlt : i < n
    · have hlti : (i : Int) < (n : Int) := by omega
      obtain ⟨m, hm1⟩ : ∃ m, A[i]? = some m := ⟨A[i]'(by rw [← HN.out]; exact hlt), List.getElem?_eq_getElem _⟩
      obtain ⟨b, off, hA1, _, hb, hc⟩ := HR.out.2 (by omega)
      subst hA1
      have x1 := hc i (.int .i64 m) (by simp [ic, nl, hm1])
      have y1 := (H.below.cell (p := ⟨b, off + i, none⟩) hb).trans x1
      have HM1 := Lib.hid hm1
      have HM36 : Hid (m < 2 ^ 36) := Lib.hid (HA.out m (List.mem_of_getElem? hm1))
      have H1 : Sep w wr [Res.box gs 119 (schCells vs fv), Res.rows vs (atK (A.take i) m 0)] := by rw [atK_zero]; exact H
      have HTK : Hid (A.take (i + 1) = A.take i ++ [m]) := Lib.hid (by rw [List.take_add_one, hm1]; rfl)
      obtain ⟨B, hB⟩ : ∃ B, B = A.take i := ⟨_, rfl⟩
      rw [← hB] at H1 HTK
      have HBL : Hid (B.length ≤ 1000000) := Lib.hid (by rw [hB, List.length_take]; omega)
      clear hm1 hc x1 H hB
      go_wp2
      clear y1
      go_loopw [8] (fun kv wx => ∃ (k : Nat) (vs : List Value), k ≤ 36 ∧ kv = .int .i64 k ∧ Hid (vs.length = 64) ∧ Sep w wx [Res.box gs 119 (schCells vs fv), Res.rows vs (atK B m k)]) (fun kv _ => 37 - (intOf kv).toNat)
      case atStart => exact ⟨0, vs, by omega, rfl, HVL, H1⟩
      case round =>
        clear H1 HVL
        obtain ⟨k, vs, hk, rfl, HVL, H⟩ := hrel
        by_cases hz : (m : Int) / 2 ^ k = 0
        · have hzd : ((m : Int) / 2 ^ k != 0) = false := by simpa using hz
          have HE : Hid (atK B m k = atM (A.take (i + 1))) := Lib.hid (by rw [HTK.out]; exact atK_end (shr_zero.1 hz))
          clear hz
          go_wp2
          go_roundw
          case rel => exact ⟨i + 1, vs, by omega, by go_num, HVL, by rw [← HE.out]; exact H⟩
          case measure => simp [intOf]; omega
        · have hzd : ((m : Int) / 2 ^ k != 0) = true := by simpa using hz
          have hk35 : k < 36 := by
            rcases Nat.lt_or_ge k 36 with h | h
            · exact h
            · obtain rfl : k = 36 := by omega
              exact absurd (shr_zero.2 HM36.out) hz
          have hbit := bit_test (m := m) (x := k) (by have := HM36.out; omega)
          clear hz
          cases hb2 : m.testBit k
          · rw [hb2] at hbit
            have HC : Hid (atK B m (k + 1) = atK B m k) := Lib.hid (atK_no hb2)
            clear hb2
            go_wp2
            go_roundw
            case rel => exact ⟨k + 1, vs, by omega, by go_num, HVL, by rw [HC.out]; exact H⟩
            case measure => simp [intOf]; omega
          · rw [hb2] at hbit
            obtain ⟨r, hr⟩ : ∃ r, r = nl (B.filter fun m => m.testBit k) := ⟨_, rfl⟩
            have HC : Hid ((atK B m k).set k (r ++ [(m : Int)]) = atK B m (k + 1)) := Lib.hid (by rw [hr]; exact atK_yes (by omega) hb2)
            have HRL : Hid (r.length ≤ 1000000) := Lib.hid (by
              rw [hr]
              unfold nl
              rw [List.length_map]
              exact Nat.le_trans (List.length_filter_le _ _) HBL.out)
            have hrow : (atK B m k)[k]? = some r := by rw [hr]; exact atK_row (by omega)
            obtain ⟨u, hu⟩ : ∃ u, vs[k]? = some u := ⟨vs[k]'(by rw [HVL.out]; omega), List.getElem?_eq_getElem _⟩
            have H2 := (((H.g1.rowsTake hu hrow).rowBox 3 #[.int .i64 (m : Int)] 1 1 rfl (by decide)).g1).drew
            obtain ⟨Au, cu, rfl, _, _, _⟩ := Res.row_at H2.h0
            have hkv : k < vs.length := by rw [HVL.out]; omega
            have x0 : (wr.alloc (.cells #[.int .i64 (m : Int)] 3)).drew.cell? ⟨gs, k, none⟩ = some (.slice Au r.length cu) := by
              have := H2.h3.cell k
              rw [sch_at hkv, hu] at this
              exact this
            have xr : wr.drew.cell? ⟨gs, k, none⟩ = some (.slice Au r.length cu) := by
              have := Blk.cell H.h0 k
              rw [sch_at hkv, hu] at this
              exact this
            have HT := own_take (k := 1) H2.h1 (Nat.le_refl _)
            have hrl := HRL.out
            have k1 : (0 : Int) ≤ (k : Int) := by omega
            have k2 : (k : Int) < 64 := by omega
            have k3 : k < 64 := by omega
            clear hr hrow hu hb2 H
            go_wp2_with fail
            go_region_law (refine step_app rfl (.tmp 36) (.tmp 38) 23 (by rfl) 3 j0 _ 1 8 Tryz.underlying23 hj hy0 hy1 hy2 rfl (by decide) _ _ _ (by rfl) H2 _ _ _ [.int .i64 (m : Int)] (by rfl) HT oc1 (by unfold maxLen; omega) (by omega) ?_; intro v5 w5 H5; obtain ⟨A5, c5, rfl, _, _, _⟩ := Res.row_at H5.h0; have y1 := H5.h3.cell k; rw [sch_at hkv] at y1; have f1 := H5.h3.frozen k)
            all_goals
              have HV2 : Hid ((vs.set k (.slice A5 (r.length + 1) c5)).length = 64) := Lib.hid (by rw [List.length_set]; exact HVL.out)
              have H6 := H5.drop2.g1
              rw [show ic r ++ [Value.int .i64 (m : Int)] = ic (r ++ [(m : Int)]) from (ic_append r [(m : Int)]).symm] at H6
              have H7 := ((H6.rowsPut (by simp) k).g1).set_ k (.slice A5 (r.length + 1) c5)
              rw [sch_set hkv, List.set_set, List.set_set, HC.out] at H7
              clear H5 H6 x0 xr HT H2 y1 f1
              go_wp2
              go_roundw
              case rel => exact ⟨k + 1, _, by omega, by go_num, HV2, H7⟩
              case measure => simp [intOf]; omega
    · obtain rfl : i = n := by omega
      rw [HN.out, List.take_length] at H
      go_wp2
      go_ret
      exact ⟨vs, rfl, HVL.out, by rw [← HFV.out]; exact H⟩
end Go.Proofs.YtelneohlpljblaaGreatDoor
