
/-
  A cube is rolled: both walks. The faces that come to the bottom: plain. A cube is rolled: the reference's walk. The faces of a shape: what both walks know. FacesOf: the reference's walk. A map from cells to rows that the call itself makes: what a look-up and a store do. FacesOf: the program's walk. Numbers in order, once each: the program's walk. A number put into an ascending list, once: the reference's walk. FacesCovered and IsCubeNet, both sides.
-/
import Derived.Test.YtbdffadhieljbaaGreatDoorSlC
import Derived.Test.YtbdffadhieljbaaGreatDoorRowX
import Derived.Test.YtbdffadhieljbaaGreatDoorShpP
import Derived.StillTailTactics
import Derived.Deep.DeepCutAuto
import Derived.Test.YtbdffadhieljbaaGreatDoorMapCell
import Derived.Test.YtbdffadhieljbaaGreatDoorSepX
import Derived.Test.YtbdffadhieljbaaGreatDoorShpQ
import Derived.Test.YtbdffadhieljbaaGreatDoorPlcP
import Derived.Test.YtbdffadhieljbaaGreatDoorSymS
import Derived.Test.YtbdffadhieljbaaGreatDoorShelf
import Derived.Sort.OwnSortedInts
import Derived.Test.YtbdffadhieljbaaGreatDoorPairR
import Derived.Test.YtbdffadhieljbaaGreatDoorMotC
import Derived.Test.YtbdffadhieljbaaGreatDoorSlN
namespace Go.Proofs.YtbdffadhieljbaaGreatDoor
open Go.RowKit

def rollT : Nat → List Nat
  | 0 => [3, 2, 0, 1, 4, 5]
  | 1 => [5, 4, 2, 3, 0, 1]
  | 2 => [2, 3, 1, 0, 4, 5]
  | _ => [4, 5, 2, 3, 1, 0]
def rollL (F : List Int) (d : Nat) : List Int := (rollT d).map fun k => F.getD k 0
theorem rollL_len (F : List Int) (d : Nat) : (rollL F d).length = 6 := by
  unfold rollL
  rw [List.length_map]
  match d with
  | 0 => rfl
  | 1 => rfl
  | 2 => rfl
  | _ + 3 => rfl
set_option maxRecDepth 100000 in
set_option maxHeartbeats 3200000 in
theorem impl_roll_c {v : Value} {F : List Int} (d : Nat) (w : World) (h : IntsRd w 0 w.heap.size v F) (h6 : F.length = 6) (hd : d < 4) :
    Calls Tryz.prog 105 #[v, .int .i64 d] w fun e w' => ∃ v', e = .returned v' ∧ IntsIn w' w.heap.size w'.heap.size v' (rollL F d) ∧ Below w.heap.size w w' := by
  obtain ⟨j0, hj, hy0, hy1, hy2⟩ := info_parts infoIntSy
  obtain ⟨A, c, rfl, hc, hr⟩ := h
  obtain ⟨b, off, hA, _, hb, hcc⟩ := hr.2 (by omega)
  subst hA
  have HF : Hid (∀ w1, Below w.heap.size w w1 → ∀ t, t < 6 → w1.cell? ⟨b, off + t, none⟩ = some (.int .i64 (F.getD t 0))) := Lib.hid fun w1 b1 t ht => by
    refine (b1.cell (p := ⟨b, off + t, none⟩) hb).trans (hcc _ _ ?_)
    have : F[t]? = some (F.getD t 0) := by rw [List.getElem?_eq_getElem (by omega), List.getD_eq_getElem?_getD, List.getElem?_eq_getElem (by omega)]; rfl
    rw [ic, List.getElem?_map, this]
    rfl
  rw [h6] at *
  clear hr hcc
  have h4 : d = 0 ∨ d = 1 ∨ d = 2 ∨ d = 3 := by omega
  clear hd
  rcases h4 with rfl | rfl | rfl | rfl
  ·
    have hix0 : ∀ W : World, (Instr.index 120 (.agg #[.int .i64 3, .int .i64 2, .int .i64 0, .int .i64 1, .int .i64 4, .int .i64 5, .int .i64 5, .int .i64 4, .int .i64 2, .int .i64 3, .int .i64 0, .int .i64 1, .int .i64 2, .int .i64 3, .int .i64 1, .int .i64 0, .int .i64 4, .int .i64 5, .int .i64 4, .int .i64 5, .int .i64 2, .int .i64 3, .int .i64 1, .int .i64 0]) (.int .i64 0)).run Tryz.prog W = .ok (.agg #[.int .i64 3, .int .i64 2, .int .i64 0, .int .i64 1, .int .i64 4, .int .i64 5]) W := fun _ => by kernel_rfl
    have HIX : Hid (∀ k : Nat, k < 6 → ∃ t : Nat, t < 6 ∧ (∀ W : World, (Instr.index 119 (.agg #[.int .i64 3, .int .i64 2, .int .i64 0, .int .i64 1, .int .i64 4, .int .i64 5]) (.int .i64 (k : Int))).run Tryz.prog W = .ok (.int .i64 (t : Int)) W) ∧ (rollL F 0).take (k + 1) = (rollL F 0).take k ++ [F.getD t 0]) := Lib.hid fun k hk => by
      have h6 : k = 0 ∨ k = 1 ∨ k = 2 ∨ k = 3 ∨ k = 4 ∨ k = 5 := by omega
      clear hk
      rcases h6 with rfl | rfl | rfl | rfl | rfl | rfl
      · exact ⟨3, by decide, fun _ => by kernel_rfl, rfl⟩
      · exact ⟨2, by decide, fun _ => by kernel_rfl, rfl⟩
      · exact ⟨0, by decide, fun _ => by kernel_rfl, rfl⟩
      · exact ⟨1, by decide, fun _ => by kernel_rfl, rfl⟩
      · exact ⟨4, by decide, fun _ => by kernel_rfl, rfl⟩
      · exact ⟨5, by decide, fun _ => by kernel_rfl, rfl⟩
    have H0 := (Sep.start w).box 119 #[.int .i64 3, .int .i64 2, .int .i64 0, .int .i64 1, .int .i64 4, .int .i64 5]
    obtain ⟨g, hg⟩ : ∃ g, g = w.heap.size := ⟨_, rfl⟩
    rw [← hg] at H0
    go_enter Tryz.func105, Tryz.ntmps105
    go_upto_region 2 with fail
    rw [← hg]
    generalize (w.alloc (.cells #[.int .i64 3, .int .i64 2, .int .i64 0, .int .i64 1, .int .i64 4, .int .i64 5] 119)) = W at *
    clear hg hix0
    have H1 := H0.nil 3 1
    clear H0
    have k0 : W.cell? ⟨g, 0, none⟩ = some (.int .i64 3) := H1.h1.cell 0
    have k1 : W.cell? ⟨g, 1, none⟩ = some (.int .i64 2) := H1.h1.cell 1
    have k2 : W.cell? ⟨g, 2, none⟩ = some (.int .i64 0) := H1.h1.cell 2
    have k3 : W.cell? ⟨g, 3, none⟩ = some (.int .i64 1) := H1.h1.cell 3
    have k4 : W.cell? ⟨g, 4, none⟩ = some (.int .i64 4) := H1.h1.cell 4
    have k5 : W.cell? ⟨g, 5, none⟩ = some (.int .i64 5) := H1.h1.cell 5
    have H2 := H1.drop2
    clear H1
    go_wp2
    clear k0 k1 k2 k3 k4 k5
    go_loopw [6, 17] (fun ov iv wx => ∃ k : Nat, k ≤ 6 ∧ iv = .int .i64 k ∧ Sep w wx [Res.row ov 3 1 k (ic ((rollL F 0).take k))]) (fun _ iv _ => 6 - (intOf iv).toNat)
    case atStart => exact ⟨0, by decide, rfl, H2⟩
    case round =>
      clear H2
      obtain ⟨k, hk, rfl, H⟩ := hrel
      by_cases hlt : k < 6
      · have hlti : (k : Int) < 6 := by omega
        obtain ⟨t, ht, hix, htk⟩ := HIX.out k hlt
        have HTK := Lib.hid htk
        have q1 := HF.out wr H.below t ht
        have hti : (t : Int) < 6 := by omega
        obtain ⟨Ao, co, rfl, _, _, _⟩ := Res.row_at H.h0
        obtain ⟨x, hx⟩ : ∃ x, x = F.getD t 0 := ⟨_, rfl⟩
        rw [← hx] at q1
        have HNL : Hid (ic ((rollL F 0).take (k + 1)) = ic ((rollL F 0).take k) ++ [.int .i64 x]) := Lib.hid (by rw [HTK.out, ic_append, hx]; rfl)
        clear htk hx
        go_wp2_with (at_builtin; refine wpList_app rfl _ _ 33 rfl 3 j0 _ 1 8 Tryz.underlying33 hj hy0 hy1 hy2 rfl (by decide) _ _ _ rfl (H.alloc _) _ _ _ [.int .i64 x] rfl (Rd.fresh wr _ #[.int .i64 x] 1 1 rfl) oc1 (by unfold maxLen; omega) (by omega) ?_; intro v5 w5 H6; clear H)
        rw [← HNL.out] at H6
        go_roundw
        case rel => exact ⟨k + 1, by omega, by go_num, H6⟩
        case measure => simp [intOf]; omega
      · obtain rfl : k = 6 := by omega
        obtain ⟨Ao, co, rfl, _, _, _⟩ := Res.row_at H.h0
        have ho := H.oi
        have hb := H.below
        clear H
        go_wp2
        go_ret
        refine ⟨_, rfl, ?_, hb⟩
        unfold IntsIn
        rw [rollL_len]
        rw [List.take_of_length_le (by rw [rollL_len]; exact Nat.le_refl _)] at ho
        exact ho
  ·
    have hix0 : ∀ W : World, (Instr.index 120 (.agg #[.int .i64 3, .int .i64 2, .int .i64 0, .int .i64 1, .int .i64 4, .int .i64 5, .int .i64 5, .int .i64 4, .int .i64 2, .int .i64 3, .int .i64 0, .int .i64 1, .int .i64 2, .int .i64 3, .int .i64 1, .int .i64 0, .int .i64 4, .int .i64 5, .int .i64 4, .int .i64 5, .int .i64 2, .int .i64 3, .int .i64 1, .int .i64 0]) (.int .i64 1)).run Tryz.prog W = .ok (.agg #[.int .i64 5, .int .i64 4, .int .i64 2, .int .i64 3, .int .i64 0, .int .i64 1]) W := fun _ => by kernel_rfl
    have HIX : Hid (∀ k : Nat, k < 6 → ∃ t : Nat, t < 6 ∧ (∀ W : World, (Instr.index 119 (.agg #[.int .i64 5, .int .i64 4, .int .i64 2, .int .i64 3, .int .i64 0, .int .i64 1]) (.int .i64 (k : Int))).run Tryz.prog W = .ok (.int .i64 (t : Int)) W) ∧ (rollL F 1).take (k + 1) = (rollL F 1).take k ++ [F.getD t 0]) := Lib.hid fun k hk => by
      have h6 : k = 0 ∨ k = 1 ∨ k = 2 ∨ k = 3 ∨ k = 4 ∨ k = 5 := by omega
      clear hk
      rcases h6 with rfl | rfl | rfl | rfl | rfl | rfl
      · exact ⟨5, by decide, fun _ => by kernel_rfl, rfl⟩
      · exact ⟨4, by decide, fun _ => by kernel_rfl, rfl⟩
      · exact ⟨2, by decide, fun _ => by kernel_rfl, rfl⟩
      · exact ⟨3, by decide, fun _ => by kernel_rfl, rfl⟩
      · exact ⟨0, by decide, fun _ => by kernel_rfl, rfl⟩
      · exact ⟨1, by decide, fun _ => by kernel_rfl, rfl⟩
    have H0 := (Sep.start w).box 119 #[.int .i64 5, .int .i64 4, .int .i64 2, .int .i64 3, .int .i64 0, .int .i64 1]
    obtain ⟨g, hg⟩ : ∃ g, g = w.heap.size := ⟨_, rfl⟩
    rw [← hg] at H0
    go_enter Tryz.func105, Tryz.ntmps105
    go_upto_region 2 with fail
    rw [← hg]
    generalize (w.alloc (.cells #[.int .i64 5, .int .i64 4, .int .i64 2, .int .i64 3, .int .i64 0, .int .i64 1] 119)) = W at *
    clear hg hix0
    have H1 := H0.nil 3 1
    clear H0
    have k0 : W.cell? ⟨g, 0, none⟩ = some (.int .i64 5) := H1.h1.cell 0
    have k1 : W.cell? ⟨g, 1, none⟩ = some (.int .i64 4) := H1.h1.cell 1
    have k2 : W.cell? ⟨g, 2, none⟩ = some (.int .i64 2) := H1.h1.cell 2
    have k3 : W.cell? ⟨g, 3, none⟩ = some (.int .i64 3) := H1.h1.cell 3
    have k4 : W.cell? ⟨g, 4, none⟩ = some (.int .i64 0) := H1.h1.cell 4
    have k5 : W.cell? ⟨g, 5, none⟩ = some (.int .i64 1) := H1.h1.cell 5
    have H2 := H1.drop2
    clear H1
    go_wp2
    clear k0 k1 k2 k3 k4 k5
    go_loopw [6, 17] (fun ov iv wx => ∃ k : Nat, k ≤ 6 ∧ iv = .int .i64 k ∧ Sep w wx [Res.row ov 3 1 k (ic ((rollL F 1).take k))]) (fun _ iv _ => 6 - (intOf iv).toNat)
    case atStart => exact ⟨0, by decide, rfl, H2⟩
    case round =>
      clear H2
      obtain ⟨k, hk, rfl, H⟩ := hrel
      by_cases hlt : k < 6
      · have hlti : (k : Int) < 6 := by omega
        obtain ⟨t, ht, hix, htk⟩ := HIX.out k hlt
        have HTK := Lib.hid htk
        have q1 := HF.out wr H.below t ht
        have hti : (t : Int) < 6 := by omega
        obtain ⟨Ao, co, rfl, _, _, _⟩ := Res.row_at H.h0
        obtain ⟨x, hx⟩ : ∃ x, x = F.getD t 0 := ⟨_, rfl⟩
        rw [← hx] at q1
        have HNL : Hid (ic ((rollL F 1).take (k + 1)) = ic ((rollL F 1).take k) ++ [.int .i64 x]) := Lib.hid (by rw [HTK.out, ic_append, hx]; rfl)
        clear htk hx
        go_wp2_with (at_builtin; refine wpList_app rfl _ _ 33 rfl 3 j0 _ 1 8 Tryz.underlying33 hj hy0 hy1 hy2 rfl (by decide) _ _ _ rfl (H.alloc _) _ _ _ [.int .i64 x] rfl (Rd.fresh wr _ #[.int .i64 x] 1 1 rfl) oc1 (by unfold maxLen; omega) (by omega) ?_; intro v5 w5 H6; clear H)
        rw [← HNL.out] at H6
        go_roundw
        case rel => exact ⟨k + 1, by omega, by go_num, H6⟩
        case measure => simp [intOf]; omega
      · obtain rfl : k = 6 := by omega
        obtain ⟨Ao, co, rfl, _, _, _⟩ := Res.row_at H.h0
        have ho := H.oi
        have hb := H.below
        clear H
        go_wp2
        go_ret
        refine ⟨_, rfl, ?_, hb⟩
        unfold IntsIn
        rw [rollL_len]
        rw [List.take_of_length_le (by rw [rollL_len]; exact Nat.le_refl _)] at ho
        exact ho
  ·
    have hix0 : ∀ W : World, (Instr.index 120 (.agg #[.int .i64 3, .int .i64 2, .int .i64 0, .int .i64 1, .int .i64 4, .int .i64 5, .int .i64 5, .int .i64 4, .int .i64 2, .int .i64 3, .int .i64 0, .int .i64 1, .int .i64 2, .int .i64 3, .int .i64 1, .int .i64 0, .int .i64 4, .int .i64 5, .int .i64 4, .int .i64 5, .int .i64 2, .int .i64 3, .int .i64 1, .int .i64 0]) (.int .i64 2)).run Tryz.prog W = .ok (.agg #[.int .i64 2, .int .i64 3, .int .i64 1, .int .i64 0, .int .i64 4, .int .i64 5]) W := fun _ => by kernel_rfl
    have HIX : Hid (∀ k : Nat, k < 6 → ∃ t : Nat, t < 6 ∧ (∀ W : World, (Instr.index 119 (.agg #[.int .i64 2, .int .i64 3, .int .i64 1, .int .i64 0, .int .i64 4, .int .i64 5]) (.int .i64 (k : Int))).run Tryz.prog W = .ok (.int .i64 (t : Int)) W) ∧ (rollL F 2).take (k + 1) = (rollL F 2).take k ++ [F.getD t 0]) := Lib.hid fun k hk => by
      have h6 : k = 0 ∨ k = 1 ∨ k = 2 ∨ k = 3 ∨ k = 4 ∨ k = 5 := by omega
      clear hk
      rcases h6 with rfl | rfl | rfl | rfl | rfl | rfl
      · exact ⟨2, by decide, fun _ => by kernel_rfl, rfl⟩
      · exact ⟨3, by decide, fun _ => by kernel_rfl, rfl⟩
      · exact ⟨1, by decide, fun _ => by kernel_rfl, rfl⟩
      · exact ⟨0, by decide, fun _ => by kernel_rfl, rfl⟩
      · exact ⟨4, by decide, fun _ => by kernel_rfl, rfl⟩
      · exact ⟨5, by decide, fun _ => by kernel_rfl, rfl⟩
    have H0 := (Sep.start w).box 119 #[.int .i64 2, .int .i64 3, .int .i64 1, .int .i64 0, .int .i64 4, .int .i64 5]
    obtain ⟨g, hg⟩ : ∃ g, g = w.heap.size := ⟨_, rfl⟩
    rw [← hg] at H0
    go_enter Tryz.func105, Tryz.ntmps105
    go_upto_region 2 with fail
    rw [← hg]
    generalize (w.alloc (.cells #[.int .i64 2, .int .i64 3, .int .i64 1, .int .i64 0, .int .i64 4, .int .i64 5] 119)) = W at *
    clear hg hix0
    have H1 := H0.nil 3 1
    clear H0
    have k0 : W.cell? ⟨g, 0, none⟩ = some (.int .i64 2) := H1.h1.cell 0
    have k1 : W.cell? ⟨g, 1, none⟩ = some (.int .i64 3) := H1.h1.cell 1
    have k2 : W.cell? ⟨g, 2, none⟩ = some (.int .i64 1) := H1.h1.cell 2
    have k3 : W.cell? ⟨g, 3, none⟩ = some (.int .i64 0) := H1.h1.cell 3
    have k4 : W.cell? ⟨g, 4, none⟩ = some (.int .i64 4) := H1.h1.cell 4
    have k5 : W.cell? ⟨g, 5, none⟩ = some (.int .i64 5) := H1.h1.cell 5
    have H2 := H1.drop2
    clear H1
    go_wp2
    clear k0 k1 k2 k3 k4 k5
    go_loopw [6, 17] (fun ov iv wx => ∃ k : Nat, k ≤ 6 ∧ iv = .int .i64 k ∧ Sep w wx [Res.row ov 3 1 k (ic ((rollL F 2).take k))]) (fun _ iv _ => 6 - (intOf iv).toNat)
    case atStart => exact ⟨0, by decide, rfl, H2⟩
    case round =>
      clear H2
      obtain ⟨k, hk, rfl, H⟩ := hrel
      by_cases hlt : k < 6
      · have hlti : (k : Int) < 6 := by omega
        obtain ⟨t, ht, hix, htk⟩ := HIX.out k hlt
        have HTK := Lib.hid htk
        have q1 := HF.out wr H.below t ht
        have hti : (t : Int) < 6 := by omega
        obtain ⟨Ao, co, rfl, _, _, _⟩ := Res.row_at H.h0
        obtain ⟨x, hx⟩ : ∃ x, x = F.getD t 0 := ⟨_, rfl⟩
        rw [← hx] at q1
        have HNL : Hid (ic ((rollL F 2).take (k + 1)) = ic ((rollL F 2).take k) ++ [.int .i64 x]) := Lib.hid (by rw [HTK.out, ic_append, hx]; rfl)
        clear htk hx
        go_wp2_with (at_builtin; refine wpList_app rfl _ _ 33 rfl 3 j0 _ 1 8 Tryz.underlying33 hj hy0 hy1 hy2 rfl (by decide) _ _ _ rfl (H.alloc _) _ _ _ [.int .i64 x] rfl (Rd.fresh wr _ #[.int .i64 x] 1 1 rfl) oc1 (by unfold maxLen; omega) (by omega) ?_; intro v5 w5 H6; clear H)
        rw [← HNL.out] at H6
        go_roundw
        case rel => exact ⟨k + 1, by omega, by go_num, H6⟩
        case measure => simp [intOf]; omega
      · obtain rfl : k = 6 := by omega
        obtain ⟨Ao, co, rfl, _, _, _⟩ := Res.row_at H.h0
        have ho := H.oi
        have hb := H.below
        clear H
        go_wp2
        go_ret
        refine ⟨_, rfl, ?_, hb⟩
        unfold IntsIn
        rw [rollL_len]
        rw [List.take_of_length_le (by rw [rollL_len]; exact Nat.le_refl _)] at ho
        exact ho
  ·
    have hix0 : ∀ W : World, (Instr.index 120 (.agg #[.int .i64 3, .int .i64 2, .int .i64 0, .int .i64 1, .int .i64 4, .int .i64 5, .int .i64 5, .int .i64 4, .int .i64 2, .int .i64 3, .int .i64 0, .int .i64 1, .int .i64 2, .int .i64 3, .int .i64 1, .int .i64 0, .int .i64 4, .int .i64 5, .int .i64 4, .int .i64 5, .int .i64 2, .int .i64 3, .int .i64 1, .int .i64 0]) (.int .i64 3)).run Tryz.prog W = .ok (.agg #[.int .i64 4, .int .i64 5, .int .i64 2, .int .i64 3, .int .i64 1, .int .i64 0]) W := fun _ => by kernel_rfl
    have HIX : Hid (∀ k : Nat, k < 6 → ∃ t : Nat, t < 6 ∧ (∀ W : World, (Instr.index 119 (.agg #[.int .i64 4, .int .i64 5, .int .i64 2, .int .i64 3, .int .i64 1, .int .i64 0]) (.int .i64 (k : Int))).run Tryz.prog W = .ok (.int .i64 (t : Int)) W) ∧ (rollL F 3).take (k + 1) = (rollL F 3).take k ++ [F.getD t 0]) := Lib.hid fun k hk => by
      have h6 : k = 0 ∨ k = 1 ∨ k = 2 ∨ k = 3 ∨ k = 4 ∨ k = 5 := by omega
      clear hk
      rcases h6 with rfl | rfl | rfl | rfl | rfl | rfl
      · exact ⟨4, by decide, fun _ => by kernel_rfl, rfl⟩
      · exact ⟨5, by decide, fun _ => by kernel_rfl, rfl⟩
      · exact ⟨2, by decide, fun _ => by kernel_rfl, rfl⟩
      · exact ⟨3, by decide, fun _ => by kernel_rfl, rfl⟩
      · exact ⟨1, by decide, fun _ => by kernel_rfl, rfl⟩
      · exact ⟨0, by decide, fun _ => by kernel_rfl, rfl⟩
    have H0 := (Sep.start w).box 119 #[.int .i64 4, .int .i64 5, .int .i64 2, .int .i64 3, .int .i64 1, .int .i64 0]
    obtain ⟨g, hg⟩ : ∃ g, g = w.heap.size := ⟨_, rfl⟩
    rw [← hg] at H0
    go_enter Tryz.func105, Tryz.ntmps105
    go_upto_region 2 with fail
    rw [← hg]
    generalize (w.alloc (.cells #[.int .i64 4, .int .i64 5, .int .i64 2, .int .i64 3, .int .i64 1, .int .i64 0] 119)) = W at *
    clear hg hix0
    have H1 := H0.nil 3 1
    clear H0
    have k0 : W.cell? ⟨g, 0, none⟩ = some (.int .i64 4) := H1.h1.cell 0
    have k1 : W.cell? ⟨g, 1, none⟩ = some (.int .i64 5) := H1.h1.cell 1
    have k2 : W.cell? ⟨g, 2, none⟩ = some (.int .i64 2) := H1.h1.cell 2
    have k3 : W.cell? ⟨g, 3, none⟩ = some (.int .i64 3) := H1.h1.cell 3
    have k4 : W.cell? ⟨g, 4, none⟩ = some (.int .i64 1) := H1.h1.cell 4
    have k5 : W.cell? ⟨g, 5, none⟩ = some (.int .i64 0) := H1.h1.cell 5
    have H2 := H1.drop2
    clear H1
    go_wp2
    clear k0 k1 k2 k3 k4 k5
    go_loopw [6, 17] (fun ov iv wx => ∃ k : Nat, k ≤ 6 ∧ iv = .int .i64 k ∧ Sep w wx [Res.row ov 3 1 k (ic ((rollL F 3).take k))]) (fun _ iv _ => 6 - (intOf iv).toNat)
    case atStart => exact ⟨0, by decide, rfl, H2⟩
    case round =>
      clear H2
      obtain ⟨k, hk, rfl, H⟩ := hrel
      by_cases hlt : k < 6
      · have hlti : (k : Int) < 6 := by omega
        obtain ⟨t, ht, hix, htk⟩ := HIX.out k hlt
        have HTK := Lib.hid htk
        have q1 := HF.out wr H.below t ht
        have hti : (t : Int) < 6 := by omega
        obtain ⟨Ao, co, rfl, _, _, _⟩ := Res.row_at H.h0
        obtain ⟨x, hx⟩ : ∃ x, x = F.getD t 0 := ⟨_, rfl⟩
        rw [← hx] at q1
        have HNL : Hid (ic ((rollL F 3).take (k + 1)) = ic ((rollL F 3).take k) ++ [.int .i64 x]) := Lib.hid (by rw [HTK.out, ic_append, hx]; rfl)
        clear htk hx
        go_wp2_with (at_builtin; refine wpList_app rfl _ _ 33 rfl 3 j0 _ 1 8 Tryz.underlying33 hj hy0 hy1 hy2 rfl (by decide) _ _ _ rfl (H.alloc _) _ _ _ [.int .i64 x] rfl (Rd.fresh wr _ #[.int .i64 x] 1 1 rfl) oc1 (by unfold maxLen; omega) (by omega) ?_; intro v5 w5 H6; clear H)
        rw [← HNL.out] at H6
        go_roundw
        case rel => exact ⟨k + 1, by omega, by go_num, H6⟩
        case measure => simp [intOf]; omega
      · obtain rfl : k = 6 := by omega
        obtain ⟨Ao, co, rfl, _, _, _⟩ := Res.row_at H.h0
        have ho := H.oi
        have hb := H.below
        clear H
        go_wp2
        go_ret
        refine ⟨_, rfl, ?_, hb⟩
        unfold IntsIn
        rw [rollL_len]
        rw [List.take_of_length_le (by rw [rollL_len]; exact Nat.le_refl _)] at ho
        exact ho
end Go.Proofs.YtbdffadhieljbaaGreatDoor

namespace Go.Proofs.YtbdffadhieljbaaGreatDoor
open Go.RowKit

def fcNext (s : List Cell) (p : List Cell × List (List Int)) (t : Nat) : List Cell × List (List Int) := match p.1[t / 4]?, p.2[t / 4]? with
  | some c, some F => if stepC c (t % 4) ∈ s ∧ ¬ stepC c (t % 4) ∈ p.1 then (p.1 ++ [stepC c (t % 4)], p.2 ++ [rollL F (t % 4)]) else p
  | _, _ => p
/-- the cells that are met, and their cubes, after t looks -/
def fcS (s : List Cell) : Nat → List Cell × List (List Int)
  | 0 => (s.take 1, [[0, 1, 2, 3, 4, 5]])
  | t + 1 => fcNext s (fcS s t) t
theorem fc_div {i d : Nat} (hd : d < 4) : (4 * i + d) / 4 = i ∧ (4 * i + d) % 4 = d := by omega
theorem fc_add {s K : List Cell} {M : List (List Int)} {i d : Nat} {c : Cell} {F : List Int} (hd : d < 4) (h : fcS s (4 * i + d) = (K, M)) (hc : K[i]? = some c) (hF : M[i]? = some F) (h1 : stepC c d ∈ s) (h2 : ¬ stepC c d ∈ K) :
    fcS s (4 * i + (d + 1)) = (K ++ [stepC c d], M ++ [rollL F d]) := by
  have e := fc_div (i := i) hd
  rw [← Nat.add_assoc, fcS, fcNext, h, e.1, e.2]
  simp only [hc, hF]
  rw [if_pos ⟨h1, h2⟩]
theorem fc_skip {s K : List Cell} {M : List (List Int)} {i d : Nat} {c : Cell} {F : List Int} (hd : d < 4) (h : fcS s (4 * i + d) = (K, M)) (hc : K[i]? = some c) (hF : M[i]? = some F) (hn : ¬ stepC c d ∈ s ∨ stepC c d ∈ K) :
    fcS s (4 * i + (d + 1)) = (K, M) := by
  have e := fc_div (i := i) hd
  rw [← Nat.add_assoc, fcS, fcNext, h, e.1, e.2]
  simp only [hc, hF]
  rw [if_neg]
  rintro ⟨h1, h2⟩
  rcases hn with h3 | h3
  · exact h3 h1
  · exact h2 h3
theorem fc_len {s : List Cell} (h1 : 1 ≤ s.length) : ∀ t, (fcS s t).1.length = (fcS s t).2.length
  | 0 => by
    rw [fcS, List.length_take]
    simp only [List.length_singleton]
    omega
  | t + 1 => by
    have ih := fc_len h1 t
    rw [fcS, fcNext]
    split
    · split
      · simp only [List.length_append, ih, List.length_singleton]
      · exact ih
    · exact ih
theorem fc_six {s : List Cell} : ∀ t, ∀ F ∈ (fcS s t).2, F.length = 6
  | 0, F, h => by
    simp only [fcS, List.mem_singleton] at h
    rw [h]
    rfl
  | t + 1, F, h => by
    have ih := fc_six (s := s) t
    rw [fcS, fcNext] at h
    split at h
    · split at h
      · rcases List.mem_append.1 h with h | h
        · exact ih F h
        · rw [List.mem_singleton.1 h, rollL_len]
      · exact ih F h
    · exact ih F h
theorem side_step {c : Cell} {d : Nat} (hd : d < 4) : sideB c (stepC c d) = true := by
  have h4 : d = 0 ∨ d = 1 ∨ d = 2 ∨ d = 3 := by omega
  unfold sideB
  rw [decide_eq_true_iff]
  rcases h4 with rfl | rfl | rfl | rfl <;> simp only [stepC]
  · rw [show c.x - (c.x + 1) = -1 by omega, Int.sub_self]; rfl
  · rw [show c.y - (c.y + 1) = -1 by omega, Int.sub_self]; rfl
  · rw [show c.x - (c.x - 1) = 1 by omega, Int.sub_self]; rfl
  · rw [show c.y - (c.y - 1) = 1 by omega, Int.sub_self]; rfl
theorem sq_ge {x : Int} (h : x ≤ -2 ∨ 2 ≤ x) : 4 ≤ x * x := by
  rcases h with h | h
  · have := Int.mul_le_mul (a := 2) (b := 2) (c := -x) (d := -x) (by omega) (by omega) (by omega) (by omega)
    rw [Int.neg_mul_neg] at this
    omega
  · have := Int.mul_le_mul (a := 2) (b := 2) (c := x) (d := x) (by omega) (by omega) (by omega) (by omega)
    omega
theorem sq_nn (x : Int) : 0 ≤ x * x := by
  by_cases h : x ≤ -2 ∨ 2 ≤ x
  · have := sq_ge h; omega
  · have h3 : x = 0 ∨ x = 1 ∨ x = -1 := by omega
    rcases h3 with rfl | rfl | rfl <;> decide
theorem sq_unit {a b : Int} (h : a * a + b * b = 1) : (a = 0 ∧ (b = 1 ∨ b = -1)) ∨ (b = 0 ∧ (a = 1 ∨ a = -1)) := by
  have h1 := sq_nn a
  have h2 := sq_nn b
  have key : ∀ x : Int, x * x ≤ 1 → x = 0 ∨ x = 1 ∨ x = -1 := fun x hx => by
    by_cases h : x ≤ -2 ∨ 2 ≤ x
    · have := sq_ge h; omega
    · omega
  rcases key a (by omega) with rfl | rfl | rfl <;> rcases key b (by omega) with rfl | rfl | rfl <;> simp_all
theorem step_side {b c : Cell} (h : sideB b c = true) : ∃ d, d < 4 ∧ c = stepC b d := by
  unfold sideB at h
  obtain ⟨bx, by'⟩ := b
  obtain ⟨cx, cy⟩ := c
  rcases sq_unit (of_decide_eq_true h) with ⟨h1, h2 | h2⟩ | ⟨h1, h2 | h2⟩ <;> simp only at h1 h2
  · refine ⟨3, by decide, ?_⟩
    simp only [stepC, Cell.mk.injEq]
    omega
  · refine ⟨1, by decide, ?_⟩
    simp only [stepC, Cell.mk.injEq]
    omega
  · refine ⟨2, by decide, ?_⟩
    simp only [stepC, Cell.mk.injEq]
    omega
  · refine ⟨0, by decide, ?_⟩
    simp only [stepC, Cell.mk.injEq]
    omega
theorem fc_sees {s : List Cell} {a : Cell} (ha : s[0]? = some a) : ∀ t, Sees s a (fcS s t).1
  | 0 => by
    have : s.take 1 = [a] := by
      cases s with
      | nil => simp at ha
      | cons x l => simp at ha; subst ha; rfl
    rw [fcS, this]
    exact Sees.start ha
  | t + 1 => by
    have ih := fc_sees ha t
    rw [fcS, fcNext]
    split
    · rename_i c F hc hF
      split
      · rename_i hn
        exact ih.add (List.mem_of_getElem? hc) hn.1 (side_step (Nat.mod_lt _ (by decide))) hn.2
      · exact ih
    · exact ih
theorem fc_pre {s : List Cell} {t : Nat} : ∃ L, (fcS s (t + 1)).1 = (fcS s t).1 ++ L ∧ (L ≠ [] → t / 4 < (fcS s t).1.length) := by
  rw [fcS, fcNext]
  split
  · rename_i c F hc hF
    split
    · exact ⟨_, rfl, fun _ => (List.getElem?_eq_some_iff.1 hc).1⟩
    · exact ⟨[], by simp, fun h => absurd rfl h⟩
  · exact ⟨[], by simp, fun h => absurd rfl h⟩
theorem fc_closed {s : List Cell} : ∀ (t i d : Nat) (c : Cell), d < 4 → 4 * i + d < t → (fcS s t).1[i]? = some c → stepC c d ∈ s → stepC c d ∈ (fcS s t).1
  | 0, i, d, c, _, h, _, _ => absurd h (by omega)
  | t + 1, i, d, c, hd, ht, hc, hm => by
    obtain ⟨L, e, hL⟩ := fc_pre (s := s) (t := t)
    by_cases hlt : i < (fcS s t).1.length
    · have hc' : (fcS s t).1[i]? = some c := by rw [e, List.getElem?_append_left hlt] at hc; exact hc
      by_cases h2 : 4 * i + d < t
      · rw [e]
        exact List.mem_append_left _ (fc_closed t i d c hd h2 hc' hm)
      · obtain rfl : t = 4 * i + d := by omega
        have e2 := fc_div (i := i) hd
        rw [fcS, fcNext, e2.1, e2.2, hc']
        by_cases hk : stepC c d ∈ (fcS s (4 * i + d)).1
        · split
          · split
            · exact List.mem_append_left _ hk
            · exact hk
          · exact hk
        · have hF : ∃ F, (fcS s (4 * i + d)).2[i]? = some F := by
            have h1 : 1 ≤ s.length := by
              cases s with
              | nil => simp at hm
              | cons x l => simp
            exact ⟨_, List.getElem?_eq_getElem (by rw [← fc_len h1]; exact hlt)⟩
          obtain ⟨F, hF⟩ := hF
          rw [hF]
          simp only
          rw [if_pos ⟨hm, hk⟩]
          exact List.mem_append_right _ (List.mem_singleton.2 rfl)
    · by_cases hLe : L = []
      · rw [hLe, List.append_nil] at e
        rw [e] at hc
        exact absurd (List.getElem?_eq_some_iff.1 hc).1 hlt
      · have := hL hLe
        omega
theorem fc_still {s : List Cell} {t : Nat} (h : (fcS s t).1.length ≤ t / 4) : ∀ n, fcS s (t + n) = fcS s t
  | 0 => rfl
  | n + 1 => by
    have ih := fc_still h n
    rw [← Nat.add_assoc, fcS, ih, fcNext, List.getElem?_eq_none (by omega)]
theorem fc_end {s K : List Cell} {M : List (List Int)} {i : Nat} (h : fcS s (4 * i) = (K, M)) (hK : K.length = i) (h8 : K.length ≤ 8) : fcS s 32 = (K, M) := by
  have := fc_still (s := s) (t := 4 * i) (by rw [h]; simp only; omega) (32 - 4 * i)
  rw [show 4 * i + (32 - 4 * i) = 32 by omega] at this
  rw [this, h]
theorem fc_all {s : List Cell} (hsh : isShape s = true) (hc : hangs s = true) : ∀ c ∈ s, c ∈ (fcS s 32).1 := by
  have hl := shp_len hsh
  obtain ⟨a, ha⟩ : ∃ a, s[0]? = some a := ⟨s[0], List.getElem?_eq_getElem (by omega)⟩
  have hS := fc_sees ha 32
  have h8 := hS.len
  have he := hS.end_ (shp_nodup hsh) ha fun j b hj c hcs hn => by
    obtain ⟨d, hd, rfl⟩ := step_side hn
    have := (List.getElem?_eq_some_iff.1 hj).1
    exact fc_closed 32 j d b hd (by omega) hj hcs
  rw [hc] at he
  have hlen := of_decide_eq_true he.symm
  exact fun c hcs => nodup_all hS.nodup hS.sub (by omega) c hcs
/-- a pair is found by its cell -/
theorem zfind {α : Type} : ∀ {K : List Cell} {X : List α} {j : Nat} {c : Cell} {x : α}, K.Nodup → K[j]? = some c → X[j]? = some x → (K.zip X).find? (fun p => decide (c = p.1)) = some (c, x)
  | [], _, _, _, _, _, h, _ => by simp at h
  | _ :: _, [], _, _, _, _, _, h => by simp at h
  | a :: K, y :: X, 0, c, x, _, h1, h2 => by
    simp only [List.getElem?_cons_zero, Option.some.injEq] at h1 h2
    subst h1 h2
    simp
  | a :: K, y :: X, j + 1, c, x, hn, h1, h2 => by
    rw [List.nodup_cons] at hn
    simp only [List.getElem?_cons_succ] at h1 h2
    have hne : ¬ c = a := fun e => hn.1 (e ▸ List.mem_of_getElem? h1)
    rw [List.zip_cons_cons, List.find?_cons]
    simp only [hne, decide_false]
    exact zfind hn.2 h1 h2
theorem zfind_none {α : Type} {K : List Cell} {X : List α} {c : Cell} (h : ¬ c ∈ K) : (K.zip X).find? (fun p => decide (c = p.1)) = none := by
  rw [List.find?_eq_none]
  intro p hp he
  have := (List.of_mem_zip hp).1
  rw [← of_decide_eq_true he] at this
  exact h this
/-- the face of a cell -/
def fcF (s : List Cell) (c : Cell) : Int := match ((fcS s 32).1.zip (fcS s 32).2).find? (fun p => decide (c = p.1)) with
  | some p => p.2.getD 0 0
  | none => 0
def facesL (s : List Cell) : List Int := s.map (fcF s)
theorem fcF_at {s K : List Cell} {M : List (List Int)} {j : Nat} {c : Cell} {F : List Int} (h : fcS s 32 = (K, M)) (hn : K.Nodup) (hc : K[j]? = some c) (hF : M[j]? = some F) : fcF s c = F.getD 0 0 := by
  unfold fcF
  rw [h]
  simp only
  rw [zfind hn hc hF]
end Go.Proofs.YtbdffadhieljbaaGreatDoor

namespace Go.Proofs.YtbdffadhieljbaaGreatDoor
open Go.RowKit

set_option maxRecDepth 100000 in
set_option maxHeartbeats 3200000 in
theorem spec_roll_c {v : Value} {F : List Int} (d : Nat) (w : World) (h : IntsRd w 0 w.heap.size v F) (h6 : F.length = 6) (hd : d < 4) :
    Calls Tryz.prog 95 #[v, .int .i64 d] w fun e w' => ∃ v', e = .returned (.tuple #[v', .bool true]) ∧ IntsIn w' w.heap.size w'.heap.size v' (rollL F d) ∧ Below w.heap.size w w' := by
  obtain ⟨A, c, rfl, hc, hr⟩ := h
  obtain ⟨b, off, hA, _, hb, hcc⟩ := hr.2 (by omega)
  subst hA
  have HF : Hid (∀ w1, Below w.heap.size w w1 → ∀ t, t < 6 → w1.cell? ⟨b, off + t, none⟩ = some (.int .i64 (F.getD t 0))) := Lib.hid fun w1 b1 t ht => by
    refine (b1.cell (p := ⟨b, off + t, none⟩) hb).trans (hcc _ _ ?_)
    have : F[t]? = some (F.getD t 0) := by rw [List.getElem?_eq_getElem (by omega), List.getD_eq_getElem?_getD, List.getElem?_eq_getElem (by omega)]; rfl
    rw [ic, List.getElem?_map, this]
    rfl
  rw [h6] at *
  obtain ⟨f0, f1, f2, f3, f4, f5, rfl⟩ : ∃ f0 f1 f2 f3 f4 f5, F = [f0, f1, f2, f3, f4, f5] := by
    match F, h6 with
    | [f0, f1, f2, f3, f4, f5], _ => exact ⟨f0, f1, f2, f3, f4, f5, rfl⟩
  clear hr hcc h6
  have HIN : Hid (∀ w1, Calls Tryz.prog 38 #[.int .i64 d, .int .i64 0, .int .i64 3] w1 fun e w' => e = .returned (.bool true) ∧ w1 = w') := Lib.hid fun w1 => by
    have := l1In_r (d : Int) 0 3 w1
    rwa [inR_iff.2 (by omega)] at this
  have h4 : d = 0 ∨ d = 1 ∨ d = 2 ∨ d = 3 := by omega
  clear hd
  rcases h4 with rfl | rfl | rfl | rfl
  ·
    go_enter Tryz.func95, Tryz.ntmps95
    go_wp2_with fail
    refine (HIN.out w).mono ?_
    rintro e w1 ⟨rfl, rfl⟩
    have b1 := Below.refl w.heap.size w
    have q0 := HF.out w b1 0 (by decide)
    have q1 := HF.out w b1 1 (by decide)
    have q2 := HF.out w b1 2 (by decide)
    have q3 := HF.out w b1 3 (by decide)
    have q4 := HF.out w b1 4 (by decide)
    have q5 := HF.out w b1 5 (by decide)
    simp only [List.getD_eq_getElem?_getD, List.getElem?_cons_zero, List.getElem?_cons_succ, Option.getD_some, Nat.add_zero] at q0 q1 q2 q3 q4 q5
    go_wp2_with fail
    go_still_tail 18, (by kernel_rfl)
    change wpList _ _ _ _ _ w.drew
    have H0 := ((Sep.start w).drew).rowBox 3 #[.int .i64 f3, .int .i64 f2, .int .i64 f0, .int .i64 f1, .int .i64 f4, .int .i64 f5] 1 6 rfl (by decide)
    clear q0 q1 q2 q3 q4 q5
    generalize w.drew = w2 at *
    have ho := H0.oi
    have hbl := H0.below
    clear H0
    go_wp2
    go_ret2
    exact ⟨_, rfl, ho, hbl⟩
  ·
    go_enter Tryz.func95, Tryz.ntmps95
    go_wp2_with fail
    refine (HIN.out w).mono ?_
    rintro e w1 ⟨rfl, rfl⟩
    have b1 := Below.refl w.heap.size w
    have q0 := HF.out w b1 0 (by decide)
    have q1 := HF.out w b1 1 (by decide)
    have q2 := HF.out w b1 2 (by decide)
    have q3 := HF.out w b1 3 (by decide)
    have q4 := HF.out w b1 4 (by decide)
    have q5 := HF.out w b1 5 (by decide)
    simp only [List.getD_eq_getElem?_getD, List.getElem?_cons_zero, List.getElem?_cons_succ, Option.getD_some, Nat.add_zero] at q0 q1 q2 q3 q4 q5
    go_wp2_with fail
    go_still_tail 18, (by kernel_rfl)
    change wpList _ _ _ _ _ w.drew
    have H0 := ((Sep.start w).drew).rowBox 3 #[.int .i64 f5, .int .i64 f4, .int .i64 f2, .int .i64 f3, .int .i64 f0, .int .i64 f1] 1 6 rfl (by decide)
    clear q0 q1 q2 q3 q4 q5
    generalize w.drew = w2 at *
    have ho := H0.oi
    have hbl := H0.below
    clear H0
    go_wp2
    go_ret2
    exact ⟨_, rfl, ho, hbl⟩
  ·
    go_enter Tryz.func95, Tryz.ntmps95
    go_wp2_with fail
    refine (HIN.out w).mono ?_
    rintro e w1 ⟨rfl, rfl⟩
    have b1 := Below.refl w.heap.size w
    have q0 := HF.out w b1 0 (by decide)
    have q1 := HF.out w b1 1 (by decide)
    have q2 := HF.out w b1 2 (by decide)
    have q3 := HF.out w b1 3 (by decide)
    have q4 := HF.out w b1 4 (by decide)
    have q5 := HF.out w b1 5 (by decide)
    simp only [List.getD_eq_getElem?_getD, List.getElem?_cons_zero, List.getElem?_cons_succ, Option.getD_some, Nat.add_zero] at q0 q1 q2 q3 q4 q5
    go_wp2_with fail
    go_still_tail 18, (by kernel_rfl)
    change wpList _ _ _ _ _ w.drew
    have H0 := ((Sep.start w).drew).rowBox 3 #[.int .i64 f2, .int .i64 f3, .int .i64 f1, .int .i64 f0, .int .i64 f4, .int .i64 f5] 1 6 rfl (by decide)
    clear q0 q1 q2 q3 q4 q5
    generalize w.drew = w2 at *
    have ho := H0.oi
    have hbl := H0.below
    clear H0
    go_wp2
    go_ret2
    exact ⟨_, rfl, ho, hbl⟩
  ·
    go_enter Tryz.func95, Tryz.ntmps95
    go_wp2_with fail
    refine (HIN.out w).mono ?_
    rintro e w1 ⟨rfl, rfl⟩
    have b1 := Below.refl w.heap.size w
    have q0 := HF.out w b1 0 (by decide)
    have q1 := HF.out w b1 1 (by decide)
    have q2 := HF.out w b1 2 (by decide)
    have q3 := HF.out w b1 3 (by decide)
    have q4 := HF.out w b1 4 (by decide)
    have q5 := HF.out w b1 5 (by decide)
    simp only [List.getD_eq_getElem?_getD, List.getElem?_cons_zero, List.getElem?_cons_succ, Option.getD_some, Nat.add_zero] at q0 q1 q2 q3 q4 q5
    go_wp2_with fail
    go_still_tail 18, (by kernel_rfl)
    change wpList _ _ _ _ _ w.drew
    have H0 := ((Sep.start w).drew).rowBox 3 #[.int .i64 f4, .int .i64 f5, .int .i64 f2, .int .i64 f3, .int .i64 f1, .int .i64 f0] 1 6 rfl (by decide)
    clear q0 q1 q2 q3 q4 q5
    generalize w.drew = w2 at *
    have ho := H0.oi
    have hbl := H0.below
    clear H0
    go_wp2
    go_ret2
    exact ⟨_, rfl, ho, hbl⟩
end Go.Proofs.YtbdffadhieljbaaGreatDoor

namespace Go.Proofs.YtbdffadhieljbaaGreatDoor
open Go.RowKit

set_option maxRecDepth 100000 in
theorem infoRowF : (Tryz.prog.info? 33).map (fun i => (i.zero, i.size, i.bytes)) = some (some (.slice none 0 0), 1, 24) := by kernel_rfl
theorem ocF {v : Value} (h : v.oneCell' = true) : ∀ u ∈ [v], u.oneCell' = true := by intro u hu; simp at hu; subst hu; exact h
theorem step_sml {s : List Cell} {c : Cell} (h : isShape s = true) (hc : c ∈ s) (d : Nat) : -10 ≤ (stepC c d).x ∧ (stepC c d).x ≤ 10 ∧ -10 ≤ (stepC c d).y ∧ (stepC c d).y ≤ 10 := by
  obtain ⟨⟨h1, h2⟩, h3, h4⟩ := shp_on h hc
  match d with
  | 0 => simp only [stepC]; omega
  | 1 => simp only [stepC]; omega
  | 2 => simp only [stepC]; omega
  | _ + 3 => simp only [stepC]; omega
/-- the steps as the reference reckons them -/
theorem step_rem {c : Cell} {d : Nat} (hd : d < 4) : c.x + Int.tmod (1 - (d : Int)) 2 = (stepC c d).x ∧ c.y + Int.tmod (2 - (d : Int)) 2 = (stepC c d).y := by
  have h4 : d = 0 ∨ d = 1 ∨ d = 2 ∨ d = 3 := by omega
  rcases h4 with rfl | rfl | rfl | rfl <;> simp [stepC] <;> omega
/-- what is known while the cells are looked at -/
structure FcI (s K : List Cell) (M : List (List Int)) (vs : List Value) (t : Nat) : Prop where
  st : fcS s t = (K, M)
  kv : vs.length = K.length
theorem FcI.ml {s K : List Cell} {M : List (List Int)} {vs : List Value} {t : Nat} (h : FcI s K M vs t) (h1 : 1 ≤ s.length) : M.length = K.length := by
  have := fc_len h1 t
  rw [h.st] at this
  exact this.symm
theorem FcI.six {s K : List Cell} {M : List (List Int)} {vs : List Value} {t : Nat} (h : FcI s K M vs t) {F : List Int} (hF : F ∈ M) : F.length = 6 := fc_six t F (by rw [h.st]; exact hF)
theorem FcI.sees {s K : List Cell} {M : List (List Int)} {vs : List Value} {t : Nat} (h : FcI s K M vs t) {a : Cell} (ha : s[0]? = some a) : Sees s a K := by
  have := fc_sees ha t
  rwa [h.st] at this
theorem FcI.le8 {s K : List Cell} {M : List (List Int)} {vs : List Value} {t : Nat} (h : FcI s K M vs t) (hs : isShape s = true) : K.length ≤ 8 := by
  obtain ⟨a, ha⟩ : ∃ a, s[0]? = some a := ⟨s[0]'(by have := shp_len hs; omega), List.getElem?_eq_getElem _⟩
  have := (h.sees ha).len
  have := shp_len hs
  omega
/-- all is there at number i -/
theorem FcI.at {s K : List Cell} {M : List (List Int)} {vs : List Value} {t i : Nat} (h : FcI s K M vs t) (hs : isShape s = true) (hi : i < K.length) :
    ∃ c F u, K[i]? = some c ∧ M[i]? = some F ∧ vs[i]? = some u ∧ F.length = 6 ∧ c ∈ s := by
  have hl := shp_len hs
  obtain ⟨a, ha⟩ : ∃ a, s[0]? = some a := ⟨s[0], List.getElem?_eq_getElem (by omega)⟩
  have h1 := h.ml hl.1
  have h2 := h.kv
  exact ⟨K[i], M[i], vs[i], List.getElem?_eq_getElem hi, List.getElem?_eq_getElem (by omega), List.getElem?_eq_getElem (by omega), h.six (List.getElem_mem _), (h.sees ha).sub _ (List.getElem_mem _)⟩
theorem FcI.skip {s K : List Cell} {M : List (List Int)} {vs : List Value} {i d : Nat} {c : Cell} {F : List Int} (h : FcI s K M vs (4 * i + d)) (hd : d < 4) (hc : K[i]? = some c) (hF : M[i]? = some F) (hn : ¬ stepC c d ∈ s ∨ stepC c d ∈ K) : FcI s K M vs (4 * i + (d + 1)) :=
  ⟨fc_skip hd h.st hc hF hn, h.kv⟩
theorem FcI.add {s K : List Cell} {M : List (List Int)} {vs : List Value} {i d : Nat} {c : Cell} {F : List Int} {u : Value} (h : FcI s K M vs (4 * i + d)) (hd : d < 4) (hc : K[i]? = some c) (hF : M[i]? = some F) (h1 : stepC c d ∈ s) (h2 : ¬ stepC c d ∈ K) : FcI s (K ++ [stepC c d]) (M ++ [rollL F d]) (vs ++ [u]) (4 * i + (d + 1)) :=
  ⟨fc_add hd h.st hc hF h1 h2, by rw [List.length_append, List.length_append, h.kv]; rfl⟩
theorem FcI.start {s : List Cell} {a : Cell} (ha : s[0]? = some a) (u : Value) : FcI s [a] [[0, 1, 2, 3, 4, 5]] [u] (4 * 0) := ⟨by
  have : s.take 1 = [a] := by
    cases s with
    | nil => simp at ha
    | cons x l => simp at ha; subst ha; rfl
  rw [Nat.mul_zero, fcS, this], rfl⟩
/-- a row that is written so far -/
def outL (L : List Int) (k : Nat) : List Int := L.take k ++ List.replicate (L.length - k) 0
theorem outL_len {L : List Int} {k : Nat} (h : k ≤ L.length) : (outL L k).length = L.length := by
  rw [outL, List.length_append, List.length_take, List.length_replicate]
  omega
theorem outL_zero (L : List Int) : outL L 0 = List.replicate L.length 0 := by simp [outL]
theorem outL_all (L : List Int) : outL L L.length = L := by
  rw [outL, Nat.sub_self, List.take_length]
  simp
theorem outL_set {L : List Int} {k : Nat} {c : Int} (h : L[k]? = some c) : (outL L k).set k c = outL L (k + 1) := by
  obtain ⟨hk, e⟩ := List.getElem?_eq_some_iff.1 h
  have hl : (L.take k).length = k := by rw [List.length_take]; omega
  have hr : List.replicate (L.length - k) (0 : Int) = 0 :: List.replicate (L.length - (k + 1)) 0 := by
    rw [show L.length - k = (L.length - (k + 1)) + 1 by omega, List.replicate_succ]
  rw [outL, hr, List.set_append, if_neg (by omega), hl, Nat.sub_self, List.set_cons_zero, outL, List.take_succ_eq_append_getElem hk, List.append_assoc, e]
  rfl
/-- the faces that are written so far -/
def outA (s : List Cell) (k : Nat) : List Int := outL (facesL s) k
theorem facesL_len (s : List Cell) : (facesL s).length = s.length := List.length_map _
theorem outA_len {s : List Cell} {k : Nat} (h : k ≤ s.length) : (outA s k).length = s.length := by
  rw [outA, outL_len (by rw [facesL_len]; exact h), facesL_len]
theorem outA_zero (s : List Cell) : outA s 0 = List.replicate s.length 0 := by rw [outA, outL_zero, facesL_len]
theorem outA_all (s : List Cell) : outA s s.length = facesL s := by rw [← facesL_len s, outA, outL_all]
theorem outA_set {s : List Cell} {k : Nat} {c : Cell} (h : s[k]? = some c) : (outA s k).set k (fcF s c) = outA s (k + 1) :=
  outL_set (by rw [facesL, List.getElem?_map, h]; rfl)
end Go.Proofs.YtbdffadhieljbaaGreatDoor

namespace Go.Proofs.YtbdffadhieljbaaGreatDoor
open Go.RowKit

set_option maxRecDepth 100000 in
set_option maxHeartbeats 6400000 in
theorem spec_faces_c {v : Value} {s : List Cell} (w : World) (h : CellsRd w 0 w.heap.size v s) (hsh : isShape s = true) (hcn : connS s = true) :
    Calls Tryz.prog 76 #[v] w fun e w' => ∃ v', e = .returned (.tuple #[v', .bool true]) ∧ IntsIn w' w.heap.size w'.heap.size v' (facesL s) ∧ Below w.heap.size w w' := by
  obtain ⟨i0, hi, hz0, hz1, hz2⟩ := info_parts infoCellS
  obtain ⟨j0, hj, hy0, hy1, hy2⟩ := info_parts infoIntSy
  obtain ⟨r0, hk, hx0, hx1, hx2⟩ := info_parts infoRowF
  obtain ⟨hl1, hl8⟩ := shp_len hsh
  have HRD : Hid (∀ w1, Below w.heap.size w w1 → CellsRd w1 0 w1.heap.size v s) := Lib.hid fun w1 b1 => (h.keep (SameIn.of_below b1 (Nat.le_refl _))).more (Nat.le_refl _) b1.size
  have HSH := Lib.hid hsh
  have HHS : Hid (∀ (x y : Int) w1, Below w.heap.size w w1 → Calls Tryz.prog 44 #[v, .int .i64 x, .int .i64 y] w1 fun e w' => e = .returned (.bool (decide ((⟨x, y⟩ : Cell) ∈ s))) ∧ w1 = w') := Lib.hid fun x y w1 b1 => spec_has2_c x y w1 (HRD.out w1 b1) (by omega)
  have HC := Lib.hid (spec_conn_c w h (by omega))
  rw [hcn] at HC
  have HHG : Hid (hangs s = true) := Lib.hid (by unfold connS at hcn; rw [hsh, Bool.true_and] at hcn; exact hcn)
  obtain ⟨A, c, rfl, _, hr⟩ := h
  obtain ⟨b, off, hA, _, hb, hcc⟩ := hr.2 (by omega)
  subst hA
  have HCE := Lib.hid hcc
  obtain ⟨n, hn⟩ : ∃ n, n = s.length := ⟨_, rfl⟩
  have HN := Lib.hid hn
  rw [← hn] at hl1 hl8
  have hmk := fun W => run_make_rowN (P := Tryz.prog) 33 3 j0 _ Tryz.underlying33 hj hy0 .i64 .i64 n n (Nat.le_refl _) (by rw [hy2]; omega) (by omega) W
  rw [hy1] at hmk
  simp only [Nat.mul_one] at hmk
  have em : madeCells #[.int .i64 0] n = (ic (List.replicate n 0)).toArray := by apply Array.ext'; rw [toList_madeCells_one]; simp only [ic, List.map_replicate]
  simp only [show (Value.int IntKind.i64 0).cells = #[.int .i64 0] from rfl, em] at hmk
  rw [← hn] at HRD HHS HC ⊢
  clear hsh hr hcc hcn hn em
  go_enter Tryz.func76, Tryz.ntmps76
  go_wp2_with fail
  refine (HC.out).mono ?_
  rintro e w1 ⟨rfl, b1⟩
  have H0 := ((Sep.start w).step b1).rowBox 3 (ic (List.replicate n 0)).toArray 1 n (by simp [ic]) (by unfold maxLen; omega)
  rw [show (ic (List.replicate n 0)).toArray.toList = ic (List.replicate n 0) by simp] at H0
  clear HC b1
  go_upto_region 4 with fail
  obtain ⟨go, hgo⟩ : ∃ g, g = w1.heap.size := ⟨_, rfl⟩
  rw [← hgo] at H0 ⊢
  clear hgo
  generalize w1.alloc (.cells (ic (List.replicate n 0)).toArray 3) = W1 at *
  clear hmk
  obtain ⟨a, ha⟩ : ∃ a, s[0]? = some a := ⟨s[0]'(by rw [← HN.out]; omega), List.getElem?_eq_getElem _⟩
  have HA := Lib.hid ha
  have hbw := H0.below
  have q1 : W1.cell? ⟨b, off, none⟩ = some (.int .i64 a.x) := (hbw.cell (p := ⟨b, off, none⟩) hb).trans (HCE.out _ _ (cc_at ha).1)
  have q2 : W1.cell? ⟨b, off + 1, none⟩ = some (.int .i64 a.y) := (hbw.cell (p := ⟨b, off + 1, none⟩) hb).trans (HCE.out _ _ (cc_at ha).2)
  have H1 := H0.rowBox 39 #[.int .i64 a.x, .int .i64 a.y] 2 1 rfl (by decide)
  clear ha hbw H0
  go_upto_region 5 with fail
  obtain ⟨gs, hgs⟩ : ∃ g, g = W1.heap.size := ⟨_, rfl⟩
  rw [← hgs] at H1 ⊢
  generalize W1.alloc (.cells #[.int .i64 a.x, .int .i64 a.y] 39) = W2 at *
  clear hgs q1 q2
  obtain ⟨gF, hgF⟩ : ∃ g, g = W2.heap.size := ⟨_, rfl⟩
  have H2 := (H1.rowBox 3 #[.int .i64 0, .int .i64 1, .int .i64 2, .int .i64 3, .int .i64 4, .int .i64 5] 1 6 rfl (by decide)).rowBox 33 #[.slice (some ⟨W2.heap.size, 0, none⟩) 6 6] 1 1 rfl (by decide)
  simp only [World.size_alloc] at H2
  rw [← hgF] at H2
  clear H1
  go_upto_region 6 with fail
  rw [← hgF]
  generalize (W2.alloc (.cells #[.int .i64 0, .int .i64 1, .int .i64 2, .int .i64 3, .int .i64 4, .int .i64 5] 3)).alloc (.cells #[.slice (some ⟨gF, 0, none⟩) 6 6] 33) = W3 at *
  clear hgF
  have H3 := H2.rowsNil
  have H4 := (H3.g2.p1.rowsSnoc (r := [0, 1, 2, 3, 4, 5]) rfl).g2
  obtain ⟨u0, hu0⟩ : ∃ u, u = [Value.slice (some ⟨gF, 0, none⟩) 6 6] := ⟨_, rfl⟩
  have HI0 := Lib.hid (FcI.start HA.out (Value.slice (some ⟨gF, 0, none⟩) 6 6))
  clear H2 H3
  go_wp2
  go_loopw [5, 6, 7] (fun sv cv iv wx => ∃ (i m : Nat) (K : List Cell) (M : List (List Int)) (vs : List Value), i ≤ m ∧ m ≤ 8 ∧ iv = .int .i64 i ∧ Hid (m = K.length) ∧ Hid (FcI s K M vs (4 * i)) ∧ Sep w wx [Res.row sv 39 2 m (cc K), Res.rows vs M, Res.row cv 33 1 m vs, Res.row (.slice (some ⟨go, 0, none⟩) n n) 3 1 n (ic (List.replicate n 0))]) (fun _ _ iv _ => 9 - (intOf iv).toNat)
  case atStart => exact ⟨0, 1, _, _, _, by decide, by decide, rfl, Lib.hid rfl, HI0, H4⟩
  case round =>
    clear H4
    obtain ⟨i, m, K, M, vs, him, hm8, rfl, HM, HI, H⟩ := hrel
    obtain ⟨Ask, csk, rfl, _, _, _⟩ := Res.row_at H.h0
    obtain ⟨Acu, ccu, rfl, _, _, _⟩ := Res.row_at H.h2
    by_cases hlt : i < m
    · have hlti : (i : Int) < (m : Int) := by omega
      go_wp2
      go_loopw [5, 6, 8] (fun sv cv dv wx => ∃ (d m : Nat) (K : List Cell) (M : List (List Int)) (vs : List Value), d ≤ 4 ∧ i < m ∧ m ≤ 8 ∧ dv = .int .i64 d ∧ Hid (m = K.length) ∧ Hid (FcI s K M vs (4 * i + d)) ∧ Sep w wx [Res.row sv 39 2 m (cc K), Res.rows vs M, Res.row cv 33 1 m vs, Res.row (.slice (some ⟨go, 0, none⟩) n n) 3 1 n (ic (List.replicate n 0))]) (fun _ _ dv _ => 4 - (intOf dv).toNat)
      case atStart => exact ⟨0, m, K, M, vs, by decide, hlt, hm8, rfl, HM, HI, H⟩
      case round =>
        clear H hm8 HM HI hlti him hlt
        obtain ⟨d, m, K, M, vs, hd4, him, hm8, rfl, HM, HI, H⟩ := hrel
        by_cases hd : d < 4
        · have hdi : (d : Int) < 4 := by omega
          obtain ⟨c0, F, u, hc0, hF, hu, hF6, hcs⟩ := HI.out.at HSH.out (by rw [← HM.out]; exact him)
          obtain ⟨bs, os, cs2, rfl, _, _, hbs⟩ := own_shape H.h0 (by omega)
          obtain ⟨bu, ou, cu2, rfl, _, _, hbu⟩ := own_shape H.h2 (by omega)
          have x1 := (row_at2 H.h0 hc0).1
          have x2 := (row_at2 H.h0 hc0).2
          obtain ⟨q, hq⟩ : ∃ q, q = stepC c0 d := ⟨_, rfl⟩
          have hsr := step_rem (c := c0) hd
          have hon := shp_on HSH.out hcs
          have hqs := step_sml HSH.out hcs d
          rw [← hq] at hsr hqs
          unfold On at hon
          have m1 : wrap64 (1 - (d : Int)) = 1 - (d : Int) := IntWalk.wrap64_in _ (by omega)
          have m1' : IntKind.i64.wrap (1 - (d : Int)) = 1 - (d : Int) := IntWalk.i64_in _ (by omega)
          have m2 : wrap64 (2 - (d : Int)) = 2 - (d : Int) := IntWalk.wrap64_in _ (by omega)
          have m2' : IntKind.i64.wrap (2 - (d : Int)) = 2 - (d : Int) := IntWalk.i64_in _ (by omega)
          have HQ := Lib.hid hq
          have HC0 := Lib.hid hc0
          have HF := Lib.hid hF
          have HU := Lib.hid hu
          obtain ⟨s1, s2⟩ := hsr
          clear hq hc0 hF hu hcs hon
          go_upto_region 12 with fail
          go_region
          have H5 := (H.box 39 #[.int .i64 q.x, .int .i64 q.y]).drew
          obtain ⟨gq, hgq⟩ : ∃ g, g = wr.heap.size := ⟨_, rfl⟩
          rw [← hgq] at H5 ⊢
          generalize (wr.alloc (.cells #[.int .i64 q.x, .int .i64 q.y] 39)).drew = W12 at *
          clear hgq x1 x2 m1 m1' m2 m2' s1 s2 H
          have k0 : W12.cell? ⟨gq, 0, none⟩ = some (.int .i64 q.x) := H5.h0.cell 0
          have k1 : W12.cell? ⟨gq, 1, none⟩ = some (.int .i64 q.y) := H5.h0.cell 1
          have HCA := Lib.hid (HHS.out q.x q.y W12 H5.below)
          obtain ⟨g1, hg1⟩ : ∃ g, g = decide ((⟨q.x, q.y⟩ : Cell) ∈ s) := ⟨_, rfl⟩
          rw [← hg1] at HCA
          have HG1 := Lib.hid hg1
          clear hg1
          go_wp2_with fail
          refine (HCA.out).mono ?_
          rintro e W13 ⟨rfl, rfl⟩
          clear HCA
          cases g1
          · have HI2 : Hid (FcI s K M vs (4 * i + (d + 1))) := Lib.hid (HI.out.skip hd HC0.out HF.out (.inl (by rw [← HQ.out]; exact of_decide_eq_false HG1.out.symm)))
            have H6 := H5.drop
            go_wp2
            go_roundw
            case rel => exact ⟨d + 1, m, K, M, vs, by omega, him, hm8, by go_num, HM, HI2, H6⟩
            case measure => simp [intOf]; omega
          have HCB : Hid (Calls Tryz.prog 44 #[.slice (some ⟨bs, os, none⟩) m cs2, .int .i64 q.x, .int .i64 q.y] W12 fun e w' => e = .returned (.bool (decide ((⟨q.x, q.y⟩ : Cell) ∈ K))) ∧ W12 = w') := Lib.hid (spec_has2_c q.x q.y W12 (by
            have H7 := H5.g1
            have hm := HM.out
            rw [hm] at H7
            rw [hm]
            exact H7.cellsRd (by omega)) (by have := HM.out; omega))
          obtain ⟨g2, hg2⟩ : ∃ g, g = decide ((⟨q.x, q.y⟩ : Cell) ∈ K) := ⟨_, rfl⟩
          rw [← hg2] at HCB
          have HG2 := Lib.hid hg2
          clear hg2
          go_wp2_with fail
          refine (HCB.out).mono ?_
          rintro e W13 ⟨rfl, rfl⟩
          clear HCB
          cases g2
          rotate_left
          · have HI2 : Hid (FcI s K M vs (4 * i + (d + 1))) := Lib.hid (HI.out.skip hd HC0.out HF.out (.inr (by rw [← HQ.out]; exact of_decide_eq_true HG2.out.symm)))
            have H6 := H5.drop
            go_wp2
            go_roundw
            case rel => exact ⟨d + 1, m, K, M, vs, by omega, him, hm8, by go_num, HM, HI2, H6⟩
            case measure => simp [intOf]; omega
          have HRL : Hid (Calls Tryz.prog 95 #[u, .int .i64 d] W12 fun e w' => ∃ v', e = .returned (.tuple #[v', .bool true]) ∧ IntsIn w' W12.heap.size w'.heap.size v' (rollL F d) ∧ Below W12.heap.size W12 w') := Lib.hid (by
            have ho := RowsAt.own H5.h2 i u F HU.out HF.out
            exact spec_roll_c d W12 (OI.sr (lo := 0) ⟨ho, fun k hk => own_lt ho k hk⟩) hF6 hd)
          have hIA := HI.out.add (u := u) hd HC0.out HF.out (by rw [← HQ.out]; exact of_decide_eq_true HG1.out.symm) (by rw [← HQ.out]; exact of_decide_eq_false HG2.out.symm)
          have hm9 : m + 1 ≤ 8 := by
            have := hIA.le8 HSH.out
            rw [List.length_append, ← HM.out] at this
            exact this
          have y1 := own_cell H5.h3 (j := i) HU.out
          clear hIA
          go_wp2_with fail
          refine (HRL.out).mono ?_
          rintro e W14 ⟨vR, rfl, oR, b14⟩
          obtain ⟨AR, cR, hvR, _, _⟩ := oR.rd
          have h6r := rollL_len F d
          obtain ⟨R, hR⟩ : ∃ R, R = rollL F d := ⟨_, rfl⟩
          rw [← hR] at h6r
          have H6 := H5.oiNew b14 oR
          rw [← hR] at H6 hvR
          have HRR := Lib.hid hR
          rw [h6r] at H6 hvR
          subst hvR
          have k0 : W14.cell? ⟨gq, 0, none⟩ = some (.int .i64 q.x) := H6.h1.cell 0
          have k1 : W14.cell? ⟨gq, 1, none⟩ = some (.int .i64 q.y) := H6.h1.cell 1
          have HIA : Hid (FcI s (K ++ [q]) (M ++ [R]) (vs ++ [.slice AR 6 cR]) (4 * i + (d + 1))) := Lib.hid (by
            rw [HRR.out, HQ.out]
            exact HI.out.add hd HC0.out HF.out (by rw [← HQ.out]; exact of_decide_eq_true HG1.out.symm) (by rw [← HQ.out]; exact of_decide_eq_false HG2.out.symm))
          have HM2 : Hid (m + 1 = (K ++ [q]).length) := Lib.hid (by rw [List.length_append, ← HM.out]; rfl)
          clear H5 oR b14 y1 hR
          have H7 := H6.g2
          go_wp2_with (first | (at_builtin; refine wpList_app rfl _ _ 25 rfl 39 i0 _ 2 16 Tryz.underlying25 hi hz0 hz1 hz2 rfl (by decide) _ _ _ rfl (H7.alloc _) _ _ _ [.int .i64 q.x, .int .i64 q.y] rfl (Rd.fresh W14 _ #[.int .i64 q.x, .int .i64 q.y] 2 1 rfl) oc2 (by unfold maxLen; omega) (by omega) ?_; intro v15 W15 H8; clear H7; have H9 := H8.g4) | (at_builtin; refine wpList_app rfl _ _ 85 rfl 33 r0 _ 1 24 Tryz.underlying85 hk hx0 hx1 hx2 rfl (by decide) _ _ _ rfl (H9.alloc _) _ _ _ [.slice AR 6 cR] rfl (Rd.fresh W15 _ #[.slice AR 6 cR] 1 1 rfl) (ocF rfl) (by unfold maxLen; omega) (by omega) ?_; intro v16 W16 H10; clear H8 H9))
          have H11 := ((H10.g2.g4.rowsSnoc h6r.symm).g3.drop).g2
          have H12 : Sep w W16 [Res.row v15 39 2 (m + 1) (cc (K ++ [q])), Res.rows (vs ++ [.slice AR 6 cR]) (M ++ [R]), Res.row v16 33 1 (m + 1) (vs ++ [.slice AR 6 cR]), Res.row (.slice (some ⟨go, 0, none⟩) n n) 3 1 n (ic (List.replicate n 0))] := by rw [cc_append]; exact H11
          clear H10 H11
          go_roundw
          case rel => exact ⟨d + 1, m + 1, K ++ [q], M ++ [R], vs ++ [.slice AR 6 cR], by omega, by omega, hm9, by go_num, HM2, HIA, H12⟩
          case measure => simp [intOf]; omega
        · obtain rfl : d = 4 := by omega
          go_wp2
          go_roundw
          case rel => exact ⟨i + 1, m, K, M, vs, by omega, hm8, by go_num, HM, HI, H⟩
          case measure => simp [intOf]; omega
    · obtain rfl : i = m := by omega
      have HE : Hid (fcS s 32 = (K, M)) := Lib.hid (fc_end HI.out.st HM.out.symm (HI.out.le8 HSH.out))
      have HALL : Hid (∀ c ∈ s, c ∈ K) := Lib.hid fun c hc => by
        have := fc_all HSH.out HHG.out c hc
        rwa [HE.out] at this
      have HND : Hid K.Nodup := Lib.hid (HI.out.sees HA.out).nodup
      have hi1 : 0 < i := by
        rw [HM.out]
        exact List.length_pos_of_mem (HI.out.sees HA.out).mem
      obtain ⟨bs, os, cs2, hsl, _, _, hbs⟩ := own_shape H.h0 hi1
      obtain ⟨bu, ou, cu2, hsu, _, _, hbu⟩ := own_shape H.h2 hi1
      obtain ⟨rfl, rfl⟩ : Ask = some ⟨bs, os, none⟩ ∧ csk = cs2 := by simpa using hsl
      obtain ⟨rfl, rfl⟩ : Acu = some ⟨bu, ou, none⟩ ∧ ccu = cu2 := by simpa using hsu
      clear hsl hsu
      have H1 : Sep w wr [Res.row (.slice (some ⟨bs, os, none⟩) i csk) 39 2 i (cc K), Res.rows vs M, Res.row (.slice (some ⟨bu, ou, none⟩) i ccu) 33 1 i vs, Res.row (.slice (some ⟨go, 0, none⟩) n n) 3 1 n (ic (outA s 0))] := by
        rw [outA_zero, ← HN.out]
        exact H
      clear H
      go_wp2
      go_loopw [12] (fun kv wx => ∃ k : Nat, k ≤ n ∧ kv = .int .i64 k ∧ Sep w wx [Res.row (.slice (some ⟨bs, os, none⟩) i csk) 39 2 i (cc K), Res.rows vs M, Res.row (.slice (some ⟨bu, ou, none⟩) i ccu) 33 1 i vs, Res.row (.slice (some ⟨go, 0, none⟩) n n) 3 1 n (ic (outA s k))]) (fun kv _ => n - (intOf kv).toNat)
      case atStart => exact ⟨0, Nat.zero_le _, rfl, H1⟩
      case round =>
        clear H1
        obtain ⟨k, hkn, rfl, H⟩ := hrel
        by_cases hlk : k < n
        · have hlki : (k : Int) < (n : Int) := by omega
          obtain ⟨ck, hck⟩ : ∃ c, s[k]? = some c := ⟨s[k]'(by rw [← HN.out]; exact hlk), List.getElem?_eq_getElem _⟩
          have HCK := Lib.hid hck
          clear hck
          go_wp2
          go_loopw [13] (fun jv wx => ∃ (j : Nat) (X : List Int), j ≤ i ∧ jv = .int .i64 j ∧ Hid (ck ∈ K.take j → X = outA s (k + 1)) ∧ Hid (¬ ck ∈ K.take j → X = outA s k) ∧ Sep w wx [Res.row (.slice (some ⟨bs, os, none⟩) i csk) 39 2 i (cc K), Res.rows vs M, Res.row (.slice (some ⟨bu, ou, none⟩) i ccu) 33 1 i vs, Res.row (.slice (some ⟨go, 0, none⟩) n n) 3 1 n (ic X)]) (fun jv _ => i - (intOf jv).toNat)
          case atStart => exact ⟨0, _, Nat.zero_le _, rfl, Lib.hid (fun h => by simp at h), Lib.hid (fun _ => rfl), H⟩
          case round =>
            clear H
            obtain ⟨j, X, hji, rfl, HX1, HX2, H⟩ := hrel
            by_cases hlj : j < i
            · have hlji : (j : Int) < (i : Int) := by omega
              obtain ⟨c0, F, u, hc0, hF, hu, hF6, hcs⟩ := HI.out.at (i := j) HSH.out (by rw [← HM.out]; exact hlj)
              have x1 := (row_at2 H.h0 hc0).1
              have x2 := (row_at2 H.h0 hc0).2
              have y1 := own_cell H.h2 (j := j) hu
              have hbw := H.below
              have q1 : wr.cell? ⟨b, off + k * 2, none⟩ = some (.int .i64 ck.x) := (hbw.cell (p := ⟨b, off + k * 2, none⟩) hb).trans (HCE.out _ _ (cc_at HCK.out).1)
              have q2 : wr.cell? ⟨b, off + k * 2 + 1, none⟩ = some (.int .i64 ck.y) := (hbw.cell (p := ⟨b, off + k * 2 + 1, none⟩) hb).trans (by rw [Nat.add_assoc]; exact HCE.out _ _ (cc_at HCK.out).2)
              have HC0 := Lib.hid hc0
              have HTK : Hid (K.take (j + 1) = K.take j ++ [c0]) := Lib.hid (by
                obtain ⟨h1, h2⟩ := List.getElem?_eq_some_iff.1 hc0
                rw [List.take_succ_eq_append_getElem h1, h2])
              by_cases hxy : ck = c0
              · subst hxy
                have heq : ∀ n, (Op.equal 39 (.agg #[.int .i64 ck.x, .int .i64 ck.y]) (.agg #[.int .i64 ck.x, .int .i64 ck.y])).run Tryz.prog (wr.drewN n) = .ok true (wr.drewN n) := fun n => by have := run_equal_cell (wr.drewN n) ck ck; rw [decide_eq_true rfl] at this; exact this
                obtain ⟨gu, cu, rfl, _, _, _, _, hrc⟩ := RowsAt.shape H.h1 hu hF (by omega)
                obtain ⟨f0, hf0⟩ : ∃ x, F[0]? = some x := ⟨F[0]'(by omega), List.getElem?_eq_getElem _⟩
                have z1 := hrc 0 f0 hf0
                have HFF : Hid (fcF s ck = f0) := Lib.hid (by
                  rw [fcF_at HE.out HND.out HC0.out hF, List.getD_eq_getElem?_getD, hf0]; rfl)
                have HNK : Hid (¬ ck ∈ K.take j) := Lib.hid fun hm => by
                  obtain ⟨t, ht, e⟩ := List.getElem_of_mem hm
                  rw [List.length_take] at ht
                  rw [List.getElem_take] at e
                  have h1 := (List.getElem?_eq_some_iff.1 HC0.out)
                  have h2 := List.pairwise_iff_getElem.1 (List.nodup_iff_pairwise_ne.1 HND.out) t j (by omega) h1.1 (by omega)
                  exact h2 (e.trans h1.2.symm)
                have HXX := Lib.hid (HX2.out HNK.out)
                obtain ⟨Y, hY⟩ : ∃ Y, Y = outA s (k + 1) := ⟨_, rfl⟩
                have HY1 : Hid (ck ∈ K.take (j + 1) → Y = outA s (k + 1)) := Lib.hid fun _ => hY
                have HY2 : Hid (¬ ck ∈ K.take (j + 1) → Y = outA s k) := Lib.hid fun h => absurd (by rw [HTK.out]; simp) h
                have HXY : Hid ((ic X).set k (.int .i64 f0) = ic Y) := Lib.hid (by
                  rw [ic_set, HXX.out, ← HFF.out, outA_set HCK.out, hY])
                have hxl : k < (ic X).length := by rw [ic_length, HXX.out, outA_len (by rw [← HN.out]; exact hkn), ← HN.out]; exact hlk
                clear hc0 hF hu hcs hrc hf0 hbw hY
                go_upto_region 23 with fail
                go_quiet (fail)
                have H1 := H.drewN nq
                clear H heq x1 x2 q1 q2
                have y1' : (wr.drewN nq).cell? ⟨bu, ou + j, none⟩ = _ := y1
                have z1' : (wr.drewN nq).cell? ⟨gu, 0, none⟩ = _ := z1
                clear y1 z1
                generalize wr.drewN nq = w2 at *
                have fr := own_free H1.h3 k
                rw [Nat.zero_add] at fr
                have H2 := (H1.g3.setRow (j := k) hxl (.int .i64 f0)).p3
                rw [HXY.out, Nat.zero_add] at H2
                have y1f : w2.cell? ⟨bu, ou + j, none⟩ = some (.slice (some ⟨gu, 0, none⟩) 6 cu) := by rw [← hF6]; exact y1'
                obtain ⟨xk, hxk⟩ : ∃ x, X[k]? = some x := ⟨X[k]'(by rw [ic_length] at hxl; exact hxl), List.getElem?_eq_getElem _⟩
                have x2 : w2.cell? ⟨go, k, none⟩ = some (.int .i64 xk) := by
                  have := own_cell1 H1.h3 hxk
                  rwa [Nat.zero_add] at this
                clear y1' HX1 HX2 HXX HXY hxl hxk HNK HTK HFF H1
                go_wp2
                go_roundw
                case rel => exact ⟨j + 1, Y, by omega, by go_num, HY1, HY2, H2⟩
                case measure => simp [intOf]; omega
              · have hne : ∀ n, (Op.equal 39 (.agg #[.int .i64 ck.x, .int .i64 ck.y]) (.agg #[.int .i64 c0.x, .int .i64 c0.y])).run Tryz.prog (wr.drewN n) = .ok false (wr.drewN n) := fun n => by have := run_equal_cell (wr.drewN n) ck c0; rw [decide_eq_false hxy] at this; exact this
                have HXY := Lib.hid hxy
                have HY1 : Hid (ck ∈ K.take (j + 1) → X = outA s (k + 1)) := Lib.hid fun hm => by
                  rw [HTK.out] at hm
                  rcases List.mem_append.1 hm with hm | hm
                  · exact HX1.out hm
                  · exact absurd (List.mem_singleton.1 hm) HXY.out
                have HY2 : Hid (¬ ck ∈ K.take (j + 1) → X = outA s k) := Lib.hid fun hm => HX2.out fun h => hm (by rw [HTK.out]; exact List.mem_append_left _ h)
                clear hc0 hF hu hcs hbw hxy y1
                go_upto_region 23 with fail
                refine wp_region_quiet_lit (by kernel_rfl) (by kernel_rfl) ?_
                repeat (go_big_quiet_step (fail))
                go_big_quiet_want
                go_big_quiet_op
                refine ⟨.bool false, fun aa => ?_, ?_⟩
                · by_cases hx : ck.x = c0.x
                  · have hy : ¬ ck.y = c0.y := fun hy => HXY.out (by cases ck; cases c0; simp at hx hy; subst hx; subst hy; rfl)
                    simp [hx, hy]
                  · simp [hx]
                go_big_quiet_on
                refine wpQuiet_nil ?_
                intro _ hwq'
                obtain ⟨nq, hwq''⟩ := hwq'
                subst hwq''
                have H1 := H.drewN nq
                clear hne q1 q2 x1 x2 H
                go_wp2
                go_roundw
                case rel => exact ⟨j + 1, X, by omega, by go_num, HY1, HY2, H1⟩
                case measure => simp [intOf]; omega
            · obtain rfl : j = i := by omega
              have hXE : X = outA s (k + 1) := HX1.out (by
                rw [List.take_of_length_le (by rw [HM.out]; exact Nat.le_refl _)]
                exact HALL.out _ (List.mem_of_getElem? HCK.out))
              subst hXE
              clear HX1 HX2
              go_wp2
              go_roundw
              case rel => exact ⟨k + 1, by omega, by go_num, H⟩
              case measure => simp [intOf]; omega
        · obtain rfl : k = n := by omega
          have hoA : outA s k = facesL s := by rw [HN.out, outA_all]
          rw [hoA] at H
          have h1 := H.g3.oi
          have hb1 := H.below
          have hfl : (facesL s).length = k := by rw [facesL_len, HN.out]
          clear H hoA
          go_wp2
          go_ret2
          refine ⟨_, rfl, ?_, hb1⟩
          unfold IntsIn
          rw [hfl]
          exact h1
end Go.Proofs.YtbdffadhieljbaaGreatDoor

namespace Go.Proofs.YtbdffadhieljbaaGreatDoor
open Go.RowKit

/-- block b is a map that holds these values, in the order in which they came in -/
def MapV (w : World) (b : Nat) (l : List (Cell × Value)) : Prop := ∃ es clock, w.heap[b]? = some (.map es clock) ∧ es.toList.map (fun e => (e.key, e.val)) = l.map fun p => (cv p.1, p.2)
theorem MapV.keep {w w' : World} {b : Nat} {l : List (Cell × Value)} (h : MapV w b l) (hb : w'.heap[b]? = w.heap[b]?) : MapV w' b l := by
  obtain ⟨es, cl, h1, h2⟩ := h
  exact ⟨es, cl, hb.trans h1, h2⟩
theorem MapV.lt {w : World} {b : Nat} {l : List (Cell × Value)} (h : MapV w b l) : b < w.heap.size := by
  obtain ⟨es, cl, h1, h2⟩ := h
  exact (Array.getElem?_eq_some_iff.1 h1).1
theorem MapV.made (w : World) : MapV (w.alloc (.map #[] 0)) w.heap.size [] := ⟨#[], 0, heap_alloc_new w _, rfl⟩
set_option maxRecDepth 100000 in
theorem vrun_findAsking (w : World) (c : Cell) (es : List MapEntry) (i : Nat) (l : List (Cell × Value)) (h : es.map (fun e => (e.key, e.val)) = l.map fun p => (cv p.1, p.2)) :
    ∃ r, (Instr.findAsking 39 (cv c) es i).run Tryz.prog w = .ok r w ∧ r.map (·.2) = (l.find? fun p => decide (c = p.1)).map (fun p => p.2) := by
  induction es generalizing i l with
  | nil =>
    cases l with
    | nil => exact ⟨none, by simp [Instr.findAsking], rfl⟩
    | cons p l => simp at h
  | cons e es ih =>
    cases l with
    | nil => simp at h
    | cons p l =>
      simp at h
      obtain ⟨⟨hk, hv⟩, ht⟩ := h
      by_cases hc : c = p.1
      · refine ⟨some (i, e.val), ?_, by simp [hc, hv]⟩
        simp only [Instr.findAsking, Sem.run_bind]
        rw [hk, run_equal_cell]
        simp [hc, Result.andThen]
      · obtain ⟨r, h1, h2⟩ := ih (i + 1) l (by simpa using ht)
        refine ⟨r, ?_, by simp [hc, h2]⟩
        simp only [Instr.findAsking, Sem.run_bind]
        rw [hk, run_equal_cell]
        simp [hc, Result.andThen, h1]
set_option maxRecDepth 100000 in
theorem vrun_findKey (w : World) (c : Cell) (es : List MapEntry) (l : List (Cell × Value)) (h : es.map (fun e => (e.key, e.val)) = l.map fun p => (cv p.1, p.2)) :
    ∃ r, (Instr.findKey 39 (cv c) es).run Tryz.prog w = .ok r w ∧ r.map (·.2) = (l.find? fun p => decide (c = p.1)).map (fun p => p.2) := by
  cases es with
  | nil =>
    cases l with
    | nil => exact ⟨none, by simp [Instr.findKey, run_underlying cellUnder, Instr.findNow], rfl⟩
    | cons p l => simp at h
  | cons e es =>
    obtain ⟨r, h1, h2⟩ := vrun_findAsking w c (e :: es) 0 l h
    refine ⟨r, ?_, h2⟩
    unfold cv at h1 ⊢
    simp only [Instr.findKey, Sem.run_bind, run_underlying cellUnder, Result.andThen_ok, Instr.findNow, Instr.sameNow]
    exact h1
set_option maxRecDepth 100000 in
theorem vmapUnder : Tryz.prog.underlying 97 = some (.map 39 33) := by kernel_rfl
/-- what a cell is mapped to -/
def vAt (l : List (Cell × Value)) (c : Cell) : Option Value := (l.find? fun p => decide (c = p.1)).map (·.2)
set_option maxRecDepth 100000 in
theorem vrun_lookup {w : World} {b : Nat} {l : List (Cell × Value)} (h : MapV w b l) (c : Cell) :
    (Instr.lookup 97 (.map (some b)) (cv c) false).run Tryz.prog w = .ok ((vAt l c).getD (.slice none 0 0)) w := by
  obtain ⟨es, cl, h1, h2⟩ := h
  obtain ⟨r, h3, h4⟩ := vrun_findKey w c es.toList l h2
  simp only [Instr.lookup, Sem.run_bind, run_underlying vmapUnder, MapKept.run_getObj_map h1, Result.andThen_ok, Sem.run_pure, run_checkKey_cell, h3]
  cases r with
  | none =>
    have : vAt l c = none := by
      unfold vAt
      cases hf : l.find? (fun p => decide (c = p.1)) with
      | none => rfl
      | some p => rw [hf] at h4; simp at h4
    simp [this]
  | some q =>
    obtain ⟨j, v⟩ := q
    cases hf : l.find? (fun p => decide (c = p.1)) with
    | none => rw [hf] at h4; simp at h4
    | some p =>
      rw [hf] at h4
      simp at h4
      subst h4
      simp [vAt, hf]
set_option maxRecDepth 100000 in
theorem vrun_lookup_ok {w : World} {b : Nat} {l : List (Cell × Value)} (h : MapV w b l) (c : Cell) :
    (Instr.lookup 97 (.map (some b)) (cv c) true).run Tryz.prog w = .ok (.tuple #[(vAt l c).getD (.slice none 0 0), .bool (vAt l c).isSome]) w := by
  obtain ⟨es, cl, h1, h2⟩ := h
  obtain ⟨r, h3, h4⟩ := vrun_findKey w c es.toList l h2
  simp only [Instr.lookup, Sem.run_bind, run_underlying vmapUnder, MapKept.run_getObj_map h1, Result.andThen_ok, Sem.run_pure, run_checkKey_cell, h3]
  cases r with
  | none =>
    have : vAt l c = none := by
      unfold vAt
      cases hf : l.find? (fun p => decide (c = p.1)) with
      | none => rfl
      | some p => rw [hf] at h4; simp at h4
    simp [this]
  | some q =>
    obtain ⟨j, v⟩ := q
    cases hf : l.find? (fun p => decide (c = p.1)) with
    | none => rw [hf] at h4; simp at h4
    | some p =>
      rw [hf] at h4
      simp at h4
      subst h4
      simp [vAt, hf]
set_option maxRecDepth 100000 in
/-- a store under a new key -/
theorem vrun_update {w : World} {b : Nat} {l : List (Cell × Value)} (h : MapV w b l) (c : Cell) (d : Value) (hn : vAt l c = none) :
    ∃ w', (Instr.mapUpdate 97 (.map (some b)) (cv c) d).run Tryz.prog w = .ok () w' ∧ MapV w' b (l ++ [(c, d)]) ∧ w.grownBy w' (some b) ∧ w'.heap.size = w.heap.size := by
  have hlt := h.lt
  obtain ⟨es, cl, h1, h2⟩ := h
  obtain ⟨r, h3, h4⟩ := vrun_findKey w c es.toList l h2
  have hr : r = none := by
    cases r with
    | none => rfl
    | some q =>
      unfold vAt at hn
      cases hf : l.find? (fun p => decide (c = p.1)) with
      | none => rw [hf] at h4; simp at h4
      | some p => rw [hf] at hn; simp at hn
  subst hr
  refine ⟨{ w with heap := w.heap.setIfInBounds b (.map (es.push { key := cv c, val := d, born := cl }) (cl + 1)) }, ?_, ⟨es.push { key := cv c, val := d, born := cl }, cl + 1, by simp [hlt], by simp [h2]⟩, ⟨rfl, rfl, rfl, by simp, fun k _ hne => ?_⟩, by simp⟩
  · simp only [Instr.mapUpdate, Sem.run_bind, run_underlying vmapUnder, MapKept.run_getObj_map h1, Result.andThen_ok, run_checkKey_cell, h3, MapKept.run_setObj_map _ h1]
  · have hkb : b ≠ k := fun e => hne (by rw [e])
    simp [hkb]
def Res.vmap (b : Nat) (l : List (Cell × Value)) : Res := ⟨fun x => x = b, fun w => MapV w b l, fun hs h => h.keep (hs b rfl), fun h hb => by subst hb; exact h.lt⟩
set_option maxRecDepth 100000 in
theorem Sep.vput {w0 w : World} {mb : Nat} {l : List (Cell × Value)} {L : List Res} (H : Sep w0 w (Res.vmap mb l :: L)) (c : Cell) (d : Value) (hn : vAt l c = none) :
    ∃ w', (Instr.mapUpdate 97 (.map (some mb)) (cv c) d).run Tryz.prog w = .ok () w' ∧ Sep w0 w' (Res.vmap mb (l ++ [(c, d)]) :: L) := by
  have hm : MapV w mb l := H.h0
  obtain ⟨w', h1, h2, h3, h4⟩ := vrun_update hm c d hn
  have ho := Only.of_grown h3
  exact ⟨w', h1, H.turn ⟨ho.os, ho.tape, ho.output, ho.size, fun b hb hd => ho.block b hb (fun e => hd (by injection e with e; exact e.symm))⟩ h2 (fun b hb => .inl hb)⟩
theorem Sep.vmade {w0 w : World} {L : List Res} (H : Sep w0 w L) : Sep w0 (w.alloc (.map #[] 0)) (Res.vmap w.heap.size [] :: L) :=
  H.new (r := Res.vmap w.heap.size []) ((Below.refl _ _).alloc (Nat.le_refl _) _) (MapV.made w) (fun x hx => by have hx : x = w.heap.size := hx; omega)
end Go.Proofs.YtbdffadhieljbaaGreatDoor

namespace Go.Proofs.YtbdffadhieljbaaGreatDoor
open Go.RowKit

theorem QI.of_rowF {w : World} {lo sz n g0 c0 : Nat} {e : TypeId} {xs : List Value} (h : w.ownsRow lo e sz (.slice (some ⟨g0, 0, none⟩) n c0) n xs) : QI w lo e sz (.slice (some ⟨g0, 0, none⟩) n c0) n xs := by
  refine ⟨h.1, ?_⟩
  rcases h.2 with ⟨h0, _⟩ | ⟨g, cap, cur, he, hbg, hgg, h1, h2, h3, h4⟩
  · cases h0
  · right
    refine ⟨g, 0, cap, cur, he, hbg, hgg, h1, h2, by omega, fun j u hu => ?_⟩
    rw [← h4, List.getElem?_take] at hu
    split at hu
    · rw [Nat.zero_add, ← Array.getElem?_toList]; exact hu
    · cases hu
theorem vAt_zip {K : List Cell} {vs : List Value} {j : Nat} {c : Cell} {u : Value} (hn : K.Nodup) (hc : K[j]? = some c) (hu : vs[j]? = some u) : vAt (K.zip vs) c = some u := by
  unfold vAt
  rw [zfind hn hc hu]; rfl
theorem vAt_zip_none {K : List Cell} {vs : List Value} {c : Cell} (h : ¬ c ∈ K) : vAt (K.zip vs) c = none := by
  unfold vAt
  rw [zfind_none h]; rfl
theorem zip_snoc {K : List Cell} {vs : List Value} {c : Cell} {u : Value} (h : vs.length = K.length) : (K ++ [c]).zip (vs ++ [u]) = K.zip vs ++ [(c, u)] := by
  rw [List.zip_append h.symm]; rfl
set_option maxRecDepth 100000 in
/-- the letter of a direction -/
theorem rdlu_at {d : Nat} (hd : d < 4) (W : World) : (Instr.index 9 (.string { data := #[114, 100, 108, 117] }) (.int .i64 (d : Int))).run Tryz.prog W = .ok (.int .u8 (dirB d)) W := by
  have h0 : ∀ W : World, (Instr.index 9 (.string { data := #[114, 100, 108, 117] }) (.int .i64 0)).run Tryz.prog W = .ok (.int .u8 114) W := fun _ => by kernel_rfl
  have h1 : ∀ W : World, (Instr.index 9 (.string { data := #[114, 100, 108, 117] }) (.int .i64 1)).run Tryz.prog W = .ok (.int .u8 100) W := fun _ => by kernel_rfl
  have h2 : ∀ W : World, (Instr.index 9 (.string { data := #[114, 100, 108, 117] }) (.int .i64 2)).run Tryz.prog W = .ok (.int .u8 108) W := fun _ => by kernel_rfl
  have h3 : ∀ W : World, (Instr.index 9 (.string { data := #[114, 100, 108, 117] }) (.int .i64 3)).run Tryz.prog W = .ok (.int .u8 117) W := fun _ => by kernel_rfl
  match d, hd with
  | 0, _ => exact h0 W
  | 1, _ => exact h1 W
  | 2, _ => exact h2 W
  | 3, _ => exact h3 W
set_option maxRecDepth 100000 in
set_option maxHeartbeats 6400000 in
theorem impl_faces_c {v : Value} {s : List Cell} (w : World) (h : CellsRd w 0 w.heap.size v s) (hsh : isShape s = true) (hcn : connS s = true) :
    Calls Tryz.prog 93 #[v] w fun e w' => ∃ v', e = .returned (.tuple #[v', .bool true]) ∧ IntsIn w' w.heap.size w'.heap.size v' (facesL s) ∧ Below w.heap.size w w' := by
  obtain ⟨i0, hi, hz0, hz1, hz2⟩ := info_parts infoCellS
  obtain ⟨j0, hj, hy0, hy1, hy2⟩ := info_parts infoIntSy
  obtain ⟨hl1, hl8⟩ := shp_len hsh
  have HRD : Hid (∀ w1, Below w.heap.size w w1 → CellsRd w1 0 w1.heap.size v s) := Lib.hid fun w1 b1 => (h.keep (SameIn.of_below b1 (Nat.le_refl _))).more (Nat.le_refl _) b1.size
  have HSH := Lib.hid hsh
  have HHS : Hid (∀ (x y : Int) w1, Below w.heap.size w w1 → Calls Tryz.prog 92 #[v, .int .i64 x, .int .i64 y] w1 fun e w' => e = .returned (.bool (decide ((⟨x, y⟩ : Cell) ∈ s))) ∧ Below w1.heap.size w1 w') := Lib.hid fun x y w1 b1 => impl_has2_c x y w1 (HRD.out w1 b1) (by omega)
  have HC := Lib.hid (impl_conn_c w h (by omega))
  rw [hcn] at HC
  have HHG : Hid (hangs s = true) := Lib.hid (by unfold connS at hcn; rw [hsh, Bool.true_and] at hcn; exact hcn)
  obtain ⟨A, c, rfl, _, hr⟩ := h
  obtain ⟨b, off, hA, _, hb, hcc⟩ := hr.2 (by omega)
  subst hA
  have HCE := Lib.hid hcc
  obtain ⟨n, hn⟩ : ∃ n, n = s.length := ⟨_, rfl⟩
  have HN := Lib.hid hn
  rw [← hn] at hl1 hl8
  have hmm := @run_makeMap Tryz.prog
  rw [← hn] at HRD HHS HC ⊢
  clear hsh hr hcc hcn hn
  go_enter Tryz.func93, Tryz.ntmps93
  go_wp2_with fail
  refine (HC.out).mono ?_
  rintro e w1 ⟨rfl, b1⟩
  obtain ⟨a, ha⟩ : ∃ a, s[0]? = some a := ⟨s[0]'(by rw [← HN.out]; omega), List.getElem?_eq_getElem _⟩
  have HA := Lib.hid ha
  have H0 := ((Sep.start w).step b1).vmade
  have hbw := H0.below
  have q1 : (w1.alloc (.map #[] 0)).cell? ⟨b, off, none⟩ = some (.int .i64 a.x) := (hbw.cell (p := ⟨b, off, none⟩) hb).trans (HCE.out _ _ (cc_at ha).1)
  have q2 : (w1.alloc (.map #[] 0)).cell? ⟨b, off + 1, none⟩ = some (.int .i64 a.y) := (hbw.cell (p := ⟨b, off + 1, none⟩) hb).trans (HCE.out _ _ (cc_at ha).2)
  have H1 := (H0.rowBox 3 #[.int .i64 0, .int .i64 1, .int .i64 2, .int .i64 3, .int .i64 4, .int .i64 5] 1 6 rfl (by decide)).g1
  obtain ⟨W3, hup, H2⟩ := H1.vput a (.slice (some ⟨(w1.alloc (.map #[] 0)).heap.size, 0, none⟩) 6 6) rfl
  unfold cv at hup
  simp only [World.size_alloc] at hup H2
  clear HC b1 ha H0 H1 hbw
  go_upto_region 4 with fail
  obtain ⟨mb, hmb⟩ : ∃ g, g = w1.heap.size := ⟨_, rfl⟩
  rw [← hmb] at H2 ⊢
  clear hmb
  have bw := H2.below
  have p1 : W3.cell? ⟨b, off, none⟩ = some (.int .i64 a.x) := (bw.cell (p := ⟨b, off, none⟩) hb).trans (HCE.out _ _ (cc_at HA.out).1)
  have p2 : W3.cell? ⟨b, off + 1, none⟩ = some (.int .i64 a.y) := (bw.cell (p := ⟨b, off + 1, none⟩) hb).trans (HCE.out _ _ (cc_at HA.out).2)
  obtain ⟨u0, hu0⟩ : ∃ u, u = Value.slice (some ⟨mb + 1, 0, none⟩) 6 6 := ⟨_, rfl⟩
  have H3 := ((H2.rowsNil.g2.p1.rowsSnoc (r := [0, 1, 2, 3, 4, 5]) rfl).g1.rowBox 39 #[.int .i64 a.x, .int .i64 a.y] 2 1 rfl (by decide)).say (r' := Res.que (.slice (some ⟨W3.heap.size, 0, none⟩) 1 1) 39 2 1 (cc [a])) (fun h => QI.of_rowF h) (fun _ h => h)
  have HI0 := Lib.hid (FcI.start HA.out (Value.slice (some ⟨mb + 1, 0, none⟩) 6 6))
  clear H2 bw hup q1 q2
  go_upto_region 5 with fail
  obtain ⟨gt, hgt⟩ : ∃ g, g = W3.heap.size := ⟨_, rfl⟩
  rw [← hgt] at H3 ⊢
  generalize W3.alloc (.cells #[.int .i64 a.x, .int .i64 a.y] 39) = W4 at *
  clear hgt p1 p2
  go_loopg [5] 9 (fun gk qv wx => ∃ (i : Nat) (K Q : List Cell) (M : List (List Int)) (vs : List Value), gk + i = 9 ∧ i ≤ K.length ∧ K.length ≤ 8 ∧ Hid (Q = K.drop i) ∧ Hid (FcI s K M vs (4 * i)) ∧ Sep w wx [Res.que qv 39 2 Q.length (cc Q), Res.vmap mb (K.zip vs), Res.rows vs M])
  case atStart => exact ⟨0, [a], [a], _, _, rfl, Nat.zero_le _, by simp, Lib.hid rfl, HI0, H3⟩
  case round =>
    clear H3 HI0
    obtain ⟨i, K, Q, M, vs, hgk, him, hm8, HQD, HI, H⟩ := hrel
    cases Q with
    | nil =>
      have hKi : K.length = i := by
        have := congrArg List.length HQD.out
        rw [List.length_drop] at this
        simp at this
        omega
      have HE : Hid (fcS s 32 = (K, M)) := Lib.hid (fc_end HI.out.st hKi (HI.out.le8 HSH.out))
      have HALL : Hid (∀ c ∈ s, c ∈ K) := Lib.hid fun c hc => by
        have := fc_all HSH.out HHG.out c hc
        rwa [HE.out] at this
      have HND : Hid K.Nodup := Lib.hid (HI.out.sees HA.out).nodup
      rw [List.length_nil] at H
      obtain ⟨Aq, cq, rfl⟩ := QI.shape H.h0
      have H2 := H.drop.nil 3 1
      have HFL : Hid ((facesL s).length = n) := Lib.hid (by rw [facesL_len, HN.out])
      clear H hKi hgk him
      go_wp2
      go_loopw [12, 76] (fun ov kv wx => ∃ k : Nat, k ≤ n ∧ kv = .int .i64 k ∧ Sep w wx [Res.row ov 3 1 k (ic ((facesL s).take k)), Res.vmap mb (K.zip vs), Res.rows vs M]) (fun _ kv _ => n - (intOf kv).toNat)
      case atStart => exact ⟨0, Nat.zero_le _, rfl, H2⟩
      case round =>
        clear H2
        obtain ⟨k, hkn, rfl, H⟩ := hrel
        by_cases hlk : k < n
        · have hlki : (k : Int) < (n : Int) := by omega
          obtain ⟨ck, hck⟩ : ∃ c, s[k]? = some c := ⟨s[k]'(by rw [← HN.out]; exact hlk), List.getElem?_eq_getElem _⟩
          obtain ⟨j, hj, hjk⟩ := List.getElem_of_mem (HALL.out ck (List.mem_of_getElem? hck))
          have hcj : K[j]? = some ck := by rw [List.getElem?_eq_getElem hj, hjk]
          obtain ⟨c0, F, u, hc0, hF, hu, hF6, _⟩ := HI.out.at (i := j) HSH.out hj
          obtain rfl : ck = c0 := by
            rw [hcj] at hc0
            injection hc0
          have hbw := H.below
          have q1 : wr.cell? ⟨b, off + k * 2, none⟩ = some (.int .i64 ck.x) := (hbw.cell (p := ⟨b, off + k * 2, none⟩) hb).trans (HCE.out _ _ (cc_at hck).1)
          have q2 : wr.cell? ⟨b, off + k * 2 + 1, none⟩ = some (.int .i64 ck.y) := (hbw.cell (p := ⟨b, off + k * 2 + 1, none⟩) hb).trans (by rw [Nat.add_assoc]; exact HCE.out _ _ (cc_at hck).2)
          have H1 := H.box 39 #[.int .i64 ck.x, .int .i64 ck.y]
          obtain ⟨Ao, co, rfl, _, _, _⟩ := Res.row_at H.h0
          have HCK := Lib.hid hck
          have HUJ : Hid (vAt (K.zip vs) ck = some u) := Lib.hid (vAt_zip HND.out hcj hu)
          have HFJ := Lib.hid hF
          have HUU := Lib.hid hu
          obtain ⟨f0, hf0⟩ : ∃ x, F[0]? = some x := ⟨F[0]'(by omega), List.getElem?_eq_getElem _⟩
          have HFF : Hid (fcF s ck = f0) := Lib.hid (by
            rw [fcF_at HE.out HND.out hcj hF, List.getD_eq_getElem?_getD, hf0]; rfl)
          have HF0 := Lib.hid hf0
          clear H hbw hck hcj hc0 hF hu hj hjk hf0
          go_upto_region 21 with fail
          generalize hW5 : wr.alloc (.cells #[.int .i64 ck.x, .int .i64 ck.y] 39) = W5 at *
          generalize hgn : wr.heap.size = gn at *
          clear q1 q2 hW5 hgn
          have k0 : W5.cell? ⟨gn, 0, none⟩ = some (.int .i64 ck.x) := H1.h0.cell 0
          have k1 : W5.cell? ⟨gn, 1, none⟩ = some (.int .i64 ck.y) := H1.h0.cell 1
          have hmp : MapV W5 mb (K.zip vs) := H1.h2
          obtain ⟨gu, cu, rfl, _, _, _, _, hrc⟩ := RowsAt.shape H1.h3 HUU.out HFJ.out (by omega)
          have z1 := hrc 0 f0 HF0.out
          rw [hF6] at HUJ
          have hlk : (Instr.lookup 97 (.map (some mb)) (.agg #[.int .i64 ck.x, .int .i64 ck.y]) false).run Tryz.prog W5 = .ok (.slice (some ⟨gu, 0, none⟩) 6 cu) W5 := by
            have := vrun_lookup hmp ck
            rw [HUJ.out] at this
            exact this
          have H3 := H1.drop
          have HNL : Hid (ic ((facesL s).take (k + 1)) = ic ((facesL s).take k) ++ [.int .i64 f0]) := Lib.hid (by
            have h1 : (facesL s)[k]? = some f0 := by rw [facesL, List.getElem?_map, HCK.out, ← HFF.out]; rfl
            obtain ⟨h2, h3⟩ := List.getElem?_eq_some_iff.1 h1
            rw [List.take_succ_eq_append_getElem h2, h3, ic_append]; rfl)
          clear H1 hmp hrc
          go_wp2_with (at_builtin; refine wpList_app rfl _ _ 33 rfl 3 j0 _ 1 8 Tryz.underlying33 hj hy0 hy1 hy2 rfl (by decide) _ _ _ rfl (H3.alloc _) _ _ _ [.int .i64 f0] rfl (Rd.fresh W5 _ #[.int .i64 f0] 1 1 rfl) oc1 (by unfold maxLen; omega) (by omega) ?_; intro v5 w5 H6; clear H3)
          rw [← HNL.out] at H6
          go_roundw
          case rel => exact ⟨k + 1, by omega, by go_num, H6⟩
          case measure => simp [intOf]; omega
        · obtain rfl : k = n := by omega
          obtain ⟨Ao, co, rfl, _, _, _⟩ := Res.row_at H.h0
          rw [List.take_of_length_le (by rw [HFL.out]; exact Nat.le_refl _)] at H
          have ho := H.oi
          have hbl := H.below
          clear H
          go_wp2
          go_ret2
          refine ⟨_, rfl, ?_, hbl⟩
          unfold IntsIn
          rw [HFL.out]
          exact ho
    | cons cd Q =>
      have hTc : K[i]? = some cd := by
        have := congrArg (fun l => l[0]?) HQD.out
        simp only [List.getElem?_cons_zero, List.getElem?_drop, Nat.add_zero] at this
        exact this.symm
      have hiK : i < K.length := (List.getElem?_eq_some_iff.1 hTc).1
      have HQ2 : Hid (Q = K.drop (i + 1)) := Lib.hid (by
        have := congrArg List.tail HQD.out
        rw [List.tail_cons, List.tail_drop] at this
        exact this)
      have HCI := Lib.hid hTc
      have hql : (cd :: Q).length = Q.length + 1 := rfl
      rw [hql] at H
      have hQ8 : Q.length ≤ 8 := by rw [HQ2.out, List.length_drop]; omega
      obtain ⟨gq, oq, capq, csq, hqv, _, hbq, hnc', hcm, _, hcells⟩ := QI.at_ H.h0 (by omega)
      subst hqv
      have k0 : wr.cell? ⟨gq, oq, none⟩ = some (.int .i64 cd.x) := hcells 0 _ rfl
      have k1 : wr.cell? ⟨gq, oq + 1, none⟩ = some (.int .i64 cd.y) := hcells 1 _ rfl
      have H1 := H.box 39 #[.int .i64 cd.x, .int .i64 cd.y]
      obtain ⟨gc, hgc⟩ : ∃ gd, gd = wr.heap.size := ⟨_, rfl⟩
      rw [← hgc] at H1
      have HQX : Hid (QI (wr.alloc (.cells #[.int .i64 cd.x, .int .i64 cd.y] 39)) 0 39 2 (.slice (some ⟨gq, oq, none⟩) (Q.length + 1) capq) (Q.length + 1) (cc (cd :: Q))) := Lib.hid H1.h1
      have hd0 : decide ((0 : Int) < ((Q.length + 1 : Nat) : Int)) = true := decide_eq_true (by omega)
      have hd1 : decide ((0 : Int) < (Q.length : Int) + 1) = true := decide_eq_true (by omega)
      clear hTc hql hcells hbq H HQD
      go_wp2_with (refine wpList_tail_q _ rfl _ 25 rfl 0 39 i0 2 Tryz.underlying25 hi hz1 (by decide) gq oq Q.length capq _ rfl hnc' HQX.out ?_; clear HQX; intro tv hq2 htv)
      clear k0 k1 hd0 hd1
      have H2 := (H1.g1.say (r' := Res.que tv 39 2 Q.length (cc Q)) (fun _ => hq2) (fun b hb => by
        have hb : tv.ownBlock = some b := hb
        rw [htv] at hb
        exact hb)).g1
      clear H1 hq2 htv
      generalize wr.alloc (.cells #[.int .i64 cd.x, .int .i64 cd.y] 39) = W5 at *
      rw [← hgc]
      clear hgc
      go_loopw [5, 36] (fun qv dv wx => ∃ (d : Nat) (K : List Cell) (M : List (List Int)) (vs : List Value) (Q : List Cell), d ≤ 4 ∧ i < K.length ∧ K.length ≤ 8 ∧ dv = .int .i64 d ∧ Hid (Q = K.drop (i + 1)) ∧ Hid (FcI s K M vs (4 * i + d)) ∧ Hid (K[i]? = some cd) ∧ Sep w wx [Res.box gc 39 #[.int .i64 cd.x, .int .i64 cd.y], Res.que qv 39 2 Q.length (cc Q), Res.vmap mb (K.zip vs), Res.rows vs M]) (fun _ dv _ => 4 - (intOf dv).toNat)
      case atStart => exact ⟨0, K, M, vs, Q, by decide, hiK, hm8, rfl, HQ2, HI, HCI, H2⟩
      case round =>
        clear H2 hiK hm8 HQ2 HI HCI him hQ8
        obtain ⟨d, K, M, vs, Q, hd4, him, hm8, rfl, HQD, HI, HCI, H⟩ := hrel
        by_cases hd : d < 4
        · have hdi : (d : Int) < 4 := by omega
          obtain ⟨c0, F, u, hc0, hF, hu, hF6, hcs⟩ := HI.out.at HSH.out him
          obtain rfl : cd = c0 := by
            have := HCI.out
            rw [hc0] at this
            injection this with this
            exact this.symm
          obtain ⟨q, hq⟩ : ∃ q, q = stepC cd d := ⟨_, rfl⟩
          have hon := shp_on HSH.out hcs
          have hqs := step_sml HSH.out hcs d
          rw [← hq] at hqs
          unfold On at hon
          obtain ⟨D, hD⟩ : ∃ D, D = dirB d := ⟨_, rfl⟩
          have hix : ∀ W : World, (Instr.index 9 (.string { data := #[114, 100, 108, 117] }) (.int .i64 (d : Int))).run Tryz.prog W = .ok (.int .u8 D) W := by rw [hD]; exact rdlu_at hd
          have HST : Hid (∀ w', Calls Tryz.prog 104 #[.agg #[.int .i64 cd.x, .int .i64 cd.y], .int .u8 D] w' fun e w'' => e = .returned (.tuple #[.agg #[.int .i64 q.x, .int .i64 q.y], .bool true]) ∧ Below w'.heap.size w' w'') := Lib.hid fun w' => by
            rw [hq, hD]
            exact impl_step_c cd d w' hd (by omega) (by omega)
          have HQ := Lib.hid hq
          have HC0 := Lib.hid hc0
          have HF := Lib.hid hF
          have HU := Lib.hid hu
          clear hq hc0 hF hu hcs hon hD
          have k0 : wr.cell? ⟨gc, 0, none⟩ = some (.int .i64 cd.x) := H.h0.cell 0
          have k1 : wr.cell? ⟨gc, 1, none⟩ = some (.int .i64 cd.y) := H.h0.cell 1
          have hgl : gc < wr.heap.size := H.h0.lt
          go_upto_region 11 with fail
          go_region_held3 (fun w' => w'.cell? ⟨gc, 0, none⟩ = some (.int .i64 cd.x) ∧ w'.cell? ⟨gc, 1, none⟩ = some (.int .i64 cd.y))
            (first | ((try dsimp only); refine ⟨?_, ?_⟩ <;> assumption) | go_keep)
            ((first
              | (go_at_call 104; (with_reducible refine (HST.out _).mono ?_); rintro e w3 ⟨rfl, b3⟩; replace b3 := below_undrew b3; have H3 := H.step b3; have k0' := H3.h0.cell 0; have k1' := H3.h0.cell 1; simp at k0' k1')
              | (go_at_call 104; (with_reducible refine (HST.out _).mono ?_); rintro e w3 ⟨rfl, b3⟩; have H3 := (H.box 39 #[.int .i64 0, .int .i64 0]).drew.step b3; have k0' := H3.h1.cell 0; have k1' := H3.h1.cell 1; have g0' := H3.h0.cell 0; have g1' := H3.h0.cell 1; have f0' := H3.h0.frozen 0; have f1' := H3.h0.frozen 1; simp at k0' k1' g0' g1'; have H4 := (H3.set_ 0 (.int .i64 q.x)).set_ 1 (.int .i64 q.y); have k0'' := H4.h1.cell 0; have k1'' := H4.h1.cell 1; simp at k0'' k1'')))
          · have H8 := H3.box 39 #[.int .i64 q.x, .int .i64 q.y]
            clear H H3 b3 k0 k1 k0' k1' hix HST
            generalize hW8 : w3.alloc (.cells #[.int .i64 q.x, .int .i64 q.y] 39) = W8 at *
            generalize hgn : w3.heap.size = gn at *
            have k0 : W8.cell? ⟨gn, 0, none⟩ = some (.int .i64 q.x) := H8.h0.cell 0
            have k1 : W8.cell? ⟨gn, 1, none⟩ = some (.int .i64 q.y) := H8.h0.cell 1
            have hmp : MapV W8 mb (K.zip vs) := H8.h3
            obtain ⟨Aq, cq, rfl⟩ := QI.shape H8.h2
            by_cases hqk : q ∈ K
            case pos =>
              obtain ⟨t, ht, htk⟩ := List.getElem_of_mem hqk
              have hkt : K[t]? = some q := by rw [List.getElem?_eq_getElem ht, htk]
              obtain ⟨ut, hut⟩ : ∃ u, vs[t]? = some u := ⟨vs[t]'(by rw [HI.out.kv]; exact ht), List.getElem?_eq_getElem _⟩
              have hlk : (Instr.lookup 97 (.map (some mb)) (.agg #[.int .i64 q.x, .int .i64 q.y]) true).run Tryz.prog W8 = .ok (.tuple #[ut, .bool true]) W8 := by
                have := vrun_lookup_ok hmp q
                rw [vAt_zip (HI.out.sees HA.out).nodup hkt hut] at this
                exact this
              have HI2 : Hid (FcI s K M vs (4 * i + (d + 1))) := Lib.hid (HI.out.skip hd HC0.out HF.out (.inr (by rw [← HQ.out]; exact hqk)))
              have H6 := H8.drop
              clear hqk ht htk hkt hut hmp H8
              go_wp2
              go_roundw
              case rel => exact ⟨d + 1, K, M, vs, Q, by omega, him, hm8, by go_num, HQD, HI2, HCI, H6⟩
              case measure => simp [intOf]; omega
            case neg =>
              have hlk : (Instr.lookup 97 (.map (some mb)) (.agg #[.int .i64 q.x, .int .i64 q.y]) true).run Tryz.prog W8 = .ok (.tuple #[.slice none 0 0, .bool false]) W8 := by
                have := vrun_lookup_ok hmp q
                rw [vAt_zip_none hqk] at this
                exact this
              have HCA := Lib.hid (HHS.out q.x q.y W8 H8.below)
              obtain ⟨g1, hg1⟩ : ∃ g, g = decide ((⟨q.x, q.y⟩ : Cell) ∈ s) := ⟨_, rfl⟩
              rw [← hg1] at HCA
              have HG1 := Lib.hid hg1
              have HNK := Lib.hid hqk
              clear hg1 hmp hqk
              go_wp2_with fail
              refine (HCA.out).mono ?_
              rintro e W9 ⟨rfl, b9⟩
              have H9 := H8.step b9
              clear HCA b9 H8 k0 k1 hlk
              cases g1
              case false =>
                have HI2 : Hid (FcI s K M vs (4 * i + (d + 1))) := Lib.hid (HI.out.skip hd HC0.out HF.out (.inl (by rw [← HQ.out]; exact of_decide_eq_false HG1.out.symm)))
                have H6 := H9.drop
                go_wp2
                go_roundw
                case rel => exact ⟨d + 1, K, M, vs, Q, by omega, him, hm8, by go_num, HQD, HI2, HCI, H6⟩
                case measure => simp [intOf]; omega
              case true =>
                have HRL : Hid (∀ W', Below W9.heap.size W9 W' → Calls Tryz.prog 105 #[u, .int .i64 d] W' fun e w' => ∃ v', e = .returned v' ∧ IntsIn w' W'.heap.size w'.heap.size v' (rollL F d) ∧ Below W'.heap.size W' w') := Lib.hid (by
                  have ho := RowsAt.own H9.h4 i u F HU.out HF.out
                  intro W' b'
                  exact impl_roll_c d W' (((OI.sr (lo := 0) ⟨ho, fun k hk => own_lt ho k hk⟩).keep (SameIn.of_below b' (Nat.le_refl _))).more (Nat.le_refl _) b'.size) hF6 hd)
                have HIA := fun vR : Value => Lib.hid (HI.out.add (u := vR) hd HC0.out HF.out (by rw [← HQ.out]; exact of_decide_eq_true HG1.out.symm) (by rw [← HQ.out]; exact HNK.out))
                have hm9 : (K ++ [q]).length ≤ 8 := by
                  have := (HIA (.slice none 0 0)).out.le8 HSH.out
                  rw [← HQ.out] at this
                  exact this
                have k0 : W9.cell? ⟨gn, 0, none⟩ = some (.int .i64 q.x) := H9.h0.cell 0
                have k1 : W9.cell? ⟨gn, 1, none⟩ = some (.int .i64 q.y) := H9.h0.cell 1
                have k2 : W9.cell? ⟨gc, 0, none⟩ = some (.int .i64 cd.x) := H9.h1.cell 0
                have k3 : W9.cell? ⟨gc, 1, none⟩ = some (.int .i64 cd.y) := H9.h1.cell 1
                have hlq : ∀ W', MapV W' mb (K.zip vs) → (Instr.lookup 97 (.map (some mb)) (.agg #[.int .i64 cd.x, .int .i64 cd.y]) false).run Tryz.prog W' = .ok u W' := fun W' hm => by
                  have := vrun_lookup hm cd
                  rw [vAt_zip (HI.out.sees HA.out).nodup HC0.out HU.out] at this
                  exact this
                have hmp9 : MapV W9 mb (K.zip vs) := H9.h3
                have hlA := hlq W9 hmp9
                have hlB := hlq W9.drew (hmp9.keep rfl)
                have hlC := fun n => hlq (W9.drewN n) (hmp9.keep rfl)
                clear hlq hmp9
                go_wp2_with fail
                go_region_held3 (fun w' => w'.cell? ⟨gn, 0, none⟩ = some (.int .i64 q.x) ∧ w'.cell? ⟨gn, 1, none⟩ = some (.int .i64 q.y) ∧ w'.cell? ⟨gc, 0, none⟩ = some (.int .i64 cd.x) ∧ w'.cell? ⟨gc, 1, none⟩ = some (.int .i64 cd.y))
                  (first | ((try dsimp only); refine ⟨?_, ?_, ?_, ?_⟩ <;> assumption) | go_keep)
                  ((first
                    | (go_at_call 105; (with_reducible refine (HRL.out _ (below_drew (Below.refl W9.heap.size W9))).mono ?_); rintro e w10 ⟨vR, rfl, oR, b10⟩; replace b10 := below_undrew b10; have H10 := H9.oiNew b10 oR; have l0 := H10.h1.cell 0; have l1 := H10.h1.cell 1; have l2 := H10.h2.cell 0; have l3 := H10.h2.cell 1; simp at l0 l1 l2 l3; obtain ⟨W11, hup, H11⟩ := H10.g4.vput q vR (vAt_zip_none HNK.out); unfold cv at hup; have n0 := H11.h2.cell 0; have n1 := H11.h2.cell 1; have n2 := H11.h3.cell 0; have n3 := H11.h3.cell 1; simp at n0 n1 n2 n3)))
                have H13 := (H11.g1.g5.rowsSnoc rfl).g4
                have HI2 : Hid (FcI s (K ++ [q]) (M ++ [rollL F d]) (vs ++ [vR]) (4 * i + (d + 1))) := Lib.hid (by
                  have := (HIA vR).out
                  rwa [← HQ.out] at this)
                have hq4 : QI W11 0 39 2 (.slice Aq Q.length cq) Q.length (cc Q) := H13.h0
                clear H9 H10 H11 HIA hup l0 l1 l2 l3 k0 k1 k2 k3 hlA hlB hlC oR b10 n2 n3
                have hQ8 : Q.length ≤ 8 := by rw [HQD.out, List.length_drop]; omega
                go_wp2_with (at_builtin; refine wpList_append_q _ rfl _ _ 25 rfl 0 39 i0 _ 2 16 Tryz.underlying25 hi hz0 hz1 hz2 rfl (by decide) _ _ _ rfl (hq4.alloc _) ⟨W11.heap.size, 0, none⟩ 1 [.int .i64 q.x, .int .i64 q.y] rfl rfl (news_alloc W11 #[.int .i64 q.x, .int .i64 q.y] _) (by intro u hu; simp at hu; rcases hu with rfl | rfl <;> rfl) (by unfold maxLen; omega) (by omega) (Nat.zero_le _) ?_; intro v' w7 hq7 hgrow hat)
                have H14 := (((H13.alloc (.cells #[.int .i64 q.x, .int .i64 q.y] 39)).appQ hq7 hgrow hat).g3.drop).g1.g2.g2.g3
                clear H13 hq4 hq7 hgrow hat n0 n1
                have hzs := (zip_snoc (c := q) (u := vR) HI.out.kv).symm
                rw [hzs] at H14
                obtain ⟨K2, hK2⟩ : ∃ K2, K2 = K ++ [q] := ⟨_, rfl⟩
                obtain ⟨Q2, hQ2⟩ : ∃ Q2, Q2 = Q ++ [q] := ⟨_, rfl⟩
                have hcq : cc Q ++ [.int .i64 q.x, .int .i64 q.y] = cc Q2 := by rw [hQ2, cc_append]; rfl
                have hlq : Q.length + 1 = Q2.length := by rw [hQ2, List.length_append]; rfl
                rw [hcq, hlq] at H14
                have HCI2 : Hid (K2[i]? = some cd) := Lib.hid (by rw [hK2, List.getElem?_append_left him]; exact HCI.out)
                have HQQ : Hid (Q2 = K2.drop (i + 1)) := Lib.hid (by rw [hQ2, hK2, HQD.out, List.drop_append_of_le_length (by omega)])
                have him2 : i < K2.length := by rw [hK2, List.length_append]; omega
                rw [← hK2] at HI2 H14 hm9
                clear hK2 hQ2 hcq hlq hzs
                go_roundw
                case rel => exact ⟨d + 1, K2, M ++ [rollL F d], vs ++ [vR], Q2, by omega, him2, hm9, by go_num, HQQ, HI2, HCI2, H14⟩
                case measure => simp [intOf]; omega
          all_goals
            have H8 := H4
            clear H H3 H4 b3 k0 k1 k0' k1' g0' g1' f0' f1' k0'' k1'' hix HST
            generalize hW8 : (w3.setCell ⟨wr.heap.size, 0, none⟩ (.int .i64 q.x)).setCell ⟨wr.heap.size, 1, none⟩ (.int .i64 q.y) = W8 at *
            generalize hgn : wr.heap.size = gn at *
            have k0 : W8.cell? ⟨gn, 0, none⟩ = some (.int .i64 q.x) := H8.h0.cell 0
            have k1 : W8.cell? ⟨gn, 1, none⟩ = some (.int .i64 q.y) := H8.h0.cell 1
            have hmp : MapV W8 mb (K.zip vs) := H8.h3
            obtain ⟨Aq, cq, rfl⟩ := QI.shape H8.h2
            by_cases hqk : q ∈ K
            case pos =>
              obtain ⟨t, ht, htk⟩ := List.getElem_of_mem hqk
              have hkt : K[t]? = some q := by rw [List.getElem?_eq_getElem ht, htk]
              obtain ⟨ut, hut⟩ : ∃ u, vs[t]? = some u := ⟨vs[t]'(by rw [HI.out.kv]; exact ht), List.getElem?_eq_getElem _⟩
              have hlk : (Instr.lookup 97 (.map (some mb)) (.agg #[.int .i64 q.x, .int .i64 q.y]) true).run Tryz.prog W8 = .ok (.tuple #[ut, .bool true]) W8 := by
                have := vrun_lookup_ok hmp q
                rw [vAt_zip (HI.out.sees HA.out).nodup hkt hut] at this
                exact this
              have HI2 : Hid (FcI s K M vs (4 * i + (d + 1))) := Lib.hid (HI.out.skip hd HC0.out HF.out (.inr (by rw [← HQ.out]; exact hqk)))
              have H6 := H8.drop
              clear hqk ht htk hkt hut hmp H8
              go_wp2
              go_roundw
              case rel => exact ⟨d + 1, K, M, vs, Q, by omega, him, hm8, by go_num, HQD, HI2, HCI, H6⟩
              case measure => simp [intOf]; omega
            case neg =>
              have hlk : (Instr.lookup 97 (.map (some mb)) (.agg #[.int .i64 q.x, .int .i64 q.y]) true).run Tryz.prog W8 = .ok (.tuple #[.slice none 0 0, .bool false]) W8 := by
                have := vrun_lookup_ok hmp q
                rw [vAt_zip_none hqk] at this
                exact this
              have HCA := Lib.hid (HHS.out q.x q.y W8 H8.below)
              obtain ⟨g1, hg1⟩ : ∃ g, g = decide ((⟨q.x, q.y⟩ : Cell) ∈ s) := ⟨_, rfl⟩
              rw [← hg1] at HCA
              have HG1 := Lib.hid hg1
              have HNK := Lib.hid hqk
              clear hg1 hmp hqk
              go_wp2_with fail
              refine (HCA.out).mono ?_
              rintro e W9 ⟨rfl, b9⟩
              have H9 := H8.step b9
              clear HCA b9 H8 k0 k1 hlk
              cases g1
              case false =>
                have HI2 : Hid (FcI s K M vs (4 * i + (d + 1))) := Lib.hid (HI.out.skip hd HC0.out HF.out (.inl (by rw [← HQ.out]; exact of_decide_eq_false HG1.out.symm)))
                have H6 := H9.drop
                go_wp2
                go_roundw
                case rel => exact ⟨d + 1, K, M, vs, Q, by omega, him, hm8, by go_num, HQD, HI2, HCI, H6⟩
                case measure => simp [intOf]; omega
              case true =>
                have HRL : Hid (∀ W', Below W9.heap.size W9 W' → Calls Tryz.prog 105 #[u, .int .i64 d] W' fun e w' => ∃ v', e = .returned v' ∧ IntsIn w' W'.heap.size w'.heap.size v' (rollL F d) ∧ Below W'.heap.size W' w') := Lib.hid (by
                  have ho := RowsAt.own H9.h4 i u F HU.out HF.out
                  intro W' b'
                  exact impl_roll_c d W' (((OI.sr (lo := 0) ⟨ho, fun k hk => own_lt ho k hk⟩).keep (SameIn.of_below b' (Nat.le_refl _))).more (Nat.le_refl _) b'.size) hF6 hd)
                have HIA := fun vR : Value => Lib.hid (HI.out.add (u := vR) hd HC0.out HF.out (by rw [← HQ.out]; exact of_decide_eq_true HG1.out.symm) (by rw [← HQ.out]; exact HNK.out))
                have hm9 : (K ++ [q]).length ≤ 8 := by
                  have := (HIA (.slice none 0 0)).out.le8 HSH.out
                  rw [← HQ.out] at this
                  exact this
                have k0 : W9.cell? ⟨gn, 0, none⟩ = some (.int .i64 q.x) := H9.h0.cell 0
                have k1 : W9.cell? ⟨gn, 1, none⟩ = some (.int .i64 q.y) := H9.h0.cell 1
                have k2 : W9.cell? ⟨gc, 0, none⟩ = some (.int .i64 cd.x) := H9.h1.cell 0
                have k3 : W9.cell? ⟨gc, 1, none⟩ = some (.int .i64 cd.y) := H9.h1.cell 1
                have hlq : ∀ W', MapV W' mb (K.zip vs) → (Instr.lookup 97 (.map (some mb)) (.agg #[.int .i64 cd.x, .int .i64 cd.y]) false).run Tryz.prog W' = .ok u W' := fun W' hm => by
                  have := vrun_lookup hm cd
                  rw [vAt_zip (HI.out.sees HA.out).nodup HC0.out HU.out] at this
                  exact this
                have hmp9 : MapV W9 mb (K.zip vs) := H9.h3
                have hlA := hlq W9 hmp9
                have hlB := hlq W9.drew (hmp9.keep rfl)
                have hlC := fun n => hlq (W9.drewN n) (hmp9.keep rfl)
                clear hlq hmp9
                go_wp2_with fail
                go_region_held3 (fun w' => w'.cell? ⟨gn, 0, none⟩ = some (.int .i64 q.x) ∧ w'.cell? ⟨gn, 1, none⟩ = some (.int .i64 q.y) ∧ w'.cell? ⟨gc, 0, none⟩ = some (.int .i64 cd.x) ∧ w'.cell? ⟨gc, 1, none⟩ = some (.int .i64 cd.y))
                  (first | ((try dsimp only); refine ⟨?_, ?_, ?_, ?_⟩ <;> assumption) | go_keep)
                  ((first
                    | (go_at_call 105; (with_reducible refine (HRL.out _ (below_drew (Below.refl W9.heap.size W9))).mono ?_); rintro e w10 ⟨vR, rfl, oR, b10⟩; replace b10 := below_undrew b10; have H10 := H9.oiNew b10 oR; have l0 := H10.h1.cell 0; have l1 := H10.h1.cell 1; have l2 := H10.h2.cell 0; have l3 := H10.h2.cell 1; simp at l0 l1 l2 l3; obtain ⟨W11, hup, H11⟩ := H10.g4.vput q vR (vAt_zip_none HNK.out); unfold cv at hup; have n0 := H11.h2.cell 0; have n1 := H11.h2.cell 1; have n2 := H11.h3.cell 0; have n3 := H11.h3.cell 1; simp at n0 n1 n2 n3)))
                have H13 := (H11.g1.g5.rowsSnoc rfl).g4
                have HI2 : Hid (FcI s (K ++ [q]) (M ++ [rollL F d]) (vs ++ [vR]) (4 * i + (d + 1))) := Lib.hid (by
                  have := (HIA vR).out
                  rwa [← HQ.out] at this)
                have hq4 : QI W11 0 39 2 (.slice Aq Q.length cq) Q.length (cc Q) := H13.h0
                clear H9 H10 H11 HIA hup l0 l1 l2 l3 k0 k1 k2 k3 hlA hlB hlC oR b10 n2 n3
                have hQ8 : Q.length ≤ 8 := by rw [HQD.out, List.length_drop]; omega
                go_wp2_with (at_builtin; refine wpList_append_q _ rfl _ _ 25 rfl 0 39 i0 _ 2 16 Tryz.underlying25 hi hz0 hz1 hz2 rfl (by decide) _ _ _ rfl (hq4.alloc _) ⟨W11.heap.size, 0, none⟩ 1 [.int .i64 q.x, .int .i64 q.y] rfl rfl (news_alloc W11 #[.int .i64 q.x, .int .i64 q.y] _) (by intro u hu; simp at hu; rcases hu with rfl | rfl <;> rfl) (by unfold maxLen; omega) (by omega) (Nat.zero_le _) ?_; intro v' w7 hq7 hgrow hat)
                have H14 := (((H13.alloc (.cells #[.int .i64 q.x, .int .i64 q.y] 39)).appQ hq7 hgrow hat).g3.drop).g1.g2.g2.g3
                clear H13 hq4 hq7 hgrow hat n0 n1
                have hzs := (zip_snoc (c := q) (u := vR) HI.out.kv).symm
                rw [hzs] at H14
                obtain ⟨K2, hK2⟩ : ∃ K2, K2 = K ++ [q] := ⟨_, rfl⟩
                obtain ⟨Q2, hQ2⟩ : ∃ Q2, Q2 = Q ++ [q] := ⟨_, rfl⟩
                have hcq : cc Q ++ [.int .i64 q.x, .int .i64 q.y] = cc Q2 := by rw [hQ2, cc_append]; rfl
                have hlq : Q.length + 1 = Q2.length := by rw [hQ2, List.length_append]; rfl
                rw [hcq, hlq] at H14
                have HCI2 : Hid (K2[i]? = some cd) := Lib.hid (by rw [hK2, List.getElem?_append_left him]; exact HCI.out)
                have HQQ : Hid (Q2 = K2.drop (i + 1)) := Lib.hid (by rw [hQ2, hK2, HQD.out, List.drop_append_of_le_length (by omega)])
                have him2 : i < K2.length := by rw [hK2, List.length_append]; omega
                rw [← hK2] at HI2 H14 hm9
                clear hK2 hQ2 hcq hlq hzs
                go_roundw
                case rel => exact ⟨d + 1, K2, M ++ [rollL F d], vs ++ [vR], Q2, by omega, him2, hm9, by go_num, HQQ, HI2, HCI2, H14⟩
                case measure => simp [intOf]; omega
        · obtain rfl : d = 4 := by omega
          have H2 := H.drop
          obtain ⟨Aq, cq, rfl⟩ := QI.shape H2.h0
          clear H
          go_wp2
          go_roundg (gk - 1)
          case rel => exact ⟨i + 1, K, Q, M, vs, by omega, by omega, hm8, HQD, HI, H2⟩
          case measure => omega
end Go.Proofs.YtbdffadhieljbaaGreatDoor

namespace Go.Proofs.YtbdffadhieljbaaGreatDoor
open Go.RowKit

set_option maxRecDepth 100000 in
theorem impl_copyI_c {v : Value} {l : List Int} (w : World) (h : IntsRd w 0 w.heap.size v l) (hn : l.length ≤ 1048576) :
    Calls Tryz.prog 106 #[v] w fun e w' => ∃ v', e = .returned v' ∧ IntsIn w' w.heap.size w'.heap.size v' l ∧ Below w.heap.size w w' := by
  obtain ⟨A, c, rfl, hm, hr⟩ := h
  obtain ⟨j0, hj, y0, y1, y2⟩ := info_parts infoIntSy
  have H := (Sep.start w).nil 3 1
  go_enter Tryz.func106, Tryz.ntmps106
  go_wp2_with (at_builtin; refine wpList_app rfl _ _ 33 rfl 3 j0 _ 1 8 Tryz.underlying33 hj y0 y1 y2 rfl (by decide) _ _ _ rfl H A _ c (ic l) rfl hr ic_one (by unfold maxLen; omega) (by omega) ?_; intro v' w' H1)
  go_ret
  exact ⟨v', rfl, IntsIn.mk H1.oi.1 (by simp) (by simp), H1.below⟩

set_option maxRecDepth 100000 in
theorem sortInts_c {v : Value} {n : Nat} {l : List Int} {L : List Res} {w0 w : World} (H : Sep w0 w (Res.row v 3 1 n (ic l) :: L)) (hn : n = l.length) (hn8 : n ≤ 1000000) :
    Calls Tryz.prog 107 #[v] w fun e w' => e = .returned (.tuple #[]) ∧ ∃ s : List Int, s.length = n ∧ s.Pairwise (· ≤ ·) ∧ (∀ c, c ∈ s ↔ c ∈ l) ∧ Sep w0 w' (Res.row v 3 1 n (ic s) :: L) := by
  by_cases h0 : n = 0
  · obtain ⟨A, c, rfl, _, _, _⟩ := Res.row_at H.h0
    subst h0
    have hl : l = [] := List.eq_nil_of_length_eq_zero hn.symm
    subst hl
    refine (Tryz.sort_Ints_none A c w).mono ?_
    rintro e w' ⟨rfl, rfl⟩
    exact ⟨rfl, [], rfl, List.Pairwise.nil, fun c => Iff.rfl, H⟩
  · obtain ⟨g, o, c, rfl, h1, h2, h3⟩ := own_shape H.h0 (by omega)
    obtain ⟨rfl, cs, hb, h4, h5, h6, h7⟩ := own_blk H.h0
    subst hn
    have hH := holds_of_blockI (ss := l) hb (by rw [Nat.mul_one] at h7; exact h7)
    refine (Tryz.sort_Ints g 0 c l w hH h3 (by omega)).mono ?_
    rintro e w' ⟨rfl, n', os, rfl⟩
    have hlen : (l.mergeSort fun x y => decide (x ≤ y)).length = l.length := List.length_mergeSort l
    refine ⟨rfl, l.mergeSort fun x y => decide (x ≤ y), hlen, ?_, fun c => (List.mergeSort_perm l _).mem_iff, ?_⟩
    · have := List.pairwise_mergeSort (le := fun x y : Int => decide (x ≤ y)) (fun a b c h1 h2 => by simp at *; omega) (fun a b => by simp; omega) l
      exact this.imp fun h => by simpa using h
    · refine H.turn (Only.of_grown (row := some g) (grownBy_sortedI _) |> fun h => ⟨h.os, h.tape, h.output, h.size, fun b hb' hd => h.block b hb' (fun e => hd (by simpa [Res.row, Value.ownBlock] using e))⟩) ?_ fun b hb => .inl hb
      exact ownsRow_sortedI hlen (Nat.zero_le _) hb h4 h5 h6
theorem uniqTo_new {s : List Int} {i : Nat} {x : Int} (h : s[i]? = some x) (hc : i = 0 ∨ ¬ s[i - 1]? = some x) : uniqTo s (i + 1) = uniqTo s i ++ [x] := by
  rw [uniqTo, h, if_pos hc]
  simp [List.getD, h]
theorem uniqTo_keep {s : List Int} {i : Nat} {x : Int} (hi : i ≠ 0) (h : s[i]? = some x) (hp : s[i - 1]? = some x) : uniqTo s (i + 1) = uniqTo s i := by
  rw [uniqTo, h, hp, if_neg]
  rintro (q | q)
  · exact hi q
  · exact q rfl
set_option maxRecDepth 100000 in
set_option maxHeartbeats 1600000 in
theorem impl_ordered_c {v : Value} {l : List Int} (w : World) (h : IntsRd w 0 w.heap.size v l) (hn : l.length ≤ 1000000) :
    Calls Tryz.prog 94 #[v] w fun e w' => ∃ v', e = .returned v' ∧ IntsIn w' w.heap.size w'.heap.size v' (srtU l) ∧ Below w.heap.size w w' := by
  obtain ⟨j0, hj, hy0, hy1, hy2⟩ := info_parts infoIntSy
  have HC := Lib.hid (impl_copyI_c w h (by omega))
  obtain ⟨A, c, rfl, _, _⟩ := h
  obtain ⟨n, hnn⟩ : ∃ n, n = l.length := ⟨_, rfl⟩
  rw [← hnn] at hn HC ⊢
  have HNN := Lib.hid hnn
  clear hnn
  go_enter Tryz.func94, Tryz.ntmps94
  go_wp2_with fail
  refine (HC.out).mono ?_
  rintro e w1 ⟨v1, rfl, o1, b1⟩
  have H1 : Sep w w1 [Res.row v1 3 1 n (ic l)] := by rw [HNN.out]; exact (Sep.start w).oiNew b1 o1
  have HS := Lib.hid (sortInts_c H1 HNN.out hn)
  obtain ⟨A1, c1, rfl, hc1, _, _⟩ := Res.row_at H1.h0
  clear b1 o1 HC H1
  go_wp2_with fail
  refine (HS.out).mono ?_
  rintro e w2 ⟨rfl, s, hsl, hsw, hsm, H2⟩
  have H3 := (H2.nil 3 1)
  have HSL := Lib.hid hsl
  have HFIN : Hid (uniqTo s n = srtU l) := Lib.hid (by rw [← hsl]; exact uniq_srtU hsw hsm)
  clear HS H2 hsl hsw hsm
  go_wp2
  go_loopw [4, 13] (fun ov iv wx => ∃ i m : Nat, i ≤ n ∧ iv = .int .i64 i ∧ Hid (m = (uniqTo s i).length) ∧ Sep w wx [Res.row ov 3 1 m (ic (uniqTo s i)), Res.row (.slice A1 n c1) 3 1 n (ic s)]) (fun _ iv _ => n - (intOf iv).toNat)
  case atStart => exact ⟨0, 0, Nat.zero_le _, rfl, Lib.hid rfl, H3⟩
  case round =>
    clear H3
    obtain ⟨i, m, hi, rfl, HM, H⟩ := hrel
    by_cases hlt : i < n
    · have hlti : (i : Int) < (n : Int) := by omega
      obtain ⟨g, o, cc', he, _, _, _⟩ := own_shape H.h1 (by omega)
      injection he with he1 he2 he3
      subst he1 he3
      obtain ⟨rfl, _⟩ := own_blk H.h1
      obtain ⟨x, hx⟩ : ∃ x, s[i]? = some x := ⟨s[i]'(by rw [HSL.out]; exact hlt), List.getElem?_eq_getElem _⟩
      have x1 := own_cell1 H.h1 hx
      rw [Nat.zero_add] at x1
      have HX := Lib.hid hx
      clear hx
      by_cases hi0 : i = 0
      · have hz : ((i : Int) == 0) = true := by simp; exact hi0
        have HI0 := Lib.hid hi0
        clear hi0
        have HU : Hid (ic (uniqTo s (i + 1)) = ic (uniqTo s i) ++ [.int .i64 x]) := Lib.hid (by rw [uniqTo_new HX.out (.inl HI0.out), ic_append]; rfl)
        have HM2 : Hid (m + 1 = (uniqTo s (i + 1)).length) := Lib.hid (by
          have := congrArg List.length HU.out
          rw [ic_length, List.length_append, ic_length, ← HM.out] at this
          exact this.symm)
        have hmi : m ≤ i := by rw [HM.out]; exact uniqTo_len i
        clear HI0
        go_wp2_with (at_builtin; refine wpList_app rfl _ _ 33 rfl 3 j0 _ 1 8 Tryz.underlying33 hj hy0 hy1 hy2 rfl (by decide) _ _ _ rfl (H.alloc _) _ _ _ [.int .i64 x] rfl (Rd.fresh wr _ #[.int .i64 x] 1 1 rfl) oc1 (by unfold maxLen; omega) (by omega) ?_; intro v5 w5 H5; clear H)
        rw [← HU.out] at H5
        go_roundw
        case rel => exact ⟨i + 1, m + 1, by omega, by go_num, HM2, H5⟩
        case measure => simp [intOf]; omega
      · have hz : ((i : Int) == 0) = false := by simp; exact hi0
        obtain ⟨p, hp⟩ : ∃ p, p = i - 1 := ⟨_, rfl⟩
        have HP := Lib.hid hp
        have e1 : (i : Int) - 1 = (p : Int) := by omega
        have e2 : IntKind.i64.wrap ((i : Int) - 1) = (p : Int) := by rw [e1]; exact IntWalk.i64_in _ (by omega)
        have e3 : (p : Int) < (n : Int) := by omega
        have e4 : p < n := by omega
        obtain ⟨y, hy⟩ : ∃ y, s[p]? = some y := ⟨s[p]'(by rw [HSL.out]; omega), List.getElem?_eq_getElem _⟩
        have x2 := own_cell1 H.h1 hy
        rw [Nat.zero_add] at x2
        have HY := Lib.hid hy
        have HI0 := Lib.hid hi0
        clear hp hy hi0
        by_cases hyx : y = x
        · have hb : (y != x) = false := by simpa using hyx
          have HU : Hid (uniqTo s (i + 1) = uniqTo s i) := Lib.hid (uniqTo_keep HI0.out HX.out (by rw [← HP.out, HY.out, hyx]))
          clear hyx
          go_wp2
          go_roundw
          case rel => exact ⟨i + 1, m, by omega, by go_num, by rw [HU.out]; exact HM, by rw [HU.out]; exact H⟩
          case measure => simp [intOf]; omega
        · have hb : (y != x) = true := by simpa using hyx
          have HNE : Hid (¬ s[i - 1]? = some x) := Lib.hid (by rw [← HP.out, HY.out]; intro q; injection q with q; exact hyx q)
          clear hyx
          have HU : Hid (ic (uniqTo s (i + 1)) = ic (uniqTo s i) ++ [.int .i64 x]) := Lib.hid (by rw [uniqTo_new HX.out (.inr HNE.out), ic_append]; rfl)
          have HM2 : Hid (m + 1 = (uniqTo s (i + 1)).length) := Lib.hid (by
            have := congrArg List.length HU.out
            rw [ic_length, List.length_append, ic_length, ← HM.out] at this
            exact this.symm)
          have hmi : m ≤ i := by rw [HM.out]; exact uniqTo_len i
          clear HNE
          go_wp2_with (at_builtin; refine wpList_app rfl _ _ 33 rfl 3 j0 _ 1 8 Tryz.underlying33 hj hy0 hy1 hy2 rfl (by decide) _ _ _ rfl (H.alloc _) _ _ _ [.int .i64 x] rfl (Rd.fresh wr _ #[.int .i64 x] 1 1 rfl) oc1 (by unfold maxLen; omega) (by omega) ?_; intro v5 w5 H5; clear H)
          rw [← HU.out] at H5
          go_roundw
          case rel => exact ⟨i + 1, m + 1, by omega, by go_num, HM2, H5⟩
          case measure => simp [intOf]; omega
    · obtain rfl : i = n := by omega
      go_wp2
      go_ret
      refine ⟨_, rfl, ?_, H.below⟩
      have := H.oi
      unfold IntsIn
      rw [← HFIN.out, ← HM.out]
      exact this
end Go.Proofs.YtbdffadhieljbaaGreatDoor

namespace Go.Proofs.YtbdffadhieljbaaGreatDoor
open Go.RowKit

set_option maxRecDepth 100000 in
theorem infoInt7 : (Tryz.prog.info? 3).map (fun i => (i.zero, i.size, i.bytes)) = some (some (.int .i64 0), 1, 8) := by kernel_rfl
def Put7Post (L : List Res) (l : List Int) (x : Int) (w0 : World) (e : Ending) (w' : World) : Prop :=
  ∃ g' c', e = .returned (.slice (some ⟨g', 0, none⟩) (insN x l).length c') ∧ Sep w0 w' (Res.row (.slice (some ⟨g', 0, none⟩) (insN x l).length c') 3 1 (insN x l).length (ic (insN x l)) :: L)
theorem Put7Post.mk {L : List Res} {l l' : List Int} {x : Int} {w0 w' : World} {v : Value} {m : Nat} (hl : insN x l = l') (hm : m = l'.length) (h0 : 0 < m) (H : Sep w0 w' (Res.row v 3 1 m (ic l') :: L)) : Put7Post L l x w0 (.returned v) w' := by
  obtain ⟨g, o, c, rfl, _, _, _⟩ := own_shape H.h0 h0
  obtain ⟨rfl, _⟩ := own_blk H.h0
  subst hm
  unfold Put7Post
  rw [hl]
  exact ⟨g, c, rfl, H⟩
set_option maxRecDepth 100000 in
set_option maxHeartbeats 3200000 in
theorem spec_put7_c {g c n : Nat} {l : List Int} {x : Int} {L : List Res} {w0 w : World} (H : Sep w0 w (Res.row (.slice (some ⟨g, 0, none⟩) n c) 3 1 n (ic l) :: L)) (hn : n = l.length) (ha : Asc l) (hn8 : n ≤ 1000000) :
    Calls Tryz.prog 77 #[.slice (some ⟨g, 0, none⟩) n c, .int .i64 x] w (Put7Post L l x w0) := by
  obtain ⟨i0, hi, hz0, hz1, hz2⟩ := info_parts infoInt7
  have hnc : n ≤ c ∧ c ≤ maxLen := by obtain ⟨_, cs, _, h1, h2, _⟩ := own_blk H.h0; exact ⟨h1, h2⟩
  have HN := Lib.hid hn
  have HAS := Lib.hid ha
  obtain ⟨hnc, hcm⟩ := hnc
  clear hn ha
  go_enter Tryz.func77, Tryz.ntmps77
  go_wp2
  go_loopw [5] (fun kv wx => ∃ k : Nat, k ≤ n ∧ kv = .int .i64 k ∧ Hid (∀ (j : Nat) (d : Int), k ≤ j → l[j]? = some d → x < d) ∧ w = wx) (fun kv _ => (intOf kv).toNat)
  case atStart => exact ⟨n, Nat.le_refl _, rfl, Lib.hid (fun j r hj hr => by have := (List.getElem?_eq_some_iff.1 hr).1; have := HN.out; omega), rfl⟩
  case round =>
    obtain ⟨k, hkn, rfl, HK, rfl⟩ := hrel
    by_cases hk0 : 0 < k
    · have hdk : decide ((0 : Int) < (k : Int)) = true := by simp; omega
      obtain ⟨p, hp⟩ : ∃ p, p = k - 1 := ⟨_, rfl⟩
      have HP : Hid (p = k - 1) := Lib.hid hp
      have e1 : (k : Int) - 1 = (p : Int) := by omega
      have e2 : IntKind.i64.wrap ((k : Int) - 1) = (p : Int) := by rw [e1]; exact IntWalk.i64_in _ (by omega)
      have e3 : (p : Int) < (n : Int) := by omega
      have e4 : p < n := by omega
      obtain ⟨d, hd⟩ : ∃ d, l[p]? = some d := ⟨l[p]'(by rw [← HN.out]; exact e4), List.getElem?_eq_getElem _⟩
      have x1 := own_cell1 H.h0 hd
      rw [Nat.zero_add] at x1
      have HD := Lib.hid hd
      clear hp hd
      by_cases hxd : x < d
      · have hdq : decide (x < d) = true := decide_eq_true hxd
        have HK2 : Hid (∀ (j : Nat) (d : Int), p ≤ j → l[j]? = some d → x < d) := Lib.hid (by
          intro j r' hj hr'
          by_cases e : j = p
          · subst e
            have := HD.out
            rw [hr'] at this
            injection this with this
            rw [this]; exact hxd
          · exact HK.out j r' (by have := HP.out; omega) hr')
        clear hxd
        go_wp2
        go_roundw
        case rel => exact ⟨p, by omega, by go_num, HK2, trivial⟩
        case measure => simp [intOf]; omega
      · have hdq : decide (x < d) = false := decide_eq_false hxd
        by_cases hdx : d = x
        · have HI : Hid (insN x l = l) := Lib.hid (insN_has HAS.out (by rw [← hdx]; exact List.mem_of_getElem? HD.out))
          have hbq : (d == x) = true := by simpa using hdx
          have hl0 : 0 < n := by omega
          clear hdx hxd
          go_wp2
          go_ret
          exact Put7Post.mk HI.out HN.out hl0 H
        · have hbq : (d == x) = false := by simpa using hdx
          have HI : Hid (ic (insN x l) = (ic l).take k ++ .int .i64 x :: (ic l).drop k) := Lib.hid (by
            rw [insN_at HAS.out (by rw [← HN.out]; exact hkn) HK.out (fun d' _ h' => by rw [← HP.out, HD.out] at h'; injection h' with h'; omega)]
            simp [ic, List.map_take, List.map_drop])
          have HIL : Hid (n + 1 = (insN x l).length) := Lib.hid (by
            have := congrArg List.length HI.out
            rw [ic_length, List.length_append, List.length_cons, List.length_take, List.length_drop, ic_length, ← HN.out] at this
            omega)
          clear hdx hxd
          go_wp2_with fail
          have t1 : (0 : Int) ≤ (k : Int) := by omega
          have t2 : (k : Int) ≤ (c : Int) := by omega
          have t3 : (k : Int) ≤ (n : Int) := by omega
          have t4 : (n : Int) ≤ (c : Int) := by omega
          have HONE1 : Hid (∀ u ∈ (ic l).take k, u.oneCell' = true) := Lib.hid fun u hu => ic_one u (List.mem_of_mem_take hu)
          have HONE2 : Hid (∀ u ∈ (ic l).drop k, u.oneCell' = true) := Lib.hid fun u hu => ic_one u (List.mem_of_mem_drop hu)
          have HA := (H.rowBox 3 #[] 1 0 rfl (by decide)).drew
          have HB := ((H.rowBox 3 #[] 1 0 rfl (by decide)).rowBox 3 #[.int .i64 x] 1 1 rfl (by decide)).g1.drew
          have HC1 := ((H.rowBox 3 #[.int .i64 x] 1 1 rfl (by decide)).rowBox 3 #[] 1 0 rfl (by decide)).drew
          have HT1 := own_take (k := k) HA.h1 hkn
          have HT2 := own_take (k := k) HB.h2 hkn
          have HT3 := own_take (k := k) HC1.h2 hkn
          rw [Nat.mul_one] at HT1 HT2 HT3
          have hvl : (ic l).length = n := by rw [ic_length]; exact HN.out.symm
          simp only [World.size_alloc] at HB HC1
          by_cases hkc : c = k
          ·
            have hnk : n - k = 0 := by omega
            have HDN : Hid ((ic l).drop k = []) := Lib.hid (List.drop_of_length_le (by omega))
            go_wp2_with fail
            go_region_law (first
              | (refine step_app rfl (.tmp 33) (.tmp 36) 33 (by rfl) 3 i0 _ 1 8 Tryz.underlying33 hi hz0 hz1 hz2 rfl (by decide) _ _ _ (by rfl) HA _ _ _ ((ic l).take k) (by rfl) HT1 HONE1.out (by unfold maxLen; omega) (by omega) ?_; intro v5 w5 H5)
              | (refine step_app rfl (.tmp 33) (.tmp 36) 33 (by rfl) 3 i0 _ 1 8 Tryz.underlying33 hi hz0 hz1 hz2 rfl (by decide) _ _ _ (by rfl) HB _ _ _ ((ic l).take k) (by rfl) HT2 HONE1.out (by unfold maxLen; omega) (by omega) ?_; intro v5 w5 H5)
              | (refine step_app rfl (.tmp 33) (.tmp 36) 33 (by rfl) 3 i0 _ 1 8 Tryz.underlying33 hi hz0 hz1 hz2 rfl (by decide) _ _ _ (by rfl) HC1 _ _ _ ((ic l).take k) (by rfl) HT3 HONE1.out (by unfold maxLen; omega) (by omega) ?_; intro v5 w5 H5)
              | (refine step_app rfl (.tmp 37) (.tmp 39) 33 (by rfl) 3 i0 _ 1 8 Tryz.underlying33 hi hz0 hz1 hz2 rfl (by decide) _ _ _ (by rfl) (H5.alloc _) _ _ _ [.int .i64 x] (by rfl) (Rd.fresh w5 _ #[.int .i64 x] 1 1 rfl) oc1 (by unfold maxLen; omega) (by omega) ?_; intro v6 w6 H6)
              | (refine step_app rfl (.tmp 37) (.tmp 39) 33 (by rfl) 3 i0 _ 1 8 Tryz.underlying33 hi hz0 hz1 hz2 rfl (by decide) _ _ _ (by rfl) H5 _ _ _ [.int .i64 x] (by rfl) (own_take (k := 1) H5.h1 (Nat.le_refl _)) oc1 (by unfold maxLen; omega) (by omega) ?_; intro v6 w6 H6)
              | (refine step_app rfl (.tmp 40) (.tmp 43) 33 (by rfl) 3 i0 _ 1 8 Tryz.underlying33 hi hz0 hz1 hz2 rfl (by decide) _ _ _ (by rfl) H6 (lo := 0) (hi' := w6.heap.size) _ 0 _ [] (by rfl) ⟨rfl, fun h => absurd h (Nat.lt_irrefl 0)⟩ (by intro u hu; simp at hu) (by unfold maxLen; omega) (by omega) ?_; intro v7 w7 H7))
            all_goals
              have H8 : Sep w0 w7 (Res.row v7 3 1 (n + 1) ((ic l).take k ++ .int .i64 x :: (ic l).drop k) :: L) := by
                replace H7 := by first | exact H7.drop2.drop2 | exact H7.drop2
                first
                  | rw [show 0 + k + 1 + (n - k) = n + 1 by omega] at H7
                  | rw [show 0 + k + 1 + 0 = n + 1 by omega] at H7
                rw [HDN.out]; have := H7; simp only [List.nil_append, List.append_nil] at this; exact this
              clear H5 H6 H7 HA HT1 HB HT2 HC1 HT3
              (rw [← HI.out] at H8; clear H; go_wp2; go_ret; exact Put7Post.mk rfl HIL.out (Nat.succ_pos _) H8)
          ·
            go_wp2_with fail
            go_region_law (first
              | (refine step_app rfl (.tmp 33) (.tmp 36) 33 (by rfl) 3 i0 _ 1 8 Tryz.underlying33 hi hz0 hz1 hz2 rfl (by decide) _ _ _ (by rfl) HA _ _ _ ((ic l).take k) (by rfl) HT1 HONE1.out (by unfold maxLen; omega) (by omega) ?_; intro v5 w5 H5)
              | (refine step_app rfl (.tmp 33) (.tmp 36) 33 (by rfl) 3 i0 _ 1 8 Tryz.underlying33 hi hz0 hz1 hz2 rfl (by decide) _ _ _ (by rfl) HB _ _ _ ((ic l).take k) (by rfl) HT2 HONE1.out (by unfold maxLen; omega) (by omega) ?_; intro v5 w5 H5)
              | (refine step_app rfl (.tmp 33) (.tmp 36) 33 (by rfl) 3 i0 _ 1 8 Tryz.underlying33 hi hz0 hz1 hz2 rfl (by decide) _ _ _ (by rfl) HC1 _ _ _ ((ic l).take k) (by rfl) HT3 HONE1.out (by unfold maxLen; omega) (by omega) ?_; intro v5 w5 H5)
              | (refine step_app rfl (.tmp 37) (.tmp 39) 33 (by rfl) 3 i0 _ 1 8 Tryz.underlying33 hi hz0 hz1 hz2 rfl (by decide) _ _ _ (by rfl) (H5.alloc _) _ _ _ [.int .i64 x] (by rfl) (Rd.fresh w5 _ #[.int .i64 x] 1 1 rfl) oc1 (by unfold maxLen; omega) (by omega) ?_; intro v6 w6 H6)
              | (refine step_app rfl (.tmp 37) (.tmp 39) 33 (by rfl) 3 i0 _ 1 8 Tryz.underlying33 hi hz0 hz1 hz2 rfl (by decide) _ _ _ (by rfl) H5 _ _ _ [.int .i64 x] (by rfl) (own_take (k := 1) H5.h1 (Nat.le_refl _)) oc1 (by unfold maxLen; omega) (by omega) ?_; intro v6 w6 H6)
              | (refine step_app rfl (.tmp 40) (.tmp 43) 33 (by rfl) 3 i0 _ 1 8 Tryz.underlying33 hi hz0 hz1 hz2 rfl (by decide) _ _ _ (by rfl) H6 (lo := 0) (hi' := w6.heap.size) _ (n - k) _ ((ic l).drop k) (by rfl) (by have := Rd.drop (k := k) (own_take (k := n) (by first | exact H6.h1 | exact H6.h2) (Nat.le_refl _)); rw [Nat.mul_one, Nat.mul_one, List.take_of_length_le (by omega), Nat.zero_add] at this; exact this) HONE2.out (by unfold maxLen; omega) (by omega) ?_; intro v7 w7 H7))
            all_goals
              have H8 : Sep w0 w7 (Res.row v7 3 1 (n + 1) ((ic l).take k ++ .int .i64 x :: (ic l).drop k) :: L) := by
                replace H7 := by first | exact H7.drop2.drop2 | exact H7.drop2
                first
                  | rw [show 0 + k + 1 + (n - k) = n + 1 by omega] at H7
                  | rw [show 0 + k + 1 + 0 = n + 1 by omega] at H7
                have := H7; simp only [List.nil_append, List.append_assoc, List.cons_append] at this; exact this
              clear H5 H6 H7 HA HT1 HB HT2 HC1 HT3
              (rw [← HI.out] at H8; clear H; go_wp2; go_ret; exact Put7Post.mk rfl HIL.out (Nat.succ_pos _) H8)
    · have hdk : decide ((0 : Int) < (k : Int)) = false := by simp; omega
      have HI : Hid (ic (insN x l) = (ic l).take k ++ .int .i64 x :: (ic l).drop k) := Lib.hid (by
        rw [insN_at HAS.out (by rw [← HN.out]; exact hkn) HK.out (fun d' h' => absurd h' hk0)]
        simp [ic, List.map_take, List.map_drop])
      have HIL : Hid (n + 1 = (insN x l).length) := Lib.hid (by
        have := congrArg List.length HI.out
        rw [ic_length, List.length_append, List.length_cons, List.length_take, List.length_drop, ic_length, ← HN.out] at this
        omega)
      go_wp2_with fail
      have t1 : (0 : Int) ≤ (k : Int) := by omega
      have t2 : (k : Int) ≤ (c : Int) := by omega
      have t3 : (k : Int) ≤ (n : Int) := by omega
      have t4 : (n : Int) ≤ (c : Int) := by omega
      have HONE1 : Hid (∀ u ∈ (ic l).take k, u.oneCell' = true) := Lib.hid fun u hu => ic_one u (List.mem_of_mem_take hu)
      have HONE2 : Hid (∀ u ∈ (ic l).drop k, u.oneCell' = true) := Lib.hid fun u hu => ic_one u (List.mem_of_mem_drop hu)
      have HA := (H.rowBox 3 #[] 1 0 rfl (by decide)).drew
      have HB := ((H.rowBox 3 #[] 1 0 rfl (by decide)).rowBox 3 #[.int .i64 x] 1 1 rfl (by decide)).g1.drew
      have HC1 := ((H.rowBox 3 #[.int .i64 x] 1 1 rfl (by decide)).rowBox 3 #[] 1 0 rfl (by decide)).drew
      have HT1 := own_take (k := k) HA.h1 hkn
      have HT2 := own_take (k := k) HB.h2 hkn
      have HT3 := own_take (k := k) HC1.h2 hkn
      rw [Nat.mul_one] at HT1 HT2 HT3
      have hvl : (ic l).length = n := by rw [ic_length]; exact HN.out.symm
      simp only [World.size_alloc] at HB HC1
      by_cases hkc : c = k
      ·
        have hnk : n - k = 0 := by omega
        have HDN : Hid ((ic l).drop k = []) := Lib.hid (List.drop_of_length_le (by omega))
        go_wp2_with fail
        go_region_law (first
          | (refine step_app rfl (.tmp 33) (.tmp 36) 33 (by rfl) 3 i0 _ 1 8 Tryz.underlying33 hi hz0 hz1 hz2 rfl (by decide) _ _ _ (by rfl) HA _ _ _ ((ic l).take k) (by rfl) HT1 HONE1.out (by unfold maxLen; omega) (by omega) ?_; intro v5 w5 H5)
          | (refine step_app rfl (.tmp 33) (.tmp 36) 33 (by rfl) 3 i0 _ 1 8 Tryz.underlying33 hi hz0 hz1 hz2 rfl (by decide) _ _ _ (by rfl) HB _ _ _ ((ic l).take k) (by rfl) HT2 HONE1.out (by unfold maxLen; omega) (by omega) ?_; intro v5 w5 H5)
          | (refine step_app rfl (.tmp 33) (.tmp 36) 33 (by rfl) 3 i0 _ 1 8 Tryz.underlying33 hi hz0 hz1 hz2 rfl (by decide) _ _ _ (by rfl) HC1 _ _ _ ((ic l).take k) (by rfl) HT3 HONE1.out (by unfold maxLen; omega) (by omega) ?_; intro v5 w5 H5)
          | (refine step_app rfl (.tmp 37) (.tmp 39) 33 (by rfl) 3 i0 _ 1 8 Tryz.underlying33 hi hz0 hz1 hz2 rfl (by decide) _ _ _ (by rfl) (H5.alloc _) _ _ _ [.int .i64 x] (by rfl) (Rd.fresh w5 _ #[.int .i64 x] 1 1 rfl) oc1 (by unfold maxLen; omega) (by omega) ?_; intro v6 w6 H6)
          | (refine step_app rfl (.tmp 37) (.tmp 39) 33 (by rfl) 3 i0 _ 1 8 Tryz.underlying33 hi hz0 hz1 hz2 rfl (by decide) _ _ _ (by rfl) H5 _ _ _ [.int .i64 x] (by rfl) (own_take (k := 1) H5.h1 (Nat.le_refl _)) oc1 (by unfold maxLen; omega) (by omega) ?_; intro v6 w6 H6)
          | (refine step_app rfl (.tmp 40) (.tmp 43) 33 (by rfl) 3 i0 _ 1 8 Tryz.underlying33 hi hz0 hz1 hz2 rfl (by decide) _ _ _ (by rfl) H6 (lo := 0) (hi' := w6.heap.size) _ 0 _ [] (by rfl) ⟨rfl, fun h => absurd h (Nat.lt_irrefl 0)⟩ (by intro u hu; simp at hu) (by unfold maxLen; omega) (by omega) ?_; intro v7 w7 H7))
        all_goals
          have H8 : Sep w0 w7 (Res.row v7 3 1 (n + 1) ((ic l).take k ++ .int .i64 x :: (ic l).drop k) :: L) := by
            replace H7 := by first | exact H7.drop2.drop2 | exact H7.drop2
            first
              | rw [show 0 + k + 1 + (n - k) = n + 1 by omega] at H7
              | rw [show 0 + k + 1 + 0 = n + 1 by omega] at H7
            rw [HDN.out]; have := H7; simp only [List.nil_append, List.append_nil] at this; exact this
          clear H5 H6 H7 HA HT1 HB HT2 HC1 HT3
          (rw [← HI.out] at H8; clear H; go_wp2; go_ret; exact Put7Post.mk rfl HIL.out (Nat.succ_pos _) H8)
      ·
        go_wp2_with fail
        go_region_law (first
          | (refine step_app rfl (.tmp 33) (.tmp 36) 33 (by rfl) 3 i0 _ 1 8 Tryz.underlying33 hi hz0 hz1 hz2 rfl (by decide) _ _ _ (by rfl) HA _ _ _ ((ic l).take k) (by rfl) HT1 HONE1.out (by unfold maxLen; omega) (by omega) ?_; intro v5 w5 H5)
          | (refine step_app rfl (.tmp 33) (.tmp 36) 33 (by rfl) 3 i0 _ 1 8 Tryz.underlying33 hi hz0 hz1 hz2 rfl (by decide) _ _ _ (by rfl) HB _ _ _ ((ic l).take k) (by rfl) HT2 HONE1.out (by unfold maxLen; omega) (by omega) ?_; intro v5 w5 H5)
          | (refine step_app rfl (.tmp 33) (.tmp 36) 33 (by rfl) 3 i0 _ 1 8 Tryz.underlying33 hi hz0 hz1 hz2 rfl (by decide) _ _ _ (by rfl) HC1 _ _ _ ((ic l).take k) (by rfl) HT3 HONE1.out (by unfold maxLen; omega) (by omega) ?_; intro v5 w5 H5)
          | (refine step_app rfl (.tmp 37) (.tmp 39) 33 (by rfl) 3 i0 _ 1 8 Tryz.underlying33 hi hz0 hz1 hz2 rfl (by decide) _ _ _ (by rfl) (H5.alloc _) _ _ _ [.int .i64 x] (by rfl) (Rd.fresh w5 _ #[.int .i64 x] 1 1 rfl) oc1 (by unfold maxLen; omega) (by omega) ?_; intro v6 w6 H6)
          | (refine step_app rfl (.tmp 37) (.tmp 39) 33 (by rfl) 3 i0 _ 1 8 Tryz.underlying33 hi hz0 hz1 hz2 rfl (by decide) _ _ _ (by rfl) H5 _ _ _ [.int .i64 x] (by rfl) (own_take (k := 1) H5.h1 (Nat.le_refl _)) oc1 (by unfold maxLen; omega) (by omega) ?_; intro v6 w6 H6)
          | (refine step_app rfl (.tmp 40) (.tmp 43) 33 (by rfl) 3 i0 _ 1 8 Tryz.underlying33 hi hz0 hz1 hz2 rfl (by decide) _ _ _ (by rfl) H6 (lo := 0) (hi' := w6.heap.size) _ (n - k) _ ((ic l).drop k) (by rfl) (by have := Rd.drop (k := k) (own_take (k := n) (by first | exact H6.h1 | exact H6.h2) (Nat.le_refl _)); rw [Nat.mul_one, Nat.mul_one, List.take_of_length_le (by omega), Nat.zero_add] at this; exact this) HONE2.out (by unfold maxLen; omega) (by omega) ?_; intro v7 w7 H7))
        all_goals
          have H8 : Sep w0 w7 (Res.row v7 3 1 (n + 1) ((ic l).take k ++ .int .i64 x :: (ic l).drop k) :: L) := by
            replace H7 := by first | exact H7.drop2.drop2 | exact H7.drop2
            first
              | rw [show 0 + k + 1 + (n - k) = n + 1 by omega] at H7
              | rw [show 0 + k + 1 + 0 = n + 1 by omega] at H7
            have := H7; simp only [List.nil_append, List.append_assoc, List.cons_append] at this; exact this
          clear H5 H6 H7 HA HT1 HB HT2 HC1 HT3
          (rw [← HI.out] at H8; clear H; go_wp2; go_ret; exact Put7Post.mk rfl HIL.out (Nat.succ_pos _) H8)
end Go.Proofs.YtbdffadhieljbaaGreatDoor

namespace Go.Proofs.YtbdffadhieljbaaGreatDoor
open Go.RowKit

set_option maxRecDepth 100000 in
theorem impl_covered_c {v : Value} {s : List Cell} (w : World) (h : CellsRd w 0 w.heap.size v s) (hsh : isShape s = true) (hcn : connS s = true) :
    Calls Tryz.prog 72 #[v] w fun e w' => e = .returned (.int .i64 ((srtU (facesL s)).length : Int)) ∧ Below w.heap.size w w' := by
  obtain ⟨hl1, hl8⟩ := shp_len hsh
  have HF := Lib.hid (impl_faces_c w h hsh hcn)
  have hfl : (facesL s).length ≤ 8 := by rw [facesL_len]; exact hl8
  obtain ⟨A, c, rfl, _, _⟩ := h
  clear hsh hcn
  go_enter Tryz.func72, Tryz.ntmps72
  go_wp2_with fail
  refine (HF.out).mono ?_
  rintro e w1 ⟨v1, rfl, o1, b1⟩
  have HO := Lib.hid (impl_ordered_c w1 ((IntsIn.rd o1).more (Nat.zero_le _) (Nat.le_refl _)) (by omega))
  clear o1
  go_wp2_with fail
  refine (HO.out).mono ?_
  rintro e w2 ⟨v2, rfl, o2, b2⟩
  obtain ⟨A2, c2, rfl, _, _⟩ := o2.rd
  have hb := b1.trans (b2.mono b1.size)
  clear o2 HO
  go_wp2
  go_ret
  exact ⟨rfl, hb⟩
set_option maxRecDepth 100000 in
set_option maxHeartbeats 3200000 in
theorem spec_covered_c {v : Value} {s : List Cell} (w : World) (h : CellsRd w 0 w.heap.size v s) (hsh : isShape s = true) (hcn : connS s = true) :
    Calls Tryz.prog 53 #[v] w fun e w' => e = .returned (.int .i64 ((srtU (facesL s)).length : Int)) ∧ Below w.heap.size w w' := by
  obtain ⟨hl1, hl8⟩ := shp_len hsh
  have HF := Lib.hid (spec_faces_c w h hsh hcn)
  obtain ⟨L, hL⟩ : ∃ L, L = facesL s := ⟨_, rfl⟩
  have hfl : 1 ≤ L.length ∧ L.length ≤ 8 := by rw [hL, facesL_len]; exact ⟨hl1, hl8⟩
  rw [← hL] at HF ⊢
  obtain ⟨n, hn⟩ : ∃ n, n = L.length := ⟨_, rfl⟩
  have HN := Lib.hid hn
  rw [← hn] at hfl
  obtain ⟨A, c, rfl, _, _⟩ := h
  clear hsh hcn hL
  go_enter Tryz.func53, Tryz.ntmps53
  go_wp2_with fail
  refine (HF.out).mono ?_
  rintro e w1 ⟨v1, rfl, o1, b1⟩
  have H1 := (Sep.start w).oiNew b1 o1
  rw [← hn] at H1
  obtain ⟨b, o, c1, rfl, _, _, _⟩ := own_shape H1.h0 hfl.1
  obtain ⟨rfl, _⟩ := own_blk H1.h0
  have H2 := H1.rowBox 3 #[] 1 0 rfl (by decide)
  clear H1 o1 b1 HF hn
  go_upto_region 5 with fail
  obtain ⟨g, hg⟩ : ∃ g, g = w1.heap.size := ⟨_, rfl⟩
  rw [← hg] at H2 ⊢
  generalize w1.alloc (.cells #[] 3) = W1 at *
  clear hg
  go_wp2
  go_loopw [5, 6] (fun lv iv wx => ∃ (i m g' c' : Nat), i ≤ n ∧ iv = .int .i64 i ∧ Hid (m = (srtU (L.take i)).length) ∧ m ≤ i ∧ lv = .slice (some ⟨g', 0, none⟩) m c' ∧ Sep w wx [Res.row (.slice (some ⟨g', 0, none⟩) m c') 3 1 m (ic (srtU (L.take i))), Res.row (.slice (some ⟨b, 0, none⟩) n c1) 3 1 n (ic L)]) (fun _ iv _ => n - (intOf iv).toNat)
  case atStart => exact ⟨0, 0, g, 0, Nat.zero_le _, rfl, Lib.hid rfl, Nat.le_refl _, rfl, H2⟩
  case round =>
    clear H2
    obtain ⟨i, m, g', c', hin, rfl, HM, hmi, rfl, H⟩ := hrel
    by_cases hlt : i < n
    · have hlti : (i : Int) < (n : Int) := by omega
      obtain ⟨x, hx⟩ : ∃ x, L[i]? = some x := ⟨L[i]'(by rw [← HN.out]; exact hlt), List.getElem?_eq_getElem _⟩
      have q1 := own_cell1 H.h1 hx
      rw [Nat.zero_add] at q1
      have HP := Lib.hid (spec_put7_c (x := x) H HM.out asc_srtU (by omega))
      have HX := Lib.hid hx
      clear hx H
      go_wp2_with fail
      refine (HP.out).mono ?_
      rintro e w2 ⟨g2, c2, rfl, H2⟩
      have HT : Hid (insN x (srtU (L.take i)) = srtU (L.take (i + 1))) := Lib.hid (by
        obtain ⟨h1, h2⟩ := List.getElem?_eq_some_iff.1 HX.out
        rw [List.take_succ_eq_append_getElem h1, h2, srtU_snoc])
      rw [HT.out] at H2 ⊢
      have hm2 : (srtU (L.take (i + 1))).length ≤ i + 1 := Nat.le_trans srtU_len (List.length_take_le _ _)
      obtain ⟨m2, hm2'⟩ : ∃ m, m = (srtU (L.take (i + 1))).length := ⟨_, rfl⟩
      have HM2 := Lib.hid hm2'
      rw [← hm2'] at H2 hm2 ⊢
      clear hm2' HP q1
      go_wp2
      go_roundw
      case rel => exact ⟨i + 1, m2, g2, c2, by omega, by go_num, HM2, hm2, rfl, H2⟩
      case measure => simp [intOf]; omega
    · obtain rfl : i = n := by omega
      have hb := H.below
      have hm : m = (srtU L).length := by
        have := HM.out
        rw [List.take_of_length_le (by rw [HN.out]; exact Nat.le_refl _)] at this
        exact this
      have HMM := Lib.hid hm
      clear H hm
      go_wp2
      go_ret
      exact ⟨congrArg (fun k : Nat => Ending.returned (.int .i64 (k : Int))) HMM.out, hb⟩
noncomputable def netB (s : List Cell) : Bool := decide (s.length = 6) && (treeB s && decide ((srtU (facesL s)).length = 6))
theorem treeB_conn {s : List Cell} (h : treeB s = true) : connS s = true := by
  unfold treeB at h
  rw [Bool.and_eq_true] at h
  exact h.1
set_option maxRecDepth 100000 in
set_option maxHeartbeats 1600000 in
theorem impl_net_c {v : Value} {s : List Cell} (w : World) (h : CellsRd w 0 w.heap.size v s) (hsh : isShape s = true) :
    Calls Tryz.prog 36 #[v] w fun e w' => e = .returned (.bool (netB s)) ∧ Below w.heap.size w w' := by
  obtain ⟨hl1, hl8⟩ := shp_len hsh
  obtain ⟨R, hR⟩ : ∃ R, R = netB s := ⟨_, rfl⟩
  have HR := Lib.hid hR
  rw [← hR]
  have HT := Lib.hid (impl_tree_c w h hsh)
  have HC : Hid (treeB s = true → ∀ w1, Below w.heap.size w w1 → Calls Tryz.prog 72 #[v] w1 fun e w' => e = .returned (.int .i64 ((srtU (facesL s)).length : Int)) ∧ Below w1.heap.size w1 w') := Lib.hid fun ht w1 b1 => impl_covered_c w1 ((h.keep (SameIn.of_below b1 (Nat.le_refl _))).more (Nat.le_refl _) b1.size) hsh (treeB_conn ht)
  obtain ⟨m, hm⟩ : ∃ m, m = (srtU (facesL s)).length := ⟨_, rfl⟩
  obtain ⟨t, ht⟩ : ∃ t, t = treeB s := ⟨_, rfl⟩
  obtain ⟨n, hn⟩ : ∃ n, n = s.length := ⟨_, rfl⟩
  have HRR : Hid (R = (decide (n = 6) && (t && decide (m = 6)))) := Lib.hid (by rw [hR, netB, hm, ht, hn])
  obtain ⟨A, c, rfl, _, _⟩ := h
  rw [← hm, ← ht, ← hn] at HC
  rw [← ht, ← hn] at HT
  rw [← hn] at hl1 hl8 ⊢
  clear hsh hR hm ht hn HR
  go_enter Tryz.func36, Tryz.ntmps36
  by_cases h6 : n = 6
  · subst h6
    go_wp2_with fail
    refine (HT.out).mono ?_
    rintro e w1 ⟨rfl, b1⟩
    cases t
    · obtain rfl : R = false := by rw [HRR.out]; rfl
      go_wp2
      go_ret
      exact ⟨rfl, b1⟩
    · have HC2 := Lib.hid (HC.out rfl w1 b1)
      have hRm : R = decide (m = 6) := by rw [HRR.out]; rfl
      by_cases hm6 : m = 6
      · subst hm6
        obtain rfl : R = true := by rw [hRm]; rfl
        clear hRm HRR
        go_wp2_with fail
        refine (HC2.out).mono ?_
        rintro e w2 ⟨rfl, b2⟩
        have hb := b1.trans (b2.mono b1.size)
        go_wp2
        go_ret
        exact ⟨rfl, hb⟩
      · obtain rfl : R = false := by rw [hRm]; exact decide_eq_false hm6
        clear hRm HRR
        have e1 : ((m : Int) == 6) = false := by simp; omega
        have e2 : ¬ (m : Int) = 6 := by omega
        go_wp2_with fail
        refine (HC2.out).mono ?_
        rintro e w2 ⟨rfl, b2⟩
        have hb := b1.trans (b2.mono b1.size)
        go_wp2
        go_ret
        exact ⟨rfl, hb⟩
  · obtain rfl : R = false := by rw [HRR.out, decide_eq_false h6]; rfl
    have e1 : ((n : Int) == 6) = false := by simp; omega
    have e2 : ¬ (n : Int) = 6 := by omega
    have hb := Below.refl w.heap.size w
    clear HC HT
    go_wp2
    go_ret
    exact ⟨rfl, hb⟩
set_option maxRecDepth 100000 in
set_option maxHeartbeats 1600000 in
theorem spec_net_c {v : Value} {s : List Cell} (w : World) (h : CellsRd w 0 w.heap.size v s) (hsh : isShape s = true) :
    Calls Tryz.prog 21 #[v] w fun e w' => e = .returned (.bool (netB s)) ∧ Below w.heap.size w w' := by
  obtain ⟨hl1, hl8⟩ := shp_len hsh
  obtain ⟨R, hR⟩ : ∃ R, R = netB s := ⟨_, rfl⟩
  have HR := Lib.hid hR
  rw [← hR]
  have HT := Lib.hid (spec_tree_c w h hsh)
  have HC : Hid (treeB s = true → ∀ w1, Below w.heap.size w w1 → Calls Tryz.prog 53 #[v] w1 fun e w' => e = .returned (.int .i64 ((srtU (facesL s)).length : Int)) ∧ Below w1.heap.size w1 w') := Lib.hid fun ht w1 b1 => spec_covered_c w1 ((h.keep (SameIn.of_below b1 (Nat.le_refl _))).more (Nat.le_refl _) b1.size) hsh (treeB_conn ht)
  obtain ⟨m, hm⟩ : ∃ m, m = (srtU (facesL s)).length := ⟨_, rfl⟩
  obtain ⟨t, ht⟩ : ∃ t, t = treeB s := ⟨_, rfl⟩
  obtain ⟨n, hn⟩ : ∃ n, n = s.length := ⟨_, rfl⟩
  have HRR : Hid (R = (decide (n = 6) && (t && decide (m = 6)))) := Lib.hid (by rw [hR, netB, hm, ht, hn])
  obtain ⟨A, c, rfl, _, _⟩ := h
  rw [← hm, ← ht, ← hn] at HC
  rw [← ht, ← hn] at HT
  rw [← hn] at hl1 hl8 ⊢
  clear hsh hR hm ht hn HR
  go_enter Tryz.func21, Tryz.ntmps21
  by_cases h6 : n = 6
  · subst h6
    go_wp2_with fail
    refine (HT.out).mono ?_
    rintro e w1 ⟨rfl, b1⟩
    cases t
    · obtain rfl : R = false := by rw [HRR.out]; rfl
      go_wp2
      go_ret
      exact ⟨rfl, b1⟩
    · have HC2 := Lib.hid (HC.out rfl w1 b1)
      have hRm : R = decide (m = 6) := by rw [HRR.out]; rfl
      by_cases hm6 : m = 6
      · subst hm6
        obtain rfl : R = true := by rw [hRm]; rfl
        clear hRm HRR
        go_wp2_with fail
        refine (HC2.out).mono ?_
        rintro e w2 ⟨rfl, b2⟩
        have hb := b1.trans (b2.mono b1.size)
        go_wp2
        go_ret
        exact ⟨rfl, hb⟩
      · obtain rfl : R = false := by rw [hRm]; exact decide_eq_false hm6
        clear hRm HRR
        have e1 : ((m : Int) == 6) = false := by simp; omega
        have e2 : ¬ (m : Int) = 6 := by omega
        go_wp2_with fail
        refine (HC2.out).mono ?_
        rintro e w2 ⟨rfl, b2⟩
        have hb := b1.trans (b2.mono b1.size)
        go_wp2
        go_ret
        exact ⟨rfl, hb⟩
  · obtain rfl : R = false := by rw [HRR.out, decide_eq_false h6]; rfl
    have e1 : ((n : Int) == 6) = false := by simp; omega
    have e2 : ¬ (n : Int) = 6 := by omega
    have hb := Below.refl w.heap.size w
    clear HC HT
    go_wp2
    go_ret
    exact ⟨rfl, hb⟩
end Go.Proofs.YtbdffadhieljbaaGreatDoor
