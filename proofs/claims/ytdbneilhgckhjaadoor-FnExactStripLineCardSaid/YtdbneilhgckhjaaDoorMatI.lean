
/-
  Strips: their recurrences, and the texts of these: the walks of both sides.
-/
import Derived.Test.YtdbneilhgckhjaaDoorMatH
import Derived.Test.YtdbneilhgckhjaaDoorLine
import Derived.Test.YtdbneilhgckhjaaDoorFmtI
namespace Go.Proofs.YtdbneilhgckhjaaDoor
open Go.RowKit

def recL (wd : Nat) : List Int := (charS (domMat wd) (2 ^ wd) (2 ^ wd)).2
theorem domMat_small : ∀ wd, wd < 4 → ∀ r ∈ domMat wd, ∀ x ∈ r, 0 ≤ x ∧ x ≤ 20 := by decide +kernel
theorem recL_small : ∀ wd, wd < 4 → ∀ x ∈ recL wd, -1000000 ≤ x ∧ x ≤ 1000000 := by decide +kernel
theorem recL_len {wd : Nat} : (recL wd).length = 2 ^ wd := (charS_len (N := 2 ^ wd) domMat_len (k := 2 ^ wd)).2.2
theorem domMat_row {wd : Nat} : ∀ r ∈ domMat wd, r.length = 2 ^ wd := by
  intro r hr
  obtain ⟨a, _, rfl⟩ := List.mem_map.1 hr
  exact domRow_len
theorem pow8 {wd : Nat} (h : wd ≤ 3) : 2 ^ wd ≤ 8 := Nat.pow_le_pow_right (by decide) h
set_option maxRecDepth 100000 in
set_option maxHeartbeats 1600000 in
theorem impl_rec_c (wd : Nat) (w : World) (h1 : 1 ≤ wd) (hw : wd ≤ 3) :
    Calls Tryd.prog 23 #[.int .i64 wd] w fun e w' => ∃ v, e = .returned (.tuple #[v, .bool true]) ∧ IntsIn w' w.heap.size w'.heap.size v (recL wd) ∧ Below w.heap.size w w' := by
  have h1' : inW (wd : Int) 1 3 = true := inW_iff.2 ⟨by omega, by omega⟩
  have HT := Lib.hid (impl_trans_c wd w h1 (by omega))
  go_enter Tryd.func23, Tryd.ntmps23
  go_wp2_with (go_at_call 65; refine (between_w _ _ _ _).mono ?_; rintro e w' ⟨rfl, rfl⟩)
  refine (HT.out).mono ?_
  rintro e w1 ⟨v1, vs, rfl, H⟩
  have HC := Lib.hid (impl_char_c (N := 2 ^ wd) w1 (H.ssRd domMat_len.symm) (Nat.pow_pos (by decide)) (pow8 hw) domMat_len domMat_row (domMat_small wd (by omega)))
  have hbel := H.below
  obtain ⟨A1, c1, rfl, _, _, _⟩ := Res.row_at H.h0
  clear H HT h1'
  go_wp2_with fail
  refine (HC.out).mono ?_
  rintro e w2 ⟨v2, rfl, o2, b2⟩
  have hb2 := hbel.trans (b2.mono hbel.size)
  have HO : IntsIn w2 w.heap.size w2.heap.size v2 (recL wd) := OI.base o2 hbel.size (Nat.le_refl _)
  clear hbel b2 o2 HC
  go_wp2
  refine bodyPost_ret (results_tmp2 rfl _ _ _) rfl ?_
  exact ⟨_, rfl, HO, hb2⟩
set_option maxRecDepth 100000 in
theorem impl_rec0_c (wd : Nat) (w : World) (hw : 3 < wd) :
    Calls Tryd.prog 23 #[.int .i64 wd] w fun e w' => ∃ v, e = .returned (.tuple #[v, .bool false]) ∧ Below w.heap.size w w' := by
  have h1' : inW (wd : Int) 1 3 = false := by
    cases h : inW (wd : Int) 1 3
    · rfl
    · have := inW_iff.1 h; omega
  go_enter Tryd.func23, Tryd.ntmps23
  go_wp2_with (go_at_call 65; refine (between_w _ _ _ _).mono ?_; rintro e w' ⟨rfl, rfl⟩)
  refine bodyPost_ret (results_tmp2 rfl _ _ _) rfl ?_
  exact ⟨_, rfl, Below.refl _ _⟩
set_option maxRecDepth 100000 in
set_option maxHeartbeats 1600000 in
theorem spec_rec_c (wd : Nat) (w : World) (h1 : 1 ≤ wd) (hw : wd ≤ 3) :
    Calls Tryd.prog 19 #[.int .i64 wd] w fun e w' => ∃ v, e = .returned (.tuple #[v, .bool true]) ∧ IntsIn w' w.heap.size w'.heap.size v (recL wd) ∧ Below w.heap.size w w' := by
  have HT := Lib.hid (spec_trans_c wd w h1 (by omega))
  have h3 : ¬ 3 < wd := by omega
  go_enter Tryd.func19, Tryd.ntmps19
  go_wp2_with fail
  refine (HT.out).mono ?_
  rintro e w1 ⟨v1, vs, rfl, H⟩
  have HC := Lib.hid (spec_char_c (N := 2 ^ wd) w1 (H.ssRd domMat_len.symm) (Nat.pow_pos (by decide)) (pow8 hw) domMat_len domMat_row (domMat_small wd (by omega)))
  have hbel := H.below
  obtain ⟨A1, c1, rfl, _, _, _⟩ := Res.row_at H.h0
  clear H HT
  go_wp2_with fail
  refine (HC.out).mono ?_
  rintro e w2 ⟨v2, rfl, o2, b2⟩
  have hb2 := hbel.trans (b2.mono hbel.size)
  have HO : IntsIn w2 w.heap.size w2.heap.size v2 (recL wd) := OI.base o2 hbel.size (Nat.le_refl _)
  obtain ⟨A2, c2, rfl, _, _⟩ := HO.rd
  clear hbel b2 o2 HC
  go_wp2
  refine bodyPost_ret (results_tmp2 rfl _ _ _) rfl ?_
  exact ⟨_, rfl, HO, hb2⟩
set_option maxRecDepth 100000 in
set_option maxHeartbeats 1600000 in
theorem spec_rec0_c (wd : Nat) (w : World) (hw : 3 < wd) (h4 : wd ≤ 4) :
    Calls Tryd.prog 19 #[.int .i64 wd] w fun e w' => ∃ v, e = .returned (.tuple #[v, .bool false]) ∧ Below w.heap.size w w' := by
  have HT := Lib.hid (spec_trans_c wd w (by omega) h4)
  go_enter Tryd.func19, Tryd.ntmps19
  go_wp2_with fail
  refine (HT.out).mono ?_
  rintro e w1 ⟨v1, vs, rfl, H⟩
  have hbel := ((Sep.start w).step H.below).rowBox 3 #[] 1 0 rfl (by decide) |>.below
  obtain ⟨A1, c1, rfl, _, _, _⟩ := Res.row_at H.h0
  clear H HT
  go_wp2
  refine bodyPost_ret (results_tmp2 rfl _ _ _) rfl ?_
  exact ⟨_, rfl, hbel⟩
set_option maxRecDepth 100000 in
set_option maxHeartbeats 1600000 in
theorem impl_areNum_c {v : Value} {l : List Int} (w : World) (h : IntsRd w 0 w.heap.size v l) (hb : ∀ x ∈ l, -1000000000 ≤ x ∧ x ≤ 1000000000) (hl : l.length ≤ 40) :
    Calls Tryd.prog 104 #[v] w fun e w' => e = .returned (.bool true) ∧ Below w.heap.size w w' := by
  obtain ⟨A, c, rfl, hm, hr⟩ := h
  have HB := Lib.hid hb
  clear hb
  go_enter Tryd.func104, Tryd.ntmps104
  go_wp2
  go_loopw [7] (fun iv wx => ∃ i : Nat, i ≤ l.length ∧ iv = .int .i64 i ∧ Below w.heap.size w wx) (fun iv _ => l.length - (intOf iv).toNat)
  case atStart => exact ⟨0, Nat.zero_le _, rfl, Below.refl _ _⟩
  case round =>
    obtain ⟨i, hi, rfl, hbel⟩ := hrel
    by_cases hlt : i < l.length
    · obtain ⟨b, off, n, rfl, _, hb, hla, q1⟩ := (hr.below hbel (Nat.le_refl _)).at1 hlt
      have hin : inW n (-1000000000) 1000000000 = true := inW_iff.2 (HB.out n (List.mem_of_getElem? hla))
      clear hr hla
      go_wp2_with (go_at_call 65; refine (between_w _ _ _ _).mono ?_; rintro e w' ⟨rfl, rfl⟩)
      clear q1 hin
      go_roundw
      case rel => exact ⟨i + 1, by omega, by go_num, hbel⟩
      case measure => simp [intOf]; omega
    · obtain rfl : i = l.length := by omega
      go_wp2
      go_ret
      exact ⟨rfl, hbel⟩
set_option maxRecDepth 100000 in
set_option maxHeartbeats 1600000 in
theorem spec_fine_c {v : Value} {l : List Int} (w : World) (h : IntsRd w 0 w.heap.size v l) (hb : ∀ x ∈ l, -1000000000 ≤ x ∧ x ≤ 1000000000) (hl : l.length ≤ 40) :
    Calls Tryd.prog 61 #[v] w fun e w' => e = .returned (.bool true) ∧ Below w.heap.size w w' := by
  obtain ⟨A, c, rfl, hm, hr⟩ := h
  have HB := Lib.hid hb
  clear hb
  go_enter Tryd.func61, Tryd.ntmps61
  go_wp2
  go_loopw [3] (fun iv wx => ∃ i : Nat, i ≤ l.length ∧ iv = .int .i64 i ∧ Below w.heap.size w wx) (fun iv _ => l.length - (intOf iv).toNat)
  case atStart => exact ⟨0, Nat.zero_le _, rfl, Below.refl _ _⟩
  case round =>
    obtain ⟨i, hi, rfl, hbel⟩ := hrel
    by_cases hlt : i < l.length
    · obtain ⟨b, off, n, rfl, _, hb, hla, q1⟩ := (hr.below hbel (Nat.le_refl _)).at1 hlt
      have hin : inW n (-1000000000) 1000000000 = true := inW_iff.2 (HB.out n (List.mem_of_getElem? hla))
      clear hr hla
      go_wp2_with (go_at_call 59; refine (l1In_w _ _ _ _).mono ?_; rintro e w' ⟨rfl, rfl⟩)
      clear q1 hin
      go_roundw
      case rel => exact ⟨i + 1, by omega, by go_num, hbel⟩
      case measure => simp [intOf]; omega
    · obtain rfl : i = l.length := by omega
      have hdl : decide ((l.length : Int) ≤ 40) = true := decide_eq_true (by omega)
      go_wp2
      go_ret
      exact ⟨rfl, hbel⟩
end Go.Proofs.YtdbneilhgckhjaaDoor
