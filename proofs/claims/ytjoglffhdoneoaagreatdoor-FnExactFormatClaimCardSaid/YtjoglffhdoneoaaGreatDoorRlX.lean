
/-
  A region's area and its text: the reference's walks. The walk of the library's count of ones, at small numbers. A region's area: the program's walk. A region's text: the program's walk.
-/
import Derived.Test.YtjoglffhdoneoaaGreatDoorCellX
import Derived.Deep.DeepCutAuto
import Derived.Test.YtjoglffhdoneoaaGreatDoorProg
import Derived.Test.YtjoglffhdoneoaaGreatDoorCommon
import Derived.Test.YtjoglffhdoneoaaGreatDoorNumT
namespace Go.Proofs.YtjoglffhdoneoaaGreatDoor
open Go.RowKit

def areaR (r : Reg) : Int := if r.valid then (r.cells.length : Int) else -1
def chR (b : Bool) : ByteArray := if b then ⟨#[35]⟩ else ⟨#[46]⟩
/-- a row's first k signs -/
def rowS (r : Reg) (y : Nat) : Nat → ByteArray
  | 0 => ⟨#[]⟩
  | k + 1 => rowS r y k ++ chR (r.has k y)
/-- the first k rows -/
def fmtS (r : Reg) : Nat → ByteArray
  | 0 => ⟨#[]⟩
  | k + 1 => (if k = 0 then fmtS r k else fmtS r k ++ ⟨#[47]⟩) ++ rowS r k r.w.toNat
theorem rowS_size {r : Reg} {y : Nat} : ∀ k, (rowS r y k).size = k
  | 0 => rfl
  | k + 1 => by
    rw [rowS, ByteArray.size_append, rowS_size k]
    unfold chR
    split <;> rfl
theorem fmtS_size {r : Reg} (hw : r.w.toNat ≤ 6) : ∀ y, (fmtS r y).size ≤ 7 * y
  | 0 => Nat.le_refl _
  | y + 1 => by
    have h := fmtS_size hw y
    rw [fmtS, ByteArray.size_append, rowS_size]
    split
    · omega
    · rw [ByteArray.size_append, show (⟨#[47]⟩ : ByteArray).size = 1 from rfl]; omega
def fmtR (r : Reg) : ByteArray := if r.valid then fmtS r r.rows.length else ⟨#[]⟩
theorem ba_empty (a : ByteArray) : a ++ ⟨#[]⟩ = a := by apply ByteArray.ext; simp [ByteArray.data_append]
theorem ba_assoc (a b c : ByteArray) : a ++ b ++ c = a ++ (b ++ c) := ByteArray.append_assoc
set_option maxRecDepth 100000 in
set_option maxHeartbeats 1600000 in
theorem spec_fmtReg_c {v : Value} {r : Reg} (w : World) (h : RegRd w 0 w.heap.size v r) (hn : r.rows.length ≤ 1048576) :
    Calls Tryz.prog 49 #[v] w fun e w' => e = .returned (.string (fmtR r)) ∧ Below w.heap.size w w' := by
  have HRD : Hid (∀ w1, Below w.heap.size w w1 → RegRd w1 0 w1.heap.size v r) := Lib.hid fun w1 b1 => (h.keep (SameIn.of_below b1 (Nat.le_refl _))).more (Nat.le_refl _) b1.size
  obtain ⟨s, rfl, hs⟩ := h
  obtain ⟨A, c, rfl, hm, hr⟩ := id hs
  have H0 := (Sep.start w).box 28 #[.int .i64 r.w, .slice A r.rows.length c]
  obtain ⟨bR, hbR⟩ : ∃ bR, bR = w.heap.size := ⟨_, rfl⟩
  rw [← hbR] at H0
  obtain ⟨R, hR⟩ : ∃ R, R = fmtR r := ⟨_, rfl⟩
  rw [← hR]
  have HR := Lib.hid hR
  clear hr hs hR
  go_enter Tryz.func49, Tryz.ntmps49
  go_upto_region 1 with fail
  rw [← hbR]
  generalize (w.alloc (.cells #[.int .i64 r.w, .slice A r.rows.length c] 28)) = W at *
  clear hbR
  go_wp2
  go_loopw [3, 4] (fun sv yv wx => ∃ y : Nat, y ≤ r.rows.length ∧ yv = .int .i64 y ∧ sv = .string (fmtS r y) ∧ Hid (y ≠ 0 → r.valid = true) ∧ Sep w wx [Res.box bR 28 #[.int .i64 r.w, .slice A r.rows.length c]]) (fun _ yv _ => r.rows.length - (intOf yv).toNat)
  case atStart => exact ⟨0, Nat.zero_le _, rfl, rfl, Lib.hid (fun h => absurd rfl h), H0⟩
  case round =>
    clear H0
    obtain ⟨y, hy, rfl, rfl, HY, H⟩ := hrel
    have c0 : wr.cell? ⟨bR, 0, none⟩ = some (.int .i64 r.w) := H.h0.cell 0
    have c1 : wr.cell? ⟨bR, 1, none⟩ = some (.slice A r.rows.length c) := H.h0.cell 1
    by_cases hlt : y < r.rows.length
    · have HI := Lib.hid (spec_IsRegion_c wr (HRD.out wr H.below))
      go_wp2_with fail
      refine (HI.out).mono ?_
      rintro e w1 ⟨rfl, b1⟩
      have H1 := H.step b1
      clear H HI b1 c0 c1
      cases hv : r.valid
      · have HE : Hid (R = fmtS r y) := Lib.hid (by
          have h0 : y = 0 := by
            rcases Nat.eq_zero_or_pos y with h | h
            · exact h
            · have := HY.out (by omega); rw [hv] at this; cases this
          rw [HR.out, h0]; unfold fmtR; rw [hv]; rfl)
        clear hv
        go_wp2
        go_ret
        exact ⟨by rw [HE.out]; rfl, H1.below⟩
      · have HV := Lib.hid (Reg.valid_iff.1 hv)
        have HVV := Lib.hid hv
        clear hv
        have hv1 := HV.out.1
        obtain ⟨wn, hwn⟩ : ∃ wn : Nat, wn = r.w.toNat := ⟨_, rfl⟩
        have hwr : r.w = (wn : Int) := by omega
        have HWN := Lib.hid hwn
        have HWR := Lib.hid hwr
        rw [hwr] at H1
        clear hwn hwr
        have HWL : Hid (wn ≤ 6) := Lib.hid (by have := HV.out.2.1; have := HWR.out; omega)
        have hw6 : wn ≤ 6 := HWL.out
        have hfs : (fmtS r y).size ≤ 42 := by
          have := fmtS_size (r := r) (by have := HV.out.2.1; omega) y
          have := HV.out.2.2.2.1
          omega
        have hs3 : ¬ (fmtS r y).size + 1 > 9223372036854775807 := by omega
        have hs4 : ¬ 9223372036854775807 < (fmtS r y).size + 1 := by omega
        by_cases hy0 : y = 0
        · have HPS : Hid ((fmtS r y).size ≤ 43) := Lib.hid (by omega)
          have hdi : decide ((0 : Int) < (y : Int)) = false := by simp; omega
          have hdi2 : decide ((y : Int) > 0) = false := by simp; omega
          have hdn : decide (0 < y) = false := by simp; omega
          have HP : Hid (fmtS r (y + 1) = fmtS r y ++ rowS r y wn) := Lib.hid (by rw [fmtS, if_pos hy0, HWN.out])
          clear hy0 hv1
          go_wp2
          obtain ⟨w2, hw2⟩ : ∃ w2 : World, w2 = w1 := ⟨_, rfl⟩
          subst hw2
          go_loopw [3, 5] (fun sv xv wx => ∃ k : Nat, k ≤ wn ∧ xv = .int .i64 k ∧ sv = .string ((fmtS r y) ++ rowS r y k) ∧ Sep w wx [Res.box bR 28 #[.int .i64 wn, .slice A r.rows.length c]]) (fun _ xv _ => wn - (intOf xv).toNat)
          case atStart => exact ⟨0, Nat.zero_le _, rfl, by rw [rowS]; exact congrArg Value.string (ba_empty _).symm, H1⟩
          case round =>
            clear H1
            obtain ⟨k, hk, rfl, rfl, H⟩ := hrel
            have c0 : wr.cell? ⟨bR, 0, none⟩ = some (.int .i64 wn) := H.h0.cell 0
            have c1 : wr.cell? ⟨bR, 1, none⟩ = some (.slice A r.rows.length c) := H.h0.cell 1
            obtain ⟨T, hT⟩ : ∃ T, T = (fmtS r y) ++ rowS r y k := ⟨_, rfl⟩
            have HT := Lib.hid hT
            have hsz : T.size ≤ 100 := by rw [hT, ByteArray.size_append, rowS_size]; have := HPS.out; have := HWL.out; omega
            have hs1 : ¬ T.size + 1 > 9223372036854775807 := by omega
            have hs2 : ¬ 9223372036854775807 < T.size + 1 := by omega
            rw [← hT]
            clear hT
            by_cases hkl : k < wn
            · have HI := Lib.hid (spec_has_c (r := r) k y wr (HRD.out wr H.below) HV.out)
              rw [HWR.out] at HI
              go_wp2_with fail
              refine (HI.out).mono ?_
              rintro e w3 ⟨rfl, b3⟩
              have H3 := H.step b3
              clear H HI b3 c0 c1
              cases hh : r.has k y
              · have HC : Hid (T ++ ⟨#[46]⟩ = (fmtS r y) ++ rowS r y (k + 1)) := Lib.hid (by rw [HT.out, rowS, hh, ba_assoc ((fmtS r y))]; rfl)
                clear hh
                go_wp2
                rw [HC.out]
                go_roundw
                case rel => exact ⟨k + 1, by omega, by go_num, rfl, H3⟩
                case measure => simp [intOf]; omega
              · have HC : Hid (T ++ ⟨#[35]⟩ = (fmtS r y) ++ rowS r y (k + 1)) := Lib.hid (by rw [HT.out, rowS, hh, ba_assoc ((fmtS r y))]; rfl)
                clear hh
                go_wp2
                rw [HC.out]
                go_roundw
                case rel => exact ⟨k + 1, by omega, by go_num, rfl, H3⟩
                case measure => simp [intOf]; omega
            · obtain rfl : k = wn := by omega
              rw [HT.out, ← HP.out]
              rw [← HWR.out] at H
              go_wp2
              go_roundw
              case rel => exact ⟨y + 1, by omega, by go_num, rfl, Lib.hid (fun _ => HVV.out), H⟩
              case measure => simp [intOf]; omega
        · have HPS : Hid ((fmtS r y ++ ⟨#[47]⟩).size ≤ 43) := Lib.hid (by rw [ByteArray.size_append, show (⟨#[47]⟩ : ByteArray).size = 1 from rfl]; omega)
          have hdi : decide ((0 : Int) < (y : Int)) = true := by simp; omega
          have hdi2 : decide ((y : Int) > 0) = true := by simp; omega
          have hdn : decide (0 < y) = true := by simp; omega
          have HP : Hid (fmtS r (y + 1) = fmtS r y ++ ⟨#[47]⟩ ++ rowS r y wn) := Lib.hid (by rw [fmtS, if_neg hy0, HWN.out])
          clear hy0 hv1
          go_wp2
          obtain ⟨w2, hw2⟩ : ∃ w2 : World, w2 = w1 := ⟨_, rfl⟩
          subst hw2
          go_loopw [3, 5] (fun sv xv wx => ∃ k : Nat, k ≤ wn ∧ xv = .int .i64 k ∧ sv = .string ((fmtS r y ++ ⟨#[47]⟩) ++ rowS r y k) ∧ Sep w wx [Res.box bR 28 #[.int .i64 wn, .slice A r.rows.length c]]) (fun _ xv _ => wn - (intOf xv).toNat)
          case atStart => exact ⟨0, Nat.zero_le _, rfl, by rw [rowS]; exact congrArg Value.string (ba_empty _).symm, H1⟩
          case round =>
            clear H1
            obtain ⟨k, hk, rfl, rfl, H⟩ := hrel
            have c0 : wr.cell? ⟨bR, 0, none⟩ = some (.int .i64 wn) := H.h0.cell 0
            have c1 : wr.cell? ⟨bR, 1, none⟩ = some (.slice A r.rows.length c) := H.h0.cell 1
            obtain ⟨T, hT⟩ : ∃ T, T = (fmtS r y ++ ⟨#[47]⟩) ++ rowS r y k := ⟨_, rfl⟩
            have HT := Lib.hid hT
            have hsz : T.size ≤ 100 := by rw [hT, ByteArray.size_append, rowS_size]; have := HPS.out; have := HWL.out; omega
            have hs1 : ¬ T.size + 1 > 9223372036854775807 := by omega
            have hs2 : ¬ 9223372036854775807 < T.size + 1 := by omega
            rw [← hT]
            clear hT
            by_cases hkl : k < wn
            · have HI := Lib.hid (spec_has_c (r := r) k y wr (HRD.out wr H.below) HV.out)
              rw [HWR.out] at HI
              go_wp2_with fail
              refine (HI.out).mono ?_
              rintro e w3 ⟨rfl, b3⟩
              have H3 := H.step b3
              clear H HI b3 c0 c1
              cases hh : r.has k y
              · have HC : Hid (T ++ ⟨#[46]⟩ = (fmtS r y ++ ⟨#[47]⟩) ++ rowS r y (k + 1)) := Lib.hid (by rw [HT.out, rowS, hh, ba_assoc ((fmtS r y ++ ⟨#[47]⟩))]; rfl)
                clear hh
                go_wp2
                rw [HC.out]
                go_roundw
                case rel => exact ⟨k + 1, by omega, by go_num, rfl, H3⟩
                case measure => simp [intOf]; omega
              · have HC : Hid (T ++ ⟨#[35]⟩ = (fmtS r y ++ ⟨#[47]⟩) ++ rowS r y (k + 1)) := Lib.hid (by rw [HT.out, rowS, hh, ba_assoc ((fmtS r y ++ ⟨#[47]⟩))]; rfl)
                clear hh
                go_wp2
                rw [HC.out]
                go_roundw
                case rel => exact ⟨k + 1, by omega, by go_num, rfl, H3⟩
                case measure => simp [intOf]; omega
            · obtain rfl : k = wn := by omega
              rw [HT.out, ← HP.out]
              rw [← HWR.out] at H
              go_wp2
              go_roundw
              case rel => exact ⟨y + 1, by omega, by go_num, rfl, Lib.hid (fun _ => HVV.out), H⟩
              case measure => simp [intOf]; omega
    · obtain rfl : y = r.rows.length := by omega
      have HE : Hid (R = fmtS r r.rows.length) := Lib.hid (by
        rw [HR.out]
        unfold fmtR
        cases hv : r.valid
        · have h0 : r.rows.length = 0 := by
            rcases Nat.eq_zero_or_pos r.rows.length with h | h
            · exact h
            · have := HY.out (by omega); rw [hv] at this; cases this
          rw [h0]; rfl
        · rfl)
      go_wp2
      go_ret
      exact ⟨by rw [HE.out]; rfl, H.below⟩
end Go.Proofs.YtjoglffhdoneoaaGreatDoor

namespace Go.Proofs.YtjoglffhdoneoaaGreatDoor
open Go.RowKit

def onesE1 (m : Int) : Int := IntKind.u64.wrap (bits .and .u64 (m / 2) 6148914691236517205 + bits .and .u64 m 6148914691236517205)
def onesE2 (x : Int) : Int := IntKind.u64.wrap (bits .and .u64 (x / 4) 3689348814741910323 + bits .and .u64 x 3689348814741910323)
def onesE3 (x : Int) : Int := bits .and .u64 (IntKind.u64.wrap (x / 16 + x)) 1085102592571150095
def onesE4 (x : Int) : Int := IntKind.u64.wrap (x + x / 256)
def onesE5 (x : Int) : Int := IntKind.u64.wrap (x + x / 65536)
def onesE6 (x : Int) : Int := IntKind.u64.wrap (x + x / 4294967296)
def onesOf (m : Int) : Int := bits .and .i64 (wrap64 (onesE6 (onesE5 (onesE4 (onesE3 (onesE2 (onesE1 m))))))) 127
/-- how many of the bits below twelve are set -/
def popc (m : Nat) : Nat := ((List.range 12).filter fun i => m.testBit i).length
theorem onesOf_small : ∀ a, a < 64 → ∀ b, b < 64 → onesOf ((a * 64 + b : Nat) : Int) = (popc (a * 64 + b) : Int) := by decide +kernel
theorem onesOf_popc {m : Nat} (h : m < 4096) : onesOf (m : Int) = (popc m : Int) := by
  have := onesOf_small (m / 64) (by omega) (m % 64) (by omega)
  rwa [show m / 64 * 64 + m % 64 = m by omega] at this
theorem popc_le (m : Nat) : popc m ≤ 12 := by unfold popc; exact Nat.le_trans (List.length_filter_le _ _) (by simp)

end Go.Proofs.YtjoglffhdoneoaaGreatDoor

namespace Go.Proofs.YtjoglffhdoneoaaGreatDoor
open Go.RowKit

theorem filter_high {m w : Nat} (h : m < 2 ^ w) : ∀ d, ((List.range (w + d)).filter fun i => m.testBit i).length = ((List.range w).filter fun i => m.testBit i).length
  | 0 => rfl
  | d + 1 => by
    rw [← Nat.add_assoc, List.range_succ, List.filter_append, List.length_append, filter_high h d]
    have e : m.testBit (w + d) = false := Nat.testBit_lt_two_pow (Nat.lt_of_lt_of_le h (Nat.pow_le_pow_right (by decide) (by omega)))
    simp [e]
theorem rowTo_popc {r : Reg} (hv : r.Valid) {y : Nat} (hy : y < r.rows.length) : (r.rowTo y r.w.toNat).length = popc (r.row y) := by
  have h1 := Reg.row_lt hv y
  have hw := hv.2.1
  unfold Reg.rowTo popc
  rw [List.length_map]
  have h2 := filter_high h1 (12 - r.w.toNat)
  rw [show r.w.toNat + (12 - r.w.toNat) = 12 by omega] at h2
  rw [h2]
  congr 1
  refine List.filter_congr fun x hx => ?_
  rw [List.mem_range] at hx
  exact Reg.has_eq (by omega) hy
end Go.Proofs.YtjoglffhdoneoaaGreatDoor

namespace Go.Proofs.YtjoglffhdoneoaaGreatDoor
open Go.RowKit

def rowsB (r : Reg) (k : Nat) : List ByteArray := (List.range k).map fun y => rowS r y r.w.toNat
theorem rowsB_succ (r : Reg) (k : Nat) : rowsB r (k + 1) = rowsB r k ++ [rowS r k r.w.toNat] := by unfold rowsB; rw [List.range_succ, List.map_append]; rfl
theorem rowsB_len (r : Reg) (k : Nat) : (rowsB r k).length = k := by simp [rowsB]
theorem fmtS_join (r : Reg) : ∀ k, fmtS r k = joinB ⟨#[47]⟩ (rowsB r k)
  | 0 => rfl
  | k + 1 => by
    rw [rowsB_succ, fmtS]
    by_cases h : k = 0
    · subst h
      rw [if_pos rfl]
      show fmtS r 0 ++ _ = joinB _ ([] ++ [_])
      rw [List.nil_append, joinB_one, fmtS]
      apply ByteArray.ext; simp [ByteArray.data_append]
    · rw [if_neg h, joinB_snoc _ _ _ (fun e => h (by have := rowsB_len r k; rw [e] at this; simpa using this.symm)), fmtS_join r k]
set_option maxRecDepth 100000 in
set_option maxHeartbeats 1600000 in
theorem impl_fmtReg_c {v : Value} {r : Reg} (w : World) (h : RegRd w 0 w.heap.size v r) (hn : r.rows.length ≤ 1048576) :
    Calls Tryz.prog 63 #[v] w fun e w' => e = .returned (.string (fmtR r)) ∧ Below w.heap.size w w' := by
  obtain ⟨i0, hi, hz0, hz1, hz2⟩ := info_parts infoStr
  have HRD : Hid (∀ w1, Below w.heap.size w w1 → RegRd w1 0 w1.heap.size v r) := Lib.hid fun w1 b1 => (h.keep (SameIn.of_below b1 (Nat.le_refl _))).more (Nat.le_refl _) b1.size
  obtain ⟨s, rfl, hs⟩ := h
  obtain ⟨A, c, rfl, hm, hr⟩ := id hs
  have H0 := (Sep.start w).box 28 #[.int .i64 r.w, .slice A r.rows.length c]
  obtain ⟨bR, hbR⟩ : ∃ bR, bR = w.heap.size := ⟨_, rfl⟩
  rw [← hbR] at H0
  obtain ⟨R, hR⟩ : ∃ R, R = fmtR r := ⟨_, rfl⟩
  rw [← hR]
  have HR := Lib.hid hR
  clear hr hs hR
  go_enter Tryz.func63, Tryz.ntmps63
  go_upto_region 1 with fail
  rw [← hbR]
  generalize (w.alloc (.cells #[.int .i64 r.w, .slice A r.rows.length c] 28)) = W at *
  clear hbR
  have c0 : W.cell? ⟨bR, 0, none⟩ = some (.int .i64 r.w) := H0.h0.cell 0
  have c1 : W.cell? ⟨bR, 1, none⟩ = some (.slice A r.rows.length c) := H0.h0.cell 1
  have HI := Lib.hid (impl_IsRegion_c W (HRD.out W H0.below))
  go_wp2_with fail
  refine (HI.out).mono ?_
  rintro e w1 ⟨rfl, b1⟩
  have H1 := H0.step b1
  clear H0 HI b1 c0 c1
  cases hv : r.valid
  · obtain rfl : R = ⟨#[]⟩ := by rw [HR.out]; unfold fmtR; rw [hv]; rfl
    clear hv
    go_wp2
    go_ret
    exact ⟨rfl, H1.below⟩
  have HE : Hid (R = joinB ⟨#[47]⟩ (rowsB r r.rows.length)) := Lib.hid (by rw [HR.out, ← fmtS_join]; unfold fmtR; rw [hv]; rfl)
  have HV := Lib.hid (Reg.valid_iff.1 hv)
  clear hv
  have hv1 := HV.out.1
  have hv2 := HV.out.2.1
  have hv4 := HV.out.2.2.2.1
  obtain ⟨wn, hwn⟩ : ∃ wn : Nat, wn = r.w.toNat := ⟨_, rfl⟩
  have hwr : r.w = (wn : Int) := by omega
  have hw6 : wn ≤ 6 := by omega
  have HWN := Lib.hid hwn
  have HWR := Lib.hid hwr
  rw [hwr] at H1
  clear hwn hwr hv1 hv2
  have c0 : w1.cell? ⟨bR, 0, none⟩ = some (.int .i64 wn) := H1.h0.cell 0
  have c1 : w1.cell? ⟨bR, 1, none⟩ = some (.slice A r.rows.length c) := H1.h0.cell 1
  have H2 := H1.nil 9 1
  clear H1
  go_wp2
  clear c0 c1
  go_loopw [3, 13] (fun ov yv wx => ∃ y : Nat, y ≤ r.rows.length ∧ yv = .int .i64 y ∧ Sep w wx [Res.row ov 9 1 y (sc (rowsB r y)), Res.box bR 28 #[.int .i64 wn, .slice A r.rows.length c]]) (fun _ yv _ => r.rows.length - (intOf yv).toNat)
  case atStart => exact ⟨0, Nat.zero_le _, rfl, H2⟩
  case round =>
    clear H2
    obtain ⟨y, hy, rfl, H⟩ := hrel
    by_cases hlt : y < r.rows.length
    · have c0 : wr.cell? ⟨bR, 0, none⟩ = some (.int .i64 wn) := H.h1.cell 0
      obtain ⟨w2, hw2⟩ : ∃ w2 : World, w2 = wr := ⟨_, rfl⟩
      subst hw2
      go_wp2
      clear c0
      go_loopw [5, 18] (fun sv xv wx => ∃ k : Nat, k ≤ wn ∧ xv = .int .i64 k ∧ sv = .string (rowS r y k) ∧ Below w2.heap.size w2 wx) (fun _ xv _ => wn - (intOf xv).toNat)
      case atStart => exact ⟨0, Nat.zero_le _, rfl, rfl, Below.refl _ _⟩
      case round =>
        obtain ⟨k, hk, rfl, rfl, hbel⟩ := hrel
        have H3 := H.step hbel
        have hs1 : (rowS r y k).size = k := rowS_size k
        have hs2 : ¬ 9223372036854775807 < (rowS r y k).size + 1 := by omega
        have hs3 : ¬ (rowS r y k).size + 1 > 9223372036854775807 := by omega
        clear hs1
        by_cases hkl : k < wn
        · have c0 : wr.cell? ⟨bR, 0, none⟩ = some (.int .i64 wn) := H3.h1.cell 0
          have c1 : wr.cell? ⟨bR, 1, none⟩ = some (.slice A r.rows.length c) := H3.h1.cell 1
          have HI := Lib.hid (impl_has_c (r := r) k y wr (HRD.out wr H3.below) HV.out)
          rw [HWR.out] at HI
          go_wp2_with fail
          refine (HI.out).mono ?_
          rintro e w3 ⟨rfl, b3⟩
          have hb3 := hbel.trans (b3.mono hbel.size)
          clear H3 HI b3 c0 c1 hbel
          cases hh : r.has k y
          · have HC : Hid (rowS r y k ++ ⟨#[46]⟩ = rowS r y (k + 1)) := Lib.hid (by rw [rowS, hh]; rfl)
            clear hh
            go_wp2
            rw [HC.out]
            go_roundw
            case rel => exact ⟨k + 1, by omega, by go_num, rfl, hb3⟩
            case measure => simp [intOf]; omega
          · have HC : Hid (rowS r y k ++ ⟨#[35]⟩ = rowS r y (k + 1)) := Lib.hid (by rw [rowS, hh]; rfl)
            clear hh
            go_wp2
            rw [HC.out]
            go_roundw
            case rel => exact ⟨k + 1, by omega, by go_num, rfl, hb3⟩
            case measure => simp [intOf]; omega
        · obtain rfl : k = wn := by omega
          have HRW : Hid (rowsB r (y + 1) = rowsB r y ++ [rowS r y k]) := Lib.hid (by rw [rowsB_succ, ← HWN.out])
          clear hs2 hs3 hbel
          generalize rowS r y k = T at *
          go_wp2_with (at_builtin; refine wpList_app rfl _ _ 81 rfl 9 i0 _ 1 16 Tryz.underlying81 hi hz0 hz1 hz2 rfl (by decide) _ _ _ rfl (H3.alloc _) _ _ _ [.string T] rfl (Rd.fresh wr _ #[.string T] 1 1 rfl) ocs (by unfold maxLen; omega) (by omega) ?_; intro v5 w5 H5; clear H3)
          have H6 : Sep w w5 [Res.row v5 9 1 (y + 1) (sc (rowsB r (y + 1))), Res.box bR 28 #[.int .i64 k, .slice A r.rows.length c]] := by rw [HRW.out, sc_append]; exact H5
          clear H5
          go_roundw
          case rel => exact ⟨y + 1, by omega, by go_num, H6⟩
          case measure => simp [intOf]; omega
    · obtain rfl : y = r.rows.length := by omega
      have HJ := Lib.hid (join_own (b := 6) ⟨#[47]⟩ H (rowsB_len r _).symm (fun x hx => by
        obtain ⟨j, _, rfl⟩ := List.mem_map.1 hx
        rw [rowS_size]; have := HWN.out; omega) (by rw [rowsB_len]; exact hn) (by decide))
      obtain ⟨A5, c5, rfl, _, _, _⟩ := Res.row_at H.h0
      have hb := H.below
      clear H
      go_wp2_with fail
      refine (HJ.out).mono ?_
      rintro e w6 ⟨rfl, b6⟩
      go_wp2
      go_ret
      exact ⟨by rw [HE.out]; rfl, hb.trans (b6.mono hb.size)⟩
end Go.Proofs.YtjoglffhdoneoaaGreatDoor
