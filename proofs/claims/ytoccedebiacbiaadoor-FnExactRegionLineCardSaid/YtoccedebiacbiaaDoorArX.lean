
/-
  A region's area: both walks; the library's count of ones, at small numbers.
-/
import Derived.Test.YtoccedebiacbiaaDoorCellX
import Derived.Deep.DeepCutAuto
import Derived.Test.YtoccedebiacbiaaDoorProg
import Derived.Test.YtoccedebiacbiaaDoorCommon
namespace Go.Proofs.YtoccedebiacbiaaDoor
open Go.RowKit

def areaR (r : Reg) : Int := if r.valid then (r.cells.length : Int) else -1
set_option maxRecDepth 100000 in
set_option maxHeartbeats 1600000 in
theorem spec_area_c {v : Value} {r : Reg} (w : World) (h : RegRd w 0 w.heap.size v r) (hn : r.rows.length ≤ 1048576) :
    Calls Tryd.prog 13 #[v] w fun e w' => e = .returned (.int .i64 (areaR r)) ∧ Below w.heap.size w w' := by
  have HRD : Hid (∀ w1, Below w.heap.size w w1 → RegRd w1 0 w1.heap.size v r) := Lib.hid fun w1 b1 => (h.keep (SameIn.of_below b1 (Nat.le_refl _))).more (Nat.le_refl _) b1.size
  obtain ⟨s, rfl, hs⟩ := h
  obtain ⟨A, c, rfl, hm, hr⟩ := id hs
  have H0 := (Sep.start w).box 27 #[.int .i64 r.w, .slice A r.rows.length c]
  obtain ⟨bR, hbR⟩ : ∃ bR, bR = w.heap.size := ⟨_, rfl⟩
  rw [← hbR] at H0
  obtain ⟨R, hR⟩ : ∃ R, R = areaR r := ⟨_, rfl⟩
  rw [← hR]
  have HR := Lib.hid hR
  clear hr hs hR
  go_enter Tryd.func13, Tryd.ntmps13
  go_upto_region 1 with fail
  rw [← hbR]
  generalize (w.alloc (.cells #[.int .i64 r.w, .slice A r.rows.length c] 27)) = W at *
  clear hbR
  have c0 : W.cell? ⟨bR, 0, none⟩ = some (.int .i64 r.w) := H0.h0.cell 0
  have c1 : W.cell? ⟨bR, 1, none⟩ = some (.slice A r.rows.length c) := H0.h0.cell 1
  have HI := Lib.hid (spec_IsRegion_c W (HRD.out W H0.below))
  go_wp2_with fail
  refine (HI.out).mono ?_
  rintro e w1 ⟨rfl, b1⟩
  have H1 := H0.step b1
  clear H0 HI b1 c0 c1
  cases hv : r.valid
  · obtain rfl : R = -1 := by rw [HR.out]; unfold areaR; rw [hv]; rfl
    clear hv
    go_wp2
    go_ret
    exact ⟨rfl, H1.below⟩
  · have HE : Hid (R = (r.cells.length : Int)) := Lib.hid (by rw [HR.out]; unfold areaR; rw [hv]; rfl)
    have c0 : w1.cell? ⟨bR, 0, none⟩ = some (.int .i64 r.w) := H1.h0.cell 0
    have c1 : w1.cell? ⟨bR, 1, none⟩ = some (.slice A r.rows.length c) := H1.h0.cell 1
    have HC := Lib.hid (spec_cells_c w1 (HRD.out w1 H1.below) hn)
    rw [hv] at HC
    clear hv
    go_wp2_with fail
    refine (HC.out).mono ?_
    rintro e w2 ⟨v2, rfl, o2, b2⟩
    have H2 := H1.step b2
    simp only [if_true] at o2
    obtain ⟨A2, c2, rfl, _, _⟩ := o2.rd
    clear c0 c1 HC H1 b2 o2
    go_wp2
    go_ret
    exact ⟨by rw [HE.out]; rfl, H2.below⟩
end Go.Proofs.YtoccedebiacbiaaDoor

namespace Go.Proofs.YtoccedebiacbiaaDoor
open Go.RowKit

def onesE1 (m : Int) : Int := IntKind.u64.wrap (bits .and .u64 (m / 2) 6148914691236517205 + bits .and .u64 m 6148914691236517205)
def onesE2 (x : Int) : Int := IntKind.u64.wrap (bits .and .u64 (x / 4) 3689348814741910323 + bits .and .u64 x 3689348814741910323)
def onesE3 (x : Int) : Int := bits .and .u64 (IntKind.u64.wrap (x / 16 + x)) 1085102592571150095
def onesE4 (x : Int) : Int := IntKind.u64.wrap (x + x / 256)
def onesE5 (x : Int) : Int := IntKind.u64.wrap (x + x / 65536)
def onesE6 (x : Int) : Int := IntKind.u64.wrap (x + x / 4294967296)
def onesOf (m : Int) : Int := bits .and .i64 (wrap64 (onesE6 (onesE5 (onesE4 (onesE3 (onesE2 (onesE1 m))))))) 127
/-- how many of the bits below twelve are set -/
def popc (m : Nat) : Nat := ((List.range 12).filter fun i => m.testBit i).length
theorem onesOf_small : ∀ a, a < 64 → ∀ b, b < 64 → onesOf ((a * 64 + b : Nat) : Int) = (popc (a * 64 + b) : Int) := by decide +kernel
theorem onesOf_popc {m : Nat} (h : m < 4096) : onesOf (m : Int) = (popc m : Int) := by
  have := onesOf_small (m / 64) (by omega) (m % 64) (by omega)
  rwa [show m / 64 * 64 + m % 64 = m by omega] at this
theorem popc_le (m : Nat) : popc m ≤ 12 := by unfold popc; exact Nat.le_trans (List.length_filter_le _ _) (by simp)

set_option maxRecDepth 100000 in
set_option maxHeartbeats 800000 in
theorem ones64_c (m : Nat) (w : World) (h : m < 4096) :
    Calls Tryd.prog 65 #[.int .u64 (m : Int)] w fun e w' => e = .returned (.int .i64 (popc m : Int)) ∧ w = w' := by
  rw [← onesOf_popc h]
  go_enter Tryd.func65, Tryd.ntmps65
  go_wp2
  go_ret
  exact ⟨rfl, rfl⟩
set_option maxRecDepth 100000 in
set_option maxHeartbeats 800000 in
theorem ones_c (m : Nat) (w : World) (h : m < 4096) :
    Calls Tryd.prog 48 #[.int .u64 (m : Int)] w fun e w' => e = .returned (.int .i64 (popc m : Int)) ∧ w = w' := by
  go_enter Tryd.func48, Tryd.ntmps48
  go_wp2_with fail
  refine (ones64_c m _ h).mono ?_
  rintro e w' ⟨rfl, rfl⟩
  go_wp2
  go_ret
  exact ⟨rfl, rfl⟩
end Go.Proofs.YtoccedebiacbiaaDoor

namespace Go.Proofs.YtoccedebiacbiaaDoor
open Go.RowKit

theorem filter_high {m w : Nat} (h : m < 2 ^ w) : ∀ d, ((List.range (w + d)).filter fun i => m.testBit i).length = ((List.range w).filter fun i => m.testBit i).length
  | 0 => rfl
  | d + 1 => by
    rw [← Nat.add_assoc, List.range_succ, List.filter_append, List.length_append, filter_high h d]
    have e : m.testBit (w + d) = false := Nat.testBit_lt_two_pow (Nat.lt_of_lt_of_le h (Nat.pow_le_pow_right (by decide) (by omega)))
    simp [e]
theorem rowTo_popc {r : Reg} (hv : r.Valid) {y : Nat} (hy : y < r.rows.length) : (r.rowTo y r.w.toNat).length = popc (r.row y) := by
  have h1 := Reg.row_lt hv y
  have hw := hv.2.1
  unfold Reg.rowTo popc
  rw [List.length_map]
  have h2 := filter_high h1 (12 - r.w.toNat)
  rw [show r.w.toNat + (12 - r.w.toNat) = 12 by omega] at h2
  rw [h2]
  congr 1
  refine List.filter_congr fun x hx => ?_
  rw [List.mem_range] at hx
  exact Reg.has_eq (by omega) hy
set_option maxRecDepth 100000 in
set_option maxHeartbeats 1600000 in
theorem impl_area_c {v : Value} {r : Reg} (w : World) (h : RegRd w 0 w.heap.size v r) (hn : r.rows.length ≤ 1048576) :
    Calls Tryd.prog 25 #[v] w fun e w' => e = .returned (.int .i64 (areaR r)) ∧ Below w.heap.size w w' := by
  have HRD : Hid (∀ w1, Below w.heap.size w w1 → RegRd w1 0 w1.heap.size v r) := Lib.hid fun w1 b1 => (h.keep (SameIn.of_below b1 (Nat.le_refl _))).more (Nat.le_refl _) b1.size
  obtain ⟨s, rfl, hs⟩ := h
  obtain ⟨A, c, rfl, hm, hr⟩ := id hs
  have HRR := Lib.hid hr
  have H0 := (Sep.start w).box 27 #[.int .i64 r.w, .slice A r.rows.length c]
  obtain ⟨bR, hbR⟩ : ∃ bR, bR = w.heap.size := ⟨_, rfl⟩
  rw [← hbR] at H0
  obtain ⟨R, hR⟩ : ∃ R, R = areaR r := ⟨_, rfl⟩
  rw [← hR]
  have HR := Lib.hid hR
  clear hr hs hR
  go_enter Tryd.func25, Tryd.ntmps25
  go_upto_region 1 with fail
  rw [← hbR]
  generalize (w.alloc (.cells #[.int .i64 r.w, .slice A r.rows.length c] 27)) = W at *
  clear hbR
  have c0 : W.cell? ⟨bR, 0, none⟩ = some (.int .i64 r.w) := H0.h0.cell 0
  have c1 : W.cell? ⟨bR, 1, none⟩ = some (.slice A r.rows.length c) := H0.h0.cell 1
  have HI := Lib.hid (impl_IsRegion_c W (HRD.out W H0.below))
  go_wp2_with fail
  refine (HI.out).mono ?_
  rintro e w1 ⟨rfl, b1⟩
  have H1 := H0.step b1
  clear H0 HI b1 c0 c1
  cases hv : r.valid
  · obtain rfl : R = -1 := by rw [HR.out]; unfold areaR; rw [hv]; rfl
    clear hv
    go_wp2
    go_ret
    exact ⟨rfl, H1.below⟩
  have HE : Hid (R = (r.cells.length : Int)) := Lib.hid (by rw [HR.out]; unfold areaR; rw [hv]; rfl)
  have HV := Lib.hid (Reg.valid_iff.1 hv)
  clear hv
  have hpos := HV.out.2.2.1
  have hv4 := HV.out.2.2.2.1
  obtain ⟨b, off, hA, _, hb, hc⟩ := HRR.out.2 (by omega)
  subst hA
  have HC2 : Hid (∀ (j : Nat) (n : Int), r.rows[j]? = some n → w.cell? ⟨b, off + j, none⟩ = some (.int .i64 n)) := Lib.hid fun j n hj => hc j _ (by simp [ic, hj])
  have c1 : w1.cell? ⟨bR, 1, none⟩ = some (.slice (some ⟨b, off, none⟩) r.rows.length c) := H1.h0.cell 1
  have H2 := H1.below
  clear hc H1
  go_wp2
  clear c1
  go_loopw [3, 12] (fun sv yv wx => ∃ y : Nat, y ≤ r.rows.length ∧ yv = .int .i64 y ∧ sv = .int .i64 ((r.cellsTo y).length : Nat) ∧ Below w.heap.size w wx) (fun _ yv _ => r.rows.length - (intOf yv).toNat)
  case atStart => exact ⟨0, Nat.zero_le _, rfl, rfl, H2⟩
  case round =>
    obtain ⟨y, hy, rfl, rfl, hbel⟩ := hrel
    have hcl := Reg.cellsTo_le (r := r) (k := y)
    have hle : (r.cellsTo y).length ≤ 36 := by
      have h2 : y * r.w.toNat ≤ 6 * 6 := Nat.mul_le_mul (by omega) (by have := HV.out.2.1; omega)
      omega
    clear hcl
    by_cases hlt : y < r.rows.length
    · obtain ⟨a, ha⟩ : ∃ a, r.rows[y]? = some a := ⟨r.rows[y], List.getElem?_eq_getElem hlt⟩
      have hro := Reg.row_of HV.out ha
      have h64 := Reg.two_pow_le HV.out
      have x1 : wr.cell? ⟨b, off + y, none⟩ = some (.int .i64 a) := (hbel.cell (p := ⟨b, off + y, none⟩) hb).trans (HC2.out y a ha)
      have HS : Hid ((r.cellsTo y).length + popc (r.row y) = (r.cellsTo (y + 1)).length) := Lib.hid (by rw [Reg.cellsTo_succ, List.length_append, rowTo_popc HV.out hlt])
      have hpl := popc_le (r.row y)
      have HO := Lib.hid (ones_c (r.row y) wr (by omega))
      rw [hro.1] at x1
      obtain ⟨m, hm1⟩ : ∃ m, m = r.row y := ⟨_, rfl⟩
      have hm64 : m < 64 := by omega
      rw [← hm1] at x1 HO HS hpl
      have hw : IntKind.u64.wrap (m : Int) = (m : Int) := by rw [IntKind.wrap_u64]; omega
      obtain ⟨q, hq⟩ : ∃ q, q = popc m := ⟨_, rfl⟩
      rw [← hq] at HO HS hpl
      obtain ⟨z, hz⟩ : ∃ z, z = (r.cellsTo y).length := ⟨_, rfl⟩
      rw [← hz] at HS hle ⊢
      clear ha hro h64 hm1 hq hz
      go_wp2_with fail
      refine (HO.out).mono ?_
      rintro e w' ⟨rfl, rfl⟩
      go_wp2
      go_roundw
      case rel => exact ⟨y + 1, by omega, by go_num, by rw [← HS.out]; go_num, hbel⟩
      case measure => simp [intOf]; omega
    · obtain rfl : y = r.rows.length := by omega
      go_wp2
      go_ret
      exact ⟨by rw [HE.out]; rfl, hbel⟩
end Go.Proofs.YtoccedebiacbiaaDoor
