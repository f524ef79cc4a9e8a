
/-
  A mask's lowest bit: the program's walk, under the library's table, and the reference's. When is a list of masks a division? No program in sight. A row's list of package variables gives the library's table.
-/
import Derived.Test.YtjkppigjajknaaaGreatDoorMskX
import Derived.Test.YtjkppigjajknaaaGreatDoorDomS
import Derived.Lib.TrailingZeros
import Derived.Lib.SmallJoins
import Derived.Lib.LaidTab
import Derived.Laws.Bits64b
import Derived.Stop.LaidErr
import Derived.Test.YtjkppigjajknaaaGreatDoorOriX
namespace Go.Proofs.YtjkppigjajknaaaGreatDoor
open Go.RowKit

def tab64L : List Int := [0, 1, 56, 2, 57, 49, 28, 3, 61, 58, 42, 50, 38, 29, 17, 4, 62, 47, 59, 36, 45, 43, 51, 22, 53, 39, 33, 30, 24, 18, 12, 5, 63, 55, 48, 27, 60, 41, 37, 16, 46, 35, 44, 21, 52, 32, 23, 11, 54, 26, 40, 15, 34, 20, 31, 10, 25, 14, 19, 9, 13, 8, 7, 6]
/-- the library's table, as its initialiser lays it -/
def Tab64 (w : World) : Prop := Lib.TabIs Tryz.prog w "math/bits.deBruijn64tab" .u8 tab64L
set_option maxRecDepth 100000 in
theorem tab64_on {w w' : World} (ht : Tab64 w) (hb : Below w.heap.size w w') : Tab64 w' := by
  have hs : (Tryz.prog.globalNamed "math/bits.deBruijn64tab").isSome = true := by kernel_rfl
  obtain ⟨g, hg⟩ := Option.isSome_iff_exists.1 hs
  exact Go.Joins.tab_stays hg ht hb (Nat.le_refl _)
set_option maxRecDepth 100000 in
theorem tab64_at {w : World} (ht : Tab64 w) {j : Nat} (hj : j < 64) : w.cell? ⟨1, j, none⟩ = some (.int .u8 (tab64L.getD j 0)) := by
  have hs : Tryz.prog.globalNamed "math/bits.deBruijn64tab" = some 1 := by kernel_rfl
  exact Lib.TabIs.cell ht hs j hj
theorem tab64_low : ∀ k : Nat, k < 64 → tab64L.getD (2 ^ k * 285870213051353865 % 18446744073709551616 / 288230376151711744) 0 = (k : Int) := by decide +kernel
theorem low_key (x a : Nat) (hx : x < 18446744073709551616) (hx0 : x ≠ 0) (hlow : x &&& (18446744073709551616 - x) = a) :
    IntKind.u64.wrap (bits BinOp.and IntKind.u64 (x : Int) (IntKind.u64.wrap (-(x : Int))) * 285870213051353865) / 288230376151711744 = ((a * 285870213051353865 % 18446744073709551616 / 288230376151711744 : Nat) : Int) := by
  have e1 : IntKind.u64.wrap (-(x : Int)) = ((18446744073709551616 - x : Nat) : Int) := by rw [IntKind.wrap_u64]; omega
  rw [e1, bits_and_u64_nat x _ hx (by omega), hlow, IntKind.wrap_u64]
  omega
/-- the lowest bit; that of none is nought -/
def lowB (m : Nat) : Nat := if m = 0 then 0 else Lib.ctz 64 m
theorem lowB_lt {m : Nat} (hm : m < 2 ^ 36) : lowB m < 64 := by
  unfold lowB
  split
  · decide
  · rename_i h
    exact (Lib.lowest_bit 64 m h (by omega)).2
theorem lowB_bits {m : Nat} (h0 : m ≠ 0) (hm : m < 2 ^ 36) : m.testBit (lowB m) = true ∧ ∀ j < lowB m, m.testBit j = false := by
  unfold lowB
  rw [if_neg h0]
  have e : Lib.ctz 64 m = Lib.ctzFrom 64 m := by simp [Lib.ctz, h0]
  rw [e]
  obtain ⟨q, hq, _⟩ := Lib.ctzFrom_spec 64 m (by omega) (by omega)
  generalize Lib.ctzFrom 64 m = k at *
  subst hq
  rw [Nat.mul_comm]
  constructor
  · rw [Nat.testBit_mul_two_pow]
    simp [Nat.testBit_zero]
  · intro j hj
    rw [Nat.testBit_mul_two_pow]
    simp
    omega
theorem lowB_is {m k : Nat} (h0 : m ≠ 0) (hm : m < 2 ^ 36) (h1 : m.testBit k = true) (h2 : ∀ j < k, m.testBit j = false) : lowB m = k := by
  obtain ⟨h3, h4⟩ := lowB_bits h0 hm
  rcases Nat.lt_trichotomy (lowB m) k with h | h | h
  · rw [h2 _ h] at h3; cases h3
  · exact h
  · rw [h4 _ h] at h1; cases h1
set_option maxRecDepth 100000 in
set_option maxHeartbeats 1600000 in
theorem tz64_core {m k idx : Nat} (w : World) (hz : ((m : Int) == 0) = false)
    (key : IntKind.u64.wrap (bits BinOp.and IntKind.u64 (m : Int) (IntKind.u64.wrap (-(m : Int))) * 285870213051353865) / 288230376151711744 = (idx : Int))
    (hix : idx < 64) (hk : k < 64) (hcell : w.cell? ⟨1, idx, none⟩ = some (.int .u8 k)) :
    Calls Tryz.prog 174 #[.int .u64 m] w fun e w' => e = .returned (.int .i64 k) ∧ w = w' := by
  have hi2 : (idx : Int) < 64 := by omega
  go_enter Tryz.func174, Tryz.ntmps174
  go_wp2_with (simp only [key])
  go_ret
  exact ⟨rfl, rfl⟩
set_option maxRecDepth 100000 in
theorem tz64_c {m : Nat} (w : World) (h0 : m ≠ 0) (hm : m < 2 ^ 36) (ht : Tab64 w) :
    Calls Tryz.prog 174 #[.int .u64 m] w fun e w' => e = .returned (.int .i64 (lowB m)) ∧ w = w' := by
  obtain ⟨hlow, hk⟩ := Lib.lowest_bit 64 m h0 (by omega)
  have hl : lowB m = Lib.ctz 64 m := by unfold lowB; rw [if_neg h0]
  have hix := (Lib.deBruijn64_at _ hk).1
  have hcell := tab64_at ht hix
  rw [tab64_low _ hk] at hcell
  rw [hl]
  exact tz64_core w (by simp; omega) (low_key m _ (by omega) h0 hlow) hix hk hcell
set_option maxRecDepth 100000 in
set_option maxHeartbeats 1600000 in
theorem tz_c {m : Nat} (w : World) (h0 : m ≠ 0) (hm : m < 2 ^ 36) (ht : Tab64 w) :
    Calls Tryz.prog 139 #[.int .u64 m] w fun e w' => e = .returned (.int .i64 (lowB m)) ∧ w = w' := by
  have HT := Lib.hid (tz64_c w h0 hm ht)
  have hw : IntKind.u64.wrap (m : Int) = (m : Int) := by rw [IntKind.wrap_u64]; omega
  clear ht h0
  go_enter Tryz.func139, Tryz.ntmps139
  go_wp2_with fail
  refine (HT.out).mono ?_
  rintro e w1 ⟨rfl, rfl⟩
  go_wp2
  go_ret
  exact ⟨rfl, rfl⟩
set_option maxRecDepth 100000 in
set_option maxHeartbeats 1600000 in
theorem impl_low_c {m : Nat} (w : World) (hm : m < 2 ^ 36) (ht : Tab64 w) :
    Calls Tryz.prog 180 #[.int .i64 m] w fun e w' => e = .returned (.int .i64 (lowB m)) ∧ w = w' := by
  have hw : IntKind.u64.wrap (m : Int) = (m : Int) := by rw [IntKind.wrap_u64]; omega
  by_cases h0 : m = 0
  · subst h0
    clear ht hw
    go_enter Tryz.func180, Tryz.ntmps180
    go_wp2
    go_ret
    exact ⟨rfl, rfl⟩
  · have HT := Lib.hid (tz_c w h0 hm ht)
    have hz : ((m : Int) == 0) = false := by simp; omega
    clear ht h0
    go_enter Tryz.func180, Tryz.ntmps180
    go_wp2_with fail
    refine (HT.out).mono ?_
    rintro e w1 ⟨rfl, rfl⟩
    go_wp2
    go_ret
    exact ⟨rfl, rfl⟩
set_option maxRecDepth 100000 in
set_option maxHeartbeats 1600000 in
theorem spec_low_c {m : Nat} (w : World) (h0 : m ≠ 0) (hm : m < 2 ^ 36) :
    Calls Tryz.prog 126 #[.int .i64 m] w fun e w' => e = .returned (.int .i64 (lowB m)) ∧ w = w' := by
  have hd : 0 < m := by omega
  have HM := Lib.hid hm
  have H0 := Lib.hid h0
  have hl := lowB_lt hm
  clear hm h0
  go_enter Tryz.func126, Tryz.ntmps126
  go_wp2
  go_loopw [3] (fun kv wx => ∃ k : Nat, k ≤ lowB m ∧ kv = .int .i64 k ∧ w = wx) (fun kv _ => lowB m - (intOf kv).toNat)
  case atStart => exact ⟨0, Nat.zero_le _, rfl, rfl⟩
  case round =>
    obtain ⟨k, hk, rfl, rfl⟩ := hrel
    have hbit := bit_test0 (m := m) (x := k) (by have := HM.out; omega)
    by_cases e : k = lowB m
    · rw [e, (lowB_bits H0.out HM.out).1] at hbit
      subst e
      go_wp2
      go_ret
      exact ⟨rfl, rfl⟩
    · rw [(lowB_bits H0.out HM.out).2 k (by omega)] at hbit
      go_wp2
      go_roundw
      case rel => exact ⟨k + 1, by omega, by go_num, trivial⟩
      case measure => simp [intOf]; omega
end Go.Proofs.YtjkppigjajknaaaGreatDoor

namespace Go.Proofs.YtjkppigjajknaaaGreatDoor
open Go.RowKit

/-- the cells of the first k masks -/
def usedTo (t : List Int) : Nat → Nat
  | 0 => 0
  | k + 1 => usedTo t k ||| (t.getD k 0).toNat
noncomputable def okDiv (r : Reg) (t : List Int) (i : Nat) : Bool := match t[i]? with
  | none => true
  | some n => r.isMask n && (usedTo t i &&& n.toNat == 0) && connS (r.cellsOf n) && congr (r.cellsOf n) (r.cellsOf (t.getD 0 0)) && (decide (i = 0) || decide (lowB (t.getD (i - 1) 0).toNat < lowB n.toNat))
noncomputable def isDiv (r : Reg) (t : List Int) : Bool := r.valid && !t.isEmpty && (List.range t.length).all (okDiv r t) && (usedTo t t.length == r.mask)
theorem connS_nil : connS [] = false := by unfold connS; rw [hangs_nil, Bool.and_false]
theorem connS_mask {r : Reg} {n : Int} (h : connS (r.cellsOf n) = true) : r.isMask n = true := by
  cases hm : r.isMask n
  · unfold Reg.cellsOf at h
    rw [hm] at h
    simp [connS_nil] at h
  · rfl
theorem connS_shape {s : List Cell} (h : connS s = true) : isShape s = true := by
  unfold connS at h
  rw [Bool.and_eq_true] at h
  exact h.1
theorem same_refl' {α : Type} (a : α) : same a a = true := same_t rfl
theorem congr_self {s : List Cell} (h : isShape s = true) : congr s s = true := by
  unfold congr
  rw [h, same_refl']; rfl
theorem congr_comm (a b : List Cell) : congr a b = congr b a := by
  unfold congr
  rw [Bool.and_comm (isShape a)]
  by_cases h : canonS a = canonS b
  · rw [same_t h, same_t h.symm]
  · rw [same_f h, same_f fun e => h e.symm]
theorem okDiv_at {r : Reg} {t : List Int} {i : Nat} {n : Int} (h : t[i]? = some n) : okDiv r t i = (r.isMask n && (usedTo t i &&& n.toNat == 0) && connS (r.cellsOf n) && congr (r.cellsOf n) (r.cellsOf (t.getD 0 0)) && (decide (i = 0) || decide (lowB (t.getD (i - 1) 0).toNat < lowB n.toNat))) := by
  unfold okDiv; rw [h]
theorem isDiv_no {r : Reg} {t : List Int} {i : Nat} (hi : i < t.length) (h : okDiv r t i = false) : isDiv r t = false := by
  unfold isDiv
  have : (List.range t.length).all (okDiv r t) = false := by
    rw [Bool.eq_false_iff]
    intro ha
    rw [List.all_eq_true] at ha
    have := ha i (List.mem_range.2 hi)
    rw [h] at this; cases this
  rw [this, Bool.and_false, Bool.false_and]
theorem isDiv_end {r : Reg} {t : List Int} (hv : r.valid = true) (h0 : 0 < t.length) (h : ∀ i < t.length, okDiv r t i = true) : isDiv r t = (usedTo t t.length == r.mask) := by
  unfold isDiv
  have h1 : (List.range t.length).all (okDiv r t) = true := List.all_eq_true.2 fun i hi => h i (List.mem_range.1 hi)
  have h2 : t.isEmpty = false := by cases t with
    | nil => simp at h0
    | cons _ _ => rfl
  rw [h1, hv, h2]; rfl
theorem mask_lt36 {r : Reg} {n : Int} (h : r.isMask n = true) (hv : r.Valid) : n.toNat < 2 ^ 36 := by
  have h1 := (isMask_lt h hv).1
  obtain ⟨_, h3, _, h5, _⟩ := hv
  have h6 : r.w.toNat * r.rows.length ≤ 6 * 6 := Nat.mul_le_mul (by omega) h5
  exact Nat.lt_of_lt_of_le h1 (Nat.pow_le_pow_right (by decide) (by omega))
theorem usedTo_succ {t : List Int} {k : Nat} {n : Int} (h : t[k]? = some n) : usedTo t (k + 1) = usedTo t k ||| n.toNat := by
  rw [usedTo]
  simp [List.getD, h]
theorem okDiv_mask {r : Reg} {t : List Int} {i : Nat} {n : Int} (h : okDiv r t i = true) (hn : t[i]? = some n) : r.isMask n = true ∧ connS (r.cellsOf n) = true := by
  rw [okDiv_at hn] at h
  simp only [Bool.and_eq_true] at h
  exact ⟨h.1.1.1.1, h.1.1.2⟩
theorem usedTo_lt {r : Reg} {t : List Int} (hv : r.Valid) : ∀ k, k ≤ t.length → (∀ i < k, okDiv r t i = true) → usedTo t k < 2 ^ 36
  | 0, _, _ => Nat.pow_pos (by decide)
  | k + 1, hk, h => by
    obtain ⟨n, hn⟩ : ∃ n, t[k]? = some n := ⟨t[k]'(by omega), List.getElem?_eq_getElem _⟩
    rw [usedTo_succ hn]
    exact Nat.or_lt_two_pow (usedTo_lt hv k (by omega) fun i hi => h i (by omega)) (mask_lt36 (okDiv_mask (h k (by omega)) hn).1 hv)
theorem cellsTo_zero {w : Nat} : ∀ k, cellsTo w 0 k = []
  | 0 => rfl
  | k + 1 => by rw [cellsTo_f (by simp), cellsTo_zero k]
theorem conn_pos {r : Reg} {n : Int} (h : connS (r.cellsOf n) = true) : n.toNat ≠ 0 := by
  intro e
  unfold Reg.cellsOf cellsM at h
  rw [e, cellsTo_zero] at h
  split at h <;> rw [connS_nil] at h <;> cases h
/-- masks apart have lowest bits apart -/
theorem low_ne {r : Reg} {t : List Int} {i : Nat} {n p : Int} (hv : r.Valid) (hp : t[i]? = some p) (hpm : r.isMask p = true) (hp0 : p.toNat ≠ 0) (hm : r.isMask n = true) (h0 : n.toNat ≠ 0) (hd : usedTo t (i + 1) &&& n.toNat = 0) : lowB p.toNat ≠ lowB n.toNat := by
  intro e
  have h1 := (lowB_bits hp0 (mask_lt36 hpm hv)).1
  have h2 := (lowB_bits h0 (mask_lt36 hm hv)).1
  rw [usedTo_succ hp] at hd
  have h3 : ((usedTo t i ||| p.toNat) &&& n.toNat).testBit (lowB n.toNat) = true := by
    rw [Nat.testBit_and, Nat.testBit_or, h2, ← e, h1]; simp
  rw [hd] at h3
  simp at h3
theorem div_and {r : Reg} {u : Nat} {n : Int} (hu : u < 2 ^ 36) (hm : r.isMask n = true) (hv : r.Valid) : (bits .and .i64 (u : Int) n == 0) = (u &&& n.toNat == 0) := by
  have h1 := mask_lt36 hm hv
  have h2 := (isMask_lt hm hv).2
  obtain ⟨m, rfl⟩ := Int.eq_ofNat_of_zero_le h2
  rw [i64_and_nat u m (by omega) (by simp at h1; omega), Bool.eq_iff_iff]
  simp only [beq_iff_eq, Int.toNat_natCast]
  omega
end Go.Proofs.YtjkppigjajknaaaGreatDoor

namespace Go.Proofs.YtjkppigjajknaaaGreatDoor
open Go.RowKit

set_option maxRecDepth 100000 in
/-- a row's list gives the table -/
theorem tab64_laid {x : String × DataW Unit} {W : World} (h : laidMet Tryz.prog [x, ("math/bits.deBruijn64tab", Lib.tabData .u8 tab64L)] W) : Tab64 W := by
  have hs : ((Tryz.prog.globalNamed "math/bits.deBruijn64tab").bind fun g => (Tryz.prog.globals[g]?).map (·.type)) = some 175 := by kernel_rfl
  obtain ⟨g, hg, hty⟩ := Option.bind_eq_some_iff.1 hs
  exact Lib.tabIs_of_head hg hty Tryz.underlying175 Tryz.underlying5 (by kernel_rfl) (by kernel_rfl) h.tail
end Go.Proofs.YtjkppigjajknaaaGreatDoor
