
/-
  A claim's text: what it is; small walks. FormatClaim: the reference's walk.
-/
import Derived.Test.YtjoglffhdoneoaaGreatDoorFshX
import Derived.Test.YtjoglffhdoneoaaGreatDoorTlfX
import Derived.Test.YtjoglffhdoneoaaGreatDoorDigX
import Derived.Test.YtjoglffhdoneoaaGreatDoorWangX
import Derived.Test.YtjoglffhdoneoaaGreatDoorAllX
import Derived.Test.YtjoglffhdoneoaaGreatDoorEqC
import Derived.Test.YtjoglffhdoneoaaGreatDoorLawClmX
namespace Go.Proofs.YtjoglffhdoneoaaGreatDoor
open Go.RowKit

def prm (p : Int) : Bool := p == 2 || p == 3 || p == 5
set_option maxRecDepth 100000 in
set_option maxHeartbeats 400000 in
theorem spec_prime_c (p : Int) (w : World) : Calls Tryz.prog 51 #[.int .i64 p] w fun e w' => e = .returned (.bool (prm p)) ∧ w = w' := by
  by_cases h2 : p = 2
  · subst h2
    go_enter Tryz.func51, Tryz.ntmps51
    go_wp2
    go_ret
    exact ⟨rfl, rfl⟩
  · have e2 : (p == 2) = false := by simpa using h2
    by_cases h3 : p = 3
    · subst h3
      go_enter Tryz.func51, Tryz.ntmps51
      go_wp2
      go_ret
      exact ⟨rfl, rfl⟩
    · have e3 : (p == 3) = false := by simpa using h3
      have HP : Hid (prm p = (p == 5)) := Lib.hid (by unfold prm; rw [e2, e3]; rfl)
      obtain ⟨R, hR⟩ : ∃ R, R = prm p := ⟨_, rfl⟩
      rw [← hR] at HP ⊢
      clear hR
      go_enter Tryz.func51, Tryz.ntmps51
      go_wp2
      go_ret
      exact ⟨by rw [HP.out]; rfl, rfl⟩
set_option maxRecDepth 100000 in
set_option maxHeartbeats 400000 in
theorem impl_prime_c (p : Int) (w : World) : Calls Tryz.prog 64 #[.int .i64 p] w fun e w' => e = .returned (.bool (prm p)) ∧ w = w' := by
  by_cases h2 : p = 2
  · subst h2
    go_enter Tryz.func64, Tryz.ntmps64
    go_wp2
    go_ret
    exact ⟨rfl, rfl⟩
  · have e2 : (p == 2) = false := by simpa using h2
    by_cases h3 : p = 3
    · subst h3
      go_enter Tryz.func64, Tryz.ntmps64
      go_wp2
      go_ret
      exact ⟨rfl, rfl⟩
    · have e3 : (p == 3) = false := by simpa using h3
      have HP : Hid (prm p = (p == 5)) := Lib.hid (by unfold prm; rw [e2, e3]; rfl)
      obtain ⟨R, hR⟩ : ∃ R, R = prm p := ⟨_, rfl⟩
      rw [← hR] at HP ⊢
      clear hR
      go_enter Tryz.func64, Tryz.ntmps64
      go_wp2
      go_ret
      exact ⟨by rw [HP.out]; rfl, rfl⟩
theorem prm_in {p : Int} (h : prm p = true) : 0 ≤ p ∧ p ≤ 9 := by
  unfold prm at h
  simp only [Bool.or_eq_true, beq_iff_eq] at h
  omega
def gridW (a b : Int) : Bool := inW a 1 4 && inW b 1 4
set_option maxRecDepth 100000 in
set_option maxHeartbeats 400000 in
theorem spec_grid_c (a b : Int) (w : World) : Calls Tryz.prog 46 #[.int .i64 a, .int .i64 b] w fun e w' => e = .returned (.bool (gridW a b)) ∧ w = w' := by
  have H1 := Lib.hid (l1In_w a 1 4 w)
  have H2 := Lib.hid (l1In_w b 1 4 w)
  obtain ⟨R, hR⟩ : ∃ R, R = gridW a b := ⟨_, rfl⟩
  rw [← hR]
  have HR := Lib.hid hR
  clear hR
  go_enter Tryz.func46, Tryz.ntmps46
  go_wp2_with fail
  refine (H1.out).mono ?_
  rintro e w1 ⟨rfl, rfl⟩
  cases h1 : inW a 1 4
  · obtain rfl : R = false := by rw [HR.out]; unfold gridW; rw [h1]; rfl
    go_wp2
    go_ret
    exact ⟨rfl, rfl⟩
  · have HB : Hid (inW b 1 4 = R) := Lib.hid (by rw [HR.out]; unfold gridW; rw [h1]; rfl)
    go_wp2_with fail
    refine (H2.out).mono ?_
    rintro e w1 ⟨rfl, rfl⟩
    rw [HB.out]
    go_wp2
    go_ret
    exact ⟨rfl, rfl⟩
set_option maxRecDepth 100000 in
set_option maxHeartbeats 400000 in
theorem impl_grid_c (a b : Int) (w : World) : Calls Tryz.prog 56 #[.int .i64 a, .int .i64 b] w fun e w' => e = .returned (.bool (gridW a b)) ∧ w = w' := by
  have H1 := Lib.hid (between_w a 1 4 w)
  have H2 := Lib.hid (between_w b 1 4 w)
  obtain ⟨R, hR⟩ : ∃ R, R = gridW a b := ⟨_, rfl⟩
  rw [← hR]
  have HR := Lib.hid hR
  clear hR
  go_enter Tryz.func56, Tryz.ntmps56
  go_wp2_with fail
  refine (H1.out).mono ?_
  rintro e w1 ⟨rfl, rfl⟩
  cases h1 : inW a 1 4
  · obtain rfl : R = false := by rw [HR.out]; unfold gridW; rw [h1]; rfl
    go_wp2
    go_ret
    exact ⟨rfl, rfl⟩
  · have HB : Hid (inW b 1 4 = R) := Lib.hid (by rw [HR.out]; unfold gridW; rw [h1]; rfl)
    go_wp2_with fail
    refine (H2.out).mono ?_
    rintro e w1 ⟨rfl, rfl⟩
    rw [HB.out]
    go_wp2
    go_ret
    exact ⟨rfl, rfl⟩
theorem grid_in {a b : Int} (h : gridW a b = true) : (1 ≤ a ∧ a ≤ 4) ∧ (1 ≤ b ∧ b ≤ 4) := by
  unfold gridW at h
  simp only [Bool.and_eq_true] at h
  exact ⟨inW_iff.1 h.1, inW_iff.1 h.2⟩
set_option maxRecDepth 100000 in
set_option maxHeartbeats 800000 in
theorem spec_fmtW_no {v : Value} {l : List Wg} (w : World) (h : WangsRd w 0 w.heap.size v l) (hA : areW l = false) :
    Calls Tryz.prog 45 #[v] w fun e w' => e = .returned (.string ⟨#[]⟩) ∧ Below w.heap.size w w' := by
  have HC := Lib.hid (spec_areW_c w h)
  rw [hA] at HC
  obtain ⟨A, c, rfl, hm, hr⟩ := h
  unfold maxLen at hm
  go_enter Tryz.func45, Tryz.ntmps45
  go_wp2
  go_loopw [3, 4] (fun sv iv wx => sv = .string ⟨#[]⟩ ∧ iv = .int .i64 0 ∧ w = wx) (fun _ _ _ => 0)
  case atStart => exact ⟨rfl, rfl, rfl⟩
  case round =>
    obtain ⟨rfl, rfl, rfl⟩ := hrel
    by_cases h0 : l.length = 0
    · have h0i : ¬ (0 : Int) < (l.length : Int) := by omega
      clear h0
      go_wp2
      go_ret
      exact ⟨rfl, Below.refl _ _⟩
    · have h0i : (0 : Int) < (l.length : Int) := by omega
      go_wp2_with fail
      refine (HC.out).mono ?_
      rintro e w1 ⟨rfl, b1⟩
      go_wp2
      go_ret
      exact ⟨rfl, b1⟩
theorem fmtSh_size {s : List Cell} (h : isShape s = true) : (fmtSh s).size ≤ 80 ∧ 1 ≤ (fmtSh s).size := by
  have hG := grd_corner h
  have hz := shp_size h
  have hm := shp_min h
  unfold fmtSh
  rw [tb_size]
  have h1 := txtF_len (f := rowF (corner s)) (fun k => by have := rowF_8 hG (i := (corner s).length) (k := k) (Nat.le_refl _); rwa [List.take_length] at this) (htOf s - 1).toNat
  refine ⟨by omega, ?_⟩
  cases hy : (htOf s - 1).toNat with
  | succ y => rw [txtF, List.length_append, List.length_cons]; omega
  | zero =>
    rw [txtF]
    have hn := hG.len.1
    obtain ⟨c, hc⟩ : ∃ c, (corner s)[(corner s).length - 1]? = some c := ⟨(corner s)[(corner s).length - 1]'(by omega), List.getElem?_eq_getElem _⟩
    have h2 := rowF_take (k := 0) hc
    have e1 : (corner s).length - 1 + 1 = (corner s).length := by omega
    rw [e1, List.take_length] at h2
    have h3 := corner_lt (List.mem_of_getElem? hc)
    have h4 := corner_ge (List.mem_of_getElem? hc)
    rw [if_pos (by omega)] at h2
    rw [h2]
    simp only [List.length_append, List.length_cons]
    omega
/-- the texts of shapes -/
def pcsTo (ps : List (List Cell)) (k : Nat) : ByteArray := joinB ⟨#[43]⟩ ((ps.take k).map fmtSh)
theorem pcsTo_next {ps : List (List Cell)} {k : Nat} {s : List Cell} (h : ps[k]? = some s) : pcsTo ps (k + 1) = (if 0 < k then pcsTo ps k ++ ⟨#[43]⟩ else pcsTo ps k) ++ fmtSh s := by
  obtain ⟨hk, rfl⟩ := List.getElem?_eq_some_iff.1 h
  unfold pcsTo
  rw [List.take_succ_eq_append_getElem hk, List.map_append, List.map_cons, List.map_nil]
  split
  · rw [joinB_snoc _ _ _ (fun e => by
      have := congrArg List.length e
      rw [List.length_map, List.length_take] at this
      simp only [List.length_nil] at this
      omega)]
  · obtain rfl : k = 0 := by omega
    rw [List.take_zero, List.map_nil, List.nil_append, joinB_one, joinB_nil, ba_nil]
theorem pcsTo_size {ps : List (List Cell)} (h : arePcs ps = true) {k : Nat} (hk : k ≤ ps.length) : (pcsTo ps k).size ≤ k * 81 := by
  have := joinB_size (s := ⟨#[43]⟩) (b := 80) (l := (ps.take k).map fmtSh) (by
    intro x hx
    obtain ⟨n, hn, rfl⟩ := List.mem_map.1 hx
    exact (fmtSh_size ((arePcs_on h).1 n (List.mem_of_mem_take hn))).1)
  rw [List.length_map, List.length_take, Nat.min_eq_left hk] at this
  exact this
theorem pcsTo_pos {ps : List (List Cell)} (h : arePcs ps = true) : 1 ≤ (pcsTo ps ps.length).size := by
  have ha := arePcs_on h
  obtain ⟨s, hs⟩ : ∃ s, ps[ps.length - 1]? = some s := ⟨ps[ps.length - 1]'(by omega), List.getElem?_eq_getElem _⟩
  have h1 := pcsTo_next hs
  rw [show ps.length - 1 + 1 = ps.length by omega] at h1
  rw [h1, ByteArray.size_append]
  have := (fmtSh_size (ha.1 s (List.mem_of_getElem? hs))).2
  omega
theorem fmtS_pos {r : Reg} (hw : 1 ≤ r.w.toNat) {k : Nat} (hk : 1 ≤ k) : 1 ≤ (fmtS r k).size := by
  obtain ⟨j, rfl⟩ : ∃ j, k = j + 1 := ⟨k - 1, by omega⟩
  rw [fmtS, ByteArray.size_append, rowS_size]
  omega
def pcsB (ps : List (List Cell)) : ByteArray := if arePcs ps = true then pcsTo ps ps.length else ⟨#[]⟩
def ofB : ByteArray := ⟨#[32, 111, 102, 32]⟩
def byB : ByteArray := ⟨#[32, 98, 121, 32]⟩
/-- the text up to what the claim is made by -/
def headC (C : Clm) : ByteArray := wordOf C.kind ++ ⟨#[32]⟩ ++ fmtR C.reg ++ ⟨#[32, 111, 102, 32]⟩ ++ pcsB C.pieces
def fcOk (C : Clm) : Bool := inW C.kind 1 6 && (C.reg.valid && arePcs C.pieces)
def perOk (C : Clm) : Bool := areW C.wang && gridW C.width C.height
/-- a claim's text -/
def fcB (C : Clm) : ByteArray :=
  if C.kind = 5 then
    if perOk C = true then wordOf 5 ++ ⟨#[32]⟩ ++ tilesTo C.wang C.wang.length ++ ⟨#[32, 98, 121, 32]⟩ ++ dgt C.width ++ ⟨#[120]⟩ ++ dgt C.height ++ ⟨#[32]⟩ ++ digS C.masks else ⟨#[]⟩
  else if fcOk C = true then
    if C.kind = 2 then (if C.text.size ≤ 2000 then headC C ++ ⟨#[32, 98, 121, 32, 91]⟩ ++ C.text ++ ⟨#[93]⟩ else ⟨#[]⟩)
    else if C.kind = 3 then (if prm C.prime = true then headC C ++ ⟨#[32, 109, 111, 100, 32]⟩ ++ dgt C.prime ++ ⟨#[32, 98, 121, 32]⟩ ++ digS C.weights else ⟨#[]⟩)
    else if C.kind = 4 then headC C ++ ⟨#[32, 98, 121, 32]⟩ ++ fmtTil C.reg C.masks ++ ⟨#[32, 97, 110, 100, 32]⟩ ++ fmtTil C.reg [C.mask]
    else headC C ++ ⟨#[32, 98, 121, 32]⟩ ++ fmtTil C.reg C.masks
  else ⟨#[]⟩
theorem ba_size0 {s : ByteArray} (h : 1 ≤ s.size) : (s.toList == []) = false := by
  rw [Lib.toList_data, beq_eq_false_iff_ne]
  intro e
  have h1 : s.data.toList.length = s.size := Array.length_toList
  rw [e] at h1
  simp at h1
  omega
theorem fmtR_ne {r : Reg} (h : r.valid = true) : 1 ≤ (fmtR r).size ∧ (fmtR r).size ≤ 42 := by
  have hv := Reg.valid_iff.1 h
  unfold fmtR
  rw [if_pos h]
  have h1 := fmtS_size (r := r) (by have := hv.2.1; omega) r.rows.length
  have h2 := hv.2.2.2.1
  have h3 := hv.2.2.1
  have h4 := hv.1
  exact ⟨fmtS_pos (by omega) (by omega), by omega⟩
theorem word_size (k : Int) : (wordOf k).size ≤ 7 := by unfold wordOf; repeat (split; · decide)
                                                        decide
theorem word_ok {k : Int} (h : inW k 1 6 = true) : 1 ≤ (wordOf k).size := by
  have := inW_iff.1 h
  have hk : k = 1 ∨ k = 2 ∨ k = 3 ∨ k = 4 ∨ k = 5 ∨ k = 6 := by omega
  rcases hk with rfl | rfl | rfl | rfl | rfl | rfl <;> decide
theorem word_no {k : Int} (h : inW k 1 6 = false) : wordOf k = ⟨#[]⟩ := by
  have hk : ¬ (1 ≤ k ∧ k ≤ 6) := fun e => by rw [inW_iff.2 e] at h; cases h
  unfold wordOf
  repeat (rw [if_neg (by omega)])
theorem pcsB_size {ps : List (List Cell)} (h : arePcs ps = true) : 1 ≤ (pcsB ps).size ∧ (pcsB ps).size ≤ 405 := by
  unfold pcsB
  rw [if_pos h]
  have h1 := pcsTo_size h (k := ps.length) (Nat.le_refl _)
  have h2 := arePcs_on h
  exact ⟨pcsTo_pos h, by omega⟩
theorem digS_size (l : List Int) : (digS l).size ≤ 40 := by
  unfold digS
  split
  · rw [digT_size]; assumption
  · decide
theorem fmtTil_size (r : Reg) (l : List Int) : (fmtTil r l).size ≤ 42 := by
  unfold fmtTil
  split
  · rename_i h
    unfold tilG at h
    simp only [Bool.and_eq_true] at h
    have hv := Reg.valid_iff.1 h.1
    have h1 := fmtTs_size (r := r) (l := l) (by have := hv.2.1; omega) r.rows.length
    have := hv.2.2.2.1
    omega
  · decide
end Go.Proofs.YtjoglffhdoneoaaGreatDoor

namespace Go.Proofs.YtjoglffhdoneoaaGreatDoor
open Go.RowKit

set_option maxRecDepth 100000 in
set_option maxHeartbeats 1600000 in
theorem spec_pcs_c {v : Value} {ps : List (List Cell)} (w : World) (h : CellSSRd w 0 w.heap.size v ps) (hn : ps.length ≤ 1048576) (hl : ∀ s ∈ ps, s.length ≤ 1048576) :
    Calls Tryz.prog 50 #[v] w fun e w' => e = .returned (.string (pcsB ps)) ∧ Below w.heap.size w w' := by
  have HAR : Hid (∀ w1, Below w.heap.size w w1 → Calls Tryz.prog 67 #[v] w1 fun e w' => e = .returned (.bool (arePcs ps)) ∧ Below w1.heap.size w1 w') := Lib.hid fun w1 b1 =>
    spec_arePcs_c w1 ((h.keep (SameIn.of_below b1 (Nat.le_refl _))).more (Nat.le_refl _) b1.size) hn hl
  obtain ⟨vs, ⟨A, c, rfl, hm, hr⟩, hsl⟩ := h
  obtain ⟨n, hn2⟩ : ∃ n, n = ps.length := ⟨_, rfl⟩
  rw [← hn2] at hm hr hn HAR ⊢
  have HN := Lib.hid hn2
  have HR := Lib.hid hr
  have HSL := Lib.hid hsl
  obtain ⟨B, hB⟩ : ∃ B, B = arePcs ps := ⟨_, rfl⟩
  rw [← hB] at HAR
  have HB := Lib.hid hB
  obtain ⟨R, hR⟩ : ∃ R, R = pcsB ps := ⟨_, rfl⟩
  rw [← hR]
  have HRR := Lib.hid hR
  clear hr hsl hn2 hB hR hl hm
  go_enter Tryz.func50, Tryz.ntmps50
  go_wp2
  go_loopw [3, 4] (fun sv iv wx => ∃ i : Nat, i ≤ n ∧ iv = .int .i64 i ∧ sv = .string (pcsTo ps i) ∧ Hid (i ≠ 0 → B = true) ∧ Below w.heap.size w wx) (fun _ iv _ => n - (intOf iv).toNat)
  case atStart => exact ⟨0, Nat.zero_le _, rfl, rfl, Lib.hid (fun h => absurd rfl h), Below.refl _ _⟩
  case round =>
    obtain ⟨i, hin, rfl, rfl, HI, hbel⟩ := hrel
    by_cases hlt : i < n
    · have hlti : (i : Int) < (n : Int) := by omega
      have HC := Lib.hid (HAR.out wr hbel)
      go_wp2_with fail
      refine (HC.out).mono ?_
      rintro e w1 ⟨rfl, b1⟩
      have hb1 := hbel.trans (b1.mono hbel.size)
      clear b1 hbel HC
      cases B
      · have HE : Hid (R = pcsTo ps i) := Lib.hid (by
          have h0 : i = 0 := by
            rcases Nat.eq_zero_or_pos i with h | h
            · exact h
            · have := HI.out (by omega); cases this
          rw [HRR.out, h0]; unfold pcsB; rw [← HB.out]; rfl)
        go_wp2
        go_ret
        exact ⟨by rw [HE.out]; rfl, hb1⟩
      · obtain ⟨b, off, u, x, rfl, _, hb, hla, x1, xr⟩ := HR.out.slot HSL.out HN.out hlt
        have hsh := (arePcs_on HB.out.symm).1 u (List.mem_of_getElem? hla)
        have x2 := (hb1.cell (p := ⟨b, off + i, none⟩) hb).trans x1
        have HFC : Hid (∀ w2, Below w.heap.size w w2 → Calls Tryz.prog 86 #[x] w2 fun e w' => e = .returned (.string (fmtSh u)) ∧ Below w2.heap.size w2 w') := Lib.hid fun w2 b2 =>
          spec_fmtSh_c w2 ((xr.keep (SameIn.of_below b2 (Nat.le_refl _))).more (Nat.le_refl _) b2.size) hsh
        have HS := Lib.hid (pcsTo_next hla)
        have hs1 := pcsTo_size HB.out.symm (k := i) (by rw [← HN.out]; omega)
        have hs2 := (fmtSh_size hsh).1
        have hi5 : i ≤ 5 := by have := arePcs_on HB.out.symm; have := HN.out; omega
        have hs3 : (pcsTo ps i).size ≤ 500 := by omega
        have hs4 : ¬ 9223372036854775807 < (pcsTo ps i).size + 1 := by omega
        obtain ⟨Ax, cx, hx, _, _⟩ := xr
        subst hx
        generalize pcsTo ps i = T at *
        generalize fmtSh u = U at *
        clear x1 hla hsh
        by_cases h0 : 0 < i
        · have hd0 : decide ((0 : Int) < (i : Int)) = true := by simp; omega
          have HS2 : Hid (T ++ ⟨#[43]⟩ ++ U = pcsTo ps (i + 1)) := Lib.hid (by rw [HS.out, if_pos h0])
          have hs5 : ¬ 9223372036854775807 < (T ++ (⟨#[43]⟩ : ByteArray)).size + U.size := by rw [ByteArray.size_append]; show ¬ _ < T.size + 1 + U.size; omega
          have hs6 : ¬ 9223372036854775807 < T.size + 1 + U.size := by omega
          have HF2 := Lib.hid (HFC.out w1 hb1)
          clear HS hs1
          go_wp2_with fail
          refine (HF2.out).mono ?_
          rintro e w2 ⟨rfl, b2⟩
          have hb2 := hb1.trans (b2.mono hb1.size)
          clear b2 hb1 x2 HF2
          go_wp2
          go_roundw
          case rel => exact ⟨i + 1, by omega, by go_num, by rw [HS2.out], Lib.hid (fun _ => trivial), hb2⟩
          case measure => simp [intOf]; omega
        · have hd0 : decide ((0 : Int) < (i : Int)) = false := by simp; omega
          have HS2 : Hid (T ++ U = pcsTo ps (i + 1)) := Lib.hid (by rw [HS.out, if_neg h0])
          have hs5 : ¬ 9223372036854775807 < T.size + U.size := by omega
          have HF2 := Lib.hid (HFC.out w1 hb1)
          clear HS hs1
          go_wp2_with fail
          refine (HF2.out).mono ?_
          rintro e w2 ⟨rfl, b2⟩
          have hb2 := hb1.trans (b2.mono hb1.size)
          clear b2 hb1 x2 HF2
          go_wp2
          go_roundw
          case rel => exact ⟨i + 1, by omega, by go_num, by rw [HS2.out], Lib.hid (fun _ => trivial), hb2⟩
          case measure => simp [intOf]; omega
    · obtain rfl : i = n := by omega
      have HE : Hid (R = pcsTo ps i) := Lib.hid (by
        rw [HRR.out]
        unfold pcsB
        rw [← HB.out, HN.out]
        cases B
        · have h0 : i = 0 := by
            rcases Nat.eq_zero_or_pos i with h | h
            · exact h
            · have := HI.out (by omega); cases this
          rw [← HN.out, h0]; rfl
        · rfl)
      go_wp2
      go_ret
      exact ⟨by rw [HE.out]; rfl, hbel⟩
set_option maxRecDepth 100000 in
set_option maxHeartbeats 6400000 in
theorem spec_fc_c {v : Value} {C : Clm} (w : World) (h : ClmRd w 0 w.heap.size v C) (hr : C.reg.rows.length ≤ 1048576) (hn : C.pieces.length ≤ 1048576) (hl : ∀ s ∈ C.pieces, s.length ≤ 1048576) (ht : C.text.size ≤ maxLen) :
    Calls Tryz.prog 19 #[v] w fun e w' => e = .returned (.string (fcB C)) ∧ Below w.heap.size w w' := by
  obtain ⟨s1, s2, s3, s4, s5, rfl, h1, h2, h3, h4, h5⟩ := h
  have R1 : Hid (∀ w1, Below w.heap.size w w1 → RegRd w1 0 w1.heap.size (.agg #[.int .i64 C.reg.w, s1]) C.reg) := Lib.hid fun w1 b1 => ⟨s1, rfl, (h1.keep (SameIn.of_below b1 (Nat.le_refl _))).more (Nat.le_refl _) b1.size⟩
  have R2 : Hid (∀ w1, Below w.heap.size w w1 → CellSSRd w1 0 w1.heap.size s2 C.pieces) := Lib.hid fun w1 b1 => (h2.keep (SameIn.of_below b1 (Nat.le_refl _))).more (Nat.le_refl _) b1.size
  have R3 : Hid (∀ w1, Below w.heap.size w w1 → IntsRd w1 0 w1.heap.size s3 C.masks) := Lib.hid fun w1 b1 => (h3.keep (SameIn.of_below b1 (Nat.le_refl _))).more (Nat.le_refl _) b1.size
  have R4 : Hid (∀ w1, Below w.heap.size w w1 → IntsRd w1 0 w1.heap.size s4 C.weights) := Lib.hid fun w1 b1 => (h4.keep (SameIn.of_below b1 (Nat.le_refl _))).more (Nat.le_refl _) b1.size
  have R5 : Hid (∀ w1, Below w.heap.size w w1 → WangsRd w1 0 w1.heap.size s5 C.wang) := Lib.hid fun w1 b1 => (h5.keep (SameIn.of_below b1 (Nat.le_refl _))).more (Nat.le_refl _) b1.size
  obtain ⟨K, hK⟩ : ∃ K, K = C.kind := ⟨_, rfl⟩
  rw [← hK]
  have HK := Lib.hid hK
  obtain ⟨R, hR⟩ : ∃ R, R = fcB C := ⟨_, rfl⟩
  rw [← hR]
  have HR := Lib.hid hR
  have H0 := (Sep.start w).box 32 #[.int .i64 K, .int .i64 C.reg.w, s1, s2, s3, .string C.text, .int .i64 C.prime, s4, .int .i64 C.mask, s5, .int .i64 C.width, .int .i64 C.height]
  obtain ⟨g, hg⟩ : ∃ g, g = w.heap.size := ⟨_, rfl⟩
  rw [← hg] at H0
  unfold maxLen at ht
  have HTX := Lib.hid ht
  unfold clmV
  clear hK hR h1 h2 h3 h4 h5
  go_enter Tryz.func19, Tryz.ntmps19
  go_upto_region 1 with fail
  rw [← hg]
  generalize (w.alloc (.cells #[.int .i64 K, .int .i64 C.reg.w, s1, s2, s3, .string C.text, .int .i64 C.prime, s4, .int .i64 C.mask, s5, .int .i64 C.width, .int .i64 C.height] 32)) = W at *
  clear hg
  have c0 : W.cell? ⟨g, 0, none⟩ = some (.int .i64 K) := H0.h0.cell 0
  have c1 : W.cell? ⟨g, 1, none⟩ = some (.int .i64 C.reg.w) := H0.h0.cell 1
  have c2 : W.cell? ⟨g, 2, none⟩ = some s1 := H0.h0.cell 2
  have c3 : W.cell? ⟨g, 3, none⟩ = some s2 := H0.h0.cell 3
  have c4 : W.cell? ⟨g, 4, none⟩ = some s3 := H0.h0.cell 4
  have c5 : W.cell? ⟨g, 5, none⟩ = some (.string C.text) := H0.h0.cell 5
  have c6 : W.cell? ⟨g, 6, none⟩ = some (.int .i64 C.prime) := H0.h0.cell 6
  have c7 : W.cell? ⟨g, 7, none⟩ = some s4 := H0.h0.cell 7
  have c8 : W.cell? ⟨g, 8, none⟩ = some (.int .i64 C.mask) := H0.h0.cell 8
  have c9 : W.cell? ⟨g, 9, none⟩ = some s5 := H0.h0.cell 9
  have c10 : W.cell? ⟨g, 10, none⟩ = some (.int .i64 C.width) := H0.h0.cell 10
  have c11 : W.cell? ⟨g, 11, none⟩ = some (.int .i64 C.height) := H0.h0.cell 11
  have HW := Lib.hid (spec_word K W)
  go_wp2_with fail
  refine (HW.out).mono ?_
  rintro e w1 ⟨rfl, b1⟩
  have H1 := H0.step b1
  clear c0 c1 c2 c3 c4 c5 c6 c7 c8 c9 c10 c11
  clear H0 b1 HW
  have c0 : w1.cell? ⟨g, 0, none⟩ = some (.int .i64 K) := H1.h0.cell 0
  have c1 : w1.cell? ⟨g, 1, none⟩ = some (.int .i64 C.reg.w) := H1.h0.cell 1
  have c2 : w1.cell? ⟨g, 2, none⟩ = some s1 := H1.h0.cell 2
  have c3 : w1.cell? ⟨g, 3, none⟩ = some s2 := H1.h0.cell 3
  have c4 : w1.cell? ⟨g, 4, none⟩ = some s3 := H1.h0.cell 4
  have c5 : w1.cell? ⟨g, 5, none⟩ = some (.string C.text) := H1.h0.cell 5
  have c6 : w1.cell? ⟨g, 6, none⟩ = some (.int .i64 C.prime) := H1.h0.cell 6
  have c7 : w1.cell? ⟨g, 7, none⟩ = some s4 := H1.h0.cell 7
  have c8 : w1.cell? ⟨g, 8, none⟩ = some (.int .i64 C.mask) := H1.h0.cell 8
  have c9 : w1.cell? ⟨g, 9, none⟩ = some s5 := H1.h0.cell 9
  have c10 : w1.cell? ⟨g, 10, none⟩ = some (.int .i64 C.width) := H1.h0.cell 10
  have c11 : w1.cell? ⟨g, 11, none⟩ = some (.int .i64 C.height) := H1.h0.cell 11
  by_cases hk5 : K = 5
  · subst hk5
    cases hp : areW C.wang
    · obtain rfl : R = ⟨#[]⟩ := by
        rw [HR.out]; unfold fcB perOk; rw [if_pos HK.out.symm, hp]; rfl
      have HF := Lib.hid (spec_fmtW_no w1 (R5.out w1 H1.below) hp)
      generalize wordOf 5 = T at *
      go_wp2_with fail
      refine (HF.out).mono ?_
      rintro e w2 ⟨rfl, b2⟩
      have H2 := H1.step b2
      go_wp2
      go_ret
      exact ⟨rfl, H2.below⟩
    · have hwl : 1 ≤ C.wang.length ∧ C.wang.length ≤ 6 := by
        unfold areW at hp
        simp only [Bool.and_eq_true] at hp
        have := inW_iff.1 hp.2
        omega
      have HF := Lib.hid (spec_fmtW_c w1 (R5.out w1 H1.below) hp hwl.1 hwl.2)
      have hts := tilesTo_size (l := C.wang) (k := C.wang.length) (Nat.le_refl _)
      obtain ⟨T1, hT1⟩ : ∃ T, T = tilesTo C.wang C.wang.length := ⟨_, rfl⟩
      rw [← hT1] at HF hts
      have hts2 : T1.size ≤ 30 := by omega
      have hts1 : 1 ≤ T1.size := by
        rw [hT1]
        obtain ⟨t, hwt⟩ : ∃ t, C.wang[C.wang.length - 1]? = some t := ⟨C.wang[C.wang.length - 1]'(by omega), List.getElem?_eq_getElem _⟩
        have := tilesTo_succ hwt
        rw [show C.wang.length - 1 + 1 = C.wang.length by omega] at this
        rw [this, ByteArray.size_append, dgt_size]
        omega
      have hne := ba_size0 hts1
      have HP := Lib.hid hp
      have HT1 := Lib.hid hT1
      have HG := Lib.hid (spec_grid_c C.width C.height)
      have hw7 := word_size 5
      obtain ⟨T, hT⟩ : ∃ T, T = wordOf 5 := ⟨_, rfl⟩
      rw [← hT] at hw7 ⊢
      have HT := Lib.hid hT
      clear hp hwl hts hT1 hT
      go_wp2_with fail
      refine (HF.out).mono ?_
      rintro e w2 ⟨rfl, b2⟩
      have H2 := H1.step b2
      clear c0 c1 c2 c3 c4 c5 c6 c7 c8 c9 c10 c11
      clear b2 H1 HF
      have c0 : w2.cell? ⟨g, 0, none⟩ = some (.int .i64 5) := H2.h0.cell 0
      have c1 : w2.cell? ⟨g, 1, none⟩ = some (.int .i64 C.reg.w) := H2.h0.cell 1
      have c2 : w2.cell? ⟨g, 2, none⟩ = some s1 := H2.h0.cell 2
      have c3 : w2.cell? ⟨g, 3, none⟩ = some s2 := H2.h0.cell 3
      have c4 : w2.cell? ⟨g, 4, none⟩ = some s3 := H2.h0.cell 4
      have c5 : w2.cell? ⟨g, 5, none⟩ = some (.string C.text) := H2.h0.cell 5
      have c6 : w2.cell? ⟨g, 6, none⟩ = some (.int .i64 C.prime) := H2.h0.cell 6
      have c7 : w2.cell? ⟨g, 7, none⟩ = some s4 := H2.h0.cell 7
      have c8 : w2.cell? ⟨g, 8, none⟩ = some (.int .i64 C.mask) := H2.h0.cell 8
      have c9 : w2.cell? ⟨g, 9, none⟩ = some s5 := H2.h0.cell 9
      have c10 : w2.cell? ⟨g, 10, none⟩ = some (.int .i64 C.width) := H2.h0.cell 10
      have c11 : w2.cell? ⟨g, 11, none⟩ = some (.int .i64 C.height) := H2.h0.cell 11
      go_wp2_with fail
      refine (HG.out w2).mono ?_
      rintro e w3 ⟨rfl, rfl⟩
      cases hg : gridW C.width C.height
      · obtain rfl : R = ⟨#[]⟩ := by
          rw [HR.out]; unfold fcB perOk; rw [if_pos HK.out.symm, hg, Bool.and_false]; rfl
        go_wp2
        go_ret
        exact ⟨rfl, H2.below⟩
      · have hgi := grid_in hg
        have HRR : Hid (R = T ++ ⟨#[32]⟩ ++ T1 ++ ⟨#[32, 98, 121, 32]⟩ ++ dgt C.width ++ ⟨#[120]⟩ ++ dgt C.height ++ ⟨#[32]⟩ ++ digS C.masks) := Lib.hid (by
          rw [HR.out]; unfold fcB perOk; rw [if_pos HK.out.symm, HP.out, hg, HT.out, HT1.out]; rfl)
        have l4 := Later.cell c4 (Blk.lt H2.h0)
        have l10 := Later.cell c10 (Blk.lt H2.h0)
        have l11 := Later.cell c11 (Blk.lt H2.h0)
        have HL : Hid (∀ u : Later w2, Calls Tryz.prog 48 #[s3] u.w fun e w' => e = .returned (.string (digS C.masks)) ∧ Below u.w.heap.size u.w w') := Lib.hid fun u =>
          spec_digits_c u.w (R3.out u.w (H2.below.trans (u.h.mono H2.below.size)))
        have HI1 : Hid (∀ u : Later w2, Calls Tryz.prog 47 #[.int .i64 C.width] u.w fun e w' => e = .returned (.string (dgt C.width)) ∧ Below u.w.heap.size u.w w') := Lib.hid fun u => spec_dig_c C.width u.w (by omega) (by omega)
        have HI2 : Hid (∀ u : Later w2, Calls Tryz.prog 47 #[.int .i64 C.height] u.w fun e w' => e = .returned (.string (dgt C.height)) ∧ Below u.w.heap.size u.w w') := Lib.hid fun u => spec_dig_c C.height u.w (by omega) (by omega)
        have hu1 : (dgt C.width).size ≤ 1 := Nat.le_of_eq (dgt_size _)
        have hu2 : (dgt C.height).size ≤ 1 := Nat.le_of_eq (dgt_size _)
        have hd := digS_size C.masks
        generalize dgt C.width = U1 at *
        generalize dgt C.height = U2 at *
        generalize digS C.masks = D at *
        clear c0 c1 c2 c3 c4 c5 c6 c7 c8 c9 c10 c11
        have y1 : ¬ 9223372036854775807 < T.size + 1 := by omega
        have y2 : ¬ 9223372036854775807 < T.size + 1 + T1.size := by omega
        have y3 : ¬ 9223372036854775807 < T.size + 1 + T1.size + 4 := by omega
        have y4 : ¬ 9223372036854775807 < T.size + 1 + T1.size + 4 + U1.size := by omega
        have y5 : ¬ 9223372036854775807 < T.size + 1 + T1.size + 4 + U1.size + 1 := by omega
        have y6 : ¬ 9223372036854775807 < T.size + 1 + T1.size + 4 + U1.size + 1 + U2.size := by omega
        have y7 : ¬ 9223372036854775807 < T.size + 1 + T1.size + 4 + U1.size + 1 + U2.size + 1 := by omega
        have y8 : ¬ 9223372036854775807 < T.size + 1 + T1.size + 4 + U1.size + 1 + U2.size + 1 + D.size := by omega
        clear hu1 hu2 hd hts1 hts2 hw7 hg hgi hne
        go_wp2_with fail
        refine wp_region_later (by kernel_rfl) (by kernel_rfl) ?_
        repeat (go_big_quiet_step (first | (go_at_call 47; first | (with_reducible exact Later.call (HI1.out _)) | (with_reducible exact Later.call (HI2.out _))) | (go_at_call 48; with_reducible exact Later.call (HL.out _))))
        refine wpQuiet_nil ?_
        intro w4 hw4
        obtain ⟨u4, hu4⟩ := hw4
        subst hu4
        have H4 := H2.later u4
        clear l4 l10 l11 HL HI1 HI2 y1 y2 y3 y4 y5 y6 y7 y8
        generalize u4.w = w4 at *
        go_wp2
        go_ret
        exact ⟨by rw [HRR.out]; rfl, H4.below⟩
  · have hk5b : (K == 5) = false := by simpa using hk5
    have HF := Lib.hid (spec_fmtReg_c w1 (R1.out w1 H1.below) hr)
    have hw7 := word_size K
    have HK5 : Hid (¬ C.kind = 5) := Lib.hid (by rw [← HK.out]; exact hk5)
    obtain ⟨T, hT⟩ : ∃ T, T = wordOf K := ⟨_, rfl⟩
    rw [← hT] at hw7 ⊢
    have HT := Lib.hid hT
    clear hT hk5
    go_wp2_with fail
    refine (HF.out).mono ?_
    rintro e w2 ⟨rfl, b2⟩
    have H2 := H1.step b2
    clear c0 c1 c2 c3 c4 c5 c6 c7 c8 c9 c10 c11
    clear b2 H1 HF
    have c0 : w2.cell? ⟨g, 0, none⟩ = some (.int .i64 K) := H2.h0.cell 0
    have c1 : w2.cell? ⟨g, 1, none⟩ = some (.int .i64 C.reg.w) := H2.h0.cell 1
    have c2 : w2.cell? ⟨g, 2, none⟩ = some s1 := H2.h0.cell 2
    have c3 : w2.cell? ⟨g, 3, none⟩ = some s2 := H2.h0.cell 3
    have c4 : w2.cell? ⟨g, 4, none⟩ = some s3 := H2.h0.cell 4
    have c5 : w2.cell? ⟨g, 5, none⟩ = some (.string C.text) := H2.h0.cell 5
    have c6 : w2.cell? ⟨g, 6, none⟩ = some (.int .i64 C.prime) := H2.h0.cell 6
    have c7 : w2.cell? ⟨g, 7, none⟩ = some s4 := H2.h0.cell 7
    have c8 : w2.cell? ⟨g, 8, none⟩ = some (.int .i64 C.mask) := H2.h0.cell 8
    have c9 : w2.cell? ⟨g, 9, none⟩ = some s5 := H2.h0.cell 9
    have c10 : w2.cell? ⟨g, 10, none⟩ = some (.int .i64 C.width) := H2.h0.cell 10
    have c11 : w2.cell? ⟨g, 11, none⟩ = some (.int .i64 C.height) := H2.h0.cell 11
    have HP := Lib.hid (spec_pcs_c w2 (R2.out w2 H2.below) hn hl)
    obtain ⟨F, hF⟩ : ∃ F, F = fmtR C.reg := ⟨_, rfl⟩
    rw [← hF]
    have HF := Lib.hid hF
    clear hF
    go_wp2_with fail
    refine (HP.out).mono ?_
    rintro e w3 ⟨rfl, b3⟩
    have H3 := H2.step b3
    clear c0 c1 c2 c3 c4 c5 c6 c7 c8 c9 c10 c11
    clear b3 H2 HP
    have c0 : w3.cell? ⟨g, 0, none⟩ = some (.int .i64 K) := H3.h0.cell 0
    have c1 : w3.cell? ⟨g, 1, none⟩ = some (.int .i64 C.reg.w) := H3.h0.cell 1
    have c2 : w3.cell? ⟨g, 2, none⟩ = some s1 := H3.h0.cell 2
    have c3 : w3.cell? ⟨g, 3, none⟩ = some s2 := H3.h0.cell 3
    have c4 : w3.cell? ⟨g, 4, none⟩ = some s3 := H3.h0.cell 4
    have c5 : w3.cell? ⟨g, 5, none⟩ = some (.string C.text) := H3.h0.cell 5
    have c6 : w3.cell? ⟨g, 6, none⟩ = some (.int .i64 C.prime) := H3.h0.cell 6
    have c7 : w3.cell? ⟨g, 7, none⟩ = some s4 := H3.h0.cell 7
    have c8 : w3.cell? ⟨g, 8, none⟩ = some (.int .i64 C.mask) := H3.h0.cell 8
    have c9 : w3.cell? ⟨g, 9, none⟩ = some s5 := H3.h0.cell 9
    have c10 : w3.cell? ⟨g, 10, none⟩ = some (.int .i64 C.width) := H3.h0.cell 10
    have c11 : w3.cell? ⟨g, 11, none⟩ = some (.int .i64 C.height) := H3.h0.cell 11
    obtain ⟨P, hP⟩ : ∃ F, F = pcsB C.pieces := ⟨_, rfl⟩
    rw [← hP]
    have HP := Lib.hid hP
    clear hP
    cases hw : inW K 1 6
    · obtain rfl : T = ⟨#[]⟩ := by rw [HT.out, word_no hw]
      obtain rfl : R = ⟨#[]⟩ := by
        rw [HR.out]; unfold fcB fcOk; rw [if_neg HK5.out, ← HK.out, hw]; rfl
      clear hw
      go_wp2
      go_ret
      exact ⟨rfl, H3.below⟩
    have hw1 := ba_size0 (s := T) (by rw [HT.out]; exact word_ok hw)
    cases hv : C.reg.valid
    · obtain rfl : F = ⟨#[]⟩ := by rw [HF.out]; unfold fmtR; rw [hv]; rfl
      obtain rfl : R = ⟨#[]⟩ := by
        rw [HR.out]; unfold fcB fcOk; rw [if_neg HK5.out, hv, Bool.false_and, Bool.and_false]; rfl
      clear hv hw
      go_wp2
      go_ret
      exact ⟨rfl, H3.below⟩
    have hfr := fmtR_ne hv
    rw [← HF.out] at hfr
    have hf1 := ba_size0 hfr.1
    cases hp : arePcs C.pieces
    · obtain rfl : P = ⟨#[]⟩ := by rw [HP.out]; unfold pcsB; rw [hp]; rfl
      obtain rfl : R = ⟨#[]⟩ := by
        rw [HR.out]; unfold fcB fcOk; rw [if_neg HK5.out, hv, hp, Bool.and_false, Bool.and_false]; rfl
      clear hv hw hp
      go_wp2
      go_ret
      exact ⟨rfl, H3.below⟩
    have hps := pcsB_size hp
    rw [← HP.out] at hps
    have hp1 := ba_size0 hps.1
    have HOK : Hid (fcOk C = true) := Lib.hid (by unfold fcOk; rw [← HK.out, hw, hv, hp]; rfl)
    have HV := Lib.hid (Reg.valid_iff.1 hv)
    obtain ⟨_, hfs⟩ := hfr
    obtain ⟨_, hpz⟩ := hps
    clear hv hw hp
    have y1 : ¬ 9223372036854775807 < T.size + 1 := by omega
    have y2 : ¬ 9223372036854775807 < T.size + 1 + F.size := by omega
    have y3 : ¬ 9223372036854775807 < T.size + 1 + F.size + 4 := by omega
    have y4 : ¬ 9223372036854775807 < T.size + 1 + F.size + 4 + P.size := by omega
    go_upto_region 12 with fail
    obtain ⟨S, hS⟩ : ∃ S, S = T ++ ⟨#[32]⟩ ++ F ++ ⟨#[32, 111, 102, 32]⟩ ++ P := ⟨_, rfl⟩
    have hss : S.size ≤ 500 := by
      rw [hS]
      simp only [ByteArray.size_append]
      show T.size + 1 + F.size + 4 + P.size ≤ 500
      omega
    have HS : Hid (headC C = S) := Lib.hid (by unfold headC; rw [hS, HT.out, HF.out, HP.out, HK.out])
    rw [← hS]
    clear hS y1 y2 y3 y4 hw1 hf1 hp1 hfs hpz hw7
    by_cases k2 : K = 2
    · subst k2
      by_cases ht2 : C.text.size ≤ 2000
      · have hti : ¬ (2000 : Int) < (C.text.size : Int) := by omega
        have HRR : Hid (R = S ++ ⟨#[32, 98, 121, 32, 91]⟩ ++ C.text ++ ⟨#[93]⟩) := Lib.hid (by
          rw [HR.out]; unfold fcB; rw [if_neg HK5.out, if_pos HOK.out, if_pos HK.out.symm, if_pos ht2, HS.out])
        have z1 : ¬ 9223372036854775807 < S.size + 5 := by omega
        have z2 : ¬ 9223372036854775807 < S.size + 5 + C.text.size := by omega
        have z3 : ¬ 9223372036854775807 < S.size + 5 + C.text.size + 1 := by omega
        go_wp2
        go_ret
        exact ⟨by rw [HRR.out]; rfl, H3.below⟩
      · have hti : (2000 : Int) < (C.text.size : Int) := by omega
        obtain rfl : R = ⟨#[]⟩ := by
          rw [HR.out]; unfold fcB; rw [if_neg HK5.out, if_pos HOK.out, if_pos HK.out.symm, if_neg ht2]
        go_wp2
        go_ret
        exact ⟨rfl, H3.below⟩
    have k2b : (K == 2) = false := by simpa using k2
    have K2 : Hid (¬ C.kind = 2) := Lib.hid (by rw [← HK.out]; exact k2)
    clear k2
    by_cases k3 : K = 3
    · subst k3
      have HPR := Lib.hid (spec_prime_c C.prime w3)
      go_wp2_with fail
      refine (HPR.out).mono ?_
      rintro e w4 ⟨rfl, rfl⟩
      cases hpr : prm C.prime
      · obtain rfl : R = ⟨#[]⟩ := by
          rw [HR.out]; unfold fcB; rw [if_neg HK5.out, if_pos HOK.out, if_neg K2.out, if_pos HK.out.symm, hpr]; rfl
        clear hpr
        go_wp2
        go_ret
        exact ⟨rfl, H3.below⟩
      · have HRR : Hid (R = S ++ ⟨#[32, 109, 111, 100, 32]⟩ ++ dgt C.prime ++ ⟨#[32, 98, 121, 32]⟩ ++ digS C.weights) := Lib.hid (by
          rw [HR.out]; unfold fcB; rw [if_neg HK5.out, if_pos HOK.out, if_neg K2.out, if_pos HK.out.symm, hpr, HS.out]; rfl)
        have l6 := Later.cell c6 (Blk.lt H3.h0)
        have l7 := Later.cell c7 (Blk.lt H3.h0)
        have HL : Hid (∀ u : Later w3, Calls Tryz.prog 48 #[s4] u.w fun e w' => e = .returned (.string (digS C.weights)) ∧ Below u.w.heap.size u.w w') := Lib.hid fun u =>
          spec_digits_c u.w (R4.out u.w (H3.below.trans (u.h.mono H3.below.size)))
        have hpi := prm_in hpr
        have HI1 : Hid (∀ u : Later w3, Calls Tryz.prog 47 #[.int .i64 C.prime] u.w fun e w' => e = .returned (.string (dgt C.prime)) ∧ Below u.w.heap.size u.w w') := Lib.hid fun u => spec_dig_c C.prime u.w hpi.1 hpi.2
        have hu1 : (dgt C.prime).size ≤ 1 := Nat.le_of_eq (dgt_size _)
        have hd := digS_size C.weights
        generalize dgt C.prime = U1 at *
        generalize digS C.weights = D at *
        clear c0 c1 c2 c3 c4 c5 c6 c7 c8 c9 c10 c11
        have z1 : ¬ 9223372036854775807 < S.size + 5 := by omega
        have z2 : ¬ 9223372036854775807 < S.size + 5 + U1.size := by omega
        have z3 : ¬ 9223372036854775807 < S.size + 5 + U1.size + 4 := by omega
        have z4 : ¬ 9223372036854775807 < S.size + 5 + U1.size + 4 + D.size := by omega
        clear hu1 hd hpr hpi hss
        go_wp2_with fail
        refine wp_region_later (by kernel_rfl) (by kernel_rfl) ?_
        repeat (go_big_quiet_step (first | (go_at_call 47; with_reducible exact Later.call (HI1.out _)) | (go_at_call 48; with_reducible exact Later.call (HL.out _))))
        refine wpQuiet_nil ?_
        intro w4 hw4
        obtain ⟨u4, hu4⟩ := hw4
        subst hu4
        have H4 := H3.later u4
        clear l6 l7 HL HI1 z1 z2 z3 z4
        generalize u4.w = w4 at *
        go_wp2
        go_ret
        exact ⟨by rw [HRR.out]; rfl, H4.below⟩
    have k3b : (K == 3) = false := by simpa using k3
    have K3 : Hid (¬ C.kind = 3) := Lib.hid (by rw [← HK.out]; exact k3)
    clear k3
    by_cases k4 : K = 4
    · subst k4
      have HRR : Hid (R = S ++ ⟨#[32, 98, 121, 32]⟩ ++ fmtTil C.reg C.masks ++ ⟨#[32, 97, 110, 100, 32]⟩ ++ fmtTil C.reg [C.mask]) := Lib.hid (by
        rw [HR.out]; unfold fcB; rw [if_neg HK5.out, if_pos HOK.out, if_neg K2.out, if_neg K3.out, if_pos HK.out.symm, HS.out])
      have HTA : Hid (∀ w1, Below w.heap.size w w1 → Calls Tryz.prog 52 #[.agg #[.int .i64 C.reg.w, s1], s3] w1 fun e w' => e = .returned (.string (fmtTil C.reg C.masks)) ∧ Below w1.heap.size w1 w') := Lib.hid fun w1 b1 => spec_fmtTil_c w1 (R1.out w1 b1) (R3.out w1 b1) hr
      have HTB : Hid (∀ w1 v L, Sep w w1 (Res.row v 3 1 1 (ic [C.mask]) :: L) → Calls Tryz.prog 52 #[.agg #[.int .i64 C.reg.w, s1], v] w1 fun e w' => e = .returned (.string (fmtTil C.reg [C.mask])) ∧ Below w1.heap.size w1 w') := Lib.hid fun w1 v L hs =>
        spec_fmtTil_c w1 (R1.out w1 hs.below) (hs.oi.sr.more (Nat.zero_le _) (Nat.le_refl _)) hr
      have hts := fmtTil_size C.reg C.masks
      have hts2 := fmtTil_size C.reg [C.mask]
      generalize fmtTil C.reg C.masks = U1 at *
      generalize fmtTil C.reg [C.mask] = U2 at *
      have z1 : ¬ 9223372036854775807 < S.size + 4 := by omega
      have z2 : ¬ 9223372036854775807 < S.size + 4 + U1.size := by omega
      have z3 : ¬ 9223372036854775807 < S.size + 4 + U1.size + 5 := by omega
      have z4 : ¬ 9223372036854775807 < S.size + 4 + U1.size + 5 + U2.size := by omega
      clear hts hts2
      go_upto_region 22 with fail
      have HD := H3.drew
      have HE := (H3.rowBox 3 #[.int .i64 C.mask] 1 1 rfl (by decide)).drew
      clear c0 c1 c2 c3 c4 c5 c6 c7 c8 c9 c10 c11
      clear k2b k3b hss HTX
      have c1 : w3.drew.cell? ⟨g, 1, none⟩ = some (.int .i64 C.reg.w) := HD.h0.cell 1
      have c2 : w3.drew.cell? ⟨g, 2, none⟩ = some s1 := HD.h0.cell 2
      have c4 : w3.drew.cell? ⟨g, 4, none⟩ = some s3 := HD.h0.cell 4
      have c8 : w3.drew.cell? ⟨g, 8, none⟩ = some (.int .i64 C.mask) := HD.h0.cell 8
      have e1 : (w3.alloc (.cells #[.int .i64 C.mask] 3)).drew.cell? ⟨g, 1, none⟩ = some (.int .i64 C.reg.w) := HE.h1.cell 1
      have e2 : (w3.alloc (.cells #[.int .i64 C.mask] 3)).drew.cell? ⟨g, 2, none⟩ = some s1 := HE.h1.cell 2
      have e4 : (w3.alloc (.cells #[.int .i64 C.mask] 3)).drew.cell? ⟨g, 4, none⟩ = some s3 := HE.h1.cell 4
      have e8 : (w3.alloc (.cells #[.int .i64 C.mask] 3)).drew.cell? ⟨g, 8, none⟩ = some (.int .i64 C.mask) := HE.h1.cell 8
      go_region_held3 (fun w' => w'.cell? ⟨g, 1, none⟩ = some (.int .i64 C.reg.w) ∧ w'.cell? ⟨g, 2, none⟩ = some s1 ∧ w'.cell? ⟨g, 4, none⟩ = some s3 ∧ w'.cell? ⟨g, 8, none⟩ = some (.int .i64 C.mask))
        (first | ((try dsimp only); refine ⟨?_, ?_, ?_, ?_⟩ <;> assumption) | go_keep)
        (first
        | (go_at_call 52; (with_reducible refine (HTA.out _ HD.below).mono ?_); rintro e w5 ⟨rfl, b5⟩; have H5 := HD.step b5; clear b5; have f1 : w5.cell? ⟨g, 1, none⟩ = some (.int .i64 C.reg.w) := H5.h0.cell 1; have f2 : w5.cell? ⟨g, 2, none⟩ = some s1 := H5.h0.cell 2; have f4 : w5.cell? ⟨g, 4, none⟩ = some s3 := H5.h0.cell 4; have f8 : w5.cell? ⟨g, 8, none⟩ = some (.int .i64 C.mask) := H5.h0.cell 8; have H6 := (H5.rowBox 3 #[.int .i64 C.mask] 1 1 rfl (by decide)); have k1 : (w5.alloc (.cells #[.int .i64 C.mask] 3)).cell? ⟨g, 1, none⟩ = some (.int .i64 C.reg.w) := H6.h1.cell 1; have k2 : (w5.alloc (.cells #[.int .i64 C.mask] 3)).cell? ⟨g, 2, none⟩ = some s1 := H6.h1.cell 2; have k4 : (w5.alloc (.cells #[.int .i64 C.mask] 3)).cell? ⟨g, 4, none⟩ = some s3 := H6.h1.cell 4; have k8 : (w5.alloc (.cells #[.int .i64 C.mask] 3)).cell? ⟨g, 8, none⟩ = some (.int .i64 C.mask) := H6.h1.cell 8)
        | (go_at_call 52; (with_reducible refine (HTB.out _ _ _ H6).mono ?_); rintro e w7 ⟨rfl, b7⟩; have H7 := H6.step b7; have f1 : w7.cell? ⟨g, 1, none⟩ = some (.int .i64 C.reg.w) := H7.h1.cell 1; have f2 : w7.cell? ⟨g, 2, none⟩ = some s1 := H7.h1.cell 2; have f4 : w7.cell? ⟨g, 4, none⟩ = some s3 := H7.h1.cell 4; have f8 : w7.cell? ⟨g, 8, none⟩ = some (.int .i64 C.mask) := H7.h1.cell 8)
        | (go_at_call 52; (with_reducible refine (HTA.out _ HE.below).mono ?_); rintro e w5 ⟨rfl, b5⟩; have H6 := HE.step b5; clear b5; have f1 : w5.cell? ⟨g, 1, none⟩ = some (.int .i64 C.reg.w) := H6.h1.cell 1; have f2 : w5.cell? ⟨g, 2, none⟩ = some s1 := H6.h1.cell 2; have f4 : w5.cell? ⟨g, 4, none⟩ = some s3 := H6.h1.cell 4; have f8 : w5.cell? ⟨g, 8, none⟩ = some (.int .i64 C.mask) := H6.h1.cell 8)
        | (go_at_call 52; (with_reducible refine (HTB.out _ _ _ HE).mono ?_); rintro e w7 ⟨rfl, b7⟩; have H8 := HE.step b7; clear b7; have f1 : w7.cell? ⟨g, 1, none⟩ = some (.int .i64 C.reg.w) := H8.h1.cell 1; have f2 : w7.cell? ⟨g, 2, none⟩ = some s1 := H8.h1.cell 2; have f4 : w7.cell? ⟨g, 4, none⟩ = some s3 := H8.h1.cell 4; have f8 : w7.cell? ⟨g, 8, none⟩ = some (.int .i64 C.mask) := H8.h1.cell 8)
        | (go_at_call 52; (with_reducible refine (HTA.out _ H8.below).mono ?_); rintro e w5 ⟨rfl, b5⟩; have H7 := H8.step b5; have f1 : w5.cell? ⟨g, 1, none⟩ = some (.int .i64 C.reg.w) := H7.h1.cell 1; have f2 : w5.cell? ⟨g, 2, none⟩ = some s1 := H7.h1.cell 2; have f4 : w5.cell? ⟨g, 4, none⟩ = some s3 := H7.h1.cell 4; have f8 : w5.cell? ⟨g, 8, none⟩ = some (.int .i64 C.mask) := H7.h1.cell 8))
      all_goals
        go_wp2
        go_ret
        exact ⟨by rw [HRR.out]; rfl, H7.below⟩
    · have k4b : (K == 4) = false := by simpa using k4
      have HRR : Hid (R = S ++ ⟨#[32, 98, 121, 32]⟩ ++ fmtTil C.reg C.masks) := Lib.hid (by
        rw [HR.out]; unfold fcB; rw [if_neg HK5.out, if_pos HOK.out, if_neg K2.out, if_neg K3.out, if_neg (by rw [← HK.out]; exact k4), HS.out])
      clear k4
      have HTL := Lib.hid (spec_fmtTil_c w3 (R1.out w3 H3.below) (R3.out w3 H3.below) hr)
      have hts := fmtTil_size C.reg C.masks
      generalize fmtTil C.reg C.masks = U1 at *
      have z1 : ¬ 9223372036854775807 < S.size + 4 := by omega
      have z2 : ¬ 9223372036854775807 < S.size + 4 + U1.size := by omega
      go_wp2_with fail
      refine (HTL.out).mono ?_
      rintro e w4 ⟨rfl, b4⟩
      have H4 := H3.step b4
      go_wp2
      go_ret
      exact ⟨by rw [HRR.out]; rfl, H4.below⟩
end Go.Proofs.YtjoglffhdoneoaaGreatDoor
