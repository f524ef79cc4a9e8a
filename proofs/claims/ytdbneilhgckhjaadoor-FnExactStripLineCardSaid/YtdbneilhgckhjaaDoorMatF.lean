
/-
  Square matrices: the tests and the trace, on both sides.
-/
import Derived.Test.YtdbneilhgckhjaaDoorMatE
namespace Go.Proofs.YtdbneilhgckhjaaDoor
open Go.RowKit

def trace (M : List (List Int)) : Nat → Int
  | 0 => 0
  | i + 1 => wr (trace M i + at2 M i i)
set_option maxRecDepth 100000 in
set_option maxHeartbeats 1600000 in
theorem impl_square_c {v : Value} {M : List (List Int)} {N : Nat} (rows most : Nat) (w : World) (h : IntSSRd w 0 w.heap.size v M) (hN1 : 1 ≤ N) (hN : N ≤ rows) (hrows : rows ≤ 16) (hl : M.length = N) (hr : ∀ r ∈ M, r.length = N) (hb : ∀ r ∈ M, ∀ x ∈ r, 0 ≤ x ∧ x ≤ most) :
    Calls Tryd.prog 101 #[v, .int .i64 rows, .int .i64 most] w fun e w' => e = .returned (.bool true) ∧ Below w.heap.size w w' := by
  obtain ⟨bA, oA, cA, rfl, hbA, HA⟩ := h.shape (by omega)
  rw [hl]
  have HA := Lib.hid HA
  have Hl := Lib.hid hl
  have Hr := Lib.hid hr
  have Hb := Lib.hid hb
  clear h hl hr hb
  go_enter Tryd.func101, Tryd.ntmps101
  go_wp2
  go_loopw [13] (fun iv wx => ∃ i : Nat, i ≤ N ∧ iv = .int .i64 i ∧ Below w.heap.size w wx) (fun iv _ => N - (intOf iv).toNat)
  case atStart => exact ⟨0, Nat.zero_le _, rfl, Below.refl _ _⟩
  case round =>
    obtain ⟨i, hiN, rfl, hbel⟩ := hrel
    by_cases hlt : i < N
    ·
      obtain ⟨r, hri⟩ : ∃ r, M[i]? = some r := ⟨M[i]'(by rw [Hl.out]; exact hlt), List.getElem?_eq_getElem _⟩
      have hmem := List.mem_of_getElem? hri
      have hrl := Hr.out r hmem
      obtain ⟨gr, or, cr, xr, hgr, HR⟩ := HA.out i r hri (by omega)
      rw [hrl] at xr
      replace xr := (hbel.cell (p := ⟨bA, oA + i, none⟩) hbA).trans xr
      have HR := Lib.hid HR
      have HRL := Lib.hid hrl
      have HRB := Lib.hid (Hb.out r hmem)
      clear hri hmem hrl
      obtain ⟨wo, hwo⟩ : ∃ wo : World, wo = wr := ⟨_, rfl⟩
      subst hwo
      go_wp2
      clear xr
      go_loopw [24] (fun jv wx => ∃ j : Nat, j ≤ N ∧ jv = .int .i64 j ∧ Below w.heap.size w wx) (fun jv _ => N - (intOf jv).toNat)
      case atStart => exact ⟨0, Nat.zero_le _, rfl, hbel⟩
      case round =>
        clear hbel
        obtain ⟨j, hjN, rfl, hbel⟩ := hrel
        by_cases hlj : j < N
        · obtain ⟨x, hx⟩ : ∃ x, r[j]? = some x := ⟨r[j]'(by rw [HRL.out]; exact hlj), List.getElem?_eq_getElem _⟩
          have xx := (hbel.cell (p := ⟨gr, or + j, none⟩) hgr).trans (HR.out j x hx)
          have hin : inW x 0 (most : Int) = true := inW_iff.2 (HRB.out x (List.mem_of_getElem? hx))
          clear hx
          go_wp2_with (go_at_call 65; refine (between_w _ _ _ _).mono ?_; rintro e w' ⟨rfl, rfl⟩)
          clear hin xx
          go_roundw
          case rel => exact ⟨j + 1, by omega, by go_num, hbel⟩
          case measure => simp [intOf]; omega
        · obtain rfl : j = N := by omega
          go_wp2
          go_roundw
          case rel => exact ⟨i + 1, by omega, by go_num, hbel⟩
          case measure => simp [intOf]; omega
    · obtain rfl : i = N := by omega
      have hin : inW (i : Int) 1 (rows : Int) = true := inW_iff.2 ⟨by omega, by omega⟩
      go_wp2_with (go_at_call 65; refine (between_w _ _ _ _).mono ?_; rintro e w' ⟨rfl, rfl⟩)
      go_ret
      exact ⟨rfl, hbel⟩
set_option maxRecDepth 100000 in
set_option maxHeartbeats 1600000 in
theorem spec_square_c {v : Value} {M : List (List Int)} {N : Nat} (w : World) (h : IntSSRd w 0 w.heap.size v M) (hN1 : 1 ≤ N) (hN : N ≤ 16) (hl : M.length = N) (hr : ∀ r ∈ M, r.length = N) (hb : ∀ r ∈ M, ∀ x ∈ r, 0 ≤ x ∧ x ≤ 20) :
    Calls Tryd.prog 96 #[v] w fun e w' => e = .returned (.bool true) ∧ Below w.heap.size w w' := by
  obtain ⟨bA, oA, cA, rfl, hbA, HA⟩ := h.shape (by omega)
  rw [hl]
  have HA := Lib.hid HA
  have Hl := Lib.hid hl
  have Hr := Lib.hid hr
  have Hb := Lib.hid hb
  clear h hl hr hb
  go_enter Tryd.func96, Tryd.ntmps96
  go_wp2
  go_loopw [3] (fun iv wx => ∃ i : Nat, i ≤ N ∧ iv = .int .i64 i ∧ Below w.heap.size w wx) (fun iv _ => N - (intOf iv).toNat)
  case atStart => exact ⟨0, Nat.zero_le _, rfl, Below.refl _ _⟩
  case round =>
    obtain ⟨i, hiN, rfl, hbel⟩ := hrel
    by_cases hlt : i < N
    · have hbel0 := hbel
      obtain ⟨r, hri⟩ : ∃ r, M[i]? = some r := ⟨M[i]'(by rw [Hl.out]; exact hlt), List.getElem?_eq_getElem _⟩
      have hmem := List.mem_of_getElem? hri
      have hrl := Hr.out r hmem
      obtain ⟨gr, or, cr, xr, hgr, HR⟩ := HA.out i r hri (by omega)
      rw [hrl] at xr
      replace xr := (hbel.cell (p := ⟨bA, oA + i, none⟩) hbA).trans xr
      have HR := Lib.hid HR
      have HRL := Lib.hid hrl
      have HRB := Lib.hid (Hb.out r hmem)
      clear hri hmem hrl
      have HXR := Lib.hid xr
      obtain ⟨wo, hwo⟩ : ∃ wo : World, wo = wr := ⟨_, rfl⟩
      subst hwo
      go_wp2
      clear xr
      go_loopw [4] (fun jv wx => ∃ j : Nat, j ≤ N ∧ jv = .int .i64 j ∧ Below wo.heap.size wo wx) (fun jv _ => N - (intOf jv).toNat)
      case atStart => exact ⟨0, Nat.zero_le _, rfl, Below.refl _ _⟩
      case round =>
        obtain ⟨j, hjN, rfl, hb2⟩ := hrel
        have xr := (hb2.cell (p := ⟨bA, oA + i, none⟩) (Nat.lt_of_lt_of_le hbA hbel.size)).trans HXR.out
        have HB2 := Lib.hid hb2
        replace hb2 := hbel.trans (hb2.mono hbel.size)
        by_cases hlj : j < N
        · obtain ⟨x, hx⟩ : ∃ x, r[j]? = some x := ⟨r[j]'(by rw [HRL.out]; exact hlj), List.getElem?_eq_getElem _⟩
          have xx := (hb2.cell (p := ⟨gr, or + j, none⟩) hgr).trans (HR.out j x hx)
          have hin : inW x 0 1000000 = true := inW_iff.2 (by have := HRB.out x (List.mem_of_getElem? hx); omega)
          clear hx
          go_wp2_with (go_at_call 59; refine (l1In_w _ _ _ _).mono ?_; rintro e w' ⟨rfl, rfl⟩)
          clear hin xx xr
          go_roundw
          case rel => exact ⟨j + 1, by omega, by go_num, HB2.out⟩
          case measure => simp [intOf]; omega
        · obtain rfl : j = N := by omega
          go_wp2
          go_roundw
          case rel => exact ⟨i + 1, by omega, by go_num, hb2⟩
          case measure => simp [intOf]; omega
    · obtain rfl : i = N := by omega
      have hin : inW (i : Int) 1 16 = true := inW_iff.2 ⟨by omega, by omega⟩
      go_wp2_with (go_at_call 59; refine (l1In_w _ _ _ _).mono ?_; rintro e w' ⟨rfl, rfl⟩)
      go_ret
      exact ⟨rfl, hbel⟩
set_option maxRecDepth 100000 in
set_option maxHeartbeats 1600000 in
theorem impl_diagonal_c {v : Value} {M : List (List Int)} {N : Nat} (w : World) (h : IntSSRd w 0 w.heap.size v M) (hN1 : 1 ≤ N) (hN : N ≤ 16) (hl : M.length = N) (hr : ∀ r ∈ M, r.length = N) :
    Calls Tryd.prog 103 #[v] w fun e w' => e = .returned (.int .i64 (trace M N)) ∧ Below w.heap.size w w' := by
  obtain ⟨bA, oA, cA, rfl, hbA, HA⟩ := h.shape (by omega)
  rw [hl]
  have HA := Lib.hid HA
  have Hl := Lib.hid hl
  have Hr := Lib.hid hr
  clear h hl hr
  go_enter Tryd.func103, Tryd.ntmps103
  go_wp2
  go_loopw [3, 7] (fun nv iv wx => ∃ (i : Nat) (n : Int), i ≤ N ∧ iv = .int .i64 i ∧ nv = .int .i64 n ∧ Hid (n = trace M i) ∧ Below w.heap.size w wx) (fun _ iv _ => N - (intOf iv).toNat)
  case atStart => exact ⟨0, 0, Nat.zero_le _, rfl, rfl, Lib.hid rfl, Below.refl _ _⟩
  case round =>
    obtain ⟨i, n, hiN, rfl, rfl, HT, hbel⟩ := hrel
    by_cases hlt : i < N
    · obtain ⟨r, hri⟩ : ∃ r, M[i]? = some r := ⟨M[i]'(by rw [Hl.out]; exact hlt), List.getElem?_eq_getElem _⟩
      have hrl := Hr.out r (List.mem_of_getElem? hri)
      obtain ⟨gr, or, cr, xr, hgr, HR⟩ := HA.out i r hri (by omega)
      rw [hrl] at xr
      obtain ⟨x, hx⟩ : ∃ x, r[i]? = some x := ⟨r[i]'(by rw [hrl]; exact hlt), List.getElem?_eq_getElem _⟩
      have xx := (hbel.cell (p := ⟨gr, or + i, none⟩) hgr).trans (HR i x hx)
      replace xr := (hbel.cell (p := ⟨bA, oA + i, none⟩) hbA).trans xr
      have HX : Hid (trace M (i + 1) = wrap64 (n + x)) := Lib.hid (by rw [trace, ← HT.out, at2_get hri hx]; rfl)
      clear hri hrl HR hx
      go_wp2
      clear xr xx
      go_roundw
      case rel => exact ⟨i + 1, _, by omega, by go_num, rfl, Lib.hid HX.out.symm, hbel⟩
      case measure => simp [intOf]; omega
    · obtain rfl : i = N := by omega
      obtain rfl : n = trace M i := HT.out
      go_wp2
      go_ret
      exact ⟨rfl, hbel⟩
end Go.Proofs.YtdbneilhgckhjaaDoor
