
/-
  The trace of a search without result, in plain Lean. No program in sight. The trace of a search without result: the reference's walk. The trace of a search without result: the program's walk. The trace of a search without result: both functions.
-/
import Derived.Test.YtjoglffhdoneoaaGreatDoorTilP
import Derived.Test.YtjoglffhdoneoaaGreatDoorAllX
import Derived.Test.YtjoglffhdoneoaaGreatDoorPlcSX
import Derived.Test.YtjoglffhdoneoaaGreatDoorFtS
import Derived.Test.YtjoglffhdoneoaaGreatDoorUbyte
import Derived.Test.YtjoglffhdoneoaaGreatDoorFtX
namespace Go.Proofs.YtjoglffhdoneoaaGreatDoor
open Go.RowKit

/-- parentheses around the trace of each placement that fits, in order; none if there is a tiling -/
def trc (A : List Nat) (free : Nat) : Option (List UInt8) :=
  if free = 0 then none else A.foldl (fun acc m => if _h : m ≠ 0 ∧ free ≠ 0 then (if fitB free m then acc.bind fun s => (trc A (free - m)).map fun t => s ++ 40 :: (t ++ [41]) else acc) else acc) (some [])
termination_by free
decreasing_by omega
def trcAt (A : List Nat) (free : Nat) (acc : Option (List UInt8)) (m : Nat) : Option (List UInt8) :=
  if fitB free m then acc.bind fun s => (trc A (free - m)).map fun t => s ++ 40 :: (t ++ [41]) else acc
theorem trc_zero {A : List Nat} : trc A 0 = none := by rw [trc]; simp
theorem trc_pos {A : List Nat} {free : Nat} (h : free ≠ 0) : trc A free = A.foldl (trcAt A free) (some []) := by
  rw [trc, if_neg h]
  congr 1
  funext acc m
  unfold trcAt
  by_cases hm : m = 0
  · subst hm
    have : fitB free 0 = false := by
      cases hf : fitB free 0
      · rfl
      · exact absurd rfl (fitB_pos hf)
    simp [this]
  · rw [dif_pos ⟨hm, h⟩]
/-- .. over the first i placements -/
def trcI (A : List Nat) (free : Nat) (B : List Nat) : Option (List UInt8) := B.foldl (trcAt A free) (some [])
theorem trcI_snoc {A B : List Nat} {free m : Nat} : trcI A free (B ++ [m]) = trcAt A free (trcI A free B) m := by simp [trcI]
theorem trcI_take {A B : List Nat} {free m i : Nat} (h : B[i]? = some m) : trcI A free (B.take (i + 1)) = trcAt A free (trcI A free (B.take i)) m := by
  have e : B.take (i + 1) = B.take i ++ [m] := by rw [List.take_add_one, h]; rfl
  rw [e, trcI_snoc]
theorem trcAt_none {A : List Nat} {free : Nat} (B : List Nat) : B.foldl (trcAt A free) none = none := by
  induction B with
  | nil => rfl
  | cons m B ih =>
    show B.foldl (trcAt A free) (trcAt A free none m) = none
    have : trcAt A free none m = none := by unfold trcAt; split <;> rfl
    rw [this, ih]
/-- what is written stays; no trace stays none -/
theorem trcI_app {A B C : List Nat} {free : Nat} (h : trcI A free B = none) : trcI A free (B ++ C) = none := by
  unfold trcI at h ⊢
  rw [List.foldl_append, h, trcAt_none]
theorem trcAt_grow {A : List Nat} {free m : Nat} {s t : List UInt8} (h : trcAt A free (some s) m = some t) : s.length ≤ t.length := by
  unfold trcAt at h
  split at h
  · cases hx : trc A (free - m) with
    | none => rw [hx] at h; cases h
    | some x =>
      rw [hx] at h
      injection h with h
      rw [← h, List.length_append]
      omega
  · injection h with h
    rw [h]
    exact Nat.le_refl _
theorem trcI_grow {A : List Nat} {free : Nat} : ∀ (C B : List Nat) {s t : List UInt8}, trcI A free B = some s → trcI A free (B ++ C) = some t → s.length ≤ t.length
  | [], B, s, t, h, h' => by
    rw [List.append_nil, h] at h'
    injection h' with h'
    rw [h']
    exact Nat.le_refl _
  | m :: C, B, s, t, h, h' => by
    have e : B ++ m :: C = (B ++ [m]) ++ C := by simp
    rw [e] at h'
    cases hx : trcI A free (B ++ [m]) with
    | none => rw [trcI_app hx] at h'; cases h'
    | some x =>
      have h1 := trcI_grow C (B ++ [m]) hx h'
      rw [trcI_snoc, h] at hx
      exact Nat.le_trans (trcAt_grow hx) h1
theorem trcI_no {A B : List Nat} {free m i : Nat} (h : B[i]? = some m) (hf : fitB free m = false) : trcI A free (B.take (i + 1)) = trcI A free (B.take i) := by
  rw [trcI_take h]; unfold trcAt; rw [hf]; rfl
theorem trcI_yes {A B : List Nat} {free m i : Nat} {s t : List UInt8} (h : B[i]? = some m) (hf : fitB free m = true) (hs : trcI A free (B.take i) = some s) (ht : trc A (free - m) = some t) : trcI A free (B.take (i + 1)) = some (s ++ 40 :: (t ++ [41])) := by
  rw [trcI_take h, hs]; unfold trcAt; rw [hf, ht]; rfl
/-- a tiling below: no trace -/
theorem trcI_fail {A B : List Nat} {free m i : Nat} (h : B[i]? = some m) (hf : fitB free m = true) (ht : trc A (free - m) = none) : trcI A free B = none := by
  have h1 : trcI A free (B.take (i + 1)) = none := by
    rw [trcI_take h]; unfold trcAt; rw [hf, ht]
    cases trcI A free (B.take i) <;> rfl
  have := trcI_app (C := B.drop (i + 1)) h1
  rwa [List.take_append_drop] at this
/-- a trace as long as its parts -/
theorem trcI_long {A B : List Nat} {free m i : Nat} {s t : List UInt8} (h : B[i]? = some m) (hf : fitB free m = true) (hs : trcI A free (B.take i) = some s) (ht : trc A (free - m) = some t) {T : List UInt8} (hT : trcI A free B = some T) : s.length + t.length + 2 ≤ T.length := by
  have h1 := trcI_yes h hf hs ht
  have h2 := trcI_grow (B.drop (i + 1)) (B.take (i + 1)) h1 (by rw [List.take_append_drop]; exact hT)
  simp at h2
  omega
theorem trc_all {A : List Nat} {free : Nat} (h : free ≠ 0) : trc A free = trcI A free A := trc_pos h
/-- only the placements with the least free cell count -/
theorem trcI_bit {A : List Nat} {free : Nat} : ∀ (B : List Nat), trcI A free (B.filter fun m => m.testBit (lowB free)) = trcI A free B := by
  intro B
  unfold trcI
  generalize (some [] : Option (List UInt8)) = z
  induction B generalizing z with
  | nil => rfl
  | cons m B ih =>
    rw [List.filter_cons]
    split
    · rename_i hb
      exact ih _
    · rename_i hb
      have : trcAt A free z m = z := by
        unfold trcAt
        have : fitB free m = false := by unfold fitB; simp [hb]
        rw [this]; rfl
      show _ = B.foldl (trcAt A free) (trcAt A free z m)
      rw [this]
      exact ih z
theorem trc_low {A : List Nat} {free : Nat} (h : free ≠ 0) : trc A free = trcI A free (A.filter fun m => m.testBit (lowB free)) := by rw [trc_all h, trcI_bit]
/-- a text of the reference's, at most so long -/
def spcR (A : List Nat) (free : Nat) (most : Int) : Option (List UInt8) := match trc A free with
  | none => none
  | some T => if T = [] ∨ (T.length : Int) ≤ most then some T else none
theorem spcR_zero {A : List Nat} {most : Int} : spcR A 0 most = none := by unfold spcR; rw [trc_zero]
theorem spcR_none {A : List Nat} {free : Nat} {most : Int} (h : ∀ T, trc A free = some T → T ≠ [] ∧ most < T.length) : spcR A free most = none := by
  unfold spcR
  cases hT : trc A free with
  | none => rfl
  | some T =>
    have := h T hT
    simp only
    rw [if_neg]
    rintro (h1 | h1)
    · exact this.1 h1
    · omega
theorem len_ne {T : List UInt8} {n : Nat} (h : n + 2 ≤ T.length) : T ≠ [] := by
  rintro rfl
  simp at h
theorem spc_stop1 {A : List Nat} {free m i : Nat} {most : Int} {S : List UInt8} (h0 : free ≠ 0) (h : A[i]? = some m) (hf : fitB free m = true) (hs : trcI A free (A.take i) = some S) (hr : spcR A (free - m) (most - S.length - 2) = none) : spcR A free most = none := by
  refine spcR_none fun T hT => ?_
  rw [trc_all h0] at hT
  cases ht : trc A (free - m) with
  | none => rw [trcI_fail h hf ht] at hT; cases hT
  | some T' =>
    have h1 := trcI_long h hf hs ht hT
    have h2 : ¬ (T' = [] ∨ (T'.length : Int) ≤ most - S.length - 2) := fun hc => by
      unfold spcR at hr
      rw [ht] at hr
      simp only [if_pos hc] at hr
      cases hr
    rw [not_or] at h2
    exact ⟨len_ne (n := 0) (by omega), by omega⟩
theorem spc_sub {A : List Nat} {free : Nat} {most : Int} {T : List UInt8} (hr : spcR A free most = some T) : trc A free = some T := by
  unfold spcR at hr
  cases ht : trc A free with
  | none => rw [ht] at hr; cases hr
  | some T' =>
    rw [ht] at hr
    simp only at hr
    split at hr
    · exact hr
    · cases hr
theorem spc_stop2 {A : List Nat} {free m i : Nat} {most : Int} {S T' : List UInt8} (h0 : free ≠ 0) (h : A[i]? = some m) (hf : fitB free m = true) (hs : trcI A free (A.take i) = some S) (ht : trc A (free - m) = some T') (hl : most < S.length + T'.length + 2) : spcR A free most = none := by
  refine spcR_none fun T hT => ?_
  rw [trc_all h0] at hT
  have h1 := trcI_long h hf hs ht hT
  exact ⟨len_ne (n := 0) (by omega), by omega⟩
theorem spc_end {A : List Nat} {free : Nat} {most : Int} {S : List UInt8} (h0 : free ≠ 0) (hs : trcI A free A = some S) (hl : S = [] ∨ (S.length : Int) ≤ most) : spcR A free most = some S := by
  unfold spcR
  rw [trc_all h0, hs]
  simp only [if_pos hl]
theorem spc_len {A : List Nat} {free : Nat} {most : Int} {T : List UInt8} (hr : spcR A free most = some T) : T = [] ∨ (T.length : Int) ≤ most := by
  unfold spcR at hr
  cases ht : trc A free with
  | none => rw [ht] at hr; cases hr
  | some T' =>
    rw [ht] at hr
    simp only at hr
    split at hr
    · rename_i h; injection hr with hr; rw [← hr]; exact h
    · cases hr
/-- the text behind n bytes, at most 2000 in all -/
def trOK (A : List Nat) (free n : Nat) : Option (List UInt8) := match trc A free with
  | none => none
  | some T => if n + T.length ≤ 2000 then some T else none
theorem trOK_zero {A : List Nat} {n : Nat} : trOK A 0 n = none := by unfold trOK; rw [trc_zero]
theorem trOK_none {A : List Nat} {free n : Nat} (h : ∀ T, trc A free = some T → 2000 < n + T.length) : trOK A free n = none := by
  unfold trOK
  cases hT : trc A free with
  | none => rfl
  | some T => simp only; rw [if_neg (by have := h T hT; omega)]
section
variable {A : List Nat} {free m i n : Nat} {S T' : List UInt8}
theorem tr_stop1 (h0 : free ≠ 0) (h : (A.filter fun m => m.testBit (lowB free))[i]? = some m) (hf : fitB free m = true) (hs : trcI A free ((A.filter fun m => m.testBit (lowB free)).take i) = some S) (hl : 2000 < n + S.length + 1) : trOK A free n = none := by
  refine trOK_none fun T hT => ?_
  rw [trc_low h0] at hT
  cases ht : trc A (free - m) with
  | none => rw [trcI_fail h hf ht] at hT; cases hT
  | some T' => have := trcI_long h hf hs ht hT; omega
theorem tr_stop2 (h0 : free ≠ 0) (h : (A.filter fun m => m.testBit (lowB free))[i]? = some m) (hf : fitB free m = true) (hs : trcI A free ((A.filter fun m => m.testBit (lowB free)).take i) = some S) (hr : trOK A (free - m) (n + S.length + 1) = none) : trOK A free n = none := by
  refine trOK_none fun T hT => ?_
  rw [trc_low h0] at hT
  cases ht : trc A (free - m) with
  | none => rw [trcI_fail h hf ht] at hT; cases hT
  | some T' =>
    have h1 := trcI_long h hf hs ht hT
    have h2 : ¬ (n + S.length + 1 + T'.length ≤ 2000) := fun hc => by
      unfold trOK at hr
      rw [ht] at hr
      simp only [if_pos hc] at hr
      cases hr
    omega
theorem tr_sub (hr : trOK A free n = some T') : trc A free = some T' ∧ n + T'.length ≤ 2000 := by
  unfold trOK at hr
  cases ht : trc A free with
  | none => rw [ht] at hr; cases hr
  | some T =>
    rw [ht] at hr
    simp only at hr
    split at hr
    · rename_i h; injection hr with hr; subst hr; exact ⟨rfl, h⟩
    · cases hr
theorem tr_end (h0 : free ≠ 0) (hs : trcI A free (A.filter fun m => m.testBit (lowB free)) = some S) : trOK A free n = if n + S.length ≤ 2000 then some S else none := by
  unfold trOK
  rw [trc_low h0, hs]
end
/-- both bounds say the same at the start -/
theorem spc_tr {A : List Nat} {free : Nat} : spcR A free 2000 = trOK A free 0 := by
  unfold spcR trOK
  cases trc A free with
  | none => rfl
  | some T =>
    simp only
    by_cases h : T.length ≤ 2000
    · rw [if_pos (.inr (by omega)), if_pos (by omega)]
    · rw [if_neg, if_neg (by omega)]
      rintro (h1 | h1)
      · subst h1; simp at h
      · omega
def refR (r : Reg) (ps : List (List Cell)) : Option (List UInt8) := if (r.valid && arePcs ps) = true then trOK (allN r ps) r.mask 0 else none
end Go.Proofs.YtjoglffhdoneoaaGreatDoor

namespace Go.Proofs.YtjoglffhdoneoaaGreatDoor
open Go.RowKit

theorem tb_par {a b : List UInt8} {s t : ByteArray} (hs : s = tb a) (ht : t = tb b) : s ++ ⟨#[40]⟩ ++ t ++ ⟨#[41]⟩ = tb (a ++ 40 :: (b ++ [41])) := by
  subst hs ht
  apply ba_ext
  simp only [ba_app]
  simp [tb]
def spcV (r : Option (List UInt8)) : Value := .tuple #[.string (tb (r.getD [])), .bool r.isSome]
def SpcC (v : Value) (A : List Nat) (free : Nat) : Prop := ∀ (most : Int) (w : World), IntsRd w 0 w.heap.size v (nl A) → -(2 * (68719476736 - (free : Int))) ≤ most → most ≤ 2000 →
  Calls Tryz.prog 71 #[v, .int .i64 free, .int .i64 most] w fun e w' => e = .returned (spcV (spcR A free most)) ∧ Below w.heap.size w w'
set_option maxRecDepth 100000 in
set_option maxHeartbeats 1600000 in
theorem spc_zero (v : Value) (A : List Nat) : SpcC v A 0 := by
  intro most w h h1 h2
  rw [spcR_zero]
  unfold spcV
  obtain ⟨Av, cv, rfl, _, _⟩ := h
  clear h1 h2
  go_enter Tryz.func71, Tryz.ntmps71
  go_wp2
  refine bodyPost_ret (results_tmp2 rfl _ _ _) rfl ?_
  exact ⟨rfl, Below.refl _ _⟩
set_option maxRecDepth 100000 in
set_option maxHeartbeats 3200000 in
theorem spc_step {v : Value} {A : List Nat} (hA : ∀ m ∈ A, m < 2 ^ 36) {free : Nat} (h0 : free ≠ 0) (hf : free < 2 ^ 36) (ih : ∀ k, k < free → SpcC v A k) : SpcC v A free := by
  intro most w h hm1 hm2
  have HIH := Lib.hid ih
  have HA := Lib.hid hA
  have HF := Lib.hid hf
  have H00 := Lib.hid h0
  have HRD : Hid (∀ w1, Below w.heap.size w w1 → IntsRd w1 0 w1.heap.size v (nl A)) := Lib.hid fun w1 b1 => (h.keep (SameIn.of_below b1 (Nat.le_refl _))).more (Nat.le_refl _) b1.size
  obtain ⟨low, hlow⟩ : ∃ low, low = lowB free := ⟨_, rfl⟩
  have HLOW := Lib.hid hlow
  have hl64 : low < 64 := by rw [hlow]; exact lowB_lt hf
  obtain ⟨Av, cv, rfl, hmv, hrv⟩ := h
  obtain ⟨L, hL⟩ : ∃ L, L = A.length := ⟨_, rfl⟩
  have e0 : (nl A).length = L := by rw [hL]; simp [nl]
  rw [e0] at hmv hrv
  unfold maxLen at hmv
  have HRV := Lib.hid hrv
  have HL := Lib.hid hL
  have HLW := Lib.hid (spec_low_c w h0 hf)
  rw [← hlow] at HLW
  have HE0 := Lib.hid e0
  rw [e0] at ⊢
  obtain ⟨R, hR⟩ : ∃ R, R = spcR A free most := ⟨_, rfl⟩
  rw [← hR]
  have HR := Lib.hid hR
  have hz : ((free : Int) == 0) = false := by simp; omega
  have hfb : free < 68719476736 := hf
  have hrl := hm1
  clear hA hf h0 ih hlow hrv hL e0 hR
  go_enter Tryz.func71, Tryz.ntmps71
  go_wp2_with fail
  refine (HLW.out).mono ?_
  rintro e w1 ⟨rfl, rfl⟩
  clear HLW
  go_wp2
  go_loopw [8, 10] (fun sv iv wx => ∃ (i : Nat) (s : ByteArray), i ≤ L ∧ iv = .int .i64 i ∧ sv = .string s ∧ s.size ≤ 2000 ∧ Hid (∃ S, s = tb S ∧ trcI A free (A.take i) = some S ∧ (S = [] ∨ (S.length : Int) ≤ most)) ∧ Below w.heap.size w wx) (fun _ iv _ => L - (intOf iv).toNat)
  case atStart => exact ⟨0, ⟨#[]⟩, Nat.zero_le _, rfl, rfl, by decide, Lib.hid ⟨[], rfl, by simp [trcI], .inl rfl⟩, Below.refl _ _⟩
  case round =>
    obtain ⟨i, s, hiL, rfl, rfl, hs2, HS0, H⟩ := hrel
    by_cases hlt : i < L
    · have hlti : (i : Int) < (L : Int) := by omega
      obtain ⟨m, hm⟩ : ∃ m, A[i]? = some m := ⟨A[i]'(by rw [← HL.out]; exact hlt), List.getElem?_eq_getElem _⟩
      obtain ⟨b, off, hA1, _, hb, hc⟩ := HRV.out.2 (by omega)
      subst hA1
      have x1 := (H.cell (p := ⟨b, off + i, none⟩) hb).trans (hc i (.int .i64 m) (by simp [ic, nl, hm]))
      have hm36 := HA.out m (List.mem_of_getElem? hm)
      have HM36 := Lib.hid hm36
      have HMA := Lib.hid hm
      have hbit := bit_test0 (m := m) (x := low) (by omega)
      have hand := i64_and_nat m free (by omega) (by have := HF.out; omega)
      have HX1 : Hid (w.cell? ⟨b, off + i, none⟩ = some (.int .i64 m)) := Lib.hid (hc i (.int .i64 m) (by simp [ic, nl, hm]))
      clear hc hm
      cases hb1 : m.testBit low
      · have HS : Hid (∃ S, s = tb S ∧ trcI A free (A.take (i + 1)) = some S ∧ (S = [] ∨ (S.length : Int) ≤ most)) := Lib.hid (by
          obtain ⟨S, h1, h2, h3⟩ := HS0.out
          exact ⟨S, h1, by rw [trcI_no HMA.out (by unfold fitB; rw [← HLOW.out, hb1]; rfl)]; exact h2, h3⟩)
        rw [hb1] at hbit
        clear hb1 hand hm36
        go_wp2_with fail
        go_quiet (fail)
        have H2 := below_drewN H nq
        generalize wr.drewN nq = w2 at *
        go_wp2
        go_roundw
        case rel => exact ⟨i + 1, s, by omega, by go_num, rfl, hs2, HS, H2⟩
        case measure => simp [intOf]; omega
      · rw [hb1] at hbit
        cases hsub : (m &&& free == m)
        · have hne : (bits .and .i64 (m : Int) (free : Int) != (m : Int)) = true := by
            rw [hand]
            simp only [beq_eq_false_iff_ne, ne_eq] at hsub
            simp only [bne_iff_ne, ne_eq]
            omega
          have HS : Hid (∃ S, s = tb S ∧ trcI A free (A.take (i + 1)) = some S ∧ (S = [] ∨ (S.length : Int) ≤ most)) := Lib.hid (by
            obtain ⟨S, h1, h2, h3⟩ := HS0.out
            exact ⟨S, h1, by rw [trcI_no HMA.out (by unfold fitB; rw [hsub, Bool.and_false])]; exact h2, h3⟩)
          clear hb1 hand hm36 hsub
          go_wp2_with fail
          go_quiet (fail)
          have H2 := below_drewN H nq
          generalize wr.drewN nq = w2 at *
          go_wp2
          go_roundw
          case rel => exact ⟨i + 1, s, by omega, by go_num, rfl, hs2, HS, H2⟩
          case measure => simp [intOf]; omega
        · have hne : (bits .and .i64 (m : Int) (free : Int) != (m : Int)) = false := by
            rw [hand]
            simp only [beq_iff_eq] at hsub
            rw [hsub]
            simp
          have hfit : fitB free m = true := by unfold fitB; rw [← HLOW.out, hb1, hsub]; rfl
          have HFIT := Lib.hid hfit
          obtain ⟨f2, hf2⟩ : ∃ f2, f2 = free - m := ⟨_, rfl⟩
          have hmf := fit_le hfit
          have hmp := fitB_pos hfit
          have hff := HF.out
          have hsz : (s.size : Int) ≤ 2000 := by omega
          have hsm : s.size = 0 ∨ (s.size : Int) ≤ most := by
            obtain ⟨S, h1, _, h3⟩ := HS0.out
            rw [h1, tb_size]
            rcases h3 with rfl | h3
            · exact .inl rfl
            · exact .inr h3
          obtain ⟨k2, hk2⟩ : ∃ k2 : Int, k2 = most - (s.size : Int) - 2 := ⟨_, rfl⟩
          have e1 : (free : Int) - (m : Int) = (f2 : Int) := by omega
          have e2 : IntKind.i64.wrap ((free : Int) - (m : Int)) = (f2 : Int) := by rw [e1]; exact IntWalk.i64_in _ (by omega)
          have e3 : most - (s.size : Int) - 2 = k2 := hk2.symm
          have hk21 : -(2 * (68719476736 - (f2 : Int))) ≤ k2 := by omega
          have hk22 : k2 ≤ 2000 := by omega
          have e4 : IntKind.i64.wrap (most - (s.size : Int)) = most - (s.size : Int) := IntWalk.i64_in _ (by omega)
          have e5 : IntKind.i64.wrap (most - (s.size : Int) - 2) = k2 := by rw [e3]; exact IntWalk.i64_in _ (by omega)
          have HIH2 := Lib.hid (HIH.out f2 (by rw [hf2]; exact fit_lt hfit))
          obtain ⟨R2, hR2⟩ : ∃ R2, R2 = spcR A f2 k2 := ⟨_, rfl⟩
          have HR2 : Hid (R2 = spcR A (free - m) k2) := Lib.hid (by rw [hR2, hf2])
          have HK2 := Lib.hid hk2
          clear hb1 hand hm36 hsub hfit hf2 hk2 hmf hff hmp hsz hsm
          go_wp2_with fail
          go_quiet (fail)
          have H2 := below_drewN H nq
          generalize wr.drewN nq = w2 at *
          have y1 : w2.cell? ⟨b, off + i, none⟩ = some (.int .i64 m) := (H2.cell (p := ⟨b, off + i, none⟩) hb).trans HX1.out
          have HCL := Lib.hid (HIH2.out k2 w2 (HRD.out w2 H2) hk21 hk22)
          rw [HE0.out, ← hR2] at HCL
          clear x1 H e1 e3 hR2
          go_wp2_with fail
          refine (HCL.out).mono ?_
          rintro e w3 ⟨rfl, b3⟩
          have H4 := H2.trans (b3.mono H2.size)
          clear b3 H2 HCL y1 e2 e4 e5
          cases R2 with
          | none =>
            obtain rfl : R = none := by
              obtain ⟨S, h1, h2, h3⟩ := HS0.out
              rw [HR.out]
              exact spc_stop1 H00.out HMA.out HFIT.out h2 (by rw [HR2.out, HK2.out, h1, tb_size])
            unfold spcV
            simp only [Option.getD_none, Option.isSome_none]
            go_wp2
            refine bodyPost_ret (results_tmp2 rfl _ _ _) rfl ?_
            exact ⟨rfl, H4⟩
          | some T =>
            obtain ⟨t, ht⟩ : ∃ t, t = tb T := ⟨_, rfl⟩
            unfold spcV
            simp only [Option.getD_some, Option.isSome_some]
            rw [← ht]
            have hT2 : t.size ≤ 2000 := by
              rw [ht, tb_size]
              rcases spc_len HR2.out.symm with rfl | h
              · simp
              · have := hk22; omega
            have HT := Lib.hid ht
            clear ht
            by_cases hl : most < (s.size : Int) + (t.size : Int) + 2
            · obtain rfl : R = none := by
                obtain ⟨S, h1, h2, h3⟩ := HS0.out
                rw [HR.out]
                rw [h1, HT.out, tb_size, tb_size] at hl
                exact spc_stop2 H00.out HMA.out HFIT.out h2 (spc_sub HR2.out.symm) hl
              go_wp2
              refine bodyPost_ret (results_tmp2 rfl _ _ _) rfl ?_
              exact ⟨rfl, H4⟩
            · have y1 : ¬ 9223372036854775807 < s.size + 1 := by omega
              have y2 : ¬ 9223372036854775807 < s.size + 1 + t.size := by omega
              have y3 : ¬ 9223372036854775807 < s.size + 1 + t.size + 1 := by omega
              have HS : Hid (∃ S, s ++ ⟨#[40]⟩ ++ t ++ ⟨#[41]⟩ = tb S ∧ trcI A free (A.take (i + 1)) = some S ∧ (S = [] ∨ (S.length : Int) ≤ most)) := Lib.hid (by
                obtain ⟨S, h1, h2, h3⟩ := HS0.out
                refine ⟨S ++ 40 :: (T ++ [41]), tb_par h1 HT.out, trcI_yes HMA.out HFIT.out h2 (spc_sub HR2.out.symm), .inr ?_⟩
                rw [h1, HT.out, tb_size, tb_size] at hl
                simp
                omega)
              obtain ⟨s2, hs2'⟩ : ∃ s2, s2 = s ++ ⟨#[40]⟩ ++ t ++ ⟨#[41]⟩ := ⟨_, rfl⟩
              rw [← hs2'] at HS
              have hs22 : s2.size ≤ 2000 := by
                rw [hs2']
                simp only [ByteArray.size_append]
                show s.size + 1 + t.size + 1 ≤ 2000
                omega
              have HS2 := Lib.hid hs2'
              clear hs2'
              go_wp2
              go_roundw
              case rel => exact ⟨i + 1, s2, by omega, by go_num, by rw [HS2.out], hs22, HS, H4⟩
              case measure => simp [intOf]; omega
    · obtain rfl : i = L := by omega
      obtain ⟨S, h1, h2, h3⟩ := HS0.out
      have hRS : R = some S := by rw [HR.out]; exact spc_end H00.out (by rw [HL.out, List.take_length] at h2; exact h2) h3
      subst hRS
      have H1 := Lib.hid h1
      clear h1 h2 h3
      go_wp2
      refine bodyPost_ret (results_tmp2 rfl _ _ _) rfl ?_
      exact ⟨by rw [H1.out]; rfl, H⟩
theorem tree_c {v : Value} {A : List Nat} (hA : ∀ m ∈ A, m < 2 ^ 36) : ∀ free, free < 2 ^ 36 → SpcC v A free := by
  intro free
  induction free using Nat.strongRecOn with
  | _ free ih =>
    intro hf
    by_cases h0 : free = 0
    · subst h0
      exact spc_zero v A
    · exact spc_step hA h0 hf fun k hk => ih k hk (by omega)
end Go.Proofs.YtjoglffhdoneoaaGreatDoor

namespace Go.Proofs.YtjoglffhdoneoaaGreatDoor
open Go.RowKit

/-- what the trace works on: the text so far, its variable, the search -/
def trL (A : List Nat) (vs : List Value) (gs gO : Nat) (v : Value) (p : Nat) (S : List UInt8) : List Res :=
  [Res.row v 5 1 p (uc S), Res.box gO 98 #[v], Res.box gs 134 (schCells vs .nilFunc), Res.rows vs (atM A)]
def TrPost (A : List Nat) (vs : List Value) (gs gO : Nat) (w0 : World) (free : Nat) (S : List UInt8) (p : Nat) : Ending → World → Prop := fun e w' =>
  ∃ v' p' S', e = .returned (.bool (trOK A free p).isSome) ∧ p' = S'.length ∧ (∀ T, trOK A free p = some T → S' = S ++ T) ∧ Sep w0 w' (trL A vs gs gO v' p' S')
def TrC (A : List Nat) (vs : List Value) (gs gO : Nat) (w0 : World) (free : Nat) : Prop := ∀ (S : List UInt8) (v : Value) (p : Nat) (w : World), p = S.length → p ≤ 2000 → Sep w0 w (trL A vs gs gO v p S) →
  Calls Tryz.prog 79 #[.pointer (some ⟨gs, 0, none⟩), .int .i64 free, .pointer (some ⟨gO, 0, none⟩)] w (TrPost A vs gs gO w0 free S p)
theorem TrPost.mk {A : List Nat} {vs : List Value} {gs gO : Nat} {w0 : World} {free : Nat} {S : List UInt8} {p : Nat} {w' : World} {b : Bool} {v' : Value} {p' : Nat} {S' : List UInt8} (hb : b = (trOK A free p).isSome) (hp : p' = S'.length)
    (hT : ∀ T, trOK A free p = some T → S' = S ++ T) (h : Sep w0 w' (trL A vs gs gO v' p' S')) : TrPost A vs gs gO w0 free S p (.returned (.bool b)) w' := ⟨v', p', S', by rw [hb], hp, hT, h⟩
theorem trL_put {A : List Nat} {vs : List Value} {gs gO q : Nat} {w0 w5 : World} {v v5 : Value} {Y : List UInt8} (b : UInt8) (h : Sep w0 w5 [Res.row v5 5 1 (q + 1) (uc Y ++ [.int .u8 (b.toNat : Int)]), Res.box gO 98 #[v], Res.box gs 134 (schCells vs .nilFunc), Res.rows vs (atM A)]) :
    Sep w0 (w5.setCell ⟨gO, 0, none⟩ v5) (trL A vs gs gO v5 (q + 1) (Y ++ [b])) := by
  have H6 := (h.g1.set_ 0 v5).p1
  unfold trL
  rw [uc_append]
  exact H6
set_option maxRecDepth 100000 in
set_option maxHeartbeats 800000 in
theorem tr_zero {A : List Nat} {vs : List Value} {gs gO : Nat} {w0 : World} : TrC A vs gs gO w0 0 := by
  intro S v p w hp hp2 H
  have HP := Lib.hid hp
  clear hp
  go_enter Tryz.func79, Tryz.ntmps79
  go_wp2
  go_ret
  exact TrPost.mk (by rw [trOK_zero]; rfl) HP.out (fun T h => by rw [trOK_zero] at h; cases h) H
set_option maxRecDepth 100000 in
set_option maxHeartbeats 3200000 in
theorem tr_step {A : List Nat} {vs : List Value} {gs gO : Nat} {w0 : World} (hvl : vs.length = 64) (ht : Tab64 w0) (hA : ∀ m ∈ A, m < 2 ^ 36) (hAl : A.length ≤ 1000000) {free : Nat} (h0 : free ≠ 0) (hf : free < 2 ^ 36) (ih : ∀ k, k < free → TrC A vs gs gO w0 k) : TrC A vs gs gO w0 free := by
  intro S v p w hp hp2 H
  obtain ⟨j0, hj, hy0, hy1, hy2⟩ := info_parts infoU8
  have HIH := Lib.hid ih
  have HF := Lib.hid hf
  have H0 := Lib.hid h0
  have HP := Lib.hid hp
  have HVL := Lib.hid hvl
  obtain ⟨low, hlow⟩ : ∃ low, low = lowB free := ⟨_, rfl⟩
  have HLOW := Lib.hid hlow
  have hl64 : low < 64 := by rw [hlow]; exact lowB_lt hf
  obtain ⟨B, hB⟩ : ∃ B, B = A.filter fun m => m.testBit low := ⟨_, rfl⟩
  have HBA : Hid (B = A.filter fun m => m.testBit (lowB free)) := Lib.hid (by rw [hB, hlow])
  have HBM : Hid (∀ m ∈ B, m < 2 ^ 36 ∧ m.testBit (lowB free) = true) := Lib.hid fun m hm => by
    rw [hB] at hm
    have := List.mem_filter.1 hm
    exact ⟨hA m this.1, by rw [← hlow]; exact this.2⟩
  have HROW : Hid ((atM A)[low]? = some (nl B)) := Lib.hid (by rw [hB]; exact atM_at hl64)
  obtain ⟨u, hu⟩ : ∃ u, vs[low]? = some u := ⟨vs[low]'(by omega), List.getElem?_eq_getElem _⟩
  have HU := Lib.hid hu
  have c0 : w.cell? ⟨gs, low, none⟩ = some u := by
    rw [H.h2.cell, sch_at (by rw [hvl]; exact hl64), hu]
  have l0 := Later.cell c0 (Blk.lt H.h2)
  have HTZ : Hid (∀ u : Later w, Calls Tryz.prog 109 #[.int .u64 free] u.w fun e w' => e = .returned (.int .i64 low) ∧ u.w = w') := Lib.hid fun u => by
    rw [hlow]
    exact tz_c u.w h0 hf (tab64_on ht (H.below.trans (u.h.mono H.size)))
  have hw : IntKind.u64.wrap (free : Int) = (free : Int) := by rw [IntKind.wrap_u64]; omega
  have hz : ((free : Int) == 0) = false := by simp; omega
  have hru := RowsAt.own H.h3 low u (nl B) hu HROW.out
  obtain ⟨n, hn⟩ : ∃ n, n = B.length := ⟨_, rfl⟩
  have hnl : (nl B).length = n := by rw [hn]; simp [nl]
  rw [hnl] at hru
  obtain ⟨Au, cu, rfl, _, hmu, _⟩ := Res.row_at hru
  have hnm : n ≤ 1000000 := by
    rw [hn, hB]
    exact Nat.le_trans (List.length_filter_le _ _) hAl
  have HN := Lib.hid hn
  have HNL := Lib.hid hnl
  have t1 : (0 : Int) ≤ (low : Int) := by omega
  have t2 : (low : Int) < 64 := by omega
  have HH := Lib.hid H
  clear ih hf h0 hlow hB hu hn hnl hA c0 hru hp hvl H
  go_enter Tryz.func79, Tryz.ntmps79
  go_wp2_with fail
  refine wp_region_later (by kernel_rfl) (by kernel_rfl) ?_
  repeat (go_big_quiet_step ((go_at_call 109; with_reducible exact Later.same (HTZ.out _))))
  refine wpQuiet_nil ?_
  intro w3 hw3
  obtain ⟨u3, hu3⟩ := hw3
  subst hu3
  have H3 := HH.out.later u3
  clear l0 HTZ HH hw hz
  generalize u3.w = w3 at *
  go_wp2
  go_loopw [20] (fun iv wx => ∃ (j q : Nat) (vo : Value) (Y : List UInt8), j ≤ n ∧ iv = .int .i64 j ∧ q ≤ 2001 ∧ Hid (q = Y.length) ∧ Hid (∃ X, Y = S ++ X ∧ trcI A free (B.take j) = some X) ∧ Sep w0 wx (trL A vs gs gO vo q Y)) (fun iv _ => n - (intOf iv).toNat)
  case atStart => exact ⟨0, p, v, S, Nat.zero_le _, rfl, by omega, HP, Lib.hid ⟨[], by simp, by simp [trcI]⟩, H3⟩
  case round =>
    clear H3
    obtain ⟨j, q, vo, Y, hjn, rfl, hq, HQ, HY, H⟩ := hrel
    obtain ⟨Ao, co, rfl, _, _, _⟩ := Res.row_at H.h0
    have o0 : wr.cell? ⟨gO, 0, none⟩ = some (.slice Ao q co) := H.h1.cell 0
    by_cases hlt : j < n
    · have hlti : (j : Int) < (n : Int) := by omega
      obtain ⟨m, hm⟩ : ∃ m, B[j]? = some m := ⟨B[j]'(by rw [← HN.out]; exact hlt), List.getElem?_eq_getElem _⟩
      obtain ⟨hm36, hmlow⟩ := HBM.out m (List.mem_of_getElem? hm)
      have HM36 := Lib.hid hm36
      have HMB := Lib.hid hm
      have hru := RowsAt.own H.h3 low _ (nl B) HU.out HROW.out
      rw [HNL.out] at hru
      obtain ⟨b, off, c, he, _, _, _⟩ := own_shape hru (by omega)
      injection he with he1 he2 he3
      subst he1 he3
      have x1 := own_cell1 hru (j := j) (u := (m : Int)) (by simp [nl, hm])
      have HNE := andNot_ne hm36 HF.out
      clear hm hru he2
      cases hsub : (m &&& free == m)
      · rw [hsub] at HNE
        have HS : Hid (∃ X, Y = S ++ X ∧ trcI A free (B.take (j + 1)) = some X) := Lib.hid (by
          obtain ⟨X, h1, h2⟩ := HY.out
          exact ⟨X, h1, by rw [trcI_no HMB.out (by unfold fitB; rw [hsub, Bool.and_false])]; exact h2⟩)
        clear hsub hm36 hmlow o0
        go_wp2
        go_roundw
        case rel => exact ⟨j + 1, q, _, Y, by omega, by go_num, hq, HQ, HS, H⟩
        case measure => simp [intOf]; omega
      · rw [hsub] at HNE
        have hfit : fitB free m = true := by unfold fitB; rw [hsub, hmlow]; rfl
        have HFIT := Lib.hid hfit
        have HSUB := andNot_sub (fit_and hfit) HF.out hm36
        have HIHK := Lib.hid (HIH.out (free - m) (fit_lt hfit))
        obtain ⟨f2, hf2⟩ : ∃ f2, f2 = free - m := ⟨_, rfl⟩
        rw [← hf2] at HSUB HIHK
        have HF2 := Lib.hid hf2
        clear hsub hm36 hmlow hfit hf2
        by_cases hqq : 2000 < q + 1
        · have hqi : (2000 : Int) < (q : Int) + 1 := by omega
          have HR : Hid (trOK A free p = none) := Lib.hid (by
            obtain ⟨X, h1, h2⟩ := HY.out
            refine tr_stop1 H0.out (i := j) (by rw [← HBA.out]; exact HMB.out) HFIT.out (by rw [← HBA.out]; exact h2) ?_
            have := HQ.out
            rw [h1, List.length_append, ← HP.out] at this
            omega)
          go_wp2_with (at_builtin; refine wpList_app rfl _ _ 98 rfl 5 j0 _ 1 1 Tryz.underlying98 hj hy0 hy1 hy2 rfl (by decide) _ _ _ rfl (H.alloc _) _ _ _ [.int .u8 40] rfl (Rd.fresh wr _ #[.int .u8 40] 1 1 rfl) ocu (by unfold maxLen; omega) (by omega) ?_; intro v5 w5 H5; obtain ⟨A5, c5, rfl, _, _, _⟩ := Res.row_at H5.h0; have y5 := H5.h1.cell 0; have f5 := H5.h1.frozen 0; clear o0 H)
          clear y5 f5
          clear hqi
          have H6 := trL_put 40 H5
          go_wp2
          go_ret
          exact TrPost.mk (by rw [HR.out]; rfl) (by rw [List.length_append, ← HQ.out]; rfl) (fun T h => by rw [HR.out] at h; cases h) H6
        · have hqi : ¬ (2000 : Int) < (q : Int) + 1 := by omega
          go_wp2_with (at_builtin; refine wpList_app rfl _ _ 98 rfl 5 j0 _ 1 1 Tryz.underlying98 hj hy0 hy1 hy2 rfl (by decide) _ _ _ rfl (H.alloc _) _ _ _ [.int .u8 40] rfl (Rd.fresh wr _ #[.int .u8 40] 1 1 rfl) ocu (by unfold maxLen; omega) (by omega) ?_; intro v5 w5 H5; obtain ⟨A5, c5, rfl, _, _, _⟩ := Res.row_at H5.h0; have y5 := H5.h1.cell 0; have f5 := H5.h1.frozen 0; clear o0 H)
          clear y5 f5
          have H6 := trL_put 40 H5
          have HC := Lib.hid (HIHK.out (Y ++ [40]) _ (q + 1) _ (by rw [List.length_append, ← HQ.out]; rfl) (by omega) H6)
          clear H6 H5
          refine (HC.out).mono ?_
          rintro e w6 ⟨v6, p6, S6, rfl, hp6, hT6, H6⟩
          have HP6 := Lib.hid hp6
          have HT6 := Lib.hid hT6
          clear hp6 hT6 HC
          obtain ⟨R, hR⟩ : ∃ R, R = trOK A f2 (q + 1) := ⟨_, rfl⟩
          rw [← hR]
          have HR := Lib.hid hR
          clear hR
          cases R with
          | none =>
            have HR2 : Hid (trOK A free p = none) := Lib.hid (by
              obtain ⟨X, h1, h2⟩ := HY.out
              refine tr_stop2 H0.out (i := j) (by rw [← HBA.out]; exact HMB.out) HFIT.out (by rw [← HBA.out]; exact h2) ?_
              have := HQ.out
              rw [h1, List.length_append, ← HP.out] at this
              rw [← this, ← HF2.out]
              exact HR.out.symm)
            simp only [Option.isSome_none]
            go_wp2
            go_ret
            exact TrPost.mk (by rw [HR2.out]; rfl) HP6.out (fun T h => by rw [HR2.out] at h; cases h) H6
          | some T =>
            have HS6 : Hid (S6 = Y ++ 40 :: T) := Lib.hid (by rw [HT6.out T HR.out.symm]; simp)
            have hT := tr_sub HR.out.symm
            have hp2 : p6 = q + 1 + T.length := by
              rw [HP6.out, HS6.out, HQ.out]
              simp
              omega
            have hp7 : p6 ≤ 2000 := by have := hT.2; omega
            have HS : Hid (∃ X, S6 ++ [41] = S ++ X ∧ trcI A free (B.take (j + 1)) = some X) := Lib.hid (by
              obtain ⟨X, h1, h2⟩ := HY.out
              refine ⟨X ++ 40 :: (T ++ [41]), ?_, ?_⟩
              · rw [HS6.out, h1]; simp
              · exact trcI_yes HMB.out HFIT.out h2 (by rw [← HF2.out]; exact hT.1))
            have HQ6 : Hid (p6 + 1 = (S6 ++ [41]).length) := Lib.hid (by rw [List.length_append, ← HP6.out]; rfl)
            clear hT hp2 HT6
            simp only [Option.isSome_some]
            obtain ⟨Ao, co, rfl, _, _, _⟩ := Res.row_at H6.h0
            have o0 : w6.cell? ⟨gO, 0, none⟩ = some (.slice Ao p6 co) := H6.h1.cell 0
            have H := H6
            clear H6
            go_wp2_with (at_builtin; refine wpList_app rfl _ _ 98 rfl 5 j0 _ 1 1 Tryz.underlying98 hj hy0 hy1 hy2 rfl (by decide) _ _ _ rfl (H.alloc _) _ _ _ [.int .u8 41] rfl (Rd.fresh w6 _ #[.int .u8 41] 1 1 rfl) ocu (by unfold maxLen; omega) (by omega) ?_; intro v5 w5 H5; obtain ⟨A5, c5, rfl, _, _, _⟩ := Res.row_at H5.h0; have y5 := H5.h1.cell 0; have f5 := H5.h1.frozen 0; clear o0 H)
            clear y5 f5
            have H6 := trL_put 41 H5
            clear H5
            go_roundw
            case rel => exact ⟨j + 1, p6 + 1, _, _, by omega, by go_num, by omega, HQ6, HS, H6⟩
            case measure => simp [intOf]; omega
    · obtain rfl : j = n := by omega
      have HR : Hid (∃ X, Y = S ++ X ∧ trOK A free p = if q ≤ 2000 then some X else none) := Lib.hid (by
        obtain ⟨X, h1, h2⟩ := HY.out
        rw [HN.out, List.take_length, HBA.out] at h2
        have := HQ.out
        rw [h1, List.length_append, ← HP.out] at this
        exact ⟨X, h1, by rw [tr_end H0.out h2, this]⟩)
      clear hlt
      by_cases hqq : q ≤ 2000
      · have hqi : (q : Int) ≤ 2000 := by omega
        go_wp2
        go_ret
        obtain ⟨X, h1, h2⟩ := HR.out
        rw [if_pos hqq] at h2
        exact TrPost.mk (by rw [h2]; simp) HQ.out (fun T h => by rw [h2] at h; injection h with h; rw [← h]; exact h1) H
      · have hqi : ¬ (q : Int) ≤ 2000 := by omega
        go_wp2
        go_ret
        obtain ⟨X, h1, h2⟩ := HR.out
        rw [if_neg hqq] at h2
        exact TrPost.mk (by rw [h2]; simp) HQ.out (fun T h => by rw [h2] at h; cases h) H
theorem trace_c {A : List Nat} {vs : List Value} {gs gO : Nat} {w0 : World} (hvl : vs.length = 64) (ht : Tab64 w0) (hA : ∀ m ∈ A, m < 2 ^ 36) (hAl : A.length ≤ 1000000) : ∀ free, free < 2 ^ 36 → TrC A vs gs gO w0 free := by
  intro free
  induction free using Nat.strongRecOn with
  | _ free ih =>
    intro hf
    by_cases h0 : free = 0
    · subst h0
      exact tr_zero
    · exact tr_step hvl ht hA hAl h0 hf fun k hk => ih k hk (by omega)
end Go.Proofs.YtjoglffhdoneoaaGreatDoor

namespace Go.Proofs.YtjoglffhdoneoaaGreatDoor
open Go.RowKit

theorem ref_no {r : Reg} {ps : List (List Cell)} (h : (r.valid && arePcs ps) = false) : refR r ps = none := by
  unfold refR
  rw [h]; rfl
theorem ref_yes {r : Reg} {ps : List (List Cell)} (h : (r.valid && arePcs ps) = true) : refR r ps = trOK (allN r ps) r.mask 0 := by
  unfold refR
  rw [h]; rfl
theorem Sep.init {w0 w : World} {L2 : List Res} : ∀ {L1 : List Res}, Sep w0 w (L1 ++ L2) → Sep w0 w L1
  | [], h => h.below
  | _ :: _, h => ⟨h.1, h.2.1, fun q hq => h.2.2.1 q (List.mem_append_left _ hq), Sep.init h.2.2.2⟩
set_option maxRecDepth 100000 in
set_option maxHeartbeats 1600000 in
theorem spec_ref_c {v v2 : Value} {r : Reg} {ps : List (List Cell)} (w : World) (h : RegRd w 0 w.heap.size v r) (h2 : CellSSRd w 0 w.heap.size v2 ps) (hn : ps.length ≤ 1048576) (hl : ∀ s ∈ ps, s.length ≤ 1048576) :
    Calls Tryz.prog 27 #[v, v2] w fun e w' => e = .returned (spcV (refR r ps)) ∧ Below w.heap.size w w' := by
  have HRD : Hid (∀ w1, Below w.heap.size w w1 → RegRd w1 0 w1.heap.size v r) := Lib.hid fun w1 b1 => (h.keep (SameIn.of_below b1 (Nat.le_refl _))).more (Nat.le_refl _) b1.size
  have HR2 : Hid (∀ w1, Below w.heap.size w w1 → CellSSRd w1 0 w1.heap.size v2 ps) := Lib.hid fun w1 b1 => (h2.keep (SameIn.of_below b1 (Nat.le_refl _))).more (Nat.le_refl _) b1.size
  have HAR : Hid (∀ w1, Below w.heap.size w w1 → Calls Tryz.prog 67 #[v2] w1 fun e w' => e = .returned (.bool (arePcs ps)) ∧ Below w1.heap.size w1 w') := Lib.hid fun w1 b1 =>
    spec_arePcs_c w1 (HR2.out w1 b1) hn hl
  obtain ⟨R, hR⟩ : ∃ b, b = refR r ps := ⟨_, rfl⟩
  rw [← hR]
  have HR := Lib.hid hR
  obtain ⟨sr, rfl, hsr⟩ := h
  obtain ⟨A, c, rfl, _, _⟩ := hsr
  obtain ⟨vs, ⟨A2, c2, rfl, _, _⟩, _⟩ := h2
  have H0 := (Sep.start w).box 28 #[.int .i64 r.w, .slice A r.rows.length c]
  obtain ⟨bR, hbR⟩ : ∃ bR, bR = w.heap.size := ⟨_, rfl⟩
  rw [← hbR] at H0
  clear hR hn hl
  go_enter Tryz.func27, Tryz.ntmps27
  go_upto_region 1 with fail
  rw [← hbR]
  generalize (w.alloc (.cells #[.int .i64 r.w, .slice A r.rows.length c] 28)) = W at *
  clear hbR
  have c0 : W.cell? ⟨bR, 0, none⟩ = some (.int .i64 r.w) := H0.h0.cell 0
  have c1 : W.cell? ⟨bR, 1, none⟩ = some (.slice A r.rows.length c) := H0.h0.cell 1
  have HP := Lib.hid (spec_IsRegion_c W (HRD.out W H0.below))
  go_wp2_with fail
  refine (HP.out).mono ?_
  rintro e w1 ⟨rfl, b1⟩
  have H1 := H0.step b1
  clear H0 b1 HP c0 c1
  cases hv : r.valid
  · obtain rfl : R = none := by rw [HR.out, ref_no (by rw [hv]; rfl)]
    clear hv
    go_wp2
    refine bodyPost_ret (results_tmp2 rfl _ _ _) rfl ?_
    exact ⟨rfl, H1.below⟩
  have HVV := Lib.hid hv
  have HP2 := Lib.hid (HAR.out w1 H1.below)
  clear hv HAR
  go_wp2_with fail
  refine (HP2.out).mono ?_
  rintro e w2 ⟨rfl, b2⟩
  replace H1 := H1.step b2
  clear HP2 b2
  cases hp : arePcs ps
  · obtain rfl : R = none := by rw [HR.out, ref_no (by rw [hp, Bool.and_false])]
    clear hp
    go_wp2
    refine bodyPost_ret (results_tmp2 rfl _ _ _) rfl ?_
    exact ⟨rfl, H1.below⟩
  have h1 := ref_yes (r := r) (ps := ps) (by rw [hp, HVV.out]; rfl)
  have HV := Lib.hid (Reg.valid_iff.1 HVV.out)
  have HAP := Lib.hid hp
  have HALL : Hid (∀ w1, Below w.heap.size w w1 → Calls Tryz.prog 69 #[.agg #[.int .i64 r.w, .slice A r.rows.length c], .slice A2 ps.length c2] w1 fun e w' => ∃ v', e = .returned v' ∧ IntsIn w' w1.heap.size w'.heap.size v' (allP r ps) ∧ Below w1.heap.size w1 w') := Lib.hid fun w1 b1 =>
    spec_all_c w1 (HRD.out w1 b1) (HR2.out w1 b1) HV.out HAP.out
  have HMSK : Hid (∀ w1, Below w.heap.size w w1 → Calls Tryz.prog 70 #[.agg #[.int .i64 r.w, .slice A r.rows.length c]] w1 fun e w' => e = .returned (.int .i64 (r.mask : Int)) ∧ Below w1.heap.size w1 w') := Lib.hid fun w1 b1 =>
    spec_mask_c w1 (HRD.out w1 b1) HV.out
  have HORD : Hid (∀ w1 v, Below w.heap.size w w1 → IntsRd w1 0 w1.heap.size v (allP r ps) → Calls Tryz.prog 71 #[v, .int .i64 (r.mask : Int), .int .i64 2000] w1 fun e w' => e = .returned (spcV R) ∧ Below w1.heap.size w1 w') := Lib.hid fun w1 v b1 hv => by
    rw [← nl_allN HV.out] at hv
    have hm := Reg.mask_lt HV.out
    have := tree_c (v := v) (allN_lt HV.out (ps := ps)) r.mask (by omega) 2000 w1 hv (by omega) (by omega)
    rw [spc_tr, ← h1, ← HR.out] at this
    exact this
  replace H1 := H1.drew
  have c0 : w2.drew.cell? ⟨bR, 0, none⟩ = some (.int .i64 r.w) := H1.h0.cell 0
  have c1 : w2.drew.cell? ⟨bR, 1, none⟩ = some (.slice A r.rows.length c) := H1.h0.cell 1
  obtain ⟨M, hM⟩ : ∃ M, M = r.mask := ⟨_, rfl⟩
  obtain ⟨Q, hQ⟩ : ∃ Q, Q = allP r ps := ⟨_, rfl⟩
  rw [← hM] at HMSK HORD
  rw [← hQ] at HALL HORD
  obtain ⟨T, hT⟩ : ∃ T, T = tb (R.getD []) := ⟨_, rfl⟩
  obtain ⟨b, hb⟩ : ∃ b, b = R.isSome := ⟨_, rfl⟩
  have hsp : spcV R = .tuple #[.string T, .bool b] := by unfold spcV; rw [hT, hb]
  rw [hsp] at HORD
  have HSP := Lib.hid hsp
  clear hp h1 hM hQ hT hb hsp
  go_wp2_with fail
  go_cut [6, 7] (fun lv bv wx => lv = .string T ∧ bv = .bool b ∧ Below w.heap.size w wx)
  case first =>
    go_region_with (first
      | (go_at_call 69; (with_reducible refine (HALL.out _ H1.below).mono ?_); rintro e w4 ⟨av, rfl, o4, b4⟩; replace H1 := H1.step b4; have oa := (IntsIn.rd o4).more (Nat.zero_le _) (Nat.le_refl _); clear o4; obtain ⟨Aa, ca, rfl, _, _⟩ := id oa; clear c0 c1; have c0 : w4.cell? ⟨bR, 0, none⟩ = some (.int .i64 r.w) := H1.h0.cell 0; have c1 : w4.cell? ⟨bR, 1, none⟩ = some (.slice A r.rows.length c) := H1.h0.cell 1)
      | (go_at_call 70; (with_reducible refine (HMSK.out _ H1.below).mono ?_); rintro e w5 ⟨rfl, b5⟩; replace H1 := H1.step b5; first | replace oa := ints_keep oa b5 | skip; clear c0 c1; have c0 : w5.cell? ⟨bR, 0, none⟩ = some (.int .i64 r.w) := H1.h0.cell 0; have c1 : w5.cell? ⟨bR, 1, none⟩ = some (.slice A r.rows.length c) := H1.h0.cell 1)
      | (go_at_call 71; (with_reducible refine (HORD.out _ _ H1.below oa).mono ?_); rintro e w6 ⟨rfl, b6⟩))
    all_goals (go_wp2_with fail; go_meet; exact ⟨rfl, rfl, H1.below.trans (b6.mono H1.below.size)⟩)
  case rest =>
  obtain ⟨rfl, rfl, hb⟩ := hcut
  have HBL := Lib.hid hb
  generalize hwc : wc = w7 at *
  clear hwc H1 c0 c1 HALL HMSK HORD hb
  go_wp2
  refine bodyPost_ret (results_tmp2 rfl _ _ _) rfl ?_
  exact ⟨by rw [HSP.out]; rfl, HBL.out⟩
set_option maxRecDepth 100000 in
set_option maxHeartbeats 1600000 in
theorem impl_ref_c {v v2 : Value} {r : Reg} {ps : List (List Cell)} (w : World) (h : RegRd w 0 w.heap.size v r) (h2 : CellSSRd w 0 w.heap.size v2 ps) (hn : ps.length ≤ 1048576) (hl : ∀ s ∈ ps, s.length ≤ 1048576) (ht : Tab64 w) :
    Calls Tryz.prog 32 #[v, v2] w fun e w' => e = .returned (spcV (refR r ps)) ∧ Below w.heap.size w w' := by
  have HRD : Hid (∀ w1, Below w.heap.size w w1 → RegRd w1 0 w1.heap.size v r) := Lib.hid fun w1 b1 => (h.keep (SameIn.of_below b1 (Nat.le_refl _))).more (Nat.le_refl _) b1.size
  have HR2 : Hid (∀ w1, Below w.heap.size w w1 → CellSSRd w1 0 w1.heap.size v2 ps) := Lib.hid fun w1 b1 => (h2.keep (SameIn.of_below b1 (Nat.le_refl _))).more (Nat.le_refl _) b1.size
  have HTB : Hid (∀ w1, Below w.heap.size w w1 → Tab64 w1) := Lib.hid fun w1 b1 => tab64_on ht b1
  have HPR : Hid (∀ w1, Below w.heap.size w w1 → Calls Tryz.prog 61 #[v, v2] w1 fun e w' => e = .returned (.bool (r.valid && arePcs ps)) ∧ Below w1.heap.size w1 w') := Lib.hid fun w1 b1 =>
    impl_prob_c w1 (HRD.out w1 b1) (HR2.out w1 b1) hn hl
  obtain ⟨R, hR⟩ : ∃ b, b = refR r ps := ⟨_, rfl⟩
  rw [← hR]
  have HR := Lib.hid hR
  obtain ⟨sr, rfl, hsr⟩ := h
  obtain ⟨A, c, rfl, _, _⟩ := hsr
  obtain ⟨vs, ⟨A2, c2, rfl, _, _⟩, _⟩ := h2
  have H0 := (Sep.start w).box 28 #[.int .i64 r.w, .slice A r.rows.length c]
  obtain ⟨bR, hbR⟩ : ∃ bR, bR = w.heap.size := ⟨_, rfl⟩
  rw [← hbR] at H0
  clear hR ht hn hl
  go_enter Tryz.func32, Tryz.ntmps32
  go_upto_region 1 with fail
  rw [← hbR]
  generalize (w.alloc (.cells #[.int .i64 r.w, .slice A r.rows.length c] 28)) = W at *
  clear hbR
  have c0 : W.cell? ⟨bR, 0, none⟩ = some (.int .i64 r.w) := H0.h0.cell 0
  have c1 : W.cell? ⟨bR, 1, none⟩ = some (.slice A r.rows.length c) := H0.h0.cell 1
  have HP := Lib.hid (HPR.out W H0.below)
  go_wp2_with fail
  refine (HP.out).mono ?_
  rintro e w1 ⟨rfl, b1⟩
  have H1 := H0.step b1
  clear H0 b1 HP c0 c1 HPR
  cases hp : (r.valid && arePcs ps)
  · obtain rfl : R = none := by rw [HR.out, ref_no hp]
    clear hp
    go_wp2
    refine bodyPost_ret (results_tmp2 rfl _ _ _) rfl ?_
    exact ⟨rfl, H1.below⟩
  · have h1 := ref_yes hp
    simp only [Bool.and_eq_true] at hp
    have HV := Lib.hid (Reg.valid_iff.1 hp.1)
    have HAP := Lib.hid hp.2
    have HALL : Hid (∀ w1, Below w.heap.size w w1 → Calls Tryz.prog 74 #[.agg #[.int .i64 r.w, .slice A r.rows.length c], .slice A2 ps.length c2] w1 fun e w' => ∃ v', e = .returned v' ∧ IntsIn w' w1.heap.size w'.heap.size v' (allP r ps) ∧ Below w1.heap.size w1 w') := Lib.hid fun w1 b1 =>
      impl_all_c w1 (HRD.out w1 b1) (HR2.out w1 b1) HV.out HAP.out
    have HMSK : Hid (∀ w1, Below w.heap.size w w1 → Calls Tryz.prog 75 #[.agg #[.int .i64 r.w, .slice A r.rows.length c]] w1 fun e w' => e = .returned (.int .i64 (r.mask : Int)) ∧ Below w1.heap.size w1 w') := Lib.hid fun w1 b1 =>
      impl_mask_c w1 (HRD.out w1 b1) HV.out
    have hAL : (allN r ps).length ≤ 1000000 := by have := allN_len HV.out (ps := ps); have := arePcs_on HAP.out; omega
    have HNEW : Hid (∀ w1 v, IntsRd w1 0 w1.heap.size v (allP r ps) → Calls Tryz.prog 78 #[v, .nilFunc] w1 fun e w' => ∃ gs vs, e = .returned (.pointer (some ⟨gs, 0, none⟩)) ∧ vs.length = 64 ∧ Sep w1 w' [Res.box gs 134 (schCells vs .nilFunc), Res.rows vs (atM (allN r ps))]) := Lib.hid fun w1 v hv => by
      rw [← nl_allN HV.out] at hv
      refine (newSearchN_c w1 hv (allN_lt HV.out) hAL).mono ?_
      rintro e w' ⟨vs, he, hvl, hs⟩
      exact ⟨_, vs, he, hvl, hs⟩
    have hmk := Reg.mask_lt HV.out
    obtain ⟨b, hb⟩ : ∃ b, b = R.isSome := ⟨_, rfl⟩
    have HTR : Hid (∀ gO gs vs w1, vs.length = 64 → Sep w w1 (trL (allN r ps) vs gs gO (.slice none 0 0) 0 []) → Calls Tryz.prog 79 #[.pointer (some ⟨gs, 0, none⟩), .int .i64 (r.mask : Int), .pointer (some ⟨gO, 0, none⟩)] w1 fun e w' =>
        ∃ v6 p6 S6, e = .returned (.bool b) ∧ p6 = S6.length ∧ (∀ T, R = some T → S6 = T) ∧ Sep w w' (trL (allN r ps) vs gs gO v6 p6 S6)) := Lib.hid fun gO gs vs w1 hvl hs => by
      refine (trace_c hvl (HTB.out w (Below.refl _ _)) (allN_lt HV.out) hAL r.mask (by omega) [] _ 0 w1 rfl (by omega) hs).mono ?_
      rintro e w' ⟨v6, p6, S6, he, hp6, hT6, hs6⟩
      rw [← h1, ← HR.out] at he hT6
      exact ⟨v6, p6, S6, by rw [he, hb], hp6, hT6, hs6⟩
    have HB := Lib.hid hb
    have H2 := (H1.box 98 #[.slice none 0 0]).drew
    obtain ⟨gO, hgO⟩ : ∃ gO, gO = w1.heap.size := ⟨_, rfl⟩
    obtain ⟨M, hM⟩ : ∃ M, M = r.mask := ⟨_, rfl⟩
    obtain ⟨Q, hQ⟩ : ∃ Q, Q = allP r ps := ⟨_, rfl⟩
    obtain ⟨AN, hAN⟩ : ∃ Q, Q = allN r ps := ⟨_, rfl⟩
    rw [← hM] at HMSK HTR
    rw [← hQ] at HALL HNEW
    rw [← hAN] at HNEW HTR
    rw [← hgO] at H2
    clear hp h1 hM hQ hAN hmk hAL H1 hb
    go_upto_region 4 with fail
    rw [← hgO]
    generalize (w1.alloc (.cells #[.slice none 0 0] 98)) = W1 at *
    clear hgO
    have c0 : W1.drew.cell? ⟨bR, 0, none⟩ = some (.int .i64 r.w) := H2.h1.cell 0
    have c1 : W1.drew.cell? ⟨bR, 1, none⟩ = some (.slice A r.rows.length c) := H2.h1.cell 1
    go_cut [18] (fun bv wx => bv = .bool (!b) ∧ ∃ v6 p6 S6 L6, Hid (p6 = S6.length) ∧ Hid (∀ T, R = some T → S6 = T) ∧ Sep w wx (Res.row v6 5 1 p6 (uc S6) :: Res.box gO 98 #[v6] :: L6))
    case first =>
      go_region_with (first
        | (go_at_call 74; (with_reducible refine (HALL.out _ H2.below).mono ?_); rintro e w4 ⟨av, rfl, o4, b4⟩; replace H2 := H2.step b4; have oa := (IntsIn.rd o4).more (Nat.zero_le _) (Nat.le_refl _); clear o4; obtain ⟨Aa, ca, rfl, _, _⟩ := id oa; clear c0 c1; have c0 : w4.cell? ⟨bR, 0, none⟩ = some (.int .i64 r.w) := H2.h1.cell 0; have c1 : w4.cell? ⟨bR, 1, none⟩ = some (.slice A r.rows.length c) := H2.h1.cell 1)
        | (go_at_call 78; (with_reducible refine (HNEW.out _ _ oa).mono ?_); rintro e w5 ⟨gs, vs5, rfl, hvl, H5⟩; have HVL := Lib.hid hvl; clear hvl oa; replace H2 := H5.join H2; clear c0 c1; have c0 : w5.cell? ⟨bR, 0, none⟩ = some (.int .i64 r.w) := H2.h3.cell 0; have c1 : w5.cell? ⟨bR, 1, none⟩ = some (.slice A r.rows.length c) := H2.h3.cell 1)
        | (go_at_call 75; ((with_reducible refine (HMSK.out _ H2.below).mono ?_); rintro e w7 ⟨rfl, b7⟩; replace H2 := H2.step b7; (first | replace oa := ints_keep oa b7 | skip); clear c0 c1; have c0 : w7.cell? ⟨bR, 0, none⟩ = some (.int .i64 r.w) := (by first | exact H2.h1.cell 0 | exact H2.h3.cell 0); have c1 : w7.cell? ⟨bR, 1, none⟩ = some (.slice A r.rows.length c) := (by first | exact H2.h1.cell 1 | exact H2.h3.cell 1)))
        | (go_at_call 79; (with_reducible refine (HTR.out _ _ _ _ HVL.out (Sep.init (L1 := trL AN vs5 gs gO (.slice none 0 0) 0 []) ((H2.nil 5 1).g3.g1))).mono ?_); rintro e w8 ⟨v6, p6, S6, rfl, hp6, hT6, H6⟩; have HP6 := Lib.hid hp6; have HT6 := Lib.hid hT6; clear hp6 hT6))
      all_goals (go_wp2_with fail; go_meet; exact ⟨rfl, v6, p6, S6, _, HP6, HT6, H6⟩)
    case rest =>
    obtain ⟨rfl, v6, p6, S6, L6, HP6, HT6, H6⟩ := hcut
    generalize hwc : wc = w7 at *
    clear hwc H2 c0 c1 HALL HMSK HNEW HTR
    have hb := HB.out
    cases R with
    | none =>
      simp only [Option.isSome_none] at hb
      subst hb
      go_wp2
      refine bodyPost_ret (results_tmp2 rfl _ _ _) rfl ?_
      exact ⟨rfl, H6.below⟩
    | some T =>
      simp only [Option.isSome_some] at hb
      subst hb
      obtain rfl : S6 = T := HT6.out T rfl
      have hcv := row_text HP6.out H6.h0
      obtain ⟨A6, c6, rfl, _, _, _⟩ := Res.row_at H6.h0
      have o0 : w7.cell? ⟨gO, 0, none⟩ = some (.slice A6 p6 c6) := H6.h1.cell 0
      go_wp2
      refine bodyPost_ret (results_tmp2 rfl _ _ _) rfl ?_
      exact ⟨rfl, H6.below⟩
end Go.Proofs.YtjoglffhdoneoaaGreatDoor
