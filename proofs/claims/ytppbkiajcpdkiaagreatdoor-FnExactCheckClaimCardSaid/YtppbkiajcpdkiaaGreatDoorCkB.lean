
/-
  Rows of bytes, and the text of one. The trace of a search without result, in plain Lean. No program in sight. The trace of a search without result: the reference's walk. The trace of a search without result: the program's walk. The trace of a search without result: both functions. The reference's reading of a trace: plain, and the walk of 'l9Check' and of both functions 'IsRefutation'. IsRefutation: both walks.
-/
import Derived.Test.YtppbkiajcpdkiaaGreatDoorProg
import Derived.Test.YtppbkiajcpdkiaaGreatDoorSepX
import Derived.Laws.IdiomStrings
import Derived.Laws.BytesArg
import Derived.Test.YtppbkiajcpdkiaaGreatDoorTilP
import Derived.Test.YtppbkiajcpdkiaaGreatDoorAllX
import Derived.Test.YtppbkiajcpdkiaaGreatDoorPlcSX
import Derived.Test.YtppbkiajcpdkiaaGreatDoorFtS
import Derived.Test.YtppbkiajcpdkiaaGreatDoorFtX
import Derived.Test.YtppbkiajcpdkiaaGreatDoorCkA
namespace Go.Proofs.YtppbkiajcpdkiaaGreatDoor
open Go.RowKit

set_option maxRecDepth 100000 in
theorem infoU8 : (Tryz.prog.info? 5).map (fun i => (i.zero, i.size, i.bytes)) = some (some (.int .u8 0), 1, 1) := by kernel_rfl
def uc (l : List UInt8) : List Value := l.map fun b => .int .u8 (b.toNat : Int)
theorem uc_append {l m : List UInt8} : uc (l ++ m) = uc l ++ uc m := by simp [uc]
theorem uc_length {l : List UInt8} : (uc l).length = l.length := by simp [uc]
def tb (l : List UInt8) : ByteArray := ⟨l.toArray⟩
theorem tb_size {l : List UInt8} : (tb l).size = l.length := List.size_toArray
theorem tb_nil : (⟨#[]⟩ : ByteArray) = tb [] := rfl
theorem tb_app {a b : List UInt8} : tb a ++ tb b = tb (a ++ b) := by apply ba_ext; rw [ba_app]; simp [tb]
theorem ocu {a : Int} : ∀ u ∈ [Value.int .u8 a], u.oneCell' = true := by intro u hu; simp at hu; subst hu; rfl
set_option maxRecDepth 100000 in
/-- the text of a row of bytes -/
theorem row_text {w : World} {v : Value} {n : Nat} {l : List UInt8} (hn : n = l.length) (h : w.ownsRow 0 5 1 v n (uc l)) : (convert 22 9 v).run Tryz.prog w = .ok (.string (tb l)) w := by
  subst hn
  by_cases h0 : l.length = 0
  · obtain rfl : l = [] := List.eq_nil_of_length_eq_zero h0
    obtain ⟨A, c, rfl, _⟩ := Res.row_at h
    show (convert 22 9 (.slice A 0 c)).run Tryz.prog w = _
    rw [run_convert_bytes_string w _ _ _ _ 0 c Tryz.underlying22 Tryz.underlying5 Tryz.underlying9]
    cases A <;> simp [Conv.bytesToString, loadCells]
    all_goals rfl
  · obtain ⟨b, off, c, rfl, _, _, _⟩ := own_shape h (by omega)
    exact run_convert_bytes_back (P := Tryz.prog) w _ _ _ ⟨b, off, none⟩ c l Tryz.underlying22 Tryz.underlying5 Tryz.underlying9 (fun j hj => by
      have := own_cell h (j := j) (u := .int .u8 (l[j].toNat : Int)) (by simp [uc, List.getElem?_eq_getElem hj])
      unfold Addr.add
      split
      · rename_i e
        subst e
        simpa using this
      · exact this)
end Go.Proofs.YtppbkiajcpdkiaaGreatDoor

namespace Go.Proofs.YtppbkiajcpdkiaaGreatDoor
open Go.RowKit

/-- parentheses around the trace of each placement that fits, in order; none if there is a tiling -/
def trc (A : List Nat) (free : Nat) : Option (List UInt8) :=
  if free = 0 then none else A.foldl (fun acc m => if _h : m ≠ 0 ∧ free ≠ 0 then (if fitB free m then acc.bind fun s => (trc A (free - m)).map fun t => s ++ 40 :: (t ++ [41]) else acc) else acc) (some [])
termination_by free
decreasing_by omega
def trcAt (A : List Nat) (free : Nat) (acc : Option (List UInt8)) (m : Nat) : Option (List UInt8) :=
  if fitB free m then acc.bind fun s => (trc A (free - m)).map fun t => s ++ 40 :: (t ++ [41]) else acc
theorem trc_zero {A : List Nat} : trc A 0 = none := by rw [trc]; simp
theorem trc_pos {A : List Nat} {free : Nat} (h : free ≠ 0) : trc A free = A.foldl (trcAt A free) (some []) := by
  rw [trc, if_neg h]
  congr 1
  funext acc m
  unfold trcAt
  by_cases hm : m = 0
  · subst hm
    have : fitB free 0 = false := by
      cases hf : fitB free 0
      · rfl
      · exact absurd rfl (fitB_pos hf)
    simp [this]
  · rw [dif_pos ⟨hm, h⟩]
/-- .. over the first i placements -/
def trcI (A : List Nat) (free : Nat) (B : List Nat) : Option (List UInt8) := B.foldl (trcAt A free) (some [])
theorem trcI_snoc {A B : List Nat} {free m : Nat} : trcI A free (B ++ [m]) = trcAt A free (trcI A free B) m := by simp [trcI]
theorem trcI_take {A B : List Nat} {free m i : Nat} (h : B[i]? = some m) : trcI A free (B.take (i + 1)) = trcAt A free (trcI A free (B.take i)) m := by
  have e : B.take (i + 1) = B.take i ++ [m] := by rw [List.take_add_one, h]; rfl
  rw [e, trcI_snoc]
theorem trcAt_none {A : List Nat} {free : Nat} (B : List Nat) : B.foldl (trcAt A free) none = none := by
  induction B with
  | nil => rfl
  | cons m B ih =>
    show B.foldl (trcAt A free) (trcAt A free none m) = none
    have : trcAt A free none m = none := by unfold trcAt; split <;> rfl
    rw [this, ih]
/-- what is written stays; no trace stays none -/
theorem trcI_app {A B C : List Nat} {free : Nat} (h : trcI A free B = none) : trcI A free (B ++ C) = none := by
  unfold trcI at h ⊢
  rw [List.foldl_append, h, trcAt_none]
theorem trcAt_grow {A : List Nat} {free m : Nat} {s t : List UInt8} (h : trcAt A free (some s) m = some t) : s.length ≤ t.length := by
  unfold trcAt at h
  split at h
  · cases hx : trc A (free - m) with
    | none => rw [hx] at h; cases h
    | some x =>
      rw [hx] at h
      injection h with h
      rw [← h, List.length_append]
      omega
  · injection h with h
    rw [h]
    exact Nat.le_refl _
theorem trcI_grow {A : List Nat} {free : Nat} : ∀ (C B : List Nat) {s t : List UInt8}, trcI A free B = some s → trcI A free (B ++ C) = some t → s.length ≤ t.length
  | [], B, s, t, h, h' => by
    rw [List.append_nil, h] at h'
    injection h' with h'
    rw [h']
    exact Nat.le_refl _
  | m :: C, B, s, t, h, h' => by
    have e : B ++ m :: C = (B ++ [m]) ++ C := by simp
    rw [e] at h'
    cases hx : trcI A free (B ++ [m]) with
    | none => rw [trcI_app hx] at h'; cases h'
    | some x =>
      have h1 := trcI_grow C (B ++ [m]) hx h'
      rw [trcI_snoc, h] at hx
      exact Nat.le_trans (trcAt_grow hx) h1
theorem trcI_no {A B : List Nat} {free m i : Nat} (h : B[i]? = some m) (hf : fitB free m = false) : trcI A free (B.take (i + 1)) = trcI A free (B.take i) := by
  rw [trcI_take h]; unfold trcAt; rw [hf]; rfl
theorem trcI_yes {A B : List Nat} {free m i : Nat} {s t : List UInt8} (h : B[i]? = some m) (hf : fitB free m = true) (hs : trcI A free (B.take i) = some s) (ht : trc A (free - m) = some t) : trcI A free (B.take (i + 1)) = some (s ++ 40 :: (t ++ [41])) := by
  rw [trcI_take h, hs]; unfold trcAt; rw [hf, ht]; rfl
/-- a tiling below: no trace -/
theorem trcI_fail {A B : List Nat} {free m i : Nat} (h : B[i]? = some m) (hf : fitB free m = true) (ht : trc A (free - m) = none) : trcI A free B = none := by
  have h1 : trcI A free (B.take (i + 1)) = none := by
    rw [trcI_take h]; unfold trcAt; rw [hf, ht]
    cases trcI A free (B.take i) <;> rfl
  have := trcI_app (C := B.drop (i + 1)) h1
  rwa [List.take_append_drop] at this
/-- a trace as long as its parts -/
theorem trcI_long {A B : List Nat} {free m i : Nat} {s t : List UInt8} (h : B[i]? = some m) (hf : fitB free m = true) (hs : trcI A free (B.take i) = some s) (ht : trc A (free - m) = some t) {T : List UInt8} (hT : trcI A free B = some T) : s.length + t.length + 2 ≤ T.length := by
  have h1 := trcI_yes h hf hs ht
  have h2 := trcI_grow (B.drop (i + 1)) (B.take (i + 1)) h1 (by rw [List.take_append_drop]; exact hT)
  simp at h2
  omega
theorem trc_all {A : List Nat} {free : Nat} (h : free ≠ 0) : trc A free = trcI A free A := trc_pos h
/-- only the placements with the least free cell count -/
theorem trcI_bit {A : List Nat} {free : Nat} : ∀ (B : List Nat), trcI A free (B.filter fun m => m.testBit (lowB free)) = trcI A free B := by
  intro B
  unfold trcI
  generalize (some [] : Option (List UInt8)) = z
  induction B generalizing z with
  | nil => rfl
  | cons m B ih =>
    rw [List.filter_cons]
    split
    · rename_i hb
      exact ih _
    · rename_i hb
      have : trcAt A free z m = z := by
        unfold trcAt
        have : fitB free m = false := by unfold fitB; simp [hb]
        rw [this]; rfl
      show _ = B.foldl (trcAt A free) (trcAt A free z m)
      rw [this]
      exact ih z
theorem trc_low {A : List Nat} {free : Nat} (h : free ≠ 0) : trc A free = trcI A free (A.filter fun m => m.testBit (lowB free)) := by rw [trc_all h, trcI_bit]
/-- a text of the reference's, at most so long -/
def spcR (A : List Nat) (free : Nat) (most : Int) : Option (List UInt8) := match trc A free with
  | none => none
  | some T => if T = [] ∨ (T.length : Int) ≤ most then some T else none
theorem spcR_zero {A : List Nat} {most : Int} : spcR A 0 most = none := by unfold spcR; rw [trc_zero]
theorem spcR_none {A : List Nat} {free : Nat} {most : Int} (h : ∀ T, trc A free = some T → T ≠ [] ∧ most < T.length) : spcR A free most = none := by
  unfold spcR
  cases hT : trc A free with
  | none => rfl
  | some T =>
    have := h T hT
    simp only
    rw [if_neg]
    rintro (h1 | h1)
    · exact this.1 h1
    · omega
theorem len_ne {T : List UInt8} {n : Nat} (h : n + 2 ≤ T.length) : T ≠ [] := by
  rintro rfl
  simp at h
theorem spc_stop1 {A : List Nat} {free m i : Nat} {most : Int} {S : List UInt8} (h0 : free ≠ 0) (h : A[i]? = some m) (hf : fitB free m = true) (hs : trcI A free (A.take i) = some S) (hr : spcR A (free - m) (most - S.length - 2) = none) : spcR A free most = none := by
  refine spcR_none fun T hT => ?_
  rw [trc_all h0] at hT
  cases ht : trc A (free - m) with
  | none => rw [trcI_fail h hf ht] at hT; cases hT
  | some T' =>
    have h1 := trcI_long h hf hs ht hT
    have h2 : ¬ (T' = [] ∨ (T'.length : Int) ≤ most - S.length - 2) := fun hc => by
      unfold spcR at hr
      rw [ht] at hr
      simp only [if_pos hc] at hr
      cases hr
    rw [not_or] at h2
    exact ⟨len_ne (n := 0) (by omega), by omega⟩
theorem spc_sub {A : List Nat} {free : Nat} {most : Int} {T : List UInt8} (hr : spcR A free most = some T) : trc A free = some T := by
  unfold spcR at hr
  cases ht : trc A free with
  | none => rw [ht] at hr; cases hr
  | some T' =>
    rw [ht] at hr
    simp only at hr
    split at hr
    · exact hr
    · cases hr
theorem spc_stop2 {A : List Nat} {free m i : Nat} {most : Int} {S T' : List UInt8} (h0 : free ≠ 0) (h : A[i]? = some m) (hf : fitB free m = true) (hs : trcI A free (A.take i) = some S) (ht : trc A (free - m) = some T') (hl : most < S.length + T'.length + 2) : spcR A free most = none := by
  refine spcR_none fun T hT => ?_
  rw [trc_all h0] at hT
  have h1 := trcI_long h hf hs ht hT
  exact ⟨len_ne (n := 0) (by omega), by omega⟩
theorem spc_end {A : List Nat} {free : Nat} {most : Int} {S : List UInt8} (h0 : free ≠ 0) (hs : trcI A free A = some S) (hl : S = [] ∨ (S.length : Int) ≤ most) : spcR A free most = some S := by
  unfold spcR
  rw [trc_all h0, hs]
  simp only [if_pos hl]
theorem spc_len {A : List Nat} {free : Nat} {most : Int} {T : List UInt8} (hr : spcR A free most = some T) : T = [] ∨ (T.length : Int) ≤ most := by
  unfold spcR at hr
  cases ht : trc A free with
  | none => rw [ht] at hr; cases hr
  | some T' =>
    rw [ht] at hr
    simp only at hr
    split at hr
    · rename_i h; injection hr with hr; rw [← hr]; exact h
    · cases hr
/-- the text behind n bytes, at most 2000 in all -/
def trOK (A : List Nat) (free n : Nat) : Option (List UInt8) := match trc A free with
  | none => none
  | some T => if n + T.length ≤ 2000 then some T else none
theorem trOK_zero {A : List Nat} {n : Nat} : trOK A 0 n = none := by unfold trOK; rw [trc_zero]
theorem trOK_none {A : List Nat} {free n : Nat} (h : ∀ T, trc A free = some T → 2000 < n + T.length) : trOK A free n = none := by
  unfold trOK
  cases hT : trc A free with
  | none => rfl
  | some T => simp only; rw [if_neg (by have := h T hT; omega)]
section
variable {A : List Nat} {free m i n : Nat} {S T' : List UInt8}
theorem tr_stop1 (h0 : free ≠ 0) (h : (A.filter fun m => m.testBit (lowB free))[i]? = some m) (hf : fitB free m = true) (hs : trcI A free ((A.filter fun m => m.testBit (lowB free)).take i) = some S) (hl : 2000 < n + S.length + 1) : trOK A free n = none := by
  refine trOK_none fun T hT => ?_
  rw [trc_low h0] at hT
  cases ht : trc A (free - m) with
  | none => rw [trcI_fail h hf ht] at hT; cases hT
  | some T' => have := trcI_long h hf hs ht hT; omega
theorem tr_stop2 (h0 : free ≠ 0) (h : (A.filter fun m => m.testBit (lowB free))[i]? = some m) (hf : fitB free m = true) (hs : trcI A free ((A.filter fun m => m.testBit (lowB free)).take i) = some S) (hr : trOK A (free - m) (n + S.length + 1) = none) : trOK A free n = none := by
  refine trOK_none fun T hT => ?_
  rw [trc_low h0] at hT
  cases ht : trc A (free - m) with
  | none => rw [trcI_fail h hf ht] at hT; cases hT
  | some T' =>
    have h1 := trcI_long h hf hs ht hT
    have h2 : ¬ (n + S.length + 1 + T'.length ≤ 2000) := fun hc => by
      unfold trOK at hr
      rw [ht] at hr
      simp only [if_pos hc] at hr
      cases hr
    omega
theorem tr_sub (hr : trOK A free n = some T') : trc A free = some T' ∧ n + T'.length ≤ 2000 := by
  unfold trOK at hr
  cases ht : trc A free with
  | none => rw [ht] at hr; cases hr
  | some T =>
    rw [ht] at hr
    simp only at hr
    split at hr
    · rename_i h; injection hr with hr; subst hr; exact ⟨rfl, h⟩
    · cases hr
theorem tr_end (h0 : free ≠ 0) (hs : trcI A free (A.filter fun m => m.testBit (lowB free)) = some S) : trOK A free n = if n + S.length ≤ 2000 then some S else none := by
  unfold trOK
  rw [trc_low h0, hs]
end
/-- both bounds say the same at the start -/
theorem spc_tr {A : List Nat} {free : Nat} : spcR A free 2000 = trOK A free 0 := by
  unfold spcR trOK
  cases trc A free with
  | none => rfl
  | some T =>
    simp only
    by_cases h : T.length ≤ 2000
    · rw [if_pos (.inr (by omega)), if_pos (by omega)]
    · rw [if_neg, if_neg (by omega)]
      rintro (h1 | h1)
      · subst h1; simp at h
      · omega
def refR (r : Reg) (ps : List (List Cell)) : Option (List UInt8) := if (r.valid && arePcs ps) = true then trOK (allN r ps) r.mask 0 else none
end Go.Proofs.YtppbkiajcpdkiaaGreatDoor

namespace Go.Proofs.YtppbkiajcpdkiaaGreatDoor
open Go.RowKit

theorem tb_par {a b : List UInt8} {s t : ByteArray} (hs : s = tb a) (ht : t = tb b) : s ++ ⟨#[40]⟩ ++ t ++ ⟨#[41]⟩ = tb (a ++ 40 :: (b ++ [41])) := by
  subst hs ht
  apply ba_ext
  simp only [ba_app]
  simp [tb]
def spcV (r : Option (List UInt8)) : Value := .tuple #[.string (tb (r.getD [])), .bool r.isSome]
end Go.Proofs.YtppbkiajcpdkiaaGreatDoor

namespace Go.Proofs.YtppbkiajcpdkiaaGreatDoor
open Go.RowKit

/-- what the trace works on: the text so far, its variable, the search -/
def trL (A : List Nat) (vs : List Value) (gs gO : Nat) (v : Value) (p : Nat) (S : List UInt8) : List Res :=
  [Res.row v 5 1 p (uc S), Res.box gO 22 #[v], Res.box gs 181 (schCells vs .nilFunc), Res.rows vs (atM A)]
def TrPost (A : List Nat) (vs : List Value) (gs gO : Nat) (w0 : World) (free : Nat) (S : List UInt8) (p : Nat) : Ending → World → Prop := fun e w' =>
  ∃ v' p' S', e = .returned (.bool (trOK A free p).isSome) ∧ p' = S'.length ∧ (∀ T, trOK A free p = some T → S' = S ++ T) ∧ Sep w0 w' (trL A vs gs gO v' p' S')
def TrC (A : List Nat) (vs : List Value) (gs gO : Nat) (w0 : World) (free : Nat) : Prop := ∀ (S : List UInt8) (v : Value) (p : Nat) (w : World), p = S.length → p ≤ 2000 → Sep w0 w (trL A vs gs gO v p S) →
  Calls Tryz.prog 178 #[.pointer (some ⟨gs, 0, none⟩), .int .i64 free, .pointer (some ⟨gO, 0, none⟩)] w (TrPost A vs gs gO w0 free S p)
theorem TrPost.mk {A : List Nat} {vs : List Value} {gs gO : Nat} {w0 : World} {free : Nat} {S : List UInt8} {p : Nat} {w' : World} {b : Bool} {v' : Value} {p' : Nat} {S' : List UInt8} (hb : b = (trOK A free p).isSome) (hp : p' = S'.length)
    (hT : ∀ T, trOK A free p = some T → S' = S ++ T) (h : Sep w0 w' (trL A vs gs gO v' p' S')) : TrPost A vs gs gO w0 free S p (.returned (.bool b)) w' := ⟨v', p', S', by rw [hb], hp, hT, h⟩
theorem trL_put {A : List Nat} {vs : List Value} {gs gO q : Nat} {w0 w5 : World} {v v5 : Value} {Y : List UInt8} (b : UInt8) (h : Sep w0 w5 [Res.row v5 5 1 (q + 1) (uc Y ++ [.int .u8 (b.toNat : Int)]), Res.box gO 22 #[v], Res.box gs 181 (schCells vs .nilFunc), Res.rows vs (atM A)]) :
    Sep w0 (w5.setCell ⟨gO, 0, none⟩ v5) (trL A vs gs gO v5 (q + 1) (Y ++ [b])) := by
  have H6 := (h.g1.set_ 0 v5).p1
  unfold trL
  rw [uc_append]
  exact H6
set_option maxRecDepth 100000 in
set_option maxHeartbeats 800000 in
theorem tr_zero {A : List Nat} {vs : List Value} {gs gO : Nat} {w0 : World} : TrC A vs gs gO w0 0 := by
  intro S v p w hp hp2 H
  have HP := Lib.hid hp
  clear hp
  go_enter Tryz.func178, Tryz.ntmps178
  go_wp2
  go_ret
  exact TrPost.mk (by rw [trOK_zero]; rfl) HP.out (fun T h => by rw [trOK_zero] at h; cases h) H
set_option maxRecDepth 100000 in
set_option maxHeartbeats 3200000 in
theorem tr_step {A : List Nat} {vs : List Value} {gs gO : Nat} {w0 : World} (hvl : vs.length = 64) (ht : Tab64 w0) (hA : ∀ m ∈ A, m < 2 ^ 36) (hAl : A.length ≤ 1000000) {free : Nat} (h0 : free ≠ 0) (hf : free < 2 ^ 36) (ih : ∀ k, k < free → TrC A vs gs gO w0 k) : TrC A vs gs gO w0 free := by
  intro S v p w hp hp2 H
  obtain ⟨j0, hj, hy0, hy1, hy2⟩ := info_parts infoU8
  have HIH := Lib.hid ih
  have HF := Lib.hid hf
  have H0 := Lib.hid h0
  have HP := Lib.hid hp
  have HVL := Lib.hid hvl
  obtain ⟨low, hlow⟩ : ∃ low, low = lowB free := ⟨_, rfl⟩
  have HLOW := Lib.hid hlow
  have hl64 : low < 64 := by rw [hlow]; exact lowB_lt hf
  obtain ⟨B, hB⟩ : ∃ B, B = A.filter fun m => m.testBit low := ⟨_, rfl⟩
  have HBA : Hid (B = A.filter fun m => m.testBit (lowB free)) := Lib.hid (by rw [hB, hlow])
  have HBM : Hid (∀ m ∈ B, m < 2 ^ 36 ∧ m.testBit (lowB free) = true) := Lib.hid fun m hm => by
    rw [hB] at hm
    have := List.mem_filter.1 hm
    exact ⟨hA m this.1, by rw [← hlow]; exact this.2⟩
  have HROW : Hid ((atM A)[low]? = some (nl B)) := Lib.hid (by rw [hB]; exact atM_at hl64)
  obtain ⟨u, hu⟩ : ∃ u, vs[low]? = some u := ⟨vs[low]'(by omega), List.getElem?_eq_getElem _⟩
  have HU := Lib.hid hu
  have c0 : w.cell? ⟨gs, low, none⟩ = some u := by
    rw [H.h2.cell, sch_at (by rw [hvl]; exact hl64), hu]
  have l0 := Later.cell c0 (Blk.lt H.h2)
  have HTZ : Hid (∀ u : Later w, Calls Tryz.prog 127 #[.int .u64 free] u.w fun e w' => e = .returned (.int .i64 low) ∧ u.w = w') := Lib.hid fun u => by
    rw [hlow]
    exact tz_c u.w h0 hf (tab64_on ht (H.below.trans (u.h.mono H.size)))
  have hw : IntKind.u64.wrap (free : Int) = (free : Int) := by rw [IntKind.wrap_u64]; omega
  have hz : ((free : Int) == 0) = false := by simp; omega
  have hru := RowsAt.own H.h3 low u (nl B) hu HROW.out
  obtain ⟨n, hn⟩ : ∃ n, n = B.length := ⟨_, rfl⟩
  have hnl : (nl B).length = n := by rw [hn]; simp [nl]
  rw [hnl] at hru
  obtain ⟨Au, cu, rfl, _, hmu, _⟩ := Res.row_at hru
  have hnm : n ≤ 1000000 := by
    rw [hn, hB]
    exact Nat.le_trans (List.length_filter_le _ _) hAl
  have HN := Lib.hid hn
  have HNL := Lib.hid hnl
  have t1 : (0 : Int) ≤ (low : Int) := by omega
  have t2 : (low : Int) < 64 := by omega
  have HH := Lib.hid H
  clear ih hf h0 hlow hB hu hn hnl hA c0 hru hp hvl H
  go_enter Tryz.func178, Tryz.ntmps178
  go_wp2_with fail
  refine wp_region_later (by kernel_rfl) (by kernel_rfl) ?_
  repeat (go_big_quiet_step ((go_at_call 127; with_reducible exact Later.same (HTZ.out _))))
  refine wpQuiet_nil ?_
  intro w3 hw3
  obtain ⟨u3, hu3⟩ := hw3
  subst hu3
  have H3 := HH.out.later u3
  clear l0 HTZ HH hw hz
  generalize u3.w = w3 at *
  go_wp2
  go_loopw [20] (fun iv wx => ∃ (j q : Nat) (vo : Value) (Y : List UInt8), j ≤ n ∧ iv = .int .i64 j ∧ q ≤ 2001 ∧ Hid (q = Y.length) ∧ Hid (∃ X, Y = S ++ X ∧ trcI A free (B.take j) = some X) ∧ Sep w0 wx (trL A vs gs gO vo q Y)) (fun iv _ => n - (intOf iv).toNat)
  case atStart => exact ⟨0, p, v, S, Nat.zero_le _, rfl, by omega, HP, Lib.hid ⟨[], by simp, by simp [trcI]⟩, H3⟩
  case round =>
    clear H3
    obtain ⟨j, q, vo, Y, hjn, rfl, hq, HQ, HY, H⟩ := hrel
    obtain ⟨Ao, co, rfl, _, _, _⟩ := Res.row_at H.h0
    have o0 : wr.cell? ⟨gO, 0, none⟩ = some (.slice Ao q co) := H.h1.cell 0
    by_cases hlt : j < n
    · have hlti : (j : Int) < (n : Int) := by omega
      obtain ⟨m, hm⟩ : ∃ m, B[j]? = some m := ⟨B[j]'(by rw [← HN.out]; exact hlt), List.getElem?_eq_getElem _⟩
      obtain ⟨hm36, hmlow⟩ := HBM.out m (List.mem_of_getElem? hm)
      have HM36 := Lib.hid hm36
      have HMB := Lib.hid hm
      have hru := RowsAt.own H.h3 low _ (nl B) HU.out HROW.out
      rw [HNL.out] at hru
      obtain ⟨b, off, c, he, _, _, _⟩ := own_shape hru (by omega)
      injection he with he1 he2 he3
      subst he1 he3
      have x1 := own_cell1 hru (j := j) (u := (m : Int)) (by simp [nl, hm])
      have HNE := andNot_ne hm36 HF.out
      clear hm hru he2
      cases hsub : (m &&& free == m)
      · rw [hsub] at HNE
        have HS : Hid (∃ X, Y = S ++ X ∧ trcI A free (B.take (j + 1)) = some X) := Lib.hid (by
          obtain ⟨X, h1, h2⟩ := HY.out
          exact ⟨X, h1, by rw [trcI_no HMB.out (by unfold fitB; rw [hsub, Bool.and_false])]; exact h2⟩)
        clear hsub hm36 hmlow o0
        go_wp2
        go_roundw
        case rel => exact ⟨j + 1, q, _, Y, by omega, by go_num, hq, HQ, HS, H⟩
        case measure => simp [intOf]; omega
      · rw [hsub] at HNE
        have hfit : fitB free m = true := by unfold fitB; rw [hsub, hmlow]; rfl
        have HFIT := Lib.hid hfit
        have HSUB := andNot_sub (fit_and hfit) HF.out hm36
        have HIHK := Lib.hid (HIH.out (free - m) (fit_lt hfit))
        obtain ⟨f2, hf2⟩ : ∃ f2, f2 = free - m := ⟨_, rfl⟩
        rw [← hf2] at HSUB HIHK
        have HF2 := Lib.hid hf2
        clear hsub hm36 hmlow hfit hf2
        by_cases hqq : 2000 < q + 1
        · have hqi : (2000 : Int) < (q : Int) + 1 := by omega
          have HR : Hid (trOK A free p = none) := Lib.hid (by
            obtain ⟨X, h1, h2⟩ := HY.out
            refine tr_stop1 H0.out (i := j) (by rw [← HBA.out]; exact HMB.out) HFIT.out (by rw [← HBA.out]; exact h2) ?_
            have := HQ.out
            rw [h1, List.length_append, ← HP.out] at this
            omega)
          go_wp2_with (at_builtin; refine wpList_app rfl _ _ 22 rfl 5 j0 _ 1 1 Tryz.underlying22 hj hy0 hy1 hy2 rfl (by decide) _ _ _ rfl (H.alloc _) _ _ _ [.int .u8 40] rfl (Rd.fresh wr _ #[.int .u8 40] 1 1 rfl) ocu (by unfold maxLen; omega) (by omega) ?_; intro v5 w5 H5; obtain ⟨A5, c5, rfl, _, _, _⟩ := Res.row_at H5.h0; have y5 := H5.h1.cell 0; have f5 := H5.h1.frozen 0; clear o0 H)
          clear y5 f5
          clear hqi
          have H6 := trL_put 40 H5
          go_wp2
          go_ret
          exact TrPost.mk (by rw [HR.out]; rfl) (by rw [List.length_append, ← HQ.out]; rfl) (fun T h => by rw [HR.out] at h; cases h) H6
        · have hqi : ¬ (2000 : Int) < (q : Int) + 1 := by omega
          go_wp2_with (at_builtin; refine wpList_app rfl _ _ 22 rfl 5 j0 _ 1 1 Tryz.underlying22 hj hy0 hy1 hy2 rfl (by decide) _ _ _ rfl (H.alloc _) _ _ _ [.int .u8 40] rfl (Rd.fresh wr _ #[.int .u8 40] 1 1 rfl) ocu (by unfold maxLen; omega) (by omega) ?_; intro v5 w5 H5; obtain ⟨A5, c5, rfl, _, _, _⟩ := Res.row_at H5.h0; have y5 := H5.h1.cell 0; have f5 := H5.h1.frozen 0; clear o0 H)
          clear y5 f5
          have H6 := trL_put 40 H5
          have HC := Lib.hid (HIHK.out (Y ++ [40]) _ (q + 1) _ (by rw [List.length_append, ← HQ.out]; rfl) (by omega) H6)
          clear H6 H5
          refine (HC.out).mono ?_
          rintro e w6 ⟨v6, p6, S6, rfl, hp6, hT6, H6⟩
          have HP6 := Lib.hid hp6
          have HT6 := Lib.hid hT6
          clear hp6 hT6 HC
          obtain ⟨R, hR⟩ : ∃ R, R = trOK A f2 (q + 1) := ⟨_, rfl⟩
          rw [← hR]
          have HR := Lib.hid hR
          clear hR
          cases R with
          | none =>
            have HR2 : Hid (trOK A free p = none) := Lib.hid (by
              obtain ⟨X, h1, h2⟩ := HY.out
              refine tr_stop2 H0.out (i := j) (by rw [← HBA.out]; exact HMB.out) HFIT.out (by rw [← HBA.out]; exact h2) ?_
              have := HQ.out
              rw [h1, List.length_append, ← HP.out] at this
              rw [← this, ← HF2.out]
              exact HR.out.symm)
            simp only [Option.isSome_none]
            go_wp2
            go_ret
            exact TrPost.mk (by rw [HR2.out]; rfl) HP6.out (fun T h => by rw [HR2.out] at h; cases h) H6
          | some T =>
            have HS6 : Hid (S6 = Y ++ 40 :: T) := Lib.hid (by rw [HT6.out T HR.out.symm]; simp)
            have hT := tr_sub HR.out.symm
            have hp2 : p6 = q + 1 + T.length := by
              rw [HP6.out, HS6.out, HQ.out]
              simp
              omega
            have hp7 : p6 ≤ 2000 := by have := hT.2; omega
            have HS : Hid (∃ X, S6 ++ [41] = S ++ X ∧ trcI A free (B.take (j + 1)) = some X) := Lib.hid (by
              obtain ⟨X, h1, h2⟩ := HY.out
              refine ⟨X ++ 40 :: (T ++ [41]), ?_, ?_⟩
              · rw [HS6.out, h1]; simp
              · exact trcI_yes HMB.out HFIT.out h2 (by rw [← HF2.out]; exact hT.1))
            have HQ6 : Hid (p6 + 1 = (S6 ++ [41]).length) := Lib.hid (by rw [List.length_append, ← HP6.out]; rfl)
            clear hT hp2 HT6
            simp only [Option.isSome_some]
            obtain ⟨Ao, co, rfl, _, _, _⟩ := Res.row_at H6.h0
            have o0 : w6.cell? ⟨gO, 0, none⟩ = some (.slice Ao p6 co) := H6.h1.cell 0
            have H := H6
            clear H6
            go_wp2_with (at_builtin; refine wpList_app rfl _ _ 22 rfl 5 j0 _ 1 1 Tryz.underlying22 hj hy0 hy1 hy2 rfl (by decide) _ _ _ rfl (H.alloc _) _ _ _ [.int .u8 41] rfl (Rd.fresh w6 _ #[.int .u8 41] 1 1 rfl) ocu (by unfold maxLen; omega) (by omega) ?_; intro v5 w5 H5; obtain ⟨A5, c5, rfl, _, _, _⟩ := Res.row_at H5.h0; have y5 := H5.h1.cell 0; have f5 := H5.h1.frozen 0; clear o0 H)
            clear y5 f5
            have H6 := trL_put 41 H5
            clear H5
            go_roundw
            case rel => exact ⟨j + 1, p6 + 1, _, _, by omega, by go_num, by omega, HQ6, HS, H6⟩
            case measure => simp [intOf]; omega
    · obtain rfl : j = n := by omega
      have HR : Hid (∃ X, Y = S ++ X ∧ trOK A free p = if q ≤ 2000 then some X else none) := Lib.hid (by
        obtain ⟨X, h1, h2⟩ := HY.out
        rw [HN.out, List.take_length, HBA.out] at h2
        have := HQ.out
        rw [h1, List.length_append, ← HP.out] at this
        exact ⟨X, h1, by rw [tr_end H0.out h2, this]⟩)
      clear hlt
      by_cases hqq : q ≤ 2000
      · have hqi : (q : Int) ≤ 2000 := by omega
        go_wp2
        go_ret
        obtain ⟨X, h1, h2⟩ := HR.out
        rw [if_pos hqq] at h2
        exact TrPost.mk (by rw [h2]; simp) HQ.out (fun T h => by rw [h2] at h; injection h with h; rw [← h]; exact h1) H
      · have hqi : ¬ (q : Int) ≤ 2000 := by omega
        go_wp2
        go_ret
        obtain ⟨X, h1, h2⟩ := HR.out
        rw [if_neg hqq] at h2
        exact TrPost.mk (by rw [h2]; simp) HQ.out (fun T h => by rw [h2] at h; cases h) H
theorem trace_c {A : List Nat} {vs : List Value} {gs gO : Nat} {w0 : World} (hvl : vs.length = 64) (ht : Tab64 w0) (hA : ∀ m ∈ A, m < 2 ^ 36) (hAl : A.length ≤ 1000000) : ∀ free, free < 2 ^ 36 → TrC A vs gs gO w0 free := by
  intro free
  induction free using Nat.strongRecOn with
  | _ free ih =>
    intro hf
    by_cases h0 : free = 0
    · subst h0
      exact tr_zero
    · exact tr_step hvl ht hA hAl h0 hf fun k hk => ih k hk (by omega)
end Go.Proofs.YtppbkiajcpdkiaaGreatDoor

namespace Go.Proofs.YtppbkiajcpdkiaaGreatDoor
open Go.RowKit

theorem ref_no {r : Reg} {ps : List (List Cell)} (h : (r.valid && arePcs ps) = false) : refR r ps = none := by
  unfold refR
  rw [h]; rfl
theorem ref_yes {r : Reg} {ps : List (List Cell)} (h : (r.valid && arePcs ps) = true) : refR r ps = trOK (allN r ps) r.mask 0 := by
  unfold refR
  rw [h]; rfl
theorem Sep.init {w0 w : World} {L2 : List Res} : ∀ {L1 : List Res}, Sep w0 w (L1 ++ L2) → Sep w0 w L1
  | [], h => h.below
  | _ :: _, h => ⟨h.1, h.2.1, fun q hq => h.2.2.1 q (List.mem_append_left _ hq), Sep.init h.2.2.2⟩
set_option maxRecDepth 100000 in
set_option maxHeartbeats 1600000 in
theorem impl_ref_c {v v2 : Value} {r : Reg} {ps : List (List Cell)} (w : World) (h : RegRd w 0 w.heap.size v r) (h2 : CellSSRd w 0 w.heap.size v2 ps) (hn : ps.length ≤ 1048576) (hl : ∀ s ∈ ps, s.length ≤ 1048576) (ht : Tab64 w) :
    Calls Tryz.prog 140 #[v, v2] w fun e w' => e = .returned (spcV (refR r ps)) ∧ Below w.heap.size w w' := by
  have HRD : Hid (∀ w1, Below w.heap.size w w1 → RegRd w1 0 w1.heap.size v r) := Lib.hid fun w1 b1 => (h.keep (SameIn.of_below b1 (Nat.le_refl _))).more (Nat.le_refl _) b1.size
  have HR2 : Hid (∀ w1, Below w.heap.size w w1 → CellSSRd w1 0 w1.heap.size v2 ps) := Lib.hid fun w1 b1 => (h2.keep (SameIn.of_below b1 (Nat.le_refl _))).more (Nat.le_refl _) b1.size
  have HTB : Hid (∀ w1, Below w.heap.size w w1 → Tab64 w1) := Lib.hid fun w1 b1 => tab64_on ht b1
  have HPR : Hid (∀ w1, Below w.heap.size w w1 → Calls Tryz.prog 42 #[v, v2] w1 fun e w' => e = .returned (.bool (r.valid && arePcs ps)) ∧ Below w1.heap.size w1 w') := Lib.hid fun w1 b1 =>
    impl_prob_c w1 (HRD.out w1 b1) (HR2.out w1 b1) hn hl
  obtain ⟨R, hR⟩ : ∃ b, b = refR r ps := ⟨_, rfl⟩
  rw [← hR]
  have HR := Lib.hid hR
  obtain ⟨sr, rfl, hsr⟩ := h
  obtain ⟨A, c, rfl, _, _⟩ := hsr
  obtain ⟨vs, ⟨A2, c2, rfl, _, _⟩, _⟩ := h2
  have H0 := (Sep.start w).box 29 #[.int .i64 r.w, .slice A r.rows.length c]
  obtain ⟨bR, hbR⟩ : ∃ bR, bR = w.heap.size := ⟨_, rfl⟩
  rw [← hbR] at H0
  clear hR ht hn hl
  go_enter Tryz.func140, Tryz.ntmps140
  go_upto_region 1 with fail
  rw [← hbR]
  generalize (w.alloc (.cells #[.int .i64 r.w, .slice A r.rows.length c] 29)) = W at *
  clear hbR
  have c0 : W.cell? ⟨bR, 0, none⟩ = some (.int .i64 r.w) := H0.h0.cell 0
  have c1 : W.cell? ⟨bR, 1, none⟩ = some (.slice A r.rows.length c) := H0.h0.cell 1
  have HP := Lib.hid (HPR.out W H0.below)
  go_wp2_with fail
  refine (HP.out).mono ?_
  rintro e w1 ⟨rfl, b1⟩
  have H1 := H0.step b1
  clear H0 b1 HP c0 c1 HPR
  cases hp : (r.valid && arePcs ps)
  · obtain rfl : R = none := by rw [HR.out, ref_no hp]
    clear hp
    go_wp2
    refine bodyPost_ret (results_tmp2 rfl _ _ _) rfl ?_
    exact ⟨rfl, H1.below⟩
  · have h1 := ref_yes hp
    simp only [Bool.and_eq_true] at hp
    have HV := Lib.hid (Reg.valid_iff.1 hp.1)
    have HAP := Lib.hid hp.2
    have HALL : Hid (∀ w1, Below w.heap.size w w1 → Calls Tryz.prog 44 #[.agg #[.int .i64 r.w, .slice A r.rows.length c], .slice A2 ps.length c2] w1 fun e w' => ∃ v', e = .returned v' ∧ IntsIn w' w1.heap.size w'.heap.size v' (allP r ps) ∧ Below w1.heap.size w1 w') := Lib.hid fun w1 b1 =>
      impl_all_c w1 (HRD.out w1 b1) (HR2.out w1 b1) HV.out HAP.out
    have HMSK : Hid (∀ w1, Below w.heap.size w w1 → Calls Tryz.prog 45 #[.agg #[.int .i64 r.w, .slice A r.rows.length c]] w1 fun e w' => e = .returned (.int .i64 (r.mask : Int)) ∧ Below w1.heap.size w1 w') := Lib.hid fun w1 b1 =>
      impl_mask_c w1 (HRD.out w1 b1) HV.out
    have hAL : (allN r ps).length ≤ 1000000 := by have := allN_len HV.out (ps := ps); have := arePcs_on HAP.out; omega
    have HNEW : Hid (∀ w1 v, IntsRd w1 0 w1.heap.size v (allP r ps) → Calls Tryz.prog 158 #[v, .nilFunc] w1 fun e w' => ∃ gs vs, e = .returned (.pointer (some ⟨gs, 0, none⟩)) ∧ vs.length = 64 ∧ Sep w1 w' [Res.box gs 181 (schCells vs .nilFunc), Res.rows vs (atM (allN r ps))]) := Lib.hid fun w1 v hv => by
      rw [← nl_allN HV.out] at hv
      refine (newSearchN_c w1 hv (allN_lt HV.out) hAL).mono ?_
      rintro e w' ⟨vs, he, hvl, hs⟩
      exact ⟨_, vs, he, hvl, hs⟩
    have hmk := Reg.mask_lt HV.out
    obtain ⟨b, hb⟩ : ∃ b, b = R.isSome := ⟨_, rfl⟩
    have HTR : Hid (∀ gO gs vs w1, vs.length = 64 → Sep w w1 (trL (allN r ps) vs gs gO (.slice none 0 0) 0 []) → Calls Tryz.prog 178 #[.pointer (some ⟨gs, 0, none⟩), .int .i64 (r.mask : Int), .pointer (some ⟨gO, 0, none⟩)] w1 fun e w' =>
        ∃ v6 p6 S6, e = .returned (.bool b) ∧ p6 = S6.length ∧ (∀ T, R = some T → S6 = T) ∧ Sep w w' (trL (allN r ps) vs gs gO v6 p6 S6)) := Lib.hid fun gO gs vs w1 hvl hs => by
      refine (trace_c hvl (HTB.out w (Below.refl _ _)) (allN_lt HV.out) hAL r.mask (by omega) [] _ 0 w1 rfl (by omega) hs).mono ?_
      rintro e w' ⟨v6, p6, S6, he, hp6, hT6, hs6⟩
      rw [← h1, ← HR.out] at he hT6
      exact ⟨v6, p6, S6, by rw [he, hb], hp6, hT6, hs6⟩
    have HB := Lib.hid hb
    have H2 := (H1.box 22 #[.slice none 0 0]).drew
    obtain ⟨gO, hgO⟩ : ∃ gO, gO = w1.heap.size := ⟨_, rfl⟩
    obtain ⟨M, hM⟩ : ∃ M, M = r.mask := ⟨_, rfl⟩
    obtain ⟨Q, hQ⟩ : ∃ Q, Q = allP r ps := ⟨_, rfl⟩
    obtain ⟨AN, hAN⟩ : ∃ Q, Q = allN r ps := ⟨_, rfl⟩
    rw [← hM] at HMSK HTR
    rw [← hQ] at HALL HNEW
    rw [← hAN] at HNEW HTR
    rw [← hgO] at H2
    clear hp h1 hM hQ hAN hmk hAL H1 hb
    go_upto_region 4 with fail
    rw [← hgO]
    generalize (w1.alloc (.cells #[.slice none 0 0] 22)) = W1 at *
    clear hgO
    have c0 : W1.drew.cell? ⟨bR, 0, none⟩ = some (.int .i64 r.w) := H2.h1.cell 0
    have c1 : W1.drew.cell? ⟨bR, 1, none⟩ = some (.slice A r.rows.length c) := H2.h1.cell 1
    go_cut [18] (fun bv wx => bv = .bool (!b) ∧ ∃ v6 p6 S6 L6, Hid (p6 = S6.length) ∧ Hid (∀ T, R = some T → S6 = T) ∧ Sep w wx (Res.row v6 5 1 p6 (uc S6) :: Res.box gO 22 #[v6] :: L6))
    case first =>
      go_region_with (first
        | (go_at_call 44; (with_reducible refine (HALL.out _ H2.below).mono ?_); rintro e w4 ⟨av, rfl, o4, b4⟩; replace H2 := H2.step b4; have oa := (IntsIn.rd o4).more (Nat.zero_le _) (Nat.le_refl _); clear o4; obtain ⟨Aa, ca, rfl, _, _⟩ := id oa; clear c0 c1; have c0 : w4.cell? ⟨bR, 0, none⟩ = some (.int .i64 r.w) := H2.h1.cell 0; have c1 : w4.cell? ⟨bR, 1, none⟩ = some (.slice A r.rows.length c) := H2.h1.cell 1)
        | (go_at_call 158; (with_reducible refine (HNEW.out _ _ oa).mono ?_); rintro e w5 ⟨gs, vs5, rfl, hvl, H5⟩; have HVL := Lib.hid hvl; clear hvl oa; replace H2 := H5.join H2; clear c0 c1; have c0 : w5.cell? ⟨bR, 0, none⟩ = some (.int .i64 r.w) := H2.h3.cell 0; have c1 : w5.cell? ⟨bR, 1, none⟩ = some (.slice A r.rows.length c) := H2.h3.cell 1)
        | (go_at_call 45; ((with_reducible refine (HMSK.out _ H2.below).mono ?_); rintro e w7 ⟨rfl, b7⟩; replace H2 := H2.step b7; (first | replace oa := ints_keep oa b7 | skip); clear c0 c1; have c0 : w7.cell? ⟨bR, 0, none⟩ = some (.int .i64 r.w) := (by first | exact H2.h1.cell 0 | exact H2.h3.cell 0); have c1 : w7.cell? ⟨bR, 1, none⟩ = some (.slice A r.rows.length c) := (by first | exact H2.h1.cell 1 | exact H2.h3.cell 1)))
        | (go_at_call 178; (with_reducible refine (HTR.out _ _ _ _ HVL.out (Sep.init (L1 := trL AN vs5 gs gO (.slice none 0 0) 0 []) ((H2.nil 5 1).g3.g1))).mono ?_); rintro e w8 ⟨v6, p6, S6, rfl, hp6, hT6, H6⟩; have HP6 := Lib.hid hp6; have HT6 := Lib.hid hT6; clear hp6 hT6))
      all_goals (go_wp2_with fail; go_meet; exact ⟨rfl, v6, p6, S6, _, HP6, HT6, H6⟩)
    case rest =>
    obtain ⟨rfl, v6, p6, S6, L6, HP6, HT6, H6⟩ := hcut
    generalize hwc : wc = w7 at *
    clear hwc H2 c0 c1 HALL HMSK HNEW HTR
    have hb := HB.out
    cases R with
    | none =>
      simp only [Option.isSome_none] at hb
      subst hb
      go_wp2
      refine bodyPost_ret (results_tmp2 rfl _ _ _) rfl ?_
      exact ⟨rfl, H6.below⟩
    | some T =>
      simp only [Option.isSome_some] at hb
      subst hb
      obtain rfl : S6 = T := HT6.out T rfl
      have hcv := row_text HP6.out H6.h0
      obtain ⟨A6, c6, rfl, _, _, _⟩ := Res.row_at H6.h0
      have o0 : w7.cell? ⟨gO, 0, none⟩ = some (.slice A6 p6 c6) := H6.h1.cell 0
      go_wp2
      refine bodyPost_ret (results_tmp2 rfl _ _ _) rfl ?_
      exact ⟨rfl, H6.below⟩
end Go.Proofs.YtppbkiajcpdkiaaGreatDoor

namespace Go.Proofs.YtppbkiajcpdkiaaGreatDoor
open Go.RowKit

/-- where the trace that begins at p ends; -1 if it is not there -/
def chkV (A : List Nat) (free : Nat) (s : List UInt8) (p : Nat) : Int := match trc A free with
  | none => -1
  | some T => if T ++ s.drop (p + T.length) = s.drop p then ((p + T.length : Nat) : Int) else -1
theorem chk_zero {A : List Nat} {s : List UInt8} {p : Nat} : chkV A 0 s p = -1 := by unfold chkV; rw [trc_zero]
theorem trcAt_pre {A : List Nat} {free m : Nat} {s t : List UInt8} (h : trcAt A free (some s) m = some t) : ∃ x, t = s ++ x := by
  unfold trcAt at h
  split at h
  · cases hx : trc A (free - m) with
    | none => rw [hx] at h; cases h
    | some x =>
      rw [hx] at h
      injection h with h
      exact ⟨_, h.symm⟩
  · injection h with h
    exact ⟨[], by rw [h, List.append_nil]⟩
theorem trcI_pre {A : List Nat} {free : Nat} : ∀ (C B : List Nat) {s t : List UInt8}, trcI A free B = some s → trcI A free (B ++ C) = some t → ∃ x, t = s ++ x
  | [], B, s, t, h, h' => by
    rw [List.append_nil, h] at h'
    injection h' with h'
    exact ⟨[], by rw [h', List.append_nil]⟩
  | m :: C, B, s, t, h, h' => by
    have e : B ++ m :: C = (B ++ [m]) ++ C := by simp
    rw [e] at h'
    cases hx : trcI A free (B ++ [m]) with
    | none => rw [trcI_app hx] at h'; cases h'
    | some x =>
      obtain ⟨y, hy⟩ := trcI_pre C (B ++ [m]) hx h'
      rw [trcI_snoc, h] at hx
      obtain ⟨z, hz⟩ := trcAt_pre hx
      exact ⟨z ++ y, by rw [hy, hz, List.append_assoc]⟩
theorem drop_of {s S Z : List UInt8} {p : Nat} (h : s.drop p = S ++ Z) : s.drop (p + S.length) = Z := by
  rw [← List.drop_drop, h, List.drop_left]
/-- what is read at a placement that fits -/
structure ChkAt (A : List Nat) (free m : Nat) (s : List UInt8) (q : Nat) (T : List UInt8) : Prop where
  tr : trc A (free - m) = some T
  op : s[q]? = some 40
  sub : chkV A (free - m) s (q + 1) = ((q + 1 + T.length : Nat) : Int)
  cl : s[q + 1 + T.length]? = some 41
theorem at_drop {s Z : List UInt8} {q : Nat} {c : UInt8} (h : s.drop q = c :: Z) : s[q]? = some c ∧ s.drop (q + 1) = Z := by
  constructor
  · have := congrArg (·[0]?) h
    simpa using this
  · rw [← List.drop_drop, h]; rfl
theorem chk_at {A : List Nat} {free m i p : Nat} {s S : List UInt8} (h0 : free ≠ 0) (hm : A[i]? = some m) (hf : fitB free m = true) (hs : trcI A free (A.take i) = some S) (hV : chkV A free s p ≠ -1) : ∃ T, ChkAt A free m s (p + S.length) T := by
  unfold chkV at hV
  cases hT : trc A free with
  | none => rw [hT] at hV; exact absurd rfl hV
  | some T0 =>
    rw [hT] at hV
    simp only at hV
    split at hV
    · rename_i hd
      rw [trc_all h0] at hT
      cases ht : trc A (free - m) with
      | none => rw [trcI_fail hm hf ht] at hT; cases hT
      | some T =>
        have h1 := trcI_yes hm hf hs ht
        obtain ⟨x, hx⟩ := trcI_pre (A.drop (i + 1)) (A.take (i + 1)) h1 (by rw [List.take_append_drop]; exact hT)
        have e1 : s.drop p = S ++ (40 :: (T ++ (41 :: (x ++ s.drop (p + T0.length))))) := by
          rw [← hd, hx]
          simp
        have e2 := drop_of e1
        obtain ⟨a1, a2⟩ := at_drop e2
        have e3 := drop_of a2
        obtain ⟨a3, _⟩ := at_drop e3
        refine ⟨T, ht, a1, ?_, a3⟩
        unfold chkV
        rw [ht]
        simp only
        rw [if_pos (by rw [a2, e3])]
    · exact absurd rfl hV
theorem chk_none {A : List Nat} {free m i p : Nat} {s S : List UInt8} (h0 : free ≠ 0) (hm : A[i]? = some m) (hf : fitB free m = true) (hs : trcI A free (A.take i) = some S) (h : ∀ T, ¬ ChkAt A free m s (p + S.length) T) : chkV A free s p = -1 := by
  by_cases e : chkV A free s p = -1
  · exact e
  · obtain ⟨T, hT⟩ := chk_at h0 hm hf hs e
    exact absurd hT (h T)
/-- what a number that is not -1 says -/
theorem chk_some {A : List Nat} {free p : Nat} {s : List UInt8} (h : chkV A free s p ≠ -1) : ∃ T, trc A free = some T ∧ T ++ s.drop (p + T.length) = s.drop p ∧ chkV A free s p = ((p + T.length : Nat) : Int) := by
  unfold chkV at *
  cases hT : trc A free with
  | none => rw [hT] at h; exact absurd rfl h
  | some T =>
    rw [hT] at h
    simp only at h ⊢
    split at h
    · rename_i hd
      exact ⟨T, rfl, hd, by rw [if_pos hd]⟩
    · exact absurd rfl h
theorem chk_next {A : List Nat} {free m i p : Nat} {s S T : List UInt8} (hm : A[i]? = some m) (hf : fitB free m = true) (hs : trcI A free (A.take i) = some S) (hp : S ++ s.drop (p + S.length) = s.drop p) (ht : trc A (free - m) = some T) (h1 : s[p + S.length]? = some 40) (h2 : T ++ s.drop (p + S.length + 1 + T.length) = s.drop (p + S.length + 1)) (h3 : s[p + S.length + 1 + T.length]? = some 41) : ∃ S', trcI A free (A.take (i + 1)) = some S' ∧ S'.length = S.length + T.length + 2 ∧ S' ++ s.drop (p + S'.length) = s.drop p := by
  refine ⟨_, trcI_yes hm hf hs ht, by simp; omega, ?_⟩
  have d1 : ∀ q c, s[q]? = some c → s.drop q = c :: s.drop (q + 1) := fun q c h => by
    obtain ⟨hq, e⟩ := List.getElem?_eq_some_iff.1 h
    rw [List.drop_eq_getElem_cons hq, e]
  rw [← hp, d1 _ _ h1, ← h2, d1 _ _ h3]
  have : p + (S ++ 40 :: (T ++ [41])).length = p + S.length + 1 + T.length + 1 := by simp; omega
  rw [this]
  simp
theorem chk_end {A : List Nat} {free p : Nat} {s S : List UInt8} (h0 : free ≠ 0) (hs : trcI A free A = some S) (hp : S ++ s.drop (p + S.length) = s.drop p) : chkV A free s p = ((p + S.length : Nat) : Int) := by
  unfold chkV
  rw [trc_all h0, hs]
  simp only
  rw [if_pos hp]
/-- is a text the trace? -/
def isRf (r : Reg) (ps : List (List Cell)) (s : List UInt8) : Bool := match refR r ps with
  | none => false
  | some T => decide (s = T)
theorem rf_spec {r : Reg} {ps : List (List Cell)} {s : List UInt8} (h : (r.valid && arePcs ps) = true) : isRf r ps s = (decide (s.length ≤ 2000) && decide (chkV (allN r ps) r.mask s 0 = (s.length : Int))) := by
  unfold isRf
  rw [ref_yes h]
  obtain ⟨A, hA⟩ : ∃ A, A = allN r ps := ⟨_, rfl⟩
  obtain ⟨f, hf⟩ : ∃ f, f = r.mask := ⟨_, rfl⟩
  rw [← hA, ← hf]
  cases hT : trc A f with
  | none =>
    have h1 : trOK A f 0 = none := by unfold trOK; rw [hT]
    have h2 : chkV A f s 0 = -1 := by unfold chkV; rw [hT]
    rw [h1, h2, decide_eq_false (show ¬ (-1 : Int) = (s.length : Int) by omega), Bool.and_false]
  | some T =>
    have h1 : trOK A f 0 = if 0 + T.length ≤ 2000 then some T else none := by unfold trOK; rw [hT]
    have h2 : chkV A f s 0 = if T ++ s.drop T.length = s then (T.length : Int) else -1 := by
      unfold chkV
      rw [hT]
      simp only [Nat.zero_add, List.drop_zero]
    rw [h1, h2, Bool.eq_iff_iff]
    by_cases hl : 0 + T.length ≤ 2000
    · rw [if_pos hl]
      simp only [decide_eq_true_eq, Bool.and_eq_true]
      constructor
      · rintro rfl
        refine ⟨by omega, ?_⟩
        rw [if_pos (by simp)]
      · rintro ⟨h3, h4⟩
        split at h4
        · rename_i hd
          have h5 : T.length = s.length := by omega
          rw [h5, List.drop_length, List.append_nil] at hd
          exact hd.symm
        · omega
    · rw [if_neg hl]
      simp only [Bool.and_eq_true, decide_eq_true_eq]
      constructor
      · intro h; cases h
      · rintro ⟨h3, h4⟩
        split at h4 <;> omega
theorem rf_no {r : Reg} {ps : List (List Cell)} {s : List UInt8} (h : (r.valid && arePcs ps) = false) : isRf r ps s = false := by
  unfold isRf
  rw [ref_no h]

/-! the walk -/
theorem data_at {B : ByteArray} {q : Nat} (h : q < B.size) : B.data.toList[q]? = some (B[q]'h) := by
  have h2 : q < B.data.toList.length := by rw [Array.length_toList]; exact h
  rw [List.getElem?_eq_getElem h2]
  rfl
theorem data_no {B : ByteArray} {q : Nat} {c : UInt8} (h : B.data.toList[q]? = some c) : q < B.size := by
  obtain ⟨h1, _⟩ := List.getElem?_eq_some_iff.1 h
  rw [Array.length_toList] at h1
  exact h1
def ChkC (v : Value) (A : List Nat) (B : ByteArray) (free : Nat) : Prop := ∀ (p : Nat) (w : World), IntsRd w 0 w.heap.size v (nl A) → p ≤ B.size →
  Calls Tryz.prog 131 #[v, .int .i64 free, .string B, .int .i64 p] w fun e w' => e = .returned (.int .i64 (chkV A free B.data.toList p)) ∧ Below w.heap.size w w'
set_option maxRecDepth 100000 in
set_option maxHeartbeats 1600000 in
theorem chkC_zero (v : Value) (A : List Nat) (B : ByteArray) : ChkC v A B 0 := by
  intro p w h hp
  rw [chk_zero]
  obtain ⟨Av, cv, rfl, _, _⟩ := h
  clear hp
  go_enter Tryz.func131, Tryz.ntmps131
  go_wp2
  go_ret
  exact ⟨rfl, Below.refl _ _⟩
set_option maxRecDepth 100000 in
set_option maxHeartbeats 3200000 in
theorem chkC_step {v : Value} {A : List Nat} {B : ByteArray} (hB : B.size ≤ 2000) (hA : ∀ m ∈ A, m < 2 ^ 36) {free : Nat} (h0 : free ≠ 0) (hf : free < 2 ^ 36) (ih : ∀ k, k < free → ChkC v A B k) : ChkC v A B free := by
  intro p w h hp
  have HIH := Lib.hid ih
  have HA := Lib.hid hA
  have HF := Lib.hid hf
  have H00 := Lib.hid h0
  have HRD : Hid (∀ w1, Below w.heap.size w w1 → IntsRd w1 0 w1.heap.size v (nl A)) := Lib.hid fun w1 b1 => (h.keep (SameIn.of_below b1 (Nat.le_refl _))).more (Nat.le_refl _) b1.size
  obtain ⟨low, hlow⟩ : ∃ low, low = lowB free := ⟨_, rfl⟩
  have HLOW := Lib.hid hlow
  have hl64 : low < 64 := by rw [hlow]; exact lowB_lt hf
  obtain ⟨Av, cv, rfl, hmv, hrv⟩ := h
  obtain ⟨L, hL⟩ : ∃ L, L = A.length := ⟨_, rfl⟩
  have e0 : (nl A).length = L := by rw [hL]; simp [nl]
  rw [e0] at hmv hrv
  unfold maxLen at hmv
  have HRV := Lib.hid hrv
  have HL := Lib.hid hL
  have HLW := Lib.hid (spec_low_c w h0 hf)
  rw [← hlow] at HLW
  have HE0 := Lib.hid e0
  rw [e0] at ⊢
  obtain ⟨R, hR⟩ : ∃ R, R = chkV A free B.data.toList p := ⟨_, rfl⟩
  rw [← hR]
  have HR := Lib.hid hR
  have hz : ((free : Int) == 0) = false := by simp; omega
  have hfb : free < 68719476736 := hf
  clear hA hf h0 ih hlow hrv hL e0 hR
  go_enter Tryz.func131, Tryz.ntmps131
  go_wp2_with fail
  refine (HLW.out).mono ?_
  rintro e w1 ⟨rfl, rfl⟩
  clear HLW
  go_wp2
  go_loopw [3, 10] (fun qv iv wx => ∃ (i q : Nat), i ≤ L ∧ q ≤ B.size ∧ qv = .int .i64 q ∧ iv = .int .i64 i ∧ Hid (∃ S, q = p + S.length ∧ trcI A free (A.take i) = some S ∧ S ++ B.data.toList.drop (p + S.length) = B.data.toList.drop p) ∧ Below w.heap.size w wx) (fun _ iv _ => L - (intOf iv).toNat)
  case atStart => exact ⟨0, p, Nat.zero_le _, hp, rfl, rfl, Lib.hid ⟨[], rfl, by simp [trcI], rfl⟩, Below.refl _ _⟩
  case round =>
    obtain ⟨i, q, hiL, hq, rfl, rfl, HS0, H⟩ := hrel
    by_cases hlt : i < L
    · have hlti : (i : Int) < (L : Int) := by omega
      obtain ⟨m, hm⟩ : ∃ m, A[i]? = some m := ⟨A[i]'(by rw [← HL.out]; exact hlt), List.getElem?_eq_getElem _⟩
      obtain ⟨b, off, hA1, _, hb, hc⟩ := HRV.out.2 (by omega)
      subst hA1
      have x1 := (H.cell (p := ⟨b, off + i, none⟩) hb).trans (hc i (.int .i64 m) (by simp [ic, nl, hm]))
      have hm36 := HA.out m (List.mem_of_getElem? hm)
      have HMA := Lib.hid hm
      have hbit := bit_test0 (m := m) (x := low) (by omega)
      have hand := i64_and_nat m free (by omega) (by have := HF.out; omega)
      have HX1 : Hid (w.cell? ⟨b, off + i, none⟩ = some (.int .i64 m)) := Lib.hid (hc i (.int .i64 m) (by simp [ic, nl, hm]))
      clear hc hm
      cases hb1 : m.testBit low
      · have HS : Hid (∃ S, q = p + S.length ∧ trcI A free (A.take (i + 1)) = some S ∧ S ++ B.data.toList.drop (p + S.length) = B.data.toList.drop p) := Lib.hid (by
          obtain ⟨S, h1, h2, h3⟩ := HS0.out
          exact ⟨S, h1, by rw [trcI_no HMA.out (by unfold fitB; rw [← HLOW.out, hb1]; rfl)]; exact h2, h3⟩)
        rw [hb1] at hbit
        clear hb1 hand hm36
        go_wp2_with fail
        go_quiet (fail)
        have H2 := below_drewN H nq
        generalize wr.drewN nq = w2 at *
        go_wp2
        go_roundw
        case rel => exact ⟨i + 1, q, by omega, hq, rfl, by go_num, HS, H2⟩
        case measure => simp [intOf]; omega
      · rw [hb1] at hbit
        cases hsub : (m &&& free == m)
        · have hne : (bits .and .i64 (m : Int) (free : Int) != (m : Int)) = true := by
            rw [hand]
            simp only [beq_eq_false_iff_ne, ne_eq] at hsub
            simp only [bne_iff_ne, ne_eq]
            omega
          have HS : Hid (∃ S, q = p + S.length ∧ trcI A free (A.take (i + 1)) = some S ∧ S ++ B.data.toList.drop (p + S.length) = B.data.toList.drop p) := Lib.hid (by
            obtain ⟨S, h1, h2, h3⟩ := HS0.out
            exact ⟨S, h1, by rw [trcI_no HMA.out (by unfold fitB; rw [hsub, Bool.and_false])]; exact h2, h3⟩)
          clear hb1 hand hm36 hsub
          go_wp2_with fail
          go_quiet (fail)
          have H2 := below_drewN H nq
          generalize wr.drewN nq = w2 at *
          go_wp2
          go_roundw
          case rel => exact ⟨i + 1, q, by omega, hq, rfl, by go_num, HS, H2⟩
          case measure => simp [intOf]; omega
        · have hne : (bits .and .i64 (m : Int) (free : Int) != (m : Int)) = false := by
            rw [hand]
            simp only [beq_iff_eq] at hsub
            rw [hsub]
            simp
          have hfit : fitB free m = true := by unfold fitB; rw [← HLOW.out, hb1, hsub]; rfl
          have HFIT := Lib.hid hfit
          have hff := HF.out
          obtain ⟨f2, hf2⟩ : ∃ f2, f2 = free - m := ⟨_, rfl⟩
          have hmf := fit_le hfit
          have e1 : (free : Int) - (m : Int) = (f2 : Int) := by omega
          have E2 : Hid (wrap64 ((free : Int) - (m : Int)) = (f2 : Int)) := Lib.hid (by rw [e1]; exact IntWalk.wrap64_in _ (by omega))
          have HIH2 := Lib.hid (HIH.out f2 (by rw [hf2]; exact fit_lt hfit))
          have HF2 := Lib.hid hf2
          have HNO : Hid ((∀ T, ¬ ChkAt A free m B.data.toList q T) → R = -1) := Lib.hid (by
            intro hno
            obtain ⟨S, h1, h2, h3⟩ := HS0.out
            rw [HR.out]
            refine chk_none H00.out HMA.out HFIT.out h2 (fun T hT => hno T ?_)
            rw [h1]
            exact hT)
          clear hb1 hand hm36 hsub hfit hf2 hmf e1
          go_wp2_with fail
          go_quiet (fail)
          have H2 := below_drewN H nq
          generalize wr.drewN nq = w2 at *
          have y1 : w2.cell? ⟨b, off + i, none⟩ = some (.int .i64 m) := (H2.cell (p := ⟨b, off + i, none⟩) hb).trans HX1.out
          clear x1 H
          by_cases hq1 : q < B.size
          rotate_left
          · have hge : (B.size : Int) ≤ (q : Int) := by omega
            have hgen : B.size ≤ q := by omega
            have hged : decide ((B.size : Int) ≤ (q : Int)) = true := decide_eq_true hge
            obtain rfl : R = -1 := HNO.out (fun T hT => hq1 (data_no hT.op))
            clear HNO
            go_wp2
            go_ret
            exact ⟨rfl, H2⟩
          have hge : ¬ (B.size : Int) ≤ (q : Int) := by omega
          have hged : decide ((B.size : Int) ≤ (q : Int)) = false := decide_eq_false hge
          have hqi : (q : Int) < (B.size : Int) := by omega
          obtain ⟨c, hc⟩ : ∃ c, c = B[q]'hq1 := ⟨_, rfl⟩
          have HC := Lib.hid ((data_at hq1).trans (congrArg some hc.symm))
          by_cases h40 : c = 40
          rotate_left
          · have hcn : (((B[q]'hq1).toNat : Int) != 40) = true := by
              rw [← hc]
              simp only [bne_iff_ne, ne_eq]
              intro e
              apply h40
              apply UInt8.toNat_inj.1
              show c.toNat = 40
              omega
            obtain rfl : R = -1 := HNO.out (fun T hT => by
              have := hT.op
              rw [HC.out] at this
              injection this with this
              exact h40 this)
            clear HNO hc
            go_wp2
            go_ret
            exact ⟨rfl, H2⟩
          have hcn : ((B[q]'hq1).toNat : Int) = 40 := by
            rw [← hc, h40]
            rfl
          have HC40 : Hid (B.data.toList[q]? = some 40) := Lib.hid (by rw [HC.out, h40])
          have HQ63 : Hid (wrap64 ((q : Int) + 1) = (q : Int) + 1) := Lib.hid (IntWalk.wrap64_in _ (by omega))
          obtain ⟨V, hV⟩ : ∃ V, V = chkV A f2 B.data.toList (q + 1) := ⟨_, rfl⟩
          have HCL := Lib.hid (HIH2.out (q + 1) w2 (HRD.out w2 H2) (by omega))
          rw [HE0.out, ← hV, show ((q + 1 : Nat) : Int) = (q : Int) + 1 from rfl] at HCL
          have HV := Lib.hid hV
          clear hc h40 hV HC
          rw [← E2.out] at HCL
          go_upto_region 10 with fail
          clear hbit hne hz hcn hged hge hl64 hfb hff
          have HQI := Lib.hid hqi
          clear hqi
          go_wp2_with fail
          refine (HCL.out).mono ?_
          rintro e w3 ⟨rfl, b3⟩
          have H4 := H2.trans (b3.mono H2.size)
          clear b3 H2 HCL y1
          by_cases hv : V = -1
          · have hvl : V < 0 := by omega
            have hvd : decide (V < 0) = true := decide_eq_true hvl
            obtain rfl : R = -1 := HNO.out (fun T hT => by
              have := hT.sub
              rw [← HF2.out, ← HV.out] at this
              omega)
            clear HNO hv
            go_wp2
            go_ret
            exact ⟨rfl, H4⟩
          obtain ⟨T, ht1, ht2, ht3⟩ := chk_some (A := A) (free := f2) (p := q + 1) (s := B.data.toList) (by rw [← HV.out]; exact hv)
          rw [← HV.out] at ht3
          obtain ⟨q2, hq2⟩ : ∃ q2, q2 = q + 1 + T.length := ⟨_, rfl⟩
          rw [← hq2] at ht3
          have hq2B : q2 ≤ B.size := by
            have := congrArg List.length ht2
            have hL : B.data.toList.length = B.size := Array.length_toList
            rw [List.length_append, List.length_drop, List.length_drop, hL] at this
            omega
          subst ht3
          have HT1 : Hid (trc A (free - m) = some T) := Lib.hid (by rw [← HF2.out]; exact ht1)
          have HT2 := Lib.hid ht2
          have HQ2 := Lib.hid hq2
          have HTQ : Hid (∀ T', ChkAt A free m B.data.toList q T' → B.data.toList[q2]? = some 41) := Lib.hid (by
            intro T' hT'
            have e1 := hT'.tr
            rw [HT1.out] at e1
            injection e1 with e1
            have e2 := hT'.cl
            rw [← e1, ← HQ2.out] at e2
            exact e2)
          have hv0 : ¬ (q2 : Int) < 0 := by omega
          have hvd : decide ((q2 : Int) < 0) = false := decide_eq_false hv0
          clear hv ht1 ht2 hq2
          by_cases hq3 : q2 < B.size
          rotate_left
          · have hge : (B.size : Int) ≤ (q2 : Int) := by omega
            have hgen : B.size ≤ q2 := by omega
            have hged : decide ((B.size : Int) ≤ (q2 : Int)) = true := decide_eq_true hge
            obtain rfl : R = -1 := HNO.out (fun T hT => hq3 (data_no (HTQ.out T hT)))
            clear HNO
            go_wp2
            go_ret
            exact ⟨rfl, H4⟩
          have hge : ¬ (B.size : Int) ≤ (q2 : Int) := by omega
          have hged : decide ((B.size : Int) ≤ (q2 : Int)) = false := decide_eq_false hge
          have hqi2 : (q2 : Int) < (B.size : Int) := by omega
          obtain ⟨c, hc⟩ : ∃ c, c = B[q2]'hq3 := ⟨_, rfl⟩
          have HC := Lib.hid ((data_at hq3).trans (congrArg some hc.symm))
          by_cases h41 : c = 41
          rotate_left
          · have hcn : (((B[q2]'hq3).toNat : Int) != 41) = true := by
              rw [← hc]
              simp only [bne_iff_ne, ne_eq]
              intro e
              apply h41
              apply UInt8.toNat_inj.1
              show c.toNat = 41
              omega
            obtain rfl : R = -1 := HNO.out (fun T hT => by
              have := HTQ.out T hT
              rw [HC.out] at this
              injection this with this
              exact h41 this)
            clear HNO hc
            go_wp2
            go_ret
            exact ⟨rfl, H4⟩
          have hcn : ((B[q2]'hq3).toNat : Int) = 41 := by
            rw [← hc, h41]
            rfl
          have HS : Hid (∃ S, q2 + 1 = p + S.length ∧ trcI A free (A.take (i + 1)) = some S ∧ S ++ B.data.toList.drop (p + S.length) = B.data.toList.drop p) := Lib.hid (by
            obtain ⟨S, h1, h2, h3⟩ := HS0.out
            have hcc := HC.out
            rw [h41, HQ2.out, h1] at hcc
            have h40 := HC40.out
            rw [h1] at h40
            have ht2 := HT2.out
            rw [h1] at ht2
            obtain ⟨S', a1, a2, a3⟩ := chk_next HMA.out HFIT.out h2 h3 HT1.out h40 ht2 hcc
            exact ⟨S', by rw [HQ2.out, h1, a2]; omega, a1, a3⟩)
          have HW9 : Hid (wrap64 ((q2 : Int) + 1) = ((q2 + 1 : Nat) : Int)) := Lib.hid (by rw [IntWalk.wrap64_in _ (by omega)]; omega)
          clear hc h41 HC HNO
          go_wp2
          go_roundw
          case rel => exact ⟨i + 1, q2 + 1, by omega, by omega, by go_num, by go_num, HS, H4⟩
          case measure => simp [intOf]; omega
    · obtain rfl : i = L := by omega
      obtain ⟨S, h1, h2, h3⟩ := HS0.out
      obtain rfl : R = (q : Int) := by rw [HR.out, h1]; exact chk_end H00.out (by rw [HL.out, List.take_length] at h2; exact h2) h3
      clear h1 h2 h3
      go_wp2
      go_ret
      exact ⟨rfl, H⟩
theorem check_c {v : Value} {A : List Nat} {B : ByteArray} (hB : B.size ≤ 2000) (hA : ∀ m ∈ A, m < 2 ^ 36) : ∀ free, free < 2 ^ 36 → ChkC v A B free := by
  intro free
  induction free using Nat.strongRecOn with
  | _ free ih =>
    intro hf
    by_cases h0 : free = 0
    · subst h0
      exact chkC_zero v A B
    · exact chkC_step hB hA h0 hf fun k hk => ih k hk (by omega)
end Go.Proofs.YtppbkiajcpdkiaaGreatDoor

namespace Go.Proofs.YtppbkiajcpdkiaaGreatDoor
open Go.RowKit

theorem str_eqT {B : ByteArray} {T : List UInt8} : (B.toList == (tb T).toList) = decide (B.data.toList = T) := by
  rw [Lib.toList_data, Lib.toList_data]
  have : (tb T).data.toList = T := by simp [tb]
  rw [this, Bool.eq_iff_iff]
  simp
set_option maxRecDepth 100000 in
set_option maxHeartbeats 1600000 in
theorem impl_rfn_c {v v2 : Value} {r : Reg} {ps : List (List Cell)} {B : ByteArray} (w : World) (h : RegRd w 0 w.heap.size v r) (h2 : CellSSRd w 0 w.heap.size v2 ps) (hn : ps.length ≤ 1048576) (hl : ∀ s ∈ ps, s.length ≤ 1048576) (ht : Tab64 w) :
    Calls Tryz.prog 81 #[v, v2, .string B] w fun e w' => e = .returned (.bool (isRf r ps B.data.toList)) ∧ Below w.heap.size w w' := by
  have HRC : Hid (∀ w1, Below w.heap.size w w1 → Calls Tryz.prog 140 #[v, v2] w1 fun e w' => e = .returned (spcV (refR r ps)) ∧ Below w1.heap.size w1 w') := Lib.hid fun w1 b1 =>
    impl_ref_c w1 ((h.keep (SameIn.of_below b1 (Nat.le_refl _))).more (Nat.le_refl _) b1.size) ((h2.keep (SameIn.of_below b1 (Nat.le_refl _))).more (Nat.le_refl _) b1.size) hn hl (tab64_on ht b1)
  obtain ⟨X, hX⟩ : ∃ X, X = isRf r ps B.data.toList := ⟨_, rfl⟩
  rw [← hX]
  have HX := Lib.hid hX
  obtain ⟨R, hR⟩ : ∃ R, R = refR r ps := ⟨_, rfl⟩
  rw [← hR] at HRC
  have HR := Lib.hid hR
  obtain ⟨sr, rfl, hsr⟩ := h
  obtain ⟨A0, c, rfl, _, _⟩ := hsr
  obtain ⟨vs0, ⟨A2, c2, rfl, _, _⟩, _⟩ := h2
  have H0 := (Sep.start w).box 29 #[.int .i64 r.w, .slice A0 r.rows.length c]
  obtain ⟨g, hg⟩ : ∃ g, g = w.heap.size := ⟨_, rfl⟩
  rw [← hg] at H0
  clear hX hR ht
  go_enter Tryz.func81, Tryz.ntmps81
  go_upto_region 1 with fail
  rw [← hg]
  generalize (w.alloc (.cells #[.int .i64 r.w, .slice A0 r.rows.length c] 29)) = W at *
  clear hg
  have c0 : W.cell? ⟨g, 0, none⟩ = some (.int .i64 r.w) := H0.h0.cell 0
  have c1 : W.cell? ⟨g, 1, none⟩ = some (.slice A0 r.rows.length c) := H0.h0.cell 1
  have HC := Lib.hid (HRC.out W H0.below)
  clear HRC
  go_wp2_with fail
  refine (HC.out).mono ?_
  rintro e w1 ⟨rfl, b1⟩
  have H1 := H0.step b1
  clear c0 c1 H0 HC b1
  cases R with
  | none =>
    obtain rfl : X = false := by rw [HX.out, isRf, ← HR.out]
    unfold spcV
    simp only [Option.getD_none, Option.isSome_none]
    go_wp2
    go_ret
    exact ⟨rfl, H1.below⟩
  | some T =>
    have HXT : Hid (X = decide (B.data.toList = T)) := Lib.hid (by rw [HX.out, isRf, ← HR.out])
    have hst := str_eqT (B := B) (T := T)
    obtain ⟨S, hS⟩ : ∃ S, S = tb T := ⟨_, rfl⟩
    rw [← HXT.out, ← hS] at hst
    unfold spcV
    simp only [Option.getD_some, Option.isSome_some]
    rw [← hS]
    clear hS HX HR HXT
    go_wp2
    go_ret
    exact ⟨rfl, H1.below⟩
set_option maxRecDepth 100000 in
set_option maxHeartbeats 3200000 in
theorem spec_rfn_c {v v2 : Value} {r : Reg} {ps : List (List Cell)} {B : ByteArray} (w : World) (h : RegRd w 0 w.heap.size v r) (h2 : CellSSRd w 0 w.heap.size v2 ps) (hn : ps.length ≤ 1048576) (hl : ∀ s ∈ ps, s.length ≤ 1048576) :
    Calls Tryz.prog 69 #[v, v2, .string B] w fun e w' => e = .returned (.bool (isRf r ps B.data.toList)) ∧ Below w.heap.size w w' := by
  have HRD : Hid (∀ w1, Below w.heap.size w w1 → RegRd w1 0 w1.heap.size v r) := Lib.hid fun w1 b1 => (h.keep (SameIn.of_below b1 (Nat.le_refl _))).more (Nat.le_refl _) b1.size
  have HR2 : Hid (∀ w1, Below w.heap.size w w1 → CellSSRd w1 0 w1.heap.size v2 ps) := Lib.hid fun w1 b1 => (h2.keep (SameIn.of_below b1 (Nat.le_refl _))).more (Nat.le_refl _) b1.size
  obtain ⟨X, hX⟩ : ∃ X, X = isRf r ps B.data.toList := ⟨_, rfl⟩
  rw [← hX]
  have HX := Lib.hid hX
  obtain ⟨sr, rfl, hsr⟩ := h
  obtain ⟨A0, c, rfl, _, _⟩ := hsr
  obtain ⟨vs0, ⟨A2, c2, rfl, _, _⟩, _⟩ := h2
  have H0 := (Sep.start w).box 29 #[.int .i64 r.w, .slice A0 r.rows.length c]
  obtain ⟨g, hg⟩ : ∃ g, g = w.heap.size := ⟨_, rfl⟩
  rw [← hg] at H0
  clear hX
  go_enter Tryz.func69, Tryz.ntmps69
  go_upto_region 1 with fail
  rw [← hg]
  generalize (w.alloc (.cells #[.int .i64 r.w, .slice A0 r.rows.length c] 29)) = W at *
  clear hg
  have c0 : W.cell? ⟨g, 0, none⟩ = some (.int .i64 r.w) := H0.h0.cell 0
  have c1 : W.cell? ⟨g, 1, none⟩ = some (.slice A0 r.rows.length c) := H0.h0.cell 1
  have hgl : g < W.heap.size := H0.h0.lt
  have HW : Hid (Below w.heap.size w W) := Lib.hid H0.below
  have HTR : Hid (∀ w', Below W.heap.size W w' → Below w.heap.size w w') := Lib.hid fun w' b => HW.out.trans (b.mono HW.out.size)
  have BB : Hid (∀ w', Below W.heap.size W w' → w'.cell? ⟨g, 0, none⟩ = some (.int .i64 r.w) ∧ w'.cell? ⟨g, 1, none⟩ = some (.slice A0 r.rows.length c)) := Lib.hid fun w' b => ⟨(b.cell (p := ⟨g, 0, none⟩) hgl).trans c0, (b.cell (p := ⟨g, 1, none⟩) hgl).trans c1⟩
  obtain ⟨K1, hK1⟩ : ∃ K, K = r.valid := ⟨_, rfl⟩
  obtain ⟨K2, hK2⟩ : ∃ K, K = arePcs ps := ⟨_, rfl⟩
  have HK1 := Lib.hid hK1
  have HK2 := Lib.hid hK2
  have HP : Hid (∀ w', Below W.heap.size W w' → Calls Tryz.prog 105 #[.agg #[.int .i64 r.w, .slice A0 r.rows.length c]] w' fun e w'' => e = .returned (.bool K1) ∧ Below w'.heap.size w' w'') := Lib.hid fun w' b => by rw [hK1]; exact spec_IsRegion_c w' (HRD.out w' (HTR.out w' b))
  have HA : Hid (∀ w', Below W.heap.size W w' → Calls Tryz.prog 106 #[.slice A2 ps.length c2] w' fun e w'' => e = .returned (.bool K2) ∧ Below w'.heap.size w' w'') := Lib.hid fun w' b => by rw [hK2]; exact spec_arePcs_c w' (HR2.out w' (HTR.out w' b)) hn hl
  have HPL : Hid (∀ u : Later W, Calls Tryz.prog 105 #[.agg #[.int .i64 r.w, .slice A0 r.rows.length c]] u.w fun e w'' => e = .returned (.bool K1) ∧ Below u.w.heap.size u.w w'') := Lib.hid fun u => HP.out u.w u.h
  have HAL : Hid (∀ u : Later W, Calls Tryz.prog 106 #[.slice A2 ps.length c2] u.w fun e w'' => e = .returned (.bool K2) ∧ Below u.w.heap.size u.w w'') := Lib.hid fun u => HA.out u.w u.h
  clear hK1 hK2
  cases K1
  · obtain rfl : X = false := by rw [HX.out, rf_no (by rw [← HK1.out]; rfl)]
    have l0 := Later.cell c0 hgl
    have l1 := Later.cell c1 hgl
    clear c0 c1
    refine wp_region_later (by kernel_rfl) (by kernel_rfl) ?_
    repeat (go_big_quiet_step ((first | (go_at_call 105; with_reducible exact Later.call (HPL.out _)) | (go_at_call 106; with_reducible exact Later.call (HAL.out _)))))
    refine wpQuiet_nil ?_
    intro w5 hw5
    obtain ⟨u5, hu5⟩ := hw5
    subst hu5
    have H2 := H0.later u5
    clear l0 l1 HPL HAL H0
    generalize u5.w = w5 at *
    go_wp2
    go_ret
    exact ⟨rfl, H2.below⟩
  cases K2
  · obtain rfl : X = false := by rw [HX.out, rf_no (by rw [← HK2.out, Bool.and_false])]
    have l0 := Later.cell c0 hgl
    have l1 := Later.cell c1 hgl
    clear c0 c1
    refine wp_region_later (by kernel_rfl) (by kernel_rfl) ?_
    repeat (go_big_quiet_step ((first | (go_at_call 105; with_reducible exact Later.call (HPL.out _)) | (go_at_call 106; with_reducible exact Later.call (HAL.out _)))))
    refine wpQuiet_nil ?_
    intro w5 hw5
    obtain ⟨u5, hu5⟩ := hw5
    subst hu5
    have H2 := H0.later u5
    clear l0 l1 HPL HAL H0
    generalize u5.w = w5 at *
    go_wp2
    go_ret
    exact ⟨rfl, H2.below⟩
  have hrs := rf_spec (r := r) (ps := ps) (s := B.data.toList) (by rw [← HK1.out, ← HK2.out]; rfl)
  have hsz : B.data.toList.length = B.size := Array.length_toList
  rw [hsz] at hrs
  by_cases h2000 : B.size ≤ 2000
  rotate_left
  · have hd : decide ((B.size : Int) ≤ 2000) = false := decide_eq_false (by omega)
    have hd2 : decide (B.size ≤ 2000) = false := decide_eq_false h2000
    have hdn : ¬ (B.size : Int) ≤ 2000 := by omega
    obtain rfl : X = false := by rw [HX.out, hrs, hd2, Bool.false_and]
    clear hrs hsz
    have l0 := Later.cell c0 hgl
    have l1 := Later.cell c1 hgl
    clear c0 c1
    refine wp_region_later (by kernel_rfl) (by kernel_rfl) ?_
    repeat (go_big_quiet_step ((first | (go_at_call 105; with_reducible exact Later.call (HPL.out _)) | (go_at_call 106; with_reducible exact Later.call (HAL.out _)))))
    refine wpQuiet_nil ?_
    intro w5 hw5
    obtain ⟨u5, hu5⟩ := hw5
    subst hu5
    have H2 := H0.later u5
    clear l0 l1 HPL HAL H0
    generalize u5.w = w5 at *
    go_wp2
    go_ret
    exact ⟨rfl, H2.below⟩
  have hd : decide ((B.size : Int) ≤ 2000) = true := decide_eq_true (by omega)
  have hdn : (B.size : Int) ≤ 2000 := by omega
  have HV := Lib.hid (Reg.valid_iff.1 HK1.out.symm)
  have HAP := Lib.hid HK2.out.symm
  obtain ⟨V, hV⟩ : ∃ V, V = chkV (allN r ps) r.mask B.data.toList 0 := ⟨_, rfl⟩
  have hXV : (V == (B.size : Int)) = X := by
    rw [HX.out, hrs, ← hV, decide_eq_true h2000, Bool.true_and, Bool.eq_iff_iff]
    simp
  have HALL : Hid (∀ w', Below W.heap.size W w' → Calls Tryz.prog 108 #[.agg #[.int .i64 r.w, .slice A0 r.rows.length c], .slice A2 ps.length c2] w' fun e w'' => ∃ v', e = .returned v' ∧ IntsIn w'' w'.heap.size w''.heap.size v' (nl (allN r ps)) ∧ Below w'.heap.size w' w'') := Lib.hid fun w' b => by
    rw [nl_allN HV.out]
    exact spec_all_c w' (HRD.out w' (HTR.out w' b)) (HR2.out w' (HTR.out w' b)) HV.out HAP.out
  have HMK : Hid (∀ w', Below W.heap.size W w' → Calls Tryz.prog 57 #[.agg #[.int .i64 r.w, .slice A0 r.rows.length c]] w' fun e w'' => e = .returned (.int .i64 (r.mask : Int)) ∧ Below w'.heap.size w' w'') := Lib.hid fun w' b => spec_mask_c w' (HRD.out w' (HTR.out w' b)) HV.out
  have HCV : Hid (∀ w' va, Below W.heap.size W w' → IntsRd w' 0 w'.heap.size va (nl (allN r ps)) → Calls Tryz.prog 131 #[va, .int .i64 (r.mask : Int), .string B, .int .i64 0] w' fun e w'' => e = .returned (.int .i64 V) ∧ Below w'.heap.size w' w'') := Lib.hid fun w' va b ha => by
    rw [hV]
    exact check_c h2000 (fun m hm => allN_lt HV.out m hm) r.mask (Reg.mask_lt HV.out) 0 w' ha (Nat.zero_le _)
  clear c0 c1 H0 HPL HAL hrs hsz hV h2000
  have HH : Below W.heap.size W W.drew := below_drew (Below.refl _ _)
  have f0 := (BB.out _ HH).1
  have f1 := (BB.out _ HH).2
  go_region_held3 (fun w' => w'.cell? ⟨g, 0, none⟩ = some (.int .i64 r.w) ∧ w'.cell? ⟨g, 1, none⟩ = some (.slice A0 r.rows.length c))
    (first | ((try dsimp only); refine ⟨?_, ?_⟩ <;> assumption) | go_keep)
    (first
    | (go_at_call 105; (with_reducible refine (HP.out _ HH).mono ?_); rintro e wz ⟨rfl, bz⟩; replace HH := HH.trans (bz.mono HH.size); clear bz; have f0 := (BB.out _ HH).1; have f1 := (BB.out _ HH).2)
    | (go_at_call 106; (with_reducible refine (HA.out _ HH).mono ?_); rintro e wz ⟨rfl, bz⟩; replace HH := HH.trans (bz.mono HH.size); clear bz; have f0 := (BB.out _ HH).1; have f1 := (BB.out _ HH).2)
    | (go_at_call 108; (with_reducible refine (HALL.out _ HH).mono ?_); rintro e wz ⟨va, rfl, oa, bz⟩; have HA1 := Lib.hid ((IntsIn.rd oa).more (Nat.zero_le _) (Nat.le_refl _)); obtain ⟨Aa, ca, rfl, _, _⟩ := (IntsIn.rd oa); replace HH := HH.trans (bz.mono HH.size); clear bz oa; have f0 := (BB.out _ HH).1; have f1 := (BB.out _ HH).2)
    | (go_at_call 57; (with_reducible refine (HMK.out _ HH).mono ?_); rintro e wz ⟨rfl, bz⟩; (first | (have HA2 := Lib.hid ((HA1.out.keep (SameIn.of_below bz (Nat.le_refl _))).more (Nat.le_refl _) bz.size)) | skip); replace HH := HH.trans (bz.mono HH.size); clear bz; have f0 := (BB.out _ HH).1; have f1 := (BB.out _ HH).2)
    | (go_at_call 131; (with_reducible refine (HCV.out _ _ HH HA2.out).mono ?_); rintro e wz ⟨rfl, bz⟩; replace HH := HH.trans (bz.mono HH.size); clear bz; have f0 := (BB.out _ HH).1; have f1 := (BB.out _ HH).2)
    | (go_at_call 131; (with_reducible refine (HCV.out _ _ HH HA1.out).mono ?_); rintro e wz ⟨rfl, bz⟩; replace HH := HH.trans (bz.mono HH.size); clear bz; have f0 := (BB.out _ HH).1; have f1 := (BB.out _ HH).2))
  all_goals
    go_wp2
    go_ret
    exact ⟨rfl, HTR.out _ HH⟩
end Go.Proofs.YtppbkiajcpdkiaaGreatDoor
