
/-
  Do two shapes tile a region? Both walks. Rectangles that a shape tiles, and the least that two shapes tile, in plain Lean. No program in sight. The rectangles that a shape tiles: both walks. Does a shape tile a rectangle? The program's walk. The rectangles that a shape tiles, as a list: both walks. The rectangles that a shape tiles, as a list: the program. The least rectangle that two shapes tile: the program's walk. The least rectangle that two shapes tile: the program's walk. The least rectangle that two shapes tile: the reference's walk. Is there a rectangle that both shapes tile, and how great is the least? Both walks. The tilings of the least rectangle by both shapes: both walks. Is a list of masks a tiling? Plain: what both sides compute; the tilings of the search are tilings. IsTiling: both walks. Common rectangles, plain: which shape stands first does not matter; what is found are tilings.
-/
import Derived.Test.YtfildenelgbmlaaGreatDoorFtS
import Derived.Test.YtfildenelgbmlaaGreatDoorFtX
import Derived.Test.YtfildenelgbmlaaGreatDoorRect
import Derived.Test.YtfildenelgbmlaaGreatDoorTilP
import Derived.Test.YtfildenelgbmlaaGreatDoorRepH
import Derived.Test.YtfildenelgbmlaaGreatDoorPkPU
import Derived.Test.YtfildenelgbmlaaGreatDoorPzG
import Derived.Test.YtfildenelgbmlaaGreatDoorPlcSX
import Derived.Deep.RegionHeld3
namespace Go.Proofs.YtfildenelgbmlaaGreatDoor
open Go.RowKit

theorem one_ssRd {w : World} {g : Nat} {x : Value} {s : List Cell} (hb : Blk w g 24 #[x]) (hx : CellsRd w 0 w.heap.size x s) : CellSSRd w 0 w.heap.size (.slice (some ⟨g, 0, none⟩) 1 1) [s] := by
  refine ⟨[x], ⟨_, _, rfl, by show 1 ≤ maxLen; decide, rfl, fun _ => ⟨g, 0, rfl, Nat.zero_le _, hb.lt, fun j u hu => ?_⟩⟩, rfl, fun i u hu => ?_⟩
  · rw [hb.cell]
    simpa using hu
  · match i, hu with
    | 0, hu => simp at hu; subst hu; exact ⟨x, rfl, hx⟩
def comR (a b : List Cell) (r : Reg) : Bool := findB r [a] && findB r [b]
theorem comR_no {a b : List Cell} {r : Reg} (h : findB r [a] = false) : comR a b r = false := by unfold comR; rw [h]; rfl
theorem comR_yes {a b : List Cell} {r : Reg} (h : findB r [a] = true) : comR a b r = findB r [b] := by unfold comR; rw [h]; rfl
set_option maxRecDepth 100000 in
set_option maxHeartbeats 400000 in
theorem spec_comR_c {va vb v : Value} {a b : List Cell} {r : Reg} (w : World) (ha : CellsRd w 0 w.heap.size va a) (hb : CellsRd w 0 w.heap.size vb b) (h : RegRd w 0 w.heap.size v r) (hla : a.length ≤ 1048576) (hlb : b.length ≤ 1048576)  :
    Calls Tryz.prog 20 #[va, vb, v] w fun e w' => e = .returned (.bool (comR a b r)) ∧ Below w.heap.size w w' := by
  have HT : Hid (∀ w1 g x s, Below w.heap.size w w1 → s.length ≤ 1048576 → CellsRd w 0 w.heap.size x s → Blk w1 g 24 #[x] → Calls Tryz.prog 72 #[v, .slice (some ⟨g, 0, none⟩) 1 1] w1 fun e w' => e = .returned (.bool (findB r [s])) ∧ Below w1.heap.size w1 w') := Lib.hid fun w1 g x s b1 hs hx hbk =>
    spec_hasT_c (ps := [s]) w1 ((h.keep (SameIn.of_below b1 (Nat.le_refl _))).more (Nat.le_refl _) b1.size) (one_ssRd hbk ((hx.keep (SameIn.of_below b1 (Nat.le_refl _))).more (Nat.le_refl _) b1.size)) (by show 1 ≤ 1048576; omega) (fun t ht => by rw [List.mem_singleton] at ht; rw [ht]; exact hs) 
  have HA := Lib.hid ha
  have HB := Lib.hid hb
  obtain ⟨R, hR⟩ : ∃ R, R = comR a b r := ⟨_, rfl⟩
  rw [← hR]
  have HR := Lib.hid hR
  obtain ⟨sr, rfl, hsr⟩ := h
  obtain ⟨A, c, rfl, _, _⟩ := hsr
  obtain ⟨A1, c1, rfl, _, _⟩ := ha
  obtain ⟨A2, c2, rfl, _, _⟩ := hb
  have H0 := ((Sep.start w).box 36 #[.int .i64 r.w, .slice A r.rows.length c]).box 24 #[.slice A1 a.length c1]
  simp only [World.size_alloc] at H0
  have HC1 := Lib.hid (HT.out _ _ _ a H0.below hla HA.out H0.h0)
  clear hR
  go_enter Tryz.func20, Tryz.ntmps20
  go_wp2_with fail
  refine (HC1.out).mono ?_
  rintro e w1 ⟨rfl, b1⟩
  have H1 := H0.step b1
  clear H0 b1 HC1
  cases hf : findB r [a]
  · obtain rfl : R = false := by rw [HR.out, comR_no hf]
    have hB := H1.below
    clear hf
    go_wp2
    go_ret
    exact ⟨rfl, hB⟩
  · obtain rfl : R = findB r [b] := by rw [HR.out, comR_yes hf]
    have H2 := H1.box 24 #[.slice A2 b.length c2]
    have HC2 := Lib.hid (HT.out _ _ _ b H2.below hlb HB.out H2.h0)
    have c0 : w1.cell? ⟨w.heap.size, 0, none⟩ = some (.int .i64 r.w) := H1.h1.cell 0
    have c1' : w1.cell? ⟨w.heap.size, 1, none⟩ = some (.slice A r.rows.length c) := H1.h1.cell 1
    clear hf
    go_wp2_with fail
    refine (HC2.out).mono ?_
    rintro e w2 ⟨rfl, b2⟩
    have hB := H2.below.trans (b2.mono H2.size)
    clear H1 H2 b2 HC2 c0 c1'
    go_wp2
    go_ret
    exact ⟨rfl, hB⟩
set_option maxRecDepth 100000 in
set_option maxHeartbeats 400000 in
theorem impl_comR_c {va vb v : Value} {a b : List Cell} {r : Reg} (w : World) (ha : CellsRd w 0 w.heap.size va a) (hb : CellsRd w 0 w.heap.size vb b) (h : RegRd w 0 w.heap.size v r) (hla : a.length ≤ 1048576) (hlb : b.length ≤ 1048576) (htab : Tab64 w) :
    Calls Tryz.prog 18 #[va, vb, v] w fun e w' => e = .returned (.bool (comR a b r)) ∧ Below w.heap.size w w' := by
  have HT : Hid (∀ w1 g x s, Below w.heap.size w w1 → s.length ≤ 1048576 → CellsRd w 0 w.heap.size x s → Blk w1 g 24 #[x] → Calls Tryz.prog 69 #[v, .slice (some ⟨g, 0, none⟩) 1 1] w1 fun e w' => e = .returned (.bool (findB r [s])) ∧ Below w1.heap.size w1 w') := Lib.hid fun w1 g x s b1 hs hx hbk =>
    impl_hasT_c (ps := [s]) w1 ((h.keep (SameIn.of_below b1 (Nat.le_refl _))).more (Nat.le_refl _) b1.size) (one_ssRd hbk ((hx.keep (SameIn.of_below b1 (Nat.le_refl _))).more (Nat.le_refl _) b1.size)) (by show 1 ≤ 1048576; omega) (fun t ht => by rw [List.mem_singleton] at ht; rw [ht]; exact hs) (tab64_on htab b1)
  have HA := Lib.hid ha
  have HB := Lib.hid hb
  obtain ⟨R, hR⟩ : ∃ R, R = comR a b r := ⟨_, rfl⟩
  rw [← hR]
  have HR := Lib.hid hR
  obtain ⟨sr, rfl, hsr⟩ := h
  obtain ⟨A, c, rfl, _, _⟩ := hsr
  obtain ⟨A1, c1, rfl, _, _⟩ := ha
  obtain ⟨A2, c2, rfl, _, _⟩ := hb
  have H0 := ((Sep.start w).box 36 #[.int .i64 r.w, .slice A r.rows.length c]).box 24 #[.slice A1 a.length c1]
  simp only [World.size_alloc] at H0
  have HC1 := Lib.hid (HT.out _ _ _ a H0.below hla HA.out H0.h0)
  clear hR
  go_enter Tryz.func18, Tryz.ntmps18
  go_wp2_with fail
  refine (HC1.out).mono ?_
  rintro e w1 ⟨rfl, b1⟩
  have H1 := H0.step b1
  clear H0 b1 HC1
  cases hf : findB r [a]
  · obtain rfl : R = false := by rw [HR.out, comR_no hf]
    have hB := H1.below
    clear hf
    go_wp2
    go_ret
    exact ⟨rfl, hB⟩
  · obtain rfl : R = findB r [b] := by rw [HR.out, comR_yes hf]
    have H2 := H1.box 24 #[.slice A2 b.length c2]
    have HC2 := Lib.hid (HT.out _ _ _ b H2.below hlb HB.out H2.h0)
    have c0 : w1.cell? ⟨w.heap.size, 0, none⟩ = some (.int .i64 r.w) := H1.h1.cell 0
    have c1' : w1.cell? ⟨w.heap.size, 1, none⟩ = some (.slice A r.rows.length c) := H1.h1.cell 1
    clear hf
    go_wp2_with fail
    refine (HC2.out).mono ?_
    rintro e w2 ⟨rfl, b2⟩
    have hB := H2.below.trans (b2.mono H2.size)
    clear H1 H2 b2 HC2 c0 c1'
    go_wp2
    go_ret
    exact ⟨rfl, hB⟩
end Go.Proofs.YtfildenelgbmlaaGreatDoor

namespace Go.Proofs.YtfildenelgbmlaaGreatDoor
open Go.RowKit

/-- a rectangle -/
def rectR (a b : Nat) : Reg := ⟨a, List.replicate b (2 ^ a - 1)⟩
def pairsN : List (Nat × Nat) := [(1, 1), (1, 2), (1, 3), (1, 4), (1, 5), (2, 2), (2, 3), (2, 4), (2, 5), (3, 3), (3, 4), (3, 5), (4, 4), (4, 5), (5, 5)]
def tilesB (s : List Cell) (p : Nat × Nat) : Bool := isShape s && ((p.1 * p.2) % s.length == 0) && findB (rectR p.1 p.2) [s]
/-- the pairs that come ahead of a pair -/
def uptoL (a b : Nat) : List (Nat × Nat) := pairsN.filter fun p => decide (p.1 < a) || (decide (p.1 = a) && decide (p.2 < b))
theorem uptoL_all : ∀ p ∈ pairsN, uptoL p.1 (p.2 + 1) = uptoL p.1 p.2 ++ [p] := by decide +kernel
theorem pairsN_in {a b : Nat} (h1 : 1 ≤ a) (hb : a ≤ b) (hb5 : b ≤ 5) : (a, b) ∈ pairsN := by
  have hx : a = 1 ∨ a = 2 ∨ a = 3 ∨ a = 4 ∨ a = 5 := by omega
  have hy : b = 1 ∨ b = 2 ∨ b = 3 ∨ b = 4 ∨ b = 5 := by omega
  rcases hx with rfl | rfl | rfl | rfl | rfl <;> rcases hy with rfl | rfl | rfl | rfl | rfl <;> first | decide | omega
theorem uptoL_step {a b : Nat} (h1 : 1 ≤ a) (hb : a ≤ b) (hb5 : b ≤ 5) : uptoL a (b + 1) = uptoL a b ++ [(a, b)] := uptoL_all (a, b) (pairsN_in h1 hb hb5)
theorem uptoL_row : ∀ a, a < 6 → 1 ≤ a → uptoL a 6 = uptoL (a + 1) (a + 1) := by decide +kernel
theorem uptoL_end : uptoL 6 6 = pairsN := by decide +kernel
theorem uptoL_start : uptoL 1 1 = [] := by decide +kernel
def uptoP (f : Nat × Nat → Bool) (a b : Nat) : List (Nat × Nat) := (uptoL a b).filter f
theorem uptoP_start (f : Nat × Nat → Bool) : uptoP f 1 1 = [] := by rw [uptoP, uptoL_start]; rfl
theorem uptoP_end (f : Nat × Nat → Bool) : uptoP f 6 6 = pairsN.filter f := by rw [uptoP, uptoL_end]
theorem uptoP_row (f : Nat × Nat → Bool) {a : Nat} (h1 : 1 ≤ a) (h5 : a ≤ 5) : uptoP f a 6 = uptoP f (a + 1) (a + 1) := by rw [uptoP, uptoL_row a (by omega) h1]; rfl
theorem uptoP_step (f : Nat × Nat → Bool) {a b : Nat} (h1 : 1 ≤ a) (hb : a ≤ b) (hb5 : b ≤ 5) : uptoP f a (b + 1) = uptoP f a b ++ if f (a, b) then [(a, b)] else [] := by
  rw [uptoP, uptoL_step h1 hb hb5, List.filter_append, List.filter_cons, List.filter_nil]
  rfl
theorem uptoP_len (f : Nat × Nat → Bool) (a b : Nat) : (uptoP f a b).length ≤ 15 := Nat.le_trans (List.length_filter_le _ _) (Nat.le_trans (List.length_filter_le _ _) (by decide))
theorem pairsN_le : ∀ p ∈ pairsN, 1 ≤ p.1 ∧ p.1 ≤ 5 ∧ 1 ≤ p.2 ∧ p.2 ≤ 5 := by decide
/-- the rectangles that a shape tiles -/
def rectsT (s : List Cell) : List (Nat × Nat) := pairsN.filter (tilesB s)
theorem rectsT_mem {s : List Cell} {p : Nat × Nat} : p ∈ rectsT s ↔ p ∈ pairsN ∧ tilesB s p = true := List.mem_filter
def rowP (p : Nat × Nat) : List Int := [(p.1 : Int), (p.2 : Int)]
def rowsP (L : List (Nat × Nat)) : List (List Int) := L.map rowP
theorem rowsP_at {L : List (Nat × Nat)} {i : Nat} {p : Nat × Nat} (h : L[i]? = some p) : (rowsP L)[i]? = some (rowP p) := by simp [rowsP, h]
theorem rowsP_len {L : List (Nat × Nat)} : (rowsP L).length = L.length := by simp [rowsP]
theorem rowsP_snoc {L : List (Nat × Nat)} {p : Nat × Nat} : rowsP (L ++ [p]) = rowsP L ++ [rowP p] := by simp [rowsP]
theorem rowP_same {p q : Nat × Nat} : rowP p = rowP q ↔ p = q := by
  simp only [rowP, List.cons.injEq, Int.natCast_inj, and_true]
  exact ⟨fun h => Prod.ext h.1 h.2, fun h => by rw [h]; exact ⟨rfl, rfl⟩⟩
/-- both -/
def comP (a b : List Cell) : List (Nat × Nat) := (rectsT a).filter fun p => tilesB b p
theorem comP_mem {a b : List Cell} {p : Nat × Nat} (h : p ∈ comP a b) : p ∈ pairsN := (rectsT_mem.1 (List.mem_filter.1 h).1).1
theorem comP_len {a b : List Cell} : (comP a b).length ≤ 15 := Nat.le_trans (List.length_filter_le _ _) (Nat.le_trans (List.length_filter_le _ _) (by decide))
/-- a pair is met as often among pairs as it stands there: once, or not at all -/
theorem met_once (p : Nat × Nat) : ∀ {l : List (Nat × Nat)}, l.Nodup → l.filter (fun q => decide (p = q)) = if p ∈ l then [p] else []
  | [], _ => by simp
  | q :: l, h => by
    have h' := List.nodup_cons.1 h
    rw [List.filter_cons, met_once p h'.2]
    by_cases e : p = q
    · subst e
      simp [h'.1]
    · simp [e]
theorem rectsT_nodup {s : List Cell} : (rectsT s).Nodup := (List.filter_sublist (p := tilesB s)).nodup (by decide)
theorem met_rects {s : List Cell} {p : Nat × Nat} (h : p ∈ pairsN) : (rectsT s).filter (fun q => decide (p = q)) = if tilesB s p then [p] else [] := by
  rw [met_once p rectsT_nodup]
  simp [rectsT_mem, h]
/-- the first pair with the least product -/
def lessP : Option (Nat × Nat) → Nat × Nat → Option (Nat × Nat)
  | none, p => some p
  | some q, p => if p.1 * p.2 < q.1 * q.2 then some p else some q
def leastP (L : List (Nat × Nat)) : Option (Nat × Nat) := L.foldl lessP none
theorem leastP_snoc {L : List (Nat × Nat)} {p : Nat × Nat} : leastP (L ++ [p]) = lessP (leastP L) p := by simp [leastP]
theorem leastP_nil : leastP [] = none := rfl
theorem lessP_mem : ∀ (L : List (Nat × Nat)) (o : Option (Nat × Nat)) (q : Nat × Nat), L.foldl lessP o = some q → o = some q ∨ q ∈ L
  | [], _, _, h => .inl h
  | p :: L, o, q, h => by
    rcases lessP_mem L (lessP o p) q h with h1 | h1
    · cases o with
      | none => simp [lessP] at h1; exact .inr (by simp [h1])
      | some r =>
        simp only [lessP] at h1
        split at h1
        · simp at h1; exact .inr (by simp [h1])
        · exact .inl h1
    · exact .inr (by simp [h1])
theorem leastP_mem {L : List (Nat × Nat)} {q : Nat × Nat} (h : leastP L = some q) : q ∈ L := by
  rcases lessP_mem L none q h with h1 | h1
  · cases h1
  · exact h1
theorem lessP_some : ∀ (L : List (Nat × Nat)) (o : Option (Nat × Nat)), o.isSome = true → (L.foldl lessP o).isSome = true
  | [], _, h => h
  | p :: L, o, h => lessP_some L (lessP o p) (by
    cases o with
    | none => rfl
    | some r => simp only [lessP]; split <;> rfl)
theorem leastP_pos {L : List (Nat × Nat)} (h : L ≠ []) : (leastP L).isSome = true := by
  cases L with
  | nil => exact absurd rfl h
  | cons p L => exact lessP_some L (some p) rfl
/-- the first numbers rise -/
def UpP (L : List (Nat × Nat)) : Prop := L.Pairwise fun p q => p.1 ≤ q.1
theorem pairsN_up : UpP pairsN := by unfold UpP; decide
theorem comP_up {a b : List Cell} : UpP (comP a b) := (pairsN_up.sublist List.filter_sublist).sublist List.filter_sublist
theorem upP_take {L : List (Nat × Nat)} (h : UpP L) {i : Nat} {p q : Nat × Nat} (hi : L[i]? = some p) (hq : q ∈ L.take i) : q.1 ≤ p.1 := by
  obtain ⟨j, hj⟩ := List.getElem?_of_mem hq
  have hjl := (List.getElem?_eq_some_iff.1 hj).1
  rw [List.length_take] at hjl
  rw [List.getElem?_take] at hj
  split at hj
  · obtain ⟨h1, e1⟩ := List.getElem?_eq_some_iff.1 hi
    obtain ⟨h2, e2⟩ := List.getElem?_eq_some_iff.1 hj
    have := List.pairwise_iff_getElem.1 h j i h2 h1 (by omega)
    rw [e1, e2] at this
    exact this
  · cases hj
def comL (a b : List Cell) : Option (Nat × Nat) := leastP (comP a b)
theorem comL_mem {a b : List Cell} {p : Nat × Nat} (h : comL a b = some p) : 1 ≤ p.1 ∧ p.1 ≤ 5 ∧ 1 ≤ p.2 ∧ p.2 ≤ 5 := pairsN_le p (comP_mem (leastP_mem h))
/-- the answer as two numbers -/
def comA (a b : List Cell) : Nat × Nat := (comL a b).getD (0, 0)
def comB (a b : List Cell) : Bool := (comL a b).isSome
end Go.Proofs.YtfildenelgbmlaaGreatDoor

namespace Go.Proofs.YtfildenelgbmlaaGreatDoor
open Go.RowKit

theorem cells_keep {w w' : World} {v : Value} {l : List Cell} (h : CellsRd w 0 w.heap.size v l) (hb : Below w.heap.size w w') : CellsRd w' 0 w'.heap.size v l := (h.keep (SameIn.of_below hb (Nat.le_refl _))).more (Nat.le_refl _) hb.size
set_option maxRecDepth 100000 in
theorem infoRowT : (Tryz.prog.info? 31).map (fun i => (i.zero, i.size, i.bytes)) = some (some (.slice none 0 0), 1, 24) := by kernel_rfl
set_option maxRecDepth 100000 in
theorem side_c (x : Int) (w : World) : Calls Tryz.prog 76 #[.int .i64 x] w fun e w' => e = .returned (.bool (inR x 1 6)) ∧ w = w' := isSide_c x w
set_option maxRecDepth 100000 in
set_option maxHeartbeats 1600000 in
theorem rectI_1 (h : Nat) (w : World) (h1 : 1 ≤ h) (h6 : h ≤ 6) :
    Calls Tryz.prog 61 #[.int .i64 1, .int .i64 (h : Int)] w fun e w' => ∃ A c, e = .returned (.tuple #[.agg #[.int .i64 1, .slice A h c], .bool true]) ∧ OI w' w.heap.size w'.heap.size 3 1 (.slice A h c) h (ic (List.replicate h 1)) ∧ Below w.heap.size w w' := by
  obtain ⟨j0, hj0, hy0, hy1, hy2⟩ := info_parts infoIntC
  have hr1 : inR 1 1 6 = true := by decide
  have hr2 : inR (h : Int) 1 6 = true := inR_t (by omega) (by omega)
  have H := (((Sep.start w).box 36 #[.int .i64 0, .slice none 0 0]).nil 3 1).box 36 #[.int .i64 1, .slice none 0 0]
  simp only [World.size_alloc] at H
  go_enter Tryz.func61, Tryz.ntmps61
  go_wp2_with (go_at_call 76; refine (side_c _ _).mono ?_; rintro e w' ⟨rfl, rfl⟩)
  clear hr1 hr2
  generalize (w.alloc (.cells #[.int .i64 0, .slice none 0 0] 36)).alloc (.cells #[.int .i64 1, .slice none 0 0] 36) = W at *
  go_loopw [19] (fun i wr => ∃ (j : Nat) (v : Value), j ≤ h ∧ i = .int .i64 j ∧ Sep w wr [Res.box (w.heap.size + 1) 36 #[.int .i64 1, v], Res.row v 3 1 j (ic (List.replicate j 1)), Res.box w.heap.size 36 #[.int .i64 0, .slice none 0 0]]) (fun i _ => h - (intOf i).toNat)
  case atStart => exact ⟨0, _, by omega, rfl, H⟩
  case round =>
    clear H
    obtain ⟨j, v, hj, rfl, H⟩ := hrel
    obtain ⟨A, cv, rfl, _, _, _⟩ := Res.row_at H.h1
    have x0 := H.h0.cell 0
    have x1 := H.h0.cell 1
    simp at x0 x1
    by_cases hlj : j < h
    · have hw1 : IntKind.i64.wrap 2 = 2 := rfl
      have hw2 : IntKind.i64.wrap 1 = 1 := rfl
      have hgb : w.heap.size + 1 < wr.heap.size := H.h0.lt
      go_wp2_with fail
      go_region_law (refine step_app rfl (.tmp 22) (.tmp 26) 31 rfl 3 j0 _ 1 8 Tryz.underlying31 hj0 hy0 hy1 hy2 rfl (by decide) (.slice A j cv) j _ (by simp [Act.eval]) ((H.alloc _).drew.g1) (some ⟨wr.heap.size, 0, none⟩) 1 1 [.int .i64 1] (by simp [Act.eval]) (Rd.fresh wr 3 #[.int .i64 1] 1 1 rfl) oc1 (by unfold maxLen; omega) (by omega) ?_; intro v' w5 H5; obtain ⟨A5, cv5, rfl, _, _, _⟩ := Res.row_at H5.h0; have y1 := H5.h1.cell 1; have f1 := H5.h1.frozen 1; simp at y1)
      all_goals
        have H6 := H5.g1.set_ 1 (.slice A5 (j + 1) cv5)
        have e : ic (List.replicate (j + 1) 1) = ic (List.replicate j 1) ++ [.int .i64 1] := by rw [List.replicate_succ', ic_append]; rfl
        have HE := Lib.hid e
        clear e hw1 hw2 f1 y1 x0 x1 H5
        go_wp2
        go_roundw
        case rel => exact ⟨j + 1, .slice A5 (j + 1) cv5, by omega, by go_num, by rw [HE.out]; exact H6⟩
        case measure => simp [intOf]; omega
    · obtain rfl : j = h := by omega
      have z0 := H.h2.cell 0
      have z1 := H.h2.cell 1
      have f0 := H.h2.frozen 0
      have f1 := H.h2.frozen 1
      simp at z0 z1
      have H6 := ((H.g2.set_ 0 (.int .i64 1)).set_ 1 (.slice A j cv))
      have u0 := H6.h0.cell 0
      have u1 := H6.h0.cell 1
      simp at u0 u1
      go_wp2
      exact bodyPost_ret (v := .tuple #[.agg #[.int .i64 1, .slice A j cv], .bool true]) (by simp [results, Tryz.results61, go_sem, u0, u1]) rfl ⟨_, _, rfl, H6.g2.oi, H6.below⟩
set_option maxRecDepth 100000 in
set_option maxHeartbeats 1600000 in
theorem rectI_2 (h : Nat) (w : World) (h1 : 1 ≤ h) (h6 : h ≤ 6) :
    Calls Tryz.prog 61 #[.int .i64 2, .int .i64 (h : Int)] w fun e w' => ∃ A c, e = .returned (.tuple #[.agg #[.int .i64 2, .slice A h c], .bool true]) ∧ OI w' w.heap.size w'.heap.size 3 1 (.slice A h c) h (ic (List.replicate h 3)) ∧ Below w.heap.size w w' := by
  obtain ⟨j0, hj0, hy0, hy1, hy2⟩ := info_parts infoIntC
  have hr1 : inR 2 1 6 = true := by decide
  have hr2 : inR (h : Int) 1 6 = true := inR_t (by omega) (by omega)
  have H := (((Sep.start w).box 36 #[.int .i64 0, .slice none 0 0]).nil 3 1).box 36 #[.int .i64 2, .slice none 0 0]
  simp only [World.size_alloc] at H
  go_enter Tryz.func61, Tryz.ntmps61
  go_wp2_with (go_at_call 76; refine (side_c _ _).mono ?_; rintro e w' ⟨rfl, rfl⟩)
  clear hr1 hr2
  generalize (w.alloc (.cells #[.int .i64 0, .slice none 0 0] 36)).alloc (.cells #[.int .i64 2, .slice none 0 0] 36) = W at *
  go_loopw [19] (fun i wr => ∃ (j : Nat) (v : Value), j ≤ h ∧ i = .int .i64 j ∧ Sep w wr [Res.box (w.heap.size + 1) 36 #[.int .i64 2, v], Res.row v 3 1 j (ic (List.replicate j 3)), Res.box w.heap.size 36 #[.int .i64 0, .slice none 0 0]]) (fun i _ => h - (intOf i).toNat)
  case atStart => exact ⟨0, _, by omega, rfl, H⟩
  case round =>
    clear H
    obtain ⟨j, v, hj, rfl, H⟩ := hrel
    obtain ⟨A, cv, rfl, _, _, _⟩ := Res.row_at H.h1
    have x0 := H.h0.cell 0
    have x1 := H.h0.cell 1
    simp at x0 x1
    by_cases hlj : j < h
    · have hw1 : IntKind.i64.wrap 4 = 4 := rfl
      have hw2 : IntKind.i64.wrap 3 = 3 := rfl
      have hgb : w.heap.size + 1 < wr.heap.size := H.h0.lt
      go_wp2_with fail
      go_region_law (refine step_app rfl (.tmp 22) (.tmp 26) 31 rfl 3 j0 _ 1 8 Tryz.underlying31 hj0 hy0 hy1 hy2 rfl (by decide) (.slice A j cv) j _ (by simp [Act.eval]) ((H.alloc _).drew.g1) (some ⟨wr.heap.size, 0, none⟩) 1 1 [.int .i64 3] (by simp [Act.eval]) (Rd.fresh wr 3 #[.int .i64 3] 1 1 rfl) oc1 (by unfold maxLen; omega) (by omega) ?_; intro v' w5 H5; obtain ⟨A5, cv5, rfl, _, _, _⟩ := Res.row_at H5.h0; have y1 := H5.h1.cell 1; have f1 := H5.h1.frozen 1; simp at y1)
      all_goals
        have H6 := H5.g1.set_ 1 (.slice A5 (j + 1) cv5)
        have e : ic (List.replicate (j + 1) 3) = ic (List.replicate j 3) ++ [.int .i64 3] := by rw [List.replicate_succ', ic_append]; rfl
        have HE := Lib.hid e
        clear e hw1 hw2 f1 y1 x0 x1 H5
        go_wp2
        go_roundw
        case rel => exact ⟨j + 1, .slice A5 (j + 1) cv5, by omega, by go_num, by rw [HE.out]; exact H6⟩
        case measure => simp [intOf]; omega
    · obtain rfl : j = h := by omega
      have z0 := H.h2.cell 0
      have z1 := H.h2.cell 1
      have f0 := H.h2.frozen 0
      have f1 := H.h2.frozen 1
      simp at z0 z1
      have H6 := ((H.g2.set_ 0 (.int .i64 2)).set_ 1 (.slice A j cv))
      have u0 := H6.h0.cell 0
      have u1 := H6.h0.cell 1
      simp at u0 u1
      go_wp2
      exact bodyPost_ret (v := .tuple #[.agg #[.int .i64 2, .slice A j cv], .bool true]) (by simp [results, Tryz.results61, go_sem, u0, u1]) rfl ⟨_, _, rfl, H6.g2.oi, H6.below⟩
set_option maxRecDepth 100000 in
set_option maxHeartbeats 1600000 in
theorem rectI_3 (h : Nat) (w : World) (h1 : 1 ≤ h) (h6 : h ≤ 6) :
    Calls Tryz.prog 61 #[.int .i64 3, .int .i64 (h : Int)] w fun e w' => ∃ A c, e = .returned (.tuple #[.agg #[.int .i64 3, .slice A h c], .bool true]) ∧ OI w' w.heap.size w'.heap.size 3 1 (.slice A h c) h (ic (List.replicate h 7)) ∧ Below w.heap.size w w' := by
  obtain ⟨j0, hj0, hy0, hy1, hy2⟩ := info_parts infoIntC
  have hr1 : inR 3 1 6 = true := by decide
  have hr2 : inR (h : Int) 1 6 = true := inR_t (by omega) (by omega)
  have H := (((Sep.start w).box 36 #[.int .i64 0, .slice none 0 0]).nil 3 1).box 36 #[.int .i64 3, .slice none 0 0]
  simp only [World.size_alloc] at H
  go_enter Tryz.func61, Tryz.ntmps61
  go_wp2_with (go_at_call 76; refine (side_c _ _).mono ?_; rintro e w' ⟨rfl, rfl⟩)
  clear hr1 hr2
  generalize (w.alloc (.cells #[.int .i64 0, .slice none 0 0] 36)).alloc (.cells #[.int .i64 3, .slice none 0 0] 36) = W at *
  go_loopw [19] (fun i wr => ∃ (j : Nat) (v : Value), j ≤ h ∧ i = .int .i64 j ∧ Sep w wr [Res.box (w.heap.size + 1) 36 #[.int .i64 3, v], Res.row v 3 1 j (ic (List.replicate j 7)), Res.box w.heap.size 36 #[.int .i64 0, .slice none 0 0]]) (fun i _ => h - (intOf i).toNat)
  case atStart => exact ⟨0, _, by omega, rfl, H⟩
  case round =>
    clear H
    obtain ⟨j, v, hj, rfl, H⟩ := hrel
    obtain ⟨A, cv, rfl, _, _, _⟩ := Res.row_at H.h1
    have x0 := H.h0.cell 0
    have x1 := H.h0.cell 1
    simp at x0 x1
    by_cases hlj : j < h
    · have hw1 : IntKind.i64.wrap 8 = 8 := rfl
      have hw2 : IntKind.i64.wrap 7 = 7 := rfl
      have hgb : w.heap.size + 1 < wr.heap.size := H.h0.lt
      go_wp2_with fail
      go_region_law (refine step_app rfl (.tmp 22) (.tmp 26) 31 rfl 3 j0 _ 1 8 Tryz.underlying31 hj0 hy0 hy1 hy2 rfl (by decide) (.slice A j cv) j _ (by simp [Act.eval]) ((H.alloc _).drew.g1) (some ⟨wr.heap.size, 0, none⟩) 1 1 [.int .i64 7] (by simp [Act.eval]) (Rd.fresh wr 3 #[.int .i64 7] 1 1 rfl) oc1 (by unfold maxLen; omega) (by omega) ?_; intro v' w5 H5; obtain ⟨A5, cv5, rfl, _, _, _⟩ := Res.row_at H5.h0; have y1 := H5.h1.cell 1; have f1 := H5.h1.frozen 1; simp at y1)
      all_goals
        have H6 := H5.g1.set_ 1 (.slice A5 (j + 1) cv5)
        have e : ic (List.replicate (j + 1) 7) = ic (List.replicate j 7) ++ [.int .i64 7] := by rw [List.replicate_succ', ic_append]; rfl
        have HE := Lib.hid e
        clear e hw1 hw2 f1 y1 x0 x1 H5
        go_wp2
        go_roundw
        case rel => exact ⟨j + 1, .slice A5 (j + 1) cv5, by omega, by go_num, by rw [HE.out]; exact H6⟩
        case measure => simp [intOf]; omega
    · obtain rfl : j = h := by omega
      have z0 := H.h2.cell 0
      have z1 := H.h2.cell 1
      have f0 := H.h2.frozen 0
      have f1 := H.h2.frozen 1
      simp at z0 z1
      have H6 := ((H.g2.set_ 0 (.int .i64 3)).set_ 1 (.slice A j cv))
      have u0 := H6.h0.cell 0
      have u1 := H6.h0.cell 1
      simp at u0 u1
      go_wp2
      exact bodyPost_ret (v := .tuple #[.agg #[.int .i64 3, .slice A j cv], .bool true]) (by simp [results, Tryz.results61, go_sem, u0, u1]) rfl ⟨_, _, rfl, H6.g2.oi, H6.below⟩
set_option maxRecDepth 100000 in
set_option maxHeartbeats 1600000 in
theorem rectI_4 (h : Nat) (w : World) (h1 : 1 ≤ h) (h6 : h ≤ 6) :
    Calls Tryz.prog 61 #[.int .i64 4, .int .i64 (h : Int)] w fun e w' => ∃ A c, e = .returned (.tuple #[.agg #[.int .i64 4, .slice A h c], .bool true]) ∧ OI w' w.heap.size w'.heap.size 3 1 (.slice A h c) h (ic (List.replicate h 15)) ∧ Below w.heap.size w w' := by
  obtain ⟨j0, hj0, hy0, hy1, hy2⟩ := info_parts infoIntC
  have hr1 : inR 4 1 6 = true := by decide
  have hr2 : inR (h : Int) 1 6 = true := inR_t (by omega) (by omega)
  have H := (((Sep.start w).box 36 #[.int .i64 0, .slice none 0 0]).nil 3 1).box 36 #[.int .i64 4, .slice none 0 0]
  simp only [World.size_alloc] at H
  go_enter Tryz.func61, Tryz.ntmps61
  go_wp2_with (go_at_call 76; refine (side_c _ _).mono ?_; rintro e w' ⟨rfl, rfl⟩)
  clear hr1 hr2
  generalize (w.alloc (.cells #[.int .i64 0, .slice none 0 0] 36)).alloc (.cells #[.int .i64 4, .slice none 0 0] 36) = W at *
  go_loopw [19] (fun i wr => ∃ (j : Nat) (v : Value), j ≤ h ∧ i = .int .i64 j ∧ Sep w wr [Res.box (w.heap.size + 1) 36 #[.int .i64 4, v], Res.row v 3 1 j (ic (List.replicate j 15)), Res.box w.heap.size 36 #[.int .i64 0, .slice none 0 0]]) (fun i _ => h - (intOf i).toNat)
  case atStart => exact ⟨0, _, by omega, rfl, H⟩
  case round =>
    clear H
    obtain ⟨j, v, hj, rfl, H⟩ := hrel
    obtain ⟨A, cv, rfl, _, _, _⟩ := Res.row_at H.h1
    have x0 := H.h0.cell 0
    have x1 := H.h0.cell 1
    simp at x0 x1
    by_cases hlj : j < h
    · have hw1 : IntKind.i64.wrap 16 = 16 := rfl
      have hw2 : IntKind.i64.wrap 15 = 15 := rfl
      have hgb : w.heap.size + 1 < wr.heap.size := H.h0.lt
      go_wp2_with fail
      go_region_law (refine step_app rfl (.tmp 22) (.tmp 26) 31 rfl 3 j0 _ 1 8 Tryz.underlying31 hj0 hy0 hy1 hy2 rfl (by decide) (.slice A j cv) j _ (by simp [Act.eval]) ((H.alloc _).drew.g1) (some ⟨wr.heap.size, 0, none⟩) 1 1 [.int .i64 15] (by simp [Act.eval]) (Rd.fresh wr 3 #[.int .i64 15] 1 1 rfl) oc1 (by unfold maxLen; omega) (by omega) ?_; intro v' w5 H5; obtain ⟨A5, cv5, rfl, _, _, _⟩ := Res.row_at H5.h0; have y1 := H5.h1.cell 1; have f1 := H5.h1.frozen 1; simp at y1)
      all_goals
        have H6 := H5.g1.set_ 1 (.slice A5 (j + 1) cv5)
        have e : ic (List.replicate (j + 1) 15) = ic (List.replicate j 15) ++ [.int .i64 15] := by rw [List.replicate_succ', ic_append]; rfl
        have HE := Lib.hid e
        clear e hw1 hw2 f1 y1 x0 x1 H5
        go_wp2
        go_roundw
        case rel => exact ⟨j + 1, .slice A5 (j + 1) cv5, by omega, by go_num, by rw [HE.out]; exact H6⟩
        case measure => simp [intOf]; omega
    · obtain rfl : j = h := by omega
      have z0 := H.h2.cell 0
      have z1 := H.h2.cell 1
      have f0 := H.h2.frozen 0
      have f1 := H.h2.frozen 1
      simp at z0 z1
      have H6 := ((H.g2.set_ 0 (.int .i64 4)).set_ 1 (.slice A j cv))
      have u0 := H6.h0.cell 0
      have u1 := H6.h0.cell 1
      simp at u0 u1
      go_wp2
      exact bodyPost_ret (v := .tuple #[.agg #[.int .i64 4, .slice A j cv], .bool true]) (by simp [results, Tryz.results61, go_sem, u0, u1]) rfl ⟨_, _, rfl, H6.g2.oi, H6.below⟩
set_option maxRecDepth 100000 in
set_option maxHeartbeats 1600000 in
theorem rectI_5 (h : Nat) (w : World) (h1 : 1 ≤ h) (h6 : h ≤ 6) :
    Calls Tryz.prog 61 #[.int .i64 5, .int .i64 (h : Int)] w fun e w' => ∃ A c, e = .returned (.tuple #[.agg #[.int .i64 5, .slice A h c], .bool true]) ∧ OI w' w.heap.size w'.heap.size 3 1 (.slice A h c) h (ic (List.replicate h 31)) ∧ Below w.heap.size w w' := by
  obtain ⟨j0, hj0, hy0, hy1, hy2⟩ := info_parts infoIntC
  have hr1 : inR 5 1 6 = true := by decide
  have hr2 : inR (h : Int) 1 6 = true := inR_t (by omega) (by omega)
  have H := (((Sep.start w).box 36 #[.int .i64 0, .slice none 0 0]).nil 3 1).box 36 #[.int .i64 5, .slice none 0 0]
  simp only [World.size_alloc] at H
  go_enter Tryz.func61, Tryz.ntmps61
  go_wp2_with (go_at_call 76; refine (side_c _ _).mono ?_; rintro e w' ⟨rfl, rfl⟩)
  clear hr1 hr2
  generalize (w.alloc (.cells #[.int .i64 0, .slice none 0 0] 36)).alloc (.cells #[.int .i64 5, .slice none 0 0] 36) = W at *
  go_loopw [19] (fun i wr => ∃ (j : Nat) (v : Value), j ≤ h ∧ i = .int .i64 j ∧ Sep w wr [Res.box (w.heap.size + 1) 36 #[.int .i64 5, v], Res.row v 3 1 j (ic (List.replicate j 31)), Res.box w.heap.size 36 #[.int .i64 0, .slice none 0 0]]) (fun i _ => h - (intOf i).toNat)
  case atStart => exact ⟨0, _, by omega, rfl, H⟩
  case round =>
    clear H
    obtain ⟨j, v, hj, rfl, H⟩ := hrel
    obtain ⟨A, cv, rfl, _, _, _⟩ := Res.row_at H.h1
    have x0 := H.h0.cell 0
    have x1 := H.h0.cell 1
    simp at x0 x1
    by_cases hlj : j < h
    · have hw1 : IntKind.i64.wrap 32 = 32 := rfl
      have hw2 : IntKind.i64.wrap 31 = 31 := rfl
      have hgb : w.heap.size + 1 < wr.heap.size := H.h0.lt
      go_wp2_with fail
      go_region_law (refine step_app rfl (.tmp 22) (.tmp 26) 31 rfl 3 j0 _ 1 8 Tryz.underlying31 hj0 hy0 hy1 hy2 rfl (by decide) (.slice A j cv) j _ (by simp [Act.eval]) ((H.alloc _).drew.g1) (some ⟨wr.heap.size, 0, none⟩) 1 1 [.int .i64 31] (by simp [Act.eval]) (Rd.fresh wr 3 #[.int .i64 31] 1 1 rfl) oc1 (by unfold maxLen; omega) (by omega) ?_; intro v' w5 H5; obtain ⟨A5, cv5, rfl, _, _, _⟩ := Res.row_at H5.h0; have y1 := H5.h1.cell 1; have f1 := H5.h1.frozen 1; simp at y1)
      all_goals
        have H6 := H5.g1.set_ 1 (.slice A5 (j + 1) cv5)
        have e : ic (List.replicate (j + 1) 31) = ic (List.replicate j 31) ++ [.int .i64 31] := by rw [List.replicate_succ', ic_append]; rfl
        have HE := Lib.hid e
        clear e hw1 hw2 f1 y1 x0 x1 H5
        go_wp2
        go_roundw
        case rel => exact ⟨j + 1, .slice A5 (j + 1) cv5, by omega, by go_num, by rw [HE.out]; exact H6⟩
        case measure => simp [intOf]; omega
    · obtain rfl : j = h := by omega
      have z0 := H.h2.cell 0
      have z1 := H.h2.cell 1
      have f0 := H.h2.frozen 0
      have f1 := H.h2.frozen 1
      simp at z0 z1
      have H6 := ((H.g2.set_ 0 (.int .i64 5)).set_ 1 (.slice A j cv))
      have u0 := H6.h0.cell 0
      have u1 := H6.h0.cell 1
      simp at u0 u1
      go_wp2
      exact bodyPost_ret (v := .tuple #[.agg #[.int .i64 5, .slice A j cv], .bool true]) (by simp [results, Tryz.results61, go_sem, u0, u1]) rfl ⟨_, _, rfl, H6.g2.oi, H6.below⟩
set_option maxRecDepth 100000 in
set_option maxHeartbeats 1600000 in
theorem rectI_6 (h : Nat) (w : World) (h1 : 1 ≤ h) (h6 : h ≤ 6) :
    Calls Tryz.prog 61 #[.int .i64 6, .int .i64 (h : Int)] w fun e w' => ∃ A c, e = .returned (.tuple #[.agg #[.int .i64 6, .slice A h c], .bool true]) ∧ OI w' w.heap.size w'.heap.size 3 1 (.slice A h c) h (ic (List.replicate h 63)) ∧ Below w.heap.size w w' := by
  obtain ⟨j0, hj0, hy0, hy1, hy2⟩ := info_parts infoIntC
  have hr1 : inR 6 1 6 = true := by decide
  have hr2 : inR (h : Int) 1 6 = true := inR_t (by omega) (by omega)
  have H := (((Sep.start w).box 36 #[.int .i64 0, .slice none 0 0]).nil 3 1).box 36 #[.int .i64 6, .slice none 0 0]
  simp only [World.size_alloc] at H
  go_enter Tryz.func61, Tryz.ntmps61
  go_wp2_with (go_at_call 76; refine (side_c _ _).mono ?_; rintro e w' ⟨rfl, rfl⟩)
  clear hr1 hr2
  generalize (w.alloc (.cells #[.int .i64 0, .slice none 0 0] 36)).alloc (.cells #[.int .i64 6, .slice none 0 0] 36) = W at *
  go_loopw [19] (fun i wr => ∃ (j : Nat) (v : Value), j ≤ h ∧ i = .int .i64 j ∧ Sep w wr [Res.box (w.heap.size + 1) 36 #[.int .i64 6, v], Res.row v 3 1 j (ic (List.replicate j 63)), Res.box w.heap.size 36 #[.int .i64 0, .slice none 0 0]]) (fun i _ => h - (intOf i).toNat)
  case atStart => exact ⟨0, _, by omega, rfl, H⟩
  case round =>
    clear H
    obtain ⟨j, v, hj, rfl, H⟩ := hrel
    obtain ⟨A, cv, rfl, _, _, _⟩ := Res.row_at H.h1
    have x0 := H.h0.cell 0
    have x1 := H.h0.cell 1
    simp at x0 x1
    by_cases hlj : j < h
    · have hw1 : IntKind.i64.wrap 64 = 64 := rfl
      have hw2 : IntKind.i64.wrap 63 = 63 := rfl
      have hgb : w.heap.size + 1 < wr.heap.size := H.h0.lt
      go_wp2_with fail
      go_region_law (refine step_app rfl (.tmp 22) (.tmp 26) 31 rfl 3 j0 _ 1 8 Tryz.underlying31 hj0 hy0 hy1 hy2 rfl (by decide) (.slice A j cv) j _ (by simp [Act.eval]) ((H.alloc _).drew.g1) (some ⟨wr.heap.size, 0, none⟩) 1 1 [.int .i64 63] (by simp [Act.eval]) (Rd.fresh wr 3 #[.int .i64 63] 1 1 rfl) oc1 (by unfold maxLen; omega) (by omega) ?_; intro v' w5 H5; obtain ⟨A5, cv5, rfl, _, _, _⟩ := Res.row_at H5.h0; have y1 := H5.h1.cell 1; have f1 := H5.h1.frozen 1; simp at y1)
      all_goals
        have H6 := H5.g1.set_ 1 (.slice A5 (j + 1) cv5)
        have e : ic (List.replicate (j + 1) 63) = ic (List.replicate j 63) ++ [.int .i64 63] := by rw [List.replicate_succ', ic_append]; rfl
        have HE := Lib.hid e
        clear e hw1 hw2 f1 y1 x0 x1 H5
        go_wp2
        go_roundw
        case rel => exact ⟨j + 1, .slice A5 (j + 1) cv5, by omega, by go_num, by rw [HE.out]; exact H6⟩
        case measure => simp [intOf]; omega
    · obtain rfl : j = h := by omega
      have z0 := H.h2.cell 0
      have z1 := H.h2.cell 1
      have f0 := H.h2.frozen 0
      have f1 := H.h2.frozen 1
      simp at z0 z1
      have H6 := ((H.g2.set_ 0 (.int .i64 6)).set_ 1 (.slice A j cv))
      have u0 := H6.h0.cell 0
      have u1 := H6.h0.cell 1
      simp at u0 u1
      go_wp2
      exact bodyPost_ret (v := .tuple #[.agg #[.int .i64 6, .slice A j cv], .bool true]) (by simp [results, Tryz.results61, go_sem, u0, u1]) rfl ⟨_, _, rfl, H6.g2.oi, H6.below⟩
set_option maxRecDepth 100000 in
theorem rectI_c (a b : Nat) (w : World) (ha : 1 ≤ a ∧ a ≤ 6) (hb : 1 ≤ b ∧ b ≤ 6) :
    Calls Tryz.prog 61 #[.int .i64 (a : Int), .int .i64 (b : Int)] w fun e w' => ∃ A c, e = .returned (.tuple #[.agg #[.int .i64 (a : Int), .slice A b c], .bool true]) ∧ OI w' w.heap.size w'.heap.size 3 1 (.slice A b c) b (ic (List.replicate b (2 ^ a - 1))) ∧ Below w.heap.size w w' := by
  have hx : a = 1 ∨ a = 2 ∨ a = 3 ∨ a = 4 ∨ a = 5 ∨ a = 6 := by omega
  rcases hx with rfl | rfl | rfl | rfl | rfl | rfl
  · exact rectI_1 b w hb.1 hb.2
  · exact rectI_2 b w hb.1 hb.2
  · exact rectI_3 b w hb.1 hb.2
  · exact rectI_4 b w hb.1 hb.2
  · exact rectI_5 b w hb.1 hb.2
  · exact rectI_6 b w hb.1 hb.2
/-- what a rectangle's value says -/
theorem rect_rd {w : World} {a b c : Nat} {A : Option Addr} (o : w.ownsRow 0 3 1 (.slice A b c) b (ic (List.replicate b (2 ^ a - 1)))) : RegRd w 0 w.heap.size (.agg #[.int .i64 (a : Int), .slice A b c]) (rectR a b) := by
  have h0 : IntsIn w 0 w.heap.size (.slice A b c) (List.replicate b (2 ^ a - 1)) := by
    unfold IntsIn
    rw [List.length_replicate]
    exact ⟨o, fun k hk => own_lt o k hk⟩
  exact ⟨_, rfl, IntsIn.rd h0⟩
theorem tilesB_no {s : List Cell} {p : Nat × Nat} (h : isShape s = false) : tilesB s p = false := by simp [tilesB, h]
theorem tilesB_mod {s : List Cell} {p : Nat × Nat} (h : ¬ (p.1 * p.2) % s.length = 0) : tilesB s p = false := by simp [tilesB, h]
theorem tilesB_yes {s : List Cell} {p : Nat × Nat} (h : isShape s = true) (h2 : (p.1 * p.2) % s.length = 0) : tilesB s p = findB (rectR p.1 p.2) [s] := by simp [tilesB, h, h2]
theorem shape_len {s : List Cell} (h : isShape s = true) : 1 ≤ s.length ∧ s.length ≤ 8 := by
  unfold isShape at h
  simp only [Bool.and_eq_true] at h
  have := inR_iff.1 h.2
  omega
theorem mul_small {a b : Nat} (ha : 1 ≤ a ∧ a ≤ 6) (hb : 1 ≤ b ∧ b ≤ 6) : a * b ≤ 36 ∧ IntKind.i64.wrap ((a : Int) * (b : Int)) = ((a * b : Nat) : Int) := by
  have h : a * b ≤ 6 * 6 := Nat.mul_le_mul ha.2 hb.2
  refine ⟨h, ?_⟩
  rw [← Int.natCast_mul]
  exact IntWalk.i64_in _ (by omega)
set_option maxRecDepth 100000 in
set_option maxHeartbeats 800000 in
theorem spec_tiles_c {v : Value} {s : List Cell} (a b : Nat) (w : World) (h : CellsRd w 0 w.heap.size v s) (hl : s.length ≤ 1048576) (ha : 1 ≤ a ∧ a ≤ 6) (hb : 1 ≤ b ∧ b ≤ 6) :
    Calls Tryz.prog 131 #[v, .int .i64 (a : Int), .int .i64 (b : Int)] w fun e w' => e = .returned (.bool (tilesB s (a, b))) ∧ Below w.heap.size w w' := by
  have HT : Hid (∀ w1 g A c, Below w.heap.size w w1 → RegRd w1 0 w1.heap.size (.agg #[.int .i64 (a : Int), .slice A b c]) (rectR a b) → Blk w1 g 24 #[v] → Calls Tryz.prog 72 #[.agg #[.int .i64 (a : Int), .slice A b c], .slice (some ⟨g, 0, none⟩) 1 1] w1 fun e w' => e = .returned (.bool (findB (rectR a b) [s])) ∧ Below w1.heap.size w1 w') := Lib.hid fun w1 g A c b1 hr hbk =>
    spec_hasT_c (ps := [s]) w1 hr (one_ssRd hbk (cells_keep h b1)) (by show 1 ≤ 1048576; omega) (fun t ht => by rw [List.mem_singleton] at ht; rw [ht]; exact hl)
  have HSH : Hid (∀ w1, Below w.heap.size w w1 → Calls Tryz.prog 80 #[v] w1 fun e w' => e = .returned (.bool (isShape s)) ∧ Below w1.heap.size w1 w') := Lib.hid fun w1 b1 => spec_isShape_c w1 (cells_keep h b1) hl
  have HRC := Lib.hid (rect_c a b w ha hb)
  obtain ⟨hm36, hmw⟩ := mul_small ha hb
  obtain ⟨R, hR⟩ : ∃ R, R = tilesB s (a, b) := ⟨_, rfl⟩
  rw [← hR]
  have HR := Lib.hid hR
  obtain ⟨A1, c1, rfl, _, _⟩ := h
  clear hR
  go_enter Tryz.func131, Tryz.ntmps131
  go_wp2_with fail
  refine (HRC.out).mono ?_
  rintro e w1 ⟨A, c, rfl, o1, b1⟩
  have H1 := ((Sep.start w).oiNew b1 o1).box 36 #[.int .i64 a, .slice A b c]
  have HC1 := Lib.hid (HSH.out _ H1.below)
  clear o1 b1 HRC HSH
  go_wp2_with fail
  refine (HC1.out).mono ?_
  rintro e w2 ⟨rfl, b2⟩
  have H2 := H1.step b2
  clear H1 HC1 b2
  cases hsh : isShape s
  · obtain rfl : R = false := by rw [HR.out, tilesB_no hsh]
    have hB := H2.below
    clear hsh
    go_wp2
    go_ret
    exact ⟨rfl, hB⟩
  · by_cases hmod : (a * b) % s.length = 0
    · obtain rfl : R = findB (rectR a b) [s] := by rw [HR.out, tilesB_yes hsh hmod]
      have hsl := shape_len hsh
      obtain ⟨n, hn⟩ : ∃ n, n = s.length := ⟨_, rfl⟩
      obtain ⟨q, hq⟩ : ∃ q, q = a * b := ⟨_, rfl⟩
      rw [← hn] at hsl hmod HT ⊢
      rw [← hq] at hmod hmw
      have hrem : Int.tmod (q : Int) (n : Int) = ((q % n : Nat) : Int) := Int.ofNat_tmod q n
      rw [hmod] at hrem
      have H3 := H2.box 24 #[.slice A1 n c1]
      have c0 : w2.cell? ⟨w1.heap.size, 0, none⟩ = some (.int .i64 a) := H2.h0.cell 0
      have c1' : w2.cell? ⟨w1.heap.size, 1, none⟩ = some (.slice A b c) := H2.h0.cell 1
      have HC2 := Lib.hid (HT.out _ _ A c H3.below (rect_rd H3.h2) H3.h0)
      clear hsh hn hq hm36 HT H2
      go_wp2_with fail
      refine (HC2.out).mono ?_
      rintro e w3 ⟨rfl, b3⟩
      have hB := H3.below.trans (b3.mono H3.size)
      clear H3 b3 HC2 c0 c1'
      go_wp2
      go_ret
      exact ⟨rfl, hB⟩
    · obtain rfl : R = false := by rw [HR.out, tilesB_mod hmod]
      have hB := H2.below
      have hsl := shape_len hsh
      obtain ⟨n, hn⟩ : ∃ n, n = s.length := ⟨_, rfl⟩
      obtain ⟨q, hq⟩ : ∃ q, q = a * b := ⟨_, rfl⟩
      rw [← hn] at hsl hmod ⊢
      rw [← hq] at hmod hmw
      have hrem : Int.tmod (q : Int) (n : Int) = ((q % n : Nat) : Int) := Int.ofNat_tmod q n
      obtain ⟨t, ht⟩ : ∃ t, t = q % n := ⟨_, rfl⟩
      rw [← ht] at hmod hrem
      have hmodi : ¬ (t : Int) = 0 := by omega
      clear hsh hn hq ht hm36
      go_wp2
      go_ret
      exact ⟨rfl, hB⟩
end Go.Proofs.YtfildenelgbmlaaGreatDoor

namespace Go.Proofs.YtfildenelgbmlaaGreatDoor
open Go.RowKit

set_option maxRecDepth 100000 in
set_option maxHeartbeats 800000 in
theorem impl_tiles_c {v : Value} {s : List Cell} (a b : Nat) (w : World) (h : CellsRd w 0 w.heap.size v s) (hl : s.length ≤ 1048576) (ha : 1 ≤ a ∧ a ≤ 6) (hb : 1 ≤ b ∧ b ≤ 6) (ht : Tab64 w) :
    Calls Tryz.prog 130 #[v, .int .i64 (a : Int), .int .i64 (b : Int)] w fun e w' => e = .returned (.bool (findB (rectR a b) [s])) ∧ Below w.heap.size w w' := by
  have HT : Hid (∀ w1 g A c, Below w.heap.size w w1 → RegRd w1 0 w1.heap.size (.agg #[.int .i64 (a : Int), .slice A b c]) (rectR a b) → Blk w1 g 24 #[v] → Calls Tryz.prog 69 #[.agg #[.int .i64 (a : Int), .slice A b c], .slice (some ⟨g, 0, none⟩) 1 1] w1 fun e w' => e = .returned (.bool (findB (rectR a b) [s])) ∧ Below w1.heap.size w1 w') := Lib.hid fun w1 g A c b1 hr hbk =>
    impl_hasT_c (ps := [s]) w1 hr (one_ssRd hbk (cells_keep h b1)) (by show 1 ≤ 1048576; omega) (fun t ht => by rw [List.mem_singleton] at ht; rw [ht]; exact hl) (tab64_on ht b1)
  have HRC := Lib.hid (rectI_c a b w ha hb)
  obtain ⟨R, hR⟩ : ∃ R, R = findB (rectR a b) [s] := ⟨_, rfl⟩
  rw [← hR] at HT ⊢
  obtain ⟨n, hn⟩ : ∃ n, n = s.length := ⟨_, rfl⟩
  obtain ⟨A1, c1, rfl, _, _⟩ := h
  rw [← hn] at HT ⊢
  clear hR hn ht hl
  go_enter Tryz.func130, Tryz.ntmps130
  go_wp2_with fail
  refine (HRC.out).mono ?_
  rintro e w1 ⟨A, c, rfl, o1, b1⟩
  have H1 := ((Sep.start w).oiNew b1 o1).box 36 #[.int .i64 a, .slice A b c]
  have H3 := H1.box 24 #[.slice A1 n c1]
  simp only [World.size_alloc] at H3
  have HC2 := Lib.hid (HT.out _ _ A c H3.below (rect_rd H3.h2) H3.h0)
  have c0 := H1.h0.cell 0
  have c1' := H1.h0.cell 1
  simp at c0 c1'
  clear o1 b1 HRC HT H1
  go_wp2_with fail
  refine (HC2.out).mono ?_
  rintro e w3 ⟨rfl, b3⟩
  have hB := H3.below.trans (b3.mono H3.size)
  clear H3 b3 HC2 c0 c1'
  go_wp2
  go_ret
  exact ⟨rfl, hB⟩
end Go.Proofs.YtfildenelgbmlaaGreatDoor

namespace Go.Proofs.YtfildenelgbmlaaGreatDoor
open Go.RowKit

theorem ocT {v : Value} (h : v.oneCell' = true) : ∀ u ∈ [v], u.oneCell' = true := by intro u hu; simp at hu; subst hu; exact h
set_option maxRecDepth 100000 in
set_option maxHeartbeats 1600000 in
theorem spec_rects_c {v : Value} {s : List Cell} (w : World) (h : CellsRd w 0 w.heap.size v s) (hl : s.length ≤ 1048576)  :
    Calls Tryz.prog 60 #[v] w fun e w' => ∃ u vs, e = .returned u ∧ Sep w w' [Res.row u 31 1 (rectsT s).length vs, Res.rows vs (rowsP (rectsT s))] := by
  obtain ⟨i0, hi, hz0, hz1, hz2⟩ := info_parts infoRowT
  obtain ⟨f, hf⟩ : ∃ f, f = tilesB s := ⟨_, rfl⟩
  have HS : Hid (∀ w1, Below w.heap.size w w1 → Calls Tryz.prog 80 #[v] w1 fun e w' => e = .returned (.bool (isShape s)) ∧ Below w1.heap.size w1 w') := Lib.hid fun w1 b1 => spec_isShape_c w1 (cells_keep h b1) hl
  have HT : Hid (∀ w1 (a b : Nat), Below w.heap.size w w1 → (1 ≤ a ∧ a ≤ 6) → (1 ≤ b ∧ b ≤ 6) → Calls Tryz.prog 131 #[v, .int .i64 (a : Int), .int .i64 (b : Int)] w1 fun e w' => e = .returned (.bool (f (a, b))) ∧ Below w1.heap.size w1 w') := Lib.hid fun w1 a b b1 ha hb => by
    rw [hf]; exact spec_tiles_c a b w1 (cells_keep h b1) hl ha hb
  have HNO : Hid (isShape s = false → f = fun _ => false) := Lib.hid fun hs => by
    rw [hf]; funext p; exact tilesB_no hs
  have HLEN : Hid (isShape s = true → 1 ≤ s.length ∧ s.length ≤ 8) := Lib.hid fun hs => shape_len hs
  obtain ⟨R, hR⟩ : ∃ R, R = rectsT s := ⟨_, rfl⟩
  have HR : Hid (R = uptoP f 6 6) := Lib.hid (by rw [hR, hf, uptoP_end]; rfl)
  have HF := Lib.hid hf
  rw [← hR]
  have H0 : Sep w (w.alloc (.cells #[] 31)) [Res.row (.slice (some ⟨w.heap.size, 0, none⟩) 0 0) 31 1 0 [], Res.rows [] []] := ((Sep.start w).rowBox 31 #[] 1 0 rfl (by decide)).rowsNil.p1
  obtain ⟨A1, c1, rfl, _, _⟩ := h
  obtain ⟨n, hn⟩ : ∃ n, n = s.length := ⟨_, rfl⟩
  rw [← hn] at HS HT HLEN ⊢
  have HN := Lib.hid hn
  clear hf hR hn
  go_enter Tryz.func60, Tryz.ntmps60
  go_wp2
  go_loopw [3, 4] (fun ov av wx => ∃ (a : Nat) (vs : List Value), 1 ≤ a ∧ a ≤ 6 ∧ av = .int .i64 a ∧ Sep w wx [Res.row ov 31 1 (uptoP f a a).length vs, Res.rows vs (rowsP (uptoP f a a))]) (fun _ av _ => 6 - (intOf av).toNat)
  case atStart => exact ⟨1, [], Nat.le_refl _, by omega, rfl, by rw [uptoP_start]; exact H0⟩
  case round =>
    clear H0
    obtain ⟨a, vs, ha1, ha6, rfl, H⟩ := hrel
    by_cases hlt : a ≤ 5
    · have hlti : (a : Int) ≤ 5 := by omega
      have HC1 := Lib.hid (HS.out _ H.below)
      go_wp2_with fail
      refine (HC1.out).mono ?_
      rintro e w1 ⟨rfl, b1⟩
      replace H := H.step b1
      clear b1 HC1
      cases hsh : isShape s
      · have HF0 := HNO.out hsh
        have e6 : uptoP f a a = [] ∧ R = [] := by
          rw [HR.out, HF0]
          exact ⟨List.filter_eq_nil_iff.2 (fun p _ => by simp), List.filter_eq_nil_iff.2 (fun p _ => by simp)⟩
        rw [e6.1, ← e6.2] at H
        have HH := Lib.hid H
        clear HF0 e6 hsh H
        go_wp2
        go_ret
        exact ⟨_, vs, rfl, HH.out⟩
      clear hsh
      go_wp2
      go_loopw [3, 5] (fun ov bv wx => ∃ (b : Nat) (vs : List Value), a ≤ b ∧ b ≤ 6 ∧ bv = .int .i64 b ∧ Sep w wx [Res.row ov 31 1 (uptoP f a b).length vs, Res.rows vs (rowsP (uptoP f a b))]) (fun _ bv _ => 6 - (intOf bv).toNat)
      case atStart => exact ⟨a, vs, Nat.le_refl _, ha6, rfl, H⟩
      case round =>
        clear H
        obtain ⟨b, vs, hab, hb6, rfl, H⟩ := hrel
        by_cases hlb : b ≤ 5
        · have hlbi : (b : Int) ≤ 5 := by omega
          have hst : Hid (uptoP f a (b + 1) = uptoP f a b ++ if f (a, b) then [(a, b)] else []) := Lib.hid (uptoP_step f ha1 hab hlb)
          have HL15 := uptoP_len f a b
          have HC1 := Lib.hid (HT.out _ a b H.below ⟨ha1, by omega⟩ ⟨by omega, by omega⟩)
          go_wp2_with fail
          refine (HC1.out).mono ?_
          rintro e w2 ⟨rfl, b2⟩
          have H2 := H.step b2
          clear H b2 HC1
          cases hft : f (a, b)
          · have HSN : Hid (uptoP f a (b + 1) = uptoP f a b) := Lib.hid (by rw [hst.out, if_neg (by rw [hft]; exact Bool.false_ne_true), List.append_nil])
            rw [← HSN.out] at H2
            go_wp2
            go_roundw
            case rel => exact ⟨b + 1, vs, by omega, by omega, by go_num, H2⟩
            case measure => simp [intOf]; omega
          · have H3 : Sep w _ (Res.row _ 3 1 2 (ic (rowP (a, b))) :: _) := H2.rowBox 3 #[.int .i64 (a : Int), .int .i64 (b : Int)] 1 2 rfl (by decide)
            have HFR := Rd.fresh (w2.alloc (.cells #[.int .i64 (a : Int), .int .i64 (b : Int)] 3)) 31 #[.slice (some ⟨w2.heap.size, 0, none⟩) 2 2] 1 1 rfl
            simp only [World.size_alloc] at HFR
            go_wp2_with (at_builtin; refine wpList_app rfl _ _ 77 rfl 31 i0 _ 1 24 Tryz.underlying77 hi hz0 hz1 hz2 rfl (by decide) _ _ _ rfl (H3.g1.alloc _) _ _ _ [.slice (some ⟨w2.heap.size, 0, none⟩) 2 2] rfl HFR (ocT rfl) (by unfold maxLen; omega) (by omega) ?_; intro v4 w4 H4; clear H3 HFR)
            have H5 := (H4.g1.g2.rowsSnoc (r := rowP (a, b)) rfl).p1
            rw [← rowsP_snoc] at H5
            have HSN : Hid (uptoP f a (b + 1) = uptoP f a b ++ [(a, b)]) := Lib.hid (by rw [hst.out, if_pos hft])
            have HSL : Hid ((uptoP f a b).length + 1 = (uptoP f a (b + 1)).length) := Lib.hid (by rw [HSN.out, List.length_append]; rfl)
            rw [← HSN.out, HSL.out] at H5
            clear H4
            go_wp2
            go_roundw
            case rel => exact ⟨b + 1, _, by omega, by omega, by go_num, H5⟩
            case measure => simp [intOf]; omega
        · have hlbi : ¬ (b : Int) ≤ 5 := by omega
          obtain rfl : b = 6 := by omega
          have HRW := Lib.hid (uptoP_row f ha1 hlt)
          rw [HRW.out] at H
          go_wp2
          go_roundw
          case rel => exact ⟨a + 1, vs, by omega, by omega, by go_num, H⟩
          case measure => simp [intOf]; omega
    · have hlti : ¬ (a : Int) ≤ 5 := by omega
      obtain rfl : a = 6 := by omega
      rw [← HR.out] at H
      go_wp2
      refine bodyPost_ret (results_tmp rfl _ _ _) rfl ?_
      first | exact ⟨_, vs, rfl, H⟩ | exact ⟨_, rfl, vs, H⟩
end Go.Proofs.YtfildenelgbmlaaGreatDoor

namespace Go.Proofs.YtfildenelgbmlaaGreatDoor
open Go.RowKit

set_option maxRecDepth 100000 in
set_option maxHeartbeats 1600000 in
theorem impl_rects_c {v : Value} {s : List Cell} (w : World) (h : CellsRd w 0 w.heap.size v s) (hl : s.length ≤ 1048576) (ht : Tab64 w) :
    Calls Tryz.prog 57 #[v] w fun e w' => ∃ u vs, e = .returned u ∧ Sep w w' [Res.row u 31 1 (rectsT s).length vs, Res.rows vs (rowsP (rectsT s))] := by
  obtain ⟨i0, hi, hz0, hz1, hz2⟩ := info_parts infoRowT
  obtain ⟨f, hf⟩ : ∃ f, f = tilesB s := ⟨_, rfl⟩
  have HS : Hid (∀ w1, Below w.heap.size w w1 → Calls Tryz.prog 75 #[v] w1 fun e w' => e = .returned (.bool (isShape s)) ∧ Below w1.heap.size w1 w') := Lib.hid fun w1 b1 => impl_isShape_c w1 (cells_keep h b1) hl
  have HT : Hid (∀ w1 (a b : Nat), Below w.heap.size w w1 → (1 ≤ a ∧ a ≤ 6) → (1 ≤ b ∧ b ≤ 6) → Calls Tryz.prog 130 #[v, .int .i64 (a : Int), .int .i64 (b : Int)] w1 fun e w' => e = .returned (.bool (findB (rectR a b) [s])) ∧ Below w1.heap.size w1 w') := Lib.hid fun w1 a b b1 ha hb => by
    exact impl_tiles_c a b w1 (cells_keep h b1) hl ha hb (tab64_on ht b1)
  have HNO : Hid (isShape s = false → f = fun _ => false) := Lib.hid fun hs => by
    rw [hf]; funext p; exact tilesB_no hs
  have HLEN : Hid (isShape s = true → 1 ≤ s.length ∧ s.length ≤ 8) := Lib.hid fun hs => shape_len hs
  obtain ⟨R, hR⟩ : ∃ R, R = rectsT s := ⟨_, rfl⟩
  have HR : Hid (R = uptoP f 6 6) := Lib.hid (by rw [hR, hf, uptoP_end]; rfl)
  have HF := Lib.hid hf
  rw [← hR]
  have H0 : Sep w w [Res.row (.slice none 0 0) 31 1 0 [], Res.rows [] []] := (Sep.start w).rowsNil.nil 31 1
  obtain ⟨A1, c1, rfl, _, _⟩ := h
  obtain ⟨n, hn⟩ : ∃ n, n = s.length := ⟨_, rfl⟩
  rw [← hn] at HS HT HLEN ⊢
  have HN := Lib.hid hn
  clear hf hR hn
  go_enter Tryz.func57, Tryz.ntmps57
  go_wp2
  go_loopw [3, 4] (fun ov av wx => ∃ (a : Nat) (vs : List Value), 1 ≤ a ∧ a ≤ 6 ∧ av = .int .i64 a ∧ Sep w wx [Res.row ov 31 1 (uptoP f a a).length vs, Res.rows vs (rowsP (uptoP f a a))]) (fun _ av _ => 6 - (intOf av).toNat)
  case atStart => exact ⟨1, [], Nat.le_refl _, by omega, rfl, by rw [uptoP_start]; exact H0⟩
  case round =>
    clear H0
    obtain ⟨a, vs, ha1, ha6, rfl, H⟩ := hrel
    by_cases hlt : a ≤ 5
    · have hlti : (a : Int) ≤ 5 := by omega
      go_wp2
      go_loopw [3, 5] (fun ov bv wx => ∃ (b : Nat) (vs : List Value), a ≤ b ∧ b ≤ 6 ∧ bv = .int .i64 b ∧ Sep w wx [Res.row ov 31 1 (uptoP f a b).length vs, Res.rows vs (rowsP (uptoP f a b))]) (fun _ bv _ => 6 - (intOf bv).toNat)
      case atStart => exact ⟨a, vs, Nat.le_refl _, ha6, rfl, H⟩
      case round =>
        clear H
        obtain ⟨b, vs, hab, hb6, rfl, H⟩ := hrel
        by_cases hlb : b ≤ 5
        · have hlbi : (b : Int) ≤ 5 := by omega
          have hst : Hid (uptoP f a (b + 1) = uptoP f a b ++ if f (a, b) then [(a, b)] else []) := Lib.hid (uptoP_step f ha1 hab hlb)
          have HL15 := uptoP_len f a b
          have HC1 := Lib.hid (HS.out _ H.below)
          go_wp2_with fail
          refine (HC1.out).mono ?_
          rintro e w1 ⟨rfl, b1⟩
          replace H := H.step b1
          clear b1 HC1
          obtain ⟨hm36, hmw⟩ := mul_small (a := a) (b := b) ⟨ha1, by omega⟩ ⟨by omega, by omega⟩
          cases hsh : isShape s
          · have hft : f (a, b) = false := by rw [HNO.out hsh]
            have H2 := H
            have hft := Lib.hid hft
            clear H hsh hmw hm36
            have HSN : Hid (uptoP f a (b + 1) = uptoP f a b) := Lib.hid (by rw [hst.out, if_neg (by rw [hft.out]; exact Bool.false_ne_true), List.append_nil])
            rw [← HSN.out] at H2
            go_wp2
            go_roundw
            case rel => exact ⟨b + 1, vs, by omega, by omega, by go_num, H2⟩
            case measure => simp [intOf]; omega
          · have hsl := HLEN.out hsh
            obtain ⟨q, hq⟩ : ∃ q, q = a * b := ⟨_, rfl⟩
            have hrem : Int.tmod (q : Int) (n : Int) = ((q % n : Nat) : Int) := Int.ofNat_tmod q n
            rw [← hq] at hmw
            have HQ := Lib.hid hq
            by_cases hmod : q % n = 0
            · have hfe : Hid (f (a, b) = findB (rectR a b) [s]) := Lib.hid (by rw [HF.out]; exact tilesB_yes hsh (by rw [← HQ.out, ← HN.out]; exact hmod))
              have HC2 := HT.out _ a b H.below ⟨ha1, by omega⟩ ⟨by omega, by omega⟩
              rw [← hfe.out] at HC2
              have HC2 := Lib.hid HC2
              rw [hmod] at hrem
              clear hsh hq hm36
              go_wp2_with fail
              refine (HC2.out).mono ?_
              rintro e w2 ⟨rfl, b2⟩
              have H2 := H.step b2
              clear H b2 HC2 hrem hmw
              cases hft : f (a, b)
              · have HSN : Hid (uptoP f a (b + 1) = uptoP f a b) := Lib.hid (by rw [hst.out, if_neg (by rw [hft]; exact Bool.false_ne_true), List.append_nil])
                rw [← HSN.out] at H2
                go_wp2
                go_roundw
                case rel => exact ⟨b + 1, vs, by omega, by omega, by go_num, H2⟩
                case measure => simp [intOf]; omega
              · have H3 : Sep w _ (Res.row _ 3 1 2 (ic (rowP (a, b))) :: _) := H2.rowBox 3 #[.int .i64 (a : Int), .int .i64 (b : Int)] 1 2 rfl (by decide)
                have HFR := Rd.fresh (w2.alloc (.cells #[.int .i64 (a : Int), .int .i64 (b : Int)] 3)) 31 #[.slice (some ⟨w2.heap.size, 0, none⟩) 2 2] 1 1 rfl
                simp only [World.size_alloc] at HFR
                go_wp2_with (at_builtin; refine wpList_app rfl _ _ 77 rfl 31 i0 _ 1 24 Tryz.underlying77 hi hz0 hz1 hz2 rfl (by decide) _ _ _ rfl (H3.g1.alloc _) _ _ _ [.slice (some ⟨w2.heap.size, 0, none⟩) 2 2] rfl HFR (ocT rfl) (by unfold maxLen; omega) (by omega) ?_; intro v4 w4 H4; clear H3 HFR)
                have H5 := (H4.g1.g2.rowsSnoc (r := rowP (a, b)) rfl).p1
                rw [← rowsP_snoc] at H5
                have HSN : Hid (uptoP f a (b + 1) = uptoP f a b ++ [(a, b)]) := Lib.hid (by rw [hst.out, if_pos hft])
                have HSL : Hid ((uptoP f a b).length + 1 = (uptoP f a (b + 1)).length) := Lib.hid (by rw [HSN.out, List.length_append]; rfl)
                rw [← HSN.out, HSL.out] at H5
                clear H4
                go_wp2
                go_roundw
                case rel => exact ⟨b + 1, _, by omega, by omega, by go_num, H5⟩
                case measure => simp [intOf]; omega
            · have hft : f (a, b) = false := by rw [HF.out]; exact tilesB_mod (by rw [← HQ.out, ← HN.out]; exact hmod)
              have hft := Lib.hid hft
              obtain ⟨t, htt⟩ : ∃ t, t = q % n := ⟨_, rfl⟩
              rw [← htt] at hmod hrem
              have hmodi : ¬ (t : Int) = 0 := by omega
              have H2 := H
              clear hsh hq hm36 htt H
              have HSN : Hid (uptoP f a (b + 1) = uptoP f a b) := Lib.hid (by rw [hst.out, if_neg (by rw [hft.out]; exact Bool.false_ne_true), List.append_nil])
              rw [← HSN.out] at H2
              go_wp2
              go_roundw
              case rel => exact ⟨b + 1, vs, by omega, by omega, by go_num, H2⟩
              case measure => simp [intOf]; omega
        · have hlbi : ¬ (b : Int) ≤ 5 := by omega
          obtain rfl : b = 6 := by omega
          have HRW := Lib.hid (uptoP_row f ha1 hlt)
          rw [HRW.out] at H
          go_wp2
          go_roundw
          case rel => exact ⟨a + 1, vs, by omega, by omega, by go_num, H⟩
          case measure => simp [intOf]; omega
    · have hlti : ¬ (a : Int) ≤ 5 := by omega
      obtain rfl : a = 6 := by omega
      rw [← HR.out] at H
      go_wp2
      refine bodyPost_ret (results_tmp rfl _ _ _) rfl ?_
      first | exact ⟨_, vs, rfl, H⟩ | exact ⟨_, rfl, vs, H⟩
end Go.Proofs.YtfildenelgbmlaaGreatDoor

namespace Go.Proofs.YtfildenelgbmlaaGreatDoor
open Go.RowKit

theorem as_map {A : List (Nat × Nat)} : ∀ {vs : List Value}, A.Nodup → vs.length = A.length → ∃ f : Nat × Nat → Value, vs = A.map f := by
  induction A with
  | nil => intro vs _ h; exact ⟨fun _ => .slice none 0 0, List.length_eq_zero_iff.1 h⟩
  | cons a A ih =>
    intro vs hn h
    match vs, h with
    | v :: vs, h =>
      have hn' := List.nodup_cons.1 hn
      obtain ⟨f, rfl⟩ := ih hn'.2 (Nat.succ.inj h)
      refine ⟨fun p => if p = a then v else f p, ?_⟩
      rw [List.map_cons, if_pos rfl]
      congr 1
      apply List.map_congr_left
      intro p hp
      rw [if_neg (fun e => hn'.1 (by rw [← e]; exact hp))]
theorem rows_own {w : World} {A : List (Nat × Nat)} {f : Nat × Nat → Value} (h : RowsAt w (A.map f) (rowsP A)) {p : Nat × Nat} (hp : p ∈ A) : w.ownsRow 0 3 1 (f p) 2 (ic (rowP p)) := by
  obtain ⟨i, hi⟩ := List.getElem?_of_mem hp
  exact h.own i (f p) (rowP p) (by rw [List.getElem?_map, hi]; rfl) (rowsP_at hi)
theorem rowP_rd {w : World} {v : Value} {p : Nat × Nat} (h : w.ownsRow 0 3 1 v 2 (ic (rowP p))) : IntsRd w 0 w.heap.size v (rowP p) := IntsIn.rd (lo := 0) ⟨h, fun k hk => own_lt h k hk⟩
theorem rowP_eq (p q : Nat × Nat) : same (rowP p) (rowP q) = decide (p = q) := by
  unfold same
  by_cases h : p = q
  · subst h; simp
  · simp [h, rowP_same]
/-- some of the rows, read by another list -/
theorem rows_some {w0 w : World} {L : List Res} {A B : List (Nat × Nat)} {f : Nat × Nat → Value} {v : Value} {n : Nat} {e : TypeId} (h : Sep w0 w (Res.row v e 1 n (B.map f) :: L)) (hn : n = B.length) (hr : RowsAt w (A.map f) (rowsP A)) (hB : ∀ p ∈ B, p ∈ A) : IntSSRd w 0 w.heap.size v (rowsP B) := by
  subst hn
  refine ⟨B.map f, ?_, by simp [rowsP], fun i r hi => ?_⟩
  · rw [rowsP_len]
    exact (Sep.oi h).sr.more (Nat.zero_le _) (Nat.le_refl _)
  · rw [rowsP, List.getElem?_map] at hi
    obtain ⟨p, hp, rfl⟩ := Option.map_eq_some_iff.1 hi
    exact ⟨f p, by rw [List.getElem?_map, hp]; rfl, rowP_rd (rows_own hr (hB p (List.mem_of_getElem? hp)))⟩
/-- a row of a list of rows that is only read -/
theorem IntSSRd.at {w : World} {A : Option Addr} {n c : Nat} {M : List (List Int)} (h : IntSSRd w 0 w.heap.size (.slice A n c) M) {i : Nat} {r : List Int} (hi : M[i]? = some r) (h0 : 0 < r.length) :
    ∃ b off g o c', A = some ⟨b, off, none⟩ ∧ b < w.heap.size ∧ w.cell? ⟨b, off + i, none⟩ = some (.slice (some ⟨g, o, none⟩) r.length c') ∧ g < w.heap.size ∧ ∀ (j : Nat) (a : Int), r[j]? = some a → w.cell? ⟨g, o + j, none⟩ = some (.int .i64 a) := by
  obtain ⟨vs, ⟨A0, c0, e, _, hr⟩, hs⟩ := h
  injection e with e1 e2 e3
  subst e1 e3
  have hn : 0 < M.length := by have := (List.getElem?_eq_some_iff.1 hi).1; omega
  obtain ⟨b, off, rfl, _, hb, hc⟩ := hr.2 hn
  obtain ⟨x, hx, A', c', rfl, _, hr'⟩ := hs.2 i r hi
  obtain ⟨g, o, rfl, _, hg, hc'⟩ := hr'.2 h0
  exact ⟨b, off, g, o, c', rfl, hb, hc i _ hx, hg, fun j a ha => hc' j _ (ic_at ha)⟩
theorem leastP_take {L : List (Nat × Nat)} {i : Nat} {p : Nat × Nat} (h : L[i]? = some p) : leastP (L.take (i + 1)) = lessP (leastP (L.take i)) p := by
  rw [List.take_add_one, h]
  exact leastP_snoc
theorem leastP_at {L : List (Nat × Nat)} {i : Nat} {p : Nat × Nat} (h : L[i]? = some p) (h0 : 0 < i) : ∃ q, leastP (L.take i) = some q ∧ q ∈ L.take i := by
  have hl := (List.getElem?_eq_some_iff.1 h).1
  have hne : L.take i ≠ [] := fun e => by
    have := congrArg List.length e
    rw [List.length_take, List.length_nil] at this
    omega
  obtain ⟨q, hq⟩ := Option.isSome_iff_exists.1 (leastP_pos hne)
  exact ⟨q, hq, leastP_mem hq⟩
def p1 (o : Option (Nat × Nat)) : Nat := (o.getD (0, 0)).1
def p2 (o : Option (Nat × Nat)) : Nat := (o.getD (0, 0)).2
theorem mul55 {a b : Nat} (ha : a ≤ 5) (hb : b ≤ 5) : IntKind.i64.wrap ((a : Int) * (b : Int)) = ((a * b : Nat) : Int) := by
  have h : a * b ≤ 5 * 5 := Nat.mul_le_mul ha hb
  rw [← Int.natCast_mul]
  exact IntWalk.i64_in _ (by omega)
set_option maxRecDepth 100000 in
set_option maxHeartbeats 1600000 in
theorem least_c {v : Value} {L : List (Nat × Nat)} (w : World) (h : IntSSRd w 0 w.heap.size v (rowsP L)) (hu : UpP L) (hb : ∀ p ∈ L, 1 ≤ p.1 ∧ p.1 ≤ 5 ∧ 1 ≤ p.2 ∧ p.2 ≤ 5) (hl : L.length ≤ 15) :
    Calls Tryz.prog 59 #[v] w fun e w' => e = .returned (.tuple #[.int .i64 (p1 (leastP L) : Nat), .int .i64 (p2 (leastP L) : Nat), .bool (leastP L).isSome]) ∧ Below w.heap.size w w' := by
  obtain ⟨A, c, rfl⟩ : ∃ A c, v = .slice A L.length c := by
    obtain ⟨vs, ⟨A, c, e, _, _⟩, _⟩ := h
    exact ⟨A, c, by rw [e, rowsP_len]⟩
  have HAT : Hid (∀ (i : Nat) (p : Nat × Nat), L[i]? = some p → ∃ b off g o c', A = some ⟨b, off, none⟩ ∧ b < w.heap.size ∧ w.cell? ⟨b, off + i, none⟩ = some (.slice (some ⟨g, o, none⟩) 2 c') ∧ g < w.heap.size ∧ w.cell? ⟨g, o, none⟩ = some (.int .i64 p.1) ∧ w.cell? ⟨g, o + 1, none⟩ = some (.int .i64 p.2)) := Lib.hid fun i p hp => by
    obtain ⟨b, off, g, o, c', h1, h2, h3, h4, h5⟩ := h.at (rowsP_at hp) (by show 0 < 2; decide)
    exact ⟨b, off, g, o, c', h1, h2, h3, h4, h5 0 _ rfl, h5 1 _ rfl⟩
  have HU := Lib.hid hu
  have HBD := Lib.hid hb
  obtain ⟨n, hn⟩ : ∃ n, n = L.length := ⟨_, rfl⟩
  rw [← hn] at hl ⊢
  have HN := Lib.hid hn
  obtain ⟨R, hR⟩ : ∃ R, R = (leastP L).isSome := ⟨_, rfl⟩
  rw [← hR]
  have HR := Lib.hid hR
  clear h hu hb hn hR
  go_enter Tryz.func59, Tryz.ntmps59
  go_wp2
  go_loopw [5, 6, 13] (fun av bv iv wx => ∃ i la lb : Nat, i ≤ n ∧ iv = .int .i64 i ∧ av = .int .i64 la ∧ bv = .int .i64 lb ∧ Hid (la = p1 (leastP (L.take i))) ∧ Hid (lb = p2 (leastP (L.take i))) ∧ Below w.heap.size w wx) (fun _ _ iv _ => n - (intOf iv).toNat)
  case atStart => exact ⟨0, 0, 0, Nat.zero_le _, rfl, rfl, rfl, Lib.hid rfl, Lib.hid rfl, Below.refl _ _⟩
  case round =>
    obtain ⟨i, la, lb, hi, rfl, rfl, rfl, HA, HB, hbel⟩ := hrel
    by_cases hlt : i < n
    · obtain ⟨p, hp⟩ : ∃ p, L[i]? = some p := ⟨L[i]'(by rw [← HN.out]; exact hlt), List.getElem?_eq_getElem _⟩
      obtain ⟨b, off, g, o, c', rfl, hb, x1, hg, x2, x3⟩ := HAT.out i p hp
      have X1 := Lib.hid x1
      have X2 := Lib.hid x2
      have X3 := Lib.hid x3
      replace x1 := (hbel.cell (p := ⟨b, off + i, none⟩) hb).trans x1
      replace x2 := (hbel.cell (p := ⟨g, o, none⟩) hg).trans x2
      replace x3 := (hbel.cell (p := ⟨g, o + 1, none⟩) hg).trans x3
      obtain ⟨hp1, hp5, hq1, hq5⟩ := HBD.out p (List.mem_of_getElem? hp)
      have HP := Lib.hid hp
      have HK : Hid (0 < i → ∃ q, leastP (L.take i) = some q ∧ (1 ≤ q.1 ∧ q.1 ≤ 5 ∧ 1 ≤ q.2 ∧ q.2 ≤ 5) ∧ q.1 ≤ p.1) := Lib.hid fun h0 => by
        obtain ⟨q, h1, h2⟩ := leastP_at hp h0
        exact ⟨q, h1, HBD.out q (List.mem_of_mem_take h2), upP_take HU.out hp h2⟩
      obtain ⟨pa, pb⟩ := p
      simp only at hp1 hp5 hq1 hq5 x2 x3 HK
      obtain ⟨pr, hpr⟩ : ∃ k, k = pa * pb := ⟨_, rfl⟩
      have hw1 := mul55 hp5 hq5
      rw [← hpr] at hw1
      have hpr25 : pr ≤ 25 := by rw [hpr]; exact Nat.mul_le_mul hp5 hq5
      have HPR := Lib.hid hpr
      clear hpr
      rcases Nat.eq_zero_or_pos i with h0 | h0
      · have hla0 : la = 0 := by rw [HA.out, h0]; rfl
        have hlb0 : lb = 0 := by rw [HB.out, h0]; rfl
        subst hla0 hlb0
        have hi0 : ((i : Int) == 0) = true := by rw [h0]; rfl
        have hw2 : IntKind.i64.wrap (((0 : Nat) : Int) * ((0 : Nat) : Int)) = 0 := rfl
        obtain ⟨la2, hla⟩ : ∃ k, k = p1 (leastP (L.take (i + 1))) := ⟨_, rfl⟩
        obtain ⟨lb2, hlb⟩ : ∃ k, k = p2 (leastP (L.take (i + 1))) := ⟨_, rfl⟩
        obtain rfl : la2 = pa := by rw [hla, leastP_take HP.out, h0]; rfl
        obtain rfl : lb2 = pb := by rw [hlb, leastP_take HP.out, h0]; rfl
        have HA2 := Lib.hid hla
        have HB2 := Lib.hid hlb
        clear hla hlb
        clear hp HA HB HK h0
        go_wp2_with fail
        go_quiet (fail)
        have hbel2 := below_drewN hbel nq
        generalize wr.drewN nq = w2 at *
        clear x1 x2 x3
        have x1 := (hbel2.cell (p := ⟨b, off + i, none⟩) hb).trans X1.out
        have x2 := (hbel2.cell (p := ⟨g, o, none⟩) hg).trans X2.out
        have x3 := (hbel2.cell (p := ⟨g, o + 1, none⟩) hg).trans X3.out
        go_wp2_with fail
        go_quiet (fail)
        have hbel3 := below_drewN hbel2 nq
        generalize w2.drewN nq = w3 at *
        clear x1 x2 x3
        have x1 := (hbel3.cell (p := ⟨b, off + i, none⟩) hb).trans X1.out
        have x2 := (hbel3.cell (p := ⟨g, o, none⟩) hg).trans X2.out
        have x3 := (hbel3.cell (p := ⟨g, o + 1, none⟩) hg).trans X3.out
        clear x1 x2 x3 hi0 hw1 hw2
        go_wp2
        go_roundw
        case rel => exact ⟨i + 1, la2, lb2, by omega, by go_num, rfl, rfl, HA2, HB2, hbel3⟩
        case measure => simp [intOf]; omega
      · obtain ⟨⟨qa, qb⟩, hq, ⟨hqa1, hqa5, hqb1, hqb5⟩, hle⟩ := HK.out h0
        simp only at hqa1 hqa5 hqb1 hqb5 hle
        obtain rfl : la = qa := by rw [HA.out, hq]; rfl
        obtain rfl : lb = qb := by rw [HB.out, hq]; rfl
        have HQ := Lib.hid hq
        have hi0 : ((i : Int) == 0) = false := by simp; omega
        obtain ⟨qr, hqr⟩ : ∃ k, k = la * lb := ⟨_, rfl⟩
        have hw2 := mul55 hqa5 hqb5
        rw [← hqr] at hw2
        have hqr25 : qr ≤ 25 := by rw [hqr]; exact Nat.mul_le_mul hqa5 hqb5
        have HQR := Lib.hid hqr
        clear hqr hp HA HB HK hq
        by_cases hless : pr < qr
        · have hlessi : (pr : Int) < (qr : Int) := by omega
          obtain ⟨la2, hla⟩ : ∃ k, k = p1 (leastP (L.take (i + 1))) := ⟨_, rfl⟩
          obtain ⟨lb2, hlb⟩ : ∃ k, k = p2 (leastP (L.take (i + 1))) := ⟨_, rfl⟩
          obtain rfl : la2 = pa := by rw [hla, leastP_take HP.out, HQ.out, lessP, ← HPR.out, ← HQR.out, if_pos hless]; rfl
          obtain rfl : lb2 = pb := by rw [hlb, leastP_take HP.out, HQ.out, lessP, ← HPR.out, ← HQR.out, if_pos hless]; rfl
          have HA2 := Lib.hid hla
          have HB2 := Lib.hid hlb
          clear hla hlb
          go_wp2_with fail
          go_quiet (fail)
          have hbel2 := below_drewN hbel nq
          generalize wr.drewN nq = w2 at *
          clear x1 x2 x3
          have x1 := (hbel2.cell (p := ⟨b, off + i, none⟩) hb).trans X1.out
          have x2 := (hbel2.cell (p := ⟨g, o, none⟩) hg).trans X2.out
          have x3 := (hbel2.cell (p := ⟨g, o + 1, none⟩) hg).trans X3.out
          go_wp2_with fail
          go_quiet (fail)
          have hbel3 := below_drewN hbel2 nq
          generalize w2.drewN nq = w3 at *
          clear x1 x2 x3
          have x1 := (hbel3.cell (p := ⟨b, off + i, none⟩) hb).trans X1.out
          have x2 := (hbel3.cell (p := ⟨g, o, none⟩) hg).trans X2.out
          have x3 := (hbel3.cell (p := ⟨g, o + 1, none⟩) hg).trans X3.out
          clear x1 x2 x3 hi0 hw1 hw2
          go_wp2
          go_roundw
          case rel => exact ⟨i + 1, la2, lb2, by omega, by go_num, rfl, rfl, HA2, HB2, hbel3⟩
          case measure => simp [intOf]; omega
        · have hlessi : ¬ (pr : Int) < (qr : Int) := by omega
          have hnl : ¬ (pa : Int) < (la : Int) := by omega
          obtain ⟨la2, hla⟩ : ∃ k, k = p1 (leastP (L.take (i + 1))) := ⟨_, rfl⟩
          obtain ⟨lb2, hlb⟩ : ∃ k, k = p2 (leastP (L.take (i + 1))) := ⟨_, rfl⟩
          obtain rfl : la2 = la := by rw [hla, leastP_take HP.out, HQ.out, lessP, ← HPR.out, ← HQR.out, if_neg hless]; rfl
          obtain rfl : lb2 = lb := by rw [hlb, leastP_take HP.out, HQ.out, lessP, ← HPR.out, ← HQR.out, if_neg hless]; rfl
          have HA2 := Lib.hid hla
          have HB2 := Lib.hid hlb
          clear hla hlb
          by_cases heq : pr = qr
          · subst heq
            go_wp2_with fail
            go_quiet (fail)
            have hbel2 := below_drewN hbel nq
            generalize wr.drewN nq = w2 at *
            clear x1 x2 x3
            have x1 := (hbel2.cell (p := ⟨b, off + i, none⟩) hb).trans X1.out
            have x2 := (hbel2.cell (p := ⟨g, o, none⟩) hg).trans X2.out
            have x3 := (hbel2.cell (p := ⟨g, o + 1, none⟩) hg).trans X3.out
            go_wp2
            go_roundw
            case rel => exact ⟨i + 1, la2, lb2, by omega, by go_num, rfl, rfl, HA2, HB2, hbel2⟩
            case measure => simp [intOf]; omega
          · have heqi : ((pr : Int) == (qr : Int)) = false := by simp; omega
            go_wp2_with fail
            go_quiet (fail)
            have hbel2 := below_drewN hbel nq
            generalize wr.drewN nq = w2 at *
            clear x1 x2 x3
            have x1 := (hbel2.cell (p := ⟨b, off + i, none⟩) hb).trans X1.out
            have x2 := (hbel2.cell (p := ⟨g, o, none⟩) hg).trans X2.out
            have x3 := (hbel2.cell (p := ⟨g, o + 1, none⟩) hg).trans X3.out
            go_wp2
            go_roundw
            case rel => exact ⟨i + 1, la2, lb2, by omega, by go_num, rfl, rfl, HA2, HB2, hbel2⟩
            case measure => simp [intOf]; omega
    · obtain rfl : i = n := by omega
      obtain rfl : la = p1 (leastP L) := by rw [HA.out, HN.out, List.take_length]
      obtain rfl : lb = p2 (leastP L) := by rw [HB.out, HN.out, List.take_length]
      obtain rfl : R = decide (0 < i) := by
        rw [HR.out]
        by_cases h0 : i = 0
        · have : L = [] := List.eq_nil_of_length_eq_zero (by rw [← HN.out]; exact h0)
          subst this; subst h0; rfl
        · have : L ≠ [] := fun e => h0 (by rw [HN.out, e]; rfl)
          rw [leastP_pos this]
          simp; omega
      clear HAT HA HB HR
      go_wp2
      exact bodyPost_ret (results_tmp3 rfl _ _ _) rfl ⟨rfl, hbel⟩
end Go.Proofs.YtfildenelgbmlaaGreatDoor

namespace Go.Proofs.YtfildenelgbmlaaGreatDoor
open Go.RowKit

set_option maxRecDepth 100000 in
set_option maxHeartbeats 1600000 in
theorem impl_comRect_c {va vb : Value} {a b : List Cell} (w : World) (ha : CellsRd w 0 w.heap.size va a) (hb : CellsRd w 0 w.heap.size vb b) (hla : a.length ≤ 1048576) (hlb : b.length ≤ 1048576) (ht : Tab64 w) :
    Calls Tryz.prog 8 #[va, vb] w fun e w' => e = .returned (.tuple #[.int .i64 (p1 (comL a b) : Nat), .int .i64 (p2 (comL a b) : Nat), .bool (comL a b).isSome]) ∧ Below w.heap.size w w' := by
  obtain ⟨i0, hi, hz0, hz1, hz2⟩ := info_parts infoRowT
  have HRB := Lib.hid (impl_rects_c w hb hlb ht)
  have HRA : Hid (∀ w1, Below w.heap.size w w1 → Calls Tryz.prog 57 #[va] w1 fun e w' => ∃ u vs, e = .returned u ∧ Sep w1 w' [Res.row u 31 1 (rectsT a).length vs, Res.rows vs (rowsP (rectsT a))]) := Lib.hid fun w1 b1 => impl_rects_c w1 (cells_keep ha b1) hla (tab64_on ht b1)
  have HLE : Hid (∀ (v : Value) (w1 : World), IntSSRd w1 0 w1.heap.size v (rowsP (comP a b)) → Calls Tryz.prog 59 #[v] w1 fun e w' => e = .returned (.tuple #[.int .i64 (p1 (comL a b) : Nat), .int .i64 (p2 (comL a b) : Nat), .bool (comL a b).isSome]) ∧ Below w1.heap.size w1 w') := Lib.hid fun v w1 h => least_c w1 h comP_up (fun p hp => pairsN_le p (comP_mem hp)) comP_len
  obtain ⟨P1, hP1⟩ : ∃ k, k = p1 (comL a b) := ⟨_, rfl⟩
  obtain ⟨P2, hP2⟩ : ∃ k, k = p2 (comL a b) := ⟨_, rfl⟩
  obtain ⟨PB, hPB⟩ : ∃ k, k = (comL a b).isSome := ⟨_, rfl⟩
  rw [← hP1, ← hP2, ← hPB] at HLE ⊢
  obtain ⟨f, hf⟩ : ∃ f, f = tilesB b := ⟨_, rfl⟩
  obtain ⟨LA, hLA⟩ : ∃ L, L = rectsT a := ⟨_, rfl⟩
  obtain ⟨LB, hLB⟩ : ∃ L, L = rectsT b := ⟨_, rfl⟩
  have HMET : Hid (∀ p ∈ LA, LB.filter (fun q => decide (p = q)) = if f p then [p] else []) := Lib.hid fun p hp => by
    rw [hLB, hf]
    rw [hLA] at hp
    exact met_rects (rectsT_mem.1 hp).1
  have HCP : Hid (comP a b = LA.filter f) := Lib.hid (by rw [hLA, hf]; rfl)
  have HNA : Hid LA.Nodup := Lib.hid (by rw [hLA]; exact rectsT_nodup)
  have HNB : Hid LB.Nodup := Lib.hid (by rw [hLB]; exact rectsT_nodup)
  have hA15 : LA.length ≤ 15 := by rw [hLA]; exact Nat.le_trans (List.length_filter_le _ _) (by decide)
  have hB15 : LB.length ≤ 15 := by rw [hLB]; exact Nat.le_trans (List.length_filter_le _ _) (by decide)
  rw [← hLA] at HRA
  rw [← hLB] at HRB
  obtain ⟨A1, c1, rfl, _, _⟩ := ha
  obtain ⟨A2, c2, rfl, _, _⟩ := hb
  clear hP1 hP2 hPB hf hLA hLB ht hla hlb
  go_enter Tryz.func8, Tryz.ntmps8
  go_wp2_with fail
  refine (HRB.out).mono ?_
  rintro e w1 ⟨ub, vb', rfl, H1⟩
  obtain ⟨fb, rfl⟩ := as_map HNB.out (by have := RowsAt.len H1.h1; rwa [rowsP_len] at this)
  obtain ⟨B, cB, rfl, _, _, _⟩ := Res.row_at H1.h0
  have HC2 := Lib.hid (HRA.out _ H1.below)
  clear HRA HRB
  go_wp2_with fail
  refine (HC2.out).mono ?_
  rintro e w2 ⟨ua, va', rfl, H2⟩
  obtain ⟨fa, rfl⟩ := as_map HNA.out (by have := RowsAt.len H2.h1; rwa [rowsP_len] at this)
  obtain ⟨A, cA, rfl, _, _, _⟩ := Res.row_at H2.h0
  have H3 := (H2.join H1).nil 31 1
  obtain ⟨nA, hnA⟩ : ∃ n, n = LA.length := ⟨_, rfl⟩
  obtain ⟨nB, hnB⟩ : ∃ n, n = LB.length := ⟨_, rfl⟩
  simp only [List.cons_append, List.nil_append] at H3
  rw [← hnA] at H3 hA15 ⊢
  rw [← hnB] at H3 hB15 ⊢
  have HNL := Lib.hid hnA
  have HNM := Lib.hid hnB
  clear HC2 H1 H2 hnA hnB
  go_wp2
  go_loopw [7, 18] (fun lv iv wx => ∃ (i n : Nat) (K : List (Nat × Nat)), i ≤ nA ∧ iv = .int .i64 i ∧ Hid (K = (LA.take i).filter f) ∧ n = K.length ∧ n ≤ i ∧ Sep w wx [Res.row lv 31 1 n (K.map fa), Res.row (.slice A nA cA) 31 1 nA (LA.map fa), Res.rows (LA.map fa) (rowsP LA), Res.row (.slice B nB cB) 31 1 nB (LB.map fb), Res.rows (LB.map fb) (rowsP LB)]) (fun _ iv _ => nA - (intOf iv).toNat)
  case atStart => exact ⟨0, 0, [], Nat.zero_le _, rfl, Lib.hid rfl, rfl, Nat.le_refl _, H3⟩
  case round =>
    clear H3
    obtain ⟨i, n, K, hi', rfl, HK, hnK, hni, H⟩ := hrel
    by_cases hlt : i < nA
    · obtain ⟨p, hp⟩ : ∃ p, LA[i]? = some p := ⟨LA[i]'(by rw [← HNL.out]; exact hlt), List.getElem?_eq_getElem _⟩
      obtain ⟨gA, oA, rfl⟩ : ∃ g o, A = some ⟨g, o, none⟩ := by
        obtain ⟨g, o, c, e, _⟩ := own_shape H.h1 (by omega)
        injection e with e1
        exact ⟨g, o, e1⟩
      have x1 : wr.cell? ⟨gA, oA + i, none⟩ = some (fa p) := own_cell H.h1 (by rw [List.getElem?_map, hp]; rfl)
      obtain ⟨pv, hpv⟩ : ∃ v, v = fa p := ⟨_, rfl⟩
      rw [← hpv] at x1
      have hown := rows_own H.h2 (List.mem_of_getElem? hp)
      rw [← hpv] at hown
      obtain ⟨Ap, cp, rfl, _, _, _⟩ := own_rd hown
      have HPV := Lib.hid hpv
      have HP := Lib.hid hp
      have HPM := Lib.hid (List.mem_of_getElem? hp)
      clear hown hpv hp
      go_wp2
      clear x1
      go_loopw [7, 24] (fun lv kv wx => ∃ (k n : Nat) (J : List (Nat × Nat)), k ≤ nB ∧ kv = .int .i64 k ∧ Hid (J = K ++ (LB.take k).filter (fun q => decide (p = q))) ∧ n = J.length ∧ n ≤ i + k ∧ Sep w wx [Res.row lv 31 1 n (J.map fa), Res.row (.slice (some ⟨gA, oA, none⟩) nA cA) 31 1 nA (LA.map fa), Res.rows (LA.map fa) (rowsP LA), Res.row (.slice B nB cB) 31 1 nB (LB.map fb), Res.rows (LB.map fb) (rowsP LB)]) (fun _ kv _ => nB - (intOf kv).toNat)
      case atStart => exact ⟨0, n, K, Nat.zero_le _, rfl, Lib.hid (by simp), hnK, hni, H⟩
      case round =>
        clear H hnK hni
        obtain ⟨k, m, J, hk, rfl, HJ, hmJ, hmk, H⟩ := hrel
        by_cases hltk : k < nB
        · obtain ⟨q, hq⟩ : ∃ q, LB[k]? = some q := ⟨LB[k]'(by rw [← HNM.out]; exact hltk), List.getElem?_eq_getElem _⟩
          obtain ⟨gB, oB, rfl⟩ : ∃ g o, B = some ⟨g, o, none⟩ := by
            obtain ⟨g, o, c, e, _⟩ := own_shape H.h3 (by omega)
            injection e with e1
            exact ⟨g, o, e1⟩
          have x1 : wr.cell? ⟨gB, oB + k, none⟩ = some (fb q) := own_cell H.h3 (by rw [List.getElem?_map, hq]; rfl)
          obtain ⟨qv, hqv⟩ : ∃ v, v = fb q := ⟨_, rfl⟩
          rw [← hqv] at x1
          have hown := rows_own H.h4 (List.mem_of_getElem? hq)
          rw [← hqv] at hown
          have hown2 := rows_own H.h2 HPM.out
          rw [← HPV.out] at hown2
          have HC := Lib.hid (impl_sameInts_c wr (rowP_rd hown2) (rowP_rd hown))
          obtain ⟨Aq, cq, rfl, _, _, _⟩ := own_rd hown
          have HTK : Hid (LB.take (k + 1) = LB.take k ++ [q]) := Lib.hid (by rw [List.take_add_one, hq]; rfl)
          clear hown hown2 hqv hq
          go_wp2_with fail
          refine (HC.out).mono ?_
          rintro e w3 ⟨rfl, b3⟩
          replace H := H.step b3
          rw [rowP_eq]
          clear b3 HC x1
          by_cases hpq : p = q
          · subst hpq
            rw [decide_eq_true (rfl : p = p)]
            have HJ2 : Hid (J ++ [p] = K ++ (LB.take (k + 1)).filter (fun q => decide (p = q))) := Lib.hid (by rw [HTK.out, List.filter_append, HJ.out, List.append_assoc]; simp)
            go_wp2_with (at_builtin; refine wpList_app rfl _ _ 77 rfl 31 i0 _ 1 24 Tryz.underlying77 hi hz0 hz1 hz2 rfl (by decide) _ _ _ rfl (H.alloc _) _ _ _ [.slice Ap 2 cp] rfl (Rd.fresh w3 31 #[.slice Ap 2 cp] 1 1 rfl) (ocT rfl) (by unfold maxLen; omega) (by omega) ?_; intro v4 w4 H4; clear H)
            rw [HPV.out, ← List.map_singleton, ← List.map_append] at H4
            have hm2 : m + 1 = (J ++ [p]).length := by rw [List.length_append, ← hmJ]; rfl
            have HM2 := Lib.hid hm2
            clear hm2
            go_wp2
            go_roundw
            case rel => exact ⟨k + 1, m + 1, J ++ [p], by omega, by go_num, HJ2, HM2.out, by omega, H4⟩
            case measure => simp [intOf]; omega
          · rw [decide_eq_false hpq]
            have HJ2 : Hid (J = K ++ (LB.take (k + 1)).filter (fun q => decide (p = q))) := Lib.hid (by rw [HTK.out, List.filter_append, HJ.out]; simp [hpq])
            clear hpq
            go_wp2
            go_roundw
            case rel => exact ⟨k + 1, m, J, by omega, by go_num, HJ2, hmJ, by omega, H⟩
            case measure => simp [intOf]; omega
        · obtain rfl : k = nB := by omega
          have hJ : J = (LA.take (i + 1)).filter f := by
            rw [HJ.out, HNM.out, List.take_length, HMET.out p HPM.out, List.take_add_one, HP.out, List.filter_append, HK.out]
            congr 1
            simp only [Option.toList, List.filter_cons, List.filter_nil]
          have hJn : J.length ≤ i + 1 := by rw [hJ]; refine Nat.le_trans (List.length_filter_le _ _) ?_; rw [List.length_take]; omega
          have HJ2 := Lib.hid hJ
          clear hJ
          go_wp2
          go_roundw
          case rel => exact ⟨i + 1, m, J, by omega, by go_num, HJ2, hmJ, by omega, H⟩
          case measure => simp [intOf]; omega
    · obtain rfl : i = nA := by omega
      obtain rfl : K = comP a b := by rw [HK.out, HNL.out, List.take_length, HCP.out]
      have HSS := rows_some H hnK H.h2 (fun p hp => by rw [HCP.out] at hp; exact (List.mem_filter.1 hp).1)
      have HC := Lib.hid (HLE.out _ _ HSS)
      have hB := H.below
      obtain ⟨Al, cl, rfl, _, _, _⟩ := Res.row_at H.h0
      clear HSS HLE H hnK
      go_wp2_with fail
      refine (HC.out).mono ?_
      rintro e w3 ⟨rfl, b3⟩
      have hB2 := hB.trans (b3.mono hB.size)
      clear HC b3 hB
      go_wp2
      exact bodyPost_ret (results_tmp3 rfl _ _ _) rfl ⟨rfl, hB2⟩
end Go.Proofs.YtfildenelgbmlaaGreatDoor

namespace Go.Proofs.YtfildenelgbmlaaGreatDoor
open Go.RowKit

theorem row_cells {w : World} {A : List (Nat × Nat)} {f : Nat × Nat → Value} (h : RowsAt w (A.map f) (rowsP A)) {p : Nat × Nat} (hp : p ∈ A) :
    ∃ g c, f p = .slice (some ⟨g, 0, none⟩) 2 c ∧ w.cell? ⟨g, 0, none⟩ = some (.int .i64 p.1) ∧ w.cell? ⟨g, 1, none⟩ = some (.int .i64 p.2) := by
  have ho := rows_own h hp
  obtain ⟨g, off, c, e, h1, h2, h3⟩ := own_shape ho (by decide)
  rw [e] at ho ⊢
  obtain ⟨rfl, _⟩ := own_blk ho
  exact ⟨g, c, rfl, by have := own_cell1 ho (j := 0) (u := (p.1 : Int)) rfl; simpa using this, by have := own_cell1 ho (j := 1) (u := (p.2 : Int)) rfl; simpa using this⟩
def bestV : Option Nat → Value
  | none => .int .i64 (-1)
  | some j => .int .i64 (j : Int)
def BestAt (LA : List (Nat × Nat)) (f : Nat × Nat → Bool) (i : Nat) : Option Nat → Prop
  | none => leastP ((LA.take i).filter f) = none
  | some j => j < i ∧ ∃ p, LA[j]? = some p ∧ leastP ((LA.take i).filter f) = some p
theorem best_no {LA : List (Nat × Nat)} {f : Nat × Nat → Bool} {i : Nat} {o : Option Nat} {p : Nat × Nat} (h : BestAt LA f i o) (hp : LA[i]? = some p) (hf : f p = false) : BestAt LA f (i + 1) o := by
  have e : (LA.take (i + 1)).filter f = (LA.take i).filter f := by rw [List.take_add_one, hp, List.filter_append]; simp [hf]
  cases o with
  | none => unfold BestAt; rw [e]; exact h
  | some j =>
    obtain ⟨h1, q, h2, h3⟩ := h
    exact ⟨by omega, q, h2, by rw [e]; exact h3⟩
theorem best_snoc {LA : List (Nat × Nat)} {f : Nat × Nat → Bool} {i : Nat} {p : Nat × Nat} (hp : LA[i]? = some p) (hf : f p = true) : leastP ((LA.take (i + 1)).filter f) = lessP (leastP ((LA.take i).filter f)) p := by
  rw [List.take_add_one, hp, List.filter_append]
  simp only [Option.toList, List.filter_cons, hf, if_true, List.filter_nil]
  exact leastP_snoc
theorem best_new {LA : List (Nat × Nat)} {f : Nat × Nat → Bool} {i : Nat} {p : Nat × Nat} (h : BestAt LA f i none) (hp : LA[i]? = some p) (hf : f p = true) : BestAt LA f (i + 1) (some i) :=
  ⟨Nat.lt_succ_self _, p, hp, by rw [best_snoc hp hf, (h : leastP _ = none)]; rfl⟩
theorem best_less {LA : List (Nat × Nat)} {f : Nat × Nat → Bool} {i j : Nat} {p q : Nat × Nat} (h : BestAt LA f i (some j)) (hq : LA[j]? = some q) (hp : LA[i]? = some p) (hf : f p = true) (hl : p.1 * p.2 < q.1 * q.2) : BestAt LA f (i + 1) (some i) := by
  obtain ⟨h1, r, h2, h3⟩ := h
  rw [h2] at hq
  injection hq with hq
  subst hq
  exact ⟨Nat.lt_succ_self _, p, hp, by rw [best_snoc hp hf, h3, lessP, if_pos hl]⟩
theorem best_keep {LA : List (Nat × Nat)} {f : Nat × Nat → Bool} {i j : Nat} {p q : Nat × Nat} (h : BestAt LA f i (some j)) (hq : LA[j]? = some q) (hp : LA[i]? = some p) (hf : f p = true) (hl : ¬ p.1 * p.2 < q.1 * q.2) : BestAt LA f (i + 1) (some j) := by
  obtain ⟨h1, r, h2, h3⟩ := h
  rw [h2] at hq
  injection hq with hq
  subst hq
  exact ⟨by omega, r, h2, by rw [best_snoc hp hf, h3, lessP, if_neg hl]⟩
theorem any_met {LB : List (Nat × Nat)} {p : Nat × Nat} : LB.any (fun q => decide (p = q)) = !(LB.filter (fun q => decide (p = q))).isEmpty := by
  induction LB with
  | nil => rfl
  | cons q l ih =>
    rw [List.any_cons, List.filter_cons, ih]
    by_cases h : p = q <;> simp [h]

set_option maxRecDepth 100000 in
set_option maxHeartbeats 1600000 in
theorem spec_comRect_c {va vb : Value} {a b : List Cell} (w : World) (ha : CellsRd w 0 w.heap.size va a) (hb : CellsRd w 0 w.heap.size vb b) (hla : a.length ≤ 1048576) (hlb : b.length ≤ 1048576) :
    Calls Tryz.prog 9 #[va, vb] w fun e w' => e = .returned (.tuple #[.int .i64 (p1 (comL a b) : Nat), .int .i64 (p2 (comL a b) : Nat), .bool (comL a b).isSome]) ∧ Below w.heap.size w w' := by
  have HRA := Lib.hid (spec_rects_c w ha hla)
  have HRB : Hid (∀ w1, Below w.heap.size w w1 → Calls Tryz.prog 60 #[vb] w1 fun e w' => ∃ u vs, e = .returned u ∧ Sep w1 w' [Res.row u 31 1 (rectsT b).length vs, Res.rows vs (rowsP (rectsT b))]) := Lib.hid fun w1 b1 => spec_rects_c w1 (cells_keep hb b1) hlb
  obtain ⟨f, hf⟩ : ∃ f, f = tilesB b := ⟨_, rfl⟩
  obtain ⟨LA, hLA⟩ : ∃ L, L = rectsT a := ⟨_, rfl⟩
  obtain ⟨LB, hLB⟩ : ∃ L, L = rectsT b := ⟨_, rfl⟩
  have HANY : Hid (∀ p ∈ LA, LB.any (fun q => decide (p = q)) = f p) := Lib.hid fun p hp => by
    rw [any_met, hLB, hf]
    rw [hLA] at hp
    rw [met_rects (rectsT_mem.1 hp).1]
    cases tilesB b p <;> rfl
  have HCP : Hid (comL a b = leastP (LA.filter f)) := Lib.hid (by rw [hLA, hf]; rfl)
  obtain ⟨R, hR⟩ : ∃ R, R = comL a b := ⟨_, rfl⟩
  rw [← hR] at HCP ⊢
  have HNA : Hid LA.Nodup := Lib.hid (by rw [hLA]; exact rectsT_nodup)
  have HNB : Hid LB.Nodup := Lib.hid (by rw [hLB]; exact rectsT_nodup)
  have HBD : Hid (∀ p ∈ LA, 1 ≤ p.1 ∧ p.1 ≤ 5 ∧ 1 ≤ p.2 ∧ p.2 ≤ 5) := Lib.hid fun p hp => by rw [hLA] at hp; exact pairsN_le p (rectsT_mem.1 hp).1
  have hA15 : LA.length ≤ 15 := by rw [hLA]; exact Nat.le_trans (List.length_filter_le _ _) (by decide)
  have hB15 : LB.length ≤ 15 := by rw [hLB]; exact Nat.le_trans (List.length_filter_le _ _) (by decide)
  rw [← hLA] at HRA
  rw [← hLB] at HRB
  obtain ⟨A1, c1, rfl, _, _⟩ := ha
  obtain ⟨A2, c2, rfl, _, _⟩ := hb
  clear hf hLA hLB hR hla hlb
  go_enter Tryz.func9, Tryz.ntmps9
  go_wp2_with fail
  refine (HRA.out).mono ?_
  rintro e w1 ⟨ua, va', rfl, H1⟩
  obtain ⟨fa, rfl⟩ := as_map HNA.out (by have := RowsAt.len H1.h1; rwa [rowsP_len] at this)
  obtain ⟨A, cA, rfl, _, _, _⟩ := Res.row_at H1.h0
  have HC2 := Lib.hid (HRB.out _ H1.below)
  clear HRA HRB
  go_wp2_with fail
  refine (HC2.out).mono ?_
  rintro e w2 ⟨ub, vb', rfl, H2⟩
  obtain ⟨fb, rfl⟩ := as_map HNB.out (by have := RowsAt.len H2.h1; rwa [rowsP_len] at this)
  obtain ⟨B, cB, rfl, _, _, _⟩ := Res.row_at H2.h0
  have H3 := H2.join H1
  obtain ⟨nA, hnA⟩ : ∃ n, n = LA.length := ⟨_, rfl⟩
  obtain ⟨nB, hnB⟩ : ∃ n, n = LB.length := ⟨_, rfl⟩
  simp only [List.cons_append, List.nil_append] at H3
  rw [← hnA] at H3 hA15 ⊢
  rw [← hnB] at H3 hB15 ⊢
  have HNL := Lib.hid hnA
  have HNM := Lib.hid hnB
  clear HC2 H1 H2 hnA hnB
  go_wp2
  go_loopw [9, 10] (fun ov iv wx => ∃ (i : Nat) (o : Option Nat), i ≤ nA ∧ iv = .int .i64 i ∧ ov = bestV o ∧ Hid (BestAt LA f i o) ∧ Sep w wx [Res.row (.slice B nB cB) 31 1 nB (LB.map fb), Res.rows (LB.map fb) (rowsP LB), Res.row (.slice A nA cA) 31 1 nA (LA.map fa), Res.rows (LA.map fa) (rowsP LA)]) (fun _ iv _ => nA - (intOf iv).toNat)
  case atStart => exact ⟨0, none, Nat.zero_le _, rfl, rfl, Lib.hid rfl, H3⟩
  case round =>
    clear H3
    obtain ⟨i, o, hi', rfl, rfl, HO, H⟩ := hrel
    by_cases hlt : i < nA
    · obtain ⟨p, hp⟩ : ∃ p, LA[i]? = some p := ⟨LA[i]'(by rw [← HNL.out]; exact hlt), List.getElem?_eq_getElem _⟩
      obtain ⟨gA, oA, rfl⟩ : ∃ g o, A = some ⟨g, o, none⟩ := by
        obtain ⟨g, o, c, e, _⟩ := own_shape H.h2 (by omega)
        injection e with e1
        exact ⟨g, o, e1⟩
      have HP := Lib.hid hp
      have HPM := Lib.hid (List.mem_of_getElem? hp)
      clear hp
      obtain ⟨bo, hbo⟩ : ∃ v, v = bestV o := ⟨_, rfl⟩
      rw [← hbo]
      have HBO := Lib.hid hbo
      clear hbo
      go_wp2
      go_loopw [11, 12] (fun bv kv wx => ∃ (k : Nat) (bt : Bool), k ≤ nB ∧ kv = .int .i64 k ∧ bv = .bool bt ∧ Hid (bt = (LB.take k).any (fun q => decide (p = q))) ∧ Sep w wx [Res.row (.slice B nB cB) 31 1 nB (LB.map fb), Res.rows (LB.map fb) (rowsP LB), Res.row (.slice (some ⟨gA, oA, none⟩) nA cA) 31 1 nA (LA.map fa), Res.rows (LA.map fa) (rowsP LA)]) (fun _ kv _ => nB - (intOf kv).toNat)
      case atStart => exact ⟨0, false, Nat.zero_le _, rfl, rfl, Lib.hid rfl, H⟩
      case round =>
        clear H
        obtain ⟨k, bt, hk, rfl, rfl, HBT, H⟩ := hrel
        obtain ⟨ga, ca, hfa, y0, y1⟩ := row_cells H.h3 HPM.out
        have x1 : wr.cell? ⟨gA, oA + i, none⟩ = some (fa p) := own_cell H.h2 (by rw [List.getElem?_map, HP.out]; rfl)
        rw [hfa] at x1
        clear hfa
        by_cases hltk : k < nB
        · obtain ⟨q, hq⟩ : ∃ q, LB[k]? = some q := ⟨LB[k]'(by rw [← HNM.out]; exact hltk), List.getElem?_eq_getElem _⟩
          obtain ⟨gB, oB, rfl⟩ : ∃ g o, B = some ⟨g, o, none⟩ := by
            obtain ⟨g, o, c, e, _⟩ := own_shape H.h0 (by omega)
            injection e with e1
            exact ⟨g, o, e1⟩
          obtain ⟨gb, cb, hfb, z0, z1⟩ := row_cells H.h1 (List.mem_of_getElem? hq)
          have x2 : wr.cell? ⟨gB, oB + k, none⟩ = some (fb q) := own_cell H.h0 (by rw [List.getElem?_map, hq]; rfl)
          rw [hfb] at x2
          have HTK : Hid ((LB.take (k + 1)).any (fun q => decide (p = q)) = (bt || decide (p = q))) := Lib.hid (by rw [List.take_add_one, hq, List.any_append, HBT.out]; simp)
          clear hq hfb
          cases bt
          · obtain ⟨pa, pb⟩ := p
            obtain ⟨qa, qb⟩ := q
            simp only at y0 y1 z0 z1
            by_cases h1 : pa = qa
            · subst h1
              by_cases h2 : pb = qb
              · subst h2
                have HB2 : Hid (true = (LB.take (k + 1)).any (fun q => decide ((pa, pb) = q))) := Lib.hid (by rw [HTK.out]; simp)
                go_wp2_with fail
                go_quiet (fail)
                replace H := H.drewN nq
                generalize wr.drewN nq = w2 at *
                clear x1 x2 y0 y1 z0 z1
                go_wp2
                go_roundw
                case rel => exact ⟨k + 1, true, by omega, by go_num, rfl, HB2, H⟩
                case measure => simp [intOf]; omega
              · have e2 : ((pb : Int) == (qb : Int)) = false := by simp; omega
                have HB2 : Hid (false = (LB.take (k + 1)).any (fun q => decide ((pa, pb) = q))) := Lib.hid (by rw [HTK.out]; simp [h2])
                clear h2
                go_wp2_with fail
                go_quiet (fail)
                replace H := H.drewN nq
                generalize wr.drewN nq = w2 at *
                clear x1 x2 y0 y1 z0 z1
                go_wp2
                go_roundw
                case rel => exact ⟨k + 1, false, by omega, by go_num, rfl, HB2, H⟩
                case measure => simp [intOf]; omega
            · have e1 : ((pa : Int) == (qa : Int)) = false := by simp; omega
              have HB2 : Hid (false = (LB.take (k + 1)).any (fun q => decide ((pa, pb) = q))) := Lib.hid (by rw [HTK.out]; simp [h1])
              clear h1
              go_wp2_with fail
              go_quiet (fail)
              replace H := H.drewN nq
              generalize wr.drewN nq = w2 at *
              clear x1 x2 y0 y1 z0 z1
              go_wp2
              go_roundw
              case rel => exact ⟨k + 1, false, by omega, by go_num, rfl, HB2, H⟩
              case measure => simp [intOf]; omega
          · have HB2 : Hid (true = (LB.take (k + 1)).any (fun q => decide (p = q))) := Lib.hid (by rw [HTK.out]; rfl)
            go_wp2_with fail
            go_quiet (fail)
            replace H := H.drewN nq
            generalize wr.drewN nq = w2 at *
            clear x1 x2 y0 y1 z0 z1
            go_wp2
            go_roundw
            case rel => exact ⟨k + 1, true, by omega, by go_num, rfl, HB2, H⟩
            case measure => simp [intOf]; omega
        · obtain rfl : k = nB := by omega
          have hbf : bt = f p := by rw [HBT.out, HNM.out, List.take_length, HANY.out p HPM.out]
          have HBF := Lib.hid hbf
          clear hbf HBT
          obtain ⟨hp1, hp5, hq1, hq5⟩ := HBD.out p HPM.out
          cases bt
          · have HO2 := Lib.hid (best_no HO.out HP.out HBF.out.symm)
            obtain rfl := HBO.out
            clear hp1 hp5 hq1 hq5
            go_wp2_with fail
            go_quiet (fail)
            replace H := H.drewN nq
            generalize wr.drewN nq = w2 at *
            clear x1 y0 y1
            go_wp2
            go_roundw
            case rel => exact ⟨i + 1, o, by omega, by go_num, rfl, HO2, H⟩
            case measure => simp [intOf]; omega
          · cases o with
            | none =>
              obtain rfl : bo = .int .i64 (-1) := HBO.out
              have HO2 := Lib.hid (best_new HO.out HP.out HBF.out.symm)
              clear hp1 hp5 hq1 hq5
              go_wp2_with fail
              go_quiet (fail)
              replace H := H.drewN nq
              generalize wr.drewN nq = w2 at *
              clear x1 y0 y1
              go_wp2
              go_roundw
              case rel => exact ⟨i + 1, some i, by omega, by go_num, rfl, HO2, H⟩
              case measure => simp [intOf]; omega
            | some j =>
              obtain rfl : bo = .int .i64 (j : Int) := HBO.out
              obtain ⟨hji, r, hr, _⟩ := id HO.out
              obtain ⟨gr, cr, hfr, z0, z1⟩ := row_cells H.h3 (List.mem_of_getElem? hr)
              have x2 : wr.cell? ⟨gA, oA + j, none⟩ = some (fa r) := own_cell H.h2 (by rw [List.getElem?_map, hr]; rfl)
              rw [hfr] at x2
              obtain ⟨hr1, hr5, hs1, hs5⟩ := HBD.out r (List.mem_of_getElem? hr)
              have HRR := Lib.hid hr
              have hj1 : ((j : Int) < 0) = False := by simp
              have hw1 := mul55 hp5 hq5
              have hw2 := mul55 hr5 hs5
              obtain ⟨pr, hpr⟩ : ∃ k, k = p.1 * p.2 := ⟨_, rfl⟩
              obtain ⟨qr, hqr⟩ : ∃ k, k = r.1 * r.2 := ⟨_, rfl⟩
              rw [← hpr] at hw1
              rw [← hqr] at hw2
              have HPR := Lib.hid hpr
              have HQR := Lib.hid hqr
              clear hfr hr hpr hqr hp1 hp5 hq1 hq5 hr1 hr5 hs1 hs5
              by_cases hless : pr < qr
              · have hlessi : (pr : Int) < (qr : Int) := by omega
                have HO2 := Lib.hid (best_less HO.out HRR.out HP.out HBF.out.symm (by rw [← HPR.out, ← HQR.out]; exact hless))
                go_wp2_with fail
                go_quiet (fail)
                replace H := H.drewN nq
                generalize wr.drewN nq = w2 at *
                clear x1 y0 y1 x2 z0 z1 hw1 hw2
                go_wp2
                go_roundw
                case rel => exact ⟨i + 1, some i, by omega, by go_num, rfl, HO2, H⟩
                case measure => simp [intOf]; omega
              · have hlessi : ¬ (pr : Int) < (qr : Int) := by omega
                have HO2 := Lib.hid (best_keep HO.out HRR.out HP.out HBF.out.symm (by rw [← HPR.out, ← HQR.out]; exact hless))
                go_wp2_with fail
                go_quiet (fail)
                replace H := H.drewN nq
                generalize wr.drewN nq = w2 at *
                clear x1 y0 y1 x2 z0 z1 hw1 hw2
                go_wp2
                go_roundw
                case rel => exact ⟨i + 1, some j, by omega, by go_num, rfl, HO2, H⟩
                case measure => simp [intOf]; omega
    · obtain rfl : i = nA := by omega
      have hRO : R = leastP ((LA.take i).filter f) := by rw [HNL.out, List.take_length, HCP.out]
      have hB := H.below
      obtain ⟨bo, hbo⟩ : ∃ v, v = bestV o := ⟨_, rfl⟩
      rw [← hbo]
      cases o with
      | none =>
        obtain rfl : bo = .int .i64 (-1) := hbo
        obtain rfl : R = none := by rw [hRO]; exact HO.out
        clear H HO hRO HCP
        go_wp2
        exact bodyPost_ret (results_tmp3 rfl _ _ _) rfl ⟨rfl, hB⟩
      | some j =>
        obtain rfl : bo = .int .i64 (j : Int) := hbo
        obtain ⟨hji, r, hr, hrl⟩ := id HO.out
        obtain ⟨gA, oA, rfl⟩ : ∃ g o, A = some ⟨g, o, none⟩ := by
          obtain ⟨g, o, c, e, _⟩ := own_shape H.h2 (by omega)
          injection e with e1
          exact ⟨g, o, e1⟩
        obtain ⟨gr, cr, hfr, z0, z1⟩ := row_cells H.h3 (List.mem_of_getElem? hr)
        have x2 : wr.cell? ⟨gA, oA + j, none⟩ = some (fa r) := own_cell H.h2 (by rw [List.getElem?_map, hr]; rfl)
        rw [hfr] at x2
        obtain rfl : R = some r := by rw [hRO]; exact hrl
        have hj0 : ¬ (j : Int) < 0 := by omega
        clear hRO HCP hrl hr hfr
        go_wp2_with fail
        go_quiet (fail)
        have hB2 := below_drewN hB nq
        generalize wr.drewN nq = w2 at *
        clear x2 z0 z1
        go_wp2
        exact bodyPost_ret (results_tmp3 rfl _ _ _) rfl ⟨rfl, hB2⟩
end Go.Proofs.YtfildenelgbmlaaGreatDoor

namespace Go.Proofs.YtfildenelgbmlaaGreatDoor
open Go.RowKit

def comArea (a b : List Cell) : Int := if (comL a b).isSome then ((p1 (comL a b) * p2 (comL a b) : Nat) : Int) else -1
set_option maxRecDepth 100000 in
set_option maxHeartbeats 400000 in
theorem impl_compat_c {va vb : Value} {a b : List Cell} (w : World) (ha : CellsRd w 0 w.heap.size va a) (hb : CellsRd w 0 w.heap.size vb b) (hla : a.length ≤ 1048576) (hlb : b.length ≤ 1048576) (ht : Tab64 w) :
    Calls Tryz.prog 10 #[va, vb] w fun e w' => e = .returned (.bool (comL a b).isSome) ∧ Below w.heap.size w w' := by
  have HC := Lib.hid (impl_comRect_c w ha hb hla hlb ht)
  obtain ⟨A1, c1, rfl, _, _⟩ := ha
  obtain ⟨A2, c2, rfl, _, _⟩ := hb
  go_enter Tryz.func10, Tryz.ntmps10
  go_wp2_with fail
  refine (HC.out).mono ?_
  rintro e w1 ⟨rfl, b1⟩
  go_wp2
  go_ret
  exact ⟨rfl, b1⟩
set_option maxRecDepth 100000 in
set_option maxHeartbeats 400000 in
theorem impl_comArea_c {va vb : Value} {a b : List Cell} (w : World) (ha : CellsRd w 0 w.heap.size va a) (hb : CellsRd w 0 w.heap.size vb b) (hla : a.length ≤ 1048576) (hlb : b.length ≤ 1048576) (ht : Tab64 w) :
    Calls Tryz.prog 11 #[va, vb] w fun e w' => e = .returned (.int .i64 (comArea a b)) ∧ Below w.heap.size w w' := by
  have HC := Lib.hid (impl_comRect_c w ha hb hla hlb ht)
  obtain ⟨A1, c1, rfl, _, _⟩ := ha
  obtain ⟨A2, c2, rfl, _, _⟩ := hb
  obtain ⟨R, hR⟩ : ∃ R, R = comArea a b := ⟨_, rfl⟩
  rw [← hR]
  cases ho : comL a b with
  | none =>
    obtain rfl : R = -1 := by rw [hR, comArea, ho]; rfl
    rw [ho] at HC
    clear hR ho
    go_enter Tryz.func11, Tryz.ntmps11
    go_wp2_with fail
    refine (HC.out).mono ?_
    rintro e w1 ⟨rfl, b1⟩
    go_wp2
    go_ret
    exact ⟨rfl, b1⟩
  | some p =>
    obtain ⟨x1, x5, y1, y5⟩ := comL_mem ho
    have hw := mul55 x5 y5
    obtain ⟨q, hq⟩ : ∃ q, q = p.1 * p.2 := ⟨_, rfl⟩
    obtain rfl : R = (q : Int) := by rw [hR, comArea, ho, hq]; rfl
    rw [← hq] at hw
    rw [ho] at HC
    obtain ⟨pa, hpa⟩ : ∃ k, k = p1 (some p) := ⟨_, rfl⟩
    obtain ⟨pb, hpb⟩ : ∃ k, k = p2 (some p) := ⟨_, rfl⟩
    rw [← hpa, ← hpb] at HC
    obtain rfl : pa = p.1 := hpa
    obtain rfl : pb = p.2 := hpb
    clear hR ho hq
    go_enter Tryz.func11, Tryz.ntmps11
    go_wp2_with fail
    refine (HC.out).mono ?_
    rintro e w1 ⟨rfl, b1⟩
    go_wp2
    go_ret
    exact ⟨rfl, b1⟩
set_option maxRecDepth 100000 in
set_option maxHeartbeats 400000 in
theorem spec_comArea_c {va vb : Value} {a b : List Cell} (w : World) (ha : CellsRd w 0 w.heap.size va a) (hb : CellsRd w 0 w.heap.size vb b) (hla : a.length ≤ 1048576) (hlb : b.length ≤ 1048576)  :
    Calls Tryz.prog 12 #[va, vb] w fun e w' => e = .returned (.int .i64 (comArea a b)) ∧ Below w.heap.size w w' := by
  have HC := Lib.hid (spec_comRect_c w ha hb hla hlb )
  obtain ⟨A1, c1, rfl, _, _⟩ := ha
  obtain ⟨A2, c2, rfl, _, _⟩ := hb
  obtain ⟨R, hR⟩ : ∃ R, R = comArea a b := ⟨_, rfl⟩
  rw [← hR]
  cases ho : comL a b with
  | none =>
    obtain rfl : R = -1 := by rw [hR, comArea, ho]; rfl
    rw [ho] at HC
    clear hR ho
    go_enter Tryz.func12, Tryz.ntmps12
    go_wp2_with fail
    refine (HC.out).mono ?_
    rintro e w1 ⟨rfl, b1⟩
    go_wp2
    go_ret
    exact ⟨rfl, b1⟩
  | some p =>
    obtain ⟨x1, x5, y1, y5⟩ := comL_mem ho
    have hw := mul55 x5 y5
    obtain ⟨q, hq⟩ : ∃ q, q = p.1 * p.2 := ⟨_, rfl⟩
    obtain rfl : R = (q : Int) := by rw [hR, comArea, ho, hq]; rfl
    rw [← hq] at hw
    rw [ho] at HC
    obtain ⟨pa, hpa⟩ : ∃ k, k = p1 (some p) := ⟨_, rfl⟩
    obtain ⟨pb, hpb⟩ : ∃ k, k = p2 (some p) := ⟨_, rfl⟩
    rw [← hpa, ← hpb] at HC
    obtain rfl : pa = p.1 := hpa
    obtain rfl : pb = p.2 := hpb
    clear hR ho hq
    go_enter Tryz.func12, Tryz.ntmps12
    go_wp2_with fail
    refine (HC.out).mono ?_
    rintro e w1 ⟨rfl, b1⟩
    go_wp2
    go_ret
    exact ⟨rfl, b1⟩
end Go.Proofs.YtfildenelgbmlaaGreatDoor

namespace Go.Proofs.YtfildenelgbmlaaGreatDoor
open Go.RowKit

def tilX (a b s : List Cell) : List Int := match comL a b with
  | none => []
  | some p => nl (findL (rectR p.1 p.2) [s])
theorem tilX_no {a b s : List Cell} (h : comL a b = none) : tilX a b s = [] := by rw [tilX, h]
theorem tilX_yes {a b s : List Cell} {p : Nat × Nat} (h : comL a b = some p) : tilX a b s = nl (findL (rectR p.1 p.2) [s]) := by rw [tilX, h]
set_option maxRecDepth 100000 in
set_option maxHeartbeats 800000 in
theorem impl_comTil_c {va vb : Value} {a b : List Cell} (w : World) (ha : CellsRd w 0 w.heap.size va a) (hb : CellsRd w 0 w.heap.size vb b) (hla : a.length ≤ 1048576) (hlb : b.length ≤ 1048576) (ht : Tab64 w) :
    Calls Tryz.prog 13 #[va, vb] w fun e w' => ∃ (x y : Value) (m : Nat), e = .returned (.tuple #[x, y, .bool (comL a b).isSome]) ∧ IntsIn w' w.heap.size m x (tilX a b a) ∧ IntsIn w' m w'.heap.size y (tilX a b b) ∧ (w.heap.size ≤ m ∧ m ≤ w'.heap.size) ∧ Below w.heap.size w w' := by
  have HC := Lib.hid (impl_comRect_c w ha hb hla hlb ht)
  cases ho : comL a b with
  | none =>
    rw [tilX_no ho, tilX_no ho]
    rw [ho] at HC
    obtain ⟨A1, c1, rfl, _, _⟩ := ha
    obtain ⟨A2, c2, rfl, _, _⟩ := hb
    clear ho
    go_enter Tryz.func13, Tryz.ntmps13
    go_wp2_with fail
    refine (HC.out).mono ?_
    rintro e w1 ⟨rfl, b1⟩
    go_wp2
    exact bodyPost_ret (results_tmp3 rfl _ _ _) rfl ⟨_, _, w1.heap.size, rfl, IntsIn.nil, IntsIn.nil, ⟨b1.size, Nat.le_refl _⟩, b1⟩
  | some p =>
    obtain ⟨x1, x5, y1, y5⟩ := comL_mem ho
    have HFA : Hid (∀ (w1 : World) (g : Nat) (A : Option Addr) (c : Nat), Below w.heap.size w w1 → RegRd w1 0 w1.heap.size (.agg #[.int .i64 (p.1 : Int), .slice A p.2 c]) (rectR p.1 p.2) → Blk w1 g 24 #[va] → Calls Tryz.prog 62 #[.agg #[.int .i64 (p.1 : Int), .slice A p.2 c], .slice (some ⟨g, 0, none⟩) 1 1] w1 fun e w' => ∃ v', e = .returned (.tuple #[v', .bool (findB (rectR p.1 p.2) [a])]) ∧ IntsIn w' w1.heap.size w'.heap.size v' (tilX a b a) ∧ Below w1.heap.size w1 w') := Lib.hid fun w1 g A c b1 hr hbk => by
      rw [tilX_yes ho]
      exact impl_find_c w1 hr (one_ssRd hbk (cells_keep ha b1)) (by show 1 ≤ 1048576; omega) (fun t ht => by rw [List.mem_singleton] at ht; rw [ht]; exact hla) (tab64_on ht b1)
    have HFB : Hid (∀ (w1 : World) (g : Nat) (A : Option Addr) (c : Nat), Below w.heap.size w w1 → RegRd w1 0 w1.heap.size (.agg #[.int .i64 (p.1 : Int), .slice A p.2 c]) (rectR p.1 p.2) → Blk w1 g 24 #[vb] → Calls Tryz.prog 62 #[.agg #[.int .i64 (p.1 : Int), .slice A p.2 c], .slice (some ⟨g, 0, none⟩) 1 1] w1 fun e w' => ∃ v', e = .returned (.tuple #[v', .bool (findB (rectR p.1 p.2) [b])]) ∧ IntsIn w' w1.heap.size w'.heap.size v' (tilX a b b) ∧ Below w1.heap.size w1 w') := Lib.hid fun w1 g A c b1 hr hbk => by
      rw [tilX_yes ho]
      exact impl_find_c w1 hr (one_ssRd hbk (cells_keep hb b1)) (by show 1 ≤ 1048576; omega) (fun t ht => by rw [List.mem_singleton] at ht; rw [ht]; exact hlb) (tab64_on ht b1)
    have HRC : Hid (∀ w1 : World, Calls Tryz.prog 61 #[.int .i64 (p.1 : Int), .int .i64 (p.2 : Int)] w1 fun e w' => ∃ A c, e = .returned (.tuple #[.agg #[.int .i64 (p.1 : Int), .slice A p.2 c], .bool true]) ∧ OI w' w1.heap.size w'.heap.size 3 1 (.slice A p.2 c) p.2 (ic (List.replicate p.2 (2 ^ p.1 - 1))) ∧ Below w1.heap.size w1 w') := Lib.hid fun w1 => rectI_c p.1 p.2 w1 ⟨x1, by omega⟩ ⟨y1, by omega⟩
    obtain ⟨X, hX⟩ : ∃ X, X = tilX a b a := ⟨_, rfl⟩
    obtain ⟨Y, hY⟩ : ∃ Y, Y = tilX a b b := ⟨_, rfl⟩
    obtain ⟨BA, hBA⟩ : ∃ X, X = findB (rectR p.1 p.2) [a] := ⟨_, rfl⟩
    obtain ⟨BB, hBB⟩ : ∃ X, X = findB (rectR p.1 p.2) [b] := ⟨_, rfl⟩
    rw [← hX] at HFA ⊢
    rw [← hY] at HFB ⊢
    rw [← hBA] at HFA
    rw [← hBB] at HFB
    rw [ho] at HC
    obtain ⟨pa, hpa⟩ : ∃ k, k = p1 (some p) := ⟨_, rfl⟩
    obtain ⟨pb, hpb⟩ : ∃ k, k = p2 (some p) := ⟨_, rfl⟩
    rw [← hpa, ← hpb] at HC
    obtain rfl : pa = p.1 := hpa
    obtain rfl : pb = p.2 := hpb
    obtain ⟨A1, c1, rfl, _, _⟩ := ha
    obtain ⟨A2, c2, rfl, _, _⟩ := hb
    clear hX hY hBA hBB ho ht
    go_enter Tryz.func13, Tryz.ntmps13
    go_wp2_with fail
    refine (HC.out).mono ?_
    rintro e w1 ⟨rfl, b1⟩
    have H1 := (Sep.start w).step b1
    clear b1 HC
    go_wp2_with fail
    refine (HRC.out w1).mono ?_
    rintro e w2 ⟨A, c, rfl, o2, b2⟩
    have H2 := (H1.oiNew b2 o2).box 36 #[.int .i64 p.1, .slice A p.2 c]
    clear o2 b2 H1 HRC
    have H3 := H2.box 24 #[.slice A1 a.length c1]
    simp only [World.size_alloc] at H3
    have HC2 := Lib.hid (HFA.out _ _ A c H3.below (rect_rd H3.h2) H3.h0)
    clear HFA H2
    go_wp2_with fail
    refine (HC2.out).mono ?_
    rintro e w3 ⟨x, rfl, o3, b3⟩
    have H4 := H3.drop.oiNew b3 o3
    have O3 := Lib.hid (OI.base o3 H3.below.size (Nat.le_refl _))
    have HS3 : Hid (w.heap.size ≤ w3.heap.size) := Lib.hid (Nat.le_trans H3.below.size b3.size)
    clear HC2 o3 b3 H3
    have c0 : w3.cell? ⟨w2.heap.size, 0, none⟩ = some (.int .i64 p.1) := H4.h1.cell 0
    have c1' : w3.cell? ⟨w2.heap.size, 1, none⟩ = some (.slice A p.2 c) := H4.h1.cell 1
    have H5 := H4.box 24 #[.slice A2 b.length c2]
    have HC3 := Lib.hid (HFB.out _ _ A c H5.below (rect_rd H5.h3) H5.h0)
    obtain ⟨Ax, cx, rfl, _, _, _⟩ := Res.row_at H4.h0
    clear HFB H4
    go_wp2_with fail
    refine (HC3.out).mono ?_
    rintro e w4 ⟨y, rfl, o4, b4⟩
    have H6 := H5.drop.oiNew b4 o4
    have B34 : Below w3.heap.size w3 w4 := ((Below.refl w3.heap.size w3).alloc (Nat.le_refl _) _).trans (b4.mono (by simp))
    have O4 := Lib.hid (OI.base (lo' := w3.heap.size) (hi' := w4.heap.size) o4 (by simp) (Nat.le_refl _))
    have O5 := Lib.hid (OI.keep O3.out (SameIn.of_below B34 (Nat.le_refl _)))
    have HS4 := Lib.hid B34.size
    obtain ⟨Ay, cy, rfl, _, _, _⟩ := Res.row_at H6.h0
    clear HC3 o4 b4 H5 c0 c1' B34 O3
    go_wp2
    exact bodyPost_ret (results_tmp3 rfl _ _ _) rfl ⟨_, _, w3.heap.size, rfl, O5.out, O4.out, ⟨HS3.out, HS4.out⟩, H6.below⟩
set_option maxRecDepth 100000 in
set_option maxHeartbeats 800000 in
theorem spec_comTil_c {va vb : Value} {a b : List Cell} (w : World) (ha : CellsRd w 0 w.heap.size va a) (hb : CellsRd w 0 w.heap.size vb b) (hla : a.length ≤ 1048576) (hlb : b.length ≤ 1048576)  :
    Calls Tryz.prog 14 #[va, vb] w fun e w' => ∃ (x y : Value) (m : Nat), e = .returned (.tuple #[x, y, .bool (comL a b).isSome]) ∧ IntsIn w' w.heap.size m x (tilX a b a) ∧ IntsIn w' m w'.heap.size y (tilX a b b) ∧ (w.heap.size ≤ m ∧ m ≤ w'.heap.size) ∧ Below w.heap.size w w' := by
  have HC := Lib.hid (spec_comRect_c w ha hb hla hlb )
  cases ho : comL a b with
  | none =>
    rw [tilX_no ho, tilX_no ho]
    rw [ho] at HC
    obtain ⟨A1, c1, rfl, _, _⟩ := ha
    obtain ⟨A2, c2, rfl, _, _⟩ := hb
    clear ho
    go_enter Tryz.func14, Tryz.ntmps14
    go_wp2_with fail
    refine (HC.out).mono ?_
    rintro e w1 ⟨rfl, b1⟩
    have H1 := (((Sep.start w).step b1).rowBox 3 #[] 1 0 rfl (by decide)).rowBox 3 #[] 1 0 rfl (by decide)
    simp only [World.size_alloc] at H1
    have IN1 : IntsIn ((w1.alloc (.cells #[] 3)).alloc (.cells #[] 3)) w.heap.size (w1.heap.size + 1) (.slice (some ⟨w1.heap.size, 0, none⟩) 0 0) [] := OI.of_blk ((Blk.new w1 3 #[]).alloc _) b1.size (Nat.lt_succ_self _) (Nat.le_refl _) (Nat.zero_le _) rfl rfl
    have IN2 : IntsIn ((w1.alloc (.cells #[] 3)).alloc (.cells #[] 3)) (w1.heap.size + 1) ((w1.alloc (.cells #[] 3)).alloc (.cells #[] 3)).heap.size (.slice (some ⟨w1.heap.size + 1, 0, none⟩) 0 0) [] := OI.of_blk (by have := Blk.new (w1.alloc (.cells #[] 3)) 3 #[]; simpa using this) (Nat.le_refl _) (by simp) (Nat.le_refl _) (Nat.zero_le _) rfl rfl
    go_wp2
    exact bodyPost_ret (results_tmp3 rfl _ _ _) rfl ⟨_, _, w1.heap.size + 1, rfl, IN1, IN2, ⟨Nat.le_succ_of_le b1.size, by simp⟩, H1.below⟩
  | some p =>
    obtain ⟨x1, x5, y1, y5⟩ := comL_mem ho
    have HFA : Hid (∀ (w1 : World) (g : Nat) (A : Option Addr) (c : Nat), Below w.heap.size w w1 → RegRd w1 0 w1.heap.size (.agg #[.int .i64 (p.1 : Int), .slice A p.2 c]) (rectR p.1 p.2) → Blk w1 g 24 #[va] → Calls Tryz.prog 63 #[.agg #[.int .i64 (p.1 : Int), .slice A p.2 c], .slice (some ⟨g, 0, none⟩) 1 1] w1 fun e w' => ∃ v', e = .returned (.tuple #[v', .bool (findB (rectR p.1 p.2) [a])]) ∧ IntsIn w' w1.heap.size w'.heap.size v' (tilX a b a) ∧ Below w1.heap.size w1 w') := Lib.hid fun w1 g A c b1 hr hbk => by
      rw [tilX_yes ho]
      exact spec_find_c w1 hr (one_ssRd hbk (cells_keep ha b1)) (by show 1 ≤ 1048576; omega) (fun t ht => by rw [List.mem_singleton] at ht; rw [ht]; exact hla) 
    have HFB : Hid (∀ (w1 : World) (g : Nat) (A : Option Addr) (c : Nat), Below w.heap.size w w1 → RegRd w1 0 w1.heap.size (.agg #[.int .i64 (p.1 : Int), .slice A p.2 c]) (rectR p.1 p.2) → Blk w1 g 24 #[vb] → Calls Tryz.prog 63 #[.agg #[.int .i64 (p.1 : Int), .slice A p.2 c], .slice (some ⟨g, 0, none⟩) 1 1] w1 fun e w' => ∃ v', e = .returned (.tuple #[v', .bool (findB (rectR p.1 p.2) [b])]) ∧ IntsIn w' w1.heap.size w'.heap.size v' (tilX a b b) ∧ Below w1.heap.size w1 w') := Lib.hid fun w1 g A c b1 hr hbk => by
      rw [tilX_yes ho]
      exact spec_find_c w1 hr (one_ssRd hbk (cells_keep hb b1)) (by show 1 ≤ 1048576; omega) (fun t ht => by rw [List.mem_singleton] at ht; rw [ht]; exact hlb) 
    have HRC : Hid (∀ w1 : World, Calls Tryz.prog 16 #[.int .i64 (p.1 : Int), .int .i64 (p.2 : Int)] w1 fun e w' => ∃ A c, e = .returned (.tuple #[.agg #[.int .i64 (p.1 : Int), .slice A p.2 c], .bool true]) ∧ OI w' w1.heap.size w'.heap.size 3 1 (.slice A p.2 c) p.2 (ic (List.replicate p.2 (2 ^ p.1 - 1))) ∧ Below w1.heap.size w1 w') := Lib.hid fun w1 => rect_c p.1 p.2 w1 ⟨x1, by omega⟩ ⟨y1, by omega⟩
    obtain ⟨X, hX⟩ : ∃ X, X = tilX a b a := ⟨_, rfl⟩
    obtain ⟨Y, hY⟩ : ∃ Y, Y = tilX a b b := ⟨_, rfl⟩
    obtain ⟨BA, hBA⟩ : ∃ X, X = findB (rectR p.1 p.2) [a] := ⟨_, rfl⟩
    obtain ⟨BB, hBB⟩ : ∃ X, X = findB (rectR p.1 p.2) [b] := ⟨_, rfl⟩
    rw [← hX] at HFA ⊢
    rw [← hY] at HFB ⊢
    rw [← hBA] at HFA
    rw [← hBB] at HFB
    rw [ho] at HC
    obtain ⟨pa, hpa⟩ : ∃ k, k = p1 (some p) := ⟨_, rfl⟩
    obtain ⟨pb, hpb⟩ : ∃ k, k = p2 (some p) := ⟨_, rfl⟩
    rw [← hpa, ← hpb] at HC
    obtain rfl : pa = p.1 := hpa
    obtain rfl : pb = p.2 := hpb
    obtain ⟨A1, c1, rfl, _, _⟩ := ha
    obtain ⟨A2, c2, rfl, _, _⟩ := hb
    clear hX hY hBA hBB ho 
    go_enter Tryz.func14, Tryz.ntmps14
    go_wp2_with fail
    refine (HC.out).mono ?_
    rintro e w1 ⟨rfl, b1⟩
    have H1 := (Sep.start w).step b1
    clear b1 HC
    go_wp2_with fail
    refine (HRC.out w1).mono ?_
    rintro e w2 ⟨A, c, rfl, o2, b2⟩
    have H2 := (H1.oiNew b2 o2).box 36 #[.int .i64 p.1, .slice A p.2 c]
    clear o2 b2 H1 HRC
    have H3 := H2.box 24 #[.slice A1 a.length c1]
    simp only [World.size_alloc] at H3
    have HC2 := Lib.hid (HFA.out _ _ A c H3.below (rect_rd H3.h2) H3.h0)
    clear HFA H2
    go_wp2_with fail
    refine (HC2.out).mono ?_
    rintro e w3 ⟨x, rfl, o3, b3⟩
    have H4 := H3.drop.oiNew b3 o3
    have O3 := Lib.hid (OI.base o3 H3.below.size (Nat.le_refl _))
    have HS3 : Hid (w.heap.size ≤ w3.heap.size) := Lib.hid (Nat.le_trans H3.below.size b3.size)
    clear HC2 o3 b3 H3
    have c0 : w3.cell? ⟨w2.heap.size, 0, none⟩ = some (.int .i64 p.1) := H4.h1.cell 0
    have c1' : w3.cell? ⟨w2.heap.size, 1, none⟩ = some (.slice A p.2 c) := H4.h1.cell 1
    have H5 := H4.box 24 #[.slice A2 b.length c2]
    have HC3 := Lib.hid (HFB.out _ _ A c H5.below (rect_rd H5.h3) H5.h0)
    obtain ⟨Ax, cx, rfl, _, _, _⟩ := Res.row_at H4.h0
    clear HFB H4
    go_wp2_with fail
    refine (HC3.out).mono ?_
    rintro e w4 ⟨y, rfl, o4, b4⟩
    have H6 := H5.drop.oiNew b4 o4
    have B34 : Below w3.heap.size w3 w4 := ((Below.refl w3.heap.size w3).alloc (Nat.le_refl _) _).trans (b4.mono (by simp))
    have O4 := Lib.hid (OI.base (lo' := w3.heap.size) (hi' := w4.heap.size) o4 (by simp) (Nat.le_refl _))
    have O5 := Lib.hid (OI.keep O3.out (SameIn.of_below B34 (Nat.le_refl _)))
    have HS4 := Lib.hid B34.size
    obtain ⟨Ay, cy, rfl, _, _, _⟩ := Res.row_at H6.h0
    clear HC3 o4 b4 H5 c0 c1' B34 O3
    go_wp2
    exact bodyPost_ret (results_tmp3 rfl _ _ _) rfl ⟨_, _, w3.heap.size, rfl, O5.out, O4.out, ⟨HS3.out, HS4.out⟩, H6.below⟩
end Go.Proofs.YtfildenelgbmlaaGreatDoor

namespace Go.Proofs.YtfildenelgbmlaaGreatDoor
open Go.RowKit

/-- are the rest masks of placements, apart from what is used, in the order of their least bits, and have they all cells with it? -/
def isCov (A : List Int) (M : Nat) : Option Nat → Nat → List Int → Bool
  | _, u, [] => u == M
  | p, u, n :: t => hasI A n && ((u &&& n.toNat == 0) && ((match p with
    | none => true
    | some q => decide (q < lowB n.toNat)) && isCov A M (some (lowB n.toNat)) (u ||| n.toNat) t))
theorem disj_of {u m f : Nat} (h : u &&& f = 0) (hm : m &&& f = m) : u &&& m = 0 := by
  rw [← hm, ← Nat.and_assoc, Nat.and_comm u m, Nat.and_assoc, h, Nat.and_zero]
theorem fit_low {f m : Nat} (hf : f < 2 ^ 36) (h0 : f ≠ 0) (h : fitB f m = true) : lowB m = lowB f ∧ (f - m ≠ 0 → lowB f < lowB (f - m)) := by
  have hle := fit_le h
  have hand := fit_and h
  have hbit : m.testBit (lowB f) = true := by unfold fitB at h; simp only [Bool.and_eq_true] at h; exact h.1
  obtain ⟨b1, b2⟩ := lowB_bits h0 hf
  refine ⟨lowB_is (fitB_pos h) (by omega) hbit fun j hj => ?_, fun hne => ?_⟩
  · have : (m &&& f).testBit j = m.testBit j := by rw [hand]
    rw [Nat.testBit_and, b2 j hj, Bool.and_false] at this
    exact this.symm
  · obtain ⟨c1, c2⟩ := lowB_bits hne (by omega)
    rw [sub_test hand (by omega)] at c1
    rw [Bool.and_eq_true] at c1
    rcases Nat.lt_trichotomy (lowB f) (lowB (f - m)) with q | q | q
    · exact q
    · rw [← q, hbit] at c1; simp at c1
    · rw [b2 _ q] at c1; simp at c1
theorem or_rest {u f m : Nat} (hf : f < 2 ^ 64) (h : m &&& f = m) : (u ||| m) ||| (f - m) = u ||| f := by
  apply Nat.eq_of_testBit_eq
  intro i
  rw [Nat.testBit_or, Nat.testBit_or, Nat.testBit_or, sub_test h hf]
  have : (m &&& f).testBit i = m.testBit i := by rw [h]
  rw [Nat.testBit_and] at this
  revert this
  cases u.testBit i <;> cases f.testBit i <;> cases m.testBit i <;> simp
theorem disj_rest {u f m : Nat} (hf : f < 2 ^ 64) (h : m &&& f = m) (hu : u &&& f = 0) : (u ||| m) &&& (f - m) = 0 := by
  apply Nat.eq_of_testBit_eq
  intro i
  rw [Nat.testBit_and, Nat.testBit_or, sub_test h hf, Nat.zero_testBit]
  have h1 : (u &&& f).testBit i = false := by rw [hu, Nat.zero_testBit]
  rw [Nat.testBit_and] at h1
  revert h1
  cases u.testBit i <;> cases f.testBit i <;> cases m.testBit i <;> simp
/-- a tiling of the search is a tiling -/
theorem til_isCov {A : List Nat} {M : Nat} : ∀ (f : Nat), f < 2 ^ 36 → ∀ (u : Nat) (p : Option Nat) (t : List Nat), t ∈ til A f → u &&& f = 0 → u ||| f = M → (∀ q, p = some q → f ≠ 0 → q < lowB f) → isCov (nl A) M p u (nl t) = true := by
  intro f
  induction f using Nat.strongRecOn with
  | _ f ih =>
    intro hf u p t ht hu hM hp
    by_cases h0 : f = 0
    · subst h0
      rw [til_zero] at ht
      simp at ht
      subst ht
      rw [Nat.or_zero] at hM
      show (u == M) = true
      simpa using hM
    · rw [til_pos h0] at ht
      obtain ⟨m, hmA, ht⟩ := List.mem_flatMap.1 ht
      unfold tilAt at ht
      cases hfit : fitB f m
      · rw [hfit] at ht; simp at ht
      · rw [hfit, if_pos rfl] at ht
        obtain ⟨t', ht', rfl⟩ := List.mem_map.1 ht
        have hl := fit_low hf h0 hfit
        have hand := fit_and hfit
        show isCov (nl A) M p u ((m : Int) :: nl t') = true
        unfold isCov
        rw [Int.toNat_natCast, disj_of hu hand]
        have h1 : hasI (nl A) (m : Int) = true := decide_eq_true (List.mem_map.2 ⟨m, hmA, rfl⟩)
        rw [h1, ih (f - m) (fit_lt hfit) (by omega) _ _ t' ht' (disj_rest (by omega) hand hu) (by rw [or_rest (by omega) hand]; exact hM) (fun q hq hne => by injection hq with hq; rw [← hq, hl.1]; exact hl.2 hne)]
        cases p with
        | none => rfl
        | some q =>
          have := hp q rfl h0
          simp [hl.1, this]
theorem til_cover {A : List Nat} {M : Nat} (hM : M < 2 ^ 36) {t : List Nat} (h : t ∈ til A M) : isCov (nl A) M none 0 (nl t) = true :=
  til_isCov M hM 0 none t h (Nat.zero_and _) (Nat.zero_or _) (fun _ h => by cases h)
/-! the loop of both sides -/
theorem isCov_end {A : List Int} {M u : Nat} {p : Option Nat} {t : List Int} {i : Nat} (h : i = t.length) : isCov A M p u (t.drop i) = (u == M) := by
  rw [h, List.drop_length]; cases p <;> rfl
theorem dropI {t : List Int} {i : Nat} {n : Int} (h : t[i]? = some n) : t.drop i = n :: t.drop (i + 1) := by
  obtain ⟨h1, h2⟩ := List.getElem?_eq_some_iff.1 h
  rw [List.drop_eq_getElem_cons h1, h2]
theorem isCov_none {A : List Int} {M u : Nat} {n : Int} {t : List Int} : isCov A M none u (n :: t) = (hasI A n && ((u &&& n.toNat == 0) && isCov A M (some (lowB n.toNat)) (u ||| n.toNat) t)) := by
  conv => lhs; unfold isCov
  simp
theorem isCov_some {A : List Int} {M u q : Nat} {n : Int} {t : List Int} : isCov A M (some q) u (n :: t) = (hasI A n && ((u &&& n.toNat == 0) && (decide (q < lowB n.toNat) && isCov A M (some (lowB n.toNat)) (u ||| n.toNat) t))) := by
  conv => lhs; unfold isCov
theorem isCov_no {A : List Int} {M u : Nat} {p : Option Nat} {t : List Int} {i : Nat} {n : Int} (h : t[i]? = some n) (hb : hasI A n = false ∨ u &&& n.toNat ≠ 0 ∨ ∃ q, p = some q ∧ lowB n.toNat ≤ q) : isCov A M p u (t.drop i) = false := by
  rw [dropI h]
  rcases hb with hb | hb | ⟨q, rfl, hb⟩
  · cases p with
    | none => rw [isCov_none, hb]; rfl
    | some q => rw [isCov_some, hb]; rfl
  · have e : (u &&& n.toNat == 0) = false := by simpa using hb
    cases p with
    | none => rw [isCov_none, e]; simp
    | some q => rw [isCov_some, e]; simp
  · rw [isCov_some, show decide (q < lowB n.toNat) = false by simp; omega]; simp
theorem isCov_yes {A : List Int} {M u : Nat} {p : Option Nat} {t : List Int} {i : Nat} {n : Int} (h : t[i]? = some n) (h1 : hasI A n = true) (h2 : u &&& n.toNat = 0) (h3 : ∀ q, p = some q → q < lowB n.toNat) : isCov A M p u (t.drop i) = isCov A M (some (lowB n.toNat)) (u ||| n.toNat) (t.drop (i + 1)) := by
  have e : (u &&& n.toNat == 0) = true := by simpa using h2
  rw [dropI h]
  cases p with
  | none => rw [isCov_none, h1, e]; simp
  | some q => rw [isCov_some, h1, e, decide_eq_true (h3 q rfl)]; simp
end Go.Proofs.YtfildenelgbmlaaGreatDoor

namespace Go.Proofs.YtfildenelgbmlaaGreatDoor
open Go.RowKit

/-- the least bit of the mask before number i -/
def prevL (t : List Int) (i : Nat) : Option Nat := if i = 0 then none else some (lowB (t.getD (i - 1) 0).toNat)
theorem prevL_zero {t : List Int} : prevL t 0 = none := rfl
theorem prevL_succ {t : List Int} {i : Nat} {n : Int} (h : t[i]? = some n) : prevL t (i + 1) = some (lowB n.toNat) := by
  unfold prevL
  rw [if_neg (by omega), Nat.add_sub_cancel, List.getD_eq_getElem?_getD, h]; rfl
/-- the mask before number i is one of cells that are used -/
def PrevOk (t : List Int) (i u : Nat) : Prop := ∀ (p : Nat) (y : Int), i = p + 1 → t[p]? = some y → ∃ m : Nat, y = (m : Int) ∧ m < 2 ^ 36 ∧ 0 < m ∧ u.testBit (lowB m) = true
theorem hasI_nl {A : List Nat} {n : Int} (h : hasI (nl A) n = true) : ∃ m : Nat, n = (m : Int) ∧ m ∈ A := by
  have := of_decide_eq_true h
  obtain ⟨m, h1, h2⟩ := List.mem_map.1 this
  exact ⟨m, h2.symm, h1⟩
theorem low_apart {u q m : Nat} (h0 : m ≠ 0) (hm : m < 2 ^ 36) (hq : u.testBit q = true) (hu : u &&& m = 0) : q ≠ lowB m := by
  intro e
  have h1 := (lowB_bits h0 hm).1
  rw [← e] at h1
  have h2 : (u &&& m).testBit q = false := by rw [hu, Nat.zero_testBit]
  rw [Nat.testBit_and, hq, h1] at h2
  cases h2
set_option maxRecDepth 100000 in
set_option maxHeartbeats 3200000 in
theorem impl_isCover_c {v vt : Value} {A : List Nat} {M : Nat} {t : List Int} (w : World) (h : IntsRd w 0 w.heap.size v (nl A)) (h2 : IntsRd w 0 w.heap.size vt t) (hA : ∀ m ∈ A, m < 2 ^ 36 ∧ 0 < m) (hl : A.length ≤ 1000000) (hM : M < 2 ^ 36) (ht : Tab64 w) :
    Calls Tryz.prog 66 #[v, .int .i64 M, vt] w fun e w' => e = .returned (.bool (isCov (nl A) M none 0 t)) ∧ w = w' := by
  obtain ⟨R, hR⟩ : ∃ R, R = isCov (nl A) M none 0 t := ⟨_, rfl⟩
  rw [← hR]
  have HR0 : Hid (R = isCov (nl A) M (prevL t 0) 0 (t.drop 0)) := Lib.hid hR
  have HRD := Lib.hid h
  have HR2 := Lib.hid h2
  have HA := Lib.hid hA
  have HT := Lib.hid ht
  have hM36 : M < 68719476736 := hM
  obtain ⟨Av, cv, rfl, _, _⟩ := id h
  obtain ⟨At, ct, rfl, hmt, _⟩ := id h2
  have hal : (nl A).length ≤ 1048576 := by simp [nl]; omega
  have HI : Hid (∀ x : Int, Calls Tryz.prog 115 #[.slice Av (nl A).length cv, .int .i64 x] w fun e w' => e = .returned (.bool (hasI (nl A) x)) ∧ w = w') := Lib.hid fun x => impl_hasI_c w h hal
  obtain ⟨n, hn⟩ : ∃ n, n = t.length := ⟨_, rfl⟩
  have hn63 : n ≤ 9223372036854775807 := by unfold maxLen at hmt; omega
  rw [← hn] at HR2 ⊢
  have HN := Lib.hid hn
  generalize (nl A).length = la at *
  clear hR h h2 hA ht hn hal hmt hl
  go_enter Tryz.func66, Tryz.ntmps66
  go_wp2
  go_loopw [7, 12] (fun uv iv wx => ∃ i u : Nat, i ≤ n ∧ iv = .int .i64 i ∧ uv = .int .i64 u ∧ u < 68719476736 ∧ Hid (R = isCov (nl A) M (prevL t i) u (t.drop i)) ∧ Hid (PrevOk t i u) ∧ w = wx) (fun _ iv _ => n - (intOf iv).toNat)
  case atStart => exact ⟨0, 0, Nat.zero_le _, rfl, rfl, by decide, HR0, Lib.hid (fun p y hp => by omega), rfl⟩
  case round =>
    obtain ⟨i, u, hin, rfl, rfl, hu36, HC, HP, rfl⟩ := hrel
    by_cases hlt : i < n
    · have hlti : (i : Int) < (n : Int) := by omega
      obtain ⟨x, hx⟩ : ∃ x, t[i]? = some x := ⟨t[i]'(by rw [← HN.out]; exact hlt), List.getElem?_eq_getElem _⟩
      obtain ⟨b, off, hA1, hb, y0⟩ := ints_atZ HR2.out hx
      subst hA1
      have HX := Lib.hid hx
      have HIX := Lib.hid (HI.out x)
      cases hh : hasI (nl A) x
      · rw [hh] at HIX
        obtain rfl : R = false := by rw [HC.out]; exact isCov_no hx (.inl hh)
        clear hx hh
        go_wp2_with fail
        refine (HIX.out).mono ?_
        rintro e w1 ⟨rfl, rfl⟩
        go_wp2
        go_ret
        exact ⟨rfl, rfl⟩
      rw [hh] at HIX
      have HHH := Lib.hid hh
      obtain ⟨m, rfl, hmA⟩ := hasI_nl hh
      obtain ⟨hm36', hm0⟩ := HA.out m hmA
      have hm36 : m < 68719476736 := hm36'
      have hand := i64_and_nat u m (by omega) (by omega)
      obtain ⟨a, ha⟩ : ∃ a, a = u &&& m := ⟨_, rfl⟩
      rw [← ha] at hand
      have HAA := Lib.hid ha
      clear hx hh hmA ha hm36'
      by_cases hz : a = 0
      · subst hz
        have hz1 : (((0 : Nat) : Int) != 0) = false := rfl
        have hor := i64_or_nat u m (by omega) (by omega)
        obtain ⟨u2, hu2⟩ : ∃ u2, u2 = u ||| m := ⟨_, rfl⟩
        rw [← hu2] at hor
        have hu236 : u2 < 68719476736 := by rw [hu2]; exact Nat.or_lt_two_pow (n := 36) hu36 hm36
        have HP2 : Hid (PrevOk t (i + 1) u2) := Lib.hid (fun p y hp hy => by
          obtain rfl : p = i := by omega
          rw [HX.out] at hy
          injection hy with hy
          refine ⟨m, hy.symm, hm36, hm0, ?_⟩
          rw [hu2, Nat.testBit_or, (lowB_bits (by omega) hm36).1, Bool.or_true])
        have HYES : Hid ((∀ q, prevL t i = some q → q < lowB m) → R = isCov (nl A) M (prevL t (i + 1)) u2 (t.drop (i + 1))) := Lib.hid (fun hq => by
          rw [HC.out, isCov_yes HX.out HHH.out (by rw [Int.toNat_natCast]; exact HAA.out.symm) (by rw [Int.toNat_natCast]; exact hq), prevL_succ HX.out, hu2]
          rfl)
        clear hu2
        by_cases hi0 : i = 0
        · have hi0i : ¬ (0 : Int) < (i : Int) := by omega
          have hi0f : ((0 : Int) < (i : Int)) = False := eq_false hi0i
          have HC2 := Lib.hid (HYES.out (fun q hq => by rw [hi0, prevL_zero] at hq; cases hq))
          clear hi0
          go_wp2_with fail
          refine (HIX.out).mono ?_
          rintro e w1 ⟨rfl, rfl⟩
          go_wp2
          go_roundw
          case rel => exact ⟨i + 1, u2, by omega, by go_num, rfl, hu236, HC2, HP2, trivial⟩
          case measure => simp [intOf]; omega
        · obtain ⟨p, hp⟩ : ∃ p, i = p + 1 := ⟨i - 1, by omega⟩
          have hi0i : (0 : Int) < (i : Int) := by omega
          obtain ⟨y, hy⟩ : ∃ y, t[p]? = some y := ⟨t[p]'(by rw [← HN.out]; omega), List.getElem?_eq_getElem _⟩
          obtain ⟨k, rfl, hk36, hk0, hkb⟩ := HP.out p y hp hy
          obtain ⟨b', off', hA2, hb', y1⟩ := ints_atZ HR2.out hy
          injection hA2 with hA2
          injection hA2 with hA21 hA22
          subst hA21
          subst hA22
          have e5 : (i : Int) - 1 = (p : Int) := by omega
          have e6 : IntKind.i64.wrap ((i : Int) - 1) = (p : Int) := by rw [e5]; exact IntWalk.i64_in _ (by omega)
          have e7 : (p : Int) < (n : Int) := by omega
          have e8 : p < n := by omega
          have hne := low_apart (m := m) (by omega) hm36 hkb HAA.out.symm
          have HPL : Hid (prevL t i = some (lowB k)) := Lib.hid (by rw [hp, prevL_succ hy]; rfl)
          have HLK := Lib.hid (impl_low_c (m := k) w hk36 HT.out)
          have HLM := Lib.hid (impl_low_c (m := m) w hm36 HT.out)
          obtain ⟨q, hq⟩ : ∃ q, q = lowB k := ⟨_, rfl⟩
          obtain ⟨lm, hlm⟩ : ∃ l, l = lowB m := ⟨_, rfl⟩
          rw [← hq] at hne HPL HLK
          rw [← hlm] at hne HLM HYES
          have HLMM := Lib.hid hlm
          clear hq hlm hp hy hkb hk36 hk0 hb'
          by_cases hql : q < lm
          · have HC2 := Lib.hid (HYES.out (fun q' hq' => by rw [HPL.out] at hq'; injection hq' with hq'; omega))
            have c1 : ¬ (lm : Int) ≤ (q : Int) := by omega
            have c2 : ¬ (lm : Int) < (q : Int) := by omega
            clear HYES
            go_wp2_with (first
              | (with_reducible refine (HIX.out).mono ?_; rintro e w5 ⟨rfl, rfl⟩)
              | (with_reducible refine (HLK.out).mono ?_; rintro e w5 ⟨rfl, rfl⟩)
              | (with_reducible refine (HLM.out).mono ?_; rintro e w5 ⟨rfl, rfl⟩))
            go_roundw
            case rel => exact ⟨i + 1, u2, by omega, by go_num, rfl, hu236, HC2, HP2, trivial⟩
            case measure => simp [intOf]; omega
          · have c1 : (lm : Int) ≤ (q : Int) := by omega
            have c2 : (lm : Int) < (q : Int) := by omega
            obtain rfl : R = false := by rw [HC.out]; exact isCov_no HX.out (.inr (.inr ⟨q, HPL.out, by rw [Int.toNat_natCast, ← HLMM.out]; omega⟩))
            clear HYES
            go_wp2_with (first
              | (with_reducible refine (HIX.out).mono ?_; rintro e w5 ⟨rfl, rfl⟩)
              | (with_reducible refine (HLK.out).mono ?_; rintro e w5 ⟨rfl, rfl⟩)
              | (with_reducible refine (HLM.out).mono ?_; rintro e w5 ⟨rfl, rfl⟩))
            go_ret
            exact ⟨rfl, rfl⟩
      · have hz1 : ((a : Int) != 0) = true := by simp; omega
        obtain rfl : R = false := by rw [HC.out]; exact isCov_no HX.out (.inr (.inl (by rw [Int.toNat_natCast, ← HAA.out]; exact hz)))
        go_wp2_with fail
        refine (HIX.out).mono ?_
        rintro e w1 ⟨rfl, rfl⟩
        go_wp2
        go_ret
        exact ⟨rfl, rfl⟩
    · obtain rfl : n = i := by omega
      have HC2 : Hid (R = (u == M)) := Lib.hid (by rw [HC.out]; exact isCov_end HN.out)
      have hbe : ((u : Int) == (M : Int)) = (u == M) := by rw [Bool.eq_iff_iff]; simp only [beq_iff_eq]; omega
      obtain ⟨Z, hZ⟩ : ∃ Z, Z = (u == M) := ⟨_, rfl⟩
      rw [← hZ] at hbe
      obtain rfl : R = Z := HC2.out.trans hZ.symm
      clear hZ HC2 HC HR0
      go_wp2
      go_ret
      exact ⟨rfl, rfl⟩
/-- is it a tiling? -/
def tlgB (r : Reg) (ps : List (List Cell)) (t : List Int) : Bool := (r.valid && arePcs ps) && isCov (nl (allN r ps)) r.mask none 0 t
set_option maxRecDepth 100000 in
set_option maxHeartbeats 3200000 in
theorem impl_tlg_c {v v2 v3 : Value} {r : Reg} {ps : List (List Cell)} {t : List Int} (w : World) (h : RegRd w 0 w.heap.size v r) (h2 : CellSSRd w 0 w.heap.size v2 ps) (h3 : IntsRd w 0 w.heap.size v3 t) (hn : ps.length ≤ 1048576) (hl : ∀ s ∈ ps, s.length ≤ 1048576) (ht : Tab64 w) :
    Calls Tryz.prog 17 #[v, v2, v3] w fun e w' => e = .returned (.bool (tlgB r ps t)) ∧ Below w.heap.size w w' := by
  have HRD : Hid (∀ w1, Below w.heap.size w w1 → RegRd w1 0 w1.heap.size v r) := Lib.hid fun w1 b1 => (h.keep (SameIn.of_below b1 (Nat.le_refl _))).more (Nat.le_refl _) b1.size
  have HR2 : Hid (∀ w1, Below w.heap.size w w1 → CellSSRd w1 0 w1.heap.size v2 ps) := Lib.hid fun w1 b1 => (h2.keep (SameIn.of_below b1 (Nat.le_refl _))).more (Nat.le_refl _) b1.size
  have HR3 : Hid (∀ w1, Below w.heap.size w w1 → IntsRd w1 0 w1.heap.size v3 t) := Lib.hid fun w1 b1 => (h3.keep (SameIn.of_below b1 (Nat.le_refl _))).more (Nat.le_refl _) b1.size
  have HTB : Hid (∀ w1, Below w.heap.size w w1 → Tab64 w1) := Lib.hid fun w1 b1 => tab64_on ht b1
  obtain ⟨T, hT⟩ : ∃ T, T = tlgB r ps t := ⟨_, rfl⟩
  rw [← hT]
  have HT := Lib.hid hT
  obtain ⟨sr, rfl, hsr⟩ := h
  obtain ⟨A0, c, rfl, _, _⟩ := hsr
  obtain ⟨vs0, ⟨A2, c2, rfl, _, _⟩, _⟩ := h2
  obtain ⟨A3, c3, rfl, _, _⟩ := h3
  have H0 := (Sep.start w).box 36 #[.int .i64 r.w, .slice A0 r.rows.length c]
  obtain ⟨g, hg⟩ : ∃ g, g = w.heap.size := ⟨_, rfl⟩
  rw [← hg] at H0
  clear hT ht
  go_enter Tryz.func17, Tryz.ntmps17
  go_upto_region 1 with fail
  rw [← hg]
  generalize (w.alloc (.cells #[.int .i64 r.w, .slice A0 r.rows.length c] 36)) = W at *
  clear hg
  have c0 : W.cell? ⟨g, 0, none⟩ = some (.int .i64 r.w) := H0.h0.cell 0
  have c1 : W.cell? ⟨g, 1, none⟩ = some (.slice A0 r.rows.length c) := H0.h0.cell 1
  have hgl : g < W.heap.size := H0.h0.lt
  have HW : Hid (Below w.heap.size w W) := Lib.hid H0.below
  have HTR : Hid (∀ w', Below W.heap.size W w' → Below w.heap.size w w') := Lib.hid fun w' b => HW.out.trans (b.mono HW.out.size)
  have BB : Hid (∀ w', Below W.heap.size W w' → w'.cell? ⟨g, 0, none⟩ = some (.int .i64 r.w) ∧ w'.cell? ⟨g, 1, none⟩ = some (.slice A0 r.rows.length c)) := Lib.hid fun w' b => ⟨(b.cell (p := ⟨g, 0, none⟩) hgl).trans c0, (b.cell (p := ⟨g, 1, none⟩) hgl).trans c1⟩
  obtain ⟨K, hK⟩ : ∃ K, K = (r.valid && arePcs ps) := ⟨_, rfl⟩
  have HK := Lib.hid hK
  have HP : Hid (∀ w', Below W.heap.size W w' → Calls Tryz.prog 65 #[.agg #[.int .i64 r.w, .slice A0 r.rows.length c], .slice A2 ps.length c2] w' fun e w'' => e = .returned (.bool K) ∧ Below w'.heap.size w' w'') := Lib.hid fun w' b => by rw [hK]; exact impl_prob_c w' (HRD.out w' (HTR.out w' b)) (HR2.out w' (HTR.out w' b)) hn hl
  clear hK
  cases K
  · obtain rfl : T = false := by rw [HT.out, tlgB, ← HK.out]; rfl
    have l0 := Later.cell c0 hgl
    have l1 := Later.cell c1 hgl
    have HPL : Hid (∀ u : Later W, Calls Tryz.prog 65 #[.agg #[.int .i64 r.w, .slice A0 r.rows.length c], .slice A2 ps.length c2] u.w fun e w'' => e = .returned (.bool false) ∧ Below u.w.heap.size u.w w'') := Lib.hid fun u => HP.out u.w u.h
    clear c0 c1
    refine wp_region_later (by kernel_rfl) (by kernel_rfl) ?_
    repeat (go_big_quiet_step ((go_at_call 65; with_reducible exact Later.call (HPL.out _))))
    refine wpQuiet_nil ?_
    intro w5 hw5
    obtain ⟨u5, hu5⟩ := hw5
    subst hu5
    have H2 := H0.later u5
    clear l0 l1 HPL H0
    generalize u5.w = w5 at *
    go_wp2
    go_ret
    exact ⟨rfl, H2.below⟩
  have hkk := HK.out.symm
  rw [Bool.and_eq_true] at hkk
  have HV := Lib.hid (Reg.valid_iff.1 hkk.1)
  have HAP := Lib.hid hkk.2
  have HALL : Hid (∀ w', Below W.heap.size W w' → Calls Tryz.prog 67 #[.agg #[.int .i64 r.w, .slice A0 r.rows.length c], .slice A2 ps.length c2] w' fun e w'' => ∃ v', e = .returned v' ∧ IntsIn w'' w'.heap.size w''.heap.size v' (nl (allN r ps)) ∧ Below w'.heap.size w' w'') := Lib.hid fun w' b => by
    rw [nl_allN HV.out]
    exact impl_all_c w' (HRD.out w' (HTR.out w' b)) (HR2.out w' (HTR.out w' b)) HV.out HAP.out
  have HMK : Hid (∀ w', Below W.heap.size W w' → Calls Tryz.prog 68 #[.agg #[.int .i64 r.w, .slice A0 r.rows.length c]] w' fun e w'' => e = .returned (.int .i64 (r.mask : Int)) ∧ Below w'.heap.size w' w'') := Lib.hid fun w' b => impl_mask_c w' (HRD.out w' (HTR.out w' b)) HV.out
  have HCV : Hid (∀ w' va, Below W.heap.size W w' → IntsRd w' 0 w'.heap.size va (nl (allN r ps)) → Calls Tryz.prog 66 #[va, .int .i64 (r.mask : Int), .slice A3 t.length c3] w' fun e w'' => e = .returned (.bool T) ∧ w' = w'') := Lib.hid fun w' va b ha => by
    have h1 := allP_len HV.out (ps := ps)
    have h2 := (arePcs_on HAP.out).2.2
    have h4 : (allN r ps).length = (allP r ps).length := by rw [← nl_allN HV.out]; simp [nl]
    have h3 : ps.length * 288 ≤ 5 * 288 := Nat.mul_le_mul_right _ (by omega)
    have hT2 : T = isCov (nl (allN r ps)) r.mask none 0 t := by rw [HT.out, tlgB, ← HK.out, Bool.true_and]
    rw [hT2]
    exact impl_isCover_c w' ha (HR3.out w' (HTR.out w' b)) (fun m hm => ⟨allN_lt HV.out m hm, (allN_sub HV.out HAP.out m hm).2⟩) (by omega) (Reg.mask_lt HV.out) (HTB.out w' (HTR.out w' b))
  clear hkk c0 c1 H0
  have HH : Below W.heap.size W W.drew := below_drew (Below.refl _ _)
  have f0 := (BB.out _ HH).1
  have f1 := (BB.out _ HH).2
  go_region_held3 (fun w' => w'.cell? ⟨g, 0, none⟩ = some (.int .i64 r.w) ∧ w'.cell? ⟨g, 1, none⟩ = some (.slice A0 r.rows.length c))
    (first | ((try dsimp only); refine ⟨?_, ?_⟩ <;> assumption) | go_keep)
    (first
    | (go_at_call 65; (with_reducible refine (HP.out _ HH).mono ?_); rintro e wz ⟨rfl, bz⟩; replace HH := HH.trans (bz.mono HH.size); clear bz; have f0 := (BB.out _ HH).1; have f1 := (BB.out _ HH).2)
    | (go_at_call 67; (with_reducible refine (HALL.out _ HH).mono ?_); rintro e wz ⟨va, rfl, oa, bz⟩; have HA := Lib.hid ((IntsIn.rd oa).more (Nat.zero_le _) (Nat.le_refl _)); have HZ : Below wz.heap.size wz wz := Below.refl _ _; obtain ⟨Aa, ca, rfl, _, _⟩ := (IntsIn.rd oa); replace HH := HH.trans (bz.mono HH.size); clear bz oa; have f0 := (BB.out _ HH).1; have f1 := (BB.out _ HH).2)
    | (go_at_call 68; (with_reducible refine (HMK.out _ HH).mono ?_); rintro e wz ⟨rfl, bz⟩; (first | (have HA2 := Lib.hid ((HA.out.keep (SameIn.of_below bz (Nat.le_refl _))).more (Nat.le_refl _) bz.size)) | skip); replace HH := HH.trans (bz.mono HH.size); clear bz; have f0 := (BB.out _ HH).1; have f1 := (BB.out _ HH).2)
    | (go_at_call 66; (with_reducible refine (HCV.out _ _ HH HA2.out).mono ?_); rintro e wz ⟨rfl, rfl⟩)
    | (go_at_call 66; (with_reducible refine (HCV.out _ _ HH HA.out).mono ?_); rintro e wz ⟨rfl, rfl⟩))
  all_goals
    go_wp2
    go_ret
    exact ⟨rfl, HTR.out _ HH⟩
end Go.Proofs.YtfildenelgbmlaaGreatDoor

namespace Go.Proofs.YtfildenelgbmlaaGreatDoor
open Go.RowKit

theorem comP_comm {a b : List Cell} : comP a b = comP b a := by
  unfold comP rectsT
  rw [List.filter_filter, List.filter_filter]
  congr 1
  funext p
  exact Bool.and_comm _ _
theorem comL_comm {a b : List Cell} : comL a b = comL b a := by unfold comL; rw [comP_comm]
theorem comR_comm {a b : List Cell} {r : Reg} : comR a b r = comR b a r := Bool.and_comm _ _
theorem comL_tiles {a b : List Cell} {p : Nat × Nat} (h : comL a b = some p) : findB (rectR p.1 p.2) [a] = true ∧ findB (rectR p.1 p.2) [b] = true := by
  have hm := leastP_mem h
  unfold comP at hm
  rw [List.mem_filter, rectsT_mem] at hm
  have h1 := hm.1.2
  have h2 := hm.2
  unfold tilesB at h1 h2
  simp only [Bool.and_eq_true] at h1 h2
  exact ⟨h1.2, h2.2⟩
theorem find_tlg {r : Reg} {ps : List (List Cell)} (h : findB r ps = true) : tlgB r ps (nl (findL r ps)) = true := by
  unfold findB at h
  rw [Bool.and_eq_true] at h
  obtain ⟨hc, ho⟩ := h
  unfold tlgB
  rw [hc, Bool.true_and, (find_yes hc).2]
  obtain ⟨t, ht⟩ : ∃ t, (til (allN r ps) r.mask)[0]? = some t := by
    unfold ordB at ho
    exact Option.isSome_iff_exists.1 ho
  have hR : ordR (allN r ps) r.mask 0 = t := by unfold ordR; rw [ht]; rfl
  rw [hR]
  have hv := Reg.valid_iff.1 (Bool.and_eq_true_iff.1 hc).1
  exact til_cover (by have := Reg.mask_lt hv; omega) (List.mem_of_getElem? ht)
/-- both tilings are tilings of the common rectangle, and it has both -/
theorem com_law {a b : List Cell} {p : Nat × Nat} (h : comL a b = some p) : tlgB (rectR p.1 p.2) [a] (tilX a b a) = true ∧ tlgB (rectR p.1 p.2) [b] (tilX a b b) = true ∧ comR a b (rectR p.1 p.2) = true := by
  obtain ⟨h1, h2⟩ := comL_tiles h
  refine ⟨?_, ?_, ?_⟩
  · rw [tilX_yes h]; exact find_tlg h1
  · rw [tilX_yes h]; exact find_tlg h2
  · unfold comR; rw [h1, h2]; rfl
end Go.Proofs.YtfildenelgbmlaaGreatDoor
