
/-
  Rectangles that a shape tiles, and the least that two shapes tile, in plain Lean. No program in sight. The rectangles that a shape tiles: both walks. Does a shape tile a rectangle? The program's walk. The rectangles that a shape tiles, as a list: both walks. The rectangles that a shape tiles, as a list: the program. The least rectangle that two shapes tile: the program's walk.
-/
import Derived.Test.YtjkppigjajknaaaGreatDoorFtX
import Derived.Test.YtjkppigjajknaaaGreatDoorRect
import Derived.Test.YtjkppigjajknaaaGreatDoorFtS
import Derived.Test.YtjkppigjajknaaaGreatDoorComW
namespace Go.Proofs.YtjkppigjajknaaaGreatDoor
open Go.RowKit

/-- a rectangle -/
def rectR (a b : Nat) : Reg := ⟨a, List.replicate b (2 ^ a - 1)⟩
def pairsN : List (Nat × Nat) := [(1, 1), (1, 2), (1, 3), (1, 4), (1, 5), (2, 2), (2, 3), (2, 4), (2, 5), (3, 3), (3, 4), (3, 5), (4, 4), (4, 5), (5, 5)]
def tilesB (s : List Cell) (p : Nat × Nat) : Bool := isShape s && ((p.1 * p.2) % s.length == 0) && findB (rectR p.1 p.2) [s]
/-- the pairs that come ahead of a pair -/
def uptoL (a b : Nat) : List (Nat × Nat) := pairsN.filter fun p => decide (p.1 < a) || (decide (p.1 = a) && decide (p.2 < b))
theorem uptoL_all : ∀ p ∈ pairsN, uptoL p.1 (p.2 + 1) = uptoL p.1 p.2 ++ [p] := by decide +kernel
theorem pairsN_in {a b : Nat} (h1 : 1 ≤ a) (hb : a ≤ b) (hb5 : b ≤ 5) : (a, b) ∈ pairsN := by
  have hx : a = 1 ∨ a = 2 ∨ a = 3 ∨ a = 4 ∨ a = 5 := by omega
  have hy : b = 1 ∨ b = 2 ∨ b = 3 ∨ b = 4 ∨ b = 5 := by omega
  rcases hx with rfl | rfl | rfl | rfl | rfl <;> rcases hy with rfl | rfl | rfl | rfl | rfl <;> first | decide | omega
theorem uptoL_step {a b : Nat} (h1 : 1 ≤ a) (hb : a ≤ b) (hb5 : b ≤ 5) : uptoL a (b + 1) = uptoL a b ++ [(a, b)] := uptoL_all (a, b) (pairsN_in h1 hb hb5)
theorem uptoL_row : ∀ a, a < 6 → 1 ≤ a → uptoL a 6 = uptoL (a + 1) (a + 1) := by decide +kernel
theorem uptoL_end : uptoL 6 6 = pairsN := by decide +kernel
theorem uptoL_start : uptoL 1 1 = [] := by decide +kernel
def uptoP (f : Nat × Nat → Bool) (a b : Nat) : List (Nat × Nat) := (uptoL a b).filter f
theorem uptoP_start (f : Nat × Nat → Bool) : uptoP f 1 1 = [] := by rw [uptoP, uptoL_start]; rfl
theorem uptoP_end (f : Nat × Nat → Bool) : uptoP f 6 6 = pairsN.filter f := by rw [uptoP, uptoL_end]
theorem uptoP_row (f : Nat × Nat → Bool) {a : Nat} (h1 : 1 ≤ a) (h5 : a ≤ 5) : uptoP f a 6 = uptoP f (a + 1) (a + 1) := by rw [uptoP, uptoL_row a (by omega) h1]; rfl
theorem uptoP_step (f : Nat × Nat → Bool) {a b : Nat} (h1 : 1 ≤ a) (hb : a ≤ b) (hb5 : b ≤ 5) : uptoP f a (b + 1) = uptoP f a b ++ if f (a, b) then [(a, b)] else [] := by
  rw [uptoP, uptoL_step h1 hb hb5, List.filter_append, List.filter_cons, List.filter_nil]
  rfl
theorem uptoP_len (f : Nat × Nat → Bool) (a b : Nat) : (uptoP f a b).length ≤ 15 := Nat.le_trans (List.length_filter_le _ _) (Nat.le_trans (List.length_filter_le _ _) (by decide))
theorem pairsN_le : ∀ p ∈ pairsN, 1 ≤ p.1 ∧ p.1 ≤ 5 ∧ 1 ≤ p.2 ∧ p.2 ≤ 5 := by decide
/-- the rectangles that a shape tiles -/
def rectsT (s : List Cell) : List (Nat × Nat) := pairsN.filter (tilesB s)
theorem rectsT_mem {s : List Cell} {p : Nat × Nat} : p ∈ rectsT s ↔ p ∈ pairsN ∧ tilesB s p = true := List.mem_filter
def rowP (p : Nat × Nat) : List Int := [(p.1 : Int), (p.2 : Int)]
def rowsP (L : List (Nat × Nat)) : List (List Int) := L.map rowP
theorem rowsP_at {L : List (Nat × Nat)} {i : Nat} {p : Nat × Nat} (h : L[i]? = some p) : (rowsP L)[i]? = some (rowP p) := by simp [rowsP, h]
theorem rowsP_len {L : List (Nat × Nat)} : (rowsP L).length = L.length := by simp [rowsP]
theorem rowsP_snoc {L : List (Nat × Nat)} {p : Nat × Nat} : rowsP (L ++ [p]) = rowsP L ++ [rowP p] := by simp [rowsP]
theorem rowP_same {p q : Nat × Nat} : rowP p = rowP q ↔ p = q := by
  simp only [rowP, List.cons.injEq, Int.natCast_inj, and_true]
  exact ⟨fun h => Prod.ext h.1 h.2, fun h => by rw [h]; exact ⟨rfl, rfl⟩⟩
/-- both -/
def comP (a b : List Cell) : List (Nat × Nat) := (rectsT a).filter fun p => tilesB b p
theorem comP_mem {a b : List Cell} {p : Nat × Nat} (h : p ∈ comP a b) : p ∈ pairsN := (rectsT_mem.1 (List.mem_filter.1 h).1).1
theorem comP_len {a b : List Cell} : (comP a b).length ≤ 15 := Nat.le_trans (List.length_filter_le _ _) (Nat.le_trans (List.length_filter_le _ _) (by decide))
/-- a pair is met as often among pairs as it stands there: once, or not at all -/
theorem met_once (p : Nat × Nat) : ∀ {l : List (Nat × Nat)}, l.Nodup → l.filter (fun q => decide (p = q)) = if p ∈ l then [p] else []
  | [], _ => by simp
  | q :: l, h => by
    have h' := List.nodup_cons.1 h
    rw [List.filter_cons, met_once p h'.2]
    by_cases e : p = q
    · subst e
      simp [h'.1]
    · simp [e]
theorem rectsT_nodup {s : List Cell} : (rectsT s).Nodup := (List.filter_sublist (p := tilesB s)).nodup (by decide)
theorem met_rects {s : List Cell} {p : Nat × Nat} (h : p ∈ pairsN) : (rectsT s).filter (fun q => decide (p = q)) = if tilesB s p then [p] else [] := by
  rw [met_once p rectsT_nodup]
  simp [rectsT_mem, h]
/-- the first pair with the least product -/
def lessP : Option (Nat × Nat) → Nat × Nat → Option (Nat × Nat)
  | none, p => some p
  | some q, p => if p.1 * p.2 < q.1 * q.2 then some p else some q
def leastP (L : List (Nat × Nat)) : Option (Nat × Nat) := L.foldl lessP none
theorem leastP_snoc {L : List (Nat × Nat)} {p : Nat × Nat} : leastP (L ++ [p]) = lessP (leastP L) p := by simp [leastP]
theorem leastP_nil : leastP [] = none := rfl
theorem lessP_mem : ∀ (L : List (Nat × Nat)) (o : Option (Nat × Nat)) (q : Nat × Nat), L.foldl lessP o = some q → o = some q ∨ q ∈ L
  | [], _, _, h => .inl h
  | p :: L, o, q, h => by
    rcases lessP_mem L (lessP o p) q h with h1 | h1
    · cases o with
      | none => simp [lessP] at h1; exact .inr (by simp [h1])
      | some r =>
        simp only [lessP] at h1
        split at h1
        · simp at h1; exact .inr (by simp [h1])
        · exact .inl h1
    · exact .inr (by simp [h1])
theorem leastP_mem {L : List (Nat × Nat)} {q : Nat × Nat} (h : leastP L = some q) : q ∈ L := by
  rcases lessP_mem L none q h with h1 | h1
  · cases h1
  · exact h1
theorem lessP_some : ∀ (L : List (Nat × Nat)) (o : Option (Nat × Nat)), o.isSome = true → (L.foldl lessP o).isSome = true
  | [], _, h => h
  | p :: L, o, h => lessP_some L (lessP o p) (by
    cases o with
    | none => rfl
    | some r => simp only [lessP]; split <;> rfl)
theorem leastP_pos {L : List (Nat × Nat)} (h : L ≠ []) : (leastP L).isSome = true := by
  cases L with
  | nil => exact absurd rfl h
  | cons p L => exact lessP_some L (some p) rfl
/-- the first numbers rise -/
def UpP (L : List (Nat × Nat)) : Prop := L.Pairwise fun p q => p.1 ≤ q.1
theorem pairsN_up : UpP pairsN := by unfold UpP; decide
theorem comP_up {a b : List Cell} : UpP (comP a b) := (pairsN_up.sublist List.filter_sublist).sublist List.filter_sublist
theorem upP_take {L : List (Nat × Nat)} (h : UpP L) {i : Nat} {p q : Nat × Nat} (hi : L[i]? = some p) (hq : q ∈ L.take i) : q.1 ≤ p.1 := by
  obtain ⟨j, hj⟩ := List.getElem?_of_mem hq
  have hjl := (List.getElem?_eq_some_iff.1 hj).1
  rw [List.length_take] at hjl
  rw [List.getElem?_take] at hj
  split at hj
  · obtain ⟨h1, e1⟩ := List.getElem?_eq_some_iff.1 hi
    obtain ⟨h2, e2⟩ := List.getElem?_eq_some_iff.1 hj
    have := List.pairwise_iff_getElem.1 h j i h2 h1 (by omega)
    rw [e1, e2] at this
    exact this
  · cases hj
def comL (a b : List Cell) : Option (Nat × Nat) := leastP (comP a b)
theorem comL_mem {a b : List Cell} {p : Nat × Nat} (h : comL a b = some p) : 1 ≤ p.1 ∧ p.1 ≤ 5 ∧ 1 ≤ p.2 ∧ p.2 ≤ 5 := pairsN_le p (comP_mem (leastP_mem h))
/-- the answer as two numbers -/
def comA (a b : List Cell) : Nat × Nat := (comL a b).getD (0, 0)
def comB (a b : List Cell) : Bool := (comL a b).isSome
end Go.Proofs.YtjkppigjajknaaaGreatDoor

namespace Go.Proofs.YtjkppigjajknaaaGreatDoor
open Go.RowKit

theorem cells_keep {w w' : World} {v : Value} {l : List Cell} (h : CellsRd w 0 w.heap.size v l) (hb : Below w.heap.size w w') : CellsRd w' 0 w'.heap.size v l := (h.keep (SameIn.of_below hb (Nat.le_refl _))).more (Nat.le_refl _) hb.size
set_option maxRecDepth 100000 in
theorem infoRowT : (Tryz.prog.info? 29).map (fun i => (i.zero, i.size, i.bytes)) = some (some (.slice none 0 0), 1, 24) := by kernel_rfl
set_option maxRecDepth 100000 in
theorem side_c (x : Int) (w : World) : Calls Tryz.prog 135 #[.int .i64 x] w fun e w' => e = .returned (.bool (inR x 1 6)) ∧ w = w' := isSide_c x w
set_option maxRecDepth 100000 in
set_option maxHeartbeats 1600000 in
theorem rectI_1 (h : Nat) (w : World) (h1 : 1 ≤ h) (h6 : h ≤ 6) :
    Calls Tryz.prog 158 #[.int .i64 1, .int .i64 (h : Int)] w fun e w' => ∃ A c, e = .returned (.tuple #[.agg #[.int .i64 1, .slice A h c], .bool true]) ∧ OI w' w.heap.size w'.heap.size 3 1 (.slice A h c) h (ic (List.replicate h 1)) ∧ Below w.heap.size w w' := by
  obtain ⟨j0, hj0, hy0, hy1, hy2⟩ := info_parts infoIntC
  have hr1 : inR 1 1 6 = true := by decide
  have hr2 : inR (h : Int) 1 6 = true := inR_t (by omega) (by omega)
  have H := (((Sep.start w).box 36 #[.int .i64 0, .slice none 0 0]).nil 3 1).box 36 #[.int .i64 1, .slice none 0 0]
  simp only [World.size_alloc] at H
  go_enter Tryz.func158, Tryz.ntmps158
  go_wp2_with (go_at_call 135; refine (side_c _ _).mono ?_; rintro e w' ⟨rfl, rfl⟩)
  clear hr1 hr2
  generalize (w.alloc (.cells #[.int .i64 0, .slice none 0 0] 36)).alloc (.cells #[.int .i64 1, .slice none 0 0] 36) = W at *
  go_loopw [19] (fun i wr => ∃ (j : Nat) (v : Value), j ≤ h ∧ i = .int .i64 j ∧ Sep w wr [Res.box (w.heap.size + 1) 36 #[.int .i64 1, v], Res.row v 3 1 j (ic (List.replicate j 1)), Res.box w.heap.size 36 #[.int .i64 0, .slice none 0 0]]) (fun i _ => h - (intOf i).toNat)
  case atStart => exact ⟨0, _, by omega, rfl, H⟩
  case round =>
    clear H
    obtain ⟨j, v, hj, rfl, H⟩ := hrel
    obtain ⟨A, cv, rfl, _, _, _⟩ := Res.row_at H.h1
    have x0 := H.h0.cell 0
    have x1 := H.h0.cell 1
    simp at x0 x1
    by_cases hlj : j < h
    · have hw1 : IntKind.i64.wrap 2 = 2 := rfl
      have hw2 : IntKind.i64.wrap 1 = 1 := rfl
      have hgb : w.heap.size + 1 < wr.heap.size := H.h0.lt
      go_wp2_with fail
      go_region_law (refine step_app rfl (.tmp 22) (.tmp 26) 29 rfl 3 j0 _ 1 8 Tryz.underlying29 hj0 hy0 hy1 hy2 rfl (by decide) (.slice A j cv) j _ (by simp [Act.eval]) ((H.alloc _).drew.g1) (some ⟨wr.heap.size, 0, none⟩) 1 1 [.int .i64 1] (by simp [Act.eval]) (Rd.fresh wr 3 #[.int .i64 1] 1 1 rfl) oc1 (by unfold maxLen; omega) (by omega) ?_; intro v' w5 H5; obtain ⟨A5, cv5, rfl, _, _, _⟩ := Res.row_at H5.h0; have y1 := H5.h1.cell 1; have f1 := H5.h1.frozen 1; simp at y1)
      all_goals
        have H6 := H5.g1.set_ 1 (.slice A5 (j + 1) cv5)
        have e : ic (List.replicate (j + 1) 1) = ic (List.replicate j 1) ++ [.int .i64 1] := by rw [List.replicate_succ', ic_append]; rfl
        have HE := Lib.hid e
        clear e hw1 hw2 f1 y1 x0 x1 H5
        go_wp2
        go_roundw
        case rel => exact ⟨j + 1, .slice A5 (j + 1) cv5, by omega, by go_num, by rw [HE.out]; exact H6⟩
        case measure => simp [intOf]; omega
    · obtain rfl : j = h := by omega
      have z0 := H.h2.cell 0
      have z1 := H.h2.cell 1
      have f0 := H.h2.frozen 0
      have f1 := H.h2.frozen 1
      simp at z0 z1
      have H6 := ((H.g2.set_ 0 (.int .i64 1)).set_ 1 (.slice A j cv))
      have u0 := H6.h0.cell 0
      have u1 := H6.h0.cell 1
      simp at u0 u1
      go_wp2
      exact bodyPost_ret (v := .tuple #[.agg #[.int .i64 1, .slice A j cv], .bool true]) (by simp [results, Tryz.results158, go_sem, u0, u1]) rfl ⟨_, _, rfl, H6.g2.oi, H6.below⟩
set_option maxRecDepth 100000 in
set_option maxHeartbeats 1600000 in
theorem rectI_2 (h : Nat) (w : World) (h1 : 1 ≤ h) (h6 : h ≤ 6) :
    Calls Tryz.prog 158 #[.int .i64 2, .int .i64 (h : Int)] w fun e w' => ∃ A c, e = .returned (.tuple #[.agg #[.int .i64 2, .slice A h c], .bool true]) ∧ OI w' w.heap.size w'.heap.size 3 1 (.slice A h c) h (ic (List.replicate h 3)) ∧ Below w.heap.size w w' := by
  obtain ⟨j0, hj0, hy0, hy1, hy2⟩ := info_parts infoIntC
  have hr1 : inR 2 1 6 = true := by decide
  have hr2 : inR (h : Int) 1 6 = true := inR_t (by omega) (by omega)
  have H := (((Sep.start w).box 36 #[.int .i64 0, .slice none 0 0]).nil 3 1).box 36 #[.int .i64 2, .slice none 0 0]
  simp only [World.size_alloc] at H
  go_enter Tryz.func158, Tryz.ntmps158
  go_wp2_with (go_at_call 135; refine (side_c _ _).mono ?_; rintro e w' ⟨rfl, rfl⟩)
  clear hr1 hr2
  generalize (w.alloc (.cells #[.int .i64 0, .slice none 0 0] 36)).alloc (.cells #[.int .i64 2, .slice none 0 0] 36) = W at *
  go_loopw [19] (fun i wr => ∃ (j : Nat) (v : Value), j ≤ h ∧ i = .int .i64 j ∧ Sep w wr [Res.box (w.heap.size + 1) 36 #[.int .i64 2, v], Res.row v 3 1 j (ic (List.replicate j 3)), Res.box w.heap.size 36 #[.int .i64 0, .slice none 0 0]]) (fun i _ => h - (intOf i).toNat)
  case atStart => exact ⟨0, _, by omega, rfl, H⟩
  case round =>
    clear H
    obtain ⟨j, v, hj, rfl, H⟩ := hrel
    obtain ⟨A, cv, rfl, _, _, _⟩ := Res.row_at H.h1
    have x0 := H.h0.cell 0
    have x1 := H.h0.cell 1
    simp at x0 x1
    by_cases hlj : j < h
    · have hw1 : IntKind.i64.wrap 4 = 4 := rfl
      have hw2 : IntKind.i64.wrap 3 = 3 := rfl
      have hgb : w.heap.size + 1 < wr.heap.size := H.h0.lt
      go_wp2_with fail
      go_region_law (refine step_app rfl (.tmp 22) (.tmp 26) 29 rfl 3 j0 _ 1 8 Tryz.underlying29 hj0 hy0 hy1 hy2 rfl (by decide) (.slice A j cv) j _ (by simp [Act.eval]) ((H.alloc _).drew.g1) (some ⟨wr.heap.size, 0, none⟩) 1 1 [.int .i64 3] (by simp [Act.eval]) (Rd.fresh wr 3 #[.int .i64 3] 1 1 rfl) oc1 (by unfold maxLen; omega) (by omega) ?_; intro v' w5 H5; obtain ⟨A5, cv5, rfl, _, _, _⟩ := Res.row_at H5.h0; have y1 := H5.h1.cell 1; have f1 := H5.h1.frozen 1; simp at y1)
      all_goals
        have H6 := H5.g1.set_ 1 (.slice A5 (j + 1) cv5)
        have e : ic (List.replicate (j + 1) 3) = ic (List.replicate j 3) ++ [.int .i64 3] := by rw [List.replicate_succ', ic_append]; rfl
        have HE := Lib.hid e
        clear e hw1 hw2 f1 y1 x0 x1 H5
        go_wp2
        go_roundw
        case rel => exact ⟨j + 1, .slice A5 (j + 1) cv5, by omega, by go_num, by rw [HE.out]; exact H6⟩
        case measure => simp [intOf]; omega
    · obtain rfl : j = h := by omega
      have z0 := H.h2.cell 0
      have z1 := H.h2.cell 1
      have f0 := H.h2.frozen 0
      have f1 := H.h2.frozen 1
      simp at z0 z1
      have H6 := ((H.g2.set_ 0 (.int .i64 2)).set_ 1 (.slice A j cv))
      have u0 := H6.h0.cell 0
      have u1 := H6.h0.cell 1
      simp at u0 u1
      go_wp2
      exact bodyPost_ret (v := .tuple #[.agg #[.int .i64 2, .slice A j cv], .bool true]) (by simp [results, Tryz.results158, go_sem, u0, u1]) rfl ⟨_, _, rfl, H6.g2.oi, H6.below⟩
set_option maxRecDepth 100000 in
set_option maxHeartbeats 1600000 in
theorem rectI_3 (h : Nat) (w : World) (h1 : 1 ≤ h) (h6 : h ≤ 6) :
    Calls Tryz.prog 158 #[.int .i64 3, .int .i64 (h : Int)] w fun e w' => ∃ A c, e = .returned (.tuple #[.agg #[.int .i64 3, .slice A h c], .bool true]) ∧ OI w' w.heap.size w'.heap.size 3 1 (.slice A h c) h (ic (List.replicate h 7)) ∧ Below w.heap.size w w' := by
  obtain ⟨j0, hj0, hy0, hy1, hy2⟩ := info_parts infoIntC
  have hr1 : inR 3 1 6 = true := by decide
  have hr2 : inR (h : Int) 1 6 = true := inR_t (by omega) (by omega)
  have H := (((Sep.start w).box 36 #[.int .i64 0, .slice none 0 0]).nil 3 1).box 36 #[.int .i64 3, .slice none 0 0]
  simp only [World.size_alloc] at H
  go_enter Tryz.func158, Tryz.ntmps158
  go_wp2_with (go_at_call 135; refine (side_c _ _).mono ?_; rintro e w' ⟨rfl, rfl⟩)
  clear hr1 hr2
  generalize (w.alloc (.cells #[.int .i64 0, .slice none 0 0] 36)).alloc (.cells #[.int .i64 3, .slice none 0 0] 36) = W at *
  go_loopw [19] (fun i wr => ∃ (j : Nat) (v : Value), j ≤ h ∧ i = .int .i64 j ∧ Sep w wr [Res.box (w.heap.size + 1) 36 #[.int .i64 3, v], Res.row v 3 1 j (ic (List.replicate j 7)), Res.box w.heap.size 36 #[.int .i64 0, .slice none 0 0]]) (fun i _ => h - (intOf i).toNat)
  case atStart => exact ⟨0, _, by omega, rfl, H⟩
  case round =>
    clear H
    obtain ⟨j, v, hj, rfl, H⟩ := hrel
    obtain ⟨A, cv, rfl, _, _, _⟩ := Res.row_at H.h1
    have x0 := H.h0.cell 0
    have x1 := H.h0.cell 1
    simp at x0 x1
    by_cases hlj : j < h
    · have hw1 : IntKind.i64.wrap 8 = 8 := rfl
      have hw2 : IntKind.i64.wrap 7 = 7 := rfl
      have hgb : w.heap.size + 1 < wr.heap.size := H.h0.lt
      go_wp2_with fail
      go_region_law (refine step_app rfl (.tmp 22) (.tmp 26) 29 rfl 3 j0 _ 1 8 Tryz.underlying29 hj0 hy0 hy1 hy2 rfl (by decide) (.slice A j cv) j _ (by simp [Act.eval]) ((H.alloc _).drew.g1) (some ⟨wr.heap.size, 0, none⟩) 1 1 [.int .i64 7] (by simp [Act.eval]) (Rd.fresh wr 3 #[.int .i64 7] 1 1 rfl) oc1 (by unfold maxLen; omega) (by omega) ?_; intro v' w5 H5; obtain ⟨A5, cv5, rfl, _, _, _⟩ := Res.row_at H5.h0; have y1 := H5.h1.cell 1; have f1 := H5.h1.frozen 1; simp at y1)
      all_goals
        have H6 := H5.g1.set_ 1 (.slice A5 (j + 1) cv5)
        have e : ic (List.replicate (j + 1) 7) = ic (List.replicate j 7) ++ [.int .i64 7] := by rw [List.replicate_succ', ic_append]; rfl
        have HE := Lib.hid e
        clear e hw1 hw2 f1 y1 x0 x1 H5
        go_wp2
        go_roundw
        case rel => exact ⟨j + 1, .slice A5 (j + 1) cv5, by omega, by go_num, by rw [HE.out]; exact H6⟩
        case measure => simp [intOf]; omega
    · obtain rfl : j = h := by omega
      have z0 := H.h2.cell 0
      have z1 := H.h2.cell 1
      have f0 := H.h2.frozen 0
      have f1 := H.h2.frozen 1
      simp at z0 z1
      have H6 := ((H.g2.set_ 0 (.int .i64 3)).set_ 1 (.slice A j cv))
      have u0 := H6.h0.cell 0
      have u1 := H6.h0.cell 1
      simp at u0 u1
      go_wp2
      exact bodyPost_ret (v := .tuple #[.agg #[.int .i64 3, .slice A j cv], .bool true]) (by simp [results, Tryz.results158, go_sem, u0, u1]) rfl ⟨_, _, rfl, H6.g2.oi, H6.below⟩
set_option maxRecDepth 100000 in
set_option maxHeartbeats 1600000 in
theorem rectI_4 (h : Nat) (w : World) (h1 : 1 ≤ h) (h6 : h ≤ 6) :
    Calls Tryz.prog 158 #[.int .i64 4, .int .i64 (h : Int)] w fun e w' => ∃ A c, e = .returned (.tuple #[.agg #[.int .i64 4, .slice A h c], .bool true]) ∧ OI w' w.heap.size w'.heap.size 3 1 (.slice A h c) h (ic (List.replicate h 15)) ∧ Below w.heap.size w w' := by
  obtain ⟨j0, hj0, hy0, hy1, hy2⟩ := info_parts infoIntC
  have hr1 : inR 4 1 6 = true := by decide
  have hr2 : inR (h : Int) 1 6 = true := inR_t (by omega) (by omega)
  have H := (((Sep.start w).box 36 #[.int .i64 0, .slice none 0 0]).nil 3 1).box 36 #[.int .i64 4, .slice none 0 0]
  simp only [World.size_alloc] at H
  go_enter Tryz.func158, Tryz.ntmps158
  go_wp2_with (go_at_call 135; refine (side_c _ _).mono ?_; rintro e w' ⟨rfl, rfl⟩)
  clear hr1 hr2
  generalize (w.alloc (.cells #[.int .i64 0, .slice none 0 0] 36)).alloc (.cells #[.int .i64 4, .slice none 0 0] 36) = W at *
  go_loopw [19] (fun i wr => ∃ (j : Nat) (v : Value), j ≤ h ∧ i = .int .i64 j ∧ Sep w wr [Res.box (w.heap.size + 1) 36 #[.int .i64 4, v], Res.row v 3 1 j (ic (List.replicate j 15)), Res.box w.heap.size 36 #[.int .i64 0, .slice none 0 0]]) (fun i _ => h - (intOf i).toNat)
  case atStart => exact ⟨0, _, by omega, rfl, H⟩
  case round =>
    clear H
    obtain ⟨j, v, hj, rfl, H⟩ := hrel
    obtain ⟨A, cv, rfl, _, _, _⟩ := Res.row_at H.h1
    have x0 := H.h0.cell 0
    have x1 := H.h0.cell 1
    simp at x0 x1
    by_cases hlj : j < h
    · have hw1 : IntKind.i64.wrap 16 = 16 := rfl
      have hw2 : IntKind.i64.wrap 15 = 15 := rfl
      have hgb : w.heap.size + 1 < wr.heap.size := H.h0.lt
      go_wp2_with fail
      go_region_law (refine step_app rfl (.tmp 22) (.tmp 26) 29 rfl 3 j0 _ 1 8 Tryz.underlying29 hj0 hy0 hy1 hy2 rfl (by decide) (.slice A j cv) j _ (by simp [Act.eval]) ((H.alloc _).drew.g1) (some ⟨wr.heap.size, 0, none⟩) 1 1 [.int .i64 15] (by simp [Act.eval]) (Rd.fresh wr 3 #[.int .i64 15] 1 1 rfl) oc1 (by unfold maxLen; omega) (by omega) ?_; intro v' w5 H5; obtain ⟨A5, cv5, rfl, _, _, _⟩ := Res.row_at H5.h0; have y1 := H5.h1.cell 1; have f1 := H5.h1.frozen 1; simp at y1)
      all_goals
        have H6 := H5.g1.set_ 1 (.slice A5 (j + 1) cv5)
        have e : ic (List.replicate (j + 1) 15) = ic (List.replicate j 15) ++ [.int .i64 15] := by rw [List.replicate_succ', ic_append]; rfl
        have HE := Lib.hid e
        clear e hw1 hw2 f1 y1 x0 x1 H5
        go_wp2
        go_roundw
        case rel => exact ⟨j + 1, .slice A5 (j + 1) cv5, by omega, by go_num, by rw [HE.out]; exact H6⟩
        case measure => simp [intOf]; omega
    · obtain rfl : j = h := by omega
      have z0 := H.h2.cell 0
      have z1 := H.h2.cell 1
      have f0 := H.h2.frozen 0
      have f1 := H.h2.frozen 1
      simp at z0 z1
      have H6 := ((H.g2.set_ 0 (.int .i64 4)).set_ 1 (.slice A j cv))
      have u0 := H6.h0.cell 0
      have u1 := H6.h0.cell 1
      simp at u0 u1
      go_wp2
      exact bodyPost_ret (v := .tuple #[.agg #[.int .i64 4, .slice A j cv], .bool true]) (by simp [results, Tryz.results158, go_sem, u0, u1]) rfl ⟨_, _, rfl, H6.g2.oi, H6.below⟩
set_option maxRecDepth 100000 in
set_option maxHeartbeats 1600000 in
theorem rectI_5 (h : Nat) (w : World) (h1 : 1 ≤ h) (h6 : h ≤ 6) :
    Calls Tryz.prog 158 #[.int .i64 5, .int .i64 (h : Int)] w fun e w' => ∃ A c, e = .returned (.tuple #[.agg #[.int .i64 5, .slice A h c], .bool true]) ∧ OI w' w.heap.size w'.heap.size 3 1 (.slice A h c) h (ic (List.replicate h 31)) ∧ Below w.heap.size w w' := by
  obtain ⟨j0, hj0, hy0, hy1, hy2⟩ := info_parts infoIntC
  have hr1 : inR 5 1 6 = true := by decide
  have hr2 : inR (h : Int) 1 6 = true := inR_t (by omega) (by omega)
  have H := (((Sep.start w).box 36 #[.int .i64 0, .slice none 0 0]).nil 3 1).box 36 #[.int .i64 5, .slice none 0 0]
  simp only [World.size_alloc] at H
  go_enter Tryz.func158, Tryz.ntmps158
  go_wp2_with (go_at_call 135; refine (side_c _ _).mono ?_; rintro e w' ⟨rfl, rfl⟩)
  clear hr1 hr2
  generalize (w.alloc (.cells #[.int .i64 0, .slice none 0 0] 36)).alloc (.cells #[.int .i64 5, .slice none 0 0] 36) = W at *
  go_loopw [19] (fun i wr => ∃ (j : Nat) (v : Value), j ≤ h ∧ i = .int .i64 j ∧ Sep w wr [Res.box (w.heap.size + 1) 36 #[.int .i64 5, v], Res.row v 3 1 j (ic (List.replicate j 31)), Res.box w.heap.size 36 #[.int .i64 0, .slice none 0 0]]) (fun i _ => h - (intOf i).toNat)
  case atStart => exact ⟨0, _, by omega, rfl, H⟩
  case round =>
    clear H
    obtain ⟨j, v, hj, rfl, H⟩ := hrel
    obtain ⟨A, cv, rfl, _, _, _⟩ := Res.row_at H.h1
    have x0 := H.h0.cell 0
    have x1 := H.h0.cell 1
    simp at x0 x1
    by_cases hlj : j < h
    · have hw1 : IntKind.i64.wrap 32 = 32 := rfl
      have hw2 : IntKind.i64.wrap 31 = 31 := rfl
      have hgb : w.heap.size + 1 < wr.heap.size := H.h0.lt
      go_wp2_with fail
      go_region_law (refine step_app rfl (.tmp 22) (.tmp 26) 29 rfl 3 j0 _ 1 8 Tryz.underlying29 hj0 hy0 hy1 hy2 rfl (by decide) (.slice A j cv) j _ (by simp [Act.eval]) ((H.alloc _).drew.g1) (some ⟨wr.heap.size, 0, none⟩) 1 1 [.int .i64 31] (by simp [Act.eval]) (Rd.fresh wr 3 #[.int .i64 31] 1 1 rfl) oc1 (by unfold maxLen; omega) (by omega) ?_; intro v' w5 H5; obtain ⟨A5, cv5, rfl, _, _, _⟩ := Res.row_at H5.h0; have y1 := H5.h1.cell 1; have f1 := H5.h1.frozen 1; simp at y1)
      all_goals
        have H6 := H5.g1.set_ 1 (.slice A5 (j + 1) cv5)
        have e : ic (List.replicate (j + 1) 31) = ic (List.replicate j 31) ++ [.int .i64 31] := by rw [List.replicate_succ', ic_append]; rfl
        have HE := Lib.hid e
        clear e hw1 hw2 f1 y1 x0 x1 H5
        go_wp2
        go_roundw
        case rel => exact ⟨j + 1, .slice A5 (j + 1) cv5, by omega, by go_num, by rw [HE.out]; exact H6⟩
        case measure => simp [intOf]; omega
    · obtain rfl : j = h := by omega
      have z0 := H.h2.cell 0
      have z1 := H.h2.cell 1
      have f0 := H.h2.frozen 0
      have f1 := H.h2.frozen 1
      simp at z0 z1
      have H6 := ((H.g2.set_ 0 (.int .i64 5)).set_ 1 (.slice A j cv))
      have u0 := H6.h0.cell 0
      have u1 := H6.h0.cell 1
      simp at u0 u1
      go_wp2
      exact bodyPost_ret (v := .tuple #[.agg #[.int .i64 5, .slice A j cv], .bool true]) (by simp [results, Tryz.results158, go_sem, u0, u1]) rfl ⟨_, _, rfl, H6.g2.oi, H6.below⟩
set_option maxRecDepth 100000 in
set_option maxHeartbeats 1600000 in
theorem rectI_6 (h : Nat) (w : World) (h1 : 1 ≤ h) (h6 : h ≤ 6) :
    Calls Tryz.prog 158 #[.int .i64 6, .int .i64 (h : Int)] w fun e w' => ∃ A c, e = .returned (.tuple #[.agg #[.int .i64 6, .slice A h c], .bool true]) ∧ OI w' w.heap.size w'.heap.size 3 1 (.slice A h c) h (ic (List.replicate h 63)) ∧ Below w.heap.size w w' := by
  obtain ⟨j0, hj0, hy0, hy1, hy2⟩ := info_parts infoIntC
  have hr1 : inR 6 1 6 = true := by decide
  have hr2 : inR (h : Int) 1 6 = true := inR_t (by omega) (by omega)
  have H := (((Sep.start w).box 36 #[.int .i64 0, .slice none 0 0]).nil 3 1).box 36 #[.int .i64 6, .slice none 0 0]
  simp only [World.size_alloc] at H
  go_enter Tryz.func158, Tryz.ntmps158
  go_wp2_with (go_at_call 135; refine (side_c _ _).mono ?_; rintro e w' ⟨rfl, rfl⟩)
  clear hr1 hr2
  generalize (w.alloc (.cells #[.int .i64 0, .slice none 0 0] 36)).alloc (.cells #[.int .i64 6, .slice none 0 0] 36) = W at *
  go_loopw [19] (fun i wr => ∃ (j : Nat) (v : Value), j ≤ h ∧ i = .int .i64 j ∧ Sep w wr [Res.box (w.heap.size + 1) 36 #[.int .i64 6, v], Res.row v 3 1 j (ic (List.replicate j 63)), Res.box w.heap.size 36 #[.int .i64 0, .slice none 0 0]]) (fun i _ => h - (intOf i).toNat)
  case atStart => exact ⟨0, _, by omega, rfl, H⟩
  case round =>
    clear H
    obtain ⟨j, v, hj, rfl, H⟩ := hrel
    obtain ⟨A, cv, rfl, _, _, _⟩ := Res.row_at H.h1
    have x0 := H.h0.cell 0
    have x1 := H.h0.cell 1
    simp at x0 x1
    by_cases hlj : j < h
    · have hw1 : IntKind.i64.wrap 64 = 64 := rfl
      have hw2 : IntKind.i64.wrap 63 = 63 := rfl
      have hgb : w.heap.size + 1 < wr.heap.size := H.h0.lt
      go_wp2_with fail
      go_region_law (refine step_app rfl (.tmp 22) (.tmp 26) 29 rfl 3 j0 _ 1 8 Tryz.underlying29 hj0 hy0 hy1 hy2 rfl (by decide) (.slice A j cv) j _ (by simp [Act.eval]) ((H.alloc _).drew.g1) (some ⟨wr.heap.size, 0, none⟩) 1 1 [.int .i64 63] (by simp [Act.eval]) (Rd.fresh wr 3 #[.int .i64 63] 1 1 rfl) oc1 (by unfold maxLen; omega) (by omega) ?_; intro v' w5 H5; obtain ⟨A5, cv5, rfl, _, _, _⟩ := Res.row_at H5.h0; have y1 := H5.h1.cell 1; have f1 := H5.h1.frozen 1; simp at y1)
      all_goals
        have H6 := H5.g1.set_ 1 (.slice A5 (j + 1) cv5)
        have e : ic (List.replicate (j + 1) 63) = ic (List.replicate j 63) ++ [.int .i64 63] := by rw [List.replicate_succ', ic_append]; rfl
        have HE := Lib.hid e
        clear e hw1 hw2 f1 y1 x0 x1 H5
        go_wp2
        go_roundw
        case rel => exact ⟨j + 1, .slice A5 (j + 1) cv5, by omega, by go_num, by rw [HE.out]; exact H6⟩
        case measure => simp [intOf]; omega
    · obtain rfl : j = h := by omega
      have z0 := H.h2.cell 0
      have z1 := H.h2.cell 1
      have f0 := H.h2.frozen 0
      have f1 := H.h2.frozen 1
      simp at z0 z1
      have H6 := ((H.g2.set_ 0 (.int .i64 6)).set_ 1 (.slice A j cv))
      have u0 := H6.h0.cell 0
      have u1 := H6.h0.cell 1
      simp at u0 u1
      go_wp2
      exact bodyPost_ret (v := .tuple #[.agg #[.int .i64 6, .slice A j cv], .bool true]) (by simp [results, Tryz.results158, go_sem, u0, u1]) rfl ⟨_, _, rfl, H6.g2.oi, H6.below⟩
set_option maxRecDepth 100000 in
theorem rectI_c (a b : Nat) (w : World) (ha : 1 ≤ a ∧ a ≤ 6) (hb : 1 ≤ b ∧ b ≤ 6) :
    Calls Tryz.prog 158 #[.int .i64 (a : Int), .int .i64 (b : Int)] w fun e w' => ∃ A c, e = .returned (.tuple #[.agg #[.int .i64 (a : Int), .slice A b c], .bool true]) ∧ OI w' w.heap.size w'.heap.size 3 1 (.slice A b c) b (ic (List.replicate b (2 ^ a - 1))) ∧ Below w.heap.size w w' := by
  have hx : a = 1 ∨ a = 2 ∨ a = 3 ∨ a = 4 ∨ a = 5 ∨ a = 6 := by omega
  rcases hx with rfl | rfl | rfl | rfl | rfl | rfl
  · exact rectI_1 b w hb.1 hb.2
  · exact rectI_2 b w hb.1 hb.2
  · exact rectI_3 b w hb.1 hb.2
  · exact rectI_4 b w hb.1 hb.2
  · exact rectI_5 b w hb.1 hb.2
  · exact rectI_6 b w hb.1 hb.2
/-- what a rectangle's value says -/
theorem rect_rd {w : World} {a b c : Nat} {A : Option Addr} (o : w.ownsRow 0 3 1 (.slice A b c) b (ic (List.replicate b (2 ^ a - 1)))) : RegRd w 0 w.heap.size (.agg #[.int .i64 (a : Int), .slice A b c]) (rectR a b) := by
  have h0 : IntsIn w 0 w.heap.size (.slice A b c) (List.replicate b (2 ^ a - 1)) := by
    unfold IntsIn
    rw [List.length_replicate]
    exact ⟨o, fun k hk => own_lt o k hk⟩
  exact ⟨_, rfl, IntsIn.rd h0⟩
theorem tilesB_no {s : List Cell} {p : Nat × Nat} (h : isShape s = false) : tilesB s p = false := by simp [tilesB, h]
theorem tilesB_mod {s : List Cell} {p : Nat × Nat} (h : ¬ (p.1 * p.2) % s.length = 0) : tilesB s p = false := by simp [tilesB, h]
theorem tilesB_yes {s : List Cell} {p : Nat × Nat} (h : isShape s = true) (h2 : (p.1 * p.2) % s.length = 0) : tilesB s p = findB (rectR p.1 p.2) [s] := by simp [tilesB, h, h2]
theorem shape_len {s : List Cell} (h : isShape s = true) : 1 ≤ s.length ∧ s.length ≤ 8 := by
  unfold isShape at h
  simp only [Bool.and_eq_true] at h
  have := inR_iff.1 h.2
  omega
theorem mul_small {a b : Nat} (ha : 1 ≤ a ∧ a ≤ 6) (hb : 1 ≤ b ∧ b ≤ 6) : a * b ≤ 36 ∧ IntKind.i64.wrap ((a : Int) * (b : Int)) = ((a * b : Nat) : Int) := by
  have h : a * b ≤ 6 * 6 := Nat.mul_le_mul ha.2 hb.2
  refine ⟨h, ?_⟩
  rw [← Int.natCast_mul]
  exact IntWalk.i64_in _ (by omega)
set_option maxRecDepth 100000 in
set_option maxHeartbeats 800000 in
theorem spec_tiles_c {v : Value} {s : List Cell} (a b : Nat) (w : World) (h : CellsRd w 0 w.heap.size v s) (hl : s.length ≤ 1048576) (ha : 1 ≤ a ∧ a ≤ 6) (hb : 1 ≤ b ∧ b ≤ 6) :
    Calls Tryz.prog 111 #[v, .int .i64 (a : Int), .int .i64 (b : Int)] w fun e w' => e = .returned (.bool (tilesB s (a, b))) ∧ Below w.heap.size w w' := by
  have HT : Hid (∀ w1 g A c, Below w.heap.size w w1 → RegRd w1 0 w1.heap.size (.agg #[.int .i64 (a : Int), .slice A b c]) (rectR a b) → Blk w1 g 25 #[v] → Calls Tryz.prog 148 #[.agg #[.int .i64 (a : Int), .slice A b c], .slice (some ⟨g, 0, none⟩) 1 1] w1 fun e w' => e = .returned (.bool (findB (rectR a b) [s])) ∧ Below w1.heap.size w1 w') := Lib.hid fun w1 g A c b1 hr hbk =>
    spec_hasT_c (ps := [s]) w1 hr (one_ssRd hbk (cells_keep h b1)) (by show 1 ≤ 1048576; omega) (fun t ht => by rw [List.mem_singleton] at ht; rw [ht]; exact hl)
  have HSH : Hid (∀ w1, Below w.heap.size w w1 → Calls Tryz.prog 18 #[v] w1 fun e w' => e = .returned (.bool (isShape s)) ∧ Below w1.heap.size w1 w') := Lib.hid fun w1 b1 => spec_isShape_c w1 (cells_keep h b1) hl
  have HRC := Lib.hid (rect_c a b w ha hb)
  obtain ⟨hm36, hmw⟩ := mul_small ha hb
  obtain ⟨R, hR⟩ : ∃ R, R = tilesB s (a, b) := ⟨_, rfl⟩
  rw [← hR]
  have HR := Lib.hid hR
  obtain ⟨A1, c1, rfl, _, _⟩ := h
  clear hR
  go_enter Tryz.func111, Tryz.ntmps111
  go_wp2_with fail
  refine (HRC.out).mono ?_
  rintro e w1 ⟨A, c, rfl, o1, b1⟩
  have H1 := ((Sep.start w).oiNew b1 o1).box 36 #[.int .i64 a, .slice A b c]
  have HC1 := Lib.hid (HSH.out _ H1.below)
  clear o1 b1 HRC HSH
  go_wp2_with fail
  refine (HC1.out).mono ?_
  rintro e w2 ⟨rfl, b2⟩
  have H2 := H1.step b2
  clear H1 HC1 b2
  cases hsh : isShape s
  · obtain rfl : R = false := by rw [HR.out, tilesB_no hsh]
    have hB := H2.below
    clear hsh
    go_wp2
    go_ret
    exact ⟨rfl, hB⟩
  · by_cases hmod : (a * b) % s.length = 0
    · obtain rfl : R = findB (rectR a b) [s] := by rw [HR.out, tilesB_yes hsh hmod]
      have hsl := shape_len hsh
      obtain ⟨n, hn⟩ : ∃ n, n = s.length := ⟨_, rfl⟩
      obtain ⟨q, hq⟩ : ∃ q, q = a * b := ⟨_, rfl⟩
      rw [← hn] at hsl hmod HT ⊢
      rw [← hq] at hmod hmw
      have hrem : Int.tmod (q : Int) (n : Int) = ((q % n : Nat) : Int) := Int.ofNat_tmod q n
      rw [hmod] at hrem
      have H3 := H2.box 25 #[.slice A1 n c1]
      have c0 : w2.cell? ⟨w1.heap.size, 0, none⟩ = some (.int .i64 a) := H2.h0.cell 0
      have c1' : w2.cell? ⟨w1.heap.size, 1, none⟩ = some (.slice A b c) := H2.h0.cell 1
      have HC2 := Lib.hid (HT.out _ _ A c H3.below (rect_rd H3.h2) H3.h0)
      clear hsh hn hq hm36 HT H2
      go_wp2_with fail
      refine (HC2.out).mono ?_
      rintro e w3 ⟨rfl, b3⟩
      have hB := H3.below.trans (b3.mono H3.size)
      clear H3 b3 HC2 c0 c1'
      go_wp2
      go_ret
      exact ⟨rfl, hB⟩
    · obtain rfl : R = false := by rw [HR.out, tilesB_mod hmod]
      have hB := H2.below
      have hsl := shape_len hsh
      obtain ⟨n, hn⟩ : ∃ n, n = s.length := ⟨_, rfl⟩
      obtain ⟨q, hq⟩ : ∃ q, q = a * b := ⟨_, rfl⟩
      rw [← hn] at hsl hmod ⊢
      rw [← hq] at hmod hmw
      have hrem : Int.tmod (q : Int) (n : Int) = ((q % n : Nat) : Int) := Int.ofNat_tmod q n
      obtain ⟨t, ht⟩ : ∃ t, t = q % n := ⟨_, rfl⟩
      rw [← ht] at hmod hrem
      have hmodi : ¬ (t : Int) = 0 := by omega
      clear hsh hn hq ht hm36
      go_wp2
      go_ret
      exact ⟨rfl, hB⟩
end Go.Proofs.YtjkppigjajknaaaGreatDoor

namespace Go.Proofs.YtjkppigjajknaaaGreatDoor
open Go.RowKit

set_option maxRecDepth 100000 in
set_option maxHeartbeats 800000 in
theorem impl_tiles_c {v : Value} {s : List Cell} (a b : Nat) (w : World) (h : CellsRd w 0 w.heap.size v s) (hl : s.length ≤ 1048576) (ha : 1 ≤ a ∧ a ≤ 6) (hb : 1 ≤ b ∧ b ≤ 6) (ht : Tab64 w) :
    Calls Tryz.prog 122 #[v, .int .i64 (a : Int), .int .i64 (b : Int)] w fun e w' => e = .returned (.bool (findB (rectR a b) [s])) ∧ Below w.heap.size w w' := by
  have HT : Hid (∀ w1 g A c, Below w.heap.size w w1 → RegRd w1 0 w1.heap.size (.agg #[.int .i64 (a : Int), .slice A b c]) (rectR a b) → Blk w1 g 25 #[v] → Calls Tryz.prog 159 #[.agg #[.int .i64 (a : Int), .slice A b c], .slice (some ⟨g, 0, none⟩) 1 1] w1 fun e w' => e = .returned (.bool (findB (rectR a b) [s])) ∧ Below w1.heap.size w1 w') := Lib.hid fun w1 g A c b1 hr hbk =>
    impl_hasT_c (ps := [s]) w1 hr (one_ssRd hbk (cells_keep h b1)) (by show 1 ≤ 1048576; omega) (fun t ht => by rw [List.mem_singleton] at ht; rw [ht]; exact hl) (tab64_on ht b1)
  have HRC := Lib.hid (rectI_c a b w ha hb)
  obtain ⟨R, hR⟩ : ∃ R, R = findB (rectR a b) [s] := ⟨_, rfl⟩
  rw [← hR] at HT ⊢
  obtain ⟨n, hn⟩ : ∃ n, n = s.length := ⟨_, rfl⟩
  obtain ⟨A1, c1, rfl, _, _⟩ := h
  rw [← hn] at HT ⊢
  clear hR hn ht hl
  go_enter Tryz.func122, Tryz.ntmps122
  go_wp2_with fail
  refine (HRC.out).mono ?_
  rintro e w1 ⟨A, c, rfl, o1, b1⟩
  have H1 := ((Sep.start w).oiNew b1 o1).box 36 #[.int .i64 a, .slice A b c]
  have H3 := H1.box 25 #[.slice A1 n c1]
  simp only [World.size_alloc] at H3
  have HC2 := Lib.hid (HT.out _ _ A c H3.below (rect_rd H3.h2) H3.h0)
  have c0 := H1.h0.cell 0
  have c1' := H1.h0.cell 1
  simp at c0 c1'
  clear o1 b1 HRC HT H1
  go_wp2_with fail
  refine (HC2.out).mono ?_
  rintro e w3 ⟨rfl, b3⟩
  have hB := H3.below.trans (b3.mono H3.size)
  clear H3 b3 HC2 c0 c1'
  go_wp2
  go_ret
  exact ⟨rfl, hB⟩
end Go.Proofs.YtjkppigjajknaaaGreatDoor

namespace Go.Proofs.YtjkppigjajknaaaGreatDoor
open Go.RowKit

theorem ocT {v : Value} (h : v.oneCell' = true) : ∀ u ∈ [v], u.oneCell' = true := by intro u hu; simp at hu; subst hu; exact h
set_option maxRecDepth 100000 in
set_option maxHeartbeats 1600000 in
theorem spec_rects_c {v : Value} {s : List Cell} (w : World) (h : CellsRd w 0 w.heap.size v s) (hl : s.length ≤ 1048576)  :
    Calls Tryz.prog 62 #[v] w fun e w' => ∃ u vs, e = .returned u ∧ Sep w w' [Res.row u 29 1 (rectsT s).length vs, Res.rows vs (rowsP (rectsT s))] := by
  obtain ⟨i0, hi, hz0, hz1, hz2⟩ := info_parts infoRowT
  obtain ⟨f, hf⟩ : ∃ f, f = tilesB s := ⟨_, rfl⟩
  have HS : Hid (∀ w1, Below w.heap.size w w1 → Calls Tryz.prog 18 #[v] w1 fun e w' => e = .returned (.bool (isShape s)) ∧ Below w1.heap.size w1 w') := Lib.hid fun w1 b1 => spec_isShape_c w1 (cells_keep h b1) hl
  have HT : Hid (∀ w1 (a b : Nat), Below w.heap.size w w1 → (1 ≤ a ∧ a ≤ 6) → (1 ≤ b ∧ b ≤ 6) → Calls Tryz.prog 111 #[v, .int .i64 (a : Int), .int .i64 (b : Int)] w1 fun e w' => e = .returned (.bool (f (a, b))) ∧ Below w1.heap.size w1 w') := Lib.hid fun w1 a b b1 ha hb => by
    rw [hf]; exact spec_tiles_c a b w1 (cells_keep h b1) hl ha hb
  have HNO : Hid (isShape s = false → f = fun _ => false) := Lib.hid fun hs => by
    rw [hf]; funext p; exact tilesB_no hs
  have HLEN : Hid (isShape s = true → 1 ≤ s.length ∧ s.length ≤ 8) := Lib.hid fun hs => shape_len hs
  obtain ⟨R, hR⟩ : ∃ R, R = rectsT s := ⟨_, rfl⟩
  have HR : Hid (R = uptoP f 6 6) := Lib.hid (by rw [hR, hf, uptoP_end]; rfl)
  have HF := Lib.hid hf
  rw [← hR]
  have H0 : Sep w (w.alloc (.cells #[] 29)) [Res.row (.slice (some ⟨w.heap.size, 0, none⟩) 0 0) 29 1 0 [], Res.rows [] []] := ((Sep.start w).rowBox 29 #[] 1 0 rfl (by decide)).rowsNil.p1
  obtain ⟨A1, c1, rfl, _, _⟩ := h
  obtain ⟨n, hn⟩ : ∃ n, n = s.length := ⟨_, rfl⟩
  rw [← hn] at HS HT HLEN ⊢
  have HN := Lib.hid hn
  clear hf hR hn
  go_enter Tryz.func62, Tryz.ntmps62
  go_wp2
  go_loopw [3, 4] (fun ov av wx => ∃ (a : Nat) (vs : List Value), 1 ≤ a ∧ a ≤ 6 ∧ av = .int .i64 a ∧ Sep w wx [Res.row ov 29 1 (uptoP f a a).length vs, Res.rows vs (rowsP (uptoP f a a))]) (fun _ av _ => 6 - (intOf av).toNat)
  case atStart => exact ⟨1, [], Nat.le_refl _, by omega, rfl, by rw [uptoP_start]; exact H0⟩
  case round =>
    clear H0
    obtain ⟨a, vs, ha1, ha6, rfl, H⟩ := hrel
    by_cases hlt : a ≤ 5
    · have hlti : (a : Int) ≤ 5 := by omega
      have HC1 := Lib.hid (HS.out _ H.below)
      go_wp2_with fail
      refine (HC1.out).mono ?_
      rintro e w1 ⟨rfl, b1⟩
      replace H := H.step b1
      clear b1 HC1
      cases hsh : isShape s
      · have HF0 := HNO.out hsh
        have e6 : uptoP f a a = [] ∧ R = [] := by
          rw [HR.out, HF0]
          exact ⟨List.filter_eq_nil_iff.2 (fun p _ => by simp), List.filter_eq_nil_iff.2 (fun p _ => by simp)⟩
        rw [e6.1, ← e6.2] at H
        have HH := Lib.hid H
        clear HF0 e6 hsh H
        go_wp2
        go_ret
        exact ⟨_, vs, rfl, HH.out⟩
      clear hsh
      go_wp2
      go_loopw [3, 5] (fun ov bv wx => ∃ (b : Nat) (vs : List Value), a ≤ b ∧ b ≤ 6 ∧ bv = .int .i64 b ∧ Sep w wx [Res.row ov 29 1 (uptoP f a b).length vs, Res.rows vs (rowsP (uptoP f a b))]) (fun _ bv _ => 6 - (intOf bv).toNat)
      case atStart => exact ⟨a, vs, Nat.le_refl _, ha6, rfl, H⟩
      case round =>
        clear H
        obtain ⟨b, vs, hab, hb6, rfl, H⟩ := hrel
        by_cases hlb : b ≤ 5
        · have hlbi : (b : Int) ≤ 5 := by omega
          have hst : Hid (uptoP f a (b + 1) = uptoP f a b ++ if f (a, b) then [(a, b)] else []) := Lib.hid (uptoP_step f ha1 hab hlb)
          have HL15 := uptoP_len f a b
          have HC1 := Lib.hid (HT.out _ a b H.below ⟨ha1, by omega⟩ ⟨by omega, by omega⟩)
          go_wp2_with fail
          refine (HC1.out).mono ?_
          rintro e w2 ⟨rfl, b2⟩
          have H2 := H.step b2
          clear H b2 HC1
          cases hft : f (a, b)
          · have HSN : Hid (uptoP f a (b + 1) = uptoP f a b) := Lib.hid (by rw [hst.out, if_neg (by rw [hft]; exact Bool.false_ne_true), List.append_nil])
            rw [← HSN.out] at H2
            go_wp2
            go_roundw
            case rel => exact ⟨b + 1, vs, by omega, by omega, by go_num, H2⟩
            case measure => simp [intOf]; omega
          · have H3 : Sep w _ (Res.row _ 3 1 2 (ic (rowP (a, b))) :: _) := H2.rowBox 3 #[.int .i64 (a : Int), .int .i64 (b : Int)] 1 2 rfl (by decide)
            have HFR := Rd.fresh (w2.alloc (.cells #[.int .i64 (a : Int), .int .i64 (b : Int)] 3)) 29 #[.slice (some ⟨w2.heap.size, 0, none⟩) 2 2] 1 1 rfl
            simp only [World.size_alloc] at HFR
            go_wp2_with (at_builtin; refine wpList_app rfl _ _ 70 rfl 29 i0 _ 1 24 Tryz.underlying70 hi hz0 hz1 hz2 rfl (by decide) _ _ _ rfl (H3.g1.alloc _) _ _ _ [.slice (some ⟨w2.heap.size, 0, none⟩) 2 2] rfl HFR (ocT rfl) (by unfold maxLen; omega) (by omega) ?_; intro v4 w4 H4; clear H3 HFR)
            have H5 := (H4.g1.g2.rowsSnoc (r := rowP (a, b)) rfl).p1
            rw [← rowsP_snoc] at H5
            have HSN : Hid (uptoP f a (b + 1) = uptoP f a b ++ [(a, b)]) := Lib.hid (by rw [hst.out, if_pos hft])
            have HSL : Hid ((uptoP f a b).length + 1 = (uptoP f a (b + 1)).length) := Lib.hid (by rw [HSN.out, List.length_append]; rfl)
            rw [← HSN.out, HSL.out] at H5
            clear H4
            go_wp2
            go_roundw
            case rel => exact ⟨b + 1, _, by omega, by omega, by go_num, H5⟩
            case measure => simp [intOf]; omega
        · have hlbi : ¬ (b : Int) ≤ 5 := by omega
          obtain rfl : b = 6 := by omega
          have HRW := Lib.hid (uptoP_row f ha1 hlt)
          rw [HRW.out] at H
          go_wp2
          go_roundw
          case rel => exact ⟨a + 1, vs, by omega, by omega, by go_num, H⟩
          case measure => simp [intOf]; omega
    · have hlti : ¬ (a : Int) ≤ 5 := by omega
      obtain rfl : a = 6 := by omega
      rw [← HR.out] at H
      go_wp2
      refine bodyPost_ret (results_tmp rfl _ _ _) rfl ?_
      first | exact ⟨_, vs, rfl, H⟩ | exact ⟨_, rfl, vs, H⟩
end Go.Proofs.YtjkppigjajknaaaGreatDoor

namespace Go.Proofs.YtjkppigjajknaaaGreatDoor
open Go.RowKit

set_option maxRecDepth 100000 in
set_option maxHeartbeats 1600000 in
theorem impl_rects_c {v : Value} {s : List Cell} (w : World) (h : CellsRd w 0 w.heap.size v s) (hl : s.length ≤ 1048576) (ht : Tab64 w) :
    Calls Tryz.prog 73 #[v] w fun e w' => ∃ u vs, e = .returned u ∧ Sep w w' [Res.row u 29 1 (rectsT s).length vs, Res.rows vs (rowsP (rectsT s))] := by
  obtain ⟨i0, hi, hz0, hz1, hz2⟩ := info_parts infoRowT
  obtain ⟨f, hf⟩ : ∃ f, f = tilesB s := ⟨_, rfl⟩
  have HS : Hid (∀ w1, Below w.heap.size w w1 → Calls Tryz.prog 27 #[v] w1 fun e w' => e = .returned (.bool (isShape s)) ∧ Below w1.heap.size w1 w') := Lib.hid fun w1 b1 => impl_isShape_c w1 (cells_keep h b1) hl
  have HT : Hid (∀ w1 (a b : Nat), Below w.heap.size w w1 → (1 ≤ a ∧ a ≤ 6) → (1 ≤ b ∧ b ≤ 6) → Calls Tryz.prog 122 #[v, .int .i64 (a : Int), .int .i64 (b : Int)] w1 fun e w' => e = .returned (.bool (findB (rectR a b) [s])) ∧ Below w1.heap.size w1 w') := Lib.hid fun w1 a b b1 ha hb => by
    exact impl_tiles_c a b w1 (cells_keep h b1) hl ha hb (tab64_on ht b1)
  have HNO : Hid (isShape s = false → f = fun _ => false) := Lib.hid fun hs => by
    rw [hf]; funext p; exact tilesB_no hs
  have HLEN : Hid (isShape s = true → 1 ≤ s.length ∧ s.length ≤ 8) := Lib.hid fun hs => shape_len hs
  obtain ⟨R, hR⟩ : ∃ R, R = rectsT s := ⟨_, rfl⟩
  have HR : Hid (R = uptoP f 6 6) := Lib.hid (by rw [hR, hf, uptoP_end]; rfl)
  have HF := Lib.hid hf
  rw [← hR]
  have H0 : Sep w w [Res.row (.slice none 0 0) 29 1 0 [], Res.rows [] []] := (Sep.start w).rowsNil.nil 29 1
  obtain ⟨A1, c1, rfl, _, _⟩ := h
  obtain ⟨n, hn⟩ : ∃ n, n = s.length := ⟨_, rfl⟩
  rw [← hn] at HS HT HLEN ⊢
  have HN := Lib.hid hn
  clear hf hR hn
  go_enter Tryz.func73, Tryz.ntmps73
  go_wp2
  go_loopw [3, 4] (fun ov av wx => ∃ (a : Nat) (vs : List Value), 1 ≤ a ∧ a ≤ 6 ∧ av = .int .i64 a ∧ Sep w wx [Res.row ov 29 1 (uptoP f a a).length vs, Res.rows vs (rowsP (uptoP f a a))]) (fun _ av _ => 6 - (intOf av).toNat)
  case atStart => exact ⟨1, [], Nat.le_refl _, by omega, rfl, by rw [uptoP_start]; exact H0⟩
  case round =>
    clear H0
    obtain ⟨a, vs, ha1, ha6, rfl, H⟩ := hrel
    by_cases hlt : a ≤ 5
    · have hlti : (a : Int) ≤ 5 := by omega
      go_wp2
      go_loopw [3, 5] (fun ov bv wx => ∃ (b : Nat) (vs : List Value), a ≤ b ∧ b ≤ 6 ∧ bv = .int .i64 b ∧ Sep w wx [Res.row ov 29 1 (uptoP f a b).length vs, Res.rows vs (rowsP (uptoP f a b))]) (fun _ bv _ => 6 - (intOf bv).toNat)
      case atStart => exact ⟨a, vs, Nat.le_refl _, ha6, rfl, H⟩
      case round =>
        clear H
        obtain ⟨b, vs, hab, hb6, rfl, H⟩ := hrel
        by_cases hlb : b ≤ 5
        · have hlbi : (b : Int) ≤ 5 := by omega
          have hst : Hid (uptoP f a (b + 1) = uptoP f a b ++ if f (a, b) then [(a, b)] else []) := Lib.hid (uptoP_step f ha1 hab hlb)
          have HL15 := uptoP_len f a b
          have HC1 := Lib.hid (HS.out _ H.below)
          go_wp2_with fail
          refine (HC1.out).mono ?_
          rintro e w1 ⟨rfl, b1⟩
          replace H := H.step b1
          clear b1 HC1
          obtain ⟨hm36, hmw⟩ := mul_small (a := a) (b := b) ⟨ha1, by omega⟩ ⟨by omega, by omega⟩
          cases hsh : isShape s
          · have hft : f (a, b) = false := by rw [HNO.out hsh]
            have H2 := H
            have hft := Lib.hid hft
            clear H hsh hmw hm36
            have HSN : Hid (uptoP f a (b + 1) = uptoP f a b) := Lib.hid (by rw [hst.out, if_neg (by rw [hft.out]; exact Bool.false_ne_true), List.append_nil])
            rw [← HSN.out] at H2
            go_wp2
            go_roundw
            case rel => exact ⟨b + 1, vs, by omega, by omega, by go_num, H2⟩
            case measure => simp [intOf]; omega
          · have hsl := HLEN.out hsh
            obtain ⟨q, hq⟩ : ∃ q, q = a * b := ⟨_, rfl⟩
            have hrem : Int.tmod (q : Int) (n : Int) = ((q % n : Nat) : Int) := Int.ofNat_tmod q n
            rw [← hq] at hmw
            have HQ := Lib.hid hq
            by_cases hmod : q % n = 0
            · have hfe : Hid (f (a, b) = findB (rectR a b) [s]) := Lib.hid (by rw [HF.out]; exact tilesB_yes hsh (by rw [← HQ.out, ← HN.out]; exact hmod))
              have HC2 := HT.out _ a b H.below ⟨ha1, by omega⟩ ⟨by omega, by omega⟩
              rw [← hfe.out] at HC2
              have HC2 := Lib.hid HC2
              rw [hmod] at hrem
              clear hsh hq hm36
              go_wp2_with fail
              refine (HC2.out).mono ?_
              rintro e w2 ⟨rfl, b2⟩
              have H2 := H.step b2
              clear H b2 HC2 hrem hmw
              cases hft : f (a, b)
              · have HSN : Hid (uptoP f a (b + 1) = uptoP f a b) := Lib.hid (by rw [hst.out, if_neg (by rw [hft]; exact Bool.false_ne_true), List.append_nil])
                rw [← HSN.out] at H2
                go_wp2
                go_roundw
                case rel => exact ⟨b + 1, vs, by omega, by omega, by go_num, H2⟩
                case measure => simp [intOf]; omega
              · have H3 : Sep w _ (Res.row _ 3 1 2 (ic (rowP (a, b))) :: _) := H2.rowBox 3 #[.int .i64 (a : Int), .int .i64 (b : Int)] 1 2 rfl (by decide)
                have HFR := Rd.fresh (w2.alloc (.cells #[.int .i64 (a : Int), .int .i64 (b : Int)] 3)) 29 #[.slice (some ⟨w2.heap.size, 0, none⟩) 2 2] 1 1 rfl
                simp only [World.size_alloc] at HFR
                go_wp2_with (at_builtin; refine wpList_app rfl _ _ 70 rfl 29 i0 _ 1 24 Tryz.underlying70 hi hz0 hz1 hz2 rfl (by decide) _ _ _ rfl (H3.g1.alloc _) _ _ _ [.slice (some ⟨w2.heap.size, 0, none⟩) 2 2] rfl HFR (ocT rfl) (by unfold maxLen; omega) (by omega) ?_; intro v4 w4 H4; clear H3 HFR)
                have H5 := (H4.g1.g2.rowsSnoc (r := rowP (a, b)) rfl).p1
                rw [← rowsP_snoc] at H5
                have HSN : Hid (uptoP f a (b + 1) = uptoP f a b ++ [(a, b)]) := Lib.hid (by rw [hst.out, if_pos hft])
                have HSL : Hid ((uptoP f a b).length + 1 = (uptoP f a (b + 1)).length) := Lib.hid (by rw [HSN.out, List.length_append]; rfl)
                rw [← HSN.out, HSL.out] at H5
                clear H4
                go_wp2
                go_roundw
                case rel => exact ⟨b + 1, _, by omega, by omega, by go_num, H5⟩
                case measure => simp [intOf]; omega
            · have hft : f (a, b) = false := by rw [HF.out]; exact tilesB_mod (by rw [← HQ.out, ← HN.out]; exact hmod)
              have hft := Lib.hid hft
              obtain ⟨t, htt⟩ : ∃ t, t = q % n := ⟨_, rfl⟩
              rw [← htt] at hmod hrem
              have hmodi : ¬ (t : Int) = 0 := by omega
              have H2 := H
              clear hsh hq hm36 htt H
              have HSN : Hid (uptoP f a (b + 1) = uptoP f a b) := Lib.hid (by rw [hst.out, if_neg (by rw [hft.out]; exact Bool.false_ne_true), List.append_nil])
              rw [← HSN.out] at H2
              go_wp2
              go_roundw
              case rel => exact ⟨b + 1, vs, by omega, by omega, by go_num, H2⟩
              case measure => simp [intOf]; omega
        · have hlbi : ¬ (b : Int) ≤ 5 := by omega
          obtain rfl : b = 6 := by omega
          have HRW := Lib.hid (uptoP_row f ha1 hlt)
          rw [HRW.out] at H
          go_wp2
          go_roundw
          case rel => exact ⟨a + 1, vs, by omega, by omega, by go_num, H⟩
          case measure => simp [intOf]; omega
    · have hlti : ¬ (a : Int) ≤ 5 := by omega
      obtain rfl : a = 6 := by omega
      rw [← HR.out] at H
      go_wp2
      refine bodyPost_ret (results_tmp rfl _ _ _) rfl ?_
      first | exact ⟨_, vs, rfl, H⟩ | exact ⟨_, rfl, vs, H⟩
end Go.Proofs.YtjkppigjajknaaaGreatDoor

namespace Go.Proofs.YtjkppigjajknaaaGreatDoor
open Go.RowKit

theorem as_map {A : List (Nat × Nat)} : ∀ {vs : List Value}, A.Nodup → vs.length = A.length → ∃ f : Nat × Nat → Value, vs = A.map f := by
  induction A with
  | nil => intro vs _ h; exact ⟨fun _ => .slice none 0 0, List.length_eq_zero_iff.1 h⟩
  | cons a A ih =>
    intro vs hn h
    match vs, h with
    | v :: vs, h =>
      have hn' := List.nodup_cons.1 hn
      obtain ⟨f, rfl⟩ := ih hn'.2 (Nat.succ.inj h)
      refine ⟨fun p => if p = a then v else f p, ?_⟩
      rw [List.map_cons, if_pos rfl]
      congr 1
      apply List.map_congr_left
      intro p hp
      rw [if_neg (fun e => hn'.1 (by rw [← e]; exact hp))]
theorem rows_own {w : World} {A : List (Nat × Nat)} {f : Nat × Nat → Value} (h : RowsAt w (A.map f) (rowsP A)) {p : Nat × Nat} (hp : p ∈ A) : w.ownsRow 0 3 1 (f p) 2 (ic (rowP p)) := by
  obtain ⟨i, hi⟩ := List.getElem?_of_mem hp
  exact h.own i (f p) (rowP p) (by rw [List.getElem?_map, hi]; rfl) (rowsP_at hi)
theorem rowP_rd {w : World} {v : Value} {p : Nat × Nat} (h : w.ownsRow 0 3 1 v 2 (ic (rowP p))) : IntsRd w 0 w.heap.size v (rowP p) := IntsIn.rd (lo := 0) ⟨h, fun k hk => own_lt h k hk⟩
theorem rowP_eq (p q : Nat × Nat) : same (rowP p) (rowP q) = decide (p = q) := by
  unfold same
  by_cases h : p = q
  · subst h; simp
  · simp [h, rowP_same]
/-- some of the rows, read by another list -/
theorem rows_some {w0 w : World} {L : List Res} {A B : List (Nat × Nat)} {f : Nat × Nat → Value} {v : Value} {n : Nat} {e : TypeId} (h : Sep w0 w (Res.row v e 1 n (B.map f) :: L)) (hn : n = B.length) (hr : RowsAt w (A.map f) (rowsP A)) (hB : ∀ p ∈ B, p ∈ A) : IntSSRd w 0 w.heap.size v (rowsP B) := by
  subst hn
  refine ⟨B.map f, ?_, by simp [rowsP], fun i r hi => ?_⟩
  · rw [rowsP_len]
    exact (Sep.oi h).sr.more (Nat.zero_le _) (Nat.le_refl _)
  · rw [rowsP, List.getElem?_map] at hi
    obtain ⟨p, hp, rfl⟩ := Option.map_eq_some_iff.1 hi
    exact ⟨f p, by rw [List.getElem?_map, hp]; rfl, rowP_rd (rows_own hr (hB p (List.mem_of_getElem? hp)))⟩
/-- a row of a list of rows that is only read -/
theorem IntSSRd.at {w : World} {A : Option Addr} {n c : Nat} {M : List (List Int)} (h : IntSSRd w 0 w.heap.size (.slice A n c) M) {i : Nat} {r : List Int} (hi : M[i]? = some r) (h0 : 0 < r.length) :
    ∃ b off g o c', A = some ⟨b, off, none⟩ ∧ b < w.heap.size ∧ w.cell? ⟨b, off + i, none⟩ = some (.slice (some ⟨g, o, none⟩) r.length c') ∧ g < w.heap.size ∧ ∀ (j : Nat) (a : Int), r[j]? = some a → w.cell? ⟨g, o + j, none⟩ = some (.int .i64 a) := by
  obtain ⟨vs, ⟨A0, c0, e, _, hr⟩, hs⟩ := h
  injection e with e1 e2 e3
  subst e1 e3
  have hn : 0 < M.length := by have := (List.getElem?_eq_some_iff.1 hi).1; omega
  obtain ⟨b, off, rfl, _, hb, hc⟩ := hr.2 hn
  obtain ⟨x, hx, A', c', rfl, _, hr'⟩ := hs.2 i r hi
  obtain ⟨g, o, rfl, _, hg, hc'⟩ := hr'.2 h0
  exact ⟨b, off, g, o, c', rfl, hb, hc i _ hx, hg, fun j a ha => hc' j _ (ic_at ha)⟩
theorem leastP_take {L : List (Nat × Nat)} {i : Nat} {p : Nat × Nat} (h : L[i]? = some p) : leastP (L.take (i + 1)) = lessP (leastP (L.take i)) p := by
  rw [List.take_add_one, h]
  exact leastP_snoc
theorem leastP_at {L : List (Nat × Nat)} {i : Nat} {p : Nat × Nat} (h : L[i]? = some p) (h0 : 0 < i) : ∃ q, leastP (L.take i) = some q ∧ q ∈ L.take i := by
  have hl := (List.getElem?_eq_some_iff.1 h).1
  have hne : L.take i ≠ [] := fun e => by
    have := congrArg List.length e
    rw [List.length_take, List.length_nil] at this
    omega
  obtain ⟨q, hq⟩ := Option.isSome_iff_exists.1 (leastP_pos hne)
  exact ⟨q, hq, leastP_mem hq⟩
def p1 (o : Option (Nat × Nat)) : Nat := (o.getD (0, 0)).1
def p2 (o : Option (Nat × Nat)) : Nat := (o.getD (0, 0)).2
theorem mul55 {a b : Nat} (ha : a ≤ 5) (hb : b ≤ 5) : IntKind.i64.wrap ((a : Int) * (b : Int)) = ((a * b : Nat) : Int) := by
  have h : a * b ≤ 5 * 5 := Nat.mul_le_mul ha hb
  rw [← Int.natCast_mul]
  exact IntWalk.i64_in _ (by omega)
set_option maxRecDepth 100000 in
set_option maxHeartbeats 1600000 in
theorem least_c {v : Value} {L : List (Nat × Nat)} (w : World) (h : IntSSRd w 0 w.heap.size v (rowsP L)) (hu : UpP L) (hb : ∀ p ∈ L, 1 ≤ p.1 ∧ p.1 ≤ 5 ∧ 1 ≤ p.2 ∧ p.2 ≤ 5) (hl : L.length ≤ 25) :
    Calls Tryz.prog 72 #[v] w fun e w' => e = .returned (.tuple #[.int .i64 (p1 (leastP L) : Nat), .int .i64 (p2 (leastP L) : Nat), .bool (leastP L).isSome]) ∧ Below w.heap.size w w' := by
  obtain ⟨A, c, rfl⟩ : ∃ A c, v = .slice A L.length c := by
    obtain ⟨vs, ⟨A, c, e, _, _⟩, _⟩ := h
    exact ⟨A, c, by rw [e, rowsP_len]⟩
  have HAT : Hid (∀ (i : Nat) (p : Nat × Nat), L[i]? = some p → ∃ b off g o c', A = some ⟨b, off, none⟩ ∧ b < w.heap.size ∧ w.cell? ⟨b, off + i, none⟩ = some (.slice (some ⟨g, o, none⟩) 2 c') ∧ g < w.heap.size ∧ w.cell? ⟨g, o, none⟩ = some (.int .i64 p.1) ∧ w.cell? ⟨g, o + 1, none⟩ = some (.int .i64 p.2)) := Lib.hid fun i p hp => by
    obtain ⟨b, off, g, o, c', h1, h2, h3, h4, h5⟩ := h.at (rowsP_at hp) (by show 0 < 2; decide)
    exact ⟨b, off, g, o, c', h1, h2, h3, h4, h5 0 _ rfl, h5 1 _ rfl⟩
  have HU := Lib.hid hu
  have HBD := Lib.hid hb
  obtain ⟨n, hn⟩ : ∃ n, n = L.length := ⟨_, rfl⟩
  rw [← hn] at hl ⊢
  have HN := Lib.hid hn
  obtain ⟨R, hR⟩ : ∃ R, R = (leastP L).isSome := ⟨_, rfl⟩
  rw [← hR]
  have HR := Lib.hid hR
  clear h hu hb hn hR
  go_enter Tryz.func72, Tryz.ntmps72
  go_wp2
  go_loopw [5, 6, 13] (fun av bv iv wx => ∃ i la lb : Nat, i ≤ n ∧ iv = .int .i64 i ∧ av = .int .i64 la ∧ bv = .int .i64 lb ∧ Hid (la = p1 (leastP (L.take i))) ∧ Hid (lb = p2 (leastP (L.take i))) ∧ Below w.heap.size w wx) (fun _ _ iv _ => n - (intOf iv).toNat)
  case atStart => exact ⟨0, 0, 0, Nat.zero_le _, rfl, rfl, rfl, Lib.hid rfl, Lib.hid rfl, Below.refl _ _⟩
  case round =>
    obtain ⟨i, la, lb, hi, rfl, rfl, rfl, HA, HB, hbel⟩ := hrel
    by_cases hlt : i < n
    · obtain ⟨p, hp⟩ : ∃ p, L[i]? = some p := ⟨L[i]'(by rw [← HN.out]; exact hlt), List.getElem?_eq_getElem _⟩
      obtain ⟨b, off, g, o, c', rfl, hb, x1, hg, x2, x3⟩ := HAT.out i p hp
      have X1 := Lib.hid x1
      have X2 := Lib.hid x2
      have X3 := Lib.hid x3
      replace x1 := (hbel.cell (p := ⟨b, off + i, none⟩) hb).trans x1
      replace x2 := (hbel.cell (p := ⟨g, o, none⟩) hg).trans x2
      replace x3 := (hbel.cell (p := ⟨g, o + 1, none⟩) hg).trans x3
      obtain ⟨hp1, hp5, hq1, hq5⟩ := HBD.out p (List.mem_of_getElem? hp)
      have HP := Lib.hid hp
      have HK : Hid (0 < i → ∃ q, leastP (L.take i) = some q ∧ (1 ≤ q.1 ∧ q.1 ≤ 5 ∧ 1 ≤ q.2 ∧ q.2 ≤ 5) ∧ q.1 ≤ p.1) := Lib.hid fun h0 => by
        obtain ⟨q, h1, h2⟩ := leastP_at hp h0
        exact ⟨q, h1, HBD.out q (List.mem_of_mem_take h2), upP_take HU.out hp h2⟩
      obtain ⟨pa, pb⟩ := p
      simp only at hp1 hp5 hq1 hq5 x2 x3 HK
      obtain ⟨pr, hpr⟩ : ∃ k, k = pa * pb := ⟨_, rfl⟩
      have hw1 := mul55 hp5 hq5
      rw [← hpr] at hw1
      have hpr25 : pr ≤ 25 := by rw [hpr]; exact Nat.mul_le_mul hp5 hq5
      have HPR := Lib.hid hpr
      clear hpr
      rcases Nat.eq_zero_or_pos i with h0 | h0
      · have hla0 : la = 0 := by rw [HA.out, h0]; rfl
        have hlb0 : lb = 0 := by rw [HB.out, h0]; rfl
        subst hla0 hlb0
        have hi0 : ((i : Int) == 0) = true := by rw [h0]; rfl
        have hw2 : IntKind.i64.wrap (((0 : Nat) : Int) * ((0 : Nat) : Int)) = 0 := rfl
        obtain ⟨la2, hla⟩ : ∃ k, k = p1 (leastP (L.take (i + 1))) := ⟨_, rfl⟩
        obtain ⟨lb2, hlb⟩ : ∃ k, k = p2 (leastP (L.take (i + 1))) := ⟨_, rfl⟩
        obtain rfl : la2 = pa := by rw [hla, leastP_take HP.out, h0]; rfl
        obtain rfl : lb2 = pb := by rw [hlb, leastP_take HP.out, h0]; rfl
        have HA2 := Lib.hid hla
        have HB2 := Lib.hid hlb
        clear hla hlb
        clear hp HA HB HK h0
        go_wp2_with fail
        go_quiet (fail)
        have hbel2 := below_drewN hbel nq
        generalize wr.drewN nq = w2 at *
        clear x1 x2 x3
        have x1 := (hbel2.cell (p := ⟨b, off + i, none⟩) hb).trans X1.out
        have x2 := (hbel2.cell (p := ⟨g, o, none⟩) hg).trans X2.out
        have x3 := (hbel2.cell (p := ⟨g, o + 1, none⟩) hg).trans X3.out
        go_wp2_with fail
        go_quiet (fail)
        have hbel3 := below_drewN hbel2 nq
        generalize w2.drewN nq = w3 at *
        clear x1 x2 x3
        have x1 := (hbel3.cell (p := ⟨b, off + i, none⟩) hb).trans X1.out
        have x2 := (hbel3.cell (p := ⟨g, o, none⟩) hg).trans X2.out
        have x3 := (hbel3.cell (p := ⟨g, o + 1, none⟩) hg).trans X3.out
        clear x1 x2 x3 hi0 hw1 hw2
        go_wp2
        go_roundw
        case rel => exact ⟨i + 1, la2, lb2, by omega, by go_num, rfl, rfl, HA2, HB2, hbel3⟩
        case measure => simp [intOf]; omega
      · obtain ⟨⟨qa, qb⟩, hq, ⟨hqa1, hqa5, hqb1, hqb5⟩, hle⟩ := HK.out h0
        simp only at hqa1 hqa5 hqb1 hqb5 hle
        obtain rfl : la = qa := by rw [HA.out, hq]; rfl
        obtain rfl : lb = qb := by rw [HB.out, hq]; rfl
        have HQ := Lib.hid hq
        have hi0 : ((i : Int) == 0) = false := by simp; omega
        obtain ⟨qr, hqr⟩ : ∃ k, k = la * lb := ⟨_, rfl⟩
        have hw2 := mul55 hqa5 hqb5
        rw [← hqr] at hw2
        have hqr25 : qr ≤ 25 := by rw [hqr]; exact Nat.mul_le_mul hqa5 hqb5
        have HQR := Lib.hid hqr
        clear hqr hp HA HB HK hq
        by_cases hless : pr < qr
        · have hlessi : (pr : Int) < (qr : Int) := by omega
          obtain ⟨la2, hla⟩ : ∃ k, k = p1 (leastP (L.take (i + 1))) := ⟨_, rfl⟩
          obtain ⟨lb2, hlb⟩ : ∃ k, k = p2 (leastP (L.take (i + 1))) := ⟨_, rfl⟩
          obtain rfl : la2 = pa := by rw [hla, leastP_take HP.out, HQ.out, lessP, ← HPR.out, ← HQR.out, if_pos hless]; rfl
          obtain rfl : lb2 = pb := by rw [hlb, leastP_take HP.out, HQ.out, lessP, ← HPR.out, ← HQR.out, if_pos hless]; rfl
          have HA2 := Lib.hid hla
          have HB2 := Lib.hid hlb
          clear hla hlb
          go_wp2_with fail
          go_quiet (fail)
          have hbel2 := below_drewN hbel nq
          generalize wr.drewN nq = w2 at *
          clear x1 x2 x3
          have x1 := (hbel2.cell (p := ⟨b, off + i, none⟩) hb).trans X1.out
          have x2 := (hbel2.cell (p := ⟨g, o, none⟩) hg).trans X2.out
          have x3 := (hbel2.cell (p := ⟨g, o + 1, none⟩) hg).trans X3.out
          go_wp2_with fail
          go_quiet (fail)
          have hbel3 := below_drewN hbel2 nq
          generalize w2.drewN nq = w3 at *
          clear x1 x2 x3
          have x1 := (hbel3.cell (p := ⟨b, off + i, none⟩) hb).trans X1.out
          have x2 := (hbel3.cell (p := ⟨g, o, none⟩) hg).trans X2.out
          have x3 := (hbel3.cell (p := ⟨g, o + 1, none⟩) hg).trans X3.out
          clear x1 x2 x3 hi0 hw1 hw2
          go_wp2
          go_roundw
          case rel => exact ⟨i + 1, la2, lb2, by omega, by go_num, rfl, rfl, HA2, HB2, hbel3⟩
          case measure => simp [intOf]; omega
        · have hlessi : ¬ (pr : Int) < (qr : Int) := by omega
          have hnl : ¬ (pa : Int) < (la : Int) := by omega
          obtain ⟨la2, hla⟩ : ∃ k, k = p1 (leastP (L.take (i + 1))) := ⟨_, rfl⟩
          obtain ⟨lb2, hlb⟩ : ∃ k, k = p2 (leastP (L.take (i + 1))) := ⟨_, rfl⟩
          obtain rfl : la2 = la := by rw [hla, leastP_take HP.out, HQ.out, lessP, ← HPR.out, ← HQR.out, if_neg hless]; rfl
          obtain rfl : lb2 = lb := by rw [hlb, leastP_take HP.out, HQ.out, lessP, ← HPR.out, ← HQR.out, if_neg hless]; rfl
          have HA2 := Lib.hid hla
          have HB2 := Lib.hid hlb
          clear hla hlb
          by_cases heq : pr = qr
          · subst heq
            go_wp2_with fail
            go_quiet (fail)
            have hbel2 := below_drewN hbel nq
            generalize wr.drewN nq = w2 at *
            clear x1 x2 x3
            have x1 := (hbel2.cell (p := ⟨b, off + i, none⟩) hb).trans X1.out
            have x2 := (hbel2.cell (p := ⟨g, o, none⟩) hg).trans X2.out
            have x3 := (hbel2.cell (p := ⟨g, o + 1, none⟩) hg).trans X3.out
            go_wp2
            go_roundw
            case rel => exact ⟨i + 1, la2, lb2, by omega, by go_num, rfl, rfl, HA2, HB2, hbel2⟩
            case measure => simp [intOf]; omega
          · have heqi : ((pr : Int) == (qr : Int)) = false := by simp; omega
            go_wp2_with fail
            go_quiet (fail)
            have hbel2 := below_drewN hbel nq
            generalize wr.drewN nq = w2 at *
            clear x1 x2 x3
            have x1 := (hbel2.cell (p := ⟨b, off + i, none⟩) hb).trans X1.out
            have x2 := (hbel2.cell (p := ⟨g, o, none⟩) hg).trans X2.out
            have x3 := (hbel2.cell (p := ⟨g, o + 1, none⟩) hg).trans X3.out
            go_wp2
            go_roundw
            case rel => exact ⟨i + 1, la2, lb2, by omega, by go_num, rfl, rfl, HA2, HB2, hbel2⟩
            case measure => simp [intOf]; omega
    · obtain rfl : i = n := by omega
      obtain rfl : la = p1 (leastP L) := by rw [HA.out, HN.out, List.take_length]
      obtain rfl : lb = p2 (leastP L) := by rw [HB.out, HN.out, List.take_length]
      obtain rfl : R = decide (0 < i) := by
        rw [HR.out]
        by_cases h0 : i = 0
        · have : L = [] := List.eq_nil_of_length_eq_zero (by rw [← HN.out]; exact h0)
          subst this; subst h0; rfl
        · have : L ≠ [] := fun e => h0 (by rw [HN.out, e]; rfl)
          rw [leastP_pos this]
          simp; omega
      clear HAT HA HB HR
      go_wp2
      exact bodyPost_ret (results_tmp3 rfl _ _ _) rfl ⟨rfl, hbel⟩
end Go.Proofs.YtjkppigjajknaaaGreatDoor
