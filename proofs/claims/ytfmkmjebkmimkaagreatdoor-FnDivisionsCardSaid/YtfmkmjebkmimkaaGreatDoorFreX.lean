
/-
  Shapes of some cells, grown cell by cell, in plain Lean; the first of their kind. A shape taken out of a list of shapes that lie apart. No program in sight. Shapes with one cell more: the program's walks. All shapes with one cell more: the program's walk. Shapes of some cells: the program's walks. Shapes up to motions: the program's walks.
-/
import Derived.Test.YtfmkmjebkmimkaaGreatDoorOriX
import Derived.Deep.DeepCutAuto
import Derived.Test.YtfmkmjebkmimkaaGreatDoorRowX
namespace Go.Proofs.YtfmkmjebkmimkaaGreatDoor
open Go.RowKit

section
variable {w0 w w' : World} {L : List Res} {P Q : List (Value × List Cell)}
/-- some of the shapes alone -/
theorem Sep.shpsSub (h : Sep w0 w (Res.shps P :: L)) (hs : Q.Sublist P) : Sep w0 w (Res.shps Q :: L) :=
  ⟨⟨fun p hp => ShpsAt.own h.h0 p (hs.subset hp), (ShpsAt.apart h.h0).sublist hs⟩, fun b ⟨p, hp, hb⟩ => h.2.1 b ⟨p, hs.subset hp, hb⟩, fun q hq b ⟨p, hp, hb⟩ => h.2.2.1 q hq b ⟨p, hs.subset hp, hb⟩, h.drop⟩
/-- the first shape as a row of its own -/
theorem Sep.shpsHead {p : Value × List Cell} (h : Sep w0 w (Res.shps (p :: P) :: L)) : Sep w0 w (Res.row p.1 120 2 p.2.length (cc p.2) :: Res.shps P :: L) := by
  have h1 := h.shpsSub (Q := P) (List.sublist_cons_self p P)
  refine ⟨ShpsAt.own h.h0 p List.mem_cons_self, fun b hb => h.2.1 b ⟨p, List.mem_cons_self, hb⟩, fun q hq b hb hb' => ?_, h1⟩
  rcases List.mem_cons.1 hq with rfl | hq
  · obtain ⟨x, hx, hxb⟩ := hb'
    exact (List.pairwise_cons.1 (ShpsAt.apart h.h0)).1 x hx b hb hxb
  · exact h.2.2.1 q hq b ⟨p, List.mem_cons_self, hb⟩ hb'
end
def sidesI (c : Cell) : List Cell := [⟨c.x, c.y - 1⟩, ⟨c.x - 1, c.y⟩, ⟨c.x + 1, c.y⟩, ⟨c.x, c.y + 1⟩]
def sidesS (c : Cell) : List Cell := [⟨c.x + 1, c.y⟩, ⟨c.x, c.y + 1⟩, ⟨c.x - 1, c.y⟩, ⟨c.x, c.y - 1⟩]
theorem sides_mem {c d : Cell} : d ∈ sidesI c ↔ d ∈ sidesS c := by
  unfold sidesI sidesS
  simp only [List.mem_cons, List.not_mem_nil, or_false]
  constructor <;> (rintro (h | h | h | h) <;> simp [h])
def putL (M : List (List Cell)) (L : List (List Cell)) : List (List Cell) := L.foldl (fun M t => insS t M) M
theorem putL_snoc {M L : List (List Cell)} {t : List Cell} : putL M (L ++ [t]) = insS t (putL M L) := by simp [putL]
theorem mem_putL {t : List Cell} : ∀ {L M : List (List Cell)}, t ∈ putL M L ↔ t ∈ M ∨ t ∈ L
  | [], M => by simp [putL]
  | s :: L, M => by
    show t ∈ putL (insS s M) L ↔ _
    rw [mem_putL, mem_insS, List.mem_cons]
    constructor
    · rintro ((h | h) | h)
      · exact .inr (.inl h)
      · exact .inl h
      · exact .inr (.inr h)
    · rintro (h | h | h)
      · exact .inl (.inr h)
      · exact .inl (.inl h)
      · exact .inr h
theorem srt_putL : ∀ {L M : List (List Cell)}, SrtS M → SrtS (putL M L)
  | [], _, h => h
  | s :: L, M, h => srt_putL (L := L) (M := insS s M) (srtS_insS h)
theorem putL_len : ∀ {L M : List (List Cell)}, (putL M L).length ≤ M.length + L.length
  | [], _ => Nat.le_refl _
  | s :: L, M => by
    have h1 := putL_len (L := L) (M := insS s M)
    have h2 := insS_len (c := s) (l := M)
    show (putL (insS s M) L).length ≤ _
    rw [List.length_cons]
    omega
theorem putL_same {L K : List (List Cell)} (h : ∀ t, t ∈ L ↔ t ∈ K) : putL [] L = putL [] K :=
  srtS_ext (srt_putL List.Pairwise.nil) (srt_putL List.Pairwise.nil) fun t => by rw [mem_putL, mem_putL, h t]
/-- a shape with one cell more, in its corner -/
def extC (s : List Cell) (d : Cell) : List Cell := corner (sortC (s ++ [d]))
def extOk (s : List Cell) (d : Cell) : Bool := !decide (d ∈ s) && isShape (extC s d)
def extL (s D : List Cell) : List (List Cell) := (D.filter (extOk s)).map (extC s)
theorem extL_yes {s D : List Cell} {d : Cell} (h : extOk s d = true) : extL s (D ++ [d]) = extL s D ++ [extC s d] := by simp [extL, List.filter_append, h]
theorem extL_no {s D : List Cell} {d : Cell} (h : extOk s d = false) : extL s (D ++ [d]) = extL s D := by simp [extL, List.filter_append, h]
theorem extL_len {s D : List Cell} : (extL s D).length ≤ D.length := by rw [extL, List.length_map]; exact List.length_filter_le _ _
theorem mem_extL {s D : List Cell} {t : List Cell} : t ∈ extL s D ↔ ∃ d, d ∈ D ∧ extOk s d = true ∧ extC s d = t := by
  unfold extL
  rw [List.mem_map]
  constructor
  · rintro ⟨d, hd, e⟩
    have := List.mem_filter.1 hd
    exact ⟨d, this.1, this.2, e⟩
  · rintro ⟨d, h1, h2, e⟩
    exact ⟨d, List.mem_filter.2 ⟨h1, h2⟩, e⟩
theorem extL_row {s D : List Cell} {t : List Cell} (h : t ∈ putL [] (extL s D)) : isShape t = true := by
  rcases mem_putL.1 h with h | h
  · cases h
  · obtain ⟨d, _, h2, rfl⟩ := mem_extL.1 h
    exact (Bool.and_eq_true_iff.1 h2).2
def exts (s : List Cell) : List (List Cell) := putL [] (extL s (s.flatMap sidesS))
theorem exts_I (s : List Cell) : putL [] (extL s (s.flatMap sidesI)) = exts s := putL_same fun t => by
  rw [mem_extL, mem_extL]
  constructor
  · rintro ⟨d, h1, h2, e⟩
    obtain ⟨c, hc, hd⟩ := List.mem_flatMap.1 h1
    exact ⟨d, List.mem_flatMap.2 ⟨c, hc, sides_mem.1 hd⟩, h2, e⟩
  · rintro ⟨d, h1, h2, e⟩
    obtain ⟨c, hc, hd⟩ := List.mem_flatMap.1 h1
    exact ⟨d, List.mem_flatMap.2 ⟨c, hc, sides_mem.2 hd⟩, h2, e⟩
theorem extC_len {s : List Cell} {d : Cell} : (extC s d).length ≤ s.length + 1 := by
  unfold extC corner
  rw [shift_length]
  exact Nat.le_trans sortC_len (by simp)
theorem exts_row {s t : List Cell} (h : t ∈ exts s) : isShape t = true ∧ t.length ≤ s.length + 1 := by
  rcases mem_putL.1 h with h | h
  · cases h
  · obtain ⟨d, _, h2, rfl⟩ := mem_extL.1 h
    exact ⟨(Bool.and_eq_true_iff.1 h2).2, extC_len⟩
theorem flat_len {α β : Type} {f : α → List β} {k : Nat} (h : ∀ a, (f a).length ≤ k) : ∀ l : List α, (l.flatMap f).length ≤ l.length * k
  | [] => by simp
  | a :: l => by
    rw [List.flatMap_cons, List.length_append, List.length_cons, Nat.add_mul]
    have h1 := h a
    have h2 := flat_len h l
    omega
theorem flat_lenM {α β : Type} {f : α → List β} {k : Nat} : ∀ {l : List α}, (∀ a ∈ l, (f a).length ≤ k) → (l.flatMap f).length ≤ l.length * k
  | [], _ => by simp
  | a :: l, h => by
    rw [List.flatMap_cons, List.length_append, List.length_cons, Nat.add_mul]
    have h1 := h a List.mem_cons_self
    have h2 := flat_lenM (l := l) (k := k) (fun b hb => h b (List.mem_cons_of_mem _ hb))
    omega
theorem exts_len {s : List Cell} : (exts s).length ≤ s.length * 4 := by
  have h1 := putL_len (L := extL s (s.flatMap sidesS)) (M := [])
  have h2 := extL_len (s := s) (D := s.flatMap sidesS)
  have h3 := flat_len (f := sidesS) (k := 4) (fun _ => Nat.le_refl _) s
  rw [List.length_nil] at h1
  unfold exts
  omega
/-- the shapes of k + 1 cells -/
def grow1 (M : List (List Cell)) : List (List Cell) := putL [] (M.flatMap exts)
def fixedN : Nat → List (List Cell)
  | 0 => [[⟨0, 0⟩]]
  | k + 1 => grow1 (fixedN k)
theorem fixedN_row : ∀ (k : Nat) (t : List Cell), t ∈ fixedN k → isShape t = true ∧ t.length ≤ k + 1
  | 0, t, h => by
    rw [fixedN, List.mem_singleton] at h
    subst h
    exact ⟨by decide, by decide⟩
  | k + 1, t, h => by
    rcases mem_putL.1 h with h | h
    · cases h
    · obtain ⟨s, hs, ht⟩ := List.mem_flatMap.1 h
      have h1 := fixedN_row k s hs
      have h2 := exts_row ht
      exact ⟨h2.1, by omega⟩
theorem fixedN_flat {k : Nat} (hk : k ≤ 4) : ((fixedN k).flatMap exts).length ≤ (fixedN k).length * 20 := flat_lenM fun s hs => by
  have h1 := (fixedN_row k s hs).2
  have h2 := exts_len (s := s)
  omega
theorem fixedN_len : ∀ (k : Nat), k ≤ 4 → (fixedN k).length ≤ 20 ^ k
  | 0, _ => by decide
  | k + 1, hk => by
    have h1 := fixedN_len k (by omega)
    have h2 := fixedN_flat (k := k) (by omega)
    have h3 := putL_len (L := (fixedN k).flatMap exts) (M := [])
    rw [List.length_nil] at h3
    show (putL [] ((fixedN k).flatMap exts)).length ≤ 20 ^ (k + 1)
    rw [Nat.pow_succ]
    have h4 := Nat.mul_le_mul_right 20 h1
    omega
theorem pow20 {k : Nat} (hk : k ≤ 4) : 20 ^ k ≤ 160000 := Nat.le_trans (Nat.pow_le_pow_right (by decide) hk) (by decide)
theorem fixedN_srt : ∀ k, SrtS (fixedN k)
  | 0 => List.pairwise_singleton _ _
  | _ + 1 => srt_putL List.Pairwise.nil
def fixedS (n : Int) : List (List Cell) := if inR n 1 5 = true then fixedN (n.toNat - 1) else []
/-- the first among its turned ones -/
def firstS (s : List Cell) : Bool := (List.range 8).all fun m => !decide (cmpS (turnS m s) s < 0)
def freeS (n : Int) : List (List Cell) := (fixedS n).filter firstS
theorem fixedS_row {n : Int} {t : List Cell} (h : t ∈ fixedS n) : isShape t = true ∧ t.length ≤ 5 := by
  unfold fixedS at h
  split at h
  · rename_i hn
    have hn := inR_iff.1 hn
    have := fixedN_row _ t h
    exact ⟨this.1, by omega⟩
  · cases h
theorem fixedS_len {n : Int} : (fixedS n).length ≤ 160000 := by
  unfold fixedS
  split
  · rename_i hn
    have hn := inR_iff.1 hn
    exact Nat.le_trans (fixedN_len _ (by omega)) (pow20 (by omega))
  · simp
theorem firstTo_succ {s : List Cell} {k : Nat} : ((List.range (k + 1)).all fun m => !decide (cmpS (turnS m s) s < 0)) = (((List.range k).all fun m => !decide (cmpS (turnS m s) s < 0)) && !decide (cmpS (turnS k s) s < 0)) := by
  rw [List.range_succ, List.all_append]; simp
theorem cmp_le_iff {a b : List Cell} : decide (cmpS a b ≤ 0) = !decide (cmpS b a < 0) := by
  have h0 : cmpS a b = -cmpS b a := cmpS_neg b a
  by_cases h : cmpS a b ≤ 0
  · rw [decide_eq_true h, decide_eq_false (by omega)]; rfl
  · rw [decide_eq_false h, decide_eq_true (by omega)]; rfl
theorem filter_snoc {p : List Cell → Bool} {l : List (List Cell)} {k : Nat} {c : List Cell} (h : l[k]? = some c) : (l.take (k + 1)).filter p = (l.take k).filter p ++ if p c = true then [c] else [] := by
  rw [List.take_add_one, h, List.filter_append]
  cases hp : p c <;> simp [hp]
end Go.Proofs.YtfmkmjebkmimkaaGreatDoor

namespace Go.Proofs.YtfmkmjebkmimkaaGreatDoor
open Go.RowKit

set_option maxRecDepth 100000 in
theorem infoCellF : (Tryz.prog.info? 120).map (fun i => (i.zero, i.size, i.bytes)) = some (some (.agg #[.int .i64 0, .int .i64 0]), 2, 16) := by kernel_rfl
theorem cells_more {w w' : World} {v : Value} {l : List Cell} (h : CellsRd w 0 w.heap.size v l) (hb : Below w.heap.size w w') : CellsRd w' 0 w'.heap.size v l := (h.keep (SameIn.of_below hb (Nat.le_refl _))).more (Nat.le_refl _) hb.size
theorem cells_own {w : World} {v : Value} {s : List Cell} {d : Cell} (h : w.ownsRow 0 120 2 v (s.length + 1) (cc s ++ [.int .i64 d.x, .int .i64 d.y])) : CellsRd w 0 w.heap.size v (s ++ [d]) := by
  have : CellsIn w 0 w.heap.size v (s ++ [d]) := CellsIn.mk h (by simp) (by rw [cc_append]; rfl)
  exact this.rd
set_option maxRecDepth 100000 in
set_option maxHeartbeats 400000 in
theorem sides_c (c : Cell) (w : World) (hc : Sml 50 c) :
    Calls Tryz.prog 288 #[.agg #[.int .i64 c.x, .int .i64 c.y]] w fun e w' => ∃ A k, e = .returned (.slice A 4 k) ∧ OI w' w.heap.size w'.heap.size 120 2 (.slice A 4 k) 4 (cc (sidesI c)) ∧ Below w.heap.size w w' := by
  obtain ⟨⟨h1, h2⟩, h3, h4⟩ := hc
  have e1 : IntKind.i64.wrap (c.y - 1) = c.y - 1 := IntWalk.i64_in _ (by omega)
  have e2 : IntKind.i64.wrap (c.x - 1) = c.x - 1 := IntWalk.i64_in _ (by omega)
  have e3 : IntKind.i64.wrap (c.x + 1) = c.x + 1 := IntWalk.i64_in _ (by omega)
  have e4 : IntKind.i64.wrap (c.y + 1) = c.y + 1 := IntWalk.i64_in _ (by omega)
  have H := (Sep.start w).box 120 #[.int .i64 c.x, .int .i64 c.y]
  have H1 : Sep w _ (Res.row _ 120 2 4 (cc (sidesI c)) :: _) := H.rowBox 120 #[.int .i64 c.x, .int .i64 (c.y - 1), .int .i64 (c.x - 1), .int .i64 c.y, .int .i64 (c.x + 1), .int .i64 c.y, .int .i64 c.x, .int .i64 (c.y + 1)] 2 4 rfl (by decide)
  simp only [World.size_alloc] at H1
  clear H
  go_enter Tryz.func288, Tryz.ntmps288
  go_wp2
  go_ret
  exact ⟨_, _, rfl, H1.oi, H1.below⟩
set_option maxRecDepth 100000 in
set_option maxHeartbeats 400000 in
theorem copyCells_c {v : Value} {l : List Cell} (w : World) (h : CellsRd w 0 w.heap.size v l) (hn : l.length ≤ 1048576) :
    Calls Tryz.prog 290 #[v] w fun e w' => ∃ v', e = .returned v' ∧ CellsIn w' w.heap.size w'.heap.size v' l ∧ Below w.heap.size w w' := by
  obtain ⟨A, c, rfl, hm, hr⟩ := h
  obtain ⟨j0, hj, y0, y1, y2⟩ := info_parts infoCellF
  have H := (Sep.start w).nil 120 2
  go_enter Tryz.func290, Tryz.ntmps290
  go_wp2_with (at_builtin; refine wpList_app rfl _ _ 49 rfl 120 j0 _ 2 16 Tryz.underlying49 hj y0 y1 y2 rfl (by decide) _ _ _ rfl H A _ c (cc l) rfl hr cc_onec (by unfold maxLen; omega) (by omega) ?_; intro v' w' H1)
  go_ret
  exact ⟨v', rfl, CellsIn.mk H1.oi.1 (by simp) (by simp), H1.below⟩
theorem shape_sml {s : List Cell} (h : isShape s = true) {c : Cell} (hc : c ∈ s) : Sml 10 c := by
  obtain ⟨⟨h1, h2⟩, h3, h4⟩ := shp_on h hc
  exact ⟨⟨by omega, by omega⟩, ⟨by omega, by omega⟩⟩
theorem sides_sml {c d : Cell} (h : Sml 10 c) (hd : d ∈ sidesI c) : Sml 20 d := by
  obtain ⟨⟨h1, h2⟩, h3, h4⟩ := h
  unfold sidesI at hd
  simp only [List.mem_cons, List.not_mem_nil, or_false] at hd
  rcases hd with rfl | rfl | rfl | rfl <;> exact ⟨⟨by simp only; omega, by simp only; omega⟩, ⟨by simp only; omega, by simp only; omega⟩⟩
theorem snoc_sml {s : List Cell} (h : isShape s = true) {d : Cell} (hd : Sml 20 d) : ∀ c ∈ s ++ [d], Sml 50 c := by
  intro c hc
  rcases List.mem_append.1 hc with hc | hc
  · obtain ⟨⟨h1, h2⟩, h3, h4⟩ := shape_sml h hc
    exact ⟨⟨by omega, by omega⟩, ⟨by omega, by omega⟩⟩
  · rw [List.mem_singleton] at hc
    subst hc
    obtain ⟨⟨h1, h2⟩, h3, h4⟩ := hd
    exact ⟨⟨by omega, by omega⟩, ⟨by omega, by omega⟩⟩
theorem take_flat {s : List Cell} {i : Nat} {c : Cell} (h : s[i]? = some c) {f : Cell → List Cell} : (s.take (i + 1)).flatMap f = (s.take i).flatMap f ++ f c := by
  rw [List.take_add_one, h]
  simp [List.flatMap_append]
end Go.Proofs.YtfmkmjebkmimkaaGreatDoor

namespace Go.Proofs.YtfmkmjebkmimkaaGreatDoor
open Go.RowKit

set_option maxRecDepth 100000 in
set_option maxHeartbeats 3200000 in
theorem extsI_c {v : Value} {s : List Cell} (w : World) (h : CellsRd w 0 w.heap.size v s) (hsh : isShape s = true) :
    Calls Tryz.prog 271 #[v] w fun e w' => ∃ v' P, e = .returned v' ∧ P.map Prod.snd = exts s ∧ Sep w w' [Res.row v' 49 1 P.length (P.map Prod.fst), Res.shps P] := by
  obtain ⟨i0, hi, hz0, hz1, hz2⟩ := info_parts infoCellF
  have hl := shp_len hsh
  have HSD : Hid (∀ c ∈ s, ∀ w1, Calls Tryz.prog 288 #[.agg #[.int .i64 c.x, .int .i64 c.y]] w1 fun e w' => ∃ A k, e = .returned (.slice A 4 k) ∧ OI w' w1.heap.size w'.heap.size 120 2 (.slice A 4 k) 4 (cc (sidesI c)) ∧ Below w1.heap.size w1 w') := Lib.hid fun c hc w1 => sides_c c w1 (by
    obtain ⟨⟨h1, h2⟩, h3, h4⟩ := shape_sml hsh hc
    exact ⟨⟨by omega, by omega⟩, ⟨by omega, by omega⟩⟩)
  have HHC : Hid (∀ (d : Cell) w1, Below w.heap.size w w1 → Calls Tryz.prog 289 #[v, .int .i64 d.x, .int .i64 d.y] w1 fun e w' => e = .returned (.bool (decide (d ∈ s))) ∧ Below w1.heap.size w1 w') := Lib.hid fun d w1 b1 => impl_has2_c d.x d.y w1 (cells_more h b1) (by omega)
  have HCP : Hid (∀ w1, Below w.heap.size w w1 → Calls Tryz.prog 290 #[v] w1 fun e w' => ∃ v', e = .returned v' ∧ OI w' w1.heap.size w'.heap.size 120 2 v' s.length (cc s) ∧ Below w1.heap.size w1 w') := Lib.hid fun w1 b1 => copyCells_c w1 (cells_more h b1) (by omega)
  have HCO : Hid (∀ (d : Cell) (u : Value) w1, Sml 20 d → CellsRd w1 0 w1.heap.size u (s ++ [d]) → Calls Tryz.prog 257 #[u] w1 fun e w' => ∃ v', e = .returned v' ∧ OI w' w1.heap.size w'.heap.size 120 2 v' (extC s d).length (cc (extC s d)) ∧ Below w1.heap.size w1 w') := Lib.hid fun d u w1 hd hu => impl_corner_c w1 hu (by simp) (by simp; omega) (snoc_sml hsh hd)
  have HON : Hid (∀ c ∈ s, ∀ d ∈ sidesI c, Sml 20 d) := Lib.hid fun c hc d hd => sides_sml (shape_sml hsh hc) hd
  obtain ⟨A, c, rfl, hm, hr⟩ := h
  obtain ⟨n, hn⟩ : ∃ n, n = s.length := ⟨_, rfl⟩
  have HR := Lib.hid hr
  have HN := Lib.hid hn
  rw [← hn] at hl HHC HCP ⊢
  have H0 := ((Sep.start w).nil 49 1).shpsNil.p1
  clear hr hsh hm hn
  go_enter Tryz.func271, Tryz.ntmps271
  go_wp2
  go_loopw [3, 11] (fun ov iv wx => ∃ (i m : Nat) (P : List (Value × List Cell)), i ≤ n ∧ iv = .int .i64 i ∧ Hid (m = P.length) ∧ m ≤ 4 * i ∧ Hid (P.map Prod.snd = putL [] (extL s ((s.take i).flatMap sidesI))) ∧ Sep w wx [Res.row ov 49 1 m (P.map Prod.fst), Res.shps P]) (fun _ iv _ => n - (intOf iv).toNat)
  case atStart => exact ⟨0, 0, [], Nat.zero_le _, rfl, Lib.hid rfl, Nat.le_refl _, Lib.hid rfl, H0⟩
  case round =>
    clear H0
    obtain ⟨i, m, P, hin, rfl, HM, hmi, HP, H⟩ := hrel
    by_cases hlt : i < n
    · obtain ⟨b, off, cl, rfl, _, hb, hcl, q1, q2⟩ := (HR.out.below H.below (Nat.le_refl _)).at2 (by rw [← HN.out]; exact hlt)
      have HCL := Lib.hid (List.mem_of_getElem? hcl)
      have HTF : Hid ((s.take (i + 1)).flatMap sidesI = (s.take i).flatMap sidesI ++ sidesI cl) := Lib.hid (take_flat hcl)
      have HC1 := Lib.hid (HSD.out cl HCL.out (wr.alloc (.cells #[.int .i64 cl.x, .int .i64 cl.y] 120)))
      have H1 := H.box 120 #[.int .i64 cl.x, .int .i64 cl.y]
      clear hcl H
      go_wp2_with fail
      refine (HC1.out).mono ?_
      rintro e w2 ⟨Sd, ks, rfl, o2, b2⟩
      have H2 := H1.oiNew b2 o2
      obtain ⟨gS, oS, kS, he, hks, _, hgS⟩ := own_shape H2.h0 (by decide)
      injection he with he1 he2 he3
      subst he1 he3
      obtain ⟨D, hD⟩ : ∃ D, D = (s.take i).flatMap sidesI := ⟨_, rfl⟩
      rw [← hD] at HP HTF
      have H3 := H2.drop2.p2
      clear HC1 o2 b2 H1 H2 q1 q2 hD
      go_wp2
      go_loopw [3, 18] (fun ov jv wx => ∃ (j m : Nat) (P : List (Value × List Cell)), j ≤ 4 ∧ jv = .int .i64 j ∧ Hid (m = P.length) ∧ m ≤ 4 * i + j ∧ Hid (P.map Prod.snd = putL [] (extL s (D ++ (sidesI cl).take j))) ∧ Sep w wx [Res.row ov 49 1 m (P.map Prod.fst), Res.shps P, Res.row (.slice (some ⟨gS, oS, none⟩) 4 ks) 120 2 4 (cc (sidesI cl))]) (fun _ jv _ => 4 - (intOf jv).toNat)
      case atStart => exact ⟨0, m, P, Nat.zero_le _, rfl, HM, by omega, by rw [List.take_zero, List.append_nil]; exact HP, H3⟩
      case round =>
        clear H3 HM HP
        obtain ⟨j, m, P, hj4, rfl, HM, hmj, HP, H⟩ := hrel
        by_cases hlj : j < 4
        · obtain ⟨d, hd⟩ : ∃ d, (sidesI cl)[j]? = some d := ⟨(sidesI cl)[j]'hlj, List.getElem?_eq_getElem _⟩
          obtain ⟨q1, q2⟩ := own_cell2 H.h2 hd
          have HTJ : Hid (D ++ (sidesI cl).take (j + 1) = (D ++ (sidesI cl).take j) ++ [d]) := Lib.hid (by rw [List.take_add_one, hd, List.append_assoc]; rfl)
          have HSM := Lib.hid (HON.out cl HCL.out d (List.mem_of_getElem? hd))
          have H1 := H.box 120 #[.int .i64 d.x, .int .i64 d.y]
          have HC1 := Lib.hid (HHC.out d _ H1.below)
          obtain ⟨B7, hB7⟩ : ∃ B7, B7 = wr.heap.size := ⟨_, rfl⟩
          have HB7 := Lib.hid hB7
          clear hd H
          go_wp2_with fail
          refine (HC1.out).mono ?_
          rintro e w3 ⟨rfl, b3⟩
          have H3 := H1.step b3
          rw [← hB7] at H3
          rw [← hB7]
          clear HC1 b3 H1 q1 q2 hB7
          by_cases hds : d ∈ s
          · rw [decide_eq_true hds]
            have HP2 : Hid (P.map Prod.snd = putL [] (extL s (D ++ (sidesI cl).take (j + 1)))) := Lib.hid (by rw [HTJ.out, extL_no (by simp [extOk, hds])]; exact HP.out)
            have H4 := H3.drop
            clear hds H3
            go_wp2
            go_roundw
            case rel => exact ⟨j + 1, m, P, by omega, by go_num, HM, by omega, HP2, H4⟩
            case measure => simp [intOf]; omega
          · rw [decide_eq_false hds]
            have HDS := Lib.hid hds
            have c0 : w3.drew.cell? ⟨B7, 0, none⟩ = some (.int .i64 d.x) := H3.drew.h0.cell 0
            have c1 : w3.drew.cell? ⟨B7, 1, none⟩ = some (.int .i64 d.y) := H3.drew.h0.cell 1
            obtain ⟨T, hT⟩ : ∃ T, T = extC s d := ⟨_, rfl⟩
            have HCO2 : Hid (∀ (u : Value) w1, CellsRd w1 0 w1.heap.size u (s ++ [d]) → Calls Tryz.prog 257 #[u] w1 fun e w' => ∃ v', e = .returned v' ∧ OI w' w1.heap.size w'.heap.size 120 2 v' T.length (cc T) ∧ Below w1.heap.size w1 w') := Lib.hid fun u w1 hu => by rw [hT]; exact HCO.out d u w1 HSM.out hu
            have HTT := Lib.hid hT
            have BA : Below w.heap.size w w3.drew := H3.drew.below
            have BB : Below w.heap.size w (w3.alloc (.cells #[.int .i64 d.x, .int .i64 d.y] 120)).drew := (H3.alloc _).drew.below
            have hgB : B7 < w3.heap.size := H3.h0.lt
            have d0 : (w3.alloc (.cells #[.int .i64 d.x, .int .i64 d.y] 120)).drew.cell? ⟨B7, 0, none⟩ = some (.int .i64 d.x) := (H3.alloc _).drew.h0.cell 0
            have d1 : (w3.alloc (.cells #[.int .i64 d.x, .int .i64 d.y] 120)).drew.cell? ⟨B7, 1, none⟩ = some (.int .i64 d.y) := (H3.alloc _).drew.h0.cell 1
            clear hds hT
            go_wp2_with fail
            go_cut [8] (fun tv wx => ∃ A' c', tv = .slice A' T.length c' ∧ Sep w wx [Res.row (.slice A' T.length c') 120 2 T.length (cc T), Res.row u3 49 1 m (P.map Prod.fst), Res.shps P, Res.row (.slice (some ⟨gS, oS, none⟩) 4 ks) 120 2 4 (cc (sidesI cl))])
            case first =>
              go_region_held3 (fun w' => w'.cell? ⟨B7, 0, none⟩ = some (.int .i64 d.x) ∧ w'.cell? ⟨B7, 1, none⟩ = some (.int .i64 d.y))
                (first | ((try dsimp only); refine ⟨?_, ?_⟩ <;> assumption) | go_keep)
                ((first
                  | (go_at_call 290; (with_reducible refine (HCP.out _ BA).mono ?_); rintro e w4 ⟨u4, rfl, o4, b4⟩; have H4 := H3.drew.oiNew b4 o4; have c0' := H4.h1.cell 0; have c1' := H4.h1.cell 1; simp at c0' c1')
                  | (go_at_call 290; (with_reducible refine (HCP.out _ BB).mono ?_); rintro e w4 ⟨u4, rfl, o4, b4⟩; have H4 := (H3.rowBox 120 #[.int .i64 d.x, .int .i64 d.y] 2 1 rfl (by decide)).drew.oiNew b4 o4; have c0' := H4.h2.cell 0; have c1' := H4.h2.cell 1; simp at c0' c1')
                  | (refine step_app rfl (.tmp 29) (.tmp 31) 49 rfl 120 i0 _ 2 16 Tryz.underlying49 hi hz0 hz1 hz2 rfl (by decide) _ _ _ (by rfl) (H4.alloc _) _ _ _ [.int .i64 d.x, .int .i64 d.y] (by rfl) (Rd.fresh w4 _ #[.int .i64 d.x, .int .i64 d.y] 2 1 rfl) oc2 (by unfold maxLen; omega) (by omega) ?_; intro v5 w5 H5; have HX5 := H5.drop; have c0'' := H5.h1.cell 0; have c1'' := H5.h1.cell 1; simp at c0'' c1'')
                  | (refine step_app rfl (.tmp 29) (.tmp 31) 49 rfl 120 i0 _ 2 16 Tryz.underlying49 hi hz0 hz1 hz2 rfl (by decide) _ _ _ (by rfl) H4 _ _ _ [.int .i64 d.x, .int .i64 d.y] (by rfl) (own_take (k := 1) H4.h1 (Nat.le_refl _)) oc2 (by unfold maxLen; omega) (by omega) ?_; intro v5 w5 H5; have HX5 := H5.drop.drop; have c0'' := H5.h2.cell 0; have c1'' := H5.h2.cell 1; simp at c0'' c1'')
                  | (go_at_call 257; (with_reducible refine (HCO2.out _ _ (cells_own (by rw [← HN.out]; exact H5.own))).mono ?_); rintro e w6 ⟨u6, rfl, o6, b6⟩; have HX6 := HX5.step b6; have c0''' := HX6.h0.cell 0; have c1''' := HX6.h0.cell 1; simp at c0''' c1'''; have H6 := H5.oiNew b6 o6)))
              all_goals
                obtain ⟨A6, c6, rfl, _, _, _⟩ := Res.row_at H6.h0
                go_wp2_with fail
                go_meet
                first | exact ⟨_, _, rfl, H6.drop2.drop2⟩ | exact ⟨_, _, rfl, H6.drop2.drop2.drop2⟩
            case rest =>
              obtain ⟨A6, c6, rfl, H6⟩ := hcut
              generalize hwc : wc = w7 at *
              clear hwc
              have hTl : T.length ≤ 9 := by rw [HTT.out]; have := extC_len (s := s) (d := d); have := HN.out; omega
              have HIS := Lib.hid (impl_isShape_c w7 (OI.sr (lo := 0) ⟨H6.h0, fun k hk => own_lt H6.h0 k hk⟩ : CellsRd w7 0 w7.heap.size (.slice A6 T.length c6) T) (by omega))
              clear c0 c1 d0 d1 BA BB hgB H3 HCO2
              go_wp2_with fail
              refine (HIS.out).mono ?_
              rintro e w8 ⟨rfl, b8⟩
              have H8 := H6.step b8
              clear HIS b8 H6
              cases hst : isShape T
              · have HP2 : Hid (P.map Prod.snd = putL [] (extL s (D ++ (sidesI cl).take (j + 1)))) := Lib.hid (by rw [HTJ.out, extL_no (by rw [extOk, ← HTT.out, hst, Bool.and_false])]; exact HP.out)
                have H4 := H8.drop
                clear hst H8
                go_wp2
                go_roundw
                case rel => exact ⟨j + 1, m, P, by omega, by go_num, HM, by omega, HP2, H4⟩
                case measure => simp [intOf]; omega
              · have HST : Hid (extOk s d = true) := Lib.hid (by rw [extOk, ← HTT.out, hst, decide_eq_false HDS.out]; rfl)
                have HPUT := Lib.hid (impl_putK_c H8.p2 HM.out (by omega) (by omega) (fun p hp => by
                  have h1 : p.2 ∈ P.map Prod.snd := List.mem_map.2 ⟨p, hp, rfl⟩
                  rw [HP.out] at h1
                  have := shp_len (extL_row h1)
                  omega) (by rw [HP.out]; exact srt_putL List.Pairwise.nil))
                clear hst H8
                go_wp2_with fail
                refine (HPUT.out).mono ?_
                rintro e w9 ⟨v9, P9, rfl, hP9, H9⟩
                have HP2 : Hid (P9.map Prod.snd = putL [] (extL s (D ++ (sidesI cl).take (j + 1)))) := Lib.hid (by rw [hP9, HP.out, HTT.out, HTJ.out, extL_yes HST.out, putL_snoc])
                have hm9 : P9.length ≤ m + 1 := by
                  have h1 := insS_len (c := T) (l := P.map Prod.snd)
                  rw [← hP9, List.length_map, List.length_map, ← HM.out] at h1
                  exact h1
                clear HPUT hP9
                go_wp2
                go_roundw
                case rel => exact ⟨j + 1, _, P9, by omega, by go_num, Lib.hid rfl, by omega, HP2, H9⟩
                case measure => simp [intOf]; omega
        · obtain rfl : j = 4 := by omega
          have HP2 : Hid (P.map Prod.snd = putL [] (extL s ((s.take (i + 1)).flatMap sidesI))) := Lib.hid (by rw [HP.out, HTF.out]; rfl)
          have H5 := H.g2.drop
          go_wp2
          go_roundw
          case rel => exact ⟨i + 1, m, P, by omega, by go_num, HM, by omega, HP2, H5⟩
          case measure => simp [intOf]; omega
    · obtain rfl : i = n := by omega
      have hmm := HM.out
      have HP2 : Hid (P.map Prod.snd = exts s) := Lib.hid (by rw [HP.out, HN.out, List.take_length, exts_I])
      go_wp2
      go_ret
      subst hmm
      exact ⟨_, P, rfl, HP2.out, H⟩
end Go.Proofs.YtfmkmjebkmimkaaGreatDoor

namespace Go.Proofs.YtfmkmjebkmimkaaGreatDoor
open Go.RowKit

theorem take_flatG {α β : Type} {s : List α} {i : Nat} {c : α} (h : s[i]? = some c) {f : α → List β} : (s.take (i + 1)).flatMap f = (s.take i).flatMap f ++ f c := by
  rw [List.take_add_one, h]
  simp [List.flatMap_append]
theorem drop_at {α : Type} {l : List α} {j : Nat} {a : α} (h : l[j]? = some a) : l.drop j = a :: l.drop (j + 1) := by
  obtain ⟨hj, rfl⟩ := List.getElem?_eq_some_iff.1 h
  exact List.drop_eq_getElem_cons hj
theorem grow_row {F : List (List Cell)} {i j : Nat} {s t : List Cell} (h : t ∈ putL [] ((F.take i).flatMap exts ++ (exts s).take j)) : t.length ≤ 64 := by
  rcases mem_putL.1 h with h | h
  · cases h
  · rcases List.mem_append.1 h with h | h
    · obtain ⟨u, _, ht⟩ := List.mem_flatMap.1 h
      have := shp_len (exts_row ht).1
      omega
    · have := shp_len (exts_row (List.mem_of_mem_take h)).1
      omega
set_option maxRecDepth 100000 in
set_option maxHeartbeats 3200000 in
theorem grownI_c (n : Nat) (w : World) (h1 : 1 ≤ n) (h5 : n ≤ 5) :
    Calls Tryz.prog 255 #[.int .i64 n] w fun e w' => ∃ v' P, e = .returned v' ∧ P.map Prod.snd = fixedN (n - 1) ∧ Sep w w' [Res.row v' 49 1 P.length (P.map Prod.fst), Res.shps P] := by
  have HA : Sep w (w.alloc (.cells #[.int .i64 0, .int .i64 0] 120)) [Res.row (.slice (some ⟨w.heap.size, 0, none⟩) 1 1) 120 2 1 (cc [(⟨0, 0⟩ : Cell)])] := (Sep.start w).rowBox 120 #[.int .i64 0, .int .i64 0] 2 1 rfl (by decide)
  have H0 := (HA.shpsNil.shpsCons (r := [(⟨0, 0⟩ : Cell)]) rfl).rowBox 49 #[.slice (some ⟨w.heap.size, 0, none⟩) 1 1] 1 1 rfl (by decide)
  simp only [World.size_alloc] at H0
  clear HA
  go_enter Tryz.func255, Tryz.ntmps255
  go_wp2
  go_loopw [3, 4] (fun ov kv wx => ∃ (k m : Nat) (P : List (Value × List Cell)), 1 ≤ k ∧ k ≤ n ∧ kv = .int .i64 k ∧ Hid (m = P.length) ∧ Hid (P.map Prod.snd = fixedN (k - 1)) ∧ Sep w wx [Res.row ov 49 1 m (P.map Prod.fst), Res.shps P]) (fun _ kv _ => n - (intOf kv).toNat)
  case atStart => exact ⟨1, 1, [(.slice (some ⟨w.heap.size, 0, none⟩) 1 1, [(⟨0, 0⟩ : Cell)])], Nat.le_refl _, h1, rfl, Lib.hid rfl, Lib.hid rfl, H0⟩
  case round =>
    clear H0
    obtain ⟨k, m, P, hk1, hkn, rfl, HM, HP, H⟩ := hrel
    by_cases hlt : k < n
    · obtain ⟨F, hF⟩ : ∃ F, F = fixedN (k - 1) := ⟨_, rfl⟩
      have hmF : m = F.length := by rw [HM.out, hF, ← HP.out, List.length_map]
      have hF8 : m ≤ 8000 := by
        rw [hmF, hF]
        exact Nat.le_trans (fixedN_len _ (by omega)) (Nat.le_trans (Nat.pow_le_pow_right (by decide) (show k - 1 ≤ 3 by omega)) (by decide))
      have HFR : Hid (∀ t ∈ F, isShape t = true ∧ t.length ≤ 5) := Lib.hid fun t ht => by
        rw [hF] at ht
        have := fixedN_row _ t ht
        exact ⟨this.1, by omega⟩
      have HGR : Hid (fixedN k = putL [] (F.flatMap exts)) := Lib.hid (by
        obtain ⟨q, rfl⟩ : ∃ q, k = q + 1 := ⟨k - 1, by omega⟩
        rw [hF]; rfl)
      rw [← hF] at HP
      have HMF := Lib.hid hmF
      have H1 := (H.shpsNil.g1.nil 49 1).p2
      have H2 : Sep w wr [Res.row (.slice none 0 0) 49 1 0 [], Res.shps [], Res.row u3 49 1 m (P.map Prod.fst), Res.shps P] := H.shpsNil.nil 49 1
      obtain ⟨Ao, co, ho3, _, _, _⟩ := Res.row_at H.h0
      subst ho3
      clear H H1 hF hmF
      go_wp2
      go_loopw [5, 20] (fun nv iv wx => ∃ (i q : Nat) (Q : List (Value × List Cell)), i ≤ m ∧ iv = .int .i64 i ∧ Hid (q = Q.length) ∧ Hid (Q.map Prod.snd = putL [] ((F.take i).flatMap exts)) ∧ Sep w wx [Res.row nv 49 1 q (Q.map Prod.fst), Res.shps Q, Res.row (.slice Ao m co) 49 1 m (P.map Prod.fst), Res.shps P]) (fun _ iv _ => m - (intOf iv).toNat)
      case atStart => exact ⟨0, 0, [], Nat.zero_le _, rfl, Lib.hid rfl, Lib.hid rfl, H2⟩
      case round =>
        clear H2
        obtain ⟨i, q, Q, him, rfl, HQ, HQP, H⟩ := hrel
        by_cases hlti : i < m
        · obtain ⟨p, hp⟩ : ∃ p, P[i]? = some p := ⟨P[i]'(by rw [← HM.out]; exact hlti), List.getElem?_eq_getElem _⟩
          obtain ⟨go, oo, rfl⟩ : ∃ g o, Ao = some ⟨g, o, none⟩ := by
            obtain ⟨g, o, c, e, _⟩ := own_shape H.h2 (by omega)
            injection e with e1
            exact ⟨g, o, e1⟩
          have x1 : wr.cell? ⟨go, oo + i, none⟩ = some p.1 := own_cell H.h2 (by rw [List.getElem?_map, hp]; rfl)
          obtain ⟨pv, s⟩ := p
          have hpm : s ∈ F := by rw [← HP.out]; exact List.mem_map.2 ⟨_, List.mem_of_getElem? hp, rfl⟩
          have hFi : F[i]? = some s := by rw [← HP.out, List.getElem?_map, hp]; rfl
          have hsr : CellsRd wr 0 wr.heap.size pv s := ShpsAt.rd H.h3 (List.mem_of_getElem? hp)
          have HFX : Hid ((F.take (i + 1)).flatMap exts = (F.take i).flatMap exts ++ exts s) := Lib.hid (take_flatG hFi)
          have HXL : Hid (((F.take i).flatMap exts).length ≤ i * 20) := Lib.hid (by
            have h2 := flat_lenM (l := F.take i) (f := exts) (k := 20) (fun t ht => by
              have h3 := (HFR.out t (List.mem_of_mem_take ht)).2
              have h4 := exts_len (s := t)
              omega)
            rw [List.length_take] at h2
            exact Nat.le_trans h2 (Nat.mul_le_mul_right _ (Nat.min_le_left _ _)))
          have hs5 := (HFR.out s hpm).2
          have hel : (exts s).length ≤ 20 := by have := exts_len (s := s); omega
          have HC := Lib.hid (extsI_c wr hsr (HFR.out s hpm).1)
          obtain ⟨Ap, cp, hpe, _, _⟩ := hsr
          subst hpe
          simp only at x1
          clear hp hpm hFi hs5
          go_wp2_with fail
          refine (HC.out).mono ?_
          rintro e w2 ⟨ve, E, rfl, hE, HE2⟩
          have H2 := Sep.join (K := [Res.row ve 49 1 E.length (E.map Prod.fst), Res.shps E]) HE2 H
          simp only [List.cons_append, List.nil_append] at H2
          have hE20 : E.length ≤ 20 := by rw [← hE, List.length_map] at hel; exact hel
          obtain ⟨en, hen⟩ : ∃ en, en = E.length := ⟨_, rfl⟩
          rw [← hen] at H2 hE20
          obtain ⟨Ae, ce, hve, _, _, _⟩ := Res.row_at H2.h0
          subst hve
          have HE := Lib.hid hE
          have HEN := Lib.hid hen
          obtain ⟨X, hX⟩ : ∃ X, X = (F.take i).flatMap exts := ⟨_, rfl⟩
          have HX := Lib.hid hX
          rw [← hX] at HQP HFX HXL
          have H3 : Sep w w2 [Res.row u5 49 1 q (Q.map Prod.fst), Res.shps Q, Res.shps (E.drop 0), Res.row (.slice Ae en ce) 49 1 en (E.map Prod.fst), Res.row (.slice (some ⟨go, oo, none⟩) m co) 49 1 m (P.map Prod.fst), Res.shps P] := H2.g1.g3.g3
          clear HC x1 H H2 HE2 hE hen hX hel
          go_wp2
          go_loopw [5, 27] (fun nv jv wx => ∃ (j q : Nat) (Q : List (Value × List Cell)), j ≤ en ∧ jv = .int .i64 j ∧ Hid (q = Q.length) ∧ Hid (Q.map Prod.snd = putL [] (X ++ (exts s).take j)) ∧ Sep w wx [Res.row nv 49 1 q (Q.map Prod.fst), Res.shps Q, Res.shps (E.drop j), Res.row (.slice Ae en ce) 49 1 en (E.map Prod.fst), Res.row (.slice (some ⟨go, oo, none⟩) m co) 49 1 m (P.map Prod.fst), Res.shps P]) (fun _ jv _ => en - (intOf jv).toNat)
          case atStart => exact ⟨0, q, Q, Nat.zero_le _, rfl, HQ, by rw [List.take_zero, List.append_nil]; exact HQP, H3⟩
          case round =>
            clear H3 HQ HQP
            obtain ⟨j, q, Q, hje, rfl, HQ, HQP, H⟩ := hrel
            by_cases hltj : j < en
            · obtain ⟨pt, hpt⟩ : ∃ p, E[j]? = some p := ⟨E[j]'(by rw [← HEN.out]; exact hltj), List.getElem?_eq_getElem _⟩
              obtain ⟨ge, oe, rfl⟩ : ∃ g o, Ae = some ⟨g, o, none⟩ := by
                obtain ⟨g, o, c, e, _⟩ := own_shape H.h3 (by omega)
                injection e with e1
                exact ⟨g, o, e1⟩
              have x1 : wr.cell? ⟨ge, oe + j, none⟩ = some pt.1 := own_cell H.h3 (by rw [List.getElem?_map, hpt]; rfl)
              have hdr := drop_at hpt
              have hTJ : (exts s)[j]? = some pt.2 := by rw [← HE.out, List.getElem?_map, hpt]; rfl
              have HTJ : Hid (X ++ (exts s).take (j + 1) = (X ++ (exts s).take j) ++ [pt.2]) := Lib.hid (by rw [List.take_add_one, hTJ, List.append_assoc]; rfl)
              have hpt8 := shp_len (exts_row (List.mem_of_getElem? hTJ)).1
              have hq9 : q ≤ 900000 := by
                have h1 := putL_len (L := X ++ (exts s).take j) (M := [])
                rw [← HQP.out, List.length_map, ← HQ.out, List.length_nil, List.length_append, List.length_take] at h1
                have h2 := HXL.out
                omega
              have H1 := H
              rw [hdr] at H1
              have H4 := H1.g2.shpsHead.g3.g3
              obtain ⟨Bt, ct, hbt, _, _, _⟩ := Res.row_at H4.h2
              obtain ⟨u, t⟩ := pt
              simp only at hbt H4 x1 hpt8 HTJ
              subst hbt
              have HPUT := Lib.hid (impl_putK_c H4 HQ.out hq9 (by omega) (fun p hp => by
                have h1 : p.2 ∈ Q.map Prod.snd := List.mem_map.2 ⟨p, hp, rfl⟩
                rw [HQP.out, HX.out] at h1
                exact grow_row h1) (by rw [HQP.out]; exact srt_putL List.Pairwise.nil))
              clear hpt hdr hTJ hpt8 hq9 H1 H4 H
              go_wp2_with fail
              refine (HPUT.out).mono ?_
              rintro e w9 ⟨v9, Q9, rfl, hQ9, H9⟩
              have HP2 : Hid (Q9.map Prod.snd = putL [] (X ++ (exts s).take (j + 1))) := Lib.hid (by rw [hQ9, HQP.out, HTJ.out, putL_snoc])
              clear HPUT hQ9 x1
              go_wp2
              go_roundw
              case rel => exact ⟨j + 1, _, Q9, by omega, by go_num, Lib.hid rfl, HP2, H9⟩
              case measure => simp [intOf]; omega
            · obtain rfl : j = en := by omega
              have HQ2 : Hid (Q.map Prod.snd = putL [] ((F.take (i + 1)).flatMap exts)) := Lib.hid (by
                rw [HQP.out, HFX.out, List.take_of_length_le]
                rw [← HE.out, List.length_map, HEN.out]
                exact Nat.le_refl _)
              have H5 := H.g2.drop.g2.drop
              go_wp2
              go_roundw
              case rel => exact ⟨i + 1, q, Q, by omega, by go_num, HQ, HQ2, H5⟩
              case measure => simp [intOf]; omega
        · obtain rfl : i = m := by omega
          have HQ2 : Hid (Q.map Prod.snd = fixedN (k + 1 - 1)) := Lib.hid (by rw [HQP.out, HMF.out, List.take_length, Nat.add_sub_cancel, HGR.out])
          have H5 := H.g2.drop.g2.drop
          go_wp2
          go_roundw
          case rel => exact ⟨k + 1, q, Q, by omega, by omega, by go_num, HQ, HQ2, H5⟩
          case measure => simp [intOf]; omega
    · obtain rfl : k = n := by omega
      have hmm := HM.out
      have HP2 := Lib.hid HP.out
      go_wp2
      go_ret
      subst hmm
      exact ⟨_, P, rfl, HP2.out, H⟩
end Go.Proofs.YtfmkmjebkmimkaaGreatDoor

namespace Go.Proofs.YtfmkmjebkmimkaaGreatDoor
open Go.RowKit

set_option maxRecDepth 100000 in
theorem infoSlF : (Tryz.prog.info? 49).map (fun i => (i.zero, i.size, i.bytes)) = some (some (.slice none 0 0), 1, 24) := by kernel_rfl
theorem pfilter {f : List Cell → Bool} : ∀ {P : List (Value × List Cell)}, (P.filter fun p => f p.2).map Prod.snd = (P.map Prod.snd).filter f
  | [] => rfl
  | p :: P => by
    rw [List.filter_cons, List.map_cons, List.filter_cons]
    cases h : f p.2
    · simp only [Bool.false_eq_true, if_false]; exact pfilter
    · simp only [if_true, List.map_cons]; rw [pfilter]
theorem pfilter_snoc {f : List Cell → Bool} {P : List (Value × List Cell)} {k : Nat} {p : Value × List Cell} (h : P[k]? = some p) : (P.take (k + 1)).filter (fun p => f p.2) = (P.take k).filter (fun p => f p.2) ++ if f p.2 = true then [p] else [] := by
  rw [List.take_add_one, h, List.filter_append]
  cases hp : f p.2 <;> simp [hp]
set_option maxRecDepth 100000 in
set_option maxHeartbeats 400000 in
theorem fixedI_c (n : Int) (w : World) :
    Calls Tryz.prog 228 #[.int .i64 n] w fun e w' => ∃ v' P, e = .returned v' ∧ P.map Prod.snd = fixedS n ∧ Sep w w' [Res.row v' 49 1 P.length (P.map Prod.fst), Res.shps P] := by
  have hbw : Hid (∀ w1, Calls Tryz.prog 106 #[.int .i64 n, .int .i64 1, .int .i64 5] w1 fun e w' => e = .returned (.bool (inR n 1 5)) ∧ w1 = w') := Lib.hid fun w1 => between_r _ _ _ _
  cases hin : inR n 1 5
  · rw [hin] at hbw
    have hF : fixedS n = [] := by rw [fixedS, hin]; rfl
    have HF := Lib.hid hF
    have H := ((Sep.start w).shpsNil).nil 49 1
    clear hin hF
    go_enter Tryz.func228, Tryz.ntmps228
    go_wp2_with fail
    refine (hbw.out w).mono ?_
    rintro e w1 ⟨rfl, rfl⟩
    go_wp2
    go_ret
    exact ⟨_, [], rfl, HF.out.symm, H⟩
  · have hn := inR_iff.1 hin
    obtain ⟨k, rfl⟩ : ∃ k : Nat, n = (k : Int) := ⟨n.toNat, by omega⟩
    rw [hin] at hbw
    have hF : fixedS (k : Int) = fixedN (k - 1) := by rw [fixedS, hin]; rfl
    have HF := Lib.hid hF
    have HC := Lib.hid (grownI_c k w (by omega) (by omega))
    clear hin hF hn
    go_enter Tryz.func228, Tryz.ntmps228
    go_wp2_with fail
    refine (hbw.out w).mono ?_
    rintro e w1 ⟨rfl, rfl⟩
    go_wp2_with fail
    refine (HC.out).mono ?_
    rintro e w2 ⟨v, P, rfl, hP, H⟩
    have HP := Lib.hid hP
    have HH : Hid (Sep w w2 [Res.row v 49 1 P.length (P.map Prod.fst), Res.shps P]) := Lib.hid H
    obtain ⟨A, c, hv, _⟩ := Res.row_at (Sep.h0 (L := [Res.shps P]) HH.out)
    subst hv
    clear hP H HC hbw
    go_wp2
    go_ret
    exact ⟨_, P, rfl, by rw [HF.out, HP.out], HH.out⟩
def allTo (s : List Cell) (k : Nat) : Bool := (List.range k).all fun m => !decide (cmpS (turnS m s) s < 0)
theorem allTo_succ {s : List Cell} {k : Nat} : allTo s (k + 1) = (allTo s k && decide (cmpS s (turnS k s) ≤ 0)) := by
  unfold allTo
  rw [firstTo_succ, cmp_le_iff]
set_option maxRecDepth 100000 in
set_option maxHeartbeats 1600000 in
theorem firstI_c (n : Int) (w : World) :
    Calls Tryz.prog 178 #[.int .i64 n, .int .i64 8] w fun e w' => ∃ v' P, e = .returned v' ∧ P.map Prod.snd = freeS n ∧ Sep w w' [Res.row v' 49 1 P.length (P.map Prod.fst), Res.shps P] := by
  obtain ⟨i0, hi, hz0, hz1, hz2⟩ := info_parts infoSlF
  have HC := Lib.hid (fixedI_c n w)
  go_enter Tryz.func178, Tryz.ntmps178
  go_wp2_with fail
  refine (HC.out).mono ?_
  rintro e w1 ⟨vf, P, rfl, hP, H⟩
  have HP := Lib.hid hP
  have HR : Hid (∀ p ∈ P, isShape p.2 = true) := Lib.hid fun p hp => (fixedS_row (n := n) (by rw [← hP]; exact List.mem_map.2 ⟨p, hp, rfl⟩)).1
  have hm16 : P.length ≤ 160000 := by have := fixedS_len (n := n); rw [← hP, List.length_map] at this; exact this
  have H0 : Sep w w1 [Res.row (.slice none 0 0) 49 1 0 [], Res.row vf 49 1 P.length (P.map Prod.fst), Res.shps P] := Sep.nil H 49 1
  obtain ⟨m, hm⟩ : ∃ m, m = P.length := ⟨_, rfl⟩
  rw [← hm] at H0 hm16
  obtain ⟨A, c, hv, _⟩ := Res.row_at H0.h1
  subst hv
  have HM := Lib.hid hm
  clear hP H HC hm
  go_wp2
  go_loopw [5, 13] (fun ov iv wx => ∃ (i q : Nat), i ≤ m ∧ iv = .int .i64 i ∧ Hid (q = ((P.take i).filter fun p => firstS p.2).length) ∧ q ≤ i ∧ Sep w wx [Res.row ov 49 1 q (((P.take i).filter fun p => firstS p.2).map Prod.fst), Res.row (.slice A m c) 49 1 m (P.map Prod.fst), Res.shps P]) (fun _ iv _ => m - (intOf iv).toNat)
  case atStart => exact ⟨0, 0, Nat.zero_le _, rfl, Lib.hid rfl, Nat.le_refl _, H0⟩
  case round =>
    clear H0
    obtain ⟨i, q, him, rfl, HQ, hqi, H⟩ := hrel
    by_cases hlt : i < m
    · obtain ⟨p, hp⟩ : ∃ p, P[i]? = some p := ⟨P[i]'(by rw [← HM.out]; exact hlt), List.getElem?_eq_getElem _⟩
      obtain ⟨g, o, rfl⟩ : ∃ g o, A = some ⟨g, o, none⟩ := by
        obtain ⟨g, o, c, e, _⟩ := own_shape H.h1 (by omega)
        injection e with e1
        exact ⟨g, o, e1⟩
      have x1 : wr.cell? ⟨g, o + i, none⟩ = some p.1 := own_cell H.h1 (by rw [List.getElem?_map, hp]; rfl)
      have HPM := Lib.hid (List.mem_of_getElem? hp)
      have HST : Hid ((P.take (i + 1)).filter (fun p => firstS p.2) = (P.take i).filter (fun p => firstS p.2) ++ if firstS p.2 = true then [p] else []) := Lib.hid (pfilter_snoc hp)
      have hsr : CellsRd wr 0 wr.heap.size p.1 p.2 := ShpsAt.rd H.h2 HPM.out
      have hsh := HR.out p HPM.out
      obtain ⟨pv, s⟩ := p
      obtain ⟨Ap, cp, hpe, _, _⟩ := id hsr
      simp only at hpe x1 hsh HST hsr
      subst hpe
      have HTU : Hid (∀ (k : Nat) w1, k < 8 → Below wr.heap.size wr w1 → Calls Tryz.prog 230 #[.slice Ap s.length cp, .int .i64 k] w1 fun e w' => ∃ v', e = .returned v' ∧ CellsIn w' w1.heap.size w'.heap.size v' (turnS k s) ∧ Below w1.heap.size w1 w') := Lib.hid fun k w1 hk b1 =>
        impl_turned_c k w1 (cells_more hsr b1) hk (shp_len hsh).1 (by have := shp_len hsh; omega) (shp_sml5 hsh)
      have HCM : Hid (∀ (k : Nat) (u : Value) w1, CellsRd w1 0 w1.heap.size u (turnS k s) → Below wr.heap.size wr w1 → Calls Tryz.prog 229 #[.slice Ap s.length cp, u] w1 fun e w' => e = .returned (.int .i64 (cmpS s (turnS k s))) ∧ Below w1.heap.size w1 w') := Lib.hid fun k u w1 hu b1 =>
        impl_cmp_c w1 (cells_more hsr b1) hu (by have := shp_len hsh; omega)
      obtain ⟨wo, hwo⟩ : ∃ wo, wo = wr := ⟨_, rfl⟩
      subst hwo
      have HW := Lib.hid H
      clear hsr hsh hp H
      go_wp2
      clear x1
      go_loopw [8, 18] (fun fv kv wx => ∃ (k : Nat) (b : Bool), k ≤ 8 ∧ kv = .int .i64 k ∧ fv = .bool b ∧ Hid (b = allTo s k) ∧ Below wo.heap.size wo wx) (fun _ kv _ => 8 - (intOf kv).toNat)
      case atStart => exact ⟨0, true, Nat.zero_le _, rfl, rfl, Lib.hid rfl, Below.refl _ _⟩
      case round =>
        obtain ⟨k, b, hk8, rfl, rfl, HB, hbel⟩ := hrel
        by_cases hltk : k < 8
        · have hltki : (k : Int) < 8 := by omega
          cases b
          · have HB2 : Hid (false = allTo s (k + 1)) := Lib.hid (by rw [allTo_succ, ← HB.out]; rfl)
            go_wp2
            go_roundw
            case rel => exact ⟨k + 1, false, by omega, by go_num, rfl, HB2, hbel⟩
            case measure => simp [intOf]; omega
          · have HC := Lib.hid (HTU.out k wr hltk hbel)
            go_wp2_with fail
            refine (HC.out).mono ?_
            rintro e w3 ⟨v3, rfl, o3, b3⟩
            have hb3 := hbel.trans (b3.mono hbel.size)
            have HC2 := Lib.hid (HCM.out k v3 w3 ((CellsIn.rd o3).more (Nat.zero_le _) (Nat.le_refl _)) hb3)
            obtain ⟨A3, c3, rfl, _, _⟩ := o3.rd
            clear HC o3 b3
            go_wp2_with fail
            refine (HC2.out).mono ?_
            rintro e w4 ⟨rfl, b4⟩
            have hb4 := hb3.trans (b4.mono hb3.size)
            have HB2 : Hid (decide (cmpS s (turnS k s) ≤ 0) = allTo s (k + 1)) := Lib.hid (by rw [allTo_succ, ← HB.out]; rfl)
            obtain ⟨z, hz⟩ : ∃ z, z = cmpS s (turnS k s) := ⟨_, rfl⟩
            rw [← hz] at HB2 ⊢
            clear HC2 b4 hb3 hz
            go_wp2
            go_roundw
            case rel => exact ⟨k + 1, decide (z ≤ 0), by omega, by go_num, rfl, HB2, hb4⟩
            case measure => simp [intOf]; omega
        · obtain rfl : k = 8 := by omega
          have hbf : b = firstS s := HB.out
          have H := HW.out.step hbel
          cases b
          · have hst := HST.out
            rw [← hbf] at hst
            simp only [Bool.false_eq_true, if_false, List.append_nil] at hst
            have HS := Lib.hid hst
            have HQ2 : Hid (q = ((P.take (i + 1)).filter fun p => firstS p.2).length) := Lib.hid (by rw [HS.out]; exact HQ.out)
            rw [← HS.out] at H
            clear hst hbf
            go_wp2
            go_roundw
            case rel => exact ⟨i + 1, q, by omega, by go_num, HQ2, by omega, H⟩
            case measure => simp [intOf]; omega
          · have hst := HST.out
            rw [← hbf] at hst
            simp only [if_true] at hst
            have HS := Lib.hid hst
            clear hst hbf
            go_wp2_with (at_builtin; refine wpList_app rfl _ _ 31 rfl 49 i0 _ 1 24 Tryz.underlying31 hi hz0 hz1 hz2 rfl (by decide) _ _ _ rfl (H.alloc _) _ _ _ [.slice Ap s.length cp] rfl (Rd.fresh wr 49 #[.slice Ap s.length cp] 1 1 rfl) (ocv2 rfl) (by unfold maxLen; omega) (by omega) ?_; intro v4 w4 H4)
            have HQ2 : Hid (q + 1 = ((P.take (i + 1)).filter fun p => firstS p.2).length) := Lib.hid (by rw [HS.out, List.length_append, ← HQ.out]; rfl)
            have H5 : Sep w w4 [Res.row v4 49 1 (q + 1) (((P.take (i + 1)).filter fun p => firstS p.2).map Prod.fst), Res.row (.slice (some ⟨g, o, none⟩) m c) 49 1 m (P.map Prod.fst), Res.shps P] := by
              rw [HS.out, List.map_append]; exact H4
            clear H4 H
            go_wp2
            go_roundw
            case rel => exact ⟨i + 1, q + 1, by omega, by go_num, HQ2, by omega, H5⟩
            case measure => simp [intOf]; omega
    · obtain rfl : i = m := by omega
      have hq := HQ.out
      rw [HM.out, List.take_length] at hq H
      have HF : Hid ((P.filter fun p => firstS p.2).map Prod.snd = freeS n) := Lib.hid (by rw [pfilter, HP.out]; rfl)
      have H5 := (H.drop2.g1.shpsSub (List.filter_sublist (p := fun p => firstS p.2))).g1
      go_wp2
      go_ret
      subst hq
      exact ⟨_, _, rfl, HF.out, H5⟩
set_option maxRecDepth 100000 in
set_option maxHeartbeats 400000 in
theorem freeI_c (n : Int) (w : World) :
    Calls Tryz.prog 107 #[.int .i64 n] w fun e w' => ∃ v' P, e = .returned v' ∧ P.map Prod.snd = freeS n ∧ Sep w w' [Res.row v' 49 1 P.length (P.map Prod.fst), Res.shps P] := by
  have HC := Lib.hid (firstI_c n w)
  go_enter Tryz.func107, Tryz.ntmps107
  go_wp2_with fail
  refine (HC.out).mono ?_
  rintro e w2 ⟨v, P, rfl, hP, H⟩
  have HP := Lib.hid hP
  have HH : Hid (Sep w w2 [Res.row v 49 1 P.length (P.map Prod.fst), Res.shps P]) := Lib.hid H
  obtain ⟨A, c, hv, _⟩ := Res.row_at (Sep.h0 (L := [Res.shps P]) HH.out)
  subst hv
  clear hP H HC
  go_wp2
  go_ret
  exact ⟨_, P, rfl, HP.out, HH.out⟩
end Go.Proofs.YtfmkmjebkmimkaaGreatDoor
