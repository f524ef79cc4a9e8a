
/-
  Shapes of some cells, grown cell by cell, in plain Lean; the first of their kind. A shape taken out of a list of shapes that lie apart. No program in sight. Shapes with one cell more: the program's walks. All shapes with one cell more: the program's walk. Shapes of some cells: the program's walks. Shapes up to motions: the program's walks.
-/
import Derived.Test.YtfmkmjebkmimkaaGreatOriX
import Derived.Deep.DeepCutAuto
import Derived.Test.YtfmkmjebkmimkaaGreatRowX
namespace Go.Proofs.YtfmkmjebkmimkaaGreat
open Go.RowKit

section
variable {w0 w w' : World} {L : List Res} {P Q : List (Value × List Cell)}
/-- some of the shapes alone -/
theorem Sep.shpsSub (h : Sep w0 w (Res.shps P :: L)) (hs : Q.Sublist P) : Sep w0 w (Res.shps Q :: L) :=
  ⟨⟨fun p hp => ShpsAt.own h.h0 p (hs.subset hp), (ShpsAt.apart h.h0).sublist hs⟩, fun b ⟨p, hp, hb⟩ => h.2.1 b ⟨p, hs.subset hp, hb⟩, fun q hq b ⟨p, hp, hb⟩ => h.2.2.1 q hq b ⟨p, hs.subset hp, hb⟩, h.drop⟩
/-- the first shape as a row of its own -/
theorem Sep.shpsHead {p : Value × List Cell} (h : Sep w0 w (Res.shps (p :: P) :: L)) : Sep w0 w (Res.row p.1 71 2 p.2.length (cc p.2) :: Res.shps P :: L) := by
  have h1 := h.shpsSub (Q := P) (List.sublist_cons_self p P)
  refine ⟨ShpsAt.own h.h0 p List.mem_cons_self, fun b hb => h.2.1 b ⟨p, List.mem_cons_self, hb⟩, fun q hq b hb hb' => ?_, h1⟩
  rcases List.mem_cons.1 hq with rfl | hq
  · obtain ⟨x, hx, hxb⟩ := hb'
    exact (List.pairwise_cons.1 (ShpsAt.apart h.h0)).1 x hx b hb hxb
  · exact h.2.2.1 q hq b ⟨p, List.mem_cons_self, hb⟩ hb'
end
def sidesI (c : Cell) : List Cell := [⟨c.x, c.y - 1⟩, ⟨c.x - 1, c.y⟩, ⟨c.x + 1, c.y⟩, ⟨c.x, c.y + 1⟩]
def sidesS (c : Cell) : List Cell := [⟨c.x + 1, c.y⟩, ⟨c.x, c.y + 1⟩, ⟨c.x - 1, c.y⟩, ⟨c.x, c.y - 1⟩]
theorem sides_mem {c d : Cell} : d ∈ sidesI c ↔ d ∈ sidesS c := by
  unfold sidesI sidesS
  simp only [List.mem_cons, List.not_mem_nil, or_false]
  constructor <;> (rintro (h | h | h | h) <;> simp [h])
def putL (M : List (List Cell)) (L : List (List Cell)) : List (List Cell) := L.foldl (fun M t => insS t M) M
theorem putL_snoc {M L : List (List Cell)} {t : List Cell} : putL M (L ++ [t]) = insS t (putL M L) := by simp [putL]
theorem mem_putL {t : List Cell} : ∀ {L M : List (List Cell)}, t ∈ putL M L ↔ t ∈ M ∨ t ∈ L
  | [], M => by simp [putL]
  | s :: L, M => by
    show t ∈ putL (insS s M) L ↔ _
    rw [mem_putL, mem_insS, List.mem_cons]
    constructor
    · rintro ((h | h) | h)
      · exact .inr (.inl h)
      · exact .inl h
      · exact .inr (.inr h)
    · rintro (h | h | h)
      · exact .inl (.inr h)
      · exact .inl (.inl h)
      · exact .inr h
theorem srt_putL : ∀ {L M : List (List Cell)}, SrtS M → SrtS (putL M L)
  | [], _, h => h
  | s :: L, M, h => srt_putL (L := L) (M := insS s M) (srtS_insS h)
theorem putL_len : ∀ {L M : List (List Cell)}, (putL M L).length ≤ M.length + L.length
  | [], _ => Nat.le_refl _
  | s :: L, M => by
    have h1 := putL_len (L := L) (M := insS s M)
    have h2 := insS_len (c := s) (l := M)
    show (putL (insS s M) L).length ≤ _
    rw [List.length_cons]
    omega
theorem putL_same {L K : List (List Cell)} (h : ∀ t, t ∈ L ↔ t ∈ K) : putL [] L = putL [] K :=
  srtS_ext (srt_putL List.Pairwise.nil) (srt_putL List.Pairwise.nil) fun t => by rw [mem_putL, mem_putL, h t]
/-- a shape with one cell more, in its corner -/
def extC (s : List Cell) (d : Cell) : List Cell := corner (sortC (s ++ [d]))
def extOk (s : List Cell) (d : Cell) : Bool := !decide (d ∈ s) && isShape (extC s d)
def extL (s D : List Cell) : List (List Cell) := (D.filter (extOk s)).map (extC s)
theorem extL_yes {s D : List Cell} {d : Cell} (h : extOk s d = true) : extL s (D ++ [d]) = extL s D ++ [extC s d] := by simp [extL, List.filter_append, h]
theorem extL_no {s D : List Cell} {d : Cell} (h : extOk s d = false) : extL s (D ++ [d]) = extL s D := by simp [extL, List.filter_append, h]
theorem extL_len {s D : List Cell} : (extL s D).length ≤ D.length := by rw [extL, List.length_map]; exact List.length_filter_le _ _
theorem mem_extL {s D : List Cell} {t : List Cell} : t ∈ extL s D ↔ ∃ d, d ∈ D ∧ extOk s d = true ∧ extC s d = t := by
  unfold extL
  rw [List.mem_map]
  constructor
  · rintro ⟨d, hd, e⟩
    have := List.mem_filter.1 hd
    exact ⟨d, this.1, this.2, e⟩
  · rintro ⟨d, h1, h2, e⟩
    exact ⟨d, List.mem_filter.2 ⟨h1, h2⟩, e⟩
theorem extL_row {s D : List Cell} {t : List Cell} (h : t ∈ putL [] (extL s D)) : isShape t = true := by
  rcases mem_putL.1 h with h | h
  · cases h
  · obtain ⟨d, _, h2, rfl⟩ := mem_extL.1 h
    exact (Bool.and_eq_true_iff.1 h2).2
def exts (s : List Cell) : List (List Cell) := putL [] (extL s (s.flatMap sidesS))
theorem exts_I (s : List Cell) : putL [] (extL s (s.flatMap sidesI)) = exts s := putL_same fun t => by
  rw [mem_extL, mem_extL]
  constructor
  · rintro ⟨d, h1, h2, e⟩
    obtain ⟨c, hc, hd⟩ := List.mem_flatMap.1 h1
    exact ⟨d, List.mem_flatMap.2 ⟨c, hc, sides_mem.1 hd⟩, h2, e⟩
  · rintro ⟨d, h1, h2, e⟩
    obtain ⟨c, hc, hd⟩ := List.mem_flatMap.1 h1
    exact ⟨d, List.mem_flatMap.2 ⟨c, hc, sides_mem.2 hd⟩, h2, e⟩
theorem extC_len {s : List Cell} {d : Cell} : (extC s d).length ≤ s.length + 1 := by
  unfold extC corner
  rw [shift_length]
  exact Nat.le_trans sortC_len (by simp)
theorem exts_row {s t : List Cell} (h : t ∈ exts s) : isShape t = true ∧ t.length ≤ s.length + 1 := by
  rcases mem_putL.1 h with h | h
  · cases h
  · obtain ⟨d, _, h2, rfl⟩ := mem_extL.1 h
    exact ⟨(Bool.and_eq_true_iff.1 h2).2, extC_len⟩
theorem flat_len {α β : Type} {f : α → List β} {k : Nat} (h : ∀ a, (f a).length ≤ k) : ∀ l : List α, (l.flatMap f).length ≤ l.length * k
  | [] => by simp
  | a :: l => by
    rw [List.flatMap_cons, List.length_append, List.length_cons, Nat.add_mul]
    have h1 := h a
    have h2 := flat_len h l
    omega
theorem flat_lenM {α β : Type} {f : α → List β} {k : Nat} : ∀ {l : List α}, (∀ a ∈ l, (f a).length ≤ k) → (l.flatMap f).length ≤ l.length * k
  | [], _ => by simp
  | a :: l, h => by
    rw [List.flatMap_cons, List.length_append, List.length_cons, Nat.add_mul]
    have h1 := h a List.mem_cons_self
    have h2 := flat_lenM (l := l) (k := k) (fun b hb => h b (List.mem_cons_of_mem _ hb))
    omega
theorem exts_len {s : List Cell} : (exts s).length ≤ s.length * 4 := by
  have h1 := putL_len (L := extL s (s.flatMap sidesS)) (M := [])
  have h2 := extL_len (s := s) (D := s.flatMap sidesS)
  have h3 := flat_len (f := sidesS) (k := 4) (fun _ => Nat.le_refl _) s
  rw [List.length_nil] at h1
  unfold exts
  omega
/-- the shapes of k + 1 cells -/
def grow1 (M : List (List Cell)) : List (List Cell) := putL [] (M.flatMap exts)
def fixedN : Nat → List (List Cell)
  | 0 => [[⟨0, 0⟩]]
  | k + 1 => grow1 (fixedN k)
theorem fixedN_row : ∀ (k : Nat) (t : List Cell), t ∈ fixedN k → isShape t = true ∧ t.length ≤ k + 1
  | 0, t, h => by
    rw [fixedN, List.mem_singleton] at h
    subst h
    exact ⟨by decide, by decide⟩
  | k + 1, t, h => by
    rcases mem_putL.1 h with h | h
    · cases h
    · obtain ⟨s, hs, ht⟩ := List.mem_flatMap.1 h
      have h1 := fixedN_row k s hs
      have h2 := exts_row ht
      exact ⟨h2.1, by omega⟩
theorem fixedN_flat {k : Nat} (hk : k ≤ 4) : ((fixedN k).flatMap exts).length ≤ (fixedN k).length * 20 := flat_lenM fun s hs => by
  have h1 := (fixedN_row k s hs).2
  have h2 := exts_len (s := s)
  omega
theorem fixedN_len : ∀ (k : Nat), k ≤ 4 → (fixedN k).length ≤ 20 ^ k
  | 0, _ => by decide
  | k + 1, hk => by
    have h1 := fixedN_len k (by omega)
    have h2 := fixedN_flat (k := k) (by omega)
    have h3 := putL_len (L := (fixedN k).flatMap exts) (M := [])
    rw [List.length_nil] at h3
    show (putL [] ((fixedN k).flatMap exts)).length ≤ 20 ^ (k + 1)
    rw [Nat.pow_succ]
    have h4 := Nat.mul_le_mul_right 20 h1
    omega
theorem pow20 {k : Nat} (hk : k ≤ 4) : 20 ^ k ≤ 160000 := Nat.le_trans (Nat.pow_le_pow_right (by decide) hk) (by decide)
theorem fixedN_srt : ∀ k, SrtS (fixedN k)
  | 0 => List.pairwise_singleton _ _
  | _ + 1 => srt_putL List.Pairwise.nil
def fixedS (n : Int) : List (List Cell) := if inR n 1 5 = true then fixedN (n.toNat - 1) else []
/-- the first among its turned ones -/
def firstS (s : List Cell) : Bool := (List.range 8).all fun m => !decide (cmpS (turnS m s) s < 0)
def freeS (n : Int) : List (List Cell) := (fixedS n).filter firstS
theorem fixedS_row {n : Int} {t : List Cell} (h : t ∈ fixedS n) : isShape t = true ∧ t.length ≤ 5 := by
  unfold fixedS at h
  split at h
  · rename_i hn
    have hn := inR_iff.1 hn
    have := fixedN_row _ t h
    exact ⟨this.1, by omega⟩
  · cases h
theorem fixedS_len {n : Int} : (fixedS n).length ≤ 160000 := by
  unfold fixedS
  split
  · rename_i hn
    have hn := inR_iff.1 hn
    exact Nat.le_trans (fixedN_len _ (by omega)) (pow20 (by omega))
  · simp
theorem firstTo_succ {s : List Cell} {k : Nat} : ((List.range (k + 1)).all fun m => !decide (cmpS (turnS m s) s < 0)) = (((List.range k).all fun m => !decide (cmpS (turnS m s) s < 0)) && !decide (cmpS (turnS k s) s < 0)) := by
  rw [List.range_succ, List.all_append]; simp
theorem cmp_le_iff {a b : List Cell} : decide (cmpS a b ≤ 0) = !decide (cmpS b a < 0) := by
  have h0 : cmpS a b = -cmpS b a := cmpS_neg b a
  by_cases h : cmpS a b ≤ 0
  · rw [decide_eq_true h, decide_eq_false (by omega)]; rfl
  · rw [decide_eq_false h, decide_eq_true (by omega)]; rfl
theorem filter_snoc {p : List Cell → Bool} {l : List (List Cell)} {k : Nat} {c : List Cell} (h : l[k]? = some c) : (l.take (k + 1)).filter p = (l.take k).filter p ++ if p c = true then [c] else [] := by
  rw [List.take_add_one, h, List.filter_append]
  cases hp : p c <;> simp [hp]
end Go.Proofs.YtfmkmjebkmimkaaGreat

namespace Go.Proofs.YtfmkmjebkmimkaaGreat
open Go.RowKit

set_option maxRecDepth 100000 in
theorem infoCellF : (Tryz.prog.info? 71).map (fun i => (i.zero, i.size, i.bytes)) = some (some (.agg #[.int .i64 0, .int .i64 0]), 2, 16) := by kernel_rfl
theorem cells_more {w w' : World} {v : Value} {l : List Cell} (h : CellsRd w 0 w.heap.size v l) (hb : Below w.heap.size w w') : CellsRd w' 0 w'.heap.size v l := (h.keep (SameIn.of_below hb (Nat.le_refl _))).more (Nat.le_refl _) hb.size
theorem cells_own {w : World} {v : Value} {s : List Cell} {d : Cell} (h : w.ownsRow 0 71 2 v (s.length + 1) (cc s ++ [.int .i64 d.x, .int .i64 d.y])) : CellsRd w 0 w.heap.size v (s ++ [d]) := by
  have : CellsIn w 0 w.heap.size v (s ++ [d]) := CellsIn.mk h (by simp) (by rw [cc_append]; rfl)
  exact this.rd
set_option maxRecDepth 100000 in
set_option maxHeartbeats 400000 in
theorem copyCells_c {v : Value} {l : List Cell} (w : World) (h : CellsRd w 0 w.heap.size v l) (hn : l.length ≤ 1048576) :
    Calls Tryz.prog 71 #[v] w fun e w' => ∃ v', e = .returned v' ∧ CellsIn w' w.heap.size w'.heap.size v' l ∧ Below w.heap.size w w' := by
  obtain ⟨A, c, rfl, hm, hr⟩ := h
  obtain ⟨j0, hj, y0, y1, y2⟩ := info_parts infoCellF
  have H := (Sep.start w).nil 71 2
  go_enter Tryz.func71, Tryz.ntmps71
  go_wp2_with (at_builtin; refine wpList_app rfl _ _ 55 rfl 71 j0 _ 2 16 Tryz.underlying55 hj y0 y1 y2 rfl (by decide) _ _ _ rfl H A _ c (cc l) rfl hr cc_onec (by unfold maxLen; omega) (by omega) ?_; intro v' w' H1)
  go_ret
  exact ⟨v', rfl, CellsIn.mk H1.oi.1 (by simp) (by simp), H1.below⟩
theorem shape_sml {s : List Cell} (h : isShape s = true) {c : Cell} (hc : c ∈ s) : Sml 10 c := by
  obtain ⟨⟨h1, h2⟩, h3, h4⟩ := shp_on h hc
  exact ⟨⟨by omega, by omega⟩, ⟨by omega, by omega⟩⟩
theorem sides_sml {c d : Cell} (h : Sml 10 c) (hd : d ∈ sidesI c) : Sml 20 d := by
  obtain ⟨⟨h1, h2⟩, h3, h4⟩ := h
  unfold sidesI at hd
  simp only [List.mem_cons, List.not_mem_nil, or_false] at hd
  rcases hd with rfl | rfl | rfl | rfl <;> exact ⟨⟨by simp only; omega, by simp only; omega⟩, ⟨by simp only; omega, by simp only; omega⟩⟩
theorem snoc_sml {s : List Cell} (h : isShape s = true) {d : Cell} (hd : Sml 20 d) : ∀ c ∈ s ++ [d], Sml 50 c := by
  intro c hc
  rcases List.mem_append.1 hc with hc | hc
  · obtain ⟨⟨h1, h2⟩, h3, h4⟩ := shape_sml h hc
    exact ⟨⟨by omega, by omega⟩, ⟨by omega, by omega⟩⟩
  · rw [List.mem_singleton] at hc
    subst hc
    obtain ⟨⟨h1, h2⟩, h3, h4⟩ := hd
    exact ⟨⟨by omega, by omega⟩, ⟨by omega, by omega⟩⟩
theorem take_flat {s : List Cell} {i : Nat} {c : Cell} (h : s[i]? = some c) {f : Cell → List Cell} : (s.take (i + 1)).flatMap f = (s.take i).flatMap f ++ f c := by
  rw [List.take_add_one, h]
  simp [List.flatMap_append]
end Go.Proofs.YtfmkmjebkmimkaaGreat

namespace Go.Proofs.YtfmkmjebkmimkaaGreat
open Go.RowKit

end Go.Proofs.YtfmkmjebkmimkaaGreat

namespace Go.Proofs.YtfmkmjebkmimkaaGreat
open Go.RowKit

theorem take_flatG {α β : Type} {s : List α} {i : Nat} {c : α} (h : s[i]? = some c) {f : α → List β} : (s.take (i + 1)).flatMap f = (s.take i).flatMap f ++ f c := by
  rw [List.take_add_one, h]
  simp [List.flatMap_append]
theorem drop_at {α : Type} {l : List α} {j : Nat} {a : α} (h : l[j]? = some a) : l.drop j = a :: l.drop (j + 1) := by
  obtain ⟨hj, rfl⟩ := List.getElem?_eq_some_iff.1 h
  exact List.drop_eq_getElem_cons hj
theorem grow_row {F : List (List Cell)} {i j : Nat} {s t : List Cell} (h : t ∈ putL [] ((F.take i).flatMap exts ++ (exts s).take j)) : t.length ≤ 64 := by
  rcases mem_putL.1 h with h | h
  · cases h
  · rcases List.mem_append.1 h with h | h
    · obtain ⟨u, _, ht⟩ := List.mem_flatMap.1 h
      have := shp_len (exts_row ht).1
      omega
    · have := shp_len (exts_row (List.mem_of_mem_take h)).1
      omega
end Go.Proofs.YtfmkmjebkmimkaaGreat

namespace Go.Proofs.YtfmkmjebkmimkaaGreat
open Go.RowKit

set_option maxRecDepth 100000 in
theorem infoSlF : (Tryz.prog.info? 55).map (fun i => (i.zero, i.size, i.bytes)) = some (some (.slice none 0 0), 1, 24) := by kernel_rfl
theorem pfilter {f : List Cell → Bool} : ∀ {P : List (Value × List Cell)}, (P.filter fun p => f p.2).map Prod.snd = (P.map Prod.snd).filter f
  | [] => rfl
  | p :: P => by
    rw [List.filter_cons, List.map_cons, List.filter_cons]
    cases h : f p.2
    · simp only [Bool.false_eq_true, if_false]; exact pfilter
    · simp only [if_true, List.map_cons]; rw [pfilter]
theorem pfilter_snoc {f : List Cell → Bool} {P : List (Value × List Cell)} {k : Nat} {p : Value × List Cell} (h : P[k]? = some p) : (P.take (k + 1)).filter (fun p => f p.2) = (P.take k).filter (fun p => f p.2) ++ if f p.2 = true then [p] else [] := by
  rw [List.take_add_one, h, List.filter_append]
  cases hp : f p.2 <;> simp [hp]
def allTo (s : List Cell) (k : Nat) : Bool := (List.range k).all fun m => !decide (cmpS (turnS m s) s < 0)
theorem allTo_succ {s : List Cell} {k : Nat} : allTo s (k + 1) = (allTo s k && decide (cmpS s (turnS k s) ≤ 0)) := by
  unfold allTo
  rw [firstTo_succ, cmp_le_iff]
end Go.Proofs.YtfmkmjebkmimkaaGreat
