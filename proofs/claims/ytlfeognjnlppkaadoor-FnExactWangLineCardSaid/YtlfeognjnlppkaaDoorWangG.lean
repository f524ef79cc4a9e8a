
/-
  Wang tiles: the walk of the program's search with its visitor.
-/
import Derived.Test.YtlfeognjnlppkaaDoorWangF
namespace Go.Proofs.YtlfeognjnlppkaaDoor
open Go.RowKit

section
variable {w0 w : World} {x a b c d f g : Res} {L : List Res}
theorem Sep.tail5 (h : Sep w0 w (x :: g :: a :: b :: c :: d :: f :: L)) : Sep w0 w (x :: a :: b :: c :: d :: f :: g :: L) := h.onTail (by intro q; simp only [List.mem_cons]; grind) h.drop.p5
theorem Sep.un5 (h : Sep w0 w (x :: a :: b :: c :: d :: f :: g :: L)) : Sep w0 w (x :: g :: a :: b :: c :: d :: f :: L) := h.onTail (by intro q; simp only [List.mem_cons]; grind) h.drop.g5
end
/-- the visitor's boxes: what was found, whether; the tiles, the sides -/
abbrev bxs (g9 g10 g1 g7 g8 : Nat) (o : Value) (q : Bool) (v : Value) (wd h : Nat) (L : List Res) : List Res :=
  Res.box g9 31 #[o] :: Res.box g10 4 #[.bool q] :: Res.box g1 27 #[v] :: Res.box g7 3 #[.int .i64 (wd : Int)] :: Res.box g8 3 #[.int .i64 (h : Int)] :: L
abbrev fillRow (v : Value) (f : List Nat) : Res := Res.row v 3 1 f.length (ic (fc f))
def VPost (w0 : World) (g9 g10 g1 g7 g8 : Nat) (v : Value) (wd h : Nat) (L : List Res) (vf : Value) (f : List Nat) (r : Option (List Nat)) (e : Ending) (w' : World) : Prop :=
  e = .returned (.bool (!r.isSome)) ∧ (r = none → Sep w0 w' (fillRow vf f :: bxs g9 g10 g1 g7 g8 (.slice none 0 0) false v wd h L)) ∧ ∀ g, r = some g → ∃ vg, Sep w0 w' (fillRow vg g :: bxs g9 g10 g1 g7 g8 vg true v wd h L)
theorem VPost.no {w0 w' : World} {g9 g10 g1 g7 g8 wd h : Nat} {v vf : Value} {L : List Res} {f : List Nat} {r : Option (List Nat)} {q : Bool} (hr : r = none) (hq : q = true) (H : Sep w0 w' (fillRow vf f :: bxs g9 g10 g1 g7 g8 (.slice none 0 0) false v wd h L)) : VPost w0 g9 g10 g1 g7 g8 v wd h L vf f r (.returned (.bool q)) w' := by
  subst hr hq
  exact ⟨rfl, fun _ => H, fun g hg => by cases hg⟩
theorem VPost.yes {w0 w' : World} {g9 g10 g1 g7 g8 wd h : Nat} {v vf vg : Value} {L : List Res} {f g : List Nat} {r : Option (List Nat)} {q : Bool} (hr : r = some g) (hq : q = false) (H : Sep w0 w' (fillRow vg g :: bxs g9 g10 g1 g7 g8 vg true v wd h L)) : VPost w0 g9 g10 g1 g7 g8 v wd h L vf f r (.returned (.bool q)) w' := by
  subst hr hq
  exact ⟨rfl, (fun h => by cases h), fun g' hg => by injection hg with hg; subst hg; exact ⟨_, H⟩⟩

set_option maxRecDepth 100000 in
set_option maxHeartbeats 1600000 in
theorem visit_c {w0 : World} {g9 g10 g1 g7 g8 : Nat} {v vf : Value} {l : List Wg} {f : List Nat} {L : List Res} (wd h : Nat) (w : World) (hl0 : WangsRd w0 0 w0.heap.size v l) (H : Sep w0 w (fillRow vf f :: bxs g9 g10 g1 g7 g8 (.slice none 0 0) false v wd h L)) (hin : inT l f) (hl1 : 1 ≤ l.length) (hl : l.length ≤ 6) (hw1 : 1 ≤ wd) (hw4 : wd ≤ 4) (hh1 : 1 ≤ h) (hh4 : h ≤ 4) (hfl : f.length = wd * h) :
    Calls Tryd.prog 70 #[vf, .pointer (some ⟨g1, 0, none⟩), .pointer (some ⟨g7, 0, none⟩), .pointer (some ⟨g8, 0, none⟩), .pointer (some ⟨g9, 0, none⟩), .pointer (some ⟨g10, 0, none⟩)] w (VPost w0 g9 g10 g1 g7 g8 v wd h L vf f (if closesW l wd h f then some f else none)) := by
  obtain ⟨r, hr⟩ : ∃ r : Option (List Nat), r = if closesW l wd h f then some f else none := ⟨_, rfl⟩
  rw [← hr]
  have HR := Lib.hid hr
  have hrd : IntsRd w 0 w.heap.size vf (fc f) := by unfold IntsRd; rw [fc_length]; exact H.oi.sr.more (Nat.zero_le _) (Nat.le_refl _)
  have HCL := Lib.hid (impl_closes_c wd h w ((hl0.keep (SameIn.of_below H.below (Nat.le_refl _))).more (Nat.le_refl _) H.size) hrd hin hl1 hl hw1 hw4 hh1 hh4 hfl)
  obtain ⟨A, c, rfl, _, _, _⟩ := Res.row_at H.h0
  obtain ⟨Al, cl, rfl, _, _⟩ := id hl0
  have x1 : w.cell? ⟨g1, 0, none⟩ = some (.slice Al l.length cl) := H.h3.cell 0
  have x7 : w.cell? ⟨g7, 0, none⟩ = some (.int .i64 (wd : Int)) := H.h4.cell 0
  have x8 : w.cell? ⟨g8, 0, none⟩ = some (.int .i64 (h : Int)) := H.h5.cell 0
  clear hr hrd hfl
  go_enter Tryd.func70, Tryd.ntmps70
  go_wp2_with fail
  refine (HCL.out).mono ?_
  rintro e w1 ⟨rfl, b1⟩
  have H1 := H.step b1
  clear x1 x7 x8 H b1
  cases hc : closesW l wd h f
  · obtain rfl : r = none := by rw [HR.out, hc]; rfl
    have x10 : w1.cell? ⟨g10, 0, none⟩ = some (.bool false) := H1.h2.cell 0
    clear hc
    go_wp2
    go_ret
    exact VPost.no rfl rfl H1
  · obtain rfl : r = some f := by rw [HR.out, hc]; rfl
    have x9 : w1.cell? ⟨g9, 0, none⟩ = some (.slice none 0 0) := H1.h1.cell 0
    have x10 : w1.cell? ⟨g10, 0, none⟩ = some (.bool false) := H1.h2.cell 0
    have f9 := H1.h1.frozen 0
    have f10 := H1.h2.frozen 0
    have H2 := ((H1.g1.set_ 0 (.slice A f.length c)).p1.g2.set_ 0 (.bool true)).p2
    have y10 : ((w1.setCell ⟨g9, 0, none⟩ (.slice A f.length c)).setCell ⟨g10, 0, none⟩ (.bool true)).cell? ⟨g10, 0, none⟩ = some (.bool true) := H2.h2.cell 0
    have hne : g9 ≠ g10 := fun e => H1.drop.2.2.1 (Res.box g10 4 #[.bool false]) (by simp) g9 rfl e
    clear hc
    go_wp2
    go_ret
    exact VPost.yes rfl rfl H2
end Go.Proofs.YtlfeognjnlppkaaDoor
