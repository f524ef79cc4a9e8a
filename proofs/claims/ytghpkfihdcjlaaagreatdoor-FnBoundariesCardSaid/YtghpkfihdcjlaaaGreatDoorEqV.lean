
/-
  The walks of what compares tiles, lists of shapes and regions; the kinds of these.
-/
import Derived.Test.YtghpkfihdcjlaaaGreatDoorEqW
import Derived.Test.YtghpkfihdcjlaaaGreatDoorRegData
namespace Go.Proofs.YtghpkfihdcjlaaaGreatDoor
open Go.RowKit

section
variable {α : Type} {f g h i : α → Value} {l : List α} {k : Nat}
variable {w : World} {lo hi n : Nat} {A : Option Addr}
theorem Rd.at4 (hd : Rd w lo hi 4 A n (fl4 f g h i l)) (hk : k < n) : ∃ b off a, A = some ⟨b, off, none⟩ ∧ lo ≤ b ∧ b < hi ∧ l[k]? = some a ∧ w.cell? ⟨b, off + k * 4, none⟩ = some (f a) ∧ w.cell? ⟨b, off + k * 4 + 1, none⟩ = some (g a) ∧
    w.cell? ⟨b, off + k * 4 + 2, none⟩ = some (h a) ∧ w.cell? ⟨b, off + k * 4 + 3, none⟩ = some (i a) := by
  obtain ⟨b, off, e, h1, h2, hc⟩ := hd.2 (by omega)
  have hl : k < l.length := by have := hd.1; rw [fl4_length] at this; omega
  have q := fl4_at (f := f) (g := g) (h := h) (i := i) (List.getElem?_eq_getElem hl)
  exact ⟨b, off, l[k], e, h1, h2, List.getElem?_eq_getElem hl, hc _ _ q.1, by rw [Nat.add_assoc]; exact hc _ _ q.2.1, by rw [Nat.add_assoc]; exact hc _ _ q.2.2.1, by rw [Nat.add_assoc]; exact hc _ _ q.2.2.2⟩
end

def wv (c : Wg) : Value := .agg #[.int .i64 c.top, .int .i64 c.right, .int .i64 c.bottom, .int .i64 c.left]
theorem Wg.ext {a b : Wg} (h1 : a.top = b.top) (h2 : a.right = b.right) (h3 : a.bottom = b.bottom) (h4 : a.left = b.left) : a = b := by
  cases a; cases b; simp at h1 h2 h3 h4; subst h1; subst h2; subst h3; subst h4; rfl
/-- a list of shapes: its cells are slices -/
def SlotsRd (w : World) (lo hi : Nat) (vs : List Value) (l : List (List Cell)) : Prop := vs.length = l.length ∧ ∀ (i : Nat) (u : List Cell), l[i]? = some u → ∃ x, vs[i]? = some x ∧ CellsRd w lo hi x u
def CellSSRd (w : World) (lo hi : Nat) (v : Value) (l : List (List Cell)) : Prop := ∃ vs : List Value, SR w lo hi 1 v l.length vs ∧ SlotsRd w lo hi vs l
section
variable {w w' : World} {lo hi lo' hi' : Nat} {v : Value} {vs : List Value} {l : List (List Cell)}
theorem SlotsRd.keep (h : SlotsRd w lo hi vs l) (hs : SameIn lo hi w w') : SlotsRd w' lo hi vs l := ⟨h.1, fun i u hu => by obtain ⟨x, h1, h2⟩ := h.2 i u hu; exact ⟨x, h1, h2.keep hs⟩⟩
theorem SlotsRd.more (h : SlotsRd w lo hi vs l) (h1 : lo' ≤ lo) (h2 : hi ≤ hi') : SlotsRd w lo' hi' vs l := ⟨h.1, fun i u hu => by obtain ⟨x, h3, h4⟩ := h.2 i u hu; exact ⟨x, h3, h4.more h1 h2⟩⟩
theorem CellSSRd.keep (h : CellSSRd w lo hi v l) (hs : SameIn lo hi w w') : CellSSRd w' lo hi v l := by
  obtain ⟨vs, h1, h2⟩ := h
  exact ⟨vs, h1.keep hs, h2.keep hs⟩
theorem CellSSRd.more (h : CellSSRd w lo hi v l) (h1 : lo' ≤ lo) (h2 : hi ≤ hi') : CellSSRd w lo' hi' v l := by
  obtain ⟨vs, h3, h4⟩ := h
  exact ⟨vs, h3.more h1 h2, h4.more h1 h2⟩
/-- an element of a list of shapes -/
theorem Rd.slot {A : Option Addr} {n k : Nat} (hr : Rd w lo hi 1 A n vs) (hs : SlotsRd w lo hi vs l) (hn : n = l.length) (hk : k < n) : ∃ b off u x, A = some ⟨b, off, none⟩ ∧ lo ≤ b ∧ b < hi ∧ l[k]? = some u ∧ w.cell? ⟨b, off + k, none⟩ = some x ∧ CellsRd w lo hi x u := by
  obtain ⟨b, off, e, h1, h2, hc⟩ := hr.2 (by omega)
  have hl : k < l.length := by omega
  obtain ⟨x, hx, hx2⟩ := hs.2 k l[k] (List.getElem?_eq_getElem hl)
  exact ⟨b, off, l[k], x, e, h1, h2, List.getElem?_eq_getElem hl, hc k x hx, hx2⟩
end

theorem same_reg {a b : Reg} : same a b = (decide (a.w = b.w) && same a.rows b.rows) := by
  by_cases h : a = b
  · rw [same_t h]; subst h; rw [same_t rfl]; simp
  · rw [same_f h]
    by_cases h1 : a.w = b.w
    · have : ¬ a.rows = b.rows := fun h2 => h (by cases a; cases b; simp at h1 h2; subst h1; subst h2; rfl)
      rw [same_f this, Bool.and_false]
    · simp [h1]
end Go.Proofs.YtghpkfihdcjlaaaGreatDoor
