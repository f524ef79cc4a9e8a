
/-
  The kinds of data that go from call to call: what a value holds, in memory that is only read (..Rd) or that is fresh and may be written (..In).
-/
import Derived.Test.YtghpkfihdcjlaaaGreatDoorCommon
namespace Go.Proofs.YtghpkfihdcjlaaaGreatDoor
open Go.RowKit

structure Cell where
  x : Int
  y : Int
  deriving DecidableEq
structure Ed where
  add : Bool
  x : Int
  y : Int
structure Wg where
  top : Int
  right : Int
  bottom : Int
  left : Int
structure Reg where
  w : Int
  rows : List Int

def ic (l : List Int) : List Value := l.map fun n => .int .i64 n
def cc (l : List Cell) : List Value := fl2 (fun e => .int .i64 e.x) (fun e => .int .i64 e.y) l
def edc (l : List Ed) : List Value := fl3 (fun e => .bool e.add) (fun e => .int .i64 e.x) (fun e => .int .i64 e.y) l
def wgc (l : List Wg) : List Value := fl4 (fun e => .int .i64 e.top) (fun e => .int .i64 e.right) (fun e => .int .i64 e.bottom) (fun e => .int .i64 e.left) l
theorem ic_at {l : List Int} {k : Nat} {a : Int} (h : l[k]? = some a) : (ic l)[k]? = some (.int .i64 a) := by simp [ic, h]
theorem ic_length {l : List Int} : (ic l).length = l.length := by simp [ic]
theorem ic_append (l m : List Int) : ic (l ++ m) = ic l ++ ic m := by simp [ic]
theorem cc_at {l : List Cell} {k : Nat} {a : Cell} (h : l[k]? = some a) : (cc l)[k * 2]? = some (.int .i64 a.x) ∧ (cc l)[k * 2 + 1]? = some (.int .i64 a.y) := fl2_at h
theorem cc_length {l : List Cell} : (cc l).length = l.length * 2 := fl2_length
theorem cc_append (l m : List Cell) : cc (l ++ m) = cc l ++ cc m := fl2_append l m
theorem edc_at {l : List Ed} {k : Nat} {a : Ed} (h : l[k]? = some a) : (edc l)[k * 3]? = some (.bool a.add) ∧ (edc l)[k * 3 + 1]? = some (.int .i64 a.x) ∧ (edc l)[k * 3 + 2]? = some (.int .i64 a.y) := fl3_at h
theorem edc_length {l : List Ed} : (edc l).length = l.length * 3 := fl3_length
theorem edc_append (l m : List Ed) : edc (l ++ m) = edc l ++ edc m := fl3_append l m

/-- a slice value that reads as the cells xs, n elements -/
def SR (w : World) (lo hi sz : Nat) (v : Value) (n : Nat) (xs : List Value) : Prop := ∃ A c, v = .slice A n c ∧ n ≤ maxLen ∧ Rd w lo hi sz A n xs
section
variable {w w' : World} {lo hi lo' hi' sz n : Nat} {v : Value} {xs : List Value}
theorem SR.keep (h : SR w lo hi sz v n xs) (hs : SameIn lo hi w w') : SR w' lo hi sz v n xs := by
  obtain ⟨A, c, rfl, hm, hr⟩ := h
  exact ⟨A, c, rfl, hm, hr.keep hs⟩
theorem SR.more (h : SR w lo hi sz v n xs) (h1 : lo' ≤ lo) (h2 : hi ≤ hi') : SR w lo' hi' sz v n xs := by
  obtain ⟨A, c, rfl, hm, hr⟩ := h
  exact ⟨A, c, rfl, hm, hr.more h1 h2⟩
theorem OI.sr {e : TypeId} (h : OI w lo hi e sz v n xs) : SR w lo hi sz v n xs := by
  obtain ⟨A, c, rfl, h1, h2, hr⟩ := h.rd
  exact ⟨A, c, rfl, by omega, hr⟩
end

def IntsRd (w : World) (lo hi : Nat) (v : Value) (l : List Int) : Prop := SR w lo hi 1 v l.length (ic l)
def IntsIn (w : World) (lo hi : Nat) (v : Value) (l : List Int) : Prop := OI w lo hi 3 1 v l.length (ic l)
section
variable {w w' : World} {lo hi lo' hi' : Nat} {v : Value} {l : List Int}
theorem IntsRd.keep (h : IntsRd w lo hi v l) (hs : SameIn lo hi w w') : IntsRd w' lo hi v l := SR.keep h hs
theorem IntsRd.more (h : IntsRd w lo hi v l) (h1 : lo' ≤ lo) (h2 : hi ≤ hi') : IntsRd w lo' hi' v l := SR.more h h1 h2
theorem IntsIn.keep (h : IntsIn w lo hi v l) (hs : SameIn lo hi w w') : IntsIn w' lo hi v l := OI.keep h hs
theorem IntsIn.rd (h : IntsIn w lo hi v l) : IntsRd w lo hi v l := OI.sr h
theorem IntsIn.mk {n : Nat} {xs : List Value} (h : w.ownsRow lo 3 1 v n xs) (hn : n = l.length) (hx : xs = ic l) : IntsIn w lo w.heap.size v l := by
  subst hn
  subst hx
  exact OI.mk h
theorem IntsIn.nil : IntsIn w lo hi (.slice none 0 0) [] := OI.nil
end
def CellsRd (w : World) (lo hi : Nat) (v : Value) (l : List Cell) : Prop := SR w lo hi 2 v l.length (cc l)
def CellsIn (w : World) (lo hi : Nat) (v : Value) (l : List Cell) : Prop := OI w lo hi 46 2 v l.length (cc l)
section
variable {w w' : World} {lo hi lo' hi' : Nat} {v : Value} {l : List Cell}
theorem CellsRd.keep (h : CellsRd w lo hi v l) (hs : SameIn lo hi w w') : CellsRd w' lo hi v l := SR.keep h hs
theorem CellsRd.more (h : CellsRd w lo hi v l) (h1 : lo' ≤ lo) (h2 : hi ≤ hi') : CellsRd w lo' hi' v l := SR.more h h1 h2
theorem CellsIn.keep (h : CellsIn w lo hi v l) (hs : SameIn lo hi w w') : CellsIn w' lo hi v l := OI.keep h hs
theorem CellsIn.rd (h : CellsIn w lo hi v l) : CellsRd w lo hi v l := OI.sr h
theorem CellsIn.mk {n : Nat} {xs : List Value} (h : w.ownsRow lo 46 2 v n xs) (hn : n = l.length) (hx : xs = cc l) : CellsIn w lo w.heap.size v l := by
  subst hn
  subst hx
  exact OI.mk h
theorem CellsIn.nil : CellsIn w lo hi (.slice none 0 0) [] := OI.nil
end

/-- a region: its width, its rows -/
def RegRd (w : World) (lo hi : Nat) (v : Value) (r : Reg) : Prop := ∃ s, v = .agg #[.int .i64 r.w, s] ∧ IntsRd w lo hi s r.rows
def RegIn (w : World) (lo hi : Nat) (v : Value) (r : Reg) : Prop := ∃ s, v = .agg #[.int .i64 r.w, s] ∧ IntsIn w lo hi s r.rows
section
variable {w w' : World} {lo hi lo' hi' : Nat} {v : Value} {r : Reg}
theorem RegRd.keep (h : RegRd w lo hi v r) (hs : SameIn lo hi w w') : RegRd w' lo hi v r := by
  obtain ⟨s, rfl, h⟩ := h
  exact ⟨s, rfl, h.keep hs⟩
theorem RegRd.more (h : RegRd w lo hi v r) (h1 : lo' ≤ lo) (h2 : hi ≤ hi') : RegRd w lo' hi' v r := by
  obtain ⟨s, rfl, h⟩ := h
  exact ⟨s, rfl, h.more h1 h2⟩
theorem RegIn.keep (h : RegIn w lo hi v r) (hs : SameIn lo hi w w') : RegIn w' lo hi v r := by
  obtain ⟨s, rfl, h⟩ := h
  exact ⟨s, rfl, h.keep hs⟩
theorem RegIn.rd (h : RegIn w lo hi v r) : RegRd w lo hi v r := by
  obtain ⟨s, rfl, h⟩ := h
  exact ⟨s, rfl, h.rd⟩
end

/-! what the laws' marking writes -/
def Ints.mk (k : Int) (l : List Int) : List Int := (List.range l.length).map fun i : Nat => k + (i : Int)
def Cells.mk (k : Int) (l : List Cell) : List Cell := (List.range l.length).map fun i : Nat => ⟨k + 2 * (i : Int), k + 2 * (i : Int) + 1⟩
def Eds.mk (k : Int) (l : List Ed) : List Ed := (List.range l.length).map fun i : Nat => ⟨k % 3 == 0, k + 3 * (i : Int) + 1, k + 3 * (i : Int) + 1 + 1⟩
def Regs.mk (k : Int) (r : Reg) : Reg := ⟨r.w, Ints.mk k r.rows⟩
theorem Ints.mk_length {k : Int} {l : List Int} : (Ints.mk k l).length = l.length := by simp [Ints.mk]
theorem Ints.mk_at {k : Int} {l : List Int} {i : Nat} (h : i < l.length) : (Ints.mk k l)[i]? = some (k + (i : Int)) := by simp [Ints.mk, h]
theorem Cells.mk_length {k : Int} {l : List Cell} : (Cells.mk k l).length = l.length := by simp [Cells.mk]
theorem Cells.mk_at {k : Int} {l : List Cell} {i : Nat} (h : i < l.length) : (Cells.mk k l)[i]? = some ⟨k + 2 * (i : Int), k + 2 * (i : Int) + 1⟩ := by simp [Cells.mk, h]
theorem Eds.mk_length {k : Int} {l : List Ed} : (Eds.mk k l).length = l.length := by simp [Eds.mk]
theorem Eds.mk_at {k : Int} {l : List Ed} {i : Nat} (h : i < l.length) : (Eds.mk k l)[i]? = some ⟨k % 3 == 0, k + 3 * (i : Int) + 1, k + 3 * (i : Int) + 1 + 1⟩ := by simp [Eds.mk, h]
end Go.Proofs.YtghpkfihdcjlaaaGreatDoor
