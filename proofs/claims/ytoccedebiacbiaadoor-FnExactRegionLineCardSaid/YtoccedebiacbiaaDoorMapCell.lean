
/-
  A map from cells to cells that the call itself makes: what a look-up and a store do. And the '==' of cells.
-/
import Derived.Test.YtoccedebiacbiaaDoorProg
import Derived.Test.YtoccedebiacbiaaDoorKinds
import Derived.MapKept
import Derived.ChangeMaps4
namespace Go.Proofs.YtoccedebiacbiaaDoor
open Go.RowKit

def cv (c : Cell) : Value := .agg #[.int .i64 c.x, .int .i64 c.y]
set_option maxRecDepth 100000 in
theorem cellUnder : Tryd.prog.underlying 52 = some (.struct (Tryd.prog.fieldsOf 52)) := by kernel_rfl
set_option maxRecDepth 100000 in
theorem cellStood : Tryd.prog.stoodInHeld 52 = false := by kernel_rfl
set_option maxRecDepth 100000 in
theorem cellFields : (Tryd.prog.fieldsOf 52).toList.map (fun f => (f.name == "_", f.type, f.offset)) = [(false, 3, 0), (false, 3, 1)] := by kernel_rfl
set_option maxRecDepth 100000 in
theorem intSize : Tryd.prog.cellsOf 3 = 1 := by kernel_rfl

set_option maxRecDepth 100000 in
theorem run_equalIn_cell (w : World) (d : Nat) (a b : Cell) : (Op.equalIn (d + 2) 52 (cv a) (cv b)).run Tryd.prog w = .ok (a.x == b.x && a.y == b.y) w := by
  unfold cv
  rw [run_equalIn_struct w (d + 1) _ _ _ cellUnder cellStood]
  have h := cellFields
  match hf : (Tryd.prog.fieldsOf 52).toList with
  | [f0, f1] =>
    rw [hf] at h
    simp at h
    obtain ⟨⟨n0, t0, o0⟩, n1, t1, o1⟩ := h
    have hu : Tryd.prog.underlying 3 = some (.int .i64) := Tryd.underlying3
    have hs : (sizeOf 3).run Tryd.prog w = .ok 1 w := by kernel_rfl
    simp only [Op.eqFields, t0, o0, t1, o1]
    simp [go_sem, n0, n1]
    by_cases hx : a.x = b.x <;> by_cases hy : a.y = b.y <;> simp [hx, hy]
  | [] => rw [hf] at h; simp at h
  | [_] => rw [hf] at h; simp at h
  | _ :: _ :: _ :: _ => rw [hf] at h; simp at h

set_option maxRecDepth 100000 in
theorem run_equal_cell (w : World) (a b : Cell) : (Op.equal 52 (cv a) (cv b)).run Tryd.prog w = .ok (decide (a = b)) w := by
  unfold Op.equal Op.maxDepth
  rw [run_equalIn_cell w 9998 a b]
  congr 1
  rw [Bool.eq_iff_iff]
  cases a
  cases b
  simp

/-- block b is a map that holds these cells, in the order in which they came in -/
def MapIs (w : World) (b : Nat) (l : List (Cell × Cell)) : Prop := ∃ es clock, w.heap[b]? = some (.map es clock) ∧ es.toList.map (fun e => (e.key, e.val)) = l.map fun p => (cv p.1, cv p.2)
theorem MapIs.keep {w w' : World} {b : Nat} {l : List (Cell × Cell)} (h : MapIs w b l) (hb : w'.heap[b]? = w.heap[b]?) : MapIs w' b l := by
  obtain ⟨es, cl, h1, h2⟩ := h
  exact ⟨es, cl, hb.trans h1, h2⟩
theorem MapIs.lt {w : World} {b : Nat} {l : List (Cell × Cell)} (h : MapIs w b l) : b < w.heap.size := by
  obtain ⟨es, cl, h1, h2⟩ := h
  exact (Array.getElem?_eq_some_iff.1 h1).1
theorem MapIs.made (w : World) : MapIs (w.alloc (.map #[] 0)) w.heap.size [] := ⟨#[], 0, heap_alloc_new w _, rfl⟩

set_option maxRecDepth 100000 in
theorem run_findAsking (w : World) (c : Cell) (es : List MapEntry) (i : Nat) (l : List (Cell × Cell)) (h : es.map (fun e => (e.key, e.val)) = l.map fun p => (cv p.1, cv p.2)) :
    ∃ r, (Instr.findAsking 52 (cv c) es i).run Tryd.prog w = .ok r w ∧ r.map (·.2) = (l.find? fun p => decide (c = p.1)).map (fun p => cv p.2) := by
  induction es generalizing i l with
  | nil =>
    cases l with
    | nil => exact ⟨none, by simp [Instr.findAsking], rfl⟩
    | cons p l => simp at h
  | cons e es ih =>
    cases l with
    | nil => simp at h
    | cons p l =>
      simp at h
      obtain ⟨⟨hk, hv⟩, ht⟩ := h
      by_cases hc : c = p.1
      · refine ⟨some (i, e.val), ?_, by simp [hc, hv]⟩
        simp only [Instr.findAsking, Sem.run_bind]
        rw [hk, run_equal_cell]
        simp [hc, Result.andThen]
      · obtain ⟨r, h1, h2⟩ := ih (i + 1) l (by simpa using ht)
        refine ⟨r, ?_, by simp [hc, h2]⟩
        simp only [Instr.findAsking, Sem.run_bind]
        rw [hk, run_equal_cell]
        simp [hc, Result.andThen, h1]

set_option maxRecDepth 100000 in
theorem run_findKey_cell (w : World) (c : Cell) (es : List MapEntry) (l : List (Cell × Cell)) (h : es.map (fun e => (e.key, e.val)) = l.map fun p => (cv p.1, cv p.2)) :
    ∃ r, (Instr.findKey 52 (cv c) es).run Tryd.prog w = .ok r w ∧ r.map (·.2) = (l.find? fun p => decide (c = p.1)).map (fun p => cv p.2) := by
  cases es with
  | nil =>
    cases l with
    | nil => exact ⟨none, by simp [Instr.findKey, run_underlying cellUnder, Instr.findNow], rfl⟩
    | cons p l => simp at h
  | cons e es =>
    obtain ⟨r, h1, h2⟩ := run_findAsking w c (e :: es) 0 l h
    refine ⟨r, ?_, h2⟩
    unfold cv at h1 ⊢
    simp only [Instr.findKey, Sem.run_bind, run_underlying cellUnder, Result.andThen_ok, Instr.findNow, Instr.sameNow]
    exact h1

set_option maxRecDepth 100000 in
theorem run_checkKey_int (w : World) (em : Bool) (n : Nat) (x : Int) : (Instr.checkKey em (n + 1) 3 (.int .i64 x)).run Tryd.prog w = .ok () w := by
  have hu : Tryd.prog.underlying 3 = some (.int .i64) := Tryd.underlying3
  unfold Instr.checkKey
  simp [Sem.run_bind, run_underlying hu]
set_option maxRecDepth 100000 in
theorem run_checkKey_aux (w : World) (em : Bool) (n : Nat) (c : Cell) : (Instr.checkKey em (n + 1 + 1) 52 (cv c)).run Tryd.prog w = .ok () w := by
  have h := cellFields
  match hf : (Tryd.prog.fieldsOf 52).toList with
  | [f0, f1] =>
    rw [hf] at h
    simp at h
    obtain ⟨⟨n0, t0, o0⟩, n1, t1, o1⟩ := h
    have hs : (sizeOf 3).run Tryd.prog w = .ok 1 w := by kernel_rfl
    have h0 := run_checkKey_int w em n c.x
    have h1 := run_checkKey_int w em n c.y
    unfold cv
    unfold Instr.checkKey
    simp only [Sem.run_bind, run_underlying cellUnder, Result.andThen_ok]
    rw [← Array.forIn_toList, hf]
    simp only [List.forIn_cons, List.forIn_nil, Sem.run_bind, t0, t1, o0, o1, n0, n1, ne_eq, not_false_eq_true, if_true]
    simp [go_sem, h0, h1]
  | [] => rw [hf] at h; simp at h
  | [_] => rw [hf] at h; simp at h
  | _ :: _ :: _ :: _ => rw [hf] at h; simp at h
set_option maxRecDepth 100000 in
theorem run_checkKey_cell (w : World) (em : Bool) (c : Cell) : (Instr.checkKey em 10000 52 (cv c)).run Tryd.prog w = .ok () w := run_checkKey_aux w em 9998 c

set_option maxRecDepth 100000 in
theorem mapUnder : Tryd.prog.underlying 95 = some (.map 52 52) := by kernel_rfl
set_option maxRecDepth 100000 in
theorem zeroCell (w : World) : (zeroValue 52).run Tryd.prog w = .ok (cv ⟨0, 0⟩) w := by kernel_rfl

/-- what a cell is mapped to -/
def mapAt (l : List (Cell × Cell)) (c : Cell) : Option Cell := (l.find? fun p => decide (c = p.1)).map (·.2)

set_option maxRecDepth 100000 in
theorem run_lookup_cell {w : World} {b : Nat} {l : List (Cell × Cell)} (h : MapIs w b l) (c : Cell) :
    (Instr.lookup 95 (.map (some b)) (cv c) false).run Tryd.prog w = .ok (cv ((mapAt l c).getD ⟨0, 0⟩)) w := by
  obtain ⟨es, cl, h1, h2⟩ := h
  obtain ⟨r, h3, h4⟩ := run_findKey_cell w c es.toList l h2
  simp only [Instr.lookup, Sem.run_bind, run_underlying mapUnder, MapKept.run_getObj_map h1, Result.andThen_ok, Sem.run_pure, run_checkKey_cell, h3]
  cases r with
  | none =>
    have : mapAt l c = none := by
      unfold mapAt
      cases hf : l.find? (fun p => decide (c = p.1)) with
      | none => rfl
      | some p => rw [hf] at h4; simp at h4
    simp [this, cv]
  | some q =>
    obtain ⟨j, v⟩ := q
    cases hf : l.find? (fun p => decide (c = p.1)) with
    | none => rw [hf] at h4; simp at h4
    | some p =>
      rw [hf] at h4
      simp at h4
      subst h4
      simp [mapAt, hf]
set_option maxRecDepth 100000 in
theorem run_lookup_cell_ok {w : World} {b : Nat} {l : List (Cell × Cell)} (h : MapIs w b l) (c : Cell) :
    (Instr.lookup 95 (.map (some b)) (cv c) true).run Tryd.prog w = .ok (.tuple #[cv ((mapAt l c).getD ⟨0, 0⟩), .bool (mapAt l c).isSome]) w := by
  obtain ⟨es, cl, h1, h2⟩ := h
  obtain ⟨r, h3, h4⟩ := run_findKey_cell w c es.toList l h2
  simp only [Instr.lookup, Sem.run_bind, run_underlying mapUnder, MapKept.run_getObj_map h1, Result.andThen_ok, Sem.run_pure, run_checkKey_cell, h3]
  cases r with
  | none =>
    have : mapAt l c = none := by
      unfold mapAt
      cases hf : l.find? (fun p => decide (c = p.1)) with
      | none => rfl
      | some p => rw [hf] at h4; simp at h4
    simp [this, cv]
  | some q =>
    obtain ⟨j, v⟩ := q
    cases hf : l.find? (fun p => decide (c = p.1)) with
    | none => rw [hf] at h4; simp at h4
    | some p =>
      rw [hf] at h4
      simp at h4
      subst h4
      simp [mapAt, hf]

set_option maxRecDepth 100000 in
/-- a store under a new key -/
theorem run_update_cell {w : World} {b : Nat} {l : List (Cell × Cell)} (h : MapIs w b l) (c d : Cell) (hn : mapAt l c = none) :
    ∃ w', (Instr.mapUpdate 95 (.map (some b)) (cv c) (cv d)).run Tryd.prog w = .ok () w' ∧ MapIs w' b (l ++ [(c, d)]) ∧ w.grownBy w' (some b) ∧ w'.heap.size = w.heap.size := by
  have hlt := h.lt
  obtain ⟨es, cl, h1, h2⟩ := h
  obtain ⟨r, h3, h4⟩ := run_findKey_cell w c es.toList l h2
  have hr : r = none := by
    cases r with
    | none => rfl
    | some q =>
      unfold mapAt at hn
      cases hf : l.find? (fun p => decide (c = p.1)) with
      | none => rw [hf] at h4; simp at h4
      | some p => rw [hf] at hn; simp at hn
  subst hr
  refine ⟨{ w with heap := w.heap.setIfInBounds b (.map (es.push { key := cv c, val := cv d, born := cl }) (cl + 1)) }, ?_, ⟨es.push { key := cv c, val := cv d, born := cl }, cl + 1, by simp [hlt], by simp [h2]⟩, ⟨rfl, rfl, rfl, by simp, fun k _ hne => ?_⟩, by simp⟩
  · simp only [Instr.mapUpdate, Sem.run_bind, run_underlying mapUnder, MapKept.run_getObj_map h1, Result.andThen_ok, run_checkKey_cell, h3, MapKept.run_setObj_map _ h1]
  · have hkb : b ≠ k := fun e => hne (by rw [e])
    simp [hkb]
end Go.Proofs.YtoccedebiacbiaaDoor
