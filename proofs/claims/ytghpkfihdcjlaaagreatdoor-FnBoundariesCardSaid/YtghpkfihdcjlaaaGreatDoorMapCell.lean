
/-
  A map from cells to cells that the call itself makes: what a look-up and a store do. And the '==' of cells.
-/
import Derived.Test.YtghpkfihdcjlaaaGreatDoorProg
import Derived.Test.YtghpkfihdcjlaaaGreatDoorKinds
import Derived.MapKept
import Derived.ChangeMaps4
namespace Go.Proofs.YtghpkfihdcjlaaaGreatDoor
open Go.RowKit

def cv (c : Cell) : Value := .agg #[.int .i64 c.x, .int .i64 c.y]
set_option maxRecDepth 100000 in
theorem cellUnder : Tryz.prog.underlying 46 = some (.struct (Tryz.prog.fieldsOf 46)) := by kernel_rfl
set_option maxRecDepth 100000 in
theorem cellStood : Tryz.prog.stoodInHeld 46 = false := by kernel_rfl
set_option maxRecDepth 100000 in
theorem cellFields : (Tryz.prog.fieldsOf 46).toList.map (fun f => (f.name == "_", f.type, f.offset)) = [(false, 3, 0), (false, 3, 1)] := by kernel_rfl
set_option maxRecDepth 100000 in
theorem intSize : Tryz.prog.cellsOf 3 = 1 := by kernel_rfl

set_option maxRecDepth 100000 in
theorem run_equalIn_cell (w : World) (d : Nat) (a b : Cell) : (Op.equalIn (d + 2) 46 (cv a) (cv b)).run Tryz.prog w = .ok (a.x == b.x && a.y == b.y) w := by
  unfold cv
  rw [run_equalIn_struct w (d + 1) _ _ _ cellUnder cellStood]
  have h := cellFields
  match hf : (Tryz.prog.fieldsOf 46).toList with
  | [f0, f1] =>
    rw [hf] at h
    simp at h
    obtain ⟨⟨n0, t0, o0⟩, n1, t1, o1⟩ := h
    have hu : Tryz.prog.underlying 3 = some (.int .i64) := Tryz.underlying3
    have hs : (sizeOf 3).run Tryz.prog w = .ok 1 w := by kernel_rfl
    simp only [Op.eqFields, t0, o0, t1, o1]
    simp [go_sem, n0, n1]
    by_cases hx : a.x = b.x <;> by_cases hy : a.y = b.y <;> simp [hx, hy]
  | [] => rw [hf] at h; simp at h
  | [_] => rw [hf] at h; simp at h
  | _ :: _ :: _ :: _ => rw [hf] at h; simp at h

set_option maxRecDepth 100000 in
theorem run_equal_cell (w : World) (a b : Cell) : (Op.equal 46 (cv a) (cv b)).run Tryz.prog w = .ok (decide (a = b)) w := by
  unfold Op.equal Op.maxDepth
  rw [run_equalIn_cell w 9998 a b]
  congr 1
  rw [Bool.eq_iff_iff]
  cases a
  cases b
  simp

/-- block b is a map that holds these cells, in the order in which they came in -/
def MapIs (w : World) (b : Nat) (l : List (Cell × Cell)) : Prop := ∃ es clock, w.heap[b]? = some (.map es clock) ∧ es.toList.map (fun e => (e.key, e.val)) = l.map fun p => (cv p.1, cv p.2)
theorem MapIs.keep {w w' : World} {b : Nat} {l : List (Cell × Cell)} (h : MapIs w b l) (hb : w'.heap[b]? = w.heap[b]?) : MapIs w' b l := by
  obtain ⟨es, cl, h1, h2⟩ := h
  exact ⟨es, cl, hb.trans h1, h2⟩
theorem MapIs.lt {w : World} {b : Nat} {l : List (Cell × Cell)} (h : MapIs w b l) : b < w.heap.size := by
  obtain ⟨es, cl, h1, h2⟩ := h
  exact (Array.getElem?_eq_some_iff.1 h1).1
theorem MapIs.made (w : World) : MapIs (w.alloc (.map #[] 0)) w.heap.size [] := ⟨#[], 0, heap_alloc_new w _, rfl⟩

set_option maxRecDepth 100000 in
theorem run_findAsking (w : World) (c : Cell) (es : List MapEntry) (i : Nat) (l : List (Cell × Cell)) (h : es.map (fun e => (e.key, e.val)) = l.map fun p => (cv p.1, cv p.2)) :
    ∃ r, (Instr.findAsking 46 (cv c) es i).run Tryz.prog w = .ok r w ∧ r.map (·.2) = (l.find? fun p => decide (c = p.1)).map (fun p => cv p.2) := by
  induction es generalizing i l with
  | nil =>
    cases l with
    | nil => exact ⟨none, by simp [Instr.findAsking], rfl⟩
    | cons p l => simp at h
  | cons e es ih =>
    cases l with
    | nil => simp at h
    | cons p l =>
      simp at h
      obtain ⟨⟨hk, hv⟩, ht⟩ := h
      by_cases hc : c = p.1
      · refine ⟨some (i, e.val), ?_, by simp [hc, hv]⟩
        simp only [Instr.findAsking, Sem.run_bind]
        rw [hk, run_equal_cell]
        simp [hc, Result.andThen]
      · obtain ⟨r, h1, h2⟩ := ih (i + 1) l (by simpa using ht)
        refine ⟨r, ?_, by simp [hc, h2]⟩
        simp only [Instr.findAsking, Sem.run_bind]
        rw [hk, run_equal_cell]
        simp [hc, Result.andThen, h1]

set_option maxRecDepth 100000 in
theorem run_findKey_cell (w : World) (c : Cell) (es : List MapEntry) (l : List (Cell × Cell)) (h : es.map (fun e => (e.key, e.val)) = l.map fun p => (cv p.1, cv p.2)) :
    ∃ r, (Instr.findKey 46 (cv c) es).run Tryz.prog w = .ok r w ∧ r.map (·.2) = (l.find? fun p => decide (c = p.1)).map (fun p => cv p.2) := by
  cases es with
  | nil =>
    cases l with
    | nil => exact ⟨none, by simp [Instr.findKey, run_underlying cellUnder, Instr.findNow], rfl⟩
    | cons p l => simp at h
  | cons e es =>
    obtain ⟨r, h1, h2⟩ := run_findAsking w c (e :: es) 0 l h
    refine ⟨r, ?_, h2⟩
    unfold cv at h1 ⊢
    simp only [Instr.findKey, Sem.run_bind, run_underlying cellUnder, Result.andThen_ok, Instr.findNow, Instr.sameNow]
    exact h1

set_option maxRecDepth 100000 in
theorem run_checkKey_int (w : World) (em : Bool) (n : Nat) (x : Int) : (Instr.checkKey em (n + 1) 3 (.int .i64 x)).run Tryz.prog w = .ok () w := by
  have hu : Tryz.prog.underlying 3 = some (.int .i64) := Tryz.underlying3
  unfold Instr.checkKey
  simp [Sem.run_bind, run_underlying hu]
set_option maxRecDepth 100000 in
theorem run_checkKey_aux (w : World) (em : Bool) (n : Nat) (c : Cell) : (Instr.checkKey em (n + 1 + 1) 46 (cv c)).run Tryz.prog w = .ok () w := by
  have h := cellFields
  match hf : (Tryz.prog.fieldsOf 46).toList with
  | [f0, f1] =>
    rw [hf] at h
    simp at h
    obtain ⟨⟨n0, t0, o0⟩, n1, t1, o1⟩ := h
    have hs : (sizeOf 3).run Tryz.prog w = .ok 1 w := by kernel_rfl
    have h0 := run_checkKey_int w em n c.x
    have h1 := run_checkKey_int w em n c.y
    unfold cv
    unfold Instr.checkKey
    simp only [Sem.run_bind, run_underlying cellUnder, Result.andThen_ok]
    rw [← Array.forIn_toList, hf]
    simp only [List.forIn_cons, List.forIn_nil, Sem.run_bind, t0, t1, o0, o1, n0, n1, ne_eq, not_false_eq_true, if_true]
    simp [go_sem, h0, h1]
  | [] => rw [hf] at h; simp at h
  | [_] => rw [hf] at h; simp at h
  | _ :: _ :: _ :: _ => rw [hf] at h; simp at h
set_option maxRecDepth 100000 in
theorem run_checkKey_cell (w : World) (em : Bool) (c : Cell) : (Instr.checkKey em 10000 46 (cv c)).run Tryz.prog w = .ok () w := run_checkKey_aux w em 9998 c

set_option maxRecDepth 100000 in
theorem zeroCell (w : World) : (zeroValue 46).run Tryz.prog w = .ok (cv ⟨0, 0⟩) w := by kernel_rfl

/-- what a cell is mapped to -/
def mapAt (l : List (Cell × Cell)) (c : Cell) : Option Cell := (l.find? fun p => decide (c = p.1)).map (·.2)

end Go.Proofs.YtghpkfihdcjlaaaGreatDoor
