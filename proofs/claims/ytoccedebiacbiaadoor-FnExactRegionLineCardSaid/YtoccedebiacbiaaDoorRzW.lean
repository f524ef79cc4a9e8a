
/-
  A search by breadth in plain Lean: the list of the cells that have been seen, each with the cell that it was seen from. The walks under the search by breadth: the places around a cell, the closures. The walk of the program's search by breadth. The law's own search across the board: its helpers. The law's own search across the board. The law's own search across the board: from the first column to the last one The program's way across the board, from side to side. The law's ways across the board, and that they are the program's.
-/
import Derived.Test.YtoccedebiacbiaaDoorMapCell
import Derived.Test.YtoccedebiacbiaaDoorCellX
import Derived.Test.YtoccedebiacbiaaDoorQueue
import Derived.Deep.LoopGhost
import Derived.Outline
import Derived.Test.YtoccedebiacbiaaDoorSepX
namespace Go.Proofs.YtoccedebiacbiaaDoor

def addN (opn : Cell → Bool) (p : Cell) (S : List (Cell × Cell)) (d : Cell) : List (Cell × Cell) := if (mapAt S d).isSome then S else if opn d then S ++ [(d, p)] else S
def expand (around : Cell → List Cell) (opn : Cell → Bool) (S : List (Cell × Cell)) (p : Cell) : List (Cell × Cell) := (around p).foldl (addN opn p) S
def wayGo (S : List (Cell × Cell)) : Nat → Cell → List Cell → List Cell
  | 0, _, acc => acc
  | f + 1, c, acc => if (mapAt S c).getD ⟨0, 0⟩ = c then acc else wayGo S f ((mapAt S c).getD ⟨0, 0⟩) ((mapAt S c).getD ⟨0, 0⟩ :: acc)
def bfs (around : Cell → List Cell) (opn done : Cell → Bool) : Nat → List (Cell × Cell) → Nat → Option (List Cell)
  | 0, _, _ => none
  | f + 1, S, i =>
    match S[i]? with
    | none => none
    | some (c, _) => if done c then some (wayGo S S.length c [c]) else bfs around opn done f (expand around opn S c) (i + 1)
def roots (opn : Cell → Bool) (l : List Cell) : List (Cell × Cell) := (l.filter opn).map fun c => (c, c)

/-- all keys differ, all are open, each was seen from itself or from an earlier one -/
structure BInv (opn : Cell → Bool) (S : List (Cell × Cell)) : Prop where
  nodup : (S.map (·.1)).Nodup
  opens : ∀ p ∈ S, opn p.1 = true
  chain : ∀ (j : Nat) (c p : Cell), S[j]? = some (c, p) → c = p ∨ ∃ (k : Nat) (q : Cell), k < j ∧ S[k]? = some (p, q)

theorem mapAt_none {S : List (Cell × Cell)} {c : Cell} : mapAt S c = none ↔ c ∉ S.map (·.1) := by
  unfold mapAt
  rw [Option.map_eq_none_iff, List.find?_eq_none]
  simp only [decide_eq_true_eq, List.mem_map, not_exists, not_and]
  exact ⟨fun h p hp e => h p hp e.symm, fun h p hp e => h p hp e.symm⟩
theorem mapAt_some {S : List (Cell × Cell)} (h : (S.map (·.1)).Nodup) {j : Nat} {c p : Cell} (hj : S[j]? = some (c, p)) : mapAt S c = some p := by
  induction S generalizing j with
  | nil => simp at hj
  | cons x S ih =>
    simp only [List.map_cons, List.nodup_cons] at h
    cases j with
    | zero => simp at hj; subst hj; simp [mapAt]
    | succ j =>
      simp at hj
      have hne : c ≠ x.1 := fun e => h.1 (by rw [← e]; exact List.mem_map.2 ⟨(c, p), List.mem_of_getElem? hj, rfl⟩)
      have := ih h.2 hj
      unfold mapAt at this ⊢
      simp [hne, this]
theorem BInv.nil (opn : Cell → Bool) : BInv opn [] := ⟨by simp, by simp, by simp⟩
theorem BInv.snoc {opn : Cell → Bool} {S : List (Cell × Cell)} (h : BInv opn S) {d p : Cell} (hd : mapAt S d = none) (ho : opn d = true) (hp : d = p ∨ ∃ (k : Nat) (q : Cell), S[k]? = some (p, q)) : BInv opn (S ++ [(d, p)]) := by
  refine ⟨?_, ?_, ?_⟩
  · rw [List.map_append, List.nodup_append]
    refine ⟨h.nodup, by simp, fun a ha b hb => ?_⟩
    simp at hb
    subst hb
    exact fun e => mapAt_none.1 hd (e ▸ ha)
  · intro q hq
    rcases List.mem_append.1 hq with hq | hq
    · exact h.opens q hq
    · simp at hq; subst hq; exact ho
  · intro j c q hj
    by_cases hl : j < S.length
    · rw [List.getElem?_append_left hl] at hj
      rcases h.chain j c q hj with e | ⟨k, q', hk, hkq⟩
      · exact .inl e
      · exact .inr ⟨k, q', hk, by rw [List.getElem?_append_left (by omega)]; exact hkq⟩
    · rw [List.getElem?_append_right (by omega)] at hj
      have hj0 : j - S.length = 0 := by
        rcases Nat.eq_zero_or_pos (j - S.length) with h0 | h0
        · exact h0
        · rw [List.getElem?_eq_none (by simp; omega)] at hj; cases hj
      rw [hj0] at hj
      simp at hj
      obtain ⟨rfl, rfl⟩ := hj
      rcases hp with e | ⟨k, q', hkq⟩
      · exact .inl e
      · have hk := (List.getElem?_eq_some_iff.1 hkq).1
        exact .inr ⟨k, q', by omega, by rw [List.getElem?_append_left hk]; exact hkq⟩
theorem nodup_le {α : Type} [DecidableEq α] {l G : List α} (h : l.Nodup) (hs : ∀ a ∈ l, a ∈ G) : l.length ≤ G.length := by
  induction l generalizing G with
  | nil => simp
  | cons a l ih =>
    rw [List.nodup_cons] at h
    have hm := hs a (by simp)
    have := ih (G := G.erase a) h.2 (fun b hb => (List.mem_erase_of_ne (fun e => h.1 (by rw [← e]; exact hb))).2 (hs b (by simp [hb])))
    rw [List.length_erase_of_mem hm] at this
    have hp : 0 < G.length := List.length_pos_of_mem hm
    simp
    omega
theorem BInv.len {opn : Cell → Bool} {S : List (Cell × Cell)} (h : BInv opn S) {G : List Cell} (hG : ∀ c, opn c = true → c ∈ G) : S.length ≤ G.length := by
  have := nodup_le h.nodup (G := G) (fun a ha => by
    obtain ⟨p, hp, rfl⟩ := List.mem_map.1 ha
    exact hG _ (h.opens p hp))
  simpa using this
theorem addN_keep {opn : Cell → Bool} {p d : Cell} {S : List (Cell × Cell)} : ∃ T, addN opn p S d = S ++ T := by
  unfold addN
  split
  · exact ⟨[], by simp⟩
  · split
    · exact ⟨_, rfl⟩
    · exact ⟨[], by simp⟩
theorem BInv.addN {opn : Cell → Bool} {p d : Cell} {S : List (Cell × Cell)} (h : BInv opn S) (hp : ∃ (k : Nat) (q : Cell), S[k]? = some (p, q)) : BInv opn (addN opn p S d) := by
  unfold Go.Proofs.YtoccedebiacbiaaDoor.addN
  split
  · exact h
  · rename_i hn
    split
    · rename_i ho
      exact h.snoc (by simpa using hn) ho (.inr hp)
    · exact h
theorem fold_inv {opn : Cell → Bool} {p : Cell} (l : List Cell) : ∀ {S : List (Cell × Cell)} (_ : BInv opn S) (_ : ∃ (k : Nat) (q : Cell), S[k]? = some (p, q)), BInv opn (l.foldl (addN opn p) S) ∧ ∃ T, l.foldl (addN opn p) S = S ++ T := by
  induction l with
  | nil => intro S h _; exact ⟨h, [], by simp⟩
  | cons d l ih =>
    intro S h hp
    obtain ⟨T, hT⟩ := addN_keep (opn := opn) (p := p) (d := d) (S := S)
    have h1 := h.addN (d := d) hp
    have hp1 : ∃ (k : Nat) (q : Cell), (addN opn p S d)[k]? = some (p, q) := by
      obtain ⟨k, q, hk⟩ := hp
      exact ⟨k, q, by rw [hT, List.getElem?_append_left (List.getElem?_eq_some_iff.1 hk).1]; exact hk⟩
    obtain ⟨h2, T', hT'⟩ := ih h1 hp1
    exact ⟨h2, T ++ T', by rw [List.foldl_cons, hT', hT, List.append_assoc]⟩
theorem roots_take {opn : Cell → Bool} {l : List Cell} {k : Nat} {c : Cell} (h : l[k]? = some c) : roots opn (l.take (k + 1)) = roots opn (l.take k) ++ if opn c = true then [(c, c)] else [] := by
  unfold roots
  have hk := (List.getElem?_eq_some_iff.1 h).1
  have e : l[k] = c := (List.getElem?_eq_some_iff.1 h).2
  rw [List.take_succ_eq_append_getElem hk, List.filter_append, List.map_append, e]
  congr 1
  cases hq : opn c <;> simp [hq]
theorem roots_new {opn : Cell → Bool} {l : List Cell} (hn : l.Nodup) {k : Nat} {c : Cell} (h : l[k]? = some c) : mapAt (roots opn (l.take k)) c = none := by
  rw [mapAt_none]
  intro hm
  simp only [roots, List.map_map, List.mem_map, List.mem_filter] at hm
  obtain ⟨d, ⟨hd, _⟩, e⟩ := hm
  simp at e
  subst e
  obtain ⟨j, hj, e⟩ := List.getElem_of_mem hd
  rw [List.getElem_take] at e
  have hk := (List.getElem?_eq_some_iff.1 h).1
  have e2 : l[k] = d := (List.getElem?_eq_some_iff.1 h).2
  rw [List.length_take] at hj
  exact List.pairwise_iff_getElem.1 hn j k (by omega) hk (by omega) (by rw [e, e2])
theorem roots_inv {opn : Cell → Bool} {l : List Cell} (hn : l.Nodup) : ∀ k, k ≤ l.length → BInv opn (roots opn (l.take k)) := by
  intro k
  induction k with
  | zero => intro _; exact BInv.nil opn
  | succ k ih =>
    intro hk
    have hc := List.getElem?_eq_getElem (show k < l.length by omega)
    rw [roots_take hc]
    split
    · rename_i ho
      exact (ih (by omega)).snoc (roots_new hn hc) ho (.inl rfl)
    · rw [List.append_nil]; exact ih (by omega)
theorem bfs_end {around : Cell → List Cell} {opn done : Cell → Bool} {f i : Nat} {S : List (Cell × Cell)} (h : S.length ≤ i) : bfs around opn done f S i = none := by
  cases f with
  | zero => rfl
  | succ f => simp [bfs, List.getElem?_eq_none h]
end Go.Proofs.YtoccedebiacbiaaDoor

namespace Go.Proofs.YtoccedebiacbiaaDoor
open Go.RowKit

/-- a cell near the board -/
def Near (c : Cell) : Prop := -100 ≤ c.x ∧ c.x ≤ 100 ∧ -100 ≤ c.y ∧ c.y ≤ 100
def sidesL (c : Cell) : List Cell := [⟨c.x, c.y - 1⟩, ⟨c.x - 1, c.y⟩, ⟨c.x + 1, c.y⟩, ⟨c.x, c.y + 1⟩]

theorem Blk.new1 (w : World) (o : Obj) (t : TypeId) (cs : Array Value) : Blk ((w.alloc o).alloc (.cells cs t)) (w.heap.size + 1) t cs := by
  have := Blk.new (w.alloc o) t cs
  simpa using this

set_option maxRecDepth 100000 in
set_option maxHeartbeats 800000 in
theorem sides_c (c : Cell) (w : World) (hn : Near c) :
    Calls Tryd.prog 52 #[cv c] w fun e w' => ∃ v, e = .returned v ∧ CellsIn w' w.heap.size w'.heap.size v (sidesL c) ∧ Below w.heap.size w w' := by
  obtain ⟨x, y⟩ := c
  obtain ⟨h1, h2, h3, h4⟩ := hn
  simp only at h1 h2 h3 h4
  unfold cv
  go_enter Tryd.func52, Tryd.ntmps52
  go_wp2
  go_ret
  refine ⟨_, rfl, ?_, ((Below.refl _ _).alloc (Nat.le_refl _) _).alloc (by simp) _⟩
  exact CellsIn.mk (own_of_blk (n := 4) (Blk.new1 w _ _ _) (by simp) (by simp) rfl (by unfold maxLen; omega)) rfl rfl

/-- the places around, of the first j of row k -/
def rowR (c : Cell) (k j : Nat) : List Cell := ((List.range j).filter fun m => !(m == 1 && k == 1)).map fun m : Nat => ⟨c.x + ((m : Int) - 1), c.y + ((k : Int) - 1)⟩
def roundsTo (c : Cell) (k : Nat) : List Cell := (List.range k).flatMap fun k => rowR c k 3
def roundsL (c : Cell) : List Cell := roundsTo c 3
theorem rowR_succ {c : Cell} {k j : Nat} : rowR c k (j + 1) = rowR c k j ++ if (j == 1 && k == 1) = true then [] else [⟨c.x + ((j : Int) - 1), c.y + ((k : Int) - 1)⟩] := by
  unfold rowR
  rw [List.range_succ, List.filter_append, List.map_append]
  congr 1
  by_cases h1 : j = 1 <;> by_cases h2 : k = 1 <;> simp [h1, h2]
theorem roundsTo_succ {c : Cell} {k : Nat} : roundsTo c (k + 1) = roundsTo c k ++ rowR c k 3 := by
  unfold roundsTo; rw [List.range_succ, List.flatMap_append]; simp
theorem rowR_le {c : Cell} {k j : Nat} : (rowR c k j).length ≤ j := by
  unfold rowR; rw [List.length_map]; exact Nat.le_trans (List.length_filter_le _ _) (by simp)
theorem roundsTo_le {c : Cell} {k : Nat} : (roundsTo c k).length ≤ k * 3 := by
  induction k with
  | zero => simp [roundsTo]
  | succ k ih => rw [roundsTo_succ, List.length_append, Nat.add_mul]; have := rowR_le (c := c) (k := k) (j := 3); omega

/-! the closures; the region's variable lies in block g -/
set_option maxRecDepth 100000 in
set_option maxHeartbeats 800000 in
theorem span1_c {r : Reg} {s : Value} {g lo hi : Nat} (c : Cell) (w : World) (hb : Blk w g 27 #[.int .i64 r.w, s]) (hs : IntsRd w lo hi s r.rows) (hhi : hi ≤ w.heap.size) (hv : r.Valid) :
    Calls Tryd.prog 71 #[cv c, .pointer (some ⟨g, 0, none⟩)] w fun e w' => e = .returned (.bool (r.has c.x c.y)) ∧ Below w.heap.size w w' := by
  obtain ⟨x, y⟩ := c
  unfold cv
  have hbel : Below w.heap.size w (w.alloc (.cells #[.int .i64 x, .int .i64 y] 52)) := (Below.refl _ _).alloc (Nat.le_refl _) _
  have c0 := hb.cell 0
  have c1 := hb.cell 1
  simp at c0 c1
  have hl := hb.lt
  go_enter Tryd.func71, Tryd.ntmps71
  go_wp2_with fail
  refine (impl_has_c (r := r) _ _ _ ⟨_, rfl, ((hs.keep (SameIn.alloc hhi _)).more (Nat.zero_le _) (by simp; omega))⟩ hv).mono ?_
  rintro e w2 ⟨rfl, hb2⟩
  go_wp2
  go_ret
  exact ⟨rfl, hbel.trans (hb2.mono (by simp))⟩
set_option maxRecDepth 100000 in
set_option maxHeartbeats 800000 in
theorem span2_c {r : Reg} {s : Value} {g : Nat} (c : Cell) (w : World) (hb : Blk w g 27 #[.int .i64 r.w, s]) (hv : r.Valid) :
    Calls Tryd.prog 72 #[cv c, .pointer (some ⟨g, 0, none⟩)] w fun e w' => e = .returned (.bool (c.x == r.w - 1)) ∧ Below w.heap.size w w' := by
  obtain ⟨x, y⟩ := c
  unfold cv
  have hbel : Below w.heap.size w (w.alloc (.cells #[.int .i64 x, .int .i64 y] 52)) := (Below.refl _ _).alloc (Nat.le_refl _) _
  have c0 := hb.cell 0
  simp at c0
  have hl := hb.lt
  have v1 := hv.1
  have v2 := hv.2.1
  go_enter Tryd.func72, Tryd.ntmps72
  go_wp2
  go_ret
  exact ⟨rfl, hbel⟩
end Go.Proofs.YtoccedebiacbiaaDoor

namespace Go.Proofs.YtoccedebiacbiaaDoor
open Go.RowKit

def keys (S : List (Cell × Cell)) : List Cell := S.map (·.1)
theorem keys_length {S : List (Cell × Cell)} : (keys S).length = S.length := by simp [keys]
theorem keys_append (S T : List (Cell × Cell)) : keys (S ++ T) = keys S ++ keys T := by simp [keys]

theorem own_one (w : World) {lo : Nat} (h : lo ≤ w.heap.size) (a b : Value) (e : TypeId) : (w.alloc (.cells #[a, b] e)).ownsRow lo e 2 (.slice (some ⟨w.heap.size, 0, none⟩) 1 1) 1 [a, b] :=
  ⟨rfl, .inr ⟨w.heap.size, 1, #[a, b], rfl, h, heap_alloc_new w _, Nat.le_refl _, by decide, rfl, rfl⟩⟩
theorem cc_one {l : List Cell} : ∀ u ∈ cc l, u.oneCell' = true := by
  induction l with
  | nil => intro u hu; cases hu
  | cons c l ih =>
    intro u hu
    have hu : u ∈ [Value.int .i64 c.x, Value.int .i64 c.y] ++ cc l := hu
    rcases List.mem_append.1 hu with h | h
    · simp at h
      rcases h with rfl | rfl <;> rfl
    · exact ih u h
theorem own_more {w : World} {lo lo' n sz : Nat} {e : TypeId} {v : Value} {xs : List Value} (h : w.ownsRow lo e sz v n xs) (hl : lo' ≤ lo) : w.ownsRow lo' e sz v n xs :=
  ⟨h.1, h.2.imp id fun ⟨g, cap, cur, e, hb, r⟩ => ⟨g, cap, cur, e, by omega, r⟩⟩
theorem own_at {w : World} {lo n sz : Nat} {e : TypeId} {v : Value} {xs : List Value} (h : w.ownsRow lo e sz v n xs) (hn : 0 < n) : ∃ g cap, v = .slice (some ⟨g, 0, none⟩) n cap ∧ n ≤ cap ∧ lo ≤ g ∧ ∀ j u, xs[j]? = some u → w.cell? ((⟨g, 0, none⟩ : Addr).add j) = some u := by
  have hc := @World.ownsRow.cells w lo e sz v n xs h
  rcases h.2 with ⟨_, h0⟩ | ⟨g, cap, cur, rfl, h1, hb, h2, h3, h4⟩
  · omega
  · exact ⟨g, cap, rfl, h2, h1, hc rfl⟩
set_option maxRecDepth 100000 in
theorem run_neq_cell (w : World) (a b : Cell) : (binOp .neq 52 (cv a) (cv b)).run Tryd.prog w = .ok (.bool (!decide (a = b))) w := by
  have h := run_equal_cell w a b
  unfold cv at h ⊢
  simp [binOp, h]

theorem Cell.ext {a b : Cell} (hx : a.x = b.x) (hy : a.y = b.y) : a = b := by
  cases a; cases b; simp at hx hy; subst hx; subst hy; rfl

set_option maxRecDepth 100000 in
set_option maxHeartbeats 6400000 in
theorem spanFrom {start : List Cell} {vs : Value} (around : Cell → List Cell) (opn done : Cell → Bool) (g : Nat) (w : World) (G : List Cell)
    (hst : CellsRd w 0 w.heap.size vs start) (hnd : start.Nodup) (hN : G.length ≤ 36) (hG : ∀ c, opn c = true → c ∈ G) (hnear : ∀ c, opn c = true → Near c) (har : ∀ c, (around c).length ≤ 9) (hsl : start.length ≤ 6)
    (hA : ∀ c W, Near c → Calls Tryd.prog 52 #[cv c] W fun e w' => ∃ v, e = .returned v ∧ CellsIn w' W.heap.size w'.heap.size v (around c) ∧ Below W.heap.size W w')
    (hO : ∀ c W, Below w.heap.size w W → Calls Tryd.prog 71 #[cv c, .pointer (some ⟨g, 0, none⟩)] W fun e w' => e = .returned (.bool (opn c)) ∧ Below W.heap.size W w')
    (hD : ∀ c W, Below w.heap.size w W → Calls Tryd.prog 72 #[cv c, .pointer (some ⟨g, 0, none⟩)] W fun e w' => e = .returned (.bool (done c)) ∧ Below W.heap.size W w') :
    Calls Tryd.prog 70 #[vs, .func (.func 52) #[] #[], .func (.func 71) #[] #[.pointer (some ⟨g, 0, none⟩)], .func (.func 72) #[] #[.pointer (some ⟨g, 0, none⟩)]] w fun e w' => ∃ v, e = .returned (.tuple #[v, .bool (bfs around opn done 37 (roots opn start) 0).isSome]) ∧
      CellsIn w' w.heap.size w'.heap.size v ((bfs around opn done 37 (roots opn start) 0).getD []) ∧ Below w.heap.size w w' := by
  obtain ⟨i0, hi, hz0, hz1, hz2⟩ := info_parts infoCell
  have hmm := @run_makeMap Tryd.prog
  obtain ⟨A, c, rfl, hm, hr⟩ := hst
  obtain ⟨R, hR⟩ : ∃ R, R = bfs around opn done 37 (roots opn start) 0 := ⟨_, rfl⟩
  rw [← hR]
  have HR := Lib.hid hR
  have HA := Lib.hid hA
  have HO := Lib.hid hO
  have HD := Lib.hid hD
  have HG := Lib.hid hG
  have HNR := Lib.hid hnear
  have HAR := Lib.hid har
  have HND := Lib.hid hnd
  have hbel : Below w.heap.size w (w.alloc (.map #[] 0)) := (Below.refl _ _).alloc (Nat.le_refl _) _
  have hmap := MapIs.made w
  have HZ : w.heap.size + 1 ≤ (w.alloc (.map #[] 0)).heap.size := by simp
  clear hR hA hO hD hG hnear har hnd
  go_enter Tryd.func70, Tryd.ntmps70
  go_wp2
  clear hmm
  generalize w.alloc (.map #[] 0) = W at *
  go_loopw [11, 23] (fun t i wr => ∃ k : Nat, k ≤ start.length ∧ i = .int .i64 k ∧ QI wr (w.heap.size + 1) 52 2 t (keys (roots opn (start.take k))).length (cc (keys (roots opn (start.take k)))) ∧ MapIs wr w.heap.size (roots opn (start.take k)) ∧ Below w.heap.size w wr ∧ w.heap.size + 1 ≤ wr.heap.size) (fun _ i _ => start.length - (intOf i).toNat)
  case atStart => exact ⟨0, Nat.zero_le _, rfl, QI.nil, hmap, hbel, HZ⟩
  case round =>
    obtain ⟨k, hk, rfl, hq, hmp, hbr, hz⟩ := hrel
    by_cases hlt : k < start.length
    · obtain ⟨b, off, cl, rfl, _, hb, hcl, q1, q2⟩ := (hr.keep (SameIn.of_below hbr (Nat.le_refl _))).at2 hlt
      have hrt := roots_take (opn := opn) hcl
      have hrn := roots_new (opn := opn) HND.out hcl
      have hrl : (keys (roots opn (start.take k))).length ≤ 6 := by
        rw [keys_length]; unfold roots; rw [List.length_map]
        exact Nat.le_trans (List.length_filter_le _ _) (by rw [List.length_take]; omega)
      have HRT := Lib.hid hrt
      have HRN := Lib.hid hrn
      have hbr1 : Below w.heap.size w (wr.alloc (.cells #[.int .i64 cl.x, .int .i64 cl.y] 52)) := hbr.alloc (by omega) _
      have hq1 := hq.alloc (.cells #[.int .i64 cl.x, .int .i64 cl.y] 52)
      have hmp1 : MapIs (wr.alloc (.cells #[.int .i64 cl.x, .int .i64 cl.y] 52)) w.heap.size (roots opn (start.take k)) := hmp.keep (Below.heap_alloc _ _ _ (by omega))
      have BC := Blk.new wr 52 #[.int .i64 cl.x, .int .i64 cl.y]
      clear hrt hrn hr hcl
      go_wp2_with fail
      refine (HO.out cl _ hbr1).mono ?_
      rintro e w2 ⟨rfl, hb2⟩
      have hbr2 := hbr1.trans (hb2.mono hbr1.size)
      have sz2 := hb2.size
      simp only [World.size_alloc] at sz2
      have hq2 := hq1.below hb2 (Nat.le_refl _)
      have hmp2 := hmp1.keep (hb2.block _ (by simp; omega))
      have BC2 := BC.below hb2 (by simp)
      clear hq hmp hbr hbr1 hq1 hmp1 BC hb2 q1 q2
      cases hop : opn cl
      · have hrt := HRT.out
        rw [hop] at hrt
        simp only [Bool.false_eq_true, if_false, List.append_nil] at hrt
        have HS := Lib.hid hrt
        clear hrt hop BC2
        go_wp2
        go_roundw
        case rel => exact ⟨k + 1, by omega, by go_num, by rw [HS.out]; exact hq2, by rw [HS.out]; exact hmp2, hbr2, by omega⟩
        case measure => simp [intOf]; omega
      · have hrt := HRT.out
        rw [hop, if_pos rfl] at hrt
        have HS := Lib.hid hrt
        obtain ⟨w3, hup, hmp3, hg3, sz3⟩ := run_update_cell hmp2 cl cl HRN.out
        unfold cv at hup
        have hbr3 : Below w.heap.size w w3 := hbr2.trans (below_of_only hg3 (Nat.le_refl _) hbr2.size)
        have hq3 := hq2.keep (w' := w3) fun q hq => hg3.block q (hq2.lt q hq).2 (by intro e; injection e with e; have := (hq2.lt q hq).1; omega)
        have BC3 := BC2.grown hg3 (by intro e; injection e with e; omega)
        have k0 := BC2.cell 0
        have k1 := BC2.cell 1
        have k2 := BC3.cell 0
        have k3 := BC3.cell 1
        simp at k0 k1 k2 k3
        have sz3' : w2.heap.size ≤ w3.heap.size := by omega
        clear hrt hop BC2 BC3 hq2 hmp2 hbr2 hg3 sz3
        go_wp2_with (at_builtin; refine wpList_append_q _ rfl _ _ 49 rfl (w.heap.size + 1) 52 i0 _ 2 16 Tryd.underlying49 hi hz0 hz1 hz2 rfl (by decide) _ _ _ rfl (hq3.alloc _) ⟨w3.heap.size, 0, none⟩ 1 [.int .i64 cl.x, .int .i64 cl.y] rfl rfl (news_alloc w3 #[.int .i64 cl.x, .int .i64 cl.y] _) (by intro u hu; simp at hu; rcases hu with rfl | rfl <;> rfl) (by unfold maxLen; omega) (by omega) (by simp; omega) ?_; intro v' w4 hq4 hgrow hat)
        have hmp4 := (hmp3.keep (Below.heap_alloc w3 (.cells #[.int .i64 cl.x, .int .i64 cl.y] 52) w.heap.size (by omega))).keep (hgrow.block w.heap.size (by simp; omega) (fun e => by have := (hq3.lt _ e.symm).1; omega))
        have hbr4 : Below w.heap.size w w4 := (hbr3.alloc (by omega) _).grown hgrow (by simp; omega) (fun q hq => by have := (hq3.lt q hq).1; omega)
        have sz4 := hgrow.size
        simp only [World.size_alloc] at sz4
        have hq5 : QI w4 (w.heap.size + 1) 52 2 v' (keys (roots opn (start.take (k + 1)))).length (cc (keys (roots opn (start.take (k + 1))))) := by
          rw [HS.out, keys_append, cc_append, List.length_append]
          exact hq4
        have hmp5 : MapIs w4 w.heap.size (roots opn (start.take (k + 1))) := by rw [HS.out]; exact hmp4
        clear hq4 hgrow hq3 hat hmp4 hmp3 hbr3 hup k0 k1 k2 k3
        go_wp2
        go_roundw
        case rel => exact ⟨k + 1, by omega, by go_num, hq5, hmp5, hbr4, by omega⟩
        case measure => simp [intOf]; omega
    · have hkn : k = start.length := by omega
      subst hkn
      rw [List.take_length] at hq hmp
      have hinv := roots_inv (opn := opn) HND.out start.length (Nat.le_refl _)
      rw [List.take_length] at hinv
      obtain ⟨wm, hwm⟩ : ∃ wm : World, wm = wr := ⟨_, rfl⟩
      subst hwm
      have hq0 : QI wm (w.heap.size + 1) 52 2 u11 (keys ((roots opn start).drop 0)).length (cc (keys ((roots opn start).drop 0))) := hq
      clear hq hr
      go_wp2
      go_loopg [11] 36 (fun gk t wr => ∃ (i : Nat) (S : List (Cell × Cell)), gk + i = 36 ∧ i ≤ S.length ∧ BInv opn S ∧ QI wr (w.heap.size + 1) 52 2 t (keys (S.drop i)).length (cc (keys (S.drop i))) ∧ MapIs wr w.heap.size S ∧ Below w.heap.size w wr ∧ w.heap.size + 1 ≤ wr.heap.size ∧ bfs around opn done (gk + 1) S i = R)
      case atStart => exact ⟨0, roots opn start, rfl, Nat.zero_le _, hinv, hq0, hmp, hbr, hz, HR.out.symm⟩
      case round =>
        clear hinv hq0 hmp hbr hz
        obtain ⟨wo, hwo⟩ : ∃ wo : World, wo = wr := ⟨_, rfl⟩
        subst hwo
        obtain ⟨i, S, hgi, hiS, hinv, hq, hmp, hbr, hz, hbfs⟩ := hrel
        have hSl := hinv.len HG.out
        have hkl : (keys (S.drop i)).length = S.length - i := by rw [keys_length, List.length_drop]
        by_cases hlt : i < S.length
        · obtain ⟨cl, p⟩ : ∃ cl : Cell × Cell, S[i]? = some cl := ⟨S[i], List.getElem?_eq_getElem hlt⟩
          obtain ⟨cl, pp⟩ := cl
          have hdr : keys (S.drop i) = cl :: keys (S.drop (i + 1)) := by
            rw [List.drop_eq_getElem_cons hlt]
            have e := (List.getElem?_eq_some_iff.1 p).2
            rw [e]
            rfl
          have hn : 0 < (keys (S.drop i)).length := by omega
          obtain ⟨gq, oq, capq, csq, rfl, _, _, hnc, hcm, _, hcell⟩ := hq.at_ hn
          have q0 := hcell 0 (.int .i64 cl.x) (by rw [hdr]; rfl)
          have q1 := hcell 1 (.int .i64 cl.y) (by rw [hdr]; rfl)
          rw [Nat.add_zero] at q0
          rw [hdr] at hnc
          simp only [List.length_cons] at hnc
          have hkd : (keys (S.drop i)).length = (keys (S.drop (i + 1))).length + 1 := by rw [hdr]; rfl
          rw [hkd] at hq ⊢
          have hnp : (0 : Int) < ((keys (S.drop (i + 1))).length : Int) + 1 := by omega
          have hml : (keys (S.drop (i + 1))).length ≤ 36 := by rw [keys_length, List.length_drop]; omega
          have HDR := Lib.hid hdr
          have HP := Lib.hid p
          have HB := Lib.hid hbfs
          have HKD := Lib.hid hkd
          clear hcell hdr p hbfs hkl hkd
          generalize hnn : (keys (S.drop (i + 1))).length = nn at *
          have HNN := Lib.hid hnn
          clear hnn
          rw [HDR.out] at hq
          have hq1 : QI wo (w.heap.size + 1) 52 2 (.slice (some ⟨gq, oq, none⟩) (nn + 1) capq) (nn + 1) (cc (cl :: keys (S.drop (i + 1)))) := hq
          have HQ1 := Lib.hid (hq1.alloc (.cells #[.int .i64 cl.x, .int .i64 cl.y] 52))
          have hqlt := (hq1.lt gq rfl).2
          clear hq hq1
          have HQX := HQ1
          go_wp2_with (refine wpList_tail_q _ rfl _ 49 rfl (w.heap.size + 1) 52 i0 2 Tryd.underlying49 hi hz1 (by decide) gq oq nn capq _ rfl hnc HQX.out ?_; clear HQX; intro tv hq2 htv)
          have hbr1 : Below w.heap.size w (wo.alloc (.cells #[.int .i64 cl.x, .int .i64 cl.y] 52)) := hbr.alloc (by omega) _
          have hmp1 : MapIs (wo.alloc (.cells #[.int .i64 cl.x, .int .i64 cl.y] 52)) w.heap.size S := hmp.keep (Below.heap_alloc _ _ _ (by omega))
          have BC := Blk.new wo 52 #[.int .i64 cl.x, .int .i64 cl.y]
          clear q0 q1 hmp hbr
          refine (HD.out cl _ hbr1).mono ?_
          rintro e w2 ⟨rfl, hb2⟩
          have hbr2 := hbr1.trans (hb2.mono hbr1.size)
          have sz2 := hb2.size
          simp only [World.size_alloc] at sz2
          have hq3 : QI w2 (w.heap.size + 1) 52 2 tv nn (cc (keys (S.drop (i + 1)))) := hq2.below hb2 (Nat.le_refl _)
          have hmp2 := hmp1.keep (hb2.block _ (by simp; omega))
          have BC2 := BC.below hb2 (by simp)
          clear hbr1 hmp1 BC hb2 hq2 HQ1
          have k0 := BC2.cell 0
          have k1 := BC2.cell 1
          simp at k0 k1
          obtain ⟨gc, hgc⟩ : ∃ gc, gc = wo.heap.size := ⟨_, rfl⟩
          have hgl : gc + 1 ≤ w2.heap.size := by omega
          have hgw : w.heap.size + 1 ≤ gc := by omega
          have hgq : gq < gc := by omega
          rw [← hgc] at BC2 k0 k1 ⊢
          clear hgc
          cases hdn : done cl
          · have hbs : bfs around opn done gk (expand around opn S cl) (i + 1) = R := by
              have := HB.out
              rw [bfs, HP.out] at this
              simpa [hdn] using this
            have HB2 := Lib.hid hbs
            have hnear := HNR.out cl (hinv.opens _ (List.mem_of_getElem? HP.out))
            clear hbs hdn
            go_wp2_with fail
            clear k0 k1
            refine (HA.out cl _ hnear).mono ?_
            rintro e w3 ⟨vd, rfl, od, hb3⟩
            have hDl := HAR.out cl
            obtain ⟨D, hD⟩ : ∃ D, D = around cl := ⟨_, rfl⟩
            rw [← hD] at od hDl
            have HDD := Lib.hid hD
            clear hD
            obtain ⟨Ad, cd, rfl, hmd, hrd⟩ := od.rd
            have hbr3 := hbr2.trans (hb3.mono hbr2.size)
            have sz3 := hb3.size
            have hq4 := hq3.below hb3 (Nat.le_refl _)
            have hmp3 := hmp2.keep (hb3.block _ (by omega))
            have BC3 := BC2.below hb3 (by omega)
            clear od hb3 hq3 hmp2 BC2 hbr2 hnear
            go_wp2
            go_loopw [11, 68] (fun t ii wr => ∃ (k : Nat) (T : List (Cell × Cell)), k ≤ D.length ∧ ii = .int .i64 k ∧ T = (D.take k).foldl (addN opn cl) S ∧ BInv opn T ∧ S.length ≤ T.length ∧ T[i]? = some (cl, pp) ∧ QI wr (w.heap.size + 1) 52 2 t (keys (T.drop (i + 1))).length (cc (keys (T.drop (i + 1)))) ∧
              MapIs wr w.heap.size T ∧ Below w.heap.size w wr ∧ SameIn gc w3.heap.size w3 wr ∧ w3.heap.size ≤ wr.heap.size ∧ ∀ q, t.ownBlock = some q → q < gc ∨ w3.heap.size ≤ q) (fun _ ii _ => D.length - (intOf ii).toNat)
            case atStart => exact ⟨0, S, Nat.zero_le _, rfl, rfl, hinv, Nat.le_refl _, HP.out, by rw [HNN.out]; exact hq4, hmp3, hbr3, SameIn.refl _, Nat.le_refl _, fun q hq => by rw [htv] at hq; injection hq; omega⟩
            case round =>
              obtain ⟨k, T, hk, rfl, hT, hinvT, hST, hTi, hq, hmp, hbr, hsm, hsz, hap⟩ := hrel
              by_cases hltk : k < D.length
              · have hrw : Rd wr w2.heap.size w3.heap.size 2 Ad D.length (cc D) := hrd.keep fun b h1 h2 => hsm b (by omega) h2
                have Hrd := Lib.hid hrd
                obtain ⟨bb, off, d, rfl, hbl, hbb, hd, q1, q2⟩ := hrw.at2 hltk
                have BCr : Blk wr gc 52 #[.int .i64 cl.x, .int .i64 cl.y] := (hsm gc (Nat.le_refl _) (by omega)).trans BC3
                have hst : (D.take (k + 1)).foldl (addN opn cl) S = addN opn cl T d := by
                  have hkk := (List.getElem?_eq_some_iff.1 hd).1
                  have e := (List.getElem?_eq_some_iff.1 hd).2
                  rw [List.take_succ_eq_append_getElem hkk, List.foldl_append, e, ← hT]
                  rfl
                have HST := Lib.hid hst
                have HT := Lib.hid hT
                have HTI := Lib.hid hTi
                -- the variable d
                have hbrA : Below w.heap.size w (wr.alloc (.cells #[.int .i64 d.x, .int .i64 d.y] 52)) := hbr.alloc (by omega) _
                have hmpA : MapIs (wr.alloc (.cells #[.int .i64 d.x, .int .i64 d.y] 52)) w.heap.size T := hmp.keep (Below.heap_alloc _ _ _ (by omega))
                have hqA := hq.alloc (.cells #[.int .i64 d.x, .int .i64 d.y] 52)
                have hsmA : SameIn gc w3.heap.size w3 (wr.alloc (.cells #[.int .i64 d.x, .int .i64 d.y] 52)) := hsm.trans (SameIn.alloc hsz _)
                have BCA := BCr.alloc (.cells #[.int .i64 d.x, .int .i64 d.y] 52)
                have BDA := Blk.new wr 52 #[.int .i64 d.x, .int .i64 d.y]
                have hlk := run_lookup_cell_ok hmpA d
                unfold cv at hlk
                clear hst hT hTi hrw hd hbr hmp hq hsm BCr hrd
                cases hma : mapAt T d with
                | some pd =>
                  rw [hma] at hlk
                  simp only [Option.getD_some, Option.isSome_some] at hlk
                  have hTT : addN opn cl T d = T := by simp [addN, hma]
                  have HTT := Lib.hid hTT
                  clear hTT hma
                  go_wp2
                  go_roundw
                  case rel => exact ⟨k + 1, T, by omega, by go_num, by rw [HST.out, HTT.out], hinvT, hST, HTI.out, hqA.alloc _, hmpA.keep (Below.heap_alloc _ _ _ (by simp; omega)), hbrA.alloc (by simp; omega) _, hsmA.trans (SameIn.alloc (by simp; omega) _), by simp; omega, hap⟩
                  case measure => simp [intOf]; omega
                | none =>
                  rw [hma] at hlk
                  simp only [Option.getD_none, Option.isSome_none] at hlk
                  have hbrB := hbrA.alloc (by simp; omega) (.cells #[.int .i64 0, .int .i64 0] 52)
                  have hmpB := hmpA.keep (Below.heap_alloc _ (.cells #[.int .i64 0, .int .i64 0] 52) _ (by simp; omega))
                  have hqB := hqA.alloc (.cells #[.int .i64 0, .int .i64 0] 52)
                  have hsmB := hsmA.trans (SameIn.alloc (by simp; omega) (.cells #[.int .i64 0, .int .i64 0] 52))
                  have BCB := BCA.alloc (.cells #[.int .i64 0, .int .i64 0] 52)
                  have BDB := BDA.alloc (.cells #[.int .i64 0, .int .i64 0] 52)
                  have HMA := Lib.hid hma
                  have hkl : (keys (T.drop (i + 1))).length ≤ 36 := by rw [keys_length, List.length_drop]; have := hinvT.len HG.out; omega
                  clear hma hqA hbrA hmpA hsmA BCA BDA
                  go_wp2_with fail
                  clear hlk q1 q2
                  refine (HO.out d _ hbrB).mono ?_
                  rintro e w4 ⟨rfl, hb4⟩
                  have sz4 := hb4.size
                  simp only [World.size_alloc] at sz4
                  have hbr4 := hbrB.trans (hb4.mono (by simp; omega))
                  have hmp4 := hmpB.keep (hb4.block _ (by simp; omega))
                  have hq4' := hqB.below hb4 (Nat.le_refl _)
                  have hsm4 := hsmB.trans (SameIn.of_below hb4 (by simp; omega))
                  have BC4 := BCB.below hb4 (by simp; omega)
                  have BD4 := BDB.below hb4 (by simp; omega)
                  clear hbrB hmpB hqB hsmB BCB BDB hb4
                  cases hop : opn d with
                  | false =>
                    have hTT : addN opn cl T d = T := by simp [addN, HMA.out, hop]
                    have HTT := Lib.hid hTT
                    clear hTT hop BC4 BD4
                    go_wp2
                    go_roundw
                    case rel => exact ⟨k + 1, T, by omega, by go_num, by rw [HST.out, HTT.out], hinvT, hST, HTI.out, hq4', hmp4, hbr4, hsm4, by omega, hap⟩
                    case measure => simp [intOf]; omega
                  | true =>
                    have hTT : addN opn cl T d = T ++ [(d, cl)] := by simp [addN, HMA.out, hop]
                    have hinv5 := hinvT.snoc HMA.out hop (.inr ⟨i, pp, HTI.out⟩)
                    obtain ⟨w5, hup, hmp5, hg5, sz5⟩ := run_update_cell hmp4 d cl HMA.out
                    unfold cv at hup
                    have hbr5 : Below w.heap.size w w5 := hbr4.trans (below_of_only hg5 (Nat.le_refl _) hbr4.size)
                    have hq5 := hq4'.keep (w' := w5) fun q hq => hg5.block q (hq4'.lt q hq).2 (by intro e; injection e with e; have := (hq4'.lt q hq).1; omega)
                    have hsm5 : SameIn gc w3.heap.size w3 w5 := hsm4.trans fun b h1 h2 => hg5.block b (by omega) (by intro e; injection e with e; omega)
                    have BD5 := BD4.grown hg5 (by intro e; injection e with e; omega)
                    have sz5' : w4.heap.size ≤ w5.heap.size := by omega
                    have kc0 := BC4.cell 0
                    have kc1 := BC4.cell 1
                    have kd0 := BD4.cell 0
                    have kd1 := BD4.cell 1
                    have ke0 := BD5.cell 0
                    have ke1 := BD5.cell 1
                    simp at kc0 kc1 kd0 kd1 ke0 ke1
                    have HTT := Lib.hid hTT
                    clear hTT hop BC4 BD4 BD5 hq4' hmp4 hbr4 hsm4 hg5 sz5
                    go_wp2_with (at_builtin; refine wpList_append_q _ rfl _ _ 49 rfl (w.heap.size + 1) 52 i0 _ 2 16 Tryd.underlying49 hi hz0 hz1 hz2 rfl (by decide) _ _ _ rfl (hq5.alloc _) ⟨w5.heap.size, 0, none⟩ 1 [.int .i64 d.x, .int .i64 d.y] rfl rfl (news_alloc w5 #[.int .i64 d.x, .int .i64 d.y] _) (by intro u hu; simp at hu; rcases hu with rfl | rfl <;> rfl) (by unfold maxLen; omega) (by omega) (by simp; omega) ?_; intro v' w6 hq6 hgrow hat)
                    have hmp6 := (hmp5.keep (Below.heap_alloc w5 (.cells #[.int .i64 d.x, .int .i64 d.y] 52) w.heap.size (by omega))).keep (hgrow.block w.heap.size (by simp; omega) (fun e => by have := (hq5.lt _ e.symm).1; omega))
                    have hbr6 : Below w.heap.size w w6 := (hbr5.alloc (by omega) _).grown hgrow (by simp; omega) (fun q hq => by have := (hq5.lt q hq).1; omega)
                    have hap6 := apart_grown (H := (w5.alloc (.cells #[.int .i64 d.x, .int .i64 d.y] 52)).heap.size) (by simp; omega) hap hat
                    have hsm6 := (hsm5.trans (SameIn.alloc (by omega) (.cells #[.int .i64 d.x, .int .i64 d.y] 52))).trans (SameIn.of_grown hgrow (by simp; omega) hap)
                    have sz6 := hgrow.size
                    simp only [World.size_alloc] at sz6
                    have hdrop : (T ++ [(d, cl)]).drop (i + 1) = T.drop (i + 1) ++ [(d, cl)] := by rw [List.drop_append_of_le_length (by omega)]
                    have hq7 : QI w6 (w.heap.size + 1) 52 2 v' (keys ((T ++ [(d, cl)]).drop (i + 1))).length (cc (keys ((T ++ [(d, cl)]).drop (i + 1)))) := by
                      rw [hdrop, keys_append, cc_append, List.length_append]
                      exact hq6
                    have hTi7 : (T ++ [(d, cl)])[i]? = some (cl, pp) := by rw [List.getElem?_append_left (by omega)]; exact HTI.out
                    have HTI7 := Lib.hid hTi7
                    clear hq6 hgrow hat hq5 hmp5 hbr5 hsm5 hup kc0 kc1 kd0 kd1 ke0 ke1 hdrop hTi7 hap
                    go_wp2
                    go_roundw
                    case rel => exact ⟨k + 1, T ++ [(d, cl)], by omega, by go_num, by rw [HST.out, HTT.out], hinv5, by simp; omega, HTI7.out, hq7, hmp6, hbr6, hsm6, by omega, hap6⟩
                    case measure => simp [intOf]; omega
              · have hkn : k = D.length := by omega
                subst hkn
                rw [List.take_length, HDD.out] at hT
                have hTe : T = expand around opn S cl := hT
                clear hT
                go_wp2
                go_roundg (gk - 1)
                case measure => omega
                case rel =>
                  refine ⟨i + 1, T, by omega, by omega, hinvT, hq, hmp, hbr, by omega, ?_⟩
                  rw [show gk - 1 + 1 = gk by omega, hTe]
                  exact HB2.out
          · have hRs : R = some (wayGo S S.length cl [cl]) := by
              have := HB.out
              rw [bfs, HP.out] at this
              simpa [hdn] using this.symm
            obtain ⟨way, hway⟩ : ∃ way, way = wayGo S S.length cl [cl] := ⟨_, rfl⟩
            rw [← hway] at hRs
            subst hRs
            have HW := Lib.hid hway
            clear hway hdn hq3 HB HNN HDR HKD
            have how := own_one w2 (Nat.le_refl _) (.int .i64 cl.x) (.int .i64 cl.y) 52
            have hmpw := hmp2.keep (w' := w2.alloc (.cells #[.int .i64 cl.x, .int .i64 cl.y] 52)) (Below.heap_alloc _ _ _ (by omega))
            have hbr2s := hbr2.size
            have hbrw := hbr2.alloc hbr2.size (.cells #[.int .i64 cl.x, .int .i64 cl.y] 52)
            have BCw := BC2.alloc (.cells #[.int .i64 cl.x, .int .i64 cl.y] 52)
            have szw : w2.heap.size + 1 ≤ (w2.alloc (.cells #[.int .i64 cl.x, .int .i64 cl.y] 52)).heap.size := by simp
            go_wp2
            clear hmp2 hbr2 BC2 k0 k1
            generalize w2.alloc (.cells #[.int .i64 cl.x, .int .i64 cl.y] 52) = wB at *
            go_loopg [15] S.length (fun gk2 wv wr => ∃ (ci pj : Cell) (acc : List Cell) (j : Nat), S[j]? = some (ci, pj) ∧ j < gk2 ∧ 0 < acc.length ∧ acc.length + gk2 ≤ S.length + 1 ∧ wayGo S gk2 ci acc = way ∧ wr.ownsRow w2.heap.size 52 2 wv acc.length (cc acc) ∧
              Blk wr gc 52 #[.int .i64 ci.x, .int .i64 ci.y] ∧ MapIs wr w.heap.size S ∧ Below w.heap.size w wr ∧ w2.heap.size ≤ wr.heap.size)
            case atStart => exact ⟨cl, pp, [cl], i, HP.out, hlt, by simp, by simp; omega, HW.out.symm, how, BCw, hmpw, hbrw, by omega⟩
            case round =>
              obtain ⟨ci, pj, acc, j, hj, hjl, hal, hag, hwg, how, BC, hmp, hbr, hsz⟩ := hrel
              have hma := mapAt_some hinv.nodup hj
              have hlk : ∀ n, (Instr.lookup 95 (.map (some w.heap.size)) (.agg #[.int .i64 ci.x, .int .i64 ci.y]) false).run Tryd.prog (wr.drewN n) = .ok (.agg #[.int .i64 pj.x, .int .i64 pj.y]) (wr.drewN n) := fun n => by
                have := run_lookup_cell (w := wr.drewN n) (hmp.keep rfl) ci
                rw [hma] at this
                exact this
              have hne : ∀ n, (binOp .neq 52 (.agg #[.int .i64 pj.x, .int .i64 pj.y]) (.agg #[.int .i64 ci.x, .int .i64 ci.y])).run Tryd.prog (wr.drewN n) = .ok (.bool (!decide (pj = ci))) (wr.drewN n) := fun n => run_neq_cell _ pj ci
              have k0 := BC.cell 0
              have k1 := BC.cell 1
              simp at k0 k1
              have HJ := Lib.hid hj
              have HWG := Lib.hid hwg
              have HINV := Lib.hid hinv
              have HMA := Lib.hid hma
              clear hj hwg hinv hma
              by_cases hpe : pj = ci
              · subst hpe
                rw [decide_eq_true rfl] at hne
                have heq : ∀ n, (Op.equal 52 (.agg #[.int .i64 pj.x, .int .i64 pj.y]) (.agg #[.int .i64 pj.x, .int .i64 pj.y])).run Tryd.prog (wr.drewN n) = .ok true (wr.drewN n) := fun n => by have := run_equal_cell (wr.drewN n) pj pj; rw [decide_eq_true rfl] at this; exact this
                have hacc : acc = way := by
                  have := HWG.out
                  rw [show gk = (gk - 1) + 1 by omega, wayGo, HMA.out] at this
                  simpa using this
                subst hacc
                clear hne
                go_wp2_with fail
                go_quiet (fail)
                go_wp2
                go_ret2
                exact ⟨_, rfl, CellsIn.mk (own_more (w := wr.drewN nq) how hbr2s) rfl rfl, below_drewN hbr _⟩
              · have heq : ∀ n, (Op.equal 52 (.agg #[.int .i64 pj.x, .int .i64 pj.y]) (.agg #[.int .i64 ci.x, .int .i64 ci.y])).run Tryd.prog (wr.drewN n) = .ok false (wr.drewN n) := fun n => by have := run_equal_cell (wr.drewN n) pj ci; rw [decide_eq_false hpe] at this; exact this
                clear hne
                obtain ⟨j', q', hjj, hj'⟩ := (HINV.out.chain j ci pj HJ.out).resolve_left (fun e => hpe e.symm)
                have hwg' : wayGo S (gk - 1) pj (pj :: acc) = way := by
                  have := HWG.out
                  rw [show gk = (gk - 1) + 1 by omega, wayGo, HMA.out] at this
                  simpa [hpe] using this
                have HJ' := Lib.hid hj'
                have HWG' := Lib.hid hwg'
                have HPE := Lib.hid hpe
                clear hj' hwg' hpe
                go_wp2_with fail
                refine wp_region_quiet_lit (by kernel_rfl) (by kernel_rfl) ?_
                repeat (go_big_quiet_step (fail))
                go_big_quiet_want
                go_big_quiet_op
                refine ⟨.bool true, fun aa => ?_, ?_⟩
                · by_cases hx : pj.x = ci.x
                  · have hy : ¬ pj.y = ci.y := fun hy => HPE.out (Cell.ext hx hy)
                    simp [hx, hy]
                  · simp [hx]
                go_big_quiet_on
                refine wpQuiet_nil ?_
                intro _ hwq'
                obtain ⟨nq, hwq''⟩ := hwq'
                subst hwq''
                have hbrq := below_drewN hbr nq
                have BCq : Blk (wr.drewN nq) gc 52 #[.int .i64 ci.x, .int .i64 ci.y] := BC
                have hmpq : MapIs (wr.drewN nq) w.heap.size S := hmp
                have howq : (wr.drewN nq).ownsRow w2.heap.size 52 2 u15 acc.length (cc acc) := how
                have szq : w2.heap.size ≤ (wr.drewN nq).heap.size := hsz
                have k0q : (wr.drewN nq).cell? ⟨gc, 0, none⟩ = some (.int .i64 ci.x) := k0
                have k1q : (wr.drewN nq).cell? ⟨gc, 1, none⟩ = some (.int .i64 ci.y) := k1
                have hlkq := hlk nq
                clear hlk heq k0 k1 how hmp BC hbr hsz
                generalize wr.drewN nq = wq at *
                obtain ⟨gw, cw, rfl, hacw, hgwl, howc⟩ := own_at howq hal
                have f0 := BCq.frozen 0
                have f1 := BCq.frozen 1
                have BCs : Blk ((wq.setCell ⟨gc, 0, none⟩ (.int .i64 pj.x)).setCell ⟨gc, 1, none⟩ (.int .i64 pj.y)) gc 52 #[.int .i64 pj.x, .int .i64 pj.y] := (BCq.set_ 0 (.int .i64 pj.x)).set_ 1 (.int .i64 pj.y)
                have hg1 := only_setCell (only_setCell (World.grownBy.refl wq (some gc)) (p := ⟨gc, 0, none⟩) (.inl rfl) (.int .i64 pj.x)) (p := ⟨gc, 1, none⟩) (.inl rfl) (.int .i64 pj.y)
                have hbrs : Below w.heap.size w _ := hbrq.trans (below_of_only hg1 (by omega) hbrq.size)
                have hmps := hmpq.keep (hg1.block w.heap.size hmpq.lt (by intro e; injection e with e; omega))
                have hows := howq.kept hg1 (.inr (by simp [Value.ownBlock]; omega))
                have szs := hg1.size
                obtain ⟨ws, hws⟩ : ∃ ws, ws = (wq.setCell ⟨gc, 0, none⟩ (.int .i64 pj.x)).setCell ⟨gc, 1, none⟩ (.int .i64 pj.y) := ⟨_, rfl⟩
                have k0s := BCs.cell 0
                have k1s := BCs.cell 1
                simp at k0s k1s
                have HWS := Lib.hid hws
                clear hws
                have hl2 := howq.1
                have hag' : acc.length + 1 ≤ 40 := by omega
                have hone := own_one ((wq.setCell ⟨gc, 0, none⟩ (.int .i64 pj.x)).setCell ⟨gc, 1, none⟩ (.int .i64 pj.y)) (lo := w2.heap.size) (by omega) (.int .i64 pj.x) (.int .i64 pj.y) 52
                rw [show ((wq.setCell ⟨gc, 0, none⟩ (.int .i64 pj.x)).setCell ⟨gc, 1, none⟩ (.int .i64 pj.y)).heap.size = wq.heap.size by simp] at hone
                have hcel := (hows.alloc (.cells #[.int .i64 pj.x, .int .i64 pj.y] 52)).cells (g := gw) rfl
                have hwsz : w2.heap.size ≤ ((wq.setCell ⟨gc, 0, none⟩ (.int .i64 pj.x)).setCell ⟨gc, 1, none⟩ (.int .i64 pj.y)).heap.size := by omega
                have HHO := Lib.hid hone
                have HCE := Lib.hid hcel
                have hbrq0 := hbrq.size
                clear hone hcel howc howq BCq hmpq hbrq
                go_wp2_with (at_builtin; refine wpList_append_own _ rfl _ _ 49 rfl w2.heap.size 52 i0 _ 2 16 Tryd.underlying49 hi hz0 hz1 hz2 rfl (by decide) _ _ _ rfl HHO.out ⟨gw, 0, none⟩ acc.length cw (cc acc) rfl hl2 HCE.out cc_one (by unfold maxLen; omega) (by omega) (by simp; omega) ?_; intro v' w3 how3 hgrow _)
                have BC3 := (BCs.alloc (.cells #[.int .i64 pj.x, .int .i64 pj.y] 52)).grown hgrow (by intro e; have e : some gc = some wq.heap.size := e; injection e with e; omega)
                have hmp3 := (hmps.keep (Below.heap_alloc _ (.cells #[.int .i64 pj.x, .int .i64 pj.y] 52) _ (by have := hmps.lt; omega))).keep (hgrow.block _ (by simp; omega) (by intro e; have e : some w.heap.size = some wq.heap.size := e; injection e with e; have := hbrq0; omega))
                have hbr3 := (hbrs.alloc (by omega) (.cells #[.int .i64 pj.x, .int .i64 pj.y] 52)).grown hgrow (by simp; omega) (fun q hq => by have hq : some wq.heap.size = some q := hq; injection hq with hq; have := hbrq0; omega)
                have sz3 := hgrow.size
                simp only [World.size_alloc] at sz3
                have how4 : w3.ownsRow w2.heap.size 52 2 v' (pj :: acc).length (cc (pj :: acc)) := by
                  rw [List.length_cons, Nat.add_comm]
                  exact how3
                clear how3 hgrow hows BCs hmps hbrs HHO HCE k0s k1s k0q k1q hlkq f0 f1 hg1 hl2
                go_wp2
                go_roundg (gk - 1)
                case measure => omega
                case rel => exact ⟨pj, q', pj :: acc, j', HJ'.out, by omega, by simp, by simp; omega, HWG'.out, how4, BC3, hmp3, hbr3, by omega⟩
        · have hbn : R = none := by rw [← hbfs]; exact bfs_end (by omega)
          subst hbn
          have hk0 : (keys (S.drop i)).length = 0 := by omega
          obtain ⟨Aq, cq, rfl⟩ := hq.shape
          rw [hk0]
          clear hk0 hkl hq
          go_wp2
          go_ret2
          exact ⟨_, rfl, CellsIn.nil, hbr⟩
end Go.Proofs.YtoccedebiacbiaaDoor

namespace Go.Proofs.YtoccedebiacbiaaDoor
open Go.RowKit

set_option maxRecDepth 100000 in
set_option maxHeartbeats 1600000 in
theorem hasCell_c {v : Value} {l : List Cell} (x y : Int) (w : World) (h : CellsRd w 0 w.heap.size v l) (hl : l.length ≤ 1000000) :
    Calls Tryd.prog 39 #[v, .int .i64 x, .int .i64 y] w fun e w' => e = .returned (.bool (decide ((⟨x, y⟩ : Cell) ∈ l))) ∧ Below w.heap.size w w' := by
  obtain ⟨A, c, rfl, hm, hr⟩ := h
  obtain ⟨R, hR⟩ : ∃ R, R = decide ((⟨x, y⟩ : Cell) ∈ l) := ⟨_, rfl⟩
  rw [← hR]
  have hyes : ∀ (k : Nat) (d : Cell), l[k]? = some d → d.x = x → d.y = y → R = true := fun k d hd h1 h2 => by
    rw [hR]
    exact decide_eq_true (by rw [← h1, ← h2]; exact List.mem_of_getElem? hd)
  have hno : (∀ (k : Nat) (d : Cell), k < l.length → l[k]? = some d → ¬ (d.x = x ∧ d.y = y)) → R = false := fun h => by
    rw [hR]
    refine decide_eq_false fun hm => ?_
    obtain ⟨k, hk, e⟩ := List.getElem_of_mem hm
    exact h k ⟨x, y⟩ hk (by rw [List.getElem?_eq_getElem hk, e]) ⟨rfl, rfl⟩
  have HY := Lib.hid hyes
  have HN := Lib.hid hno
  clear hR hyes hno
  go_enter Tryd.func39, Tryd.ntmps39
  go_wp2
  go_loopw [7] (fun i wr => ∃ k : Nat, k ≤ l.length ∧ i = .int .i64 k ∧ wr = w ∧ Hid (∀ (j : Nat) (d : Cell), j < k → l[j]? = some d → ¬ (d.x = x ∧ d.y = y))) (fun i _ => l.length - (intOf i).toNat)
  case atStart => exact ⟨0, Nat.zero_le _, rfl, rfl, Lib.hid fun j d h => absurd h (by omega)⟩
  case round =>
    obtain ⟨k, hk, rfl, rfl, HA⟩ := hrel
    by_cases hlt : k < l.length
    · obtain ⟨b, off, d, rfl, _, hb, hd, q1, q2⟩ := hr.at2 hlt
      have HD := Lib.hid hd
      clear hr hd
      by_cases hx : d.x = x
      · by_cases hy : d.y = y
        · have := HY.out k d HD.out hx hy
          subst this
          subst hx
          subst hy
          go_wp2
          go_ret
          exact ⟨rfl, Below.refl _ _⟩
        · subst hx
          go_wp2
          go_roundw
          case rel => exact ⟨k + 1, by omega, by go_num, trivial, Lib.hid fun j d' hj hd' => by
            by_cases e : j = k
            · subst e; rw [HD.out] at hd'; injection hd' with hd'; subst hd'; exact fun h => hy h.2
            · exact HA.out j d' (by omega) hd'⟩
          case measure => simp [intOf]; omega
      · go_wp2
        go_roundw
        case rel => exact ⟨k + 1, by omega, by go_num, trivial, Lib.hid fun j d' hj hd' => by
          by_cases e : j = k
          · subst e; rw [HD.out] at hd'; injection hd' with hd'; subst hd'; exact fun h => hx h.1
          · exact HA.out j d' (by omega) hd'⟩
        case measure => simp [intOf]; omega
    · have hkn : k = l.length := by omega
      subst hkn
      have := HN.out HA.out
      subst this
      go_wp2
      go_ret
      exact ⟨rfl, Below.refl _ _⟩

def nearB (a b : Cell) : Bool := (a.x - b.x) * (a.x - b.x) + (a.y - b.y) * (a.y - b.y) == 1
set_option maxRecDepth 100000 in
set_option maxHeartbeats 800000 in
theorem near_c (a b : Cell) (w : World) (hx1 : -1 ≤ a.x - b.x) (hx2 : a.x - b.x ≤ 1) (hy1 : -1 ≤ a.y - b.y) (hy2 : a.y - b.y ≤ 1) :
    Calls Tryd.prog 38 #[cv a, cv b] w fun e w' => e = .returned (.bool (nearB a b)) ∧ Below w.heap.size w w' := by
  obtain ⟨R, hR⟩ : ∃ R, R = nearB a b := ⟨_, rfl⟩
  rw [← hR]
  unfold nearB at hR
  obtain ⟨ax, ay⟩ := a
  obtain ⟨bx, bY⟩ := b
  simp only at hx1 hx2 hy1 hy2 hR
  unfold cv
  have hbel : Below w.heap.size w ((w.alloc (.cells #[.int .i64 ax, .int .i64 ay] 52)).alloc (.cells #[.int .i64 bx, .int .i64 bY] 52)) := ((Below.refl _ _).alloc (Nat.le_refl _) _).alloc (by simp) _
  have d1 : (ax - bx) * (ax - bx) ≤ 1 := by
    have : ax - bx = -1 ∨ ax - bx = 0 ∨ ax - bx = 1 := by omega
    rcases this with e | e | e <;> rw [e] <;> decide
  have d2 : (ay - bY) * (ay - bY) ≤ 1 := by
    have : ay - bY = -1 ∨ ay - bY = 0 ∨ ay - bY = 1 := by omega
    rcases this with e | e | e <;> rw [e] <;> decide
  have d3 : 0 ≤ (ax - bx) * (ax - bx) := by
    have : ax - bx = -1 ∨ ax - bx = 0 ∨ ax - bx = 1 := by omega
    rcases this with e | e | e <;> rw [e] <;> decide
  have d4 : 0 ≤ (ay - bY) * (ay - bY) := by
    have : ay - bY = -1 ∨ ay - bY = 0 ∨ ay - bY = 1 := by omega
    rcases this with e | e | e <;> rw [e] <;> decide
  have HR := Lib.hid hR
  clear hR
  go_enter Tryd.func38, Tryd.ntmps38
  go_wp2
  go_ret
  exact ⟨by rw [HR.out]; rfl, hbel⟩
end Go.Proofs.YtoccedebiacbiaaDoor

namespace Go.Proofs.YtoccedebiacbiaaDoor
open Go.RowKit

def nr (corners : Bool) (c d : Cell) : Bool := corners || nearB c d
def aroundC (corners : Bool) (c : Cell) : List Cell := (roundsL c).filter (nr corners c)
def inB (r : Reg) (c : Cell) : Bool := decide (0 ≤ c.x ∧ c.x < r.w ∧ 0 ≤ c.y ∧ c.y < r.rows.length)
def opnC (r : Reg) (cells : Bool) (c : Cell) : Bool := inB r c && (r.has c.x c.y == cells)
def doneC (r : Reg) (rows : Bool) (c : Cell) : Bool := if rows then c.y == (r.rows.length : Int) - 1 else c.x == r.w - 1
def startC (rows : Bool) (n : Nat) : List Cell := (List.range n).map fun j : Nat => if rows then ⟨j, 0⟩ else ⟨0, j⟩
def sideC (r : Reg) (rows : Bool) : Nat := if rows then r.w.toNat else r.rows.length
def wayC (r : Reg) (cells corners rows : Bool) : Option (List Cell) := bfs (aroundC corners) (opnC r cells) (doneC r rows) 37 (roots (opnC r cells) (startC rows (sideC r rows))) 0
theorem startC_succ {rows : Bool} {n : Nat} : startC rows (n + 1) = startC rows n ++ [if rows then ⟨n, 0⟩ else ⟨0, n⟩] := by unfold startC; rw [List.range_succ, List.map_append]; rfl
theorem startC_length {rows : Bool} {n : Nat} : (startC rows n).length = n := by simp [startC]
theorem roots_append {opn : Cell → Bool} {l m : List Cell} : roots opn (l ++ m) = roots opn l ++ roots opn m := by simp [roots]
theorem roots_one {opn : Cell → Bool} {c : Cell} : roots opn [c] = if opn c = true then [(c, c)] else [] := by
  cases h : opn c <;> simp [roots, h]
theorem roots_le {opn : Cell → Bool} {l : List Cell} : (roots opn l).length ≤ l.length := by unfold roots; rw [List.length_map]; exact List.length_filter_le _ _
theorem startC_nodup {rows : Bool} {n : Nat} : (startC rows n).Nodup := by
  induction n with
  | zero => simp [startC]
  | succ n ih =>
    rw [startC_succ, List.nodup_append]
    refine ⟨ih, by simp, fun a ha b hb => ?_⟩
    simp [startC] at ha hb
    obtain ⟨m, hm, rfl⟩ := ha
    subst hb
    intro e
    cases rows <;> simp at e <;> omega
theorem inB_near {r : Reg} (hv : r.Valid) {c : Cell} (h : inB r c = true) : Near c := by
  have h1 := hv.2.1
  have h2 := hv.2.2.2.1
  simp [inB] at h
  unfold Near
  omega

/-- the indices of the cells that each was seen from -/
def Par (S : List (Cell × Cell)) (F : List Int) : Prop := F.length = S.length ∧ ∀ (j : Nat) (c p : Cell), S[j]? = some (c, p) → (F[j]? = some (-1) ∧ p = c) ∨ ∃ (k : Nat) (q : Cell), F[j]? = some (k : Int) ∧ k < j ∧ S[k]? = some (p, q) ∧ p ≠ c
theorem Par.nil : Par [] [] := ⟨rfl, fun j c p h => by simp at h⟩
theorem Par.snoc {S : List (Cell × Cell)} {F : List Int} (h : Par S F) {c p : Cell} {f : Int} (hc : (f = -1 ∧ p = c) ∨ ∃ (k : Nat) (q : Cell), f = (k : Int) ∧ k < S.length ∧ S[k]? = some (p, q) ∧ p ≠ c) : Par (S ++ [(c, p)]) (F ++ [f]) := by
  refine ⟨by simp [h.1], fun j c' p' hj => ?_⟩
  by_cases hl : j < S.length
  · rw [List.getElem?_append_left hl] at hj
    rw [List.getElem?_append_left (by rw [h.1]; exact hl)]
    rcases h.2 j c' p' hj with h1 | ⟨k, q, h1, h2, h3, h4⟩
    · exact .inl h1
    · exact .inr ⟨k, q, h1, h2, by rw [List.getElem?_append_left (by omega)]; exact h3, h4⟩
  · have hlt := (List.getElem?_eq_some_iff.1 hj).1
    simp at hlt
    have hjj : j = S.length := by omega
    subst hjj
    simp at hj
    obtain ⟨rfl, rfl⟩ := hj
    have hF : (F ++ [f])[S.length]? = some f := by rw [← h.1]; simp
    rw [hF]
    rcases hc with ⟨rfl, rfl⟩ | ⟨k, q, rfl, h2, h3, h4⟩
    · exact .inl ⟨rfl, rfl⟩
    · exact .inr ⟨k, q, rfl, h2, by rw [List.getElem?_append_left (by omega)]; exact h3, h4⟩
def rootsF (S : List (Cell × Cell)) : List Int := S.map fun _ => -1
theorem rootsF_append {S T : List (Cell × Cell)} : rootsF (S ++ T) = rootsF S ++ rootsF T := by simp [rootsF]
theorem rootsF_length {S : List (Cell × Cell)} : (rootsF S).length = S.length := by simp [rootsF]
theorem Par.roots {opn : Cell → Bool} {l : List Cell} : Par (roots opn l) (rootsF (roots opn l)) := by
  refine ⟨rootsF_length, fun j c p hj => .inl ?_⟩
  have hm := List.mem_of_getElem? hj
  simp [Go.Proofs.YtoccedebiacbiaaDoor.roots] at hm
  have hlt := (List.getElem?_eq_some_iff.1 hj).1
  refine ⟨?_, hm.2⟩
  simp [rootsF, hj]

set_option maxRecDepth 100000 in
theorem infoInt : (Tryd.prog.info? 3).map (fun i => (i.zero, i.size, i.bytes)) = some (some (.int .i64 0), 1, 8) := by kernel_rfl

theorem ap_ne {s f : Value} (hap : ∀ q, s.ownBlock = some q → f.ownBlock ≠ some q) : f.ownBlock = none ∨ f.ownBlock ≠ s.ownBlock := by
  cases h : f.ownBlock with
  | none => exact .inl rfl
  | some q => exact .inr fun e => hap q e.symm h
theorem ap_swap {s f : Value} (hap : ∀ q, s.ownBlock = some q → f.ownBlock ≠ some q) : ∀ q, f.ownBlock = some q → s.ownBlock ≠ some q := fun q h1 h2 => hap q h2 h1
theorem ap_step {s s' f : Value} {H : Nat} (hap : ∀ q, s.ownBlock = some q → f.ownBlock ≠ some q) (hat : s'.ownBlock = s.ownBlock ∨ s'.ownBlock = some H) (hf : ∀ q, f.ownBlock = some q → q < H) : ∀ q, s'.ownBlock = some q → f.ownBlock ≠ some q := by
  intro q h1 h2
  rcases hat with e | e
  · exact hap q (e ▸ h1) h2
  · rw [e] at h1
    injection h1 with h1
    have := hf q h2
    omega

theorem fold_keep {opn : Cell → Bool} {d : Cell} {q : Cell → Bool} {L : List Cell} {S : List (Cell × Cell)} {b : Bool} (e : Cell) (h : mapAt ((L.filter q).foldl (addN opn d) S) e ≠ none ∨ opn e = false ∨ q e = false) :
    ((L ++ if b = true then [] else [e]).filter q).foldl (addN opn d) S = (L.filter q).foldl (addN opn d) S := by
  cases b
  · simp only [Bool.false_eq_true, if_false, List.filter_append, List.foldl_append]
    cases hq : q e
    · simp [hq]
    · simp only [List.filter_cons, hq, if_true, List.filter_nil, List.foldl_cons, List.foldl_nil]
      rcases h with h | h | h
      · unfold addN
        rw [if_pos (by rw [Option.isSome_iff_ne_none]; exact h)]
      · unfold addN
        simp [h]
      · rw [hq] at h; cases h
  · simp
theorem fold_add {opn : Cell → Bool} {d : Cell} {q : Cell → Bool} {L : List Cell} {S : List (Cell × Cell)} {b : Bool} (e : Cell) (hb : b = false) (h1 : mapAt ((L.filter q).foldl (addN opn d) S) e = none) (h2 : opn e = true) (h3 : q e = true) :
    ((L ++ if b = true then [] else [e]).filter q).foldl (addN opn d) S = (L.filter q).foldl (addN opn d) S ++ [(e, d)] := by
  subst hb
  simp only [Bool.false_eq_true, if_false, List.filter_append, List.foldl_append, List.filter_cons, h3, if_true, List.filter_nil, List.foldl_cons, List.foldl_nil]
  generalize (L.filter q).foldl (addN opn d) S = T at *
  unfold addN
  simp [h1, h2]

def gridC (r : Reg) : List Cell := (List.range r.rows.length).flatMap fun y : Nat => (List.range r.w.toNat).map fun x : Nat => ⟨x, y⟩
theorem gridC_mem {r : Reg} {c : Cell} (h : inB r c = true) : c ∈ gridC r := by
  simp [inB] at h
  simp only [gridC, List.mem_flatMap, List.mem_range, List.mem_map]
  refine ⟨c.y.toNat, by omega, c.x.toNat, by omega, ?_⟩
  exact Cell.ext (by simp; omega) (by simp; omega)
theorem gridC_length {r : Reg} (hv : r.Valid) : (gridC r).length ≤ 36 := by
  have h2 := hv.2.1
  have h4 := hv.2.2.2.1
  have : ∀ n, n ≤ 6 → ((List.range n).flatMap fun y : Nat => (List.range r.w.toNat).map fun x : Nat => (⟨x, y⟩ : Cell)).length ≤ n * 6 := by
    intro n
    induction n with
    | zero => intro _; simp
    | succ n ih => intro hn; have := ih (by omega); rw [List.range_succ, List.flatMap_append, List.length_append]; simp only [List.flatMap_cons, List.flatMap_nil, List.append_nil, List.length_map, List.length_range]; omega
  have := this r.rows.length h4
  unfold gridC; omega

end Go.Proofs.YtoccedebiacbiaaDoor

namespace Go.Proofs.YtoccedebiacbiaaDoor
open Go.RowKit

set_option maxRecDepth 100000 in
set_option maxHeartbeats 6400000 in
theorem l30_span {v : Value} {r : Reg} (w : World) (h : RegRd w 0 w.heap.size v r) (hv : r.Valid) :
    Calls Tryd.prog 59 #[v, .bool true, .bool false, .bool false] w fun e w' => ∃ v', e = .returned (.tuple #[v', .bool (wayC r true false false).isSome]) ∧ CellsIn w' w.heap.size w'.heap.size v' ((wayC r true false false).getD []) ∧ Below w.heap.size w w' := by
  obtain ⟨s, rfl, hs⟩ := h
  obtain ⟨A, c, rfl, hm, hr⟩ := id hs
  obtain ⟨i0, hi, hz0, hz1, hz2⟩ := info_parts infoCell
  obtain ⟨j0, hj0, hy0, hy1', hy2'⟩ := info_parts infoInt
  obtain ⟨R, hR⟩ : ∃ R, R = wayC r true false false := ⟨_, rfl⟩
  rw [← hR]
  have hbel : Below w.heap.size w (w.alloc (.cells #[.int .i64 r.w, .slice A r.rows.length c] 27)) := (Below.refl _ _).alloc (Nat.le_refl _) _
  have BX : Blk (w.alloc (.cells #[.int .i64 r.w, .slice A r.rows.length c] 27)) w.heap.size 27 #[.int .i64 r.w, .slice A r.rows.length c] := Blk.new _ _ _
  have HZ : w.heap.size + 1 ≤ (w.alloc (.cells #[.int .i64 r.w, .slice A r.rows.length c] 27)).heap.size := by simp
  have HR := Lib.hid hR
  have HV := Lib.hid hv
  have v1 := hv.1
  have v2 := hv.2.1
  have v3 := hv.2.2.1
  have v4 := hv.2.2.2.1
  have hw0 : decide ((0 : Int) < r.w) = true := by simp; omega
  have hh0 : decide ((0 : Int) < (r.rows.length : Int)) = true := by simp; omega
  clear hR hv hr
  go_enter Tryd.func59, Tryd.ntmps59
  go_wp2
  have HW0 := ((((Sep.start w).box 27 #[.int .i64 r.w, .slice A r.rows.length c]).rowBox 52 #[] 2 0 rfl (by decide)).rowBox 3 #[] 1 0 rfl (by decide)).g1
  simp only [World.size_alloc] at HW0
  clear hbel BX HZ
  generalize ((w.alloc (.cells #[.int .i64 r.w, .slice A r.rows.length c] 27)).alloc (.cells #[] 52)).alloc (.cells #[] 3) = W at *
  obtain ⟨n, hn⟩ : ∃ n, n = sideC r false := ⟨_, rfl⟩
  have hn6 : 1 ≤ n ∧ n ≤ 6 := by rw [hn]; simp [sideC]; omega
  have HN := Lib.hid hn
  clear hn
  obtain ⟨opn, hopn⟩ : ∃ opn, opn = opnC r true := ⟨_, rfl⟩
  have HO := Lib.hid hopn
  have HG : Hid (∀ c, opn c = true → c ∈ gridC r) := Lib.hid (by intro c hc; rw [hopn, opnC] at hc; simp only [Bool.and_eq_true] at hc; exact gridC_mem hc.1)
  have HGL := Lib.hid (gridC_length HV.out)
  clear hopn
  go_loopw [10, 11, 13] (fun s f i wr => ∃ (k : Nat) (S : List (Cell × Cell)), k ≤ 6 ∧ i = .int .i64 k ∧ Hid (S = roots opn (startC false (min k n))) ∧ S.length ≤ 6 ∧
    Sep w wr [Res.row s 52 2 S.length (cc (keys S)), Res.row f 3 1 S.length (ic (rootsF S)), Res.box w.heap.size 27 #[.int .i64 r.w, .slice A r.rows.length c]]) (fun _ _ i _ => 7 - (intOf i).toNat)
  case atStart => exact ⟨0, [], by omega, rfl, Lib.hid (by simp [startC, roots]), by simp, HW0⟩
  case round =>
    clear HW0
    obtain ⟨k, S, hk, rfl, HS, hS6, H⟩ := hrel
    have c0 := H.h2.cell 0
    have c1 := H.h2.cell 1
    simp at c0 c1
    have hlt0 : w.heap.size < wr.heap.size := H.h2.lt
    by_cases hwh : r.w < (r.rows.length : Int) <;> by_cases hkw : (k : Int) < r.w <;> by_cases hkh : (k : Int) < (r.rows.length : Int)
    all_goals
      first
        | exact absurd hkw (by omega)
        | exact absurd hkh (by omega)
        | skip
    all_goals
      have dk1 : decide ((k : Int) < r.w) = _ := (by first | exact decide_eq_true hkw | exact decide_eq_false hkw)
      have dk2 : decide ((k : Int) < (r.rows.length : Int)) = _ := (by first | exact decide_eq_true hkh | exact decide_eq_false hkh)
    · have hkn' : k < n := by rw [HN.out]; simp [sideC]; omega
      have hst : roots opn (startC false (min (k + 1) n)) = S ++ if opn ⟨0, (k : Int)⟩ = true then [(⟨0, (k : Int)⟩, ⟨0, (k : Int)⟩)] else [] := by
        rw [show min (k + 1) n = min k n + 1 by omega, startC_succ, roots_append, ← HS.out, show min k n = k by omega]
        exact congrArg (S ++ ·) roots_one
      have hop : opn ⟨0, (k : Int)⟩ = (r.has 0 (k : Int) == true) := by rw [HO.out, opnC, inB]; simp; omega
      have HST := Lib.hid hst
      have HOP := Lib.hid hop
      have hk5 : k ≤ 5 := by omega
      have H1 := H.box 52 #[.int .i64 0, .int .i64 (k : Int)]
      clear hst hop H
      go_wp2_with fail
      generalize wr.alloc (.cells #[.int .i64 0, .int .i64 (k : Int)] 52) = wa at *
      refine (spec_has_c (r := r) _ _ _ ⟨_, rfl, ((hs.keep (SameIn.of_below H1.below (Nat.le_refl _))).more (Nat.le_refl _) H1.size)⟩ HV.out).mono ?_
      rintro e w2 ⟨rfl, hb2⟩
      have H2 := H1.step hb2
      clear H1 c0 c1 hb2
      cases ho : opn ⟨0, (k : Int)⟩
      · have hh : r.has 0 (k : Int) = false := by have := HOP.out; rw [ho] at this; simpa using this.symm
        rw [hh]
        have hst := HST.out
        rw [ho] at hst
        simp only [Bool.false_eq_true, if_false, List.append_nil] at hst
        have HS2 := Lib.hid hst.symm
        have H3 := H2.drop
        clear hst ho hh H2
        go_wp2
        go_roundw
        case rel => exact ⟨k + 1, S, by omega, by go_num, HS2, hS6, H3⟩
        case measure => simp [intOf]; omega
      · have hh : r.has 0 (k : Int) = true := by have := HOP.out; rw [ho] at this; simpa using this.symm
        rw [hh]
        have hst := HST.out
        rw [ho, if_pos rfl] at hst
        have HS2 := Lib.hid hst.symm
        have hS6' : (S ++ [((⟨0, (k : Int)⟩ : Cell), (⟨0, (k : Int)⟩ : Cell))]).length ≤ 6 := by
          rw [← hst]
          refine Nat.le_trans roots_le ?_
          rw [startC_length]; omega
        simp only [List.length_append, List.length_cons, List.length_nil] at hS6'
        have k0 := H2.h0.cell 0
        have k1 := H2.h0.cell 1
        simp at k0 k1
        clear hst ho hh
        go_wp2_with (at_builtin; first
          | (refine wpList_append_own_at _ rfl _ _ 49 rfl 0 52 i0 _ 2 16 Tryd.underlying49 hi hz0 hz1 hz2 rfl (by decide) _ _ _ rfl (H2.alloc _).h1 ⟨w2.heap.size, 0, none⟩ 1 1 [.int .i64 0, .int .i64 (k : Int)] rfl rfl (news_alloc w2 #[.int .i64 0, .int .i64 (k : Int)] _) (by intro u hu; simp at hu; rcases hu with rfl | rfl <;> rfl) (by unfold maxLen; omega) (by omega) (Nat.zero_le _) ?_
             intro s' w3 how hgrow _ hat
             have H3 := ((H2.alloc (.cells #[.int .i64 0, .int .i64 (k : Int)] 52)).drop.app how hgrow hat)
             clear hat hgrow how H2 k0 k1)
          | (refine wpList_append_own_at _ rfl _ _ 22 rfl 0 3 j0 _ 1 8 Tryd.underlying22 hj0 hy0 hy1' hy2' rfl (by decide) _ _ _ rfl (H3.alloc _).h1 ⟨w3.heap.size, 0, none⟩ 1 1 [.int .i64 (-1)] rfl rfl (news_alloc w3 #[.int .i64 (-1)] _) (by intro u hu; simp at hu; subst hu; rfl) (by unfold maxLen; omega) (by omega) (Nat.zero_le _) ?_
             intro f' w4 how hgrow _ hat
             have H4 := ((H3.alloc (.cells #[.int .i64 (-1)] 3)).g1.app how hgrow hat).p1
             clear hat hgrow how H3))
        have H5 : Sep w w4 [Res.row s' 52 2 (S ++ [((⟨0, (k : Int)⟩ : Cell), (⟨0, (k : Int)⟩ : Cell))]).length (cc (keys (S ++ [((⟨0, (k : Int)⟩ : Cell), (⟨0, (k : Int)⟩ : Cell))]))), Res.row f' 3 1 (S ++ [((⟨0, (k : Int)⟩ : Cell), (⟨0, (k : Int)⟩ : Cell))]).length (ic (rootsF (S ++ [((⟨0, (k : Int)⟩ : Cell), (⟨0, (k : Int)⟩ : Cell))]))), Res.box w.heap.size 27 #[.int .i64 r.w, .slice A r.rows.length c]] := by
          rw [keys_append, cc_append, List.length_append, rootsF_append, ic_append]; exact H4
        clear H4
        go_roundw
        case rel => exact ⟨k + 1, _, by omega, by go_num, HS2, by simp; omega, H5⟩
        case measure => simp [intOf]; omega
    · have hkn' : k < n := by rw [HN.out]; simp [sideC]; omega
      have hst : roots opn (startC false (min (k + 1) n)) = S ++ if opn ⟨0, (k : Int)⟩ = true then [(⟨0, (k : Int)⟩, ⟨0, (k : Int)⟩)] else [] := by
        rw [show min (k + 1) n = min k n + 1 by omega, startC_succ, roots_append, ← HS.out, show min k n = k by omega]
        exact congrArg (S ++ ·) roots_one
      have hop : opn ⟨0, (k : Int)⟩ = (r.has 0 (k : Int) == true) := by rw [HO.out, opnC, inB]; simp; omega
      have HST := Lib.hid hst
      have HOP := Lib.hid hop
      have hk5 : k ≤ 5 := by omega
      have H1 := H.box 52 #[.int .i64 0, .int .i64 (k : Int)]
      clear hst hop H
      go_wp2_with fail
      generalize wr.alloc (.cells #[.int .i64 0, .int .i64 (k : Int)] 52) = wa at *
      refine (spec_has_c (r := r) _ _ _ ⟨_, rfl, ((hs.keep (SameIn.of_below H1.below (Nat.le_refl _))).more (Nat.le_refl _) H1.size)⟩ HV.out).mono ?_
      rintro e w2 ⟨rfl, hb2⟩
      have H2 := H1.step hb2
      clear H1 c0 c1 hb2
      cases ho : opn ⟨0, (k : Int)⟩
      · have hh : r.has 0 (k : Int) = false := by have := HOP.out; rw [ho] at this; simpa using this.symm
        rw [hh]
        have hst := HST.out
        rw [ho] at hst
        simp only [Bool.false_eq_true, if_false, List.append_nil] at hst
        have HS2 := Lib.hid hst.symm
        have H3 := H2.drop
        clear hst ho hh H2
        go_wp2
        go_roundw
        case rel => exact ⟨k + 1, S, by omega, by go_num, HS2, hS6, H3⟩
        case measure => simp [intOf]; omega
      · have hh : r.has 0 (k : Int) = true := by have := HOP.out; rw [ho] at this; simpa using this.symm
        rw [hh]
        have hst := HST.out
        rw [ho, if_pos rfl] at hst
        have HS2 := Lib.hid hst.symm
        have hS6' : (S ++ [((⟨0, (k : Int)⟩ : Cell), (⟨0, (k : Int)⟩ : Cell))]).length ≤ 6 := by
          rw [← hst]
          refine Nat.le_trans roots_le ?_
          rw [startC_length]; omega
        simp only [List.length_append, List.length_cons, List.length_nil] at hS6'
        have k0 := H2.h0.cell 0
        have k1 := H2.h0.cell 1
        simp at k0 k1
        clear hst ho hh
        go_wp2_with (at_builtin; first
          | (refine wpList_append_own_at _ rfl _ _ 49 rfl 0 52 i0 _ 2 16 Tryd.underlying49 hi hz0 hz1 hz2 rfl (by decide) _ _ _ rfl (H2.alloc _).h1 ⟨w2.heap.size, 0, none⟩ 1 1 [.int .i64 0, .int .i64 (k : Int)] rfl rfl (news_alloc w2 #[.int .i64 0, .int .i64 (k : Int)] _) (by intro u hu; simp at hu; rcases hu with rfl | rfl <;> rfl) (by unfold maxLen; omega) (by omega) (Nat.zero_le _) ?_
             intro s' w3 how hgrow _ hat
             have H3 := ((H2.alloc (.cells #[.int .i64 0, .int .i64 (k : Int)] 52)).drop.app how hgrow hat)
             clear hat hgrow how H2 k0 k1)
          | (refine wpList_append_own_at _ rfl _ _ 22 rfl 0 3 j0 _ 1 8 Tryd.underlying22 hj0 hy0 hy1' hy2' rfl (by decide) _ _ _ rfl (H3.alloc _).h1 ⟨w3.heap.size, 0, none⟩ 1 1 [.int .i64 (-1)] rfl rfl (news_alloc w3 #[.int .i64 (-1)] _) (by intro u hu; simp at hu; subst hu; rfl) (by unfold maxLen; omega) (by omega) (Nat.zero_le _) ?_
             intro f' w4 how hgrow _ hat
             have H4 := ((H3.alloc (.cells #[.int .i64 (-1)] 3)).g1.app how hgrow hat).p1
             clear hat hgrow how H3))
        have H5 : Sep w w4 [Res.row s' 52 2 (S ++ [((⟨0, (k : Int)⟩ : Cell), (⟨0, (k : Int)⟩ : Cell))]).length (cc (keys (S ++ [((⟨0, (k : Int)⟩ : Cell), (⟨0, (k : Int)⟩ : Cell))]))), Res.row f' 3 1 (S ++ [((⟨0, (k : Int)⟩ : Cell), (⟨0, (k : Int)⟩ : Cell))]).length (ic (rootsF (S ++ [((⟨0, (k : Int)⟩ : Cell), (⟨0, (k : Int)⟩ : Cell))]))), Res.box w.heap.size 27 #[.int .i64 r.w, .slice A r.rows.length c]] := by
          rw [keys_append, cc_append, List.length_append, rootsF_append, ic_append]; exact H4
        clear H4
        go_roundw
        case rel => exact ⟨k + 1, _, by omega, by go_num, HS2, by simp; omega, H5⟩
        case measure => simp [intOf]; omega
    · have hkn' : n ≤ k := by rw [HN.out]; simp [sideC]; omega
      have hSe : S = roots opn (startC false n) := by rw [HS.out, show min k n = n by omega]
      have hpar : Par S (rootsF S) := by rw [hSe]; exact Par.roots
      have hinv : BInv opn S := by
        rw [hSe]
        have := roots_inv (opn := opn) (startC_nodup (rows := false) (n := n)) n (by rw [startC_length]; exact Nat.le_refl _)
        rwa [List.take_of_length_le (by rw [startC_length]; exact Nat.le_refl _)] at this
      go_wp2
      go_loopg [10, 11, 15] 36 (fun gk s f iv wr => ∃ (i : Nat) (S : List (Cell × Cell)) (F : List Int), gk + i = 36 ∧ iv = .int .i64 i ∧ i ≤ S.length ∧ BInv opn S ∧ Par S F ∧
        Sep w wr [Res.row s 52 2 S.length (cc (keys S)), Res.row f 3 1 S.length (ic F), Res.box w.heap.size 27 #[.int .i64 r.w, .slice A r.rows.length c]] ∧ Hid (bfs (aroundC false) opn (doneC r false) (gk + 1) S i = R))
      case atStart => exact ⟨0, S, rootsF S, rfl, rfl, Nat.zero_le _, hinv, hpar, H, Lib.hid (by rw [HR.out, wayC, ← HO.out, ← HN.out, hSe])⟩
      case round =>
        obtain ⟨wo, hwo⟩ : ∃ wo : World, wo = wr := ⟨_, rfl⟩
        subst hwo
        clear hinv hpar H hSe
        obtain ⟨i, S, F, hgi, rfl, hiS, hinv, hpar, H, HB⟩ := hrel
        have hSl := hinv.len HG.out
        have hGl : (gridC r).length ≤ 36 := HGL.out
        by_cases hlt : i < S.length
        · obtain ⟨⟨cl, pp⟩, p⟩ : ∃ cl : Cell × Cell, S[i]? = some cl := ⟨S[i], List.getElem?_eq_getElem hlt⟩
          have HP := Lib.hid p
          have hkc : (keys S)[i]? = some cl := by simp [keys, p]
          have hS0 : 0 < S.length := by omega
          obtain ⟨bs, os, cs, rfl, hsn, hsm, hbs⟩ := own_shape H.h0 hS0
          obtain ⟨bf, of, cf, rfl, hfn, hfm, hbf⟩ := own_shape H.h1 hS0
          obtain ⟨q0, q1⟩ := own_cell2 H.h0 hkc
          obtain ⟨d, hd⟩ : ∃ d, d = cl := ⟨_, rfl⟩
          subst hd
          have hin := inB_near HV.out (show inB r d = true by have := hinv.opens _ (List.mem_of_getElem? p); rw [HO.out, opnC] at this; simp only [Bool.and_eq_true] at this; exact this.1)
          obtain ⟨n1, n2, n3, n4⟩ := hin
          have c0 := H.h2.cell 0
          simp at c0
          clear p hkc
          cases hdn : doneC r false d
          · have hbs' : bfs (aroundC false) opn (doneC r false) gk (expand (aroundC false) opn S d) (i + 1) = R := by
              have := HB.out
              rw [bfs, HP.out] at this
              simpa [hdn] using this
            have HB2 := Lib.hid hbs'
            have dd : (d.x == r.w - 1) = false := by simpa [doneC] using hdn
            clear hbs' hdn
            go_wp2_with fail
            go_quiet (fail)
            have H2 := H.drewN nq
            obtain ⟨q0, q1⟩ := own_cell2 (l := keys S) (j := i) (u := d) H2.h0 (by simp [keys, HP.out])
            clear c0 dd H hbs hbf
            generalize wo.drewN nq = wq at *
            go_wp2
            obtain ⟨wo1, hwo1⟩ : ∃ wo1 : World, wo1 = wq := ⟨_, rfl⟩
            subst hwo1
            clear q0 q1
            go_loopw [10, 11, 18] (fun s f yv wr => ∃ (k : Nat) (Y : Int) (T : List (Cell × Cell)) (F : List Int), k ≤ 3 ∧ yv = .int .i64 Y ∧ Hid (Y = d.y + ((k : Int) - 1)) ∧ d.y - 1 ≤ Y ∧ Y ≤ d.y + 2 ∧ Hid (T = ((roundsTo d k).filter (nr false d)).foldl (addN opn d) S) ∧ BInv opn T ∧ Par T F ∧ i < T.length ∧ Hid (T[i]? = some (d, pp)) ∧
              Sep w wr [Res.row s 52 2 T.length (cc (keys T)), Res.row f 3 1 T.length (ic F), Res.box w.heap.size 27 #[.int .i64 r.w, .slice A r.rows.length c]]) (fun _ _ yv _ => (d.y + 2 - intOf yv).toNat)
            case atStart => exact ⟨0, d.y - 1, S, F, by omega, by go_num, Lib.hid (by omega), by omega, by omega, Lib.hid (by simp [roundsTo]), hinv, hpar, hlt, HP, H2⟩
            case round =>
              clear hinv hpar H2 hiS hSl hlt hsn hsm hfn hfm
              obtain ⟨k, Y, T, FT, hk, rfl, HY, hy1, hy2, HT, hinv, hpar, hiT, HTI, H⟩ := hrel
              have hTl := hinv.len HG.out
              have hT0 : 0 < T.length := by omega
              obtain ⟨bs, os, cs, rfl, hsn, hsm, hbs⟩ := own_shape H.h0 hT0
              obtain ⟨bf, of, cf, rfl, hfn, hfm, hbf⟩ := own_shape H.h1 hT0
              obtain ⟨q0, q1⟩ := own_cell2 (l := keys T) (j := i) (u := d) H.h0 (by simp [keys, HTI.out])
              obtain ⟨wo2, hwo2⟩ : ∃ wo2 : World, wo2 = wr := ⟨_, rfl⟩
              subst hwo2
              by_cases hlk : k < 3
              · have hY3 : Y ≤ d.y + 1 := by have := HY.out; omega
                go_wp2
                clear q0 q1
                go_loopw [10, 11, 19] (fun s f xv wr => ∃ (j : Nat) (X : Int) (T : List (Cell × Cell)) (F : List Int), j ≤ 3 ∧ xv = .int .i64 X ∧ Hid (X = d.x + ((j : Int) - 1)) ∧ d.x - 1 ≤ X ∧ X ≤ d.x + 2 ∧ Hid (T = ((roundsTo d k ++ rowR d k j).filter (nr false d)).foldl (addN opn d) S) ∧ BInv opn T ∧ Par T F ∧ i < T.length ∧ Hid (T[i]? = some (d, pp)) ∧
                  Sep w wr [Res.row s 52 2 T.length (cc (keys T)), Res.row f 3 1 T.length (ic F), Res.box w.heap.size 27 #[.int .i64 r.w, .slice A r.rows.length c]]) (fun _ _ xv _ => (d.x + 2 - intOf xv).toNat)
                case atStart => exact ⟨0, d.x - 1, T, FT, by omega, by go_num, Lib.hid (by omega), by omega, by omega, Lib.hid (by rw [HT.out]; simp [rowR]), hinv, hpar, hiT, HTI, H⟩
                case round =>
                  clear hinv hpar H hiT hTl hT0 hsn hsm hbs hfn hfm hbf HTI
                  obtain ⟨j, X, T2, F2, hj, rfl, HX, hx1, hx2, HT2, hinv, hpar, hiT, HTI, H⟩ := hrel
                  have hTl := hinv.len HG.out
                  have hT0 : 0 < T2.length := by omega
                  obtain ⟨bs, os, cs, rfl, hsn, hsm, hbs⟩ := own_shape H.h0 hT0
                  obtain ⟨bf, of, cf, rfl, hfn, hfm, hbf⟩ := own_shape H.h1 hT0
                  obtain ⟨q0, q1⟩ := own_cell2 (l := keys T2) (j := i) (u := d) H.h0 (by simp [keys, HTI.out])
                  by_cases hlj : j < 3
                  · have hX3 : X ≤ d.x + 1 := by have := HX.out; omega
                    obtain ⟨dd, hdd⟩ : ∃ dd : Cell, dd = ⟨X, Y⟩ := ⟨_, rfl⟩
                    have hkeep : (mapAt T2 ⟨X, Y⟩ ≠ none ∨ opn ⟨X, Y⟩ = false ∨ nr false d ⟨X, Y⟩ = false) → T2 = ((roundsTo d k ++ rowR d k (j + 1)).filter (nr false d)).foldl (addN opn d) S := by
                      intro h
                      rw [rowR_succ, ← List.append_assoc, ← HX.out, ← HY.out, HT2.out]
                      exact (fold_keep ⟨X, Y⟩ (by rw [← HT2.out]; exact h)).symm
                    have hadd : mapAt T2 ⟨X, Y⟩ = none → opn ⟨X, Y⟩ = true → nr false d ⟨X, Y⟩ = true → T2 ++ [(⟨X, Y⟩, d)] = ((roundsTo d k ++ rowR d k (j + 1)).filter (nr false d)).foldl (addN opn d) S := by
                      intro h1 h2 h3
                      rw [rowR_succ, ← List.append_assoc, ← HX.out, ← HY.out, HT2.out]
                      have hne : (j == 1 && k == 1) = false := by
                        rw [Bool.eq_false_iff]
                        intro hc
                        simp at hc
                        have e1 := HX.out
                        have e2 := HY.out
                        rw [hc.1] at e1
                        rw [hc.2] at e2
                        have : (⟨X, Y⟩ : Cell) = d := Cell.ext (by simp; omega) (by simp; omega)
                        rw [this, mapAt_some hinv.nodup HTI.out] at h1
                        cases h1
                      exact (fold_add ⟨X, Y⟩ hne (by rw [← HT2.out]; exact h1) h2 h3).symm
                    have HK := Lib.hid hkeep
                    have HADD := Lib.hid hadd
                    clear hkeep hadd
                    clear dd hdd
                    have hout : ¬ (0 ≤ X ∧ X < r.w ∧ 0 ≤ Y ∧ Y < r.rows.length) → opn ⟨X, Y⟩ = false := fun h => by rw [HO.out, opnC, inB]; simp only [h, decide_false, Bool.false_and]
                    have HOUT := Lib.hid hout
                    have c0 := H.h2.cell 0
                    have c1 := H.h2.cell 1
                    simp at c0 c1
                    clear hout
                    by_cases hX0 : X < 0
                    · skip
                      go_wp2
                      go_roundw
                      case rel => exact ⟨j + 1, X + 1, T2, F2, by omega, by go_num, Lib.hid (by have := HX.out; omega), by omega, by omega, Lib.hid (HK.out (.inr (.inl (HOUT.out (by omega))))), hinv, hpar, hiT, HTI, H⟩
                      case measure => simp [intOf]; omega
                    by_cases hY0 : Y < 0
                    · skip
                      go_wp2
                      go_roundw
                      case rel => exact ⟨j + 1, X + 1, T2, F2, by omega, by go_num, Lib.hid (by have := HX.out; omega), by omega, by omega, Lib.hid (HK.out (.inr (.inl (HOUT.out (by omega))))), hinv, hpar, hiT, HTI, H⟩
                      case measure => simp [intOf]; omega
                    by_cases hXw : r.w ≤ X
                    · skip
                      go_wp2
                      go_roundw
                      case rel => exact ⟨j + 1, X + 1, T2, F2, by omega, by go_num, Lib.hid (by have := HX.out; omega), by omega, by omega, Lib.hid (HK.out (.inr (.inl (HOUT.out (by omega))))), hinv, hpar, hiT, HTI, H⟩
                      case measure => simp [intOf]; omega
                    by_cases hYh : (r.rows.length : Int) ≤ Y
                    · skip
                      go_wp2
                      go_roundw
                      case rel => exact ⟨j + 1, X + 1, T2, F2, by omega, by go_num, Lib.hid (by have := HX.out; omega), by omega, by omega, Lib.hid (HK.out (.inr (.inl (HOUT.out (by omega))))), hinv, hpar, hiT, HTI, H⟩
                      case measure => simp [intOf]; omega
                    go_wp2_with fail
                    clear q0 q1 c0 c1
                    refine (hasCell_c (l := keys T2) X Y wr (by have := H.oi.sr.more (Nat.zero_le _) (Nat.le_refl _); rw [← keys_length] at this; rw [← keys_length]; exact this) (by rw [keys_length]; omega)).mono ?_
                    rintro e w2 ⟨rfl, hb2⟩
                    have H2 := H.step hb2
                    clear hb2 H
                    cases hmm : decide ((⟨X, Y⟩ : Cell) ∈ keys T2)
                    · have hmn : mapAt T2 ⟨X, Y⟩ = none := mapAt_none.2 (of_decide_eq_false hmm)
                      have c0 := H2.h2.cell 0
                      have c1 := H2.h2.cell 1
                      simp at c0 c1
                      have HMN := Lib.hid hmn
                      clear hmm hmn
                      go_wp2_with fail
                      clear c0 c1
                      refine (spec_has_c (r := r) X Y w2 ⟨_, rfl, ((hs.keep (SameIn.of_below H2.below (Nat.le_refl _))).more (Nat.le_refl _) H2.size)⟩ HV.out).mono ?_
                      rintro e w3 ⟨rfl, hb3⟩
                      have H3 := H2.step hb3
                      clear hb3 H2
                      have hop : opn ⟨X, Y⟩ = (r.has X Y == true) := by rw [HO.out, opnC, inB]; simp; omega
                      cases ho : opn ⟨X, Y⟩
                      · have hh : r.has X Y = false := by rw [ho] at hop; simpa using hop.symm
                        rw [hh]
                        have HOF := Lib.hid ho
                        clear hh ho hop
                        go_wp2
                        go_roundw
                        case rel => exact ⟨j + 1, X + 1, T2, F2, by omega, by go_num, Lib.hid (by have := HX.out; omega), by omega, by omega, Lib.hid (HK.out (.inr (.inl HOF.out))), hinv, hpar, hiT, HTI, H3⟩
                        case measure => simp [intOf]; omega
                      · have hh : r.has X Y = true := by rw [ho] at hop; simpa using hop.symm
                        have hmn := HMN.out
                        rw [hh]
                        clear hop
                        have HH := Lib.hid hh
                        have HO2 := Lib.hid ho
                        have HM2 := Lib.hid hmn
                        obtain ⟨q0, q1⟩ := own_cell2 (l := keys T2) (j := i) (u := d) H3.h0 (by simp [keys, HTI.out])
                        have hn1 : -1 ≤ d.x - X := by omega
                        have hn2 : d.x - X ≤ 1 := by omega
                        have hn3 : -1 ≤ d.y - Y := by omega
                        have hn4 : d.y - Y ≤ 1 := by omega
                        clear hh ho hmn
                        go_wp2_with fail
                        clear q0 q1
                        refine (near_c d ⟨X, Y⟩ w3 hn1 hn2 hn3 hn4).mono ?_
                        rintro e w4 ⟨rfl, hb4⟩
                        have H4 := H3.step hb4
                        clear hb4 H3
                        cases hnr : nearB d ⟨X, Y⟩
                        · have HNR := Lib.hid hnr
                          clear hnr
                          go_wp2
                          go_roundw
                          case rel => exact ⟨j + 1, X + 1, T2, F2, by omega, by go_num, Lib.hid (by have := HX.out; omega), by omega, by omega, Lib.hid (HK.out (.inr (.inr (by simp [nr, HNR.out])))), hinv, hpar, hiT, HTI, H4⟩
                          case measure => simp [intOf]; omega
                        · have hnr : nr false d ⟨X, Y⟩ = true := by simp [nr, hnr]
                          have hh := HH.out
                          have ho := HO2.out
                          have hmn := HM2.out
                          have hnw := HADD.out hmn ho hnr
                          have hinv2 := hinv.snoc hmn ho (.inr ⟨i, pp, HTI.out⟩)
                          have hpar2 := hpar.snoc (c := ⟨X, Y⟩) (p := d) (f := (i : Int)) (.inr ⟨i, pp, rfl, hiT, HTI.out, fun e => by subst e; rw [mapAt_some hinv.nodup HTI.out] at hmn; cases hmn⟩)
                          have hTl2 := hinv2.len HG.out
                          simp only [List.length_append, List.length_cons, List.length_nil] at hTl2
                          have hti2 : (T2 ++ [((⟨X, Y⟩ : Cell), d)])[i]? = some (d, pp) := by rw [List.getElem?_append_left hiT]; exact HTI.out
                          have hFl : F2.length = T2.length := hpar.1
                          have HNW := Lib.hid hnw
                          have HTI2 := Lib.hid hti2
                          have HI2 := Lib.hid hinv2
                          have HP2 := Lib.hid hpar2
                          clear hnw hinv2 hpar2 hti2 hFl hmn ho hnr hh
                          go_wp2_with (at_builtin; first
                            | (refine wpList_append_own_at _ rfl _ _ 49 rfl 0 52 i0 _ 2 16 Tryd.underlying49 hi hz0 hz1 hz2 rfl (by decide) _ _ _ rfl (H4.alloc _).h0 ⟨w4.heap.size, 0, none⟩ 1 1 [.int .i64 X, .int .i64 Y] rfl rfl (news_alloc w4 #[.int .i64 X, .int .i64 Y] _) (by intro u hu; simp at hu; rcases hu with rfl | rfl <;> rfl) (by unfold maxLen; omega) (by omega) (Nat.zero_le _) ?_
                               intro s' w5 how hgrow _ hat
                               have H5 := (H4.alloc (.cells #[.int .i64 X, .int .i64 Y] 52)).app how hgrow hat
                               clear how hgrow hat H4)
                            | (refine wpList_append_own_at _ rfl _ _ 22 rfl 0 3 j0 _ 1 8 Tryd.underlying22 hj0 hy0 hy1' hy2' rfl (by decide) _ _ _ rfl (H5.alloc _).h1 ⟨w5.heap.size, 0, none⟩ 1 1 [.int .i64 (i : Int)] rfl rfl (news_alloc w5 #[.int .i64 (i : Int)] _) (by intro u hu; simp at hu; subst hu; rfl) (by unfold maxLen; omega) (by omega) (Nat.zero_le _) ?_
                               intro f' w6 how hgrow _ hat
                               have H6 := ((H5.alloc (.cells #[.int .i64 (i : Int)] 3)).g1.app how hgrow hat).p1
                               clear how hgrow hat H5))
                          have H7 : Sep w w6 [Res.row s' 52 2 (T2 ++ [((⟨X, Y⟩ : Cell), d)]).length (cc (keys (T2 ++ [((⟨X, Y⟩ : Cell), d)]))), Res.row f' 3 1 (T2 ++ [((⟨X, Y⟩ : Cell), d)]).length (ic (F2 ++ [(i : Int)])), Res.box w.heap.size 27 #[.int .i64 r.w, .slice A r.rows.length c]] := by
                            rw [keys_append, cc_append, ic_append, List.length_append]; exact H6
                          clear H6
                          go_roundw
                          case rel => exact ⟨j + 1, X + 1, _, _, by omega, by go_num, Lib.hid (by have := HX.out; omega), by omega, by omega, HNW, HI2.out, HP2.out, by simp; omega, HTI2, H7⟩
                          case measure => simp [intOf]; omega
                    · have hmn : mapAt T2 ⟨X, Y⟩ ≠ none := fun h => by have := mapAt_none.1 h; exact this (of_decide_eq_true hmm)
                      have HMN := Lib.hid hmn
                      clear hmm hmn
                      go_wp2
                      go_roundw
                      case rel => exact ⟨j + 1, X + 1, T2, F2, by omega, by go_num, Lib.hid (by have := HX.out; omega), by omega, by omega, Lib.hid (HK.out (.inl HMN.out)), hinv, hpar, hiT, HTI, H2⟩
                      case measure => simp [intOf]; omega
                  · have hX3 : ¬ X ≤ d.x + 1 := by have := HX.out; omega
                    go_wp2
                    go_roundw
                    case rel =>
                      obtain rfl : j = 3 := by omega
                      exact ⟨k + 1, Y + 1, T2, F2, by omega, by go_num, Lib.hid (by rw [HY.out]; omega), by omega, by omega, Lib.hid (by rw [HT2.out, roundsTo_succ]), hinv, hpar, hiT, HTI, H⟩
                    case measure => simp [intOf]; omega
              · have hY3 : ¬ Y ≤ d.y + 1 := by have := HY.out; omega
                go_wp2
                go_roundg (gk - 1)
                case measure => omega
                case rel =>
                  obtain rfl : k = 3 := by omega
                  exact ⟨i + 1, T, FT, by omega, by go_num, by omega, hinv, hpar, H, Lib.hid (by rw [show gk - 1 + 1 = gk by omega, HT.out]; exact HB2.out)⟩
          · have hRs : R = some (wayGo S S.length d [d]) := by
              have := HB.out
              rw [bfs, HP.out] at this
              simpa [hdn] using this.symm
            obtain ⟨way, hway⟩ : ∃ way, way = wayGo S S.length d [d] := ⟨_, rfl⟩
            rw [← hway] at hRs
            subst hRs
            have HW := Lib.hid hway
            have dd : (d.x == r.w - 1) = true := by simpa [doneC] using hdn
            have HINV := Lib.hid hinv
            have HPAR := Lib.hid hpar
            clear hway hdn HB hinv hpar
            go_wp2_with fail
            go_quiet (fail)
            have H2 := (H.drewN nq).rowBox 52 #[] 2 0 rfl (by decide)
            clear q0 q1 c0 dd H
            go_wp2
            generalize (wo.drewN nq).alloc (.cells #[] 52) = wB at *
            go_loopg [16, 17] S.length (fun gk2 ov kv wr => ∃ (out : List Cell) (gw cw : Nat), ov = .slice (some ⟨gw, 0, none⟩) out.length cw ∧ out.length + gk2 ≤ S.length ∧
              Sep w wr [Res.row ov 52 2 out.length (cc out), Res.row (.slice (some ⟨bs, os, none⟩) S.length cs) 52 2 S.length (cc (keys S)), Res.row (.slice (some ⟨bf, of, none⟩) S.length cf) 3 1 S.length (ic F), Res.box w.heap.size 27 #[.int .i64 r.w, .slice A r.rows.length c]] ∧
              ((kv = .int .i64 (-1) ∧ out = way) ∨ ∃ (j : Nat) (ci pj : Cell), kv = .int .i64 j ∧ S[j]? = some (ci, pj) ∧ j < gk2 ∧ wayGo S gk2 ci (ci :: out) = way))
            case atStart => exact ⟨[], _, _, rfl, by simp, H2, .inr ⟨i, d, pp, rfl, HP.out, hlt, HW.out.symm⟩⟩
            case round =>
              clear H2
              obtain ⟨out, gw, cw, rfl, hol, H, hk⟩ := hrel
              rcases hk with ⟨rfl, hway⟩ | ⟨j, ci, pj, rfl, hj, hjg, hwg⟩
              · subst hway
                go_wp2
                go_ret2
                exact ⟨_, rfl, CellsIn.mk H.oi.1 rfl rfl, H.below⟩
              · have hkj : (keys S)[j]? = some ci := by simp [keys, hj]
                obtain ⟨k0, k1⟩ := own_cell2 H.h1 hkj
                have hjS : j < S.length := (List.getElem?_eq_some_iff.1 hj).1
                obtain ⟨fj, hfj⟩ : ∃ fj, F[j]? = some fj := ⟨F[j]'(by rw [HPAR.out.1]; exact hjS), List.getElem?_eq_getElem _⟩
                have hma := mapAt_some HINV.out.nodup hj
                have hnext : (fj = -1 ∧ ci :: out = way) ∨ ∃ (j' : Nat) (pj' q : Cell), fj = (j' : Int) ∧ S[j']? = some (pj', q) ∧ j' < gk - 1 ∧ wayGo S (gk - 1) pj' (pj' :: ci :: out) = way := by
                  rw [show gk = (gk - 1) + 1 by omega, wayGo, hma] at hwg
                  rcases HPAR.out.2 j ci pj hj with ⟨h1, h2⟩ | ⟨k', q, h1, h2, h3, h4⟩
                  · rw [hfj] at h1
                    injection h1 with h1
                    exact .inl ⟨h1, by simpa [h2] using hwg⟩
                  · rw [hfj] at h1
                    injection h1 with h1
                    exact .inr ⟨k', pj, q, h1, h3, by omega, by simpa [h4] using hwg⟩
                have HN2 := Lib.hid hnext
                have ho1 : out.length + 1 ≤ 40 := by omega
                clear hkj hj hwg hma hnext
                have Hn := H.rowBox 52 #[.int .i64 ci.x, .int .i64 ci.y] 2 1 rfl (by decide)
                have hl2 := H.h0.1
                have hce := (H.alloc (.cells #[.int .i64 ci.x, .int .i64 ci.y] 52)).h0.cells (g := gw) rfl
                have HCE := Lib.hid hce
                have HFJ := Lib.hid hfj
                clear hce hfj
                go_wp2_with (at_builtin; refine wpList_append_own_at _ rfl _ _ 49 rfl 0 52 i0 _ 2 16 Tryd.underlying49 hi hz0 hz1 hz2 rfl (by decide) _ _ _ rfl Hn.h0 ⟨gw, 0, none⟩ out.length cw (cc out) rfl hl2 HCE.out cc_one (by unfold maxLen; omega) (by omega) (Nat.zero_le _) ?_; intro v' w3 how hgrow _ hat; have H3 := (Hn.app how hgrow hat).drop2; clear Hn how hgrow hat H; have kf := own_cell1 H3.h2 HFJ.out)
                have ho2 : (ci :: out).length = 1 + out.length := by simp; omega
                obtain ⟨gv, cv1, rfl, _, _, _⟩ := own_at H3.h0 (by omega)
                rcases HN2.out with ⟨rfl, hway⟩ | ⟨j', pj', q', rfl, hj', hj'g, hwg'⟩
                all_goals
                  go_wp2
                  go_roundg (gk - 1)
                  case measure => omega
                case rel => exact ⟨ci :: out, gv, cv1, by rw [ho2], by simp; omega, by rw [ho2]; exact H3, .inl ⟨rfl, hway⟩⟩
                case rel => exact ⟨ci :: out, gv, cv1, by rw [ho2], by simp; omega, by rw [ho2]; exact H3, .inr ⟨j', pj', q', rfl, hj', hj'g, hwg'⟩⟩
        · have hbn : R = none := by rw [← HB.out]; exact bfs_end (by omega)
          subst hbn
          obtain ⟨As, cs, rfl, hsn, hsm, hsr⟩ := Res.row_at H.h0
          clear hsr
          have H2 := H.rowBox 52 #[] 2 0 rfl (by decide)
          go_wp2
          go_ret2
          exact ⟨_, rfl, CellsIn.mk H2.oi.1 rfl rfl, H2.below⟩
    · have hkn' : k < n := by rw [HN.out]; simp [sideC]; omega
      have hst : roots opn (startC false (min (k + 1) n)) = S ++ if opn ⟨0, (k : Int)⟩ = true then [(⟨0, (k : Int)⟩, ⟨0, (k : Int)⟩)] else [] := by
        rw [show min (k + 1) n = min k n + 1 by omega, startC_succ, roots_append, ← HS.out, show min k n = k by omega]
        exact congrArg (S ++ ·) roots_one
      have hop : opn ⟨0, (k : Int)⟩ = (r.has 0 (k : Int) == true) := by rw [HO.out, opnC, inB]; simp; omega
      have HST := Lib.hid hst
      have HOP := Lib.hid hop
      have hk5 : k ≤ 5 := by omega
      have H1 := H.box 52 #[.int .i64 0, .int .i64 (k : Int)]
      clear hst hop H
      go_wp2_with fail
      generalize wr.alloc (.cells #[.int .i64 0, .int .i64 (k : Int)] 52) = wa at *
      refine (spec_has_c (r := r) _ _ _ ⟨_, rfl, ((hs.keep (SameIn.of_below H1.below (Nat.le_refl _))).more (Nat.le_refl _) H1.size)⟩ HV.out).mono ?_
      rintro e w2 ⟨rfl, hb2⟩
      have H2 := H1.step hb2
      clear H1 c0 c1 hb2
      cases ho : opn ⟨0, (k : Int)⟩
      · have hh : r.has 0 (k : Int) = false := by have := HOP.out; rw [ho] at this; simpa using this.symm
        rw [hh]
        have hst := HST.out
        rw [ho] at hst
        simp only [Bool.false_eq_true, if_false, List.append_nil] at hst
        have HS2 := Lib.hid hst.symm
        have H3 := H2.drop
        clear hst ho hh H2
        go_wp2
        go_roundw
        case rel => exact ⟨k + 1, S, by omega, by go_num, HS2, hS6, H3⟩
        case measure => simp [intOf]; omega
      · have hh : r.has 0 (k : Int) = true := by have := HOP.out; rw [ho] at this; simpa using this.symm
        rw [hh]
        have hst := HST.out
        rw [ho, if_pos rfl] at hst
        have HS2 := Lib.hid hst.symm
        have hS6' : (S ++ [((⟨0, (k : Int)⟩ : Cell), (⟨0, (k : Int)⟩ : Cell))]).length ≤ 6 := by
          rw [← hst]
          refine Nat.le_trans roots_le ?_
          rw [startC_length]; omega
        simp only [List.length_append, List.length_cons, List.length_nil] at hS6'
        have k0 := H2.h0.cell 0
        have k1 := H2.h0.cell 1
        simp at k0 k1
        clear hst ho hh
        go_wp2_with (at_builtin; first
          | (refine wpList_append_own_at _ rfl _ _ 49 rfl 0 52 i0 _ 2 16 Tryd.underlying49 hi hz0 hz1 hz2 rfl (by decide) _ _ _ rfl (H2.alloc _).h1 ⟨w2.heap.size, 0, none⟩ 1 1 [.int .i64 0, .int .i64 (k : Int)] rfl rfl (news_alloc w2 #[.int .i64 0, .int .i64 (k : Int)] _) (by intro u hu; simp at hu; rcases hu with rfl | rfl <;> rfl) (by unfold maxLen; omega) (by omega) (Nat.zero_le _) ?_
             intro s' w3 how hgrow _ hat
             have H3 := ((H2.alloc (.cells #[.int .i64 0, .int .i64 (k : Int)] 52)).drop.app how hgrow hat)
             clear hat hgrow how H2 k0 k1)
          | (refine wpList_append_own_at _ rfl _ _ 22 rfl 0 3 j0 _ 1 8 Tryd.underlying22 hj0 hy0 hy1' hy2' rfl (by decide) _ _ _ rfl (H3.alloc _).h1 ⟨w3.heap.size, 0, none⟩ 1 1 [.int .i64 (-1)] rfl rfl (news_alloc w3 #[.int .i64 (-1)] _) (by intro u hu; simp at hu; subst hu; rfl) (by unfold maxLen; omega) (by omega) (Nat.zero_le _) ?_
             intro f' w4 how hgrow _ hat
             have H4 := ((H3.alloc (.cells #[.int .i64 (-1)] 3)).g1.app how hgrow hat).p1
             clear hat hgrow how H3))
        have H5 : Sep w w4 [Res.row s' 52 2 (S ++ [((⟨0, (k : Int)⟩ : Cell), (⟨0, (k : Int)⟩ : Cell))]).length (cc (keys (S ++ [((⟨0, (k : Int)⟩ : Cell), (⟨0, (k : Int)⟩ : Cell))]))), Res.row f' 3 1 (S ++ [((⟨0, (k : Int)⟩ : Cell), (⟨0, (k : Int)⟩ : Cell))]).length (ic (rootsF (S ++ [((⟨0, (k : Int)⟩ : Cell), (⟨0, (k : Int)⟩ : Cell))]))), Res.box w.heap.size 27 #[.int .i64 r.w, .slice A r.rows.length c]] := by
          rw [keys_append, cc_append, List.length_append, rootsF_append, ic_append]; exact H4
        clear H4
        go_roundw
        case rel => exact ⟨k + 1, _, by omega, by go_num, HS2, by simp; omega, H5⟩
        case measure => simp [intOf]; omega
    · have hkn' : n ≤ k := by rw [HN.out]; simp [sideC]; omega
      have HS2 : Hid (S = roots opn (startC false (min (k + 1) n))) := by rw [show min (k + 1) n = min k n by omega]; exact HS
      have H1 := H.alloc (.cells #[.int .i64 0, .int .i64 (k : Int)] 52)
      clear H
      go_wp2
      go_roundw
      case rel => exact ⟨k + 1, S, by omega, by go_num, HS2, hS6, H1⟩
      case measure => simp [intOf]; omega
    · have hkn' : n ≤ k := by rw [HN.out]; simp [sideC]; omega
      have hSe : S = roots opn (startC false n) := by rw [HS.out, show min k n = n by omega]
      have hpar : Par S (rootsF S) := by rw [hSe]; exact Par.roots
      have hinv : BInv opn S := by
        rw [hSe]
        have := roots_inv (opn := opn) (startC_nodup (rows := false) (n := n)) n (by rw [startC_length]; exact Nat.le_refl _)
        rwa [List.take_of_length_le (by rw [startC_length]; exact Nat.le_refl _)] at this
      go_wp2
      go_loopg [10, 11, 15] 36 (fun gk s f iv wr => ∃ (i : Nat) (S : List (Cell × Cell)) (F : List Int), gk + i = 36 ∧ iv = .int .i64 i ∧ i ≤ S.length ∧ BInv opn S ∧ Par S F ∧
        Sep w wr [Res.row s 52 2 S.length (cc (keys S)), Res.row f 3 1 S.length (ic F), Res.box w.heap.size 27 #[.int .i64 r.w, .slice A r.rows.length c]] ∧ Hid (bfs (aroundC false) opn (doneC r false) (gk + 1) S i = R))
      case atStart => exact ⟨0, S, rootsF S, rfl, rfl, Nat.zero_le _, hinv, hpar, H, Lib.hid (by rw [HR.out, wayC, ← HO.out, ← HN.out, hSe])⟩
      case round =>
        obtain ⟨wo, hwo⟩ : ∃ wo : World, wo = wr := ⟨_, rfl⟩
        subst hwo
        clear hinv hpar H hSe
        obtain ⟨i, S, F, hgi, rfl, hiS, hinv, hpar, H, HB⟩ := hrel
        have hSl := hinv.len HG.out
        have hGl : (gridC r).length ≤ 36 := HGL.out
        by_cases hlt : i < S.length
        · obtain ⟨⟨cl, pp⟩, p⟩ : ∃ cl : Cell × Cell, S[i]? = some cl := ⟨S[i], List.getElem?_eq_getElem hlt⟩
          have HP := Lib.hid p
          have hkc : (keys S)[i]? = some cl := by simp [keys, p]
          have hS0 : 0 < S.length := by omega
          obtain ⟨bs, os, cs, rfl, hsn, hsm, hbs⟩ := own_shape H.h0 hS0
          obtain ⟨bf, of, cf, rfl, hfn, hfm, hbf⟩ := own_shape H.h1 hS0
          obtain ⟨q0, q1⟩ := own_cell2 H.h0 hkc
          obtain ⟨d, hd⟩ : ∃ d, d = cl := ⟨_, rfl⟩
          subst hd
          have hin := inB_near HV.out (show inB r d = true by have := hinv.opens _ (List.mem_of_getElem? p); rw [HO.out, opnC] at this; simp only [Bool.and_eq_true] at this; exact this.1)
          obtain ⟨n1, n2, n3, n4⟩ := hin
          have c0 := H.h2.cell 0
          simp at c0
          clear p hkc
          cases hdn : doneC r false d
          · have hbs' : bfs (aroundC false) opn (doneC r false) gk (expand (aroundC false) opn S d) (i + 1) = R := by
              have := HB.out
              rw [bfs, HP.out] at this
              simpa [hdn] using this
            have HB2 := Lib.hid hbs'
            have dd : (d.x == r.w - 1) = false := by simpa [doneC] using hdn
            clear hbs' hdn
            go_wp2_with fail
            go_quiet (fail)
            have H2 := H.drewN nq
            obtain ⟨q0, q1⟩ := own_cell2 (l := keys S) (j := i) (u := d) H2.h0 (by simp [keys, HP.out])
            clear c0 dd H hbs hbf
            generalize wo.drewN nq = wq at *
            go_wp2
            obtain ⟨wo1, hwo1⟩ : ∃ wo1 : World, wo1 = wq := ⟨_, rfl⟩
            subst hwo1
            clear q0 q1
            go_loopw [10, 11, 18] (fun s f yv wr => ∃ (k : Nat) (Y : Int) (T : List (Cell × Cell)) (F : List Int), k ≤ 3 ∧ yv = .int .i64 Y ∧ Hid (Y = d.y + ((k : Int) - 1)) ∧ d.y - 1 ≤ Y ∧ Y ≤ d.y + 2 ∧ Hid (T = ((roundsTo d k).filter (nr false d)).foldl (addN opn d) S) ∧ BInv opn T ∧ Par T F ∧ i < T.length ∧ Hid (T[i]? = some (d, pp)) ∧
              Sep w wr [Res.row s 52 2 T.length (cc (keys T)), Res.row f 3 1 T.length (ic F), Res.box w.heap.size 27 #[.int .i64 r.w, .slice A r.rows.length c]]) (fun _ _ yv _ => (d.y + 2 - intOf yv).toNat)
            case atStart => exact ⟨0, d.y - 1, S, F, by omega, by go_num, Lib.hid (by omega), by omega, by omega, Lib.hid (by simp [roundsTo]), hinv, hpar, hlt, HP, H2⟩
            case round =>
              clear hinv hpar H2 hiS hSl hlt hsn hsm hfn hfm
              obtain ⟨k, Y, T, FT, hk, rfl, HY, hy1, hy2, HT, hinv, hpar, hiT, HTI, H⟩ := hrel
              have hTl := hinv.len HG.out
              have hT0 : 0 < T.length := by omega
              obtain ⟨bs, os, cs, rfl, hsn, hsm, hbs⟩ := own_shape H.h0 hT0
              obtain ⟨bf, of, cf, rfl, hfn, hfm, hbf⟩ := own_shape H.h1 hT0
              obtain ⟨q0, q1⟩ := own_cell2 (l := keys T) (j := i) (u := d) H.h0 (by simp [keys, HTI.out])
              obtain ⟨wo2, hwo2⟩ : ∃ wo2 : World, wo2 = wr := ⟨_, rfl⟩
              subst hwo2
              by_cases hlk : k < 3
              · have hY3 : Y ≤ d.y + 1 := by have := HY.out; omega
                go_wp2
                clear q0 q1
                go_loopw [10, 11, 19] (fun s f xv wr => ∃ (j : Nat) (X : Int) (T : List (Cell × Cell)) (F : List Int), j ≤ 3 ∧ xv = .int .i64 X ∧ Hid (X = d.x + ((j : Int) - 1)) ∧ d.x - 1 ≤ X ∧ X ≤ d.x + 2 ∧ Hid (T = ((roundsTo d k ++ rowR d k j).filter (nr false d)).foldl (addN opn d) S) ∧ BInv opn T ∧ Par T F ∧ i < T.length ∧ Hid (T[i]? = some (d, pp)) ∧
                  Sep w wr [Res.row s 52 2 T.length (cc (keys T)), Res.row f 3 1 T.length (ic F), Res.box w.heap.size 27 #[.int .i64 r.w, .slice A r.rows.length c]]) (fun _ _ xv _ => (d.x + 2 - intOf xv).toNat)
                case atStart => exact ⟨0, d.x - 1, T, FT, by omega, by go_num, Lib.hid (by omega), by omega, by omega, Lib.hid (by rw [HT.out]; simp [rowR]), hinv, hpar, hiT, HTI, H⟩
                case round =>
                  clear hinv hpar H hiT hTl hT0 hsn hsm hbs hfn hfm hbf HTI
                  obtain ⟨j, X, T2, F2, hj, rfl, HX, hx1, hx2, HT2, hinv, hpar, hiT, HTI, H⟩ := hrel
                  have hTl := hinv.len HG.out
                  have hT0 : 0 < T2.length := by omega
                  obtain ⟨bs, os, cs, rfl, hsn, hsm, hbs⟩ := own_shape H.h0 hT0
                  obtain ⟨bf, of, cf, rfl, hfn, hfm, hbf⟩ := own_shape H.h1 hT0
                  obtain ⟨q0, q1⟩ := own_cell2 (l := keys T2) (j := i) (u := d) H.h0 (by simp [keys, HTI.out])
                  by_cases hlj : j < 3
                  · have hX3 : X ≤ d.x + 1 := by have := HX.out; omega
                    obtain ⟨dd, hdd⟩ : ∃ dd : Cell, dd = ⟨X, Y⟩ := ⟨_, rfl⟩
                    have hkeep : (mapAt T2 ⟨X, Y⟩ ≠ none ∨ opn ⟨X, Y⟩ = false ∨ nr false d ⟨X, Y⟩ = false) → T2 = ((roundsTo d k ++ rowR d k (j + 1)).filter (nr false d)).foldl (addN opn d) S := by
                      intro h
                      rw [rowR_succ, ← List.append_assoc, ← HX.out, ← HY.out, HT2.out]
                      exact (fold_keep ⟨X, Y⟩ (by rw [← HT2.out]; exact h)).symm
                    have hadd : mapAt T2 ⟨X, Y⟩ = none → opn ⟨X, Y⟩ = true → nr false d ⟨X, Y⟩ = true → T2 ++ [(⟨X, Y⟩, d)] = ((roundsTo d k ++ rowR d k (j + 1)).filter (nr false d)).foldl (addN opn d) S := by
                      intro h1 h2 h3
                      rw [rowR_succ, ← List.append_assoc, ← HX.out, ← HY.out, HT2.out]
                      have hne : (j == 1 && k == 1) = false := by
                        rw [Bool.eq_false_iff]
                        intro hc
                        simp at hc
                        have e1 := HX.out
                        have e2 := HY.out
                        rw [hc.1] at e1
                        rw [hc.2] at e2
                        have : (⟨X, Y⟩ : Cell) = d := Cell.ext (by simp; omega) (by simp; omega)
                        rw [this, mapAt_some hinv.nodup HTI.out] at h1
                        cases h1
                      exact (fold_add ⟨X, Y⟩ hne (by rw [← HT2.out]; exact h1) h2 h3).symm
                    have HK := Lib.hid hkeep
                    have HADD := Lib.hid hadd
                    clear hkeep hadd
                    clear dd hdd
                    have hout : ¬ (0 ≤ X ∧ X < r.w ∧ 0 ≤ Y ∧ Y < r.rows.length) → opn ⟨X, Y⟩ = false := fun h => by rw [HO.out, opnC, inB]; simp only [h, decide_false, Bool.false_and]
                    have HOUT := Lib.hid hout
                    have c0 := H.h2.cell 0
                    have c1 := H.h2.cell 1
                    simp at c0 c1
                    clear hout
                    by_cases hX0 : X < 0
                    · skip
                      go_wp2
                      go_roundw
                      case rel => exact ⟨j + 1, X + 1, T2, F2, by omega, by go_num, Lib.hid (by have := HX.out; omega), by omega, by omega, Lib.hid (HK.out (.inr (.inl (HOUT.out (by omega))))), hinv, hpar, hiT, HTI, H⟩
                      case measure => simp [intOf]; omega
                    by_cases hY0 : Y < 0
                    · skip
                      go_wp2
                      go_roundw
                      case rel => exact ⟨j + 1, X + 1, T2, F2, by omega, by go_num, Lib.hid (by have := HX.out; omega), by omega, by omega, Lib.hid (HK.out (.inr (.inl (HOUT.out (by omega))))), hinv, hpar, hiT, HTI, H⟩
                      case measure => simp [intOf]; omega
                    by_cases hXw : r.w ≤ X
                    · skip
                      go_wp2
                      go_roundw
                      case rel => exact ⟨j + 1, X + 1, T2, F2, by omega, by go_num, Lib.hid (by have := HX.out; omega), by omega, by omega, Lib.hid (HK.out (.inr (.inl (HOUT.out (by omega))))), hinv, hpar, hiT, HTI, H⟩
                      case measure => simp [intOf]; omega
                    by_cases hYh : (r.rows.length : Int) ≤ Y
                    · skip
                      go_wp2
                      go_roundw
                      case rel => exact ⟨j + 1, X + 1, T2, F2, by omega, by go_num, Lib.hid (by have := HX.out; omega), by omega, by omega, Lib.hid (HK.out (.inr (.inl (HOUT.out (by omega))))), hinv, hpar, hiT, HTI, H⟩
                      case measure => simp [intOf]; omega
                    go_wp2_with fail
                    clear q0 q1 c0 c1
                    refine (hasCell_c (l := keys T2) X Y wr (by have := H.oi.sr.more (Nat.zero_le _) (Nat.le_refl _); rw [← keys_length] at this; rw [← keys_length]; exact this) (by rw [keys_length]; omega)).mono ?_
                    rintro e w2 ⟨rfl, hb2⟩
                    have H2 := H.step hb2
                    clear hb2 H
                    cases hmm : decide ((⟨X, Y⟩ : Cell) ∈ keys T2)
                    · have hmn : mapAt T2 ⟨X, Y⟩ = none := mapAt_none.2 (of_decide_eq_false hmm)
                      have c0 := H2.h2.cell 0
                      have c1 := H2.h2.cell 1
                      simp at c0 c1
                      have HMN := Lib.hid hmn
                      clear hmm hmn
                      go_wp2_with fail
                      clear c0 c1
                      refine (spec_has_c (r := r) X Y w2 ⟨_, rfl, ((hs.keep (SameIn.of_below H2.below (Nat.le_refl _))).more (Nat.le_refl _) H2.size)⟩ HV.out).mono ?_
                      rintro e w3 ⟨rfl, hb3⟩
                      have H3 := H2.step hb3
                      clear hb3 H2
                      have hop : opn ⟨X, Y⟩ = (r.has X Y == true) := by rw [HO.out, opnC, inB]; simp; omega
                      cases ho : opn ⟨X, Y⟩
                      · have hh : r.has X Y = false := by rw [ho] at hop; simpa using hop.symm
                        rw [hh]
                        have HOF := Lib.hid ho
                        clear hh ho hop
                        go_wp2
                        go_roundw
                        case rel => exact ⟨j + 1, X + 1, T2, F2, by omega, by go_num, Lib.hid (by have := HX.out; omega), by omega, by omega, Lib.hid (HK.out (.inr (.inl HOF.out))), hinv, hpar, hiT, HTI, H3⟩
                        case measure => simp [intOf]; omega
                      · have hh : r.has X Y = true := by rw [ho] at hop; simpa using hop.symm
                        have hmn := HMN.out
                        rw [hh]
                        clear hop
                        have HH := Lib.hid hh
                        have HO2 := Lib.hid ho
                        have HM2 := Lib.hid hmn
                        obtain ⟨q0, q1⟩ := own_cell2 (l := keys T2) (j := i) (u := d) H3.h0 (by simp [keys, HTI.out])
                        have hn1 : -1 ≤ d.x - X := by omega
                        have hn2 : d.x - X ≤ 1 := by omega
                        have hn3 : -1 ≤ d.y - Y := by omega
                        have hn4 : d.y - Y ≤ 1 := by omega
                        clear hh ho hmn
                        go_wp2_with fail
                        clear q0 q1
                        refine (near_c d ⟨X, Y⟩ w3 hn1 hn2 hn3 hn4).mono ?_
                        rintro e w4 ⟨rfl, hb4⟩
                        have H4 := H3.step hb4
                        clear hb4 H3
                        cases hnr : nearB d ⟨X, Y⟩
                        · have HNR := Lib.hid hnr
                          clear hnr
                          go_wp2
                          go_roundw
                          case rel => exact ⟨j + 1, X + 1, T2, F2, by omega, by go_num, Lib.hid (by have := HX.out; omega), by omega, by omega, Lib.hid (HK.out (.inr (.inr (by simp [nr, HNR.out])))), hinv, hpar, hiT, HTI, H4⟩
                          case measure => simp [intOf]; omega
                        · have hnr : nr false d ⟨X, Y⟩ = true := by simp [nr, hnr]
                          have hh := HH.out
                          have ho := HO2.out
                          have hmn := HM2.out
                          have hnw := HADD.out hmn ho hnr
                          have hinv2 := hinv.snoc hmn ho (.inr ⟨i, pp, HTI.out⟩)
                          have hpar2 := hpar.snoc (c := ⟨X, Y⟩) (p := d) (f := (i : Int)) (.inr ⟨i, pp, rfl, hiT, HTI.out, fun e => by subst e; rw [mapAt_some hinv.nodup HTI.out] at hmn; cases hmn⟩)
                          have hTl2 := hinv2.len HG.out
                          simp only [List.length_append, List.length_cons, List.length_nil] at hTl2
                          have hti2 : (T2 ++ [((⟨X, Y⟩ : Cell), d)])[i]? = some (d, pp) := by rw [List.getElem?_append_left hiT]; exact HTI.out
                          have hFl : F2.length = T2.length := hpar.1
                          have HNW := Lib.hid hnw
                          have HTI2 := Lib.hid hti2
                          have HI2 := Lib.hid hinv2
                          have HP2 := Lib.hid hpar2
                          clear hnw hinv2 hpar2 hti2 hFl hmn ho hnr hh
                          go_wp2_with (at_builtin; first
                            | (refine wpList_append_own_at _ rfl _ _ 49 rfl 0 52 i0 _ 2 16 Tryd.underlying49 hi hz0 hz1 hz2 rfl (by decide) _ _ _ rfl (H4.alloc _).h0 ⟨w4.heap.size, 0, none⟩ 1 1 [.int .i64 X, .int .i64 Y] rfl rfl (news_alloc w4 #[.int .i64 X, .int .i64 Y] _) (by intro u hu; simp at hu; rcases hu with rfl | rfl <;> rfl) (by unfold maxLen; omega) (by omega) (Nat.zero_le _) ?_
                               intro s' w5 how hgrow _ hat
                               have H5 := (H4.alloc (.cells #[.int .i64 X, .int .i64 Y] 52)).app how hgrow hat
                               clear how hgrow hat H4)
                            | (refine wpList_append_own_at _ rfl _ _ 22 rfl 0 3 j0 _ 1 8 Tryd.underlying22 hj0 hy0 hy1' hy2' rfl (by decide) _ _ _ rfl (H5.alloc _).h1 ⟨w5.heap.size, 0, none⟩ 1 1 [.int .i64 (i : Int)] rfl rfl (news_alloc w5 #[.int .i64 (i : Int)] _) (by intro u hu; simp at hu; subst hu; rfl) (by unfold maxLen; omega) (by omega) (Nat.zero_le _) ?_
                               intro f' w6 how hgrow _ hat
                               have H6 := ((H5.alloc (.cells #[.int .i64 (i : Int)] 3)).g1.app how hgrow hat).p1
                               clear how hgrow hat H5))
                          have H7 : Sep w w6 [Res.row s' 52 2 (T2 ++ [((⟨X, Y⟩ : Cell), d)]).length (cc (keys (T2 ++ [((⟨X, Y⟩ : Cell), d)]))), Res.row f' 3 1 (T2 ++ [((⟨X, Y⟩ : Cell), d)]).length (ic (F2 ++ [(i : Int)])), Res.box w.heap.size 27 #[.int .i64 r.w, .slice A r.rows.length c]] := by
                            rw [keys_append, cc_append, ic_append, List.length_append]; exact H6
                          clear H6
                          go_roundw
                          case rel => exact ⟨j + 1, X + 1, _, _, by omega, by go_num, Lib.hid (by have := HX.out; omega), by omega, by omega, HNW, HI2.out, HP2.out, by simp; omega, HTI2, H7⟩
                          case measure => simp [intOf]; omega
                    · have hmn : mapAt T2 ⟨X, Y⟩ ≠ none := fun h => by have := mapAt_none.1 h; exact this (of_decide_eq_true hmm)
                      have HMN := Lib.hid hmn
                      clear hmm hmn
                      go_wp2
                      go_roundw
                      case rel => exact ⟨j + 1, X + 1, T2, F2, by omega, by go_num, Lib.hid (by have := HX.out; omega), by omega, by omega, Lib.hid (HK.out (.inl HMN.out)), hinv, hpar, hiT, HTI, H2⟩
                      case measure => simp [intOf]; omega
                  · have hX3 : ¬ X ≤ d.x + 1 := by have := HX.out; omega
                    go_wp2
                    go_roundw
                    case rel =>
                      obtain rfl : j = 3 := by omega
                      exact ⟨k + 1, Y + 1, T2, F2, by omega, by go_num, Lib.hid (by rw [HY.out]; omega), by omega, by omega, Lib.hid (by rw [HT2.out, roundsTo_succ]), hinv, hpar, hiT, HTI, H⟩
                    case measure => simp [intOf]; omega
              · have hY3 : ¬ Y ≤ d.y + 1 := by have := HY.out; omega
                go_wp2
                go_roundg (gk - 1)
                case measure => omega
                case rel =>
                  obtain rfl : k = 3 := by omega
                  exact ⟨i + 1, T, FT, by omega, by go_num, by omega, hinv, hpar, H, Lib.hid (by rw [show gk - 1 + 1 = gk by omega, HT.out]; exact HB2.out)⟩
          · have hRs : R = some (wayGo S S.length d [d]) := by
              have := HB.out
              rw [bfs, HP.out] at this
              simpa [hdn] using this.symm
            obtain ⟨way, hway⟩ : ∃ way, way = wayGo S S.length d [d] := ⟨_, rfl⟩
            rw [← hway] at hRs
            subst hRs
            have HW := Lib.hid hway
            have dd : (d.x == r.w - 1) = true := by simpa [doneC] using hdn
            have HINV := Lib.hid hinv
            have HPAR := Lib.hid hpar
            clear hway hdn HB hinv hpar
            go_wp2_with fail
            go_quiet (fail)
            have H2 := (H.drewN nq).rowBox 52 #[] 2 0 rfl (by decide)
            clear q0 q1 c0 dd H
            go_wp2
            generalize (wo.drewN nq).alloc (.cells #[] 52) = wB at *
            go_loopg [16, 17] S.length (fun gk2 ov kv wr => ∃ (out : List Cell) (gw cw : Nat), ov = .slice (some ⟨gw, 0, none⟩) out.length cw ∧ out.length + gk2 ≤ S.length ∧
              Sep w wr [Res.row ov 52 2 out.length (cc out), Res.row (.slice (some ⟨bs, os, none⟩) S.length cs) 52 2 S.length (cc (keys S)), Res.row (.slice (some ⟨bf, of, none⟩) S.length cf) 3 1 S.length (ic F), Res.box w.heap.size 27 #[.int .i64 r.w, .slice A r.rows.length c]] ∧
              ((kv = .int .i64 (-1) ∧ out = way) ∨ ∃ (j : Nat) (ci pj : Cell), kv = .int .i64 j ∧ S[j]? = some (ci, pj) ∧ j < gk2 ∧ wayGo S gk2 ci (ci :: out) = way))
            case atStart => exact ⟨[], _, _, rfl, by simp, H2, .inr ⟨i, d, pp, rfl, HP.out, hlt, HW.out.symm⟩⟩
            case round =>
              clear H2
              obtain ⟨out, gw, cw, rfl, hol, H, hk⟩ := hrel
              rcases hk with ⟨rfl, hway⟩ | ⟨j, ci, pj, rfl, hj, hjg, hwg⟩
              · subst hway
                go_wp2
                go_ret2
                exact ⟨_, rfl, CellsIn.mk H.oi.1 rfl rfl, H.below⟩
              · have hkj : (keys S)[j]? = some ci := by simp [keys, hj]
                obtain ⟨k0, k1⟩ := own_cell2 H.h1 hkj
                have hjS : j < S.length := (List.getElem?_eq_some_iff.1 hj).1
                obtain ⟨fj, hfj⟩ : ∃ fj, F[j]? = some fj := ⟨F[j]'(by rw [HPAR.out.1]; exact hjS), List.getElem?_eq_getElem _⟩
                have hma := mapAt_some HINV.out.nodup hj
                have hnext : (fj = -1 ∧ ci :: out = way) ∨ ∃ (j' : Nat) (pj' q : Cell), fj = (j' : Int) ∧ S[j']? = some (pj', q) ∧ j' < gk - 1 ∧ wayGo S (gk - 1) pj' (pj' :: ci :: out) = way := by
                  rw [show gk = (gk - 1) + 1 by omega, wayGo, hma] at hwg
                  rcases HPAR.out.2 j ci pj hj with ⟨h1, h2⟩ | ⟨k', q, h1, h2, h3, h4⟩
                  · rw [hfj] at h1
                    injection h1 with h1
                    exact .inl ⟨h1, by simpa [h2] using hwg⟩
                  · rw [hfj] at h1
                    injection h1 with h1
                    exact .inr ⟨k', pj, q, h1, h3, by omega, by simpa [h4] using hwg⟩
                have HN2 := Lib.hid hnext
                have ho1 : out.length + 1 ≤ 40 := by omega
                clear hkj hj hwg hma hnext
                have Hn := H.rowBox 52 #[.int .i64 ci.x, .int .i64 ci.y] 2 1 rfl (by decide)
                have hl2 := H.h0.1
                have hce := (H.alloc (.cells #[.int .i64 ci.x, .int .i64 ci.y] 52)).h0.cells (g := gw) rfl
                have HCE := Lib.hid hce
                have HFJ := Lib.hid hfj
                clear hce hfj
                go_wp2_with (at_builtin; refine wpList_append_own_at _ rfl _ _ 49 rfl 0 52 i0 _ 2 16 Tryd.underlying49 hi hz0 hz1 hz2 rfl (by decide) _ _ _ rfl Hn.h0 ⟨gw, 0, none⟩ out.length cw (cc out) rfl hl2 HCE.out cc_one (by unfold maxLen; omega) (by omega) (Nat.zero_le _) ?_; intro v' w3 how hgrow _ hat; have H3 := (Hn.app how hgrow hat).drop2; clear Hn how hgrow hat H; have kf := own_cell1 H3.h2 HFJ.out)
                have ho2 : (ci :: out).length = 1 + out.length := by simp; omega
                obtain ⟨gv, cv1, rfl, _, _, _⟩ := own_at H3.h0 (by omega)
                rcases HN2.out with ⟨rfl, hway⟩ | ⟨j', pj', q', rfl, hj', hj'g, hwg'⟩
                all_goals
                  go_wp2
                  go_roundg (gk - 1)
                  case measure => omega
                case rel => exact ⟨ci :: out, gv, cv1, by rw [ho2], by simp; omega, by rw [ho2]; exact H3, .inl ⟨rfl, hway⟩⟩
                case rel => exact ⟨ci :: out, gv, cv1, by rw [ho2], by simp; omega, by rw [ho2]; exact H3, .inr ⟨j', pj', q', rfl, hj', hj'g, hwg'⟩⟩
        · have hbn : R = none := by rw [← HB.out]; exact bfs_end (by omega)
          subst hbn
          obtain ⟨As, cs, rfl, hsn, hsm, hsr⟩ := Res.row_at H.h0
          clear hsr
          have H2 := H.rowBox 52 #[] 2 0 rfl (by decide)
          go_wp2
          go_ret2
          exact ⟨_, rfl, CellsIn.mk H2.oi.1 rfl rfl, H2.below⟩
end Go.Proofs.YtoccedebiacbiaaDoor

namespace Go.Proofs.YtoccedebiacbiaaDoor
open Go.RowKit

def colTo (n : Nat) : List Cell := (List.range n).map fun j : Nat => ⟨0, j⟩
theorem colTo_succ {n : Nat} : colTo (n + 1) = colTo n ++ [⟨0, n⟩] := by unfold colTo; rw [List.range_succ, List.map_append]; rfl
theorem colTo_length {n : Nat} : (colTo n).length = n := by simp [colTo]
theorem colTo_nodup {n : Nat} : (colTo n).Nodup := by
  induction n with
  | zero => simp [colTo]
  | succ n ih =>
    rw [colTo_succ, List.nodup_append]
    refine ⟨ih, by simp, fun a ha b hb => ?_⟩
    simp [colTo] at ha hb
    obtain ⟨m, hm, rfl⟩ := ha
    subst hb
    intro e
    injection e with _ e
    omega
def Reg.opn (r : Reg) (c : Cell) : Bool := r.has c.x c.y
def Reg.far (r : Reg) (c : Cell) : Bool := c.x == r.w - 1
def Reg.spanWay (r : Reg) : Option (List Cell) := if r.valid then bfs sidesL r.opn r.far 37 (roots r.opn (colTo r.rows.length)) 0 else none
theorem Reg.opn_near {r : Reg} (hv : r.Valid) {c : Cell} (h : r.opn c = true) : Near c := by
  have h1 := hv.2.1
  have h2 := hv.2.2.2.1
  unfold Reg.opn at h
  by_cases hc : 0 ≤ c.x ∧ c.x < r.w ∧ 0 ≤ c.y ∧ c.y < r.rows.length
  · unfold Near; omega
  · rw [Reg.has_out hc] at h; cases h

set_option maxRecDepth 100000 in
set_option maxHeartbeats 3200000 in
theorem impl_spanway_c {v : Value} {r : Reg} (w : World) (h : RegRd w 0 w.heap.size v r) :
    Calls Tryd.prog 57 #[v] w fun en w' => ∃ v', en = .returned (.tuple #[v', .bool r.spanWay.isSome]) ∧ CellsIn w' w.heap.size w'.heap.size v' (r.spanWay.getD []) ∧ Below w.heap.size w w' := by
  obtain ⟨s, rfl, hs⟩ := h
  obtain ⟨A, c, rfl, hm, hr⟩ := id hs
  obtain ⟨i0, hi, hz0, hz1, hz2⟩ := info_parts infoCell
  obtain ⟨R, hR⟩ : ∃ R, R = r.spanWay := ⟨_, rfl⟩
  rw [← hR]
  have hbel : Below w.heap.size w (w.alloc (.cells #[.int .i64 r.w, .slice A r.rows.length c] 27)) := (Below.refl _ _).alloc (Nat.le_refl _) _
  have BX : Blk (w.alloc (.cells #[.int .i64 r.w, .slice A r.rows.length c] 27)) w.heap.size 27 #[.int .i64 r.w, .slice A r.rows.length c] := Blk.new _ _ _
  have HZ : w.heap.size + 1 ≤ (w.alloc (.cells #[.int .i64 r.w, .slice A r.rows.length c] 27)).heap.size := by simp
  go_enter Tryd.func57, Tryd.ntmps57
  go_wp2_with fail
  generalize w.alloc (.cells #[.int .i64 r.w, .slice A r.rows.length c] 27) = W at *
  refine (impl_IsRegion_c (r := r) _ ⟨_, rfl, ((hs.keep (SameIn.of_below hbel (Nat.le_refl _))).more (Nat.le_refl _) (by omega))⟩).mono ?_
  rintro en w1 ⟨rfl, hb1⟩
  have hbel1 := hbel.trans (hb1.mono (by omega))
  have BX1 := BX.below hb1 (by omega)
  have hz1' := hb1.size
  clear hbel BX hb1
  cases hq : r.valid
  · have hn : R = none := by rw [hR, Reg.spanWay, hq]; rfl
    subst hn
    clear hR
    go_wp2
    go_ret2
    exact ⟨_, rfl, CellsIn.nil, hbel1⟩
  · have hv : r.Valid := Reg.valid_iff.1 hq
    have hR2 : R = bfs sidesL r.opn r.far 37 (roots r.opn (colTo r.rows.length)) 0 := by rw [hR, Reg.spanWay, hq]; rfl
    have HR := Lib.hid hR2
    have HV := Lib.hid hv
    have hv4 := hv.2.2.2.1
    have c1 := BX1.cell 1
    simp at c1
    clear hR hR2 hv hq hr
    go_wp2
    clear c1
    go_loopw [4, 12] (fun o i wr => ∃ k : Nat, k ≤ r.rows.length ∧ i = .int .i64 k ∧ wr.ownsRow (w.heap.size + 1) 52 2 o (colTo k).length (cc (colTo k)) ∧ Below (w.heap.size + 1) w1 wr) (fun _ i _ => r.rows.length - (intOf i).toNat)
    case atStart => exact ⟨0, Nat.zero_le _, rfl, World.ownsRow_nil _ _ _ _, Below.refl _ _⟩
    case round =>
      obtain ⟨k, hk, rfl, hown, hbr⟩ := hrel
      have hsz := hbr.size
      by_cases hlt : k < r.rows.length
      · have hcl : (colTo k).length = k := colTo_length
        have hsz1 := hz1'
        go_wp2_with (at_builtin; refine wpList_append_own _ rfl _ _ 49 rfl (w.heap.size + 1) 52 i0 _ 2 16 Tryd.underlying49 hi hz0 hz1 hz2 rfl (by decide) _ _ _ rfl (hown.alloc _) ⟨wr.heap.size, 0, none⟩ 1 1 [.int .i64 0, .int .i64 (k : Int)] rfl rfl (news_alloc wr #[.int .i64 0, .int .i64 (k : Int)] _) (by intro u hu; simp at hu; rcases hu with rfl | rfl <;> rfl) (by unfold maxLen; omega) (by omega) (by simp; omega) ?_; intro v' w3 hown3 hgrow _)
        have hbr3 := (hbr.alloc (by omega) (.cells #[.int .i64 0, .int .i64 (k : Int)] 52)).grown hgrow (by simp; omega) (fun q hq => by have := (hown.lt q hq).1; omega)
        have hown4 : w3.ownsRow (w.heap.size + 1) 52 2 v' (colTo (k + 1)).length (cc (colTo (k + 1))) := by
          rw [colTo_succ, cc_append, List.length_append]
          exact hown3
        clear hown3 hgrow hown
        go_wp2
        go_roundw
        case rel => exact ⟨k + 1, by omega, by go_num, hown4, hbr3⟩
        case measure => simp [intOf]; omega
      · have hkn : k = r.rows.length := by omega
        subst hkn
        have hst := (CellsIn.mk hown rfl rfl).rd.more (Nat.zero_le _) (Nat.le_refl _)
        have hbw := hbel1.trans (hbr.mono (by omega))
        have BXr := BX1.below hbr (by omega)
        clear hown
        go_wp2_with fail
        refine (spanFrom sidesL r.opn r.far w.heap.size wr r.cells hst colTo_nodup (Reg.cells_le HV.out) (fun c h => Reg.cells_mem.2 h) (fun c h => Reg.opn_near HV.out h) (fun c => by simp [sidesL]) (by rw [colTo_length]; exact hv4)
          (fun c W hn => sides_c c W hn)
          (fun c W hb => span1_c c W (BXr.below hb BXr.lt) ((hs.keep (SameIn.of_below (hbw.trans (hb.mono hbw.size)) (Nat.le_refl _)))) (by have := hb.size; have := hbw.size; omega) HV.out)
          (fun c W hb => span2_c c W (BXr.below hb BXr.lt) HV.out)).mono ?_
        rintro en w2 ⟨vv, rfl, ov, hb2⟩
        rw [← HR.out] at ov ⊢
        have hbw2 := hbw.trans (hb2.mono hbw.size)
        have ov2 : CellsIn w2 w.heap.size w2.heap.size vv (R.getD []) := ⟨own_more ov.1 hbw.size, ov.2⟩
        clear ov hb2 hbr BXr hst hbw
        go_wp2
        go_ret2
        exact ⟨_, rfl, ov2, hbw2⟩

set_option maxRecDepth 100000 in
theorem impl_isspanning_c {v : Value} {r : Reg} (w : World) (h : RegRd w 0 w.heap.size v r) :
    Calls Tryd.prog 33 #[v] w fun en w' => en = .returned (.bool r.spanWay.isSome) ∧ Below w.heap.size w w' := by
  obtain ⟨s, rfl, hs⟩ := h
  have hbel : Below w.heap.size w (w.alloc (.cells #[.int .i64 r.w, s] 27)) := (Below.refl _ _).alloc (Nat.le_refl _) _
  have BX : Blk (w.alloc (.cells #[.int .i64 r.w, s] 27)) w.heap.size 27 #[.int .i64 r.w, s] := Blk.new _ _ _
  have HZ : w.heap.size + 1 ≤ (w.alloc (.cells #[.int .i64 r.w, s] 27)).heap.size := by simp
  go_enter Tryd.func33, Tryd.ntmps33
  go_wp2_with fail
  generalize w.alloc (.cells #[.int .i64 r.w, s] 27) = W at *
  refine (impl_spanway_c (r := r) _ ⟨_, rfl, ((hs.keep (SameIn.of_below hbel (Nat.le_refl _))).more (Nat.le_refl _) (by omega))⟩).mono ?_
  rintro en w1 ⟨vv, rfl, ov, hb1⟩
  have hbel1 := hbel.trans (hb1.mono (by omega))
  clear hbel BX hb1 ov
  go_wp2
  go_ret
  exact ⟨rfl, hbel1⟩
end Go.Proofs.YtoccedebiacbiaaDoor

namespace Go.Proofs.YtoccedebiacbiaaDoor
open Go.RowKit

theorem roundsL_eq (c : Cell) : roundsL c = [⟨c.x - 1, c.y - 1⟩, ⟨c.x, c.y - 1⟩, ⟨c.x + 1, c.y - 1⟩, ⟨c.x - 1, c.y⟩, ⟨c.x + 1, c.y⟩, ⟨c.x - 1, c.y + 1⟩, ⟨c.x, c.y + 1⟩, ⟨c.x + 1, c.y + 1⟩] := by
  simp only [roundsL, roundsTo, rowR, List.range, List.range.loop, List.flatMap_cons, List.flatMap_nil, List.append_nil]
  simp
  omega
theorem nearB_mk (c : Cell) (a b : Int) : nearB c ⟨c.x + a, c.y + b⟩ = (a * a + b * b == 1) := by
  have h1 : c.x - (c.x + a) = -a := by omega
  have h2 : c.y - (c.y + b) = -b := by omega
  simp only [nearB, h1, h2, Int.neg_mul_neg]
theorem aroundC_false (c : Cell) : aroundC false c = sidesL c := by
  have h : ∀ a b : Int, nr false c ⟨c.x + a, c.y + b⟩ = (a * a + b * b == 1) := fun a b => by simp [nr, nearB_mk]
  have e : roundsL c = [⟨c.x + -1, c.y + -1⟩, ⟨c.x + 0, c.y + -1⟩, ⟨c.x + 1, c.y + -1⟩, ⟨c.x + -1, c.y + 0⟩, ⟨c.x + 1, c.y + 0⟩, ⟨c.x + -1, c.y + 1⟩, ⟨c.x + 0, c.y + 1⟩, ⟨c.x + 1, c.y + 1⟩] := by
    rw [roundsL_eq]; simp [Int.sub_eq_add_neg]
  unfold aroundC
  rw [e]
  simp only [List.filter_cons, h, List.filter_nil]
  simp [sidesL, Int.sub_eq_add_neg]
theorem aroundC_true (c : Cell) : aroundC true c = roundsL c := by
  unfold aroundC
  rw [List.filter_eq_self]
  intro a _
  simp [nr]
theorem opnC_true {r : Reg} : opnC r true = r.opn := by
  funext c
  unfold opnC Reg.opn inB
  by_cases h : 0 ≤ c.x ∧ c.x < r.w ∧ 0 ≤ c.y ∧ c.y < r.rows.length
  · simp only [h]; simp
  · simp only [h, decide_false, Reg.has_out h]; simp
theorem wayC_span {r : Reg} (hv : r.valid = true) : wayC r true false false = r.spanWay := by
  have e1 : aroundC false = sidesL := funext aroundC_false
  have e2 : doneC r false = r.far := by funext c; simp [doneC, Reg.far]
  have e3 : startC false (sideC r false) = colTo r.rows.length := by simp [startC, sideC, colTo]
  unfold wayC Reg.spanWay
  rw [e1, e2, opnC_true, e3, hv]
  rfl

set_option maxRecDepth 100000 in
set_option maxHeartbeats 1600000 in
theorem spec_spanway_c {v : Value} {r : Reg} (w : World) (h : RegRd w 0 w.heap.size v r) :
    Calls Tryd.prog 43 #[v] w fun en w' => ∃ v', en = .returned (.tuple #[v', .bool r.spanWay.isSome]) ∧ CellsIn w' w.heap.size w'.heap.size v' (r.spanWay.getD []) ∧ Below w.heap.size w w' := by
  obtain ⟨s, rfl, hs⟩ := h
  obtain ⟨R, hR⟩ : ∃ R, R = r.spanWay := ⟨_, rfl⟩
  rw [← hR]
  have H := (Sep.start w).box 27 #[.int .i64 r.w, s]
  have HR := Lib.hid hR
  clear hR
  go_enter Tryd.func43, Tryd.ntmps43
  go_wp2_with fail
  generalize w.alloc (.cells #[.int .i64 r.w, s] 27) = W at *
  refine (spec_IsRegion_c (r := r) W ⟨s, rfl, ((hs.keep (SameIn.of_below H.below (Nat.le_refl _))).more (Nat.le_refl _) H.size)⟩).mono ?_
  rintro e w1 ⟨rfl, hb1⟩
  have H1 := H.step hb1
  clear hb1 H
  cases hq : r.valid
  · have hn : R = none := by rw [HR.out, Reg.spanWay, hq]; rfl
    subst hn
    have H2 := H1.rowBox 52 #[] 2 0 rfl (by decide)
    clear hq H1
    go_wp2
    go_ret2
    exact ⟨_, rfl, CellsIn.mk H2.oi.1 rfl rfl, H2.below⟩
  · have hv : r.Valid := Reg.valid_iff.1 hq
    have hw := wayC_span hq
    rw [← HR.out] at hw
    have HW := Lib.hid hw
    have c0 := H1.h0.cell 0
    have c1 := H1.h0.cell 1
    simp at c0 c1
    clear hw hq
    go_wp2_with fail
    clear c0 c1
    refine (l30_span (r := r) w1 ⟨s, rfl, ((hs.keep (SameIn.of_below H1.below (Nat.le_refl _))).more (Nat.le_refl _) H1.size)⟩ hv).mono ?_
    rintro e w2 ⟨v2, rfl, ov, hb2⟩
    rw [HW.out] at ov ⊢
    have ov2 : CellsIn w2 w.heap.size w2.heap.size v2 (R.getD []) := ⟨own_more ov.1 H1.size, ov.2⟩
    have H2 := H1.step hb2
    clear hb2 ov H1
    go_wp2
    go_ret2
    exact ⟨_, rfl, ov2, H2.below⟩

set_option maxRecDepth 100000 in
theorem spec_isspanning_c {v : Value} {r : Reg} (w : World) (h : RegRd w 0 w.heap.size v r) :
    Calls Tryd.prog 20 #[v] w fun en w' => en = .returned (.bool r.spanWay.isSome) ∧ Below w.heap.size w w' := by
  obtain ⟨s, rfl, hs⟩ := h
  have hbel : Below w.heap.size w (w.alloc (.cells #[.int .i64 r.w, s] 27)) := (Below.refl _ _).alloc (Nat.le_refl _) _
  have BX : Blk (w.alloc (.cells #[.int .i64 r.w, s] 27)) w.heap.size 27 #[.int .i64 r.w, s] := Blk.new _ _ _
  have HZ : w.heap.size + 1 ≤ (w.alloc (.cells #[.int .i64 r.w, s] 27)).heap.size := by simp
  go_enter Tryd.func20, Tryd.ntmps20
  go_wp2_with fail
  generalize w.alloc (.cells #[.int .i64 r.w, s] 27) = W at *
  refine (spec_spanway_c (r := r) _ ⟨_, rfl, ((hs.keep (SameIn.of_below hbel (Nat.le_refl _))).more (Nat.le_refl _) (by omega))⟩).mono ?_
  rintro en w1 ⟨vv, rfl, ov, hb1⟩
  have hbel1 := hbel.trans (hb1.mono (by omega))
  clear hbel BX hb1 ov
  go_wp2
  go_ret
  exact ⟨rfl, hbel1⟩
end Go.Proofs.YtoccedebiacbiaaDoor
