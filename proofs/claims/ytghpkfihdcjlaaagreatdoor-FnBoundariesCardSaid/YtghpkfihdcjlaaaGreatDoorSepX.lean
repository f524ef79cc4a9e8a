
/-
  What a walk owns, as one list of things apart from each other: rows, boxes, queues. No program in sight. append onto a row that a walk owns, whatever the source: nil, read, or new. No program in sight. A region that draws its order, whose operations read old memory and call functions that make memory and hand back plain values: one walk. No program in sight.
-/
import Derived.Test.YtghpkfihdcjlaaaGreatDoorKinds
import Derived.Test.YtghpkfihdcjlaaaGreatDoorQueue
import Derived.Laws.AppendOwnNone
import Derived.Deep.Quiet
namespace Go.Proofs.YtghpkfihdcjlaaaGreatDoor
open Go.RowKit

/-- a thing in memory: the blocks that it takes, what it says -/
structure Res where
  dom : Nat → Prop
  holds : World → Prop
  loc : ∀ {w w' : World}, (∀ b, dom b → w'.heap[b]? = w.heap[b]?) → holds w → holds w'
  inn : ∀ {w : World} {b : Nat}, holds w → dom b → b < w.heap.size

theorem own_keep {w w' : World} {base sz n : Nat} {e : TypeId} {v : Value} {xs : List Value} (h : w.ownsRow base e sz v n xs) (hs : ∀ b, v.ownBlock = some b → w'.heap[b]? = w.heap[b]?) : w'.ownsRow base e sz v n xs := by
  refine ⟨h.1, ?_⟩
  rcases h.2 with hn | ⟨g, cap, cur, rfl, hbg, hgg, rest⟩
  · exact .inl hn
  · exact .inr ⟨g, cap, cur, rfl, hbg, (hs g (by simp [Value.ownBlock])).trans hgg, rest⟩

/-- a row of elements that may grow -/
def Res.row (v : Value) (e : TypeId) (sz n : Nat) (xs : List Value) : Res := ⟨fun b => v.ownBlock = some b, fun w => w.ownsRow 0 e sz v n xs, fun hs h => own_keep h hs, fun h hb => own_lt h _ hb⟩
/-- a variable's block, known whole -/
def Res.box (g : Nat) (t : TypeId) (cs : Array Value) : Res := ⟨fun b => b = g, fun w => Blk w g t cs, fun hs h => (hs g rfl).trans h, fun h hb => by subst hb; exact Blk.lt h⟩
/-- a queue -/
def Res.que (v : Value) (e : TypeId) (sz n : Nat) (xs : List Value) : Res := ⟨fun b => v.ownBlock = some b, fun w => QI w 0 e sz v n xs, fun hs h => h.keep hs, fun h hb => (h.lt _ hb).2⟩
/-- an object, known whole -/
def Res.obj (g : Nat) (o : Obj) : Res := ⟨fun b => b = g, fun w => w.heap[g]? = some o, fun hs h => (hs g rfl).trans h, fun h hb => by subst hb; exact (Array.getElem?_eq_some_iff.1 h).1⟩

/-- w came from w0, whose blocks are as they were; the things of the list lie in new blocks, apart from each other -/
def Sep (w0 w : World) : List Res → Prop
  | [] => Below w0.heap.size w0 w
  | r :: L => r.holds w ∧ (∀ b, r.dom b → w0.heap.size ≤ b) ∧ (∀ q ∈ L, ∀ b, r.dom b → ¬ q.dom b) ∧ Sep w0 w L

/-- only blocks of D may have turned, and there may be new ones -/
structure Only (D : Nat → Prop) (w w' : World) : Prop where
  os : w'.os = w.os
  tape : w'.tape = w.tape
  output : w'.output = w.output
  size : w.heap.size ≤ w'.heap.size
  block : ∀ b, b < w.heap.size → ¬ D b → w'.heap[b]? = w.heap[b]?
theorem Only.of_grown {w w' : World} {row : Option Nat} (h : w.grownBy w' row) : Only (fun b => row = some b) w w' := ⟨h.os, h.tape, h.output, h.size, fun b hb hd => h.block b hb (fun e => hd e.symm)⟩
theorem Only.of_below {D : Nat → Prop} {w w' : World} (h : Below w.heap.size w w') : Only D w w' := ⟨h.os, h.tape, h.output, h.size, fun b hb _ => h.block b hb⟩
theorem Only.setCell {g : Nat} (w : World) (i : Nat) (u : Value) : Only (fun b => b = g) w (w.setCell ⟨g, i, none⟩ u) := ⟨rfl, rfl, rfl, by simp [World.setCell], fun b _ hd => Below.heap_setCell w ⟨g, i, none⟩ u b hd⟩

section
variable {w0 w w' : World} {r r' a b c d f g : Res} {L : List Res}
theorem Sep.start (w : World) : Sep w w [] := Below.refl _ _
theorem Sep.below : ∀ {L : List Res}, Sep w0 w L → Below w0.heap.size w0 w
  | [], h => h
  | _ :: _, h => Sep.below h.2.2.2
theorem Sep.size (h : Sep w0 w L) : w0.heap.size ≤ w.heap.size := h.below.size
theorem Sep.inn : ∀ {_L : List Res}, Sep w0 w _L → ∀ r ∈ _L, r.holds w ∧ ∀ b, r.dom b → w0.heap.size ≤ b
  | _ :: _, h, r, hr => by
    rcases List.mem_cons.1 hr with rfl | hr
    · exact ⟨h.1, h.2.1⟩
    · exact Sep.inn h.2.2.2 r hr
/-- what turns only blocks of D, apart from all -/
theorem Sep.only {D : Nat → Prop} (hg : Only D w w') : ∀ {_L : List Res}, Sep w0 w _L → (∀ b, D b → b < w0.heap.size → False) → (∀ q ∈ _L, ∀ b, D b → ¬ q.dom b) → Sep w0 w' _L
  | [], h, h0, _ => ⟨hg.os.trans h.os, hg.tape.trans h.tape, hg.output.trans h.output, Nat.le_trans h.size hg.size, fun b hb => (hg.block b (Nat.lt_of_lt_of_le hb h.size) (fun hd => h0 b hd hb)).trans (h.block b hb)⟩
  | q :: _, h, h0, hq => ⟨q.loc (fun b hb => hg.block b (q.inn h.1 hb) (fun hd => hq q List.mem_cons_self b hd hb)) h.1, h.2.1, h.2.2.1, Sep.only hg h.2.2.2 h0 fun q' hq' => hq q' (List.mem_cons_of_mem _ hq')⟩
theorem Sep.step (h : Sep w0 w L) (hb : Below w.heap.size w w') : Sep w0 w' L := Sep.only (D := fun _ => False) (Only.of_below hb) h (fun _ h => h.elim) (fun _ _ _ h => h.elim)
theorem Sep.alloc (h : Sep w0 w L) (o : Obj) : Sep w0 (w.alloc o) L := h.step ((Below.refl _ _).alloc (Nat.le_refl _) o)
theorem Sep.drew (h : Sep w0 w L) : Sep w0 w.drew L := h.step (below_drew (Below.refl _ _))
theorem Sep.drewN (h : Sep w0 w L) (n : Nat) : Sep w0 (w.drewN n) L := h.step (below_drewN (Below.refl _ _) n)
/-- a new thing -/
theorem Sep.new (h : Sep w0 w L) (hb : Below w.heap.size w w') (hr : r.holds w') (hd : ∀ b, r.dom b → w.heap.size ≤ b) : Sep w0 w' (r :: L) :=
  ⟨hr, fun b hb' => Nat.le_trans h.size (hd b hb'), fun q hq b hb' hq' => by have := q.inn (h.inn q hq).1 hq'; have := hd b hb'; omega, h.step hb⟩
theorem Sep.box (h : Sep w0 w L) (t : TypeId) (cs : Array Value) : Sep w0 (w.alloc (.cells cs t)) (Res.box w.heap.size t cs :: L) :=
  h.new ((Below.refl _ _).alloc (Nat.le_refl _) _) (Blk.new w t cs) (fun b hb => by have hb : b = w.heap.size := hb; omega)
theorem Sep.nil (h : Sep w0 w L) (e : TypeId) (sz : Nat) : Sep w0 w (Res.row (.slice none 0 0) e sz 0 [] :: L) :=
  h.new (Below.refl _ _) (World.ownsRow_nil _ _ _ _) (fun b hb => by have hb : (Value.slice none 0 0).ownBlock = some b := hb; simp [Value.ownBlock] at hb)
theorem Sep.rowBox (h : Sep w0 w L) (t : TypeId) (cs : Array Value) (sz n : Nat) (hs : cs.size = n * sz) (hm : n ≤ maxLen) : Sep w0 (w.alloc (.cells cs t)) (Res.row (.slice (some ⟨w.heap.size, 0, none⟩) n n) t sz n cs.toList :: L) :=
  h.new ((Below.refl _ _).alloc (Nat.le_refl _) _) (own_of_blk (Blk.new w t cs) (Nat.zero_le _) hs (xs := cs.toList) (by rw [← hs, ← Array.length_toList, List.take_length]) hm) (fun b hb => by have hb : some w.heap.size = some b := hb; injection hb with hb; omega)
theorem Sep.drop (h : Sep w0 w (a :: L)) : Sep w0 w L := h.2.2.2
theorem Sep.drop2 (h : Sep w0 w (a :: b :: L)) : Sep w0 w (a :: L) := ⟨h.1, h.2.1, fun q hq => h.2.2.1 q (by simp [hq]), h.drop.drop⟩
/-- the first thing turns -/
theorem Sep.turn (h : Sep w0 w (r :: L)) (hg : Only r.dom w w') (hr : r'.holds w') (hd : ∀ b, r'.dom b → r.dom b ∨ w.heap.size ≤ b) : Sep w0 w' (r' :: L) := by
  have h' := Sep.only hg h.drop (fun b hb hlt => by have := h.2.1 b hb; omega) (fun q hq b hb => h.2.2.1 q hq b hb)
  refine ⟨hr, fun b hb => ?_, fun q hq b hb hq' => ?_, h'⟩
  · rcases hd b hb with hb | hb
    · exact h.2.1 b hb
    · exact Nat.le_trans h.size hb
  · rcases hd b hb with hb | hb
    · exact h.2.2.1 q hq b hb hq'
    · have := q.inn (h.drop.inn q hq).1 hq'; omega
/-- a thing stays, and says something else -/
theorem Sep.say (h : Sep w0 w (r :: L)) (hr : r.holds w → r'.holds w) (hd : ∀ b, r'.dom b → r.dom b) : Sep w0 w (r' :: L) := h.turn ⟨rfl, rfl, rfl, Nat.le_refl _, fun _ _ _ => rfl⟩ (hr h.1) (fun b hb => .inl (hd b hb))
theorem Sep.sw1 (h : Sep w0 w (a :: b :: L)) : Sep w0 w (b :: a :: L) :=
  ⟨h.drop.1, h.drop.2.1, fun q hq x hx hq' => by
    rcases List.mem_cons.1 hq with rfl | hq
    · exact h.2.2.1 b (by simp) x hq' hx
    · exact h.drop.2.2.1 q hq x hx hq', h.1, h.2.1, fun q hq => h.2.2.1 q (by simp [hq]), h.drop.drop⟩
theorem Sep.onTail {L' : List Res} (h : Sep w0 w (a :: L)) (hp : ∀ q ∈ L', q ∈ L) (k : Sep w0 w L') : Sep w0 w (a :: L') := ⟨h.1, h.2.1, fun q hq => h.2.2.1 q (hp q hq), k⟩
theorem Sep.g1 (h : Sep w0 w (a :: b :: L)) : Sep w0 w (b :: a :: L) := h.sw1
theorem Sep.p1 (h : Sep w0 w (b :: a :: L)) : Sep w0 w (a :: b :: L) := h.sw1
theorem Sep.g2 (h : Sep w0 w (a :: b :: c :: L)) : Sep w0 w (c :: a :: b :: L) := (h.onTail (L' := c :: b :: L) (by intro q; simp only [List.mem_cons]; grind) h.drop.sw1).sw1
theorem Sep.p2 (h : Sep w0 w (c :: a :: b :: L)) : Sep w0 w (a :: b :: c :: L) := h.sw1.onTail (L' := b :: c :: L) (by intro q; simp only [List.mem_cons]; grind) h.sw1.drop.sw1
theorem Sep.g3 (h : Sep w0 w (a :: b :: c :: d :: L)) : Sep w0 w (d :: a :: b :: c :: L) := (h.onTail (L' := d :: b :: c :: L) (by intro q; simp only [List.mem_cons]; grind) h.drop.g2).sw1
theorem Sep.p3 (h : Sep w0 w (d :: a :: b :: c :: L)) : Sep w0 w (a :: b :: c :: d :: L) := h.sw1.onTail (L' := b :: c :: d :: L) (by intro q; simp only [List.mem_cons]; grind) h.sw1.drop.p2
theorem Sep.g4 (h : Sep w0 w (a :: b :: c :: d :: f :: L)) : Sep w0 w (f :: a :: b :: c :: d :: L) := (h.onTail (L' := f :: b :: c :: d :: L) (by intro q; simp only [List.mem_cons]; grind) h.drop.g3).sw1
theorem Sep.p4 (h : Sep w0 w (f :: a :: b :: c :: d :: L)) : Sep w0 w (a :: b :: c :: d :: f :: L) := h.sw1.onTail (L' := b :: c :: d :: f :: L) (by intro q; simp only [List.mem_cons]; grind) h.sw1.drop.p3
theorem Sep.g5 (h : Sep w0 w (a :: b :: c :: d :: f :: g :: L)) : Sep w0 w (g :: a :: b :: c :: d :: f :: L) := (h.onTail (L' := g :: b :: c :: d :: f :: L) (by intro q; simp only [List.mem_cons]; grind) h.drop.g4).sw1
theorem Sep.p5 (h : Sep w0 w (g :: a :: b :: c :: d :: f :: L)) : Sep w0 w (a :: b :: c :: d :: f :: g :: L) := h.sw1.onTail (L' := b :: c :: d :: f :: g :: L) (by intro q; simp only [List.mem_cons]; grind) h.sw1.drop.p4
theorem Sep.h0 (h : Sep w0 w (a :: L)) : a.holds w := h.1
theorem Sep.h1 (h : Sep w0 w (a :: b :: L)) : b.holds w := h.drop.1
theorem Sep.h2 (h : Sep w0 w (a :: b :: c :: L)) : c.holds w := h.drop.drop.1
theorem Sep.h3 (h : Sep w0 w (a :: b :: c :: d :: L)) : d.holds w := h.drop.drop.drop.1
theorem Sep.h4 (h : Sep w0 w (a :: b :: c :: d :: f :: L)) : f.holds w := h.drop.drop.drop.drop.1
theorem Sep.h5 (h : Sep w0 w (a :: b :: c :: d :: f :: g :: L)) : g.holds w := h.drop.drop.drop.drop.drop.1
/-- a row, behind an append onto it -/
theorem Sep.app {v v' : Value} {e : TypeId} {sz n n' : Nat} {xs xs' : List Value} (h : Sep w0 w (Res.row v e sz n xs :: L)) (hown : w'.ownsRow 0 e sz v' n' xs') (hg : w.grownBy w' v.ownBlock) (hat : v'.ownBlock = v.ownBlock ∨ v'.ownBlock = some w.heap.size) :
    Sep w0 w' (Res.row v' e sz n' xs' :: L) :=
  h.turn (Only.of_grown hg) hown fun b hb => by
    have hb : v'.ownBlock = some b := hb
    rcases hat with q | q <;> rw [q] at hb
    · exact .inl hb
    · injection hb with hb; exact .inr (by omega)
theorem Sep.appQ {v v' : Value} {e : TypeId} {sz n n' : Nat} {xs xs' : List Value} (h : Sep w0 w (Res.que v e sz n xs :: L)) (hown : QI w' 0 e sz v' n' xs') (hg : w.grownBy w' v.ownBlock) (hat : v'.ownBlock = v.ownBlock ∨ v'.ownBlock = some w.heap.size) :
    Sep w0 w' (Res.que v' e sz n' xs' :: L) :=
  h.turn (Only.of_grown hg) hown fun b hb => by
    have hb : v'.ownBlock = some b := hb
    rcases hat with q | q <;> rw [q] at hb
    · exact .inl hb
    · injection hb with hb; exact .inr (by omega)
/-- a cell of a box is written -/
theorem Sep.set_ {g : Nat} {t : TypeId} {cs : Array Value} (h : Sep w0 w (Res.box g t cs :: L)) (i : Nat) (u : Value) : Sep w0 (w.setCell ⟨g, i, none⟩ u) (Res.box g t (cs.setIfInBounds i u) :: L) :=
  h.turn (Only.setCell w i u) (Blk.set_ h.1 i u) fun _ hb => .inl hb
/-- at the end: the row is the call's own -/
theorem Sep.oi {v : Value} {e : TypeId} {sz n : Nat} {xs : List Value} (h : Sep w0 w (Res.row v e sz n xs :: L)) : OI w w0.heap.size w.heap.size e sz v n xs := by
  have h1 : w.ownsRow 0 e sz v n xs := h.1
  refine ⟨⟨h1.1, ?_⟩, fun k hk => own_lt h1 k hk⟩
  rcases h1.2 with hn | ⟨g, cap, cur, rfl, hbg, rest⟩
  · exact .inl hn
  · exact .inr ⟨g, cap, cur, rfl, h.2.1 g (by simp [Res.row, Value.ownBlock]), rest⟩
theorem Sep.own {v : Value} {e : TypeId} {sz n : Nat} {xs : List Value} (h : Sep w0 w (Res.row v e sz n xs :: L)) : w.ownsRow 0 e sz v n xs := h.1
/-- a call's own result comes in -/
theorem Sep.oiNew {v : Value} {e : TypeId} {sz n : Nat} {xs : List Value} (h : Sep w0 w L) (hb : Below w.heap.size w w') (ho : OI w' w.heap.size w'.heap.size e sz v n xs) : Sep w0 w' (Res.row v e sz n xs :: L) :=
  h.new hb (own_base ho.1 (Nat.zero_le _)) fun b hb' => own_ge ho.1 b hb'
/-- where a row lies, when it is not empty -/
theorem Res.row_at {v : Value} {e : TypeId} {sz n : Nat} {xs : List Value} (h : w.ownsRow 0 e sz v n xs) : ∃ A c, v = .slice A n c ∧ n ≤ c ∧ c ≤ maxLen ∧ Rd w 0 w.heap.size sz A n xs := own_rd h
theorem own_cell {w : World} {e : TypeId} {sz b off n c : Nat} {xs : List Value} (h : w.ownsRow 0 e sz (.slice (some ⟨b, off, none⟩) n c) n xs) {j : Nat} {u : Value} (hj : xs[j]? = some u) : w.cell? ⟨b, off + j, none⟩ = some u := by
  have := h.cells (g := b) rfl j u hj
  rcases h.2 with ⟨h0, _⟩ | ⟨g, cap, cur, e, _⟩
  · cases h0
  · injection e with e _ _
    injection e with e
    injection e with e1 e2 _
    subst e1 e2
    have hadd : (⟨b, 0, none⟩ : Addr).add j = ⟨b, 0 + j, none⟩ := by unfold Addr.add; split <;> simp_all
    rwa [hadd] at this
theorem own_cell2 {w : World} {e : TypeId} {b off n c : Nat} {l : List Cell} (h : w.ownsRow 0 e 2 (.slice (some ⟨b, off, none⟩) n c) n (cc l)) {j : Nat} {u : Cell} (hj : l[j]? = some u) :
    w.cell? ⟨b, off + j * 2, none⟩ = some (.int .i64 u.x) ∧ w.cell? ⟨b, off + j * 2 + 1, none⟩ = some (.int .i64 u.y) :=
  ⟨own_cell h (cc_at hj).1, by rw [Nat.add_assoc]; exact own_cell h (cc_at hj).2⟩
theorem own_cell1 {w : World} {e : TypeId} {b off n c : Nat} {l : List Int} (h : w.ownsRow 0 e 1 (.slice (some ⟨b, off, none⟩) n c) n (ic l)) {j : Nat} {u : Int} (hj : l[j]? = some u) :
    w.cell? ⟨b, off + j, none⟩ = some (.int .i64 u) := own_cell h (ic_at hj)
/-- the shape of a row that is not empty -/
theorem own_shape {w : World} {e : TypeId} {sz n : Nat} {v : Value} {xs : List Value} (h : w.ownsRow 0 e sz v n xs) (hn : 0 < n) : ∃ b off c, v = .slice (some ⟨b, off, none⟩) n c ∧ n ≤ c ∧ c ≤ maxLen ∧ b < w.heap.size := by
  rcases h.2 with ⟨_, h0⟩ | ⟨g, cap, cur, rfl, h1, hb, h2, h3, h4⟩
  · omega
  · exact ⟨g, 0, cap, rfl, h2, h3, (Array.getElem?_eq_some_iff.1 hb).1⟩
end
section
variable {w0 w w' : World} {L : List Res} {e : TypeId} {sz n g off c : Nat} {xs : List Value}
/-- a row that has an address lies at the head of a block known whole -/
theorem own_blk (h : w.ownsRow 0 e sz (.slice (some ⟨g, off, none⟩) n c) n xs) : off = 0 ∧ ∃ cs, Blk w g e cs ∧ n ≤ c ∧ c ≤ maxLen ∧ cs.size = c * sz ∧ cs.toList.take (n * sz) = xs := by
  rcases h.2 with ⟨h0, _⟩ | ⟨g', cap, cur, e', _, hb, h2, h3, h4, h5⟩
  · cases h0
  · injection e' with e1 e2 e3
    injection e1 with e1
    injection e1 with e1 e4 _
    subst e1 e3 e4
    exact ⟨rfl, cur, hb, h2, h3, h4, h5⟩
theorem own_free (h : w.ownsRow 0 e sz (.slice (some ⟨g, off, none⟩) n c) n xs) (j : Nat) : w.frozen? ⟨g, off + j, none⟩ = false := by
  obtain ⟨rfl, cs, hb, _⟩ := own_blk h
  exact hb.frozen _
/-- a cell of a row is written -/
theorem Sep.setRow (H : Sep w0 w (Res.row (.slice (some ⟨g, off, none⟩) n c) e sz n xs :: L)) {j : Nat} (hj : j < xs.length) (u : Value) :
    Sep w0 (w.setCell ⟨g, off + j, none⟩ u) (Res.row (.slice (some ⟨g, off, none⟩) n c) e sz n (xs.set j u) :: L) := by
  obtain ⟨rfl, cs, hb, h2, h3, h4, h5⟩ := own_blk H.own
  have hl := H.own.1
  have hg : Only (fun b => b = g) w (w.setCell ⟨g, 0 + j, none⟩ u) := Only.setCell w _ u
  refine H.turn ⟨hg.os, hg.tape, hg.output, hg.size, fun b hb' hd => hg.block b hb' (fun e => hd (by subst e; rfl))⟩ ?_ fun b hb' => .inl hb'
  rw [Nat.zero_add]
  refine ⟨by rw [List.length_set]; exact hl, .inr ⟨g, c, _, rfl, Nat.zero_le _, hb.set_ j u, h2, h3, by simpa using h4, ?_⟩⟩
  rw [Array.toList_setIfInBounds, ← h5]
  by_cases hlt : j < n * sz
  · rw [List.take_set]
  · omega
theorem ic_set {l : List Int} {j : Nat} {a : Int} : (ic l).set j (.int .i64 a) = ic (l.set j a) := by simp [ic, List.map_set]
end
end Go.Proofs.YtghpkfihdcjlaaaGreatDoor

namespace Go.Proofs.YtghpkfihdcjlaaaGreatDoor
open Go.RowKit

theorem oc1 {a : Int} : ∀ u ∈ [Value.int .i64 a], u.oneCell' = true := by intro u hu; simp at hu; subst hu; rfl
theorem oc2 {a b : Int} : ∀ u ∈ [Value.int .i64 a, .int .i64 b], u.oneCell' = true := by intro u hu; simp at hu; rcases hu with rfl | rfl <;> rfl
theorem oc3 {a : Bool} {b c : Int} : ∀ u ∈ [Value.bool a, .int .i64 b, .int .i64 c], u.oneCell' = true := by intro u hu; simp at hu; rcases hu with rfl | rfl | rfl <;> rfl
theorem ic_one {l : List Int} : ∀ u ∈ ic l, u.oneCell' = true := by
  intro u hu
  obtain ⟨a, _, rfl⟩ := List.mem_map.1 hu
  rfl
theorem cc_onec {l : List Cell} : ∀ u ∈ cc l, u.oneCell' = true := by
  intro u hu
  obtain ⟨a, _, h⟩ := List.mem_flatMap.1 hu
  simp at h
  rcases h with rfl | rfl <;> rfl
theorem edc_one {l : List Ed} : ∀ u ∈ edc l, u.oneCell' = true := by
  intro u hu
  obtain ⟨a, _, h⟩ := List.mem_flatMap.1 hu
  simp at h
  rcases h with rfl | rfl | rfl <;> rfl
theorem Rd.fresh (w : World) (t : TypeId) (cs : Array Value) (sz n : Nat) (h : cs.size = n * sz) : Rd (w.alloc (.cells cs t)) 0 (w.heap.size + 1) sz (some ⟨w.heap.size, 0, none⟩) n cs.toList :=
  ⟨by simpa using h, fun _ => ⟨w.heap.size, 0, rfl, Nat.zero_le _, Nat.lt_succ_self _, fun j u hu => by rw [(Blk.new w t cs).cell]; simpa using hu⟩⟩

section
variable {P : Program} {w0 w : World} {L : List Res}
theorem run_append_src (base : Nat) (t ty e : TypeId) (i : TypeInfo) (z : Value) (size bytes : Nat) (ht : P.underlying t = some (.slice e)) (hi : P.info? e = some i) (hz : i.zero = some z)
    (hsize : i.size = size) (hby : i.bytes = bytes) (hzs : z.cells.size = size) (hsz : 0 < size)
    (v : Value) (n : Nat) (xs : List Value) (hown : w.ownsRow base e size v n xs)
    {lo hi' : Nat} {A : Option Addr} {m : Nat} (c : Nat) {news : List Value} (hr : Rd w lo hi' size A m news) (h1 : ∀ u ∈ news, u.oneCell' = true)
    (h63 : n + m ≤ maxLen) (hbytes : (n + m) * bytes ≤ 140737488355328) (hbase : base ≤ w.heap.size) :
    ∃ v' w', (Builtin.append_ #[t, t] ty #[v, .slice A m c]).run P w = .ok v' w' ∧ w'.ownsRow base e size v' (n + m) (xs ++ news) ∧ w.grownBy w' v.ownBlock ∧ (v'.ownBlock = v.ownBlock ∨ v'.ownBlock = some w.heap.size) := by
  rcases A with _ | ad
  · have hm : m = 0 := by
      rcases Nat.eq_zero_or_pos m with h0 | h0
      · exact h0
      · obtain ⟨_, _, h, _⟩ := hr.2 h0; cases h
    subst hm
    have hn : news = [] := List.eq_nil_of_length_eq_zero (by simpa using hr.1)
    subst hn
    refine ⟨v, w, ?_, by simpa using hown, World.grownBy.refl w _, .inl rfl⟩
    rcases hown.2 with ⟨rfl, rfl⟩ | ⟨g, cap, cur, rfl, _, _, hnc, _⟩
    · simp [Builtin.append_, run_underlying ht, sizeOf, typeInfo, hi, Builtin.lenOf, Builtin.firstCells]
    · simp [Builtin.append_, run_underlying ht, sizeOf, typeInfo, hi, Builtin.lenOf, Builtin.firstCells, hnc, storeCells]
  · have hc : ∀ j u, news[j]? = some u → w.cell? (ad.add j) = some u := by
      intro j u hu
      rcases Nat.eq_zero_or_pos m with h0 | h0
      · subst h0
        have hn : news = [] := List.eq_nil_of_length_eq_zero (by simpa using hr.1)
        subst hn
        simp at hu
      · obtain ⟨b, off, h, _, _, hc⟩ := hr.2 h0
        injection h with h
        subst h
        have hadd : (⟨b, off, none⟩ : Addr).add j = ⟨b, off + j, none⟩ := by unfold Addr.add; split <;> simp_all
        rw [hadd]
        exact hc j u hu
    obtain ⟨v', w', hrun, h2, h3, _, h5⟩ := run_append_own_at (P := P) w base t ty e i z size bytes ht hi hz hsize hby hzs hsz v n xs hown ad m c news hr.1 hc h1 h63 hbytes hbase
    exact ⟨v', w', hrun, h2, h3, h5⟩
theorem Sep.run_app (t ty e : TypeId) (i : TypeInfo) (z : Value) (size bytes : Nat) (ht : P.underlying t = some (.slice e)) (hi : P.info? e = some i) (hz : i.zero = some z)
    (hsize : i.size = size) (hby : i.bytes = bytes) (hzs : z.cells.size = size) (hsz : 0 < size)
    {v : Value} {n : Nat} {xs : List Value} (H : Sep w0 w (Res.row v e size n xs :: L))
    {lo hi' : Nat} {A : Option Addr} {m : Nat} (c : Nat) {news : List Value} (hr : Rd w lo hi' size A m news) (h1 : ∀ u ∈ news, u.oneCell' = true)
    (h63 : n + m ≤ maxLen) (hbytes : (n + m) * bytes ≤ 140737488355328) :
    ∃ v' w', (Builtin.append_ #[t, t] ty #[v, .slice A m c]).run P w = .ok v' w' ∧ Sep w0 w' (Res.row v' e size (n + m) (xs ++ news) :: L) := by
  obtain ⟨v', w', hrun, h2, h3, h4⟩ := run_append_src (P := P) 0 t ty e i z size bytes ht hi hz hsize hby hzs hsz v n xs H.own c hr h1 h63 hbytes (Nat.zero_le _)
  exact ⟨v', w', hrun, H.app h2 h3 h4⟩
theorem wpList_app {ops : Array Oper} {rest : List Oper} {o : Oper} {a : Act} {Q : Exit → Act → World → Prop} (hgd : o.guard = none) (s x : Operand) (t : TypeId)
    (ho : o.op = .call { callee := .builtin .append, args := #[s, x], argTypes := #[t, t] })
    (e : TypeId) (i : TypeInfo) (z : Value) (size bytes : Nat) (ht : P.underlying t = some (.slice e)) (hi : P.info? e = some i) (hz : i.zero = some z)
    (hsize : i.size = size) (hby : i.bytes = bytes) (hzs : z.cells.size = size) (hsz : 0 < size)
    (v : Value) (n : Nat) (xs : List Value) (hs : a.eval s = v) (H : Sep w0 w (Res.row v e size n xs :: L))
    (A : Option Addr) (m c : Nat) (news : List Value) (hx : a.eval x = .slice A m c) {lo hi' : Nat} (hr : Rd w lo hi' size A m news) (h1 : ∀ u ∈ news, u.oneCell' = true)
    (h63 : n + m ≤ maxLen) (hbytes : (n + m) * bytes ≤ 140737488355328)
    (h : ∀ v' w', Sep w0 w' (Res.row v' e size (n + m) (xs ++ news) :: L) → wpList P ops Q rest (a.put o.dst v') w') : wpList P ops Q (o :: rest) a w := by
  refine wpList_plain hgd fun K hK => ?_
  obtain ⟨v', w', hr', h2⟩ := H.run_app (P := P) t o.type e i z size bytes ht hi hz hsize hby hzs hsz c hr h1 h63 hbytes
  unfold Oper.wp execOp
  simp only [ho, resolve, invoke, builtin, Sem.run_bind, Sem.run_pure, Result.andThen_ok, List.map_toArray, List.map_cons, List.map_nil, hs, hx, hr']
  exact hK _ _ (h v' w' h2)
theorem step_app {ops : Array Oper} {o : Oper} {a : Act} {K : Act → World → Prop} {Q : Exit → Act → World → Prop} {E : Prop} (hgd : o.guard = none) (s x : Operand) (t : TypeId)
    (ho : o.op = .call { callee := .builtin .append, args := #[s, x], argTypes := #[t, t] })
    (e : TypeId) (i : TypeInfo) (z : Value) (size bytes : Nat) (ht : P.underlying t = some (.slice e)) (hi : P.info? e = some i) (hz : i.zero = some z)
    (hsize : i.size = size) (hby : i.bytes = bytes) (hzs : z.cells.size = size) (hsz : 0 < size)
    (v : Value) (n : Nat) (xs : List Value) (hs : a.eval s = v) (H : Sep w0 w (Res.row v e size n xs :: L))
    (A : Option Addr) (m c : Nat) (news : List Value) (hx : a.eval x = .slice A m c) {lo hi' : Nat} (hr : Rd w lo hi' size A m news) (h1 : ∀ u ∈ news, u.oneCell' = true)
    (h63 : n + m ≤ maxLen) (hbytes : (n + m) * bytes ≤ 140737488355328)
    (h : ∀ v' w', Sep w0 w' (Res.row v' e size (n + m) (xs ++ news) :: L) → K (a.put o.dst v') w') :
    if Region.wanted o (yielded ops a.tmps) = true then Oper.wp P o a w K Q else E := by
  have hw : Region.wanted o (yielded ops a.tmps) = true := by simp [Region.wanted, hgd]
  rw [if_pos hw]
  obtain ⟨v', w', hr', h2⟩ := H.run_app (P := P) t o.type e i z size bytes ht hi hz hsize hby hzs hsz c hr h1 h63 hbytes
  unfold Oper.wp execOp
  simp only [ho, resolve, invoke, builtin, Sem.run_bind, Sem.run_pure, Result.andThen_ok, List.map_toArray, List.map_cons, List.map_nil, hs, hx, hr']
  exact h v' w' h2
end
end Go.Proofs.YtghpkfihdcjlaaaGreatDoor

namespace Go.Proofs.YtghpkfihdcjlaaaGreatDoor
open Go.RowKit

/-- a world behind W: all that was there is as it was -/
structure Later (W : World) where
  w : World
  h : Below W.heap.size W w
instance Later.some_ (W : World) : Nonempty (Later W) := ⟨⟨W, Below.refl _ _⟩⟩
section
variable {P : Program} {W : World}
theorem wp_region_later {id : Nat} {Q : Exit → Act → World → Prop} {a : Act} {l : List Oper} (hm : P.follows .mixedOrders = true) (hB : Region.lexB .any l.toArray = true)
    (h : wpQuiet P l.toArray (fun w' => ∃ u : Later W, w' = u.w) (fun a' => ∀ w', (∃ u : Later W, w' = u.w) → Q .normal a' w') l a) : (Code.region id l.toArray true).wp P Q a W :=
  wp_region_quiet (C := fun w' => ∃ u : Later W, w' = u.w) hm hB ⟨⟨_, below_drew (Below.refl _ _)⟩, rfl⟩ (by simpa using h)
theorem Later.cell {p : Addr} {v : Value} (h : W.cell? p = some v) (hp : p.block < W.heap.size) : ∀ u : Later W, u.w.cell? p = some v := fun u => (u.h.cell hp).trans h
theorem Later.call {u : Later W} {f : FuncId} {args : Array Value} {v : Value} (h : Calls P f args u.w fun e w' => e = .returned v ∧ Below u.w.heap.size u.w w') : Calls P f args u.w fun e w'' => e = .returned v ∧ ∃ u' : Later W, w'' = u'.w :=
  h.mono fun _ _ ⟨he, hb⟩ => ⟨he, ⟨⟨_, u.h.trans (hb.mono u.h.size)⟩, rfl⟩⟩
theorem Later.same {u : Later W} {f : FuncId} {args : Array Value} {v : Value} (h : Calls P f args u.w fun e w' => e = .returned v ∧ u.w = w') : Calls P f args u.w fun e w'' => e = .returned v ∧ ∃ u' : Later W, w'' = u'.w :=
  h.mono fun _ _ ⟨he, hb⟩ => ⟨he, ⟨u, hb.symm⟩⟩
theorem Later.reg {u : Later W} {v : Value} {r : Reg} (h : RegRd W 0 W.heap.size v r) : RegRd u.w 0 u.w.heap.size v r := (h.keep (SameIn.of_below u.h (Nat.le_refl _))).more (Nat.le_refl _) u.h.size
theorem Later.ints {u : Later W} {v : Value} {r : List Int} (h : IntsRd W 0 W.heap.size v r) : IntsRd u.w 0 u.w.heap.size v r := (h.keep (SameIn.of_below u.h (Nat.le_refl _))).more (Nat.le_refl _) u.h.size
theorem Later.cells {u : Later W} {v : Value} {r : List Cell} (h : CellsRd W 0 W.heap.size v r) : CellsRd u.w 0 u.w.heap.size v r := (h.keep (SameIn.of_below u.h (Nat.le_refl _))).more (Nat.le_refl _) u.h.size
/-- facts on cells of the things of a list -/
theorem Sep.later {w0 w : World} {L : List Res} (h : Sep w0 w L) (u : Later w) : Sep w0 u.w L := h.step u.h
end
end Go.Proofs.YtghpkfihdcjlaaaGreatDoor
