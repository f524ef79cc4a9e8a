
/-
  Words for memory and numbers, used by the walks of this seat: slices that read as lists, blocks that are known whole, small facts. No program in sight.
-/
import Derived.WalkKit
import Derived.WalkSpells
import Derived.WalkLawsBesides
import Derived.Deep.Draws
import Derived.Deep.AppendLies
import Derived.Laws.MakeOwn
import Derived.Laws.OwnMore
import Derived.Laws.Rows
import Derived.Laws.BitsAllLaws
import Derived.Laws.BitsLemmas
import Derived.StillTailTactics
import Derived.Lib.Hide
import Derived.Maps.AppendAt
import Derived.Deep.RegionHeld3
import Derived.Deep.RegionLaw
import Derived.Deep.QuietTactic
import Derived.BigQuiet
import Derived.BigRegion
namespace Go.Proofs.YtghpkfihdcjlaaaGreatDoor
open Go.RowKit

/-- the range of an int -/
def I64 (n : Int) : Prop := -9223372036854775808 ≤ n ∧ n ≤ 9223372036854775807

theorem bcell {W w1 : World} (hb : Below W.heap.size W w1) : (∀ b o, b < W.heap.size → w1.cell? ⟨b, o, none⟩ = W.cell? ⟨b, o, none⟩) ∧ (∀ b o, b < W.heap.size → w1.frozen? ⟨b, o, none⟩ = W.frozen? ⟨b, o, none⟩) :=
  ⟨fun b o h => hb.cell (p := ⟨b, o, none⟩) h, fun b o h => hb.frozen (p := ⟨b, o, none⟩) h⟩

/-- 'Below' over draws -/
theorem below_drewN {B : Nat} {a w : World} (h : Below B a w) (n : Nat) : Below B a (w.drewN n) := ⟨h.os, h.tape, h.output, h.size, h.block⟩
theorem below_drew {B : Nat} {a w : World} (h : Below B a w) : Below B a w.drew := ⟨h.os, h.tape, h.output, h.size, h.block⟩

/-- the slice value '.slice A n c' holds the cells xs (sz cells an element), in a block from lo on and below hi -/
def Rd (w : World) (lo hi sz : Nat) (A : Option Addr) (n : Nat) (xs : List Value) : Prop :=
  xs.length = n * sz ∧ (0 < n → ∃ b off, A = some ⟨b, off, none⟩ ∧ lo ≤ b ∧ b < hi ∧ ∀ j u, xs[j]? = some u → w.cell? ⟨b, off + j, none⟩ = some u)

section
variable {w w' : World} {lo hi lo' hi' sz n : Nat} {A : Option Addr} {xs : List Value}
theorem Rd.nil : Rd w lo hi sz A 0 [] := ⟨by simp, fun h => absurd h (by omega)⟩
theorem Rd.keep (h : Rd w lo hi sz A n xs) (hk : ∀ b, lo ≤ b → b < hi → w'.heap[b]? = w.heap[b]?) : Rd w' lo hi sz A n xs :=
  ⟨h.1, fun hn => by
    obtain ⟨b, off, e, h1, h2, hc⟩ := h.2 hn
    exact ⟨b, off, e, h1, h2, fun j u hu => (World.cell?_of_block (hk b h1 h2)).trans (hc j u hu)⟩⟩
theorem Rd.below {B : Nat} (h : Rd w lo hi sz A n xs) (hb : Below B w w') (hB : hi ≤ B) : Rd w' lo hi sz A n xs := h.keep fun b _ h2 => hb.block b (by omega)
theorem Rd.more (h : Rd w lo hi sz A n xs) (h1 : lo' ≤ lo) (h2 : hi ≤ hi') : Rd w lo' hi' sz A n xs :=
  ⟨h.1, fun hn => by
    obtain ⟨b, off, e, h3, h4, hc⟩ := h.2 hn
    exact ⟨b, off, e, by omega, by omega, hc⟩⟩
end

/-- cells of a list of elements of two, three, four cells -/
def fl2 {α : Type} (f g : α → Value) (l : List α) : List Value := l.flatMap fun a => [f a, g a]
def fl3 {α : Type} (f g h : α → Value) (l : List α) : List Value := l.flatMap fun a => [f a, g a, h a]
def fl4 {α : Type} (f g h i : α → Value) (l : List α) : List Value := l.flatMap fun a => [f a, g a, h a, i a]

section
variable {α : Type} {f g h i : α → Value} {l : List α} {k : Nat} {a : α}
theorem fl2_length : (fl2 f g l).length = l.length * 2 := by
  induction l with
  | nil => rfl
  | cons x l ih => simp only [fl2, List.flatMap_cons, List.length_append] at *; simp [ih]; omega
theorem fl3_length : (fl3 f g h l).length = l.length * 3 := by
  induction l with
  | nil => rfl
  | cons x l ih => simp only [fl3, List.flatMap_cons, List.length_append] at *; simp [ih]; omega
theorem fl4_length : (fl4 f g h i l).length = l.length * 4 := by
  induction l with
  | nil => rfl
  | cons x l ih => simp only [fl4, List.flatMap_cons, List.length_append] at *; simp [ih]; omega
theorem fl2_at (hk : l[k]? = some a) : (fl2 f g l)[k * 2]? = some (f a) ∧ (fl2 f g l)[k * 2 + 1]? = some (g a) := by
  induction l generalizing k with
  | nil => simp at hk
  | cons x l ih =>
    cases k with
    | zero => simp at hk; subst hk; simp [fl2]
    | succ k =>
      have := ih (k := k) (by simpa using hk)
      simp only [fl2, List.flatMap_cons] at *
      constructor
      · rw [List.getElem?_append_right (by simp; omega)]; simpa [Nat.add_mul] using this.1
      · rw [List.getElem?_append_right (by simp; omega)]
        have e : (k + 1) * 2 + 1 - [f x, g x].length = k * 2 + 1 := by simp; omega
        rw [e]; exact this.2
theorem fl3_at (hk : l[k]? = some a) : (fl3 f g h l)[k * 3]? = some (f a) ∧ (fl3 f g h l)[k * 3 + 1]? = some (g a) ∧ (fl3 f g h l)[k * 3 + 2]? = some (h a) := by
  induction l generalizing k with
  | nil => simp at hk
  | cons x l ih =>
    cases k with
    | zero => simp at hk; subst hk; simp [fl3]
    | succ k =>
      have := ih (k := k) (by simpa using hk)
      simp only [fl3, List.flatMap_cons] at *
      refine ⟨?_, ?_, ?_⟩
      · rw [List.getElem?_append_right (by simp; omega)]
        have e : (k + 1) * 3 - [f x, g x, h x].length = k * 3 := by simp; omega
        rw [e]; exact this.1
      · rw [List.getElem?_append_right (by simp; omega)]
        have e : (k + 1) * 3 + 1 - [f x, g x, h x].length = k * 3 + 1 := by simp; omega
        rw [e]; exact this.2.1
      · rw [List.getElem?_append_right (by simp; omega)]
        have e : (k + 1) * 3 + 2 - [f x, g x, h x].length = k * 3 + 2 := by simp; omega
        rw [e]; exact this.2.2
theorem fl4_at (hk : l[k]? = some a) : (fl4 f g h i l)[k * 4]? = some (f a) ∧ (fl4 f g h i l)[k * 4 + 1]? = some (g a) ∧ (fl4 f g h i l)[k * 4 + 2]? = some (h a) ∧ (fl4 f g h i l)[k * 4 + 3]? = some (i a) := by
  induction l generalizing k with
  | nil => simp at hk
  | cons x l ih =>
    cases k with
    | zero => simp at hk; subst hk; simp [fl4]
    | succ k =>
      have := ih (k := k) (by simpa using hk)
      simp only [fl4, List.flatMap_cons] at *
      refine ⟨?_, ?_, ?_, ?_⟩
      · rw [List.getElem?_append_right (by simp; omega)]
        have e : (k + 1) * 4 - [f x, g x, h x, i x].length = k * 4 := by simp; omega
        rw [e]; exact this.1
      · rw [List.getElem?_append_right (by simp; omega)]
        have e : (k + 1) * 4 + 1 - [f x, g x, h x, i x].length = k * 4 + 1 := by simp; omega
        rw [e]; exact this.2.1
      · rw [List.getElem?_append_right (by simp; omega)]
        have e : (k + 1) * 4 + 2 - [f x, g x, h x, i x].length = k * 4 + 2 := by simp; omega
        rw [e]; exact this.2.2.1
      · rw [List.getElem?_append_right (by simp; omega)]
        have e : (k + 1) * 4 + 3 - [f x, g x, h x, i x].length = k * 4 + 3 := by simp; omega
        rw [e]; exact this.2.2.2
theorem fl2_append (l m : List α) : fl2 f g (l ++ m) = fl2 f g l ++ fl2 f g m := by simp [fl2]
theorem fl3_append (l m : List α) : fl3 f g h (l ++ m) = fl3 f g h l ++ fl3 f g h m := by simp [fl3]
theorem fl4_append (l m : List α) : fl4 f g h i (l ++ m) = fl4 f g h i l ++ fl4 f g h i m := by simp [fl4]

variable {w : World} {lo hi n : Nat} {A : Option Addr}
theorem Rd.at1 (hd : Rd w lo hi 1 A n (l.map f)) (hk : k < n) : ∃ b off a, A = some ⟨b, off, none⟩ ∧ lo ≤ b ∧ b < hi ∧ l[k]? = some a ∧ w.cell? ⟨b, off + k, none⟩ = some (f a) := by
  obtain ⟨b, off, e, h1, h2, hc⟩ := hd.2 (by omega)
  have hl : k < l.length := by have := hd.1; simp at this; omega
  exact ⟨b, off, l[k], e, h1, h2, List.getElem?_eq_getElem hl, hc k _ (by simp [hl])⟩
theorem Rd.at2 (hd : Rd w lo hi 2 A n (fl2 f g l)) (hk : k < n) : ∃ b off a, A = some ⟨b, off, none⟩ ∧ lo ≤ b ∧ b < hi ∧ l[k]? = some a ∧ w.cell? ⟨b, off + k * 2, none⟩ = some (f a) ∧ w.cell? ⟨b, off + k * 2 + 1, none⟩ = some (g a) := by
  obtain ⟨b, off, e, h1, h2, hc⟩ := hd.2 (by omega)
  have hl : k < l.length := by have := hd.1; rw [fl2_length] at this; omega
  have q := fl2_at (f := f) (g := g) (List.getElem?_eq_getElem hl)
  exact ⟨b, off, l[k], e, h1, h2, List.getElem?_eq_getElem hl, hc _ _ q.1, by rw [Nat.add_assoc]; exact hc _ _ q.2⟩
theorem Rd.at3 (hd : Rd w lo hi 3 A n (fl3 f g h l)) (hk : k < n) : ∃ b off a, A = some ⟨b, off, none⟩ ∧ lo ≤ b ∧ b < hi ∧ l[k]? = some a ∧ w.cell? ⟨b, off + k * 3, none⟩ = some (f a) ∧ w.cell? ⟨b, off + k * 3 + 1, none⟩ = some (g a) ∧
    w.cell? ⟨b, off + k * 3 + 2, none⟩ = some (h a) := by
  obtain ⟨b, off, e, h1, h2, hc⟩ := hd.2 (by omega)
  have hl : k < l.length := by have := hd.1; rw [fl3_length] at this; omega
  have q := fl3_at (f := f) (g := g) (h := h) (List.getElem?_eq_getElem hl)
  exact ⟨b, off, l[k], e, h1, h2, List.getElem?_eq_getElem hl, hc _ _ q.1, by rw [Nat.add_assoc]; exact hc _ _ q.2.1, by rw [Nat.add_assoc]; exact hc _ _ q.2.2⟩
end

/-- block g is just the cells cs of element type t, none frozen -/
def Blk (w : World) (g : Nat) (t : TypeId) (cs : Array Value) : Prop := w.heap[g]? = some (.cells cs t (0, 0))

section
variable {w w' : World} {g : Nat} {t : TypeId} {cs : Array Value}
theorem Blk.lt (h : Blk w g t cs) : g < w.heap.size := by
  rcases Nat.lt_or_ge g w.heap.size with hlt | hge
  · exact hlt
  · unfold Blk at h; rw [Array.getElem?_eq_none hge] at h; cases h
theorem Blk.cell (h : Blk w g t cs) (i : Nat) : w.cell? ⟨g, i, none⟩ = cs[i]? := cell_of_row w g i cs t (0, 0) h
theorem Blk.frozen (h : Blk w g t cs) (i : Nat) : w.frozen? ⟨g, i, none⟩ = false := by
  unfold Blk at h
  simp [World.frozen?, h]
theorem Blk.new (w : World) (t : TypeId) (cs : Array Value) : Blk (w.alloc (.cells cs t)) w.heap.size t cs := heap_alloc_new w _
theorem Blk.alloc (h : Blk w g t cs) (o : Obj) : Blk (w.alloc o) g t cs := (Below.heap_alloc w o g h.lt).trans h
theorem Blk.set_ (h : Blk w g t cs) (i : Nat) (u : Value) : Blk (w.setCell ⟨g, i, none⟩ u) g t (cs.setIfInBounds i u) := by
  unfold Blk at h ⊢
  simp [World.setCell, Array.getElem?_modify, h]
theorem Blk.far (h : Blk w g t cs) {p : Addr} (hp : g ≠ p.block) (u : Value) : Blk (w.setCell p u) g t cs := (Below.heap_setCell w p u g hp).trans h
theorem Blk.below {B : Nat} (h : Blk w g t cs) (hb : Below B w w') (hg : g < B) : Blk w' g t cs := (hb.block g hg).trans h
theorem Blk.grown {row : Option Nat} (h : Blk w g t cs) (hb : w.grownBy w' row) (hg : some g ≠ row) : Blk w' g t cs := (hb.block g h.lt hg).trans h
end

section
variable {w w' : World} {base sz n : Nat} {e : TypeId} {v : Value} {xs : List Value}
/-- an owned row, behind a call that touches nothing that was there -/
theorem own_below {B : Nat} (h : w.ownsRow base e sz v n xs) (hb : Below B w w') (hB : w.heap.size ≤ B) : w'.ownsRow base e sz v n xs := by
  refine ⟨h.1, ?_⟩
  rcases h.2 with hn | ⟨g, cap, cur, rfl, hbg, hgg, rest⟩
  · exact .inl hn
  · refine .inr ⟨g, cap, cur, rfl, hbg, ?_, rest⟩
    rw [hb.block g (by have := (Array.getElem?_eq_some_iff.1 hgg).1; omega)]
    exact hgg
theorem own_base {base' : Nat} (h : w.ownsRow base e sz v n xs) (hb : base' ≤ base) : w.ownsRow base' e sz v n xs := by
  refine ⟨h.1, ?_⟩
  rcases h.2 with hn | ⟨g, cap, cur, rfl, hbg, rest⟩
  · exact .inl hn
  · exact .inr ⟨g, cap, cur, rfl, by omega, rest⟩
/-- an owned row reads as a list -/
theorem own_rd (h : w.ownsRow base e sz v n xs) : ∃ A c, v = .slice A n c ∧ n ≤ c ∧ c ≤ maxLen ∧ Rd w base w.heap.size sz A n xs := by
  rcases h.2 with ⟨rfl, hx⟩ | ⟨g, cap, cur, rfl, hbg, hgg, h1, h2, h3, h4⟩
  · subst hx
    exact ⟨none, 0, rfl, Nat.le_refl _, Nat.zero_le _, by have := h.1; simp at this; subst this; exact Rd.nil⟩
  · refine ⟨_, _, rfl, h1, h2, h.1, fun hn => ⟨g, 0, rfl, hbg, (Array.getElem?_eq_some_iff.1 hgg).1, fun j u hu => ?_⟩⟩
    have := h.cells (g := g) rfl j u hu
    have hadd : (⟨g, 0, none⟩ : Addr).add j = ⟨g, 0 + j, none⟩ := by unfold Addr.add; split <;> simp_all
    rwa [hadd] at this
end

theorem run_make_rowN {P : Program} (t e : TypeId) (i : TypeInfo) (z : Value) (ht : P.underlying t = some (.slice e)) (hi : P.info? e = some i) (hz : i.zero = some z)
    (kl kc : IntKind) (n c : Nat) (hnc : n ≤ c) (hbytes : i.bytes * c ≤ 281474976710656) (h63 : c ≤ 9223372036854775807) (w : World) :
    (Instr.makeSlice t (.int kl (n : Int)) (.int kc (c : Int))).run P w = .ok (.slice (some ⟨w.heap.size, 0, none⟩) n c) (w.alloc (.cells (madeCells z.cells (c * i.size)) e)) := by
  have hb : (i.bytes : Int) * (c : Int) ≤ 281474976710656 := by
    have h : ((i.bytes * c : Nat) : Int) ≤ 281474976710656 := by omega
    rwa [Int.natCast_mul] at h
  have hr := run_make (P := P) w t e i z ht hi hz kl kc n c (by omega) (by omega) hb (by omega)
  simp only [Int.toNat_natCast] at hr
  exact hr

/-- a block filled from its head on, a cell at a time -/
theorem fill_one {cs : Array Value} {xs : List Value} {j : Nat} {u : Value} (h : cs.toList.take j = xs.take j) (hj : j < cs.size) (hu : xs[j]? = some u) : (cs.setIfInBounds j u).toList.take (j + 1) = xs.take (j + 1) := by
  have h1 : cs.toList.length = cs.size := by simp
  have hx : j < xs.length := by rw [List.getElem?_eq_some_iff] at hu; exact hu.1
  rw [List.take_succ_eq_append_getElem hx, ← h, Array.toList_setIfInBounds, List.take_succ_eq_append_getElem (by simp; omega)]
  rw [List.getElem?_eq_some_iff] at hu
  obtain ⟨_, hu⟩ := hu
  congr 1
  · rw [List.take_set_of_le (Nat.le_refl _)]
  · simp [hu]

theorem own_of_blk {w : World} {base g n sz : Nat} {e : TypeId} {cs : Array Value} {xs : List Value} (h : Blk w g e cs) (hb : base ≤ g) (hs : cs.size = n * sz) (ht : cs.toList.take (n * sz) = xs) (hm : n ≤ maxLen) :
    w.ownsRow base e sz (.slice (some ⟨g, 0, none⟩) n n) n xs := by
  refine ⟨?_, .inr ⟨g, n, cs, rfl, hb, h, Nat.le_refl _, hm, hs, ht⟩⟩
  rw [← ht, List.length_take]
  simp [hs]

theorem fill_size {cs : Array Value} {j : Nat} {u : Value} : (cs.setIfInBounds j u).size = cs.size := by simp

/-- a whole step of three cells -/
theorem fill3 {w w1 : World} {g T n k : Nat} {cs : Array Value} {xs : List Value} {u0 u1 u2 : Value} (hb : Blk w1 g T cs) (hs : cs.size = n * 3) (hk : k < n) (h : cs.toList.take (k * 3) = xs.take (k * 3))
    (h0 : xs[k * 3]? = some u0) (h1 : xs[k * 3 + 1]? = some u1) (h2 : xs[k * 3 + 2]? = some u2) (hbel : Below g w w1) :
    (∃ cs', Blk (((w1.setCell ⟨g, k * 3, none⟩ u0).setCell ⟨g, k * 3 + 1, none⟩ u1).setCell ⟨g, k * 3 + 2, none⟩ u2) g T cs' ∧ cs'.size = n * 3 ∧ cs'.toList.take ((k + 1) * 3) = xs.take ((k + 1) * 3)) ∧
    Below g w (((w1.setCell ⟨g, k * 3, none⟩ u0).setCell ⟨g, k * 3 + 1, none⟩ u1).setCell ⟨g, k * 3 + 2, none⟩ u2) := by
  refine ⟨⟨_, ((hb.set_ _ _).set_ _ _).set_ _ _, by simp [hs], ?_⟩, ((hbel.setCell (Nat.le_refl _) _).setCell (Nat.le_refl _) _).setCell (Nat.le_refl _) _⟩
  rw [show (k + 1) * 3 = k * 3 + 2 + 1 by omega]
  exact fill_one (fill_one (fill_one h (by omega) h0) (by simp; omega) h1) (by simp; omega) h2
theorem fill2 {w w1 : World} {g T n k : Nat} {cs : Array Value} {xs : List Value} {u0 u1 : Value} (hb : Blk w1 g T cs) (hs : cs.size = n * 2) (hk : k < n) (h : cs.toList.take (k * 2) = xs.take (k * 2))
    (h0 : xs[k * 2]? = some u0) (h1 : xs[k * 2 + 1]? = some u1) (hbel : Below g w w1) :
    (∃ cs', Blk ((w1.setCell ⟨g, k * 2, none⟩ u0).setCell ⟨g, k * 2 + 1, none⟩ u1) g T cs' ∧ cs'.size = n * 2 ∧ cs'.toList.take ((k + 1) * 2) = xs.take ((k + 1) * 2)) ∧
    Below g w ((w1.setCell ⟨g, k * 2, none⟩ u0).setCell ⟨g, k * 2 + 1, none⟩ u1) := by
  refine ⟨⟨_, (hb.set_ _ _).set_ _ _, by simp [hs], ?_⟩, (hbel.setCell (Nat.le_refl _) _).setCell (Nat.le_refl _) _⟩
  rw [show (k + 1) * 2 = k * 2 + 1 + 1 by omega]
  exact fill_one (fill_one h (by omega) h0) (by simp; omega) h1
theorem fill1 {w w1 : World} {g T n k : Nat} {cs : Array Value} {xs : List Value} {u0 : Value} (hb : Blk w1 g T cs) (hs : cs.size = n * 1) (hk : k < n) (h : cs.toList.take (k * 1) = xs.take (k * 1))
    (h0 : xs[k]? = some u0) (hbel : Below g w w1) :
    (∃ cs', Blk (w1.setCell ⟨g, k, none⟩ u0) g T cs' ∧ cs'.size = n * 1 ∧ cs'.toList.take ((k + 1) * 1) = xs.take ((k + 1) * 1)) ∧
    Below g w (w1.setCell ⟨g, k, none⟩ u0) := by
  refine ⟨⟨_, hb.set_ _ _, by simp [hs], ?_⟩, hbel.setCell (Nat.le_refl _) _⟩
  simp only [Nat.mul_one] at h ⊢
  exact fill_one h (by omega) h0

theorem only_drew {a w : World} {row : Option Nat} (h : a.grownBy w row) : a.grownBy w.drew row := ⟨h.os, h.tape, h.output, h.size, h.block⟩
theorem only_alloc {a w : World} {row : Option Nat} (h : a.grownBy w row) (o : Obj) : a.grownBy (w.alloc o) row :=
  ⟨h.os, h.tape, h.output, Nat.le_trans h.size (by simp), fun i hi hne => (Below.heap_alloc w o i (Nat.lt_of_lt_of_le hi h.size)).trans (h.block i hi hne)⟩
theorem only_setCell {a w : World} {g : Nat} (h : a.grownBy w (some g)) {p : Addr} (hp : p.block = g ∨ a.heap.size ≤ p.block) (u : Value) : a.grownBy (w.setCell p u) (some g) :=
  ⟨h.os, h.tape, h.output, by simpa [World.setCell] using h.size, fun i hi hne => (Below.heap_setCell w p u i (by
    rintro rfl
    rcases hp with hp | hp
    · exact hne (by rw [hp])
    · omega)).trans (h.block i hi hne)⟩
theorem only_of_below {a w : World} (h : Below a.heap.size a w) (row : Option Nat) : a.grownBy w row := ⟨h.os, h.tape, h.output, h.size, fun i hi _ => h.block i hi⟩
theorem only_trans {a b c : World} {row : Option Nat} (h : a.grownBy b row) (k : b.grownBy c row) : a.grownBy c row :=
  ⟨k.os.trans h.os, k.tape.trans h.tape, k.output.trans h.output, Nat.le_trans h.size k.size, fun i hi hne => (k.block i (Nat.lt_of_lt_of_le hi h.size) hne).trans (h.block i hi hne)⟩
theorem below_of_only {a b : World} {B g : Nat} (h : a.grownBy b (some g)) (hg : B ≤ g) (hB : B ≤ a.heap.size) : Below B a b :=
  ⟨h.os, h.tape, h.output, h.size, fun k hk => h.block k (by omega) (by intro e; injection e; omega)⟩
theorem own_only {w w' : World} {base sz n : Nat} {e : TypeId} {v : Value} {xs : List Value} {g : Nat} (h : w.ownsRow base e sz v n xs) (hg : w.grownBy w' (some g)) (hne : v.ownBlock ≠ some g) : w'.ownsRow base e sz v n xs := by
  refine ⟨h.1, ?_⟩
  rcases h.2 with hn | ⟨g', cap, cur, rfl, hbg, hgg, rest⟩
  · exact .inl hn
  · refine .inr ⟨g', cap, cur, rfl, hbg, ?_, rest⟩
    rw [hg.block g' (Array.getElem?_eq_some_iff.1 hgg).1 (by simpa [Value.ownBlock] using hne)]
    exact hgg

theorem own_ge {w : World} {base sz n : Nat} {e : TypeId} {v : Value} {xs : List Value} (h : w.ownsRow base e sz v n xs) : ∀ k, v.ownBlock = some k → base ≤ k := by
  intro k hk
  rcases h.2 with ⟨rfl, _⟩ | ⟨g, cap, cur, rfl, hb, _⟩
  · simp [Value.ownBlock] at hk
  · simp [Value.ownBlock] at hk
    omega
theorem own_lt {w : World} {base sz n : Nat} {e : TypeId} {v : Value} {xs : List Value} (h : w.ownsRow base e sz v n xs) : ∀ k, v.ownBlock = some k → k < w.heap.size := by
  intro k hk
  rcases h.2 with ⟨rfl, _⟩ | ⟨g, cap, cur, rfl, hb, hg, _⟩
  · simp [Value.ownBlock] at hk
  · simp [Value.ownBlock] at hk
    subst hk
    exact (Array.getElem?_eq_some_iff.1 hg).1
theorem own_zero {w : World} {base g sz : Nat} {e : TypeId} (h : Blk w g e #[]) (hb : base ≤ g) : w.ownsRow base e sz (.slice (some ⟨g, 0, none⟩) 0 0) 0 [] :=
  ⟨by simp, .inr ⟨g, 0, #[], rfl, hb, h, Nat.le_refl _, Nat.zero_le _, by simp, by simp⟩⟩

/-- the cells of a block that has just been laid -/
theorem news_alloc (w : World) (cs : Array Value) (t : TypeId) : ∀ (j : Nat) (u : Value), cs.toList[j]? = some u → (w.alloc (.cells cs t)).cell? ((⟨w.heap.size, 0, none⟩ : Addr).add j) = some u := by
  intro j u hu
  have hadd : (⟨w.heap.size, 0, none⟩ : Addr).add j = ⟨w.heap.size, j, none⟩ := by unfold Addr.add; split <;> simp_all
  rw [hadd, (Blk.new w t cs).cell]
  simpa using hu

/-- append onto an owned row as one step of a region that draws -/
theorem step_append_own {P : Program} {ops : Array Oper} {o : Oper} {a : Act} {w : World} {K : Act → World → Prop} {Q : Exit → Act → World → Prop} {E : Prop} (hgd : o.guard = none) (s x : Operand) (t : TypeId)
    (ho : o.op = .call { callee := .builtin .append, args := #[s, x], argTypes := #[t, t] })
    (base : Nat) (e : TypeId) (i : TypeInfo) (z : Value) (size bytes : Nat) (ht : P.underlying t = some (.slice e)) (hi : P.info? e = some i) (hz : i.zero = some z)
    (hsize : i.size = size) (hby : i.bytes = bytes) (hzs : z.cells.size = size) (hsz : 0 < size)
    (v : Value) (n : Nat) (xs : List Value) (hs : a.eval s = v) (hown : w.ownsRow base e size v n xs)
    (ad : Addr) (m c : Nat) (news : List Value) (hx : a.eval x = .slice (some ad) m c) (hl : news.length = m * size) (hnews : ∀ j u, news[j]? = some u → w.cell? (ad.add j) = some u) (h1 : ∀ u ∈ news, u.oneCell' = true)
    (h63 : n + m ≤ maxLen) (hbytes : (n + m) * bytes ≤ 140737488355328) (hbase : base ≤ w.heap.size)
    (h : ∀ v' w', w'.ownsRow base e size v' (n + m) (xs ++ news) → w.grownBy w' v.ownBlock → (v' = .slice none 0 0 ↔ v = .slice none 0 0 ∧ m = 0) → K (a.put o.dst v') w') :
    if Region.wanted o (yielded ops a.tmps) = true then Oper.wp P o a w K Q else E := by
  have hw : Region.wanted o (yielded ops a.tmps) = true := by simp [Region.wanted, hgd]
  rw [if_pos hw]
  exact wp_append_own w s x t ho base e i z size bytes ht hi hz hsize hby hzs hsz v n xs hs hown ad m c news hx hl hnews h1 h63 hbytes hbase h
theorem grown_cell {w w' : World} {row : Option Nat} (hg : w.grownBy w' row) {b : Nat} (hb : b < w.heap.size) (hne : row ≠ some b) (o : Nat) : w'.cell? ⟨b, o, none⟩ = w.cell? ⟨b, o, none⟩ :=
  World.cell?_of_block (hg.block b hb (fun e => hne e.symm))

/-- marking a row: a whole step of three, two, one cells -/
theorem mark3 {w w1 : World} {g T m k : Nat} {cs : Array Value} {xs : List Value} {u0 u1 u2 : Value} (hb : Blk w1 g T cs) (hs : cs.size = m) (hk : k * 3 + 3 ≤ m) (h : cs.toList.take (k * 3) = xs.take (k * 3))
    (h0 : xs[k * 3]? = some u0) (h1 : xs[k * 3 + 1]? = some u1) (h2 : xs[k * 3 + 2]? = some u2) (hg : w.grownBy w1 (some g)) :
    w.grownBy (((w1.setCell ⟨g, k * 3, none⟩ u0).setCell ⟨g, k * 3 + 1, none⟩ u1).setCell ⟨g, k * 3 + 2, none⟩ u2) (some g) ∧
    (∃ cs', Blk (((w1.setCell ⟨g, k * 3, none⟩ u0).setCell ⟨g, k * 3 + 1, none⟩ u1).setCell ⟨g, k * 3 + 2, none⟩ u2) g T cs' ∧ cs'.size = m ∧ cs'.toList.take ((k + 1) * 3) = xs.take ((k + 1) * 3)) := by
  refine ⟨only_setCell (only_setCell (only_setCell hg (.inl rfl) _) (.inl rfl) _) (.inl rfl) _, ⟨_, ((hb.set_ _ _).set_ _ _).set_ _ _, by simp [hs], ?_⟩⟩
  rw [show (k + 1) * 3 = k * 3 + 2 + 1 by omega]
  exact fill_one (fill_one (fill_one h (by omega) h0) (by simp; omega) h1) (by simp; omega) h2
theorem mark2 {w w1 : World} {g T m k : Nat} {cs : Array Value} {xs : List Value} {u0 u1 : Value} (hb : Blk w1 g T cs) (hs : cs.size = m) (hk : k * 2 + 2 ≤ m) (h : cs.toList.take (k * 2) = xs.take (k * 2))
    (h0 : xs[k * 2]? = some u0) (h1 : xs[k * 2 + 1]? = some u1) (hg : w.grownBy w1 (some g)) :
    w.grownBy ((w1.setCell ⟨g, k * 2, none⟩ u0).setCell ⟨g, k * 2 + 1, none⟩ u1) (some g) ∧
    (∃ cs', Blk ((w1.setCell ⟨g, k * 2, none⟩ u0).setCell ⟨g, k * 2 + 1, none⟩ u1) g T cs' ∧ cs'.size = m ∧ cs'.toList.take ((k + 1) * 2) = xs.take ((k + 1) * 2)) := by
  refine ⟨only_setCell (only_setCell hg (.inl rfl) _) (.inl rfl) _, ⟨_, (hb.set_ _ _).set_ _ _, by simp [hs], ?_⟩⟩
  rw [show (k + 1) * 2 = k * 2 + 1 + 1 by omega]
  exact fill_one (fill_one h (by omega) h0) (by simp; omega) h1
theorem mark1 {w w1 : World} {g T m k : Nat} {cs : Array Value} {xs : List Value} {u0 : Value} (hb : Blk w1 g T cs) (hs : cs.size = m) (hk : k + 1 ≤ m) (h : cs.toList.take k = xs.take k)
    (h0 : xs[k]? = some u0) (hg : w.grownBy w1 (some g)) :
    w.grownBy (w1.setCell ⟨g, k, none⟩ u0) (some g) ∧
    (∃ cs', Blk (w1.setCell ⟨g, k, none⟩ u0) g T cs' ∧ cs'.size = m ∧ cs'.toList.take (k + 1) = xs.take (k + 1)) :=
  ⟨only_setCell hg (.inl rfl) _, ⟨_, hb.set_ _ _, by simp [hs], fill_one h (by omega) h0⟩⟩

/-- the blocks from lo on and below hi are as they were -/
def SameIn (lo hi : Nat) (w w' : World) : Prop := ∀ b, lo ≤ b → b < hi → w'.heap[b]? = w.heap[b]?
/-- only the blocks from lo on and below hi may have turned, and there may be new ones -/
structure Out (lo hi : Nat) (w w' : World) : Prop where
  os : w'.os = w.os
  tape : w'.tape = w.tape
  output : w'.output = w.output
  size : w.heap.size ≤ w'.heap.size
  block : ∀ b, b < w.heap.size → b < lo ∨ hi ≤ b → w'.heap[b]? = w.heap[b]?
section
variable {w w' w'' : World} {lo hi lo' hi' B : Nat}
theorem SameIn.of_below (h : Below B w w') (hB : hi ≤ B) : SameIn lo hi w w' := fun b _ h2 => h.block b (by omega)
theorem SameIn.of_out (h : Out lo' hi' w w') (h1 : hi ≤ w.heap.size) (h2 : hi ≤ lo' ∨ hi' ≤ lo) : SameIn lo hi w w' := fun b h3 h4 => h.block b (by omega) (by omega)
theorem SameIn.refl (w : World) : SameIn lo hi w w := fun _ _ _ => rfl
theorem SameIn.alloc (h : hi ≤ w.heap.size) (o : Obj) : SameIn lo hi w (w.alloc o) := SameIn.of_below ((Below.refl w.heap.size w).alloc (Nat.le_refl _) o) h
theorem SameIn.setCell {p : Addr} (h : p.block < lo ∨ hi ≤ p.block) (u : Value) : SameIn lo hi w (w.setCell p u) := fun b h1 h2 => Below.heap_setCell w p u b (by omega)
theorem SameIn.drew : SameIn lo hi w w.drew := fun _ _ _ => rfl
theorem SameIn.drewN (n : Nat) : SameIn lo hi w (w.drewN n) := fun _ _ _ => rfl
theorem SameIn.trans (h : SameIn lo hi w w') (k : SameIn lo hi w' w'') : SameIn lo hi w w'' := fun b h1 h2 => (k b h1 h2).trans (h b h1 h2)
theorem Out.refl (w : World) : Out lo hi w w := ⟨rfl, rfl, rfl, Nat.le_refl _, fun _ _ _ => rfl⟩
theorem Out.trans (h : Out lo hi w w') (k : Out lo hi w' w'') : Out lo hi w w'' :=
  ⟨k.os.trans h.os, k.tape.trans h.tape, k.output.trans h.output, Nat.le_trans h.size k.size, fun b h1 h2 => (k.block b (Nat.lt_of_lt_of_le h1 h.size) h2).trans (h.block b h1 h2)⟩
theorem Out.wide (h : Out lo hi w w') (h1 : lo' ≤ lo) (h2 : hi ≤ hi') : Out lo' hi' w w' := ⟨h.os, h.tape, h.output, h.size, fun b h3 h4 => h.block b h3 (by omega)⟩
theorem Out.below (h : Out lo hi w w') (hB : B ≤ lo) (hB' : B ≤ w.heap.size) : Below B w w' := ⟨h.os, h.tape, h.output, h.size, fun b hb => h.block b (by omega) (by omega)⟩
theorem Out.of_only {g : Nat} (h : w.grownBy w' (some g)) (h1 : lo ≤ g) (h2 : g < hi) : Out lo hi w w' := ⟨h.os, h.tape, h.output, h.size, fun b hb hh => h.block b hb (by intro e; injection e; omega)⟩
theorem Out.of_below (h : Below w.heap.size w w') : Out lo hi w w' := ⟨h.os, h.tape, h.output, h.size, fun b hb _ => h.block b hb⟩
end

/-- a variable's block, known whole, from lo on and below hi -/
def BoxIn (w : World) (lo hi g : Nat) (t : TypeId) (cs : Array Value) : Prop := Blk w g t cs ∧ lo ≤ g ∧ g < hi
theorem BoxIn.keep {w w' : World} {lo hi g : Nat} {t : TypeId} {cs : Array Value} (h : BoxIn w lo hi g t cs) (hs : SameIn lo hi w w') : BoxIn w' lo hi g t cs :=
  ⟨(hs g h.2.1 h.2.2).trans h.1, h.2⟩
theorem BoxIn.cell {w : World} {lo hi g : Nat} {t : TypeId} {cs : Array Value} (h : BoxIn w lo hi g t cs) (i : Nat) : w.cell? ⟨g, i, none⟩ = cs[i]? := h.1.cell i
theorem le_drew {a : Nat} {W : World} (h : a ≤ W.heap.size) : a ≤ W.drew.heap.size := h
theorem below_undrew {W w1 : World} (h : Below W.drew.heap.size W.drew w1) : Below W.heap.size W w1 := ⟨h.os, h.tape, h.output, h.size, h.block⟩
theorem out_undrew {lo hi : Nat} {W w1 : World} (h : Out lo hi W.drew w1) : Out lo hi W w1 := ⟨h.os, h.tape, h.output, h.size, h.block⟩

/-- an owned row whose block lies from lo on and below hi -/
def OI (w : World) (lo hi : Nat) (e : TypeId) (sz : Nat) (v : Value) (n : Nat) (xs : List Value) : Prop := w.ownsRow lo e sz v n xs ∧ ∀ k, v.ownBlock = some k → k < hi
section
variable {w w' : World} {lo hi lo' hi' n sz : Nat} {e : TypeId} {v : Value} {xs : List Value}
theorem OI.mk (h : w.ownsRow lo e sz v n xs) : OI w lo w.heap.size e sz v n xs := ⟨h, own_lt h⟩
theorem OI.keep (h : OI w lo hi e sz v n xs) (hs : SameIn lo hi w w') : OI w' lo hi e sz v n xs := by
  refine ⟨⟨h.1.1, ?_⟩, h.2⟩
  rcases h.1.2 with hn | ⟨g, cap, cur, rfl, hbg, hgg, rest⟩
  · exact .inl hn
  · refine .inr ⟨g, cap, cur, rfl, hbg, ?_, rest⟩
    rw [hs g hbg (h.2 g (by simp [Value.ownBlock]))]
    exact hgg
theorem OI.rd (h : OI w lo hi e sz v n xs) : ∃ A c, v = .slice A n c ∧ n ≤ c ∧ c ≤ maxLen ∧ Rd w lo hi sz A n xs := by
  rcases h.1.2 with ⟨rfl, hx⟩ | ⟨g, cap, cur, rfl, hbg, hgg, h1, h2, h3, h4⟩
  · subst hx
    exact ⟨none, 0, rfl, Nat.le_refl _, Nat.zero_le _, by have := h.1.1; simp at this; subst this; exact Rd.nil⟩
  · refine ⟨_, _, rfl, h1, h2, h.1.1, fun hn => ⟨g, 0, rfl, hbg, h.2 g (by simp [Value.ownBlock]), fun j u hu => ?_⟩⟩
    have := h.1.cells (g := g) rfl j u hu
    have hadd : (⟨g, 0, none⟩ : Addr).add j = ⟨g, 0 + j, none⟩ := by unfold Addr.add; split <;> simp_all
    rwa [hadd] at this
theorem OI.len (h : OI w lo hi e sz v n xs) : xs.length = n * sz := h.1.1
/-- nil, or a block known whole -/
theorem OI.cases (h : OI w lo hi e sz v n xs) : (v = .slice none 0 0 ∧ n = 0) ∨ ∃ g c cs, v = .slice (some ⟨g, 0, none⟩) n c ∧ lo ≤ g ∧ g < hi ∧ n ≤ c ∧ c ≤ maxLen ∧ Blk w g e cs ∧ cs.size = c * sz ∧ cs.toList.take (n * sz) = xs := by
  rcases h.1.2 with hn | ⟨g, cap, cur, rfl, hbg, hgg, h1, h2, h3, h4⟩
  · exact .inl hn
  · exact .inr ⟨g, cap, cur, rfl, hbg, h.2 g (by simp [Value.ownBlock]), h1, h2, hgg, h3, h4⟩
theorem OI.of_blk {g c : Nat} {cs : Array Value} (hb : Blk w g e cs) (h1 : lo ≤ g) (h2 : g < hi) (h3 : n ≤ c) (h4 : c ≤ maxLen) (h5 : cs.size = c * sz) (h6 : cs.toList.take (n * sz) = xs) : OI w lo hi e sz (.slice (some ⟨g, 0, none⟩) n c) n xs := by
  refine ⟨⟨?_, .inr ⟨g, c, cs, rfl, h1, hb, h3, h4, h5, h6⟩⟩, fun k hk => by simp [Value.ownBlock] at hk; omega⟩
  have : n * sz ≤ c * sz := Nat.mul_le_mul_right _ h3
  rw [← h6, List.length_take, Array.length_toList, h5]
  exact Nat.min_eq_left this
/-- behind an append onto a row v: what lies in a range that v's block is not of, is as it was -/
theorem SameIn.of_grown {v : Value} (hg : w.grownBy w' v.ownBlock) (h1 : hi ≤ w.heap.size) (hv : ∀ k, v.ownBlock = some k → k < lo ∨ hi ≤ k) : SameIn lo hi w w' :=
  fun b h2 h3 => hg.block b (by omega) (fun e => by have := hv b e.symm; omega)
theorem apart_grown {v v' : Value} {H : Nat} (h1 : hi ≤ H) (hv : ∀ k, v.ownBlock = some k → k < lo ∨ hi ≤ k) (hat : v'.ownBlock = v.ownBlock ∨ v'.ownBlock = some H) : ∀ k, v'.ownBlock = some k → k < lo ∨ hi ≤ k := by
  intro k hk
  rcases hat with e | e <;> rw [e] at hk
  · exact hv k hk
  · injection hk with hk; omega
theorem OI.nil : OI w lo hi e sz (.slice none 0 0) 0 [] := ⟨World.ownsRow_nil _ _ _ _, fun k hk => by simp [Value.ownBlock] at hk⟩
theorem OI.base (h : OI w lo hi e sz v n xs) (h1 : lo' ≤ lo) (h2 : hi ≤ hi') : OI w lo' hi' e sz v n xs := ⟨own_base h.1 h1, fun k hk => by have := h.2 k hk; omega⟩
end

theorem ba_ext {a b : ByteArray} (h : a.data.toList = b.data.toList) : a = b := by
  cases a; cases b; simp at h; subst h; rfl
theorem ba_app (a b : ByteArray) : (a ++ b).data.toList = a.data.toList ++ b.data.toList := by simp
end Go.Proofs.YtghpkfihdcjlaaaGreatDoor
