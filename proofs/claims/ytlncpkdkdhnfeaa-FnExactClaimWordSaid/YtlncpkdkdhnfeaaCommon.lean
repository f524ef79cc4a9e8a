/-
  Words for memory and numbers, used by the walks of this seat: slices that read as lists, blocks that are known whole, small facts. No program in sight.
-/
import Derived.WalkKit
import Derived.WalkSpells
import Derived.WalkLawsBesides
import Derived.Deep.Draws
import Derived.Deep.AppendLies
import Derived.Laws.MakeOwn
import Derived.Laws.OwnMore
import Derived.Laws.Rows
import Derived.Laws.BitsAllLaws
import Derived.Laws.BitsLemmas
import Derived.StillTailTactics
namespace Go.Proofs.Ytlncpkdkdhnfeaa
open Go.RowKit

/-- the range of an int -/
def I64 (n : Int) : Prop := -9223372036854775808 ≤ n ∧ n ≤ 9223372036854775807

theorem bcell {W w1 : World} (hb : Below W.heap.size W w1) : (∀ b o, b < W.heap.size → w1.cell? ⟨b, o, none⟩ = W.cell? ⟨b, o, none⟩) ∧ (∀ b o, b < W.heap.size → w1.frozen? ⟨b, o, none⟩ = W.frozen? ⟨b, o, none⟩) :=
  ⟨fun b o h => hb.cell (p := ⟨b, o, none⟩) h, fun b o h => hb.frozen (p := ⟨b, o, none⟩) h⟩

/-- 'Below' over draws -/
theorem below_drewN {B : Nat} {a w : World} (h : Below B a w) (n : Nat) : Below B a (w.drewN n) := ⟨h.os, h.tape, h.output, h.size, h.block⟩
theorem below_drew {B : Nat} {a w : World} (h : Below B a w) : Below B a w.drew := ⟨h.os, h.tape, h.output, h.size, h.block⟩

/-- the slice value '.slice A n c' holds the cells xs (sz cells an element), in a block from lo on and below hi -/
def Rd (w : World) (lo hi sz : Nat) (A : Option Addr) (n : Nat) (xs : List Value) : Prop :=
  xs.length = n * sz ∧ (0 < n → ∃ b off, A = some ⟨b, off, none⟩ ∧ lo ≤ b ∧ b < hi ∧ ∀ j u, xs[j]? = some u → w.cell? ⟨b, off + j, none⟩ = some u)

section
variable {w w' : World} {lo hi lo' hi' sz n : Nat} {A : Option Addr} {xs : List Value}
theorem Rd.nil : Rd w lo hi sz A 0 [] := ⟨by simp, fun h => absurd h (by omega)⟩
theorem Rd.keep (h : Rd w lo hi sz A n xs) (hk : ∀ b, lo ≤ b → b < hi → w'.heap[b]? = w.heap[b]?) : Rd w' lo hi sz A n xs :=
  ⟨h.1, fun hn => by
    obtain ⟨b, off, e, h1, h2, hc⟩ := h.2 hn
    exact ⟨b, off, e, h1, h2, fun j u hu => (World.cell?_of_block (hk b h1 h2)).trans (hc j u hu)⟩⟩
theorem Rd.below {B : Nat} (h : Rd w lo hi sz A n xs) (hb : Below B w w') (hB : hi ≤ B) : Rd w' lo hi sz A n xs := h.keep fun b _ h2 => hb.block b (by omega)
theorem Rd.more (h : Rd w lo hi sz A n xs) (h1 : lo' ≤ lo) (h2 : hi ≤ hi') : Rd w lo' hi' sz A n xs :=
  ⟨h.1, fun hn => by
    obtain ⟨b, off, e, h3, h4, hc⟩ := h.2 hn
    exact ⟨b, off, e, by omega, by omega, hc⟩⟩
end

/-- cells of a list of elements of two, three, four cells -/
def fl2 {α : Type} (f g : α → Value) (l : List α) : List Value := l.flatMap fun a => [f a, g a]
def fl3 {α : Type} (f g h : α → Value) (l : List α) : List Value := l.flatMap fun a => [f a, g a, h a]
def fl4 {α : Type} (f g h i : α → Value) (l : List α) : List Value := l.flatMap fun a => [f a, g a, h a, i a]

section
variable {α : Type} {f g h i : α → Value} {l : List α} {k : Nat} {a : α}
theorem fl2_length : (fl2 f g l).length = l.length * 2 := by
  induction l with
  | nil => rfl
  | cons x l ih => simp only [fl2, List.flatMap_cons, List.length_append] at *; simp [ih]; omega
theorem fl3_length : (fl3 f g h l).length = l.length * 3 := by
  induction l with
  | nil => rfl
  | cons x l ih => simp only [fl3, List.flatMap_cons, List.length_append] at *; simp [ih]; omega
theorem fl4_length : (fl4 f g h i l).length = l.length * 4 := by
  induction l with
  | nil => rfl
  | cons x l ih => simp only [fl4, List.flatMap_cons, List.length_append] at *; simp [ih]; omega
theorem fl2_at (hk : l[k]? = some a) : (fl2 f g l)[k * 2]? = some (f a) ∧ (fl2 f g l)[k * 2 + 1]? = some (g a) := by
  induction l generalizing k with
  | nil => simp at hk
  | cons x l ih =>
    cases k with
    | zero => simp at hk; subst hk; simp [fl2]
    | succ k =>
      have := ih (k := k) (by simpa using hk)
      simp only [fl2, List.flatMap_cons] at *
      constructor
      · rw [List.getElem?_append_right (by simp; omega)]; simpa [Nat.add_mul] using this.1
      · rw [List.getElem?_append_right (by simp; omega)]
        have e : (k + 1) * 2 + 1 - [f x, g x].length = k * 2 + 1 := by simp; omega
        rw [e]; exact this.2
theorem fl3_at (hk : l[k]? = some a) : (fl3 f g h l)[k * 3]? = some (f a) ∧ (fl3 f g h l)[k * 3 + 1]? = some (g a) ∧ (fl3 f g h l)[k * 3 + 2]? = some (h a) := by
  induction l generalizing k with
  | nil => simp at hk
  | cons x l ih =>
    cases k with
    | zero => simp at hk; subst hk; simp [fl3]
    | succ k =>
      have := ih (k := k) (by simpa using hk)
      simp only [fl3, List.flatMap_cons] at *
      refine ⟨?_, ?_, ?_⟩
      · rw [List.getElem?_append_right (by simp; omega)]
        have e : (k + 1) * 3 - [f x, g x, h x].length = k * 3 := by simp; omega
        rw [e]; exact this.1
      · rw [List.getElem?_append_right (by simp; omega)]
        have e : (k + 1) * 3 + 1 - [f x, g x, h x].length = k * 3 + 1 := by simp; omega
        rw [e]; exact this.2.1
      · rw [List.getElem?_append_right (by simp; omega)]
        have e : (k + 1) * 3 + 2 - [f x, g x, h x].length = k * 3 + 2 := by simp; omega
        rw [e]; exact this.2.2
theorem fl4_at (hk : l[k]? = some a) : (fl4 f g h i l)[k * 4]? = some (f a) ∧ (fl4 f g h i l)[k * 4 + 1]? = some (g a) ∧ (fl4 f g h i l)[k * 4 + 2]? = some (h a) ∧ (fl4 f g h i l)[k * 4 + 3]? = some (i a) := by
  induction l generalizing k with
  | nil => simp at hk
  | cons x l ih =>
    cases k with
    | zero => simp at hk; subst hk; simp [fl4]
    | succ k =>
      have := ih (k := k) (by simpa using hk)
      simp only [fl4, List.flatMap_cons] at *
      refine ⟨?_, ?_, ?_, ?_⟩
      · rw [List.getElem?_append_right (by simp; omega)]
        have e : (k + 1) * 4 - [f x, g x, h x, i x].length = k * 4 := by simp; omega
        rw [e]; exact this.1
      · rw [List.getElem?_append_right (by simp; omega)]
        have e : (k + 1) * 4 + 1 - [f x, g x, h x, i x].length = k * 4 + 1 := by simp; omega
        rw [e]; exact this.2.1
      · rw [List.getElem?_append_right (by simp; omega)]
        have e : (k + 1) * 4 + 2 - [f x, g x, h x, i x].length = k * 4 + 2 := by simp; omega
        rw [e]; exact this.2.2.1
      · rw [List.getElem?_append_right (by simp; omega)]
        have e : (k + 1) * 4 + 3 - [f x, g x, h x, i x].length = k * 4 + 3 := by simp; omega
        rw [e]; exact this.2.2.2
theorem fl2_append (l m : List α) : fl2 f g (l ++ m) = fl2 f g l ++ fl2 f g m := by simp [fl2]
theorem fl3_append (l m : List α) : fl3 f g h (l ++ m) = fl3 f g h l ++ fl3 f g h m := by simp [fl3]
theorem fl4_append (l m : List α) : fl4 f g h i (l ++ m) = fl4 f g h i l ++ fl4 f g h i m := by simp [fl4]

variable {w : World} {lo hi n : Nat} {A : Option Addr}
theorem Rd.at1 (hd : Rd w lo hi 1 A n (l.map f)) (hk : k < n) : ∃ b off a, A = some ⟨b, off, none⟩ ∧ lo ≤ b ∧ b < hi ∧ l[k]? = some a ∧ w.cell? ⟨b, off + k, none⟩ = some (f a) := by
  obtain ⟨b, off, e, h1, h2, hc⟩ := hd.2 (by omega)
  have hl : k < l.length := by have := hd.1; simp at this; omega
  exact ⟨b, off, l[k], e, h1, h2, List.getElem?_eq_getElem hl, hc k _ (by simp [hl])⟩
theorem Rd.at2 (hd : Rd w lo hi 2 A n (fl2 f g l)) (hk : k < n) : ∃ b off a, A = some ⟨b, off, none⟩ ∧ lo ≤ b ∧ b < hi ∧ l[k]? = some a ∧ w.cell? ⟨b, off + k * 2, none⟩ = some (f a) ∧ w.cell? ⟨b, off + k * 2 + 1, none⟩ = some (g a) := by
  obtain ⟨b, off, e, h1, h2, hc⟩ := hd.2 (by omega)
  have hl : k < l.length := by have := hd.1; rw [fl2_length] at this; omega
  have q := fl2_at (f := f) (g := g) (List.getElem?_eq_getElem hl)
  exact ⟨b, off, l[k], e, h1, h2, List.getElem?_eq_getElem hl, hc _ _ q.1, by rw [Nat.add_assoc]; exact hc _ _ q.2⟩
theorem Rd.at3 (hd : Rd w lo hi 3 A n (fl3 f g h l)) (hk : k < n) : ∃ b off a, A = some ⟨b, off, none⟩ ∧ lo ≤ b ∧ b < hi ∧ l[k]? = some a ∧ w.cell? ⟨b, off + k * 3, none⟩ = some (f a) ∧ w.cell? ⟨b, off + k * 3 + 1, none⟩ = some (g a) ∧
    w.cell? ⟨b, off + k * 3 + 2, none⟩ = some (h a) := by
  obtain ⟨b, off, e, h1, h2, hc⟩ := hd.2 (by omega)
  have hl : k < l.length := by have := hd.1; rw [fl3_length] at this; omega
  have q := fl3_at (f := f) (g := g) (h := h) (List.getElem?_eq_getElem hl)
  exact ⟨b, off, l[k], e, h1, h2, List.getElem?_eq_getElem hl, hc _ _ q.1, by rw [Nat.add_assoc]; exact hc _ _ q.2.1, by rw [Nat.add_assoc]; exact hc _ _ q.2.2⟩
end

/-- block g is just the cells cs of element type t, none frozen -/
def Blk (w : World) (g : Nat) (t : TypeId) (cs : Array Value) : Prop := w.heap[g]? = some (.cells cs t (0, 0))

section
variable {w w' : World} {g : Nat} {t : TypeId} {cs : Array Value}
theorem Blk.lt (h : Blk w g t cs) : g < w.heap.size := by
  rcases Nat.lt_or_ge g w.heap.size with hlt | hge
  · exact hlt
  · unfold Blk at h; rw [Array.getElem?_eq_none hge] at h; cases h
theorem Blk.cell (h : Blk w g t cs) (i : Nat) : w.cell? ⟨g, i, none⟩ = cs[i]? := cell_of_row w g i cs t (0, 0) h
theorem Blk.frozen (h : Blk w g t cs) (i : Nat) : w.frozen? ⟨g, i, none⟩ = false := by
  unfold Blk at h
  simp [World.frozen?, h]
theorem Blk.new (w : World) (t : TypeId) (cs : Array Value) : Blk (w.alloc (.cells cs t)) w.heap.size t cs := heap_alloc_new w _
theorem Blk.alloc (h : Blk w g t cs) (o : Obj) : Blk (w.alloc o) g t cs := (Below.heap_alloc w o g h.lt).trans h
theorem Blk.set_ (h : Blk w g t cs) (i : Nat) (u : Value) : Blk (w.setCell ⟨g, i, none⟩ u) g t (cs.setIfInBounds i u) := by
  unfold Blk at h ⊢
  simp [World.setCell, Array.getElem?_modify, h]
theorem Blk.far (h : Blk w g t cs) {p : Addr} (hp : g ≠ p.block) (u : Value) : Blk (w.setCell p u) g t cs := (Below.heap_setCell w p u g hp).trans h
theorem Blk.below {B : Nat} (h : Blk w g t cs) (hb : Below B w w') (hg : g < B) : Blk w' g t cs := (hb.block g hg).trans h
theorem Blk.grown {row : Option Nat} (h : Blk w g t cs) (hb : w.grownBy w' row) (hg : some g ≠ row) : Blk w' g t cs := (hb.block g h.lt hg).trans h
end

section
variable {w w' : World} {base sz n : Nat} {e : TypeId} {v : Value} {xs : List Value}
/-- an owned row, behind a call that touches nothing that was there -/
theorem own_below {B : Nat} (h : w.ownsRow base e sz v n xs) (hb : Below B w w') (hB : w.heap.size ≤ B) : w'.ownsRow base e sz v n xs := by
  refine ⟨h.1, ?_⟩
  rcases h.2 with hn | ⟨g, cap, cur, rfl, hbg, hgg, rest⟩
  · exact .inl hn
  · refine .inr ⟨g, cap, cur, rfl, hbg, ?_, rest⟩
    rw [hb.block g (by have := (Array.getElem?_eq_some_iff.1 hgg).1; omega)]
    exact hgg
theorem own_base {base' : Nat} (h : w.ownsRow base e sz v n xs) (hb : base' ≤ base) : w.ownsRow base' e sz v n xs := by
  refine ⟨h.1, ?_⟩
  rcases h.2 with hn | ⟨g, cap, cur, rfl, hbg, rest⟩
  · exact .inl hn
  · exact .inr ⟨g, cap, cur, rfl, by omega, rest⟩
/-- an owned row reads as a list -/
theorem own_rd (h : w.ownsRow base e sz v n xs) : ∃ A c, v = .slice A n c ∧ n ≤ c ∧ c ≤ maxLen ∧ Rd w base w.heap.size sz A n xs := by
  rcases h.2 with ⟨rfl, hx⟩ | ⟨g, cap, cur, rfl, hbg, hgg, h1, h2, h3, h4⟩
  · subst hx
    exact ⟨none, 0, rfl, Nat.le_refl _, Nat.zero_le _, by have := h.1; simp at this; subst this; exact Rd.nil⟩
  · refine ⟨_, _, rfl, h1, h2, h.1, fun hn => ⟨g, 0, rfl, hbg, (Array.getElem?_eq_some_iff.1 hgg).1, fun j u hu => ?_⟩⟩
    have := h.cells (g := g) rfl j u hu
    have hadd : (⟨g, 0, none⟩ : Addr).add j = ⟨g, 0 + j, none⟩ := by unfold Addr.add; split <;> simp_all
    rwa [hadd] at this
end

theorem run_make_rowN {P : Program} (t e : TypeId) (i : TypeInfo) (z : Value) (ht : P.underlying t = some (.slice e)) (hi : P.info? e = some i) (hz : i.zero = some z)
    (kl kc : IntKind) (n c : Nat) (hnc : n ≤ c) (hbytes : i.bytes * c ≤ 281474976710656) (h63 : c ≤ 9223372036854775807) (w : World) :
    (Instr.makeSlice t (.int kl (n : Int)) (.int kc (c : Int))).run P w = .ok (.slice (some ⟨w.heap.size, 0, none⟩) n c) (w.alloc (.cells (madeCells z.cells (c * i.size)) e)) := by
  have hb : (i.bytes : Int) * (c : Int) ≤ 281474976710656 := by
    have h : ((i.bytes * c : Nat) : Int) ≤ 281474976710656 := by omega
    rwa [Int.natCast_mul] at h
  have hr := run_make (P := P) w t e i z ht hi hz kl kc n c (by omega) (by omega) hb (by omega)
  simp only [Int.toNat_natCast] at hr
  exact hr

end Go.Proofs.Ytlncpkdkdhnfeaa
