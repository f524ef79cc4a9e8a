
/-
  A list of rows of integers: what a walk owns of it, what it reads of it; products of rows, plain. A row taken out of a list of rows. No program in sight.
-/
import Derived.Test.YtjkppigjajknaaaGreatDoorSepX
namespace Go.Proofs.YtjkppigjajknaaaGreatDoor
open Go.RowKit

/-- rows that lie apart from each other, each under its own value -/
structure RowsAt (w : World) (vs : List Value) (M : List (List Int)) : Prop where
  len : vs.length = M.length
  own : ∀ (i : Nat) (u : Value) (r : List Int), vs[i]? = some u → M[i]? = some r → w.ownsRow 0 3 1 u r.length (ic r)
  apart : ∀ (i j : Nat) (u u' : Value), i ≠ j → vs[i]? = some u → vs[j]? = some u' → ∀ b, u.ownBlock = some b → u'.ownBlock ≠ some b
theorem RowsAt.row {w : World} {vs : List Value} {M : List (List Int)} (h : RowsAt w vs M) {u : Value} (hu : u ∈ vs) : ∃ (i : Nat) (r : List Int), vs[i]? = some u ∧ M[i]? = some r ∧ w.ownsRow 0 3 1 u r.length (ic r) := by
  obtain ⟨i, hi⟩ := List.getElem?_of_mem hu
  have hlt : i < M.length := by have := (List.getElem?_eq_some_iff.1 hi).1; rw [h.len] at this; exact this
  exact ⟨i, M[i], hi, List.getElem?_eq_getElem hlt, h.own i u _ hi (List.getElem?_eq_getElem hlt)⟩
def Res.rows (vs : List Value) (M : List (List Int)) : Res := ⟨fun b => ∃ u ∈ vs, u.ownBlock = some b, fun w => RowsAt w vs M,
  fun hs h => ⟨h.len, fun i u r hu hr => own_keep (h.own i u r hu hr) fun b hb => hs b ⟨u, List.mem_of_getElem? hu, hb⟩, h.apart⟩,
  fun h ⟨u, hu, hb⟩ => by obtain ⟨i, r, _, _, ho⟩ := RowsAt.row h hu; exact own_lt ho _ hb⟩
section
variable {w0 w w' : World} {L K : List Res} {vs : List Value} {M : List (List Int)}
theorem Sep.rowsNil (h : Sep w0 w L) : Sep w0 w (Res.rows [] [] :: L) :=
  h.new (Below.refl _ _) ⟨rfl, fun i u r hu => by simp at hu, fun i j u u' _ hu => by simp at hu⟩ (fun b ⟨u, hu, _⟩ => by simp at hu)
theorem Sep.join : ∀ {K : List Res}, Sep w w' K → Sep w0 w L → Sep w0 w' (K ++ L)
  | [], hb, H => H.step hb
  | r :: K, h, H => ⟨h.1, fun b hb => Nat.le_trans H.size (h.2.1 b hb), fun q hq b hb hq' => by
      rcases List.mem_append.1 hq with hq | hq
      · exact h.2.2.1 q hq b hb hq'
      · have h1 := q.inn (H.inn q hq).1 hq'
        have h2 := h.2.1 b hb
        omega, Sep.join h.2.2.2 H⟩
/-- a row goes to the end of the rows -/
theorem Sep.rowsSnoc {u : Value} {n : Nat} {r : List Int} (h : Sep w0 w (Res.rows vs M :: Res.row u 3 1 n (ic r) :: L)) (hn : n = r.length) : Sep w0 w (Res.rows (vs ++ [u]) (M ++ [r]) :: L) := by
  subst hn
  have hl : vs.length = M.length := RowsAt.len h.h0
  have ha : ∀ x ∈ vs, ∀ b, x.ownBlock = some b → u.ownBlock ≠ some b := fun x hx b hb hb' => h.2.2.1 (Res.row u 3 1 r.length (ic r)) (by simp) b ⟨x, hx, hb⟩ hb'
  refine ⟨⟨by simp [hl], ?_, ?_⟩, ?_, ?_, h.drop.drop⟩
  · intro i x q hx hq
    by_cases hi : i < vs.length
    · rw [List.getElem?_append_left hi] at hx
      rw [List.getElem?_append_left (by omega)] at hq
      exact RowsAt.own h.h0 i x q hx hq
    · rw [List.getElem?_append_right (by omega)] at hx
      rw [List.getElem?_append_right (by omega)] at hq
      have hx := List.mem_of_getElem? hx
      have hq := List.mem_of_getElem? hq
      simp at hx hq
      subst hx hq
      exact h.h1
  · intro i j x x' hij hx hx' b hb
    by_cases hi : i < vs.length
    · rw [List.getElem?_append_left hi] at hx
      by_cases hj : j < vs.length
      · rw [List.getElem?_append_left hj] at hx'
        exact RowsAt.apart h.h0 i j x x' hij hx hx' b hb
      · rw [List.getElem?_append_right (by omega)] at hx'
        have hx' := List.mem_of_getElem? hx'
        simp at hx'
        subst hx'
        exact ha x (List.mem_of_getElem? hx) b hb
    · have hi' := (List.getElem?_eq_some_iff.1 hx).1
      rw [List.getElem?_append_right (by omega)] at hx
      have hx := List.mem_of_getElem? hx
      simp at hx
      subst hx
      by_cases hj : j < vs.length
      · rw [List.getElem?_append_left hj] at hx'
        intro hb'
        exact ha x' (List.mem_of_getElem? hx') b hb' hb
      · have hj' := (List.getElem?_eq_some_iff.1 hx').1
        simp at hi' hj'
        omega
  · intro b ⟨x, hx, hb⟩
    rcases List.mem_append.1 hx with hx | hx
    · exact h.2.1 b ⟨x, hx, hb⟩
    · simp at hx
      subst hx
      exact h.drop.2.1 b hb
  · intro q hq b ⟨x, hx, hb⟩
    rcases List.mem_append.1 hx with hx | hx
    · exact h.2.2.1 q (by simp [hq]) b ⟨x, hx, hb⟩
    · simp at hx
      subst hx
      exact h.drop.2.2.1 q hq b hb
theorem set_mem {α : Type} {l : List α} {i j : Nat} {u x : α} (h : (l.set i u)[j]? = some x) : (j = i ∧ x = u) ∨ (j ≠ i ∧ l[j]? = some x) := by
  by_cases e : j = i
  · subst e
    have hl := (List.getElem?_eq_some_iff.1 h).1
    rw [List.length_set] at hl
    rw [List.getElem?_set_self hl] at h
    injection h with h
    exact .inl ⟨rfl, h.symm⟩
  · rw [List.getElem?_set_ne (fun h => e h.symm)] at h
    exact .inr ⟨e, h⟩
/-- a row takes a place among the rows -/
theorem Sep.rowsPut {u : Value} {n : Nat} {r : List Int} (h : Sep w0 w (Res.rows vs M :: Res.row u 3 1 n (ic r) :: L)) (hn : n = r.length) (i : Nat) : Sep w0 w (Res.rows (vs.set i u) (M.set i r) :: L) := by
  subst hn
  have hl : vs.length = M.length := RowsAt.len h.h0
  have ha : ∀ x ∈ vs, ∀ b, x.ownBlock = some b → u.ownBlock ≠ some b := fun x hx b hb hb' => h.2.2.1 (Res.row u 3 1 r.length (ic r)) (by simp) b ⟨x, hx, hb⟩ hb'
  refine ⟨⟨by simp [hl], ?_, ?_⟩, ?_, ?_, h.drop.drop⟩
  · intro j x q hx hq
    rcases set_mem hx with ⟨rfl, rfl⟩ | ⟨hj, hx⟩
    · rcases set_mem hq with ⟨_, rfl⟩ | ⟨hj, _⟩
      · exact h.h1
      · exact absurd rfl hj
    · rcases set_mem hq with ⟨e, _⟩ | ⟨_, hq⟩
      · exact absurd e hj
      · exact RowsAt.own h.h0 j x q hx hq
  · intro j k x x' hjk hx hx' b hb
    rcases set_mem hx with ⟨e1, e2⟩ | ⟨hj, hx2⟩
    · rcases set_mem hx' with ⟨e, _⟩ | ⟨_, hx3⟩
      · exact absurd (e1.trans e.symm) hjk
      · rw [e2] at hb
        exact fun hb' => ha x' (List.mem_of_getElem? hx3) b hb' hb
    · rcases set_mem hx' with ⟨e1, e2⟩ | ⟨_, hx3⟩
      · rw [e2]
        exact ha x (List.mem_of_getElem? hx2) b hb
      · exact RowsAt.apart h.h0 j k x x' hjk hx2 hx3 b hb
  · intro b ⟨x, hx, hb⟩
    obtain ⟨j, hx⟩ := List.getElem?_of_mem hx
    rcases set_mem hx with ⟨_, rfl⟩ | ⟨_, hx⟩
    · exact h.drop.2.1 b hb
    · exact h.2.1 b ⟨x, List.mem_of_getElem? hx, hb⟩
  · intro q hq b ⟨x, hx, hb⟩
    obtain ⟨j, hx⟩ := List.getElem?_of_mem hx
    rcases set_mem hx with ⟨_, rfl⟩ | ⟨_, hx⟩
    · exact h.drop.2.2.1 q hq b hb
    · exact h.2.2.1 q (by simp [hq]) b ⟨x, List.mem_of_getElem? hx, hb⟩
/-- a row that is not empty, among the rows -/
theorem RowsAt.shape (h : RowsAt w vs M) {i : Nat} {u : Value} {r : List Int} (hu : vs[i]? = some u) (hr : M[i]? = some r) (hn : 0 < r.length) :
    ∃ g c, u = .slice (some ⟨g, 0, none⟩) r.length c ∧ r.length ≤ c ∧ c ≤ maxLen ∧ g < w.heap.size ∧ (∀ j, w.frozen? ⟨g, j, none⟩ = false) ∧ ∀ (j : Nat) (a : Int), r[j]? = some a → w.cell? ⟨g, j, none⟩ = some (.int .i64 a) := by
  have ho := h.own i u r hu hr
  obtain ⟨g, off, c, rfl, h1, h2, h3⟩ := own_shape ho hn
  obtain ⟨rfl, _⟩ := own_blk ho
  exact ⟨g, c, rfl, h1, h2, h3, fun j => by have := own_free ho j; rwa [Nat.zero_add] at this, fun j a ha => by have := own_cell1 ho ha; rwa [Nat.zero_add] at this⟩
/-- a cell of a row is written -/
theorem Sep.rowsSet {g i j n c : Nat} {r : List Int} (h : Sep w0 w (Res.rows vs M :: L)) (hu : vs[i]? = some (.slice (some ⟨g, 0, none⟩) n c)) (hr : M[i]? = some r) (x : Int) :
    Sep w0 (w.setCell ⟨g, j, none⟩ (.int .i64 x)) (Res.rows vs (M.set i (r.set j x)) :: L) := by
  have hR : RowsAt w vs M := h.h0
  have ho := hR.own i _ r hu hr
  have hn : n = r.length := by
    rcases ho.2 with ⟨h0, _⟩ | ⟨g', cap, cur, e', _⟩
    · cases h0
    · injection e'
  have hg : Only (fun b => b = g) w (w.setCell ⟨g, j, none⟩ (.int .i64 x)) := Only.setCell w _ _
  have hk : ∀ (k : Nat) (u : Value), vs[k]? = some u → k ≠ i → ∀ b, u.ownBlock = some b → (w.setCell ⟨g, j, none⟩ (.int .i64 x)).heap[b]? = w.heap[b]? := fun k u hk hne b hb =>
    Below.heap_setCell w _ _ b (fun e => hR.apart k i u _ hne hk hu b hb (by subst e; rfl))
  refine h.turn (Only.mk hg.os hg.tape hg.output hg.size fun b hb' hd => hg.block b hb' (fun e => hd ⟨_, List.mem_of_getElem? hu, by subst e; rfl⟩)) (r' := Res.rows vs (M.set i (r.set j x))) ⟨by simpa using hR.len, ?_, hR.apart⟩ fun b hb => .inl hb
  intro k u q hk' hq
  rcases set_mem hq with ⟨rfl, rfl⟩ | ⟨hne, hq⟩
  · rw [hk'] at hu
    injection hu with hu
    subst hu
    obtain ⟨h1, h2⟩ := ho
    refine ⟨by rw [ic_length, List.length_set]; simp, ?_⟩
    rcases h2 with ⟨h0, _⟩ | ⟨g', cap, cur, e', h3, hb, h4, h5, h6, h7⟩
    · cases h0
    · injection e' with e1 e2 e3
      injection e1 with e1
      injection e1 with e1
      subst e1 e3
      refine .inr ⟨g, c, _, by rw [List.length_set, hn], h3, Blk.set_ hb j _, by rw [List.length_set]; exact h4, h5, by simpa using h6, ?_⟩
      rw [Array.toList_setIfInBounds, List.length_set, List.take_set, h7, ic_set]
  · exact own_keep (hR.own k u q hk' hq) (hk k u hk' hne)

/-- rows that are only read -/
def IntSlots (w : World) (lo hi : Nat) (vs : List Value) (M : List (List Int)) : Prop := vs.length = M.length ∧ ∀ (i : Nat) (r : List Int), M[i]? = some r → ∃ x, vs[i]? = some x ∧ IntsRd w lo hi x r
def IntSSRd (w : World) (lo hi : Nat) (v : Value) (M : List (List Int)) : Prop := ∃ vs : List Value, SR w lo hi 1 v M.length vs ∧ IntSlots w lo hi vs M
variable {lo hi lo' hi' : Nat} {v : Value}
theorem IntSlots.keep (h : IntSlots w lo hi vs M) (hs : SameIn lo hi w w') : IntSlots w' lo hi vs M := ⟨h.1, fun i u hu => by obtain ⟨x, h1, h2⟩ := h.2 i u hu; exact ⟨x, h1, h2.keep hs⟩⟩
theorem IntSlots.more (h : IntSlots w lo hi vs M) (h1 : lo' ≤ lo) (h2 : hi ≤ hi') : IntSlots w lo' hi' vs M := ⟨h.1, fun i u hu => by obtain ⟨x, h3, h4⟩ := h.2 i u hu; exact ⟨x, h3, h4.more h1 h2⟩⟩
theorem IntSSRd.keep (h : IntSSRd w lo hi v M) (hs : SameIn lo hi w w') : IntSSRd w' lo hi v M := by
  obtain ⟨vs, h1, h2⟩ := h
  exact ⟨vs, h1.keep hs, h2.keep hs⟩
theorem IntSSRd.more (h : IntSSRd w lo hi v M) (h1 : lo' ≤ lo) (h2 : hi ≤ hi') : IntSSRd w lo' hi' v M := by
  obtain ⟨vs, h3, h4⟩ := h
  exact ⟨vs, h3.more h1 h2, h4.more h1 h2⟩
theorem Sep.ssRd {n : Nat} {e : TypeId} (h : Sep w0 w (Res.row v e 1 n vs :: Res.rows vs M :: L)) (hn : n = M.length) : IntSSRd w 0 w.heap.size v M := by
  subst hn
  refine ⟨vs, (Sep.oi h).sr.more (Nat.zero_le _) (Nat.le_refl _), RowsAt.len h.h1, fun i r hr => ?_⟩
  have hR : RowsAt w vs M := h.h1
  have hl : i < vs.length := by rw [hR.len]; exact (List.getElem?_eq_some_iff.1 hr).1
  exact ⟨vs[i], List.getElem?_eq_getElem hl, OI.sr (lo := 0) ⟨hR.own i _ r (List.getElem?_eq_getElem hl) hr, fun k hk => own_lt (hR.own i _ r (List.getElem?_eq_getElem hl) hr) k hk⟩⟩
end

/-! products, in the machine's integers -/
def wr (x : Int) : Int := wrap64 x
def at2 (M : List (List Int)) (i j : Nat) : Int := ((M.getD i []).getD j 0)
def dot (v : List Int) (M : List (List Int)) (c : Nat) : Nat → Int
  | 0 => 0
  | k + 1 => wr (dot v M c k + wr (v.getD k 0 * at2 M k c))
def dotRow (n : Nat) (v : List Int) (M : List (List Int)) (f : Nat → Nat) : List Int := (List.range n).map fun c => dot v M c (f c)
theorem dotRow_len {n : Nat} {v : List Int} {M : List (List Int)} {f : Nat → Nat} : (dotRow n v M f).length = n := by simp [dotRow]
theorem dotRow_at {n : Nat} {v : List Int} {M : List (List Int)} {f : Nat → Nat} {c : Nat} (hc : c < n) : (dotRow n v M f)[c]? = some (dot v M c (f c)) := by simp [dotRow, hc]
theorem dotRow_set {n : Nat} {v : List Int} {M : List (List Int)} {f g : Nat → Nat} {c : Nat} (h : ∀ d, d < n → d ≠ c → g d = f d) : (dotRow n v M f).set c (dot v M c (g c)) = dotRow n v M g := by
  apply List.ext_getElem?
  intro d
  by_cases hd : d < n
  · rw [dotRow_at hd]
    by_cases e : d = c
    · subst e
      rw [List.getElem?_set_self (by rw [dotRow_len]; exact hd)]
    · rw [List.getElem?_set_ne (fun h => e h.symm), dotRow_at hd, h d hd e]
  · rw [List.getElem?_eq_none (by rw [List.length_set, dotRow_len]; omega), List.getElem?_eq_none (by rw [dotRow_len]; omega)]
theorem dotRow_put {n : Nat} {v : List Int} {M : List (List Int)} {f g : Nat → Nat} {c : Nat} {x : Int} (h : ∀ d, d < n → d ≠ c → g d = f d) (hx : x = dot v M c (g c)) : (dotRow n v M f).set c x = dotRow n v M g := by
  rw [hx]; exact dotRow_set h
theorem dotRow_zero {n : Nat} {v : List Int} {M : List (List Int)} {f : Nat → Nat} (h : ∀ d, d < n → f d = 0) : dotRow n v M f = List.replicate n 0 := by
  apply List.ext_getElem?
  intro d
  by_cases hd : d < n
  · rw [dotRow_at hd, h d hd, List.getElem?_replicate, if_pos hd]; rfl
  · rw [List.getElem?_eq_none (by rw [dotRow_len]; omega), List.getElem?_eq_none (by simp; omega)]
theorem dotRow_congr {n : Nat} {v : List Int} {M : List (List Int)} {f g : Nat → Nat} (h : ∀ d, d < n → g d = f d) : dotRow n v M g = dotRow n v M f := by
  apply List.ext_getElem?
  intro d
  by_cases hd : d < n
  · rw [dotRow_at hd, dotRow_at hd, h d hd]
  · rw [List.getElem?_eq_none (by rw [dotRow_len]; omega), List.getElem?_eq_none (by rw [dotRow_len]; omega)]
/-- the row behind v -/
def nextV (M : List (List Int)) (v : List Int) : List Int := dotRow M.length v M fun _ => M.length
theorem nextV_len {M : List (List Int)} {v : List Int} : (nextV M v).length = M.length := dotRow_len
def mulM (A B : List (List Int)) : List (List Int) := A.map fun r => nextV B r
end Go.Proofs.YtjkppigjajknaaaGreatDoor

namespace Go.Proofs.YtjkppigjajknaaaGreatDoor
open Go.RowKit

section
variable {w0 w w' : World} {L K : List Res} {vs : List Value} {M : List (List Int)}
/-- a row leaves the rows; nil stands in its place -/
theorem Sep.rowsTake {k : Nat} {u : Value} {r : List Int} (h : Sep w0 w (Res.rows vs M :: L)) (hu : vs[k]? = some u) (hr : M[k]? = some r) :
    Sep w0 w (Res.row u 3 1 r.length (ic r) :: Res.rows (vs.set k (.slice none 0 0)) (M.set k []) :: L) := by
  have hR : RowsAt w vs M := h.h0
  have hnil : ∀ b, (Value.slice none 0 0).ownBlock ≠ some b := fun b hb => by simp [Value.ownBlock] at hb
  refine ⟨hR.own k u r hu hr, fun b hb => h.2.1 b ⟨u, List.mem_of_getElem? hu, hb⟩, fun q hq b hb hq' => ?_, ⟨by simpa using hR.len, ?_, ?_⟩, ?_, ?_, h.drop⟩
  · rcases List.mem_cons.1 hq with rfl | hq
    · obtain ⟨x, hx, hb'⟩ := hq'
      obtain ⟨j, hx⟩ := List.getElem?_of_mem hx
      rcases set_mem hx with ⟨_, rfl⟩ | ⟨hne, hx⟩
      · exact hnil b hb'
      · exact hR.apart j k x u hne hx hu b hb' hb
    · exact h.2.2.1 q hq b ⟨u, List.mem_of_getElem? hu, hb⟩ hq'
  · intro j x q hx hq
    rcases set_mem hx with ⟨rfl, rfl⟩ | ⟨hj, hx⟩
    · rcases set_mem hq with ⟨_, rfl⟩ | ⟨hj, _⟩
      · exact World.ownsRow_nil _ _ _ _
      · exact absurd rfl hj
    · rcases set_mem hq with ⟨e, _⟩ | ⟨_, hq⟩
      · exact absurd e hj
      · exact hR.own j x q hx hq
  · intro i j x x' hij hx hx' b hb
    rcases set_mem hx with ⟨_, e2⟩ | ⟨hj, hx2⟩
    · subst e2
      exact absurd hb (hnil b)
    · rcases set_mem hx' with ⟨_, e2⟩ | ⟨_, hx3⟩
      · subst e2
        exact hnil b
      · exact hR.apart i j x x' hij hx2 hx3 b hb
  · intro b ⟨x, hx, hb⟩
    obtain ⟨j, hx⟩ := List.getElem?_of_mem hx
    rcases set_mem hx with ⟨_, rfl⟩ | ⟨_, hx⟩
    · exact absurd hb (hnil b)
    · exact h.2.1 b ⟨x, List.mem_of_getElem? hx, hb⟩
  · intro q hq b ⟨x, hx, hb⟩
    obtain ⟨j, hx⟩ := List.getElem?_of_mem hx
    rcases set_mem hx with ⟨_, rfl⟩ | ⟨_, hx⟩
    · exact absurd hb (hnil b)
    · exact h.2.2.1 q hq b ⟨x, List.mem_of_getElem? hx, hb⟩
end
end Go.Proofs.YtjkppigjajknaaaGreatDoor
