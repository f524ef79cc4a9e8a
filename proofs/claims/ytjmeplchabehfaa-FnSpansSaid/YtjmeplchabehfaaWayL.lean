
/-
  The law's own search across the board.
-/
import Derived.Test.YtjmeplchabehfaaWayH
import Derived.Test.YtjmeplchabehfaaSep
namespace Go.Proofs.Ytjmeplchabehfaa
open Go.RowKit

def nr (corners : Bool) (c d : Cell) : Bool := corners || nearB c d
def aroundC (corners : Bool) (c : Cell) : List Cell := (roundsL c).filter (nr corners c)
def inB (r : Reg) (c : Cell) : Bool := decide (0 ≤ c.x ∧ c.x < r.w ∧ 0 ≤ c.y ∧ c.y < r.rows.length)
def opnC (r : Reg) (cells : Bool) (c : Cell) : Bool := inB r c && (r.has c.x c.y == cells)
def doneC (r : Reg) (rows : Bool) (c : Cell) : Bool := if rows then c.y == (r.rows.length : Int) - 1 else c.x == r.w - 1
def startC (rows : Bool) (n : Nat) : List Cell := (List.range n).map fun j : Nat => if rows then ⟨j, 0⟩ else ⟨0, j⟩
def sideC (r : Reg) (rows : Bool) : Nat := if rows then r.w.toNat else r.rows.length
def wayC (r : Reg) (cells corners rows : Bool) : Option (List Cell) := bfs (aroundC corners) (opnC r cells) (doneC r rows) 37 (roots (opnC r cells) (startC rows (sideC r rows))) 0
theorem startC_succ {rows : Bool} {n : Nat} : startC rows (n + 1) = startC rows n ++ [if rows then ⟨n, 0⟩ else ⟨0, n⟩] := by unfold startC; rw [List.range_succ, List.map_append]; rfl
theorem startC_length {rows : Bool} {n : Nat} : (startC rows n).length = n := by simp [startC]
theorem roots_append {opn : Cell → Bool} {l m : List Cell} : roots opn (l ++ m) = roots opn l ++ roots opn m := by simp [roots]
theorem roots_one {opn : Cell → Bool} {c : Cell} : roots opn [c] = if opn c = true then [(c, c)] else [] := by
  cases h : opn c <;> simp [roots, h]
theorem roots_le {opn : Cell → Bool} {l : List Cell} : (roots opn l).length ≤ l.length := by unfold roots; rw [List.length_map]; exact List.length_filter_le _ _
theorem startC_nodup {rows : Bool} {n : Nat} : (startC rows n).Nodup := by
  induction n with
  | zero => simp [startC]
  | succ n ih =>
    rw [startC_succ, List.nodup_append]
    refine ⟨ih, by simp, fun a ha b hb => ?_⟩
    simp [startC] at ha hb
    obtain ⟨m, hm, rfl⟩ := ha
    subst hb
    intro e
    cases rows <;> simp at e <;> omega
theorem inB_near {r : Reg} (hv : r.Valid) {c : Cell} (h : inB r c = true) : Near c := by
  have h1 := hv.2.1
  have h2 := hv.2.2.2.1
  simp [inB] at h
  unfold Near
  omega

/-- the indices of the cells that each was seen from -/
def Par (S : List (Cell × Cell)) (F : List Int) : Prop := F.length = S.length ∧ ∀ (j : Nat) (c p : Cell), S[j]? = some (c, p) → (F[j]? = some (-1) ∧ p = c) ∨ ∃ (k : Nat) (q : Cell), F[j]? = some (k : Int) ∧ k < j ∧ S[k]? = some (p, q) ∧ p ≠ c
theorem Par.nil : Par [] [] := ⟨rfl, fun j c p h => by simp at h⟩
theorem Par.snoc {S : List (Cell × Cell)} {F : List Int} (h : Par S F) {c p : Cell} {f : Int} (hc : (f = -1 ∧ p = c) ∨ ∃ (k : Nat) (q : Cell), f = (k : Int) ∧ k < S.length ∧ S[k]? = some (p, q) ∧ p ≠ c) : Par (S ++ [(c, p)]) (F ++ [f]) := by
  refine ⟨by simp [h.1], fun j c' p' hj => ?_⟩
  by_cases hl : j < S.length
  · rw [List.getElem?_append_left hl] at hj
    rw [List.getElem?_append_left (by rw [h.1]; exact hl)]
    rcases h.2 j c' p' hj with h1 | ⟨k, q, h1, h2, h3, h4⟩
    · exact .inl h1
    · exact .inr ⟨k, q, h1, h2, by rw [List.getElem?_append_left (by omega)]; exact h3, h4⟩
  · have hlt := (List.getElem?_eq_some_iff.1 hj).1
    simp at hlt
    have hjj : j = S.length := by omega
    subst hjj
    simp at hj
    obtain ⟨rfl, rfl⟩ := hj
    have hF : (F ++ [f])[S.length]? = some f := by rw [← h.1]; simp
    rw [hF]
    rcases hc with ⟨rfl, rfl⟩ | ⟨k, q, rfl, h2, h3, h4⟩
    · exact .inl ⟨rfl, rfl⟩
    · exact .inr ⟨k, q, rfl, h2, by rw [List.getElem?_append_left (by omega)]; exact h3, h4⟩
def rootsF (S : List (Cell × Cell)) : List Int := S.map fun _ => -1
theorem rootsF_append {S T : List (Cell × Cell)} : rootsF (S ++ T) = rootsF S ++ rootsF T := by simp [rootsF]
theorem rootsF_length {S : List (Cell × Cell)} : (rootsF S).length = S.length := by simp [rootsF]
theorem Par.roots {opn : Cell → Bool} {l : List Cell} : Par (roots opn l) (rootsF (roots opn l)) := by
  refine ⟨rootsF_length, fun j c p hj => .inl ?_⟩
  have hm := List.mem_of_getElem? hj
  simp [Go.Proofs.Ytjmeplchabehfaa.roots] at hm
  have hlt := (List.getElem?_eq_some_iff.1 hj).1
  refine ⟨?_, hm.2⟩
  simp [rootsF, hj]

set_option maxRecDepth 100000 in
theorem infoInt : (Try.prog.info? 3).map (fun i => (i.zero, i.size, i.bytes)) = some (some (.int .i64 0), 1, 8) := by kernel_rfl

theorem ap_ne {s f : Value} (hap : ∀ q, s.ownBlock = some q → f.ownBlock ≠ some q) : f.ownBlock = none ∨ f.ownBlock ≠ s.ownBlock := by
  cases h : f.ownBlock with
  | none => exact .inl rfl
  | some q => exact .inr fun e => hap q e.symm h
theorem ap_swap {s f : Value} (hap : ∀ q, s.ownBlock = some q → f.ownBlock ≠ some q) : ∀ q, f.ownBlock = some q → s.ownBlock ≠ some q := fun q h1 h2 => hap q h2 h1
theorem ap_step {s s' f : Value} {H : Nat} (hap : ∀ q, s.ownBlock = some q → f.ownBlock ≠ some q) (hat : s'.ownBlock = s.ownBlock ∨ s'.ownBlock = some H) (hf : ∀ q, f.ownBlock = some q → q < H) : ∀ q, s'.ownBlock = some q → f.ownBlock ≠ some q := by
  intro q h1 h2
  rcases hat with e | e
  · exact hap q (e ▸ h1) h2
  · rw [e] at h1
    injection h1 with h1
    have := hf q h2
    omega

theorem fold_keep {opn : Cell → Bool} {d : Cell} {q : Cell → Bool} {L : List Cell} {S : List (Cell × Cell)} {b : Bool} (e : Cell) (h : mapAt ((L.filter q).foldl (addN opn d) S) e ≠ none ∨ opn e = false ∨ q e = false) :
    ((L ++ if b = true then [] else [e]).filter q).foldl (addN opn d) S = (L.filter q).foldl (addN opn d) S := by
  cases b
  · simp only [Bool.false_eq_true, if_false, List.filter_append, List.foldl_append]
    cases hq : q e
    · simp [hq]
    · simp only [List.filter_cons, hq, if_true, List.filter_nil, List.foldl_cons, List.foldl_nil]
      rcases h with h | h | h
      · unfold addN
        rw [if_pos (by rw [Option.isSome_iff_ne_none]; exact h)]
      · unfold addN
        simp [h]
      · rw [hq] at h; cases h
  · simp
theorem fold_add {opn : Cell → Bool} {d : Cell} {q : Cell → Bool} {L : List Cell} {S : List (Cell × Cell)} {b : Bool} (e : Cell) (hb : b = false) (h1 : mapAt ((L.filter q).foldl (addN opn d) S) e = none) (h2 : opn e = true) (h3 : q e = true) :
    ((L ++ if b = true then [] else [e]).filter q).foldl (addN opn d) S = (L.filter q).foldl (addN opn d) S ++ [(e, d)] := by
  subst hb
  simp only [Bool.false_eq_true, if_false, List.filter_append, List.foldl_append, List.filter_cons, h3, if_true, List.filter_nil, List.foldl_cons, List.foldl_nil]
  generalize (L.filter q).foldl (addN opn d) S = T at *
  unfold addN
  simp [h1, h2]

def gridC (r : Reg) : List Cell := (List.range r.rows.length).flatMap fun y : Nat => (List.range r.w.toNat).map fun x : Nat => ⟨x, y⟩
theorem gridC_mem {r : Reg} {c : Cell} (h : inB r c = true) : c ∈ gridC r := by
  simp [inB] at h
  simp only [gridC, List.mem_flatMap, List.mem_range, List.mem_map]
  refine ⟨c.y.toNat, by omega, c.x.toNat, by omega, ?_⟩
  exact Cell.ext (by simp; omega) (by simp; omega)
theorem gridC_length {r : Reg} (hv : r.Valid) : (gridC r).length ≤ 36 := by
  have h2 := hv.2.1
  have h4 := hv.2.2.2.1
  have : ∀ n, n ≤ 6 → ((List.range n).flatMap fun y : Nat => (List.range r.w.toNat).map fun x : Nat => (⟨x, y⟩ : Cell)).length ≤ n * 6 := by
    intro n
    induction n with
    | zero => intro _; simp
    | succ n ih => intro hn; have := ih (by omega); rw [List.range_succ, List.flatMap_append, List.length_append]; simp only [List.flatMap_cons, List.flatMap_nil, List.append_nil, List.length_map, List.length_range]; omega
  have := this r.rows.length h4
  unfold gridC; omega

end Go.Proofs.Ytjmeplchabehfaa
