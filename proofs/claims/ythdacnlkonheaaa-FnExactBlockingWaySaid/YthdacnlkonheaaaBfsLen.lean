
/-
  A search by breadth in plain Lean: its way is short.
-/
import Derived.Test.YthdacnlkonheaaaBfs
import Derived.Test.YthdacnlkonheaaaWayS
import Derived.Test.YthdacnlkonheaaaWayK
namespace Go.Proofs.Ythdacnlkonheaaa

theorem wayGo_len {S : List (Cell × Cell)} : ∀ (f : Nat) (c : Cell) (acc : List Cell), (wayGo S f c acc).length ≤ acc.length + f
  | 0, _, _ => Nat.le_refl _
  | f + 1, c, acc => by
    unfold wayGo
    split
    · omega
    · have := wayGo_len (S := S) f ((mapAt S c).getD ⟨0, 0⟩) ((mapAt S c).getD ⟨0, 0⟩ :: acc)
      simp at this ⊢
      omega
theorem addN_len {opn : Cell → Bool} {p d : Cell} {S : List (Cell × Cell)} : (addN opn p S d).length ≤ S.length + 1 := by
  unfold addN
  split
  · omega
  · split
    · simp
    · omega
theorem fold_len {opn : Cell → Bool} {p : Cell} : ∀ (l : List Cell) (S : List (Cell × Cell)), (l.foldl (addN opn p) S).length ≤ S.length + l.length
  | [], _ => Nat.le_refl _
  | d :: l, S => by
    have h1 := fold_len (opn := opn) (p := p) l (addN opn p S d)
    have h2 := addN_len (opn := opn) (p := p) (d := d) (S := S)
    simp at h1 ⊢
    omega
theorem bfs_len {around : Cell → List Cell} {opn done : Cell → Bool} (har : ∀ c, (around c).length ≤ 9) : ∀ (f : Nat) (S : List (Cell × Cell)) (i : Nat) (l : List Cell), bfs around opn done f S i = some l → l.length ≤ S.length + 9 * f + 1
  | 0, _, _, _, h => by cases h
  | f + 1, S, i, l, h => by
    unfold bfs at h
    split at h
    · cases h
    · rename_i c _ _
      split at h
      · injection h with h
        subst h
        have := wayGo_len (S := S) S.length c [c]
        simp at this
        omega
      · have h1 := bfs_len har f _ _ l h
        have h2 := fold_len (opn := opn) (p := c) (around c) S
        have h3 := har c
        unfold expand at h1
        omega
theorem roots_len {opn : Cell → Bool} {l : List Cell} : (roots opn l).length ≤ l.length := by unfold roots; rw [List.length_map]; exact List.length_filter_le _ _
theorem spanWay_len {r : Reg} : (r.spanWay.getD []).length ≤ 1048576 := by
  unfold Reg.spanWay
  split
  · rename_i hv
    have hv4 := (Reg.valid_iff.1 hv).2.2.2.1
    cases h : bfs sidesL r.opn r.far 37 (roots r.opn (colTo r.rows.length)) 0 with
    | none => simp
    | some l =>
      have h1 := bfs_len (fun c => by simp [sidesL]) _ _ _ _ h
      have h2 := roots_len (opn := r.opn) (l := colTo r.rows.length)
      rw [colTo_length] at h2
      simp
      omega
  · simp
theorem blockWay_len {r : Reg} : (r.blockWay.getD []).length ≤ 1048576 := by
  unfold Reg.blockWay
  split
  · rename_i hv
    have hv2 := (Reg.valid_iff.1 hv).2.1
    cases h : bfs roundsL (opnC r false) (doneC r true) 37 (roots (opnC r false) (startC true r.w.toNat)) 0 with
    | none => simp
    | some l =>
      have h1 := bfs_len (fun c => by rw [roundsL]; exact roundsTo_le) _ _ _ _ h
      have h2 := roots_len (opn := opnC r false) (l := startC true r.w.toNat)
      rw [startC_length] at h2
      simp
      omega
  · simp
end Go.Proofs.Ythdacnlkonheaaa
