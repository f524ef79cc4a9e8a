
/-
  The program's 'line': texts joined by blanks.
-/
import Derived.Test.YtdbneilhgckhjaaDoorNumT
namespace Go.Proofs.YtdbneilhgckhjaaDoor
open Go.RowKit

set_option maxRecDepth 100000 in
theorem line_own {w0 w : World} {L : List Res} {v : Value} {l : List ByteArray} {n b : Nat} (H : Sep w0 w (Res.row v 9 1 n (sc l) :: L)) (hn : n = l.length) (hb : ∀ x ∈ l, x.size ≤ b) (hl : l.length ≤ 1048576) (hb2 : b + 1 ≤ 100000000) :
    Calls Tryd.prog 25 #[v] w fun e w' => e = .returned (.string (joinB spaceB l)) ∧ Below w.heap.size w w' := by
  subst hn
  rw [show spaceB = ⟨#[32]⟩ from rfl]
  have HJ := Lib.hid (join_own (b := b) ⟨#[32]⟩ H rfl hb hl (by have : (⟨#[32]⟩ : ByteArray).size = 1 := rfl; omega))
  obtain ⟨A, c, rfl, _, _, _⟩ := Res.row_at H.h0
  clear H
  go_enter Tryd.func25, Tryd.ntmps25
  go_wp2_with fail
  refine (HJ.out).mono ?_
  rintro e w1 ⟨rfl, b1⟩
  go_wp2
  go_ret
  exact ⟨rfl, b1⟩
end Go.Proofs.YtdbneilhgckhjaaDoor
