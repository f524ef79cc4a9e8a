
/-
  A region that draws its order: quiet operations, then a tail that writes: the quiet ones by the cheap step. No program in sight.
-/
import Derived.Test.YtdbneilhgckhjaaDoorCommon
namespace Go.Proofs.YtdbneilhgckhjaaDoor
open Go.RowKit

section
variable {P : Program} {ops : Array Oper} {w : World} {Q : Act → Prop}
theorem still_of_quiet {o : Oper} {a : Act} {next : Act → Prop} (h : o.quiet P a (fun w' => w' = w) next) : o.still P a w next := by
  obtain ⟨v, h1, h2⟩ := h
  have h3 := h1 w rfl
  unfold Oper.quietAt at h3
  unfold Oper.still
  generalize (execOp a.eval o).run P w = r at *
  cases r with
  | ok n w' =>
    cases n <;> simp only [Oper.quietUpon, Oper.stillUpon] at *
    case value u =>
      obtain ⟨e1, e2⟩ := h3
      subst e2
      exact ⟨e1, h2⟩
    case skip =>
      obtain ⟨e1, e2⟩ := h3
      subst e2
      exact ⟨e1, h2⟩
    case enter f args => exact ⟨h3.1, v, h3.2, h2⟩
  | halt h w' => exact h3
theorem wpStill_of_quiet : ∀ {l : List Oper} {a : Act}, wpQuiet P ops (fun w' => w' = w) Q l a → wpStill P ops w Q l a
  | [], _, h => h
  | o :: rest, a, h => by
    unfold wpStill
    unfold wpQuiet at h
    split
    · rename_i hw
      rw [if_pos hw] at h
      obtain ⟨v, h1, h2⟩ := h
      exact still_of_quiet ⟨v, h1, wpStill_of_quiet h2⟩
    · rename_i hw
      rw [if_neg hw] at h
      exact wpStill_of_quiet h
theorem wp_region_stq {id : Nat} {Q : Exit → Act → World → Prop} {a : Act} {l : List Oper} (n : Nat) (hm : P.follows .mixedOrders = true) (hB : Region.lexTailB .any l.toArray n = true)
    (h : wpQuiet P l.toArray (fun w' => w' = w.drew) (fun a' => wpList P l.toArray Q (l.drop n) a' w.drew) (l.take n) a) : (Code.region id l.toArray true).wp P Q a w :=
  wp_region_still_tail n hm hB (wpStill_of_quiet h)
end
end Go.Proofs.YtdbneilhgckhjaaDoor
