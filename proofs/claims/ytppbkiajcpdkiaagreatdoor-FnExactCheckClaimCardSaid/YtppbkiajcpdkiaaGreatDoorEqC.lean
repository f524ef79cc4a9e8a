
/-
  The walks of 'EqualClaims': the program's and the reference's.
-/
import Derived.Test.YtppbkiajcpdkiaaGreatDoorEqR
import Derived.Lib.Strings
namespace Go.Proofs.YtppbkiajcpdkiaaGreatDoor
open Go.RowKit

/-- a claim -/
structure Clm where
  kind : Int
  reg : Reg
  pieces : List (List Cell)
  masks : List Int
  text : ByteArray
  prime : Int
  weights : List Int
  mask : Int
  wang : List Wg
  width : Int
  height : Int
def clmV (ak aw ap am' ai ah : Int) (at' : ByteArray) (s1 s2 s3 s4 s5 : Value) : Value := .agg #[.int .i64 ak, .int .i64 aw, s1, s2, s3, .string at', .int .i64 ap, s4, .int .i64 am', s5, .int .i64 ai, .int .i64 ah]
def ClmRd (w : World) (lo hi : Nat) (v : Value) (a : Clm) : Prop := ∃ s1 s2 s3 s4 s5, v = clmV a.kind a.reg.w a.prime a.mask a.width a.height a.text s1 s2 s3 s4 s5 ∧
  IntsRd w lo hi s1 a.reg.rows ∧ CellSSRd w lo hi s2 a.pieces ∧ IntsRd w lo hi s3 a.masks ∧ IntsRd w lo hi s4 a.weights ∧ WangsRd w lo hi s5 a.wang
section
variable {w w' : World} {lo hi lo' hi' : Nat} {v : Value} {a : Clm}
theorem ClmRd.keep (h : ClmRd w lo hi v a) (hs : SameIn lo hi w w') : ClmRd w' lo hi v a := by
  obtain ⟨s1, s2, s3, s4, s5, rfl, h1, h2, h3, h4, h5⟩ := h
  exact ⟨s1, s2, s3, s4, s5, rfl, h1.keep hs, h2.keep hs, h3.keep hs, h4.keep hs, h5.keep hs⟩
theorem ClmRd.more (h : ClmRd w lo hi v a) (h1 : lo' ≤ lo) (h2 : hi ≤ hi') : ClmRd w lo' hi' v a := by
  obtain ⟨s1, s2, s3, s4, s5, rfl, g1, g2, g3, g4, g5⟩ := h
  exact ⟨s1, s2, s3, s4, s5, rfl, g1.more h1 h2, g2.more h1 h2, g3.more h1 h2, g4.more h1 h2, g5.more h1 h2⟩
end
end Go.Proofs.YtppbkiajcpdkiaaGreatDoor
