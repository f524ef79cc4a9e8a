
/-
  The walks of 'EqualClaims': the program's and the reference's.
-/
import Derived.Test.YtlfeognjnlppkaaDoorEqV
import Derived.Lib.Strings
namespace Go.Proofs.YtlfeognjnlppkaaDoor
open Go.RowKit

/-- a claim -/
structure Clm where
  kind : Int
  reg : Reg
  pieces : List (List Cell)
  masks : List Int
  text : ByteArray
  prime : Int
  weights : List Int
  mask : Int
  wang : List Wg
  width : Int
  height : Int
def clmV (ak aw ap am' ai ah : Int) (at' : ByteArray) (s1 s2 s3 s4 s5 : Value) : Value := .agg #[.int .i64 ak, .int .i64 aw, s1, s2, s3, .string at', .int .i64 ap, s4, .int .i64 am', s5, .int .i64 ai, .int .i64 ah]
end Go.Proofs.YtlfeognjnlppkaaDoor
