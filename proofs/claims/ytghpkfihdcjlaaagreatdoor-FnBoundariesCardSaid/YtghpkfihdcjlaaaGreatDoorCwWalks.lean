
/-
  The walks behind 'ClaimWord': the program's and the reference's.
-/
import Derived.Test.YtghpkfihdcjlaaaGreatDoorProg
import Derived.Test.YtghpkfihdcjlaaaGreatDoorCommon
namespace Go.Proofs.YtghpkfihdcjlaaaGreatDoor
open Go.RowKit

set_option maxRecDepth 100000 in
set_option maxHeartbeats 400000 in
theorem between_any (a b c : Int) (w : World) :
    Calls Tryz.prog 54 #[.int .i64 a, .int .i64 b, .int .i64 c] w fun e w' => e = .returned (.bool (decide (b ≤ a) && decide (a ≤ c))) ∧ w = w' := by
  by_cases h1 : b ≤ a <;> by_cases h2 : a ≤ c
  all_goals
    go_enter Tryz.func54, Tryz.ntmps54
    go_wp2
    go_ret
    simp_all
set_option maxRecDepth 100000 in
set_option maxHeartbeats 400000 in
theorem l1In_any (a b c : Int) (w : World) :
    Calls Tryz.prog 41 #[.int .i64 a, .int .i64 b, .int .i64 c] w fun e w' => e = .returned (.bool (decide (b ≤ a) && decide (a ≤ c))) ∧ w = w' := by
  by_cases h1 : b ≤ a <;> by_cases h2 : a ≤ c
  all_goals
    go_enter Tryz.func41, Tryz.ntmps41
    go_wp2
    go_ret
    simp_all

def wordOf (k : Int) : ByteArray :=
  if k = 1 then ⟨#[116, 105, 108, 105, 110, 103]⟩ else if k = 2 then ⟨#[110, 111, 110, 101]⟩ else if k = 3 then ⟨#[119, 101, 105, 103, 104, 116, 115]⟩ else
  if k = 4 then ⟨#[112, 97, 99, 107, 105, 110, 103]⟩ else if k = 5 then ⟨#[112, 101, 114, 105, 111, 100]⟩ else if k = 6 then ⟨#[117, 110, 105, 113, 117, 101]⟩ else ⟨#[]⟩

end Go.Proofs.YtghpkfihdcjlaaaGreatDoor
