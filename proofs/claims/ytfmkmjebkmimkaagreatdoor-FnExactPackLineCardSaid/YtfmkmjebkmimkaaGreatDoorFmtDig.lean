
/-
  The walks of both number writers at a single digit.
-/
import Derived.Test.YtfmkmjebkmimkaaGreatDoorProg
import Derived.Test.YtfmkmjebkmimkaaGreatDoorCwWalks
import Derived.Laws.IdiomStrings
namespace Go.Proofs.YtfmkmjebkmimkaaGreatDoor
open Go.RowKit

/-- a digit's text -/
def dgt (n : Int) : ByteArray := ⟨#[(48 + n.toNat).toUInt8]⟩
theorem dgt_size (n : Int) : (dgt n).size = 1 := rfl

set_option maxRecDepth 100000 in
set_option maxHeartbeats 1600000 in
theorem impl_dig_c (n : Int) (w : World) (h0 : 0 ≤ n) (h5 : n ≤ 9) :
    Calls Tryz.prog 63 #[.int .i64 n] w fun e w' => e = .returned (.string (dgt n)) ∧ w = w' := by
  have hn : n = 0 ∨ n = 1 ∨ n = 2 ∨ n = 3 ∨ n = 4 ∨ n = 5 ∨ n = 6 ∨ n = 7 ∨ n = 8 ∨ n = 9 := by omega
  clear h0 h5
  rcases hn with rfl | rfl | rfl | rfl | rfl | rfl | rfl | rfl | rfl | rfl
  all_goals
    go_enter Tryz.func63, Tryz.ntmps63
    go_wp2
    go_ret
    exact ⟨rfl, rfl⟩

set_option maxRecDepth 100000 in
/-- a new slice of one byte, as a string -/
theorem run_byte_string (w : World) (g : Nat) (b : UInt8) (u : Int) (hu : u = (b.toNat : Int)) (hg : w.cell? ⟨g, 0, none⟩ = some (.int .u8 u)) :
    (convert 47 9 (.slice (some ⟨g, 0, none⟩) 1 1)).run Tryz.prog w = .ok (.string ⟨#[b]⟩) w := by
  subst hu
  refine run_convert_bytes_back w _ _ _ ⟨g, 0, none⟩ 1 [b] Tryz.underlying47 Tryz.underlying5 Tryz.underlying9 ?_
  intro j hj
  obtain rfl : j = 0 := by simpa using hj
  simpa [Addr.add] using hg

set_option maxRecDepth 100000 in
set_option maxHeartbeats 1600000 in
theorem spec_dig_c (n : Int) (w : World) (h0 : 0 ≤ n) (h5 : n ≤ 9) :
    Calls Tryz.prog 54 #[.int .i64 n] w fun e w' => e = .returned (.string (dgt n)) ∧ Below w.heap.size w w' := by
  by_cases hz : n = 0
  · subst hz
    go_enter Tryz.func54, Tryz.ntmps54
    go_wp2
    go_ret
    exact ⟨rfl, Below.refl _ _⟩
  · have h1 : 1 ≤ n := by omega
    have hneg : decide (n < 0) = false := by simp; omega
    have hne : (n == 0) = false := by simp; omega
    go_enter Tryz.func54, Tryz.ntmps54
    go_wp2
    go_loopw [0, 3, 5] (fun nv ov _ wr => ((nv = .int .i64 n ∧ ov = .string ⟨#[]⟩) ∨ (nv = .int .i64 0 ∧ ov = .string (dgt n))) ∧ Below w.heap.size w wr) (fun nv _ _ _ => (intOf nv).toNat)
    case atStart => exact ⟨.inl ⟨rfl, rfl⟩, Below.refl _ _⟩
    case round =>
      obtain ⟨h | h, hb⟩ := hrel
      · obtain ⟨rfl, rfl⟩ := h
        have hn : n = 1 ∨ n = 2 ∨ n = 3 ∨ n = 4 ∨ n = 5 ∨ n = 6 ∨ n = 7 ∨ n = 8 ∨ n = 9 := by omega
        clear h0 h5 h1 hz hneg hne
        have hcvn : ∀ u : Int, u = 48 + n → (convert 47 9 (.slice (some ⟨wr.heap.size, 0, none⟩) 1 1)).run Tryz.prog (wr.alloc (.cells #[.int .u8 u] 5)) = .ok (.string (dgt n)) (wr.alloc (.cells #[.int .u8 u] 5)) := fun u hu => by
          refine run_byte_string _ _ _ u ?_ (by rw [(Blk.new wr _ _).cell]; rfl)
          rcases hn with rfl | rfl | rfl | rfl | rfl | rfl | rfl | rfl | rfl <;> subst hu <;> rfl
        rcases hn with rfl | rfl | rfl | rfl | rfl | rfl | rfl | rfl | rfl
        all_goals
          have hcv := hcvn _ rfl
          clear hcvn
          simp at hcv
          go_wp2
          go_roundw
          case rel => exact ⟨.inr ⟨rfl, rfl⟩, hb.trans (((Below.refl _ _).alloc (Nat.le_refl _) _).mono hb.size)⟩
          case measure => simp [intOf]
      · obtain ⟨rfl, rfl⟩ := h
        go_wp2
        go_ret
        exact ⟨rfl, hb⟩
end Go.Proofs.YtfmkmjebkmimkaaGreatDoor
