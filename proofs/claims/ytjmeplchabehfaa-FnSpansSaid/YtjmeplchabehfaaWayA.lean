
/-
  The walks under the search by breadth: the places around a cell, the closures.
-/
import Derived.Test.YtjmeplchabehfaaBfs
import Derived.Test.YtjmeplchabehfaaCellsW
namespace Go.Proofs.Ytjmeplchabehfaa
open Go.RowKit

/-- a cell near the board -/
def Near (c : Cell) : Prop := -100 ≤ c.x ∧ c.x ≤ 100 ∧ -100 ≤ c.y ∧ c.y ≤ 100
def sidesL (c : Cell) : List Cell := [⟨c.x, c.y - 1⟩, ⟨c.x - 1, c.y⟩, ⟨c.x + 1, c.y⟩, ⟨c.x, c.y + 1⟩]

theorem Blk.new1 (w : World) (o : Obj) (t : TypeId) (cs : Array Value) : Blk ((w.alloc o).alloc (.cells cs t)) (w.heap.size + 1) t cs := by
  have := Blk.new (w.alloc o) t cs
  simpa using this

set_option maxRecDepth 100000 in
set_option maxHeartbeats 800000 in
theorem sides_c (c : Cell) (w : World) (hn : Near c) :
    Calls Try.prog 88 #[cv c] w fun e w' => ∃ v, e = .returned v ∧ CellsIn w' w.heap.size w'.heap.size v (sidesL c) ∧ Below w.heap.size w w' := by
  obtain ⟨x, y⟩ := c
  obtain ⟨h1, h2, h3, h4⟩ := hn
  simp only at h1 h2 h3 h4
  unfold cv
  go_enter Try.func88, Try.ntmps88
  go_wp2
  go_ret
  refine ⟨_, rfl, ?_, ((Below.refl _ _).alloc (Nat.le_refl _) _).alloc (by simp) _⟩
  exact CellsIn.mk (own_of_blk (n := 4) (Blk.new1 w _ _ _) (by simp) (by simp) rfl (by unfold maxLen; omega)) rfl rfl

/-- the places around, of the first j of row k -/
def rowR (c : Cell) (k j : Nat) : List Cell := ((List.range j).filter fun m => !(m == 1 && k == 1)).map fun m : Nat => ⟨c.x + ((m : Int) - 1), c.y + ((k : Int) - 1)⟩
def roundsTo (c : Cell) (k : Nat) : List Cell := (List.range k).flatMap fun k => rowR c k 3
def roundsL (c : Cell) : List Cell := roundsTo c 3
theorem rowR_succ {c : Cell} {k j : Nat} : rowR c k (j + 1) = rowR c k j ++ if (j == 1 && k == 1) = true then [] else [⟨c.x + ((j : Int) - 1), c.y + ((k : Int) - 1)⟩] := by
  unfold rowR
  rw [List.range_succ, List.filter_append, List.map_append]
  congr 1
  by_cases h1 : j = 1 <;> by_cases h2 : k = 1 <;> simp [h1, h2]
theorem roundsTo_succ {c : Cell} {k : Nat} : roundsTo c (k + 1) = roundsTo c k ++ rowR c k 3 := by
  unfold roundsTo; rw [List.range_succ, List.flatMap_append]; simp
theorem rowR_le {c : Cell} {k j : Nat} : (rowR c k j).length ≤ j := by
  unfold rowR; rw [List.length_map]; exact Nat.le_trans (List.length_filter_le _ _) (by simp)
theorem roundsTo_le {c : Cell} {k : Nat} : (roundsTo c k).length ≤ k * 3 := by
  induction k with
  | zero => simp [roundsTo]
  | succ k ih => rw [roundsTo_succ, List.length_append, Nat.add_mul]; have := rowR_le (c := c) (k := k) (j := 3); omega

set_option maxRecDepth 100000 in
set_option maxHeartbeats 1600000 in
theorem rounds_c (c : Cell) (w : World) (hn : Near c) :
    Calls Try.prog 95 #[cv c] w fun e w' => ∃ v, e = .returned v ∧ CellsIn w' w.heap.size w'.heap.size v (roundsL c) ∧ Below w.heap.size w w' := by
  obtain ⟨i0, hi, hz0, hz1, hz2⟩ := info_parts infoCell
  obtain ⟨x, y⟩ := c
  obtain ⟨h1, h2, h3, h4⟩ := hn
  simp only at h1 h2 h3 h4
  unfold cv
  have hbel : Below w.heap.size w (w.alloc (.cells #[.int .i64 x, .int .i64 y] 62)) := (Below.refl _ _).alloc (Nat.le_refl _) _
  have BX : Blk (w.alloc (.cells #[.int .i64 x, .int .i64 y] 62)) w.heap.size 62 #[.int .i64 x, .int .i64 y] := Blk.new _ _ _
  have HZ : w.heap.size + 1 ≤ (w.alloc (.cells #[.int .i64 x, .int .i64 y] 62)).heap.size := by simp
  go_enter Try.func95, Try.ntmps95
  go_wp2
  generalize (w.alloc (.cells #[.int .i64 x, .int .i64 y] 62)) = W at *
  go_loopw [3, 4] (fun o i wr => ∃ k : Nat, k ≤ 3 ∧ i = .int .i64 ((k : Int) - 1) ∧ wr.ownsRow (w.heap.size + 1) 62 2 o (roundsTo ⟨x, y⟩ k).length (cc (roundsTo ⟨x, y⟩ k)) ∧ Below (w.heap.size + 1) W wr) (fun _ i _ => (2 - intOf i).toNat)
  case atStart => exact ⟨0, by omega, by go_num, World.ownsRow_nil _ _ _ _, Below.refl _ _⟩
  case round =>
    obtain ⟨k, hk, rfl, hown, hbr⟩ := hrel
    obtain ⟨wo, hwo⟩ : ∃ wo : World, wo = wr := ⟨_, rfl⟩
    subst hwo
    have hsz := hbr.size
    have hto := roundsTo_le (c := ⟨x, y⟩) (k := k)
    by_cases hlt : k < 3
    · have hd : decide ((k : Int) - 1 ≤ 1) = true := by simp; omega
      have Hown := Lib.hid hown
      have Hbr := Lib.hid hbr
      clear hown hbr
      go_wp2
      go_loopw [3, 5] (fun o i wr => ∃ j : Nat, j ≤ 3 ∧ i = .int .i64 ((j : Int) - 1) ∧ wr.ownsRow (w.heap.size + 1) 62 2 o (roundsTo ⟨x, y⟩ k ++ rowR ⟨x, y⟩ k j).length (cc (roundsTo ⟨x, y⟩ k ++ rowR ⟨x, y⟩ k j)) ∧ Below (w.heap.size + 1) W wr) (fun _ i _ => (2 - intOf i).toNat)
      case atStart => exact ⟨0, by omega, by go_num, by simpa [rowR] using Hown.out, Hbr.out⟩
      case round =>
        obtain ⟨j, hj, rfl, hown, hbr⟩ := hrel
        have hszr := hbr.size
        have hrl := rowR_le (c := ⟨x, y⟩) (k := k) (j := j)
        have hll : (roundsTo ⟨x, y⟩ k ++ rowR ⟨x, y⟩ k j).length ≤ 20 := by rw [List.length_append]; omega
        by_cases hlj : j < 3
        · have hst := rowR_succ (c := ⟨x, y⟩) (k := k) (j := j)
          have BB := BX.below hbr (by omega)
          have c0 := BB.cell 0
          have c1 := BB.cell 1
          simp at c0 c1
          clear BB
          by_cases hc : j = 1 ∧ k = 1
          · have e1 : ((j : Int) - 1 != 0) = false := by simp; omega
            have e2 : ((k : Int) - 1 != 0) = false := by simp; omega
            have hq : (j == 1 && k == 1) = true := by simp [hc]
            rw [hq, if_pos rfl, List.append_nil] at hst
            have HS := Lib.hid hst
            clear hst hq hc c0 c1
            go_wp2
            go_roundw
            case rel => exact ⟨j + 1, by omega, by go_num, by rw [HS.out]; exact hown, hbr⟩
            case measure => simp [intOf]; omega
          · have hq : (j == 1 && k == 1) = false := by simp; omega
            rw [hq] at hst
            simp only [Bool.false_eq_true, if_false] at hst
            have HS := Lib.hid hst
            clear hst hq
            by_cases hj1 : j = 1
            · have e1 : ((j : Int) - 1 != 0) = false := by simp; omega
              have e2 : ((k : Int) - 1 != 0) = true := by simp; omega
              clear hc hj1
              go_wp2_with (at_builtin; refine wpList_append_own _ rfl _ _ 42 rfl (w.heap.size + 1) 62 i0 _ 2 16 Try.underlying42 hi hz0 hz1 hz2 rfl (by decide) _ _ _ rfl (hown.alloc _) ⟨wr.heap.size, 0, none⟩ 1 1 [.int .i64 (x + ((j : Int) - 1)), .int .i64 (y + ((k : Int) - 1))] rfl rfl (news_alloc wr #[.int .i64 (x + ((j : Int) - 1)), .int .i64 (y + ((k : Int) - 1))] _) (by intro u hu; simp at hu; rcases hu with rfl | rfl <;> rfl) (by unfold maxLen; omega) (by omega) (by simp; omega) ?_; intro v' w3 hown3 hgrow _)
              have hbr3 : Below (w.heap.size + 1) W w3 := (hbr.alloc (by omega) _).grown hgrow (by simp; omega) (own_ge hown)
              have hown4 : w3.ownsRow (w.heap.size + 1) 62 2 v' (roundsTo ⟨x, y⟩ k ++ rowR ⟨x, y⟩ k (j + 1)).length (cc (roundsTo ⟨x, y⟩ k ++ rowR ⟨x, y⟩ k (j + 1))) := by
                rw [HS.out, ← List.append_assoc, cc_append, List.length_append]
                exact hown3
              clear hown3 hgrow hown
              go_wp2
              go_roundw
              case rel => exact ⟨j + 1, by omega, by go_num, hown4, hbr3⟩
              case measure => simp [intOf]; omega
            · have e1 : ((j : Int) - 1 != 0) = true := by simp; omega
              clear hc hj1
              go_wp2_with (at_builtin; refine wpList_append_own _ rfl _ _ 42 rfl (w.heap.size + 1) 62 i0 _ 2 16 Try.underlying42 hi hz0 hz1 hz2 rfl (by decide) _ _ _ rfl (hown.alloc _) ⟨wr.heap.size, 0, none⟩ 1 1 [.int .i64 (x + ((j : Int) - 1)), .int .i64 (y + ((k : Int) - 1))] rfl rfl (news_alloc wr #[.int .i64 (x + ((j : Int) - 1)), .int .i64 (y + ((k : Int) - 1))] _) (by intro u hu; simp at hu; rcases hu with rfl | rfl <;> rfl) (by unfold maxLen; omega) (by omega) (by simp; omega) ?_; intro v' w3 hown3 hgrow _)
              have hbr3 : Below (w.heap.size + 1) W w3 := (hbr.alloc (by omega) _).grown hgrow (by simp; omega) (own_ge hown)
              have hown4 : w3.ownsRow (w.heap.size + 1) 62 2 v' (roundsTo ⟨x, y⟩ k ++ rowR ⟨x, y⟩ k (j + 1)).length (cc (roundsTo ⟨x, y⟩ k ++ rowR ⟨x, y⟩ k (j + 1))) := by
                rw [HS.out, ← List.append_assoc, cc_append, List.length_append]
                exact hown3
              clear hown3 hgrow hown
              go_wp2
              go_roundw
              case rel => exact ⟨j + 1, by omega, by go_num, hown4, hbr3⟩
              case measure => simp [intOf]; omega
        · have hjw : j = 3 := by omega
          subst hjw
          have hown2 : wr.ownsRow (w.heap.size + 1) 62 2 u3 (roundsTo ⟨x, y⟩ (k + 1)).length (cc (roundsTo ⟨x, y⟩ (k + 1))) := by
            rw [roundsTo_succ]
            exact hown
          clear hown
          go_wp2
          go_roundw
          case rel => exact ⟨k + 1, by omega, by go_num, hown2, hbr⟩
          case measure => simp [intOf]; omega
    · go_wp2
      go_ret
      have hkn : k = 3 := by omega
      subst hkn
      exact ⟨_, rfl, CellsIn.mk (own_base hown (by omega)) rfl rfl, hbel.trans (hbr.mono (by omega))⟩

/-! the closures; the region's variable lies in block g -/
set_option maxRecDepth 100000 in
set_option maxHeartbeats 800000 in
theorem span1_c {r : Reg} {s : Value} {g lo hi : Nat} (c : Cell) (w : World) (hb : Blk w g 31 #[.int .i64 r.w, s]) (hs : IntsRd w lo hi s r.rows) (hhi : hi ≤ w.heap.size) (hv : r.Valid) :
    Calls Try.prog 89 #[cv c, .pointer (some ⟨g, 0, none⟩)] w fun e w' => e = .returned (.bool (r.has c.x c.y)) ∧ Below w.heap.size w w' := by
  obtain ⟨x, y⟩ := c
  unfold cv
  have hbel : Below w.heap.size w (w.alloc (.cells #[.int .i64 x, .int .i64 y] 62)) := (Below.refl _ _).alloc (Nat.le_refl _) _
  have c0 := hb.cell 0
  have c1 := hb.cell 1
  simp at c0 c1
  have hl := hb.lt
  go_enter Try.func89, Try.ntmps89
  go_wp2_with fail
  refine (impl_has_c (r := r) _ _ _ ⟨_, rfl, ((hs.keep (SameIn.alloc hhi _)).more (Nat.zero_le _) (by simp; omega))⟩ hv).mono ?_
  rintro e w2 ⟨rfl, hb2⟩
  go_wp2
  go_ret
  exact ⟨rfl, hbel.trans (hb2.mono (by simp))⟩
set_option maxRecDepth 100000 in
set_option maxHeartbeats 800000 in
theorem span2_c {r : Reg} {s : Value} {g : Nat} (c : Cell) (w : World) (hb : Blk w g 31 #[.int .i64 r.w, s]) (hv : r.Valid) :
    Calls Try.prog 91 #[cv c, .pointer (some ⟨g, 0, none⟩)] w fun e w' => e = .returned (.bool (c.x == r.w - 1)) ∧ Below w.heap.size w w' := by
  obtain ⟨x, y⟩ := c
  unfold cv
  have hbel : Below w.heap.size w (w.alloc (.cells #[.int .i64 x, .int .i64 y] 62)) := (Below.refl _ _).alloc (Nat.le_refl _) _
  have c0 := hb.cell 0
  simp at c0
  have hl := hb.lt
  have v1 := hv.1
  have v2 := hv.2.1
  go_enter Try.func91, Try.ntmps91
  go_wp2
  go_ret
  exact ⟨rfl, hbel⟩
end Go.Proofs.Ytjmeplchabehfaa
