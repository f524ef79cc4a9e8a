
/-
  The program's way across the board, from side to side.
-/
import Derived.Test.YtjmeplchabehfaaWayB
namespace Go.Proofs.Ytjmeplchabehfaa
open Go.RowKit

def colTo (n : Nat) : List Cell := (List.range n).map fun j : Nat => ⟨0, j⟩
theorem colTo_succ {n : Nat} : colTo (n + 1) = colTo n ++ [⟨0, n⟩] := by unfold colTo; rw [List.range_succ, List.map_append]; rfl
theorem colTo_length {n : Nat} : (colTo n).length = n := by simp [colTo]
theorem colTo_nodup {n : Nat} : (colTo n).Nodup := by
  induction n with
  | zero => simp [colTo]
  | succ n ih =>
    rw [colTo_succ, List.nodup_append]
    refine ⟨ih, by simp, fun a ha b hb => ?_⟩
    simp [colTo] at ha hb
    obtain ⟨m, hm, rfl⟩ := ha
    subst hb
    intro e
    injection e with _ e
    omega
def Reg.opn (r : Reg) (c : Cell) : Bool := r.has c.x c.y
def Reg.far (r : Reg) (c : Cell) : Bool := c.x == r.w - 1
def Reg.spanWay (r : Reg) : Option (List Cell) := if r.valid then bfs sidesL r.opn r.far 37 (roots r.opn (colTo r.rows.length)) 0 else none
theorem Reg.opn_near {r : Reg} (hv : r.Valid) {c : Cell} (h : r.opn c = true) : Near c := by
  have h1 := hv.2.1
  have h2 := hv.2.2.2.1
  unfold Reg.opn at h
  by_cases hc : 0 ≤ c.x ∧ c.x < r.w ∧ 0 ≤ c.y ∧ c.y < r.rows.length
  · unfold Near; omega
  · rw [Reg.has_out hc] at h; cases h

set_option maxRecDepth 100000 in
set_option maxHeartbeats 3200000 in
theorem impl_spanway_c {v : Value} {r : Reg} (w : World) (h : RegRd w 0 w.heap.size v r) :
    Calls Try.prog 29 #[v] w fun en w' => ∃ v', en = .returned (.tuple #[v', .bool r.spanWay.isSome]) ∧ CellsIn w' w.heap.size w'.heap.size v' (r.spanWay.getD []) ∧ Below w.heap.size w w' := by
  obtain ⟨s, rfl, hs⟩ := h
  obtain ⟨A, c, rfl, hm, hr⟩ := id hs
  obtain ⟨i0, hi, hz0, hz1, hz2⟩ := info_parts infoCell
  obtain ⟨R, hR⟩ : ∃ R, R = r.spanWay := ⟨_, rfl⟩
  rw [← hR]
  have hbel : Below w.heap.size w (w.alloc (.cells #[.int .i64 r.w, .slice A r.rows.length c] 31)) := (Below.refl _ _).alloc (Nat.le_refl _) _
  have BX : Blk (w.alloc (.cells #[.int .i64 r.w, .slice A r.rows.length c] 31)) w.heap.size 31 #[.int .i64 r.w, .slice A r.rows.length c] := Blk.new _ _ _
  have HZ : w.heap.size + 1 ≤ (w.alloc (.cells #[.int .i64 r.w, .slice A r.rows.length c] 31)).heap.size := by simp
  go_enter Try.func29, Try.ntmps29
  go_wp2_with fail
  generalize w.alloc (.cells #[.int .i64 r.w, .slice A r.rows.length c] 31) = W at *
  refine (impl_IsRegion_c (r := r) _ ⟨_, rfl, ((hs.keep (SameIn.of_below hbel (Nat.le_refl _))).more (Nat.le_refl _) (by omega))⟩).mono ?_
  rintro en w1 ⟨rfl, hb1⟩
  have hbel1 := hbel.trans (hb1.mono (by omega))
  have BX1 := BX.below hb1 (by omega)
  have hz1' := hb1.size
  clear hbel BX hb1
  cases hq : r.valid
  · have hn : R = none := by rw [hR, Reg.spanWay, hq]; rfl
    subst hn
    clear hR
    go_wp2
    go_ret2
    exact ⟨_, rfl, CellsIn.nil, hbel1⟩
  · have hv : r.Valid := Reg.valid_iff.1 hq
    have hR2 : R = bfs sidesL r.opn r.far 37 (roots r.opn (colTo r.rows.length)) 0 := by rw [hR, Reg.spanWay, hq]; rfl
    have HR := Lib.hid hR2
    have HV := Lib.hid hv
    have hv4 := hv.2.2.2.1
    have c1 := BX1.cell 1
    simp at c1
    clear hR hR2 hv hq hr
    go_wp2
    clear c1
    go_loopw [4, 12] (fun o i wr => ∃ k : Nat, k ≤ r.rows.length ∧ i = .int .i64 k ∧ wr.ownsRow (w.heap.size + 1) 62 2 o (colTo k).length (cc (colTo k)) ∧ Below (w.heap.size + 1) w1 wr) (fun _ i _ => r.rows.length - (intOf i).toNat)
    case atStart => exact ⟨0, Nat.zero_le _, rfl, World.ownsRow_nil _ _ _ _, Below.refl _ _⟩
    case round =>
      obtain ⟨k, hk, rfl, hown, hbr⟩ := hrel
      have hsz := hbr.size
      by_cases hlt : k < r.rows.length
      · have hcl : (colTo k).length = k := colTo_length
        have hsz1 := hz1'
        go_wp2_with (at_builtin; refine wpList_append_own _ rfl _ _ 42 rfl (w.heap.size + 1) 62 i0 _ 2 16 Try.underlying42 hi hz0 hz1 hz2 rfl (by decide) _ _ _ rfl (hown.alloc _) ⟨wr.heap.size, 0, none⟩ 1 1 [.int .i64 0, .int .i64 (k : Int)] rfl rfl (news_alloc wr #[.int .i64 0, .int .i64 (k : Int)] _) (by intro u hu; simp at hu; rcases hu with rfl | rfl <;> rfl) (by unfold maxLen; omega) (by omega) (by simp; omega) ?_; intro v' w3 hown3 hgrow _)
        have hbr3 := (hbr.alloc (by omega) (.cells #[.int .i64 0, .int .i64 (k : Int)] 62)).grown hgrow (by simp; omega) (fun q hq => by have := (hown.lt q hq).1; omega)
        have hown4 : w3.ownsRow (w.heap.size + 1) 62 2 v' (colTo (k + 1)).length (cc (colTo (k + 1))) := by
          rw [colTo_succ, cc_append, List.length_append]
          exact hown3
        clear hown3 hgrow hown
        go_wp2
        go_roundw
        case rel => exact ⟨k + 1, by omega, by go_num, hown4, hbr3⟩
        case measure => simp [intOf]; omega
      · have hkn : k = r.rows.length := by omega
        subst hkn
        have hst := (CellsIn.mk hown rfl rfl).rd.more (Nat.zero_le _) (Nat.le_refl _)
        have hbw := hbel1.trans (hbr.mono (by omega))
        have BXr := BX1.below hbr (by omega)
        clear hown
        go_wp2_with fail
        refine (spanFrom sidesL r.opn r.far w.heap.size wr r.cells hst colTo_nodup (Reg.cells_le HV.out) (fun c h => Reg.cells_mem.2 h) (fun c h => Reg.opn_near HV.out h) (fun c => by simp [sidesL]) (by rw [colTo_length]; exact hv4)
          (fun c W hn => sides_c c W hn)
          (fun c W hb => span1_c c W (BXr.below hb BXr.lt) ((hs.keep (SameIn.of_below (hbw.trans (hb.mono hbw.size)) (Nat.le_refl _)))) (by have := hb.size; have := hbw.size; omega) HV.out)
          (fun c W hb => span2_c c W (BXr.below hb BXr.lt) HV.out)).mono ?_
        rintro en w2 ⟨vv, rfl, ov, hb2⟩
        rw [← HR.out] at ov ⊢
        have hbw2 := hbw.trans (hb2.mono hbw.size)
        have ov2 : CellsIn w2 w.heap.size w2.heap.size vv (R.getD []) := ⟨own_more ov.1 hbw.size, ov.2⟩
        clear ov hb2 hbr BXr hst hbw
        go_wp2
        go_ret2
        exact ⟨_, rfl, ov2, hbw2⟩

set_option maxRecDepth 100000 in
theorem impl_isspanning_c {v : Value} {r : Reg} (w : World) (h : RegRd w 0 w.heap.size v r) :
    Calls Try.prog 27 #[v] w fun en w' => en = .returned (.bool r.spanWay.isSome) ∧ Below w.heap.size w w' := by
  obtain ⟨s, rfl, hs⟩ := h
  have hbel : Below w.heap.size w (w.alloc (.cells #[.int .i64 r.w, s] 31)) := (Below.refl _ _).alloc (Nat.le_refl _) _
  have BX : Blk (w.alloc (.cells #[.int .i64 r.w, s] 31)) w.heap.size 31 #[.int .i64 r.w, s] := Blk.new _ _ _
  have HZ : w.heap.size + 1 ≤ (w.alloc (.cells #[.int .i64 r.w, s] 31)).heap.size := by simp
  go_enter Try.func27, Try.ntmps27
  go_wp2_with fail
  generalize w.alloc (.cells #[.int .i64 r.w, s] 31) = W at *
  refine (impl_spanway_c (r := r) _ ⟨_, rfl, ((hs.keep (SameIn.of_below hbel (Nat.le_refl _))).more (Nat.le_refl _) (by omega))⟩).mono ?_
  rintro en w1 ⟨vv, rfl, ov, hb1⟩
  have hbel1 := hbel.trans (hb1.mono (by omega))
  clear hbel BX hb1 ov
  go_wp2
  go_ret
  exact ⟨rfl, hbel1⟩
end Go.Proofs.Ytjmeplchabehfaa
