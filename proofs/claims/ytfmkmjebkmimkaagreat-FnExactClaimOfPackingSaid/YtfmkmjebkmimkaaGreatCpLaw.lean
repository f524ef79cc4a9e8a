
/-
  The law FnExactClaimOfPacking, walked by contracts.
-/
import Derived.Test.YtfmkmjebkmimkaaGreatPkVY
import Derived.Test.YtfmkmjebkmimkaaGreatLawPcs
import Derived.Test.YtfmkmjebkmimkaaGreatLawInts
namespace Go.Proofs.YtfmkmjebkmimkaaGreat
open Go.RowKit

theorem zero_szP : ClmSz zeroC := ⟨by decide, by decide, by decide, by decide, rfl⟩
theorem pakC_sz (r : Reg) (ps : List (List Cell)) (h1 : r.rows.length ≤ 1048576) (h2 : CellSS.tot ps ≤ 1048576) : ClmSz (pakC r ps) := by
  unfold pakC
  split
  · refine ⟨h1, h2, ?_, Nat.zero_le _, rfl⟩
    have := lgP_len (r := r) (ps := ps)
    show (nl (lgP r ps)).length ≤ _
    omega
  · exact zero_szP
set_option maxRecDepth 100000 in
set_option maxHeartbeats 8000000 in
theorem law_ClaimOfPacking (vr : Value) (r : Reg) (vp : Value) (p : List (List Cell)) (w : World) (hr : RegRd w 0 w.heap.size vr r) (hp : CellSSRd w 0 w.heap.size vp p) :
    Calls Tryz.prog 3 #[vr, vp] w fun e w' => e = .returned (.bool true) ∧ Below w.heap.size w w' := by
  obtain ⟨D0, hD0⟩ : ∃ D, D = pakC r p := ⟨_, rfl⟩
  have HD0 := Lib.hid hD0
  clear hD0
  obtain ⟨sr, rfl, hsr⟩ := id hr
  have B : Below w.heap.size w (w.alloc (.cells #[.int .i64 r.w, sr] 24)) := ((Below.refl w.heap.size w).alloc (by first | exact Nat.le_refl _ | (simp; done) | (simp; omega)) _)
  have s0 : w.heap.size + 1 ≤ (w.alloc (.cells #[.int .i64 r.w, sr] 24)).heap.size := by simp
  have xr : BoxIn (w.alloc (.cells #[.int .i64 r.w, sr] 24)) w.heap.size (w.heap.size + 1) (w.heap.size) 24 #[.int .i64 r.w, sr] := ⟨by have := Blk.new w 24 #[.int .i64 r.w, sr]; simpa using this, by omega, by omega⟩
  have or := hr.keep (SameIn.of_below B (Nat.le_refl _))
  have op := hp.keep (SameIn.of_below B (Nat.le_refl _))
  by_cases q0 : 1048576 < (r.rows.length : Int)
  · skip
    go_enter Tryz.func3, Tryz.ntmps3
    go_wp2_with fail
    generalize (w.alloc (.cells #[.int .i64 r.w, sr] 24)) = W0 at *
    refine (szRegion_c _ _ (or.more (Nat.zero_le _) (by omega)) (by omega) (by omega)).mono ?_
    rintro e w1 ⟨rfl, b1⟩
    have s1 := b1.size
    replace xr := xr.keep (SameIn.of_below b1 (by omega))
    replace or := or.keep (SameIn.of_below b1 (by omega))
    replace op := op.keep (SameIn.of_below b1 (by omega))
    replace B := B.trans (b1.mono (by omega))
    clear b1
    rw [if_pos (by omega)]
    go_wp2
    go_ret
    exact ⟨rfl, B⟩
  by_cases q1 : 1048576 < (r.rows.length : Int) + (CellSS.tot p : Int)
  · skip
    go_enter Tryz.func3, Tryz.ntmps3
    go_wp2_with fail
    generalize (w.alloc (.cells #[.int .i64 r.w, sr] 24)) = W0 at *
    refine (szRegion_c _ _ (or.more (Nat.zero_le _) (by omega)) (by omega) (by omega)).mono ?_
    rintro e w1 ⟨rfl, b1⟩
    have s1 := b1.size
    replace xr := xr.keep (SameIn.of_below b1 (by omega))
    replace or := or.keep (SameIn.of_below b1 (by omega))
    replace op := op.keep (SameIn.of_below b1 (by omega))
    replace B := B.trans (b1.mono (by omega))
    clear b1
    rw [if_neg (by omega)]
    go_wp2_with fail
    refine (szCellSS_c _ _ (op.more (Nat.zero_le _) (by omega)) (by omega) (by omega)).mono ?_
    rintro e w2 ⟨rfl, rfl⟩
    rw [if_pos (by omega)]
    go_wp2
    go_ret
    exact ⟨rfl, B⟩
  go_enter Tryz.func3, Tryz.ntmps3
  go_wp2_with fail
  generalize (w.alloc (.cells #[.int .i64 r.w, sr] 24)) = W0 at *
  refine (szRegion_c _ _ (or.more (Nat.zero_le _) (by omega)) (by omega) (by omega)).mono ?_
  rintro e w1 ⟨rfl, b1⟩
  have s1 := b1.size
  replace xr := xr.keep (SameIn.of_below b1 (by omega))
  replace or := or.keep (SameIn.of_below b1 (by omega))
  replace op := op.keep (SameIn.of_below b1 (by omega))
  replace B := B.trans (b1.mono (by omega))
  clear b1
  rw [if_neg (by omega)]
  go_wp2_with fail
  refine (szCellSS_c _ _ (op.more (Nat.zero_le _) (by omega)) (by omega) (by omega)).mono ?_
  rintro e w2 ⟨rfl, rfl⟩
  rw [if_neg (by omega)]
  have yr0 : w1.cell? ⟨w.heap.size, 0, none⟩ = some (.int .i64 r.w) := (by first | exact xr.cell 0)
  have yr1 : w1.cell? ⟨w.heap.size, 1, none⟩ = some (sr) := (by first | exact xr.cell 1)
  go_wp2_with fail
  clear yr0 yr1
  refine (toRegion_c _ (or.more (Nat.zero_le _) (by omega)) (by omega)).mono ?_
  rintro e w3 ⟨usr, rfl, osr, b3⟩
  have s3 := b3.size
  replace xr := xr.keep (SameIn.of_below b3 (by omega))
  replace or := or.keep (SameIn.of_below b3 (by omega))
  replace op := op.keep (SameIn.of_below b3 (by omega))
  replace B := B.trans (b3.mono (by omega))
  clear b3
  go_wp2_with fail
  refine (toCellSS_c _ (op.more (Nat.zero_le _) (by omega)) (by omega)).mono ?_
  rintro e w4 ⟨usp, rfl, osp, b4⟩
  have s4 := b4.size
  replace xr := xr.keep (SameIn.of_below b4 (by omega))
  replace or := or.keep (SameIn.of_below b4 (by omega))
  replace op := op.keep (SameIn.of_below b4 (by omega))
  replace osr := osr.keep (SameIn.of_below b4 (by omega))
  replace B := B.trans (b4.mono (by omega))
  clear b4
  go_wp2_with fail
  refine (spec_cp_c _ (osr.rd.more (Nat.zero_le _) (by omega)) (osp.rd.more (Nat.zero_le _) (by omega)) (by omega) (CellSS.tot_le (l := p) (n := 1048576) (by omega)).1 (CellSS.tot_le (l := p) (n := 1048576) (by omega)).2).mono ?_
  rintro e w5 ⟨rw0, rfl, orw0, b5⟩
  have s5 := b5.size
  replace xr := xr.keep (SameIn.of_below b5 (by omega))
  replace or := or.keep (SameIn.of_below b5 (by omega))
  replace op := op.keep (SameIn.of_below b5 (by omega))
  replace osr := osr.keep (SameIn.of_below b5 (by omega))
  replace osp := osp.keep (SameIn.of_below b5 (by omega))
  replace B := B.trans (b5.mono (by omega))
  clear b5
  clear osr
  clear osp
  rw [← HD0.out] at orw0
  obtain ⟨t1rw0, t2rw0, t3rw0, t4rw0, t5rw0, rfl, ⟨A1rw0, c1rw0, rfl, _, _⟩, ⟨_, ⟨A2rw0, c2rw0, rfl, _, _⟩, _⟩, ⟨A3rw0, c3rw0, rfl, _, _⟩, ⟨A4rw0, c4rw0, rfl, _, _⟩, ⟨A5rw0, c5rw0, rfl, _, _⟩⟩ := id orw0.rd
  unfold clmV at orw0 ⊢
  have HALL : ((#[.int .i64 D0.kind, .int .i64 D0.reg.w, .slice A1rw0 D0.reg.rows.length c1rw0, .slice A2rw0 D0.pieces.length c2rw0, .slice A3rw0 D0.masks.length c3rw0, .string D0.text, .int .i64 D0.prime, .slice A4rw0 D0.weights.length c4rw0, .int .i64 D0.mask, .slice A5rw0 D0.wang.length c5rw0, .int .i64 D0.width, .int .i64 D0.height] : Array Value).all (·.oneCell')) = true := by simp [Value.oneCell']
  have K0 := clm_store w5 #[.int .i64 D0.kind, .int .i64 D0.reg.w, .slice A1rw0 D0.reg.rows.length c1rw0, .slice A2rw0 D0.pieces.length c2rw0, .slice A3rw0 D0.masks.length c3rw0, .string D0.text, .int .i64 D0.prime, .slice A4rw0 D0.weights.length c4rw0, .int .i64 D0.mask, .slice A5rw0 D0.wang.length c5rw0, .int .i64 D0.width, .int .i64 D0.height]
  obtain ⟨bb, xx, ss⟩ := K0
  have s6 : w5.heap.size + 1 ≤ ((w5.alloc (.cells #[.int .i64 0, .int .i64 0, .slice none 0 0, .slice none 0 0, .slice none 0 0, .string ⟨#[]⟩, .int .i64 0, .slice none 0 0, .int .i64 0, .slice none 0 0, .int .i64 0, .int .i64 0] 32)).setRow w5.heap.size #[.int .i64 D0.kind, .int .i64 D0.reg.w, .slice A1rw0 D0.reg.rows.length c1rw0, .slice A2rw0 D0.pieces.length c2rw0, .slice A3rw0 D0.masks.length c3rw0, .string D0.text, .int .i64 D0.prime, .slice A4rw0 D0.weights.length c4rw0, .int .i64 D0.mask, .slice A5rw0 D0.wang.length c5rw0, .int .i64 D0.width, .int .i64 D0.height]).heap.size := by omega
  replace xr := xr.keep (SameIn.of_below bb (by omega))
  replace or := or.keep (SameIn.of_below bb (by omega))
  replace op := op.keep (SameIn.of_below bb (by omega))
  replace orw0 := orw0.keep (SameIn.of_below bb (by omega))
  replace B := B.trans (bb.mono (by omega))
  clear bb ss
  have xrw0 : BoxIn ((w5.alloc (.cells #[.int .i64 0, .int .i64 0, .slice none 0 0, .slice none 0 0, .slice none 0 0, .string ⟨#[]⟩, .int .i64 0, .slice none 0 0, .int .i64 0, .slice none 0 0, .int .i64 0, .int .i64 0] 32)).setRow w5.heap.size #[.int .i64 D0.kind, .int .i64 D0.reg.w, .slice A1rw0 D0.reg.rows.length c1rw0, .slice A2rw0 D0.pieces.length c2rw0, .slice A3rw0 D0.masks.length c3rw0, .string D0.text, .int .i64 D0.prime, .slice A4rw0 D0.weights.length c4rw0, .int .i64 D0.mask, .slice A5rw0 D0.wang.length c5rw0, .int .i64 D0.width, .int .i64 D0.height]) w5.heap.size (w5.heap.size + 1) w5.heap.size 32 (#[.int .i64 D0.kind, .int .i64 D0.reg.w, .slice A1rw0 D0.reg.rows.length c1rw0, .slice A2rw0 D0.pieces.length c2rw0, .slice A3rw0 D0.masks.length c3rw0, .string D0.text, .int .i64 D0.prime, .slice A4rw0 D0.weights.length c4rw0, .int .i64 D0.mask, .slice A5rw0 D0.wang.length c5rw0, .int .i64 D0.width, .int .i64 D0.height]) := xx
  clear xx
  have yr0 : ((w5.alloc (.cells #[.int .i64 0, .int .i64 0, .slice none 0 0, .slice none 0 0, .slice none 0 0, .string ⟨#[]⟩, .int .i64 0, .slice none 0 0, .int .i64 0, .slice none 0 0, .int .i64 0, .int .i64 0] 32)).setRow w5.heap.size #[.int .i64 D0.kind, .int .i64 D0.reg.w, .slice A1rw0 D0.reg.rows.length c1rw0, .slice A2rw0 D0.pieces.length c2rw0, .slice A3rw0 D0.masks.length c3rw0, .string D0.text, .int .i64 D0.prime, .slice A4rw0 D0.weights.length c4rw0, .int .i64 D0.mask, .slice A5rw0 D0.wang.length c5rw0, .int .i64 D0.width, .int .i64 D0.height]).cell? ⟨w.heap.size, 0, none⟩ = some (.int .i64 r.w) := (by first | exact xr.cell 0)
  have yr1 : ((w5.alloc (.cells #[.int .i64 0, .int .i64 0, .slice none 0 0, .slice none 0 0, .slice none 0 0, .string ⟨#[]⟩, .int .i64 0, .slice none 0 0, .int .i64 0, .slice none 0 0, .int .i64 0, .int .i64 0] 32)).setRow w5.heap.size #[.int .i64 D0.kind, .int .i64 D0.reg.w, .slice A1rw0 D0.reg.rows.length c1rw0, .slice A2rw0 D0.pieces.length c2rw0, .slice A3rw0 D0.masks.length c3rw0, .string D0.text, .int .i64 D0.prime, .slice A4rw0 D0.weights.length c4rw0, .int .i64 D0.mask, .slice A5rw0 D0.wang.length c5rw0, .int .i64 D0.width, .int .i64 D0.height]).cell? ⟨w.heap.size, 1, none⟩ = some (sr) := (by first | exact xr.cell 1)
  go_wp2_with (first | (refine wpList_store_row rfl 32 _ _ rfl w5.heap.size #[.int .i64 D0.kind, .int .i64 D0.reg.w, .slice A1rw0 D0.reg.rows.length c1rw0, .slice A2rw0 D0.pieces.length c2rw0, .slice A3rw0 D0.masks.length c3rw0, .string D0.text, .int .i64 D0.prime, .slice A4rw0 D0.weights.length c4rw0, .int .i64 D0.mask, .slice A5rw0 D0.wang.length c5rw0, .int .i64 D0.width, .int .i64 D0.height] rfl rfl 32 _ (Blk.new _ _ _) (by kernel_rfl) rfl HALL ?_))
  clear HALL
  generalize (w5.alloc (.cells #[.int .i64 0, .int .i64 0, .slice none 0 0, .slice none 0 0, .slice none 0 0, .string ⟨#[]⟩, .int .i64 0, .slice none 0 0, .int .i64 0, .slice none 0 0, .int .i64 0, .int .i64 0] 32)).setRow w5.heap.size #[.int .i64 D0.kind, .int .i64 D0.reg.w, .slice A1rw0 D0.reg.rows.length c1rw0, .slice A2rw0 D0.pieces.length c2rw0, .slice A3rw0 D0.masks.length c3rw0, .string D0.text, .int .i64 D0.prime, .slice A4rw0 D0.weights.length c4rw0, .int .i64 D0.mask, .slice A5rw0 D0.wang.length c5rw0, .int .i64 D0.width, .int .i64 D0.height] = w6 at *
  clear yr0 yr1
  refine (toRegion_c _ (or.more (Nat.zero_le _) (by omega)) (by omega)).mono ?_
  rintro e w7 ⟨uxr, rfl, oxr, b7⟩
  have s7 := b7.size
  replace xr := xr.keep (SameIn.of_below b7 (by omega))
  replace or := or.keep (SameIn.of_below b7 (by omega))
  replace op := op.keep (SameIn.of_below b7 (by omega))
  replace orw0 := orw0.keep (SameIn.of_below b7 (by omega))
  replace xrw0 := xrw0.keep (SameIn.of_below b7 (by omega))
  replace B := B.trans (b7.mono (by omega))
  clear b7
  obtain ⟨tuxr, rfl, guxr⟩ := id oxr
  obtain ⟨Auxr, cuxr, rfl, _, _⟩ := guxr.rd
  clear guxr
  have bb : Below w7.heap.size w7 (w7.alloc (.cells #[.int .i64 r.w, .slice Auxr r.rows.length cuxr] 28)) := (Below.refl _ _).alloc (Nat.le_refl _) _
  have s8 : w7.heap.size + 1 ≤ (w7.alloc (.cells #[.int .i64 r.w, .slice Auxr r.rows.length cuxr] 28)).heap.size := by simp
  replace xr := xr.keep (SameIn.of_below bb (by omega))
  replace or := or.keep (SameIn.of_below bb (by omega))
  replace op := op.keep (SameIn.of_below bb (by omega))
  replace orw0 := orw0.keep (SameIn.of_below bb (by omega))
  replace xrw0 := xrw0.keep (SameIn.of_below bb (by omega))
  replace oxr := oxr.keep (SameIn.of_below bb (by omega))
  replace B := B.trans (bb.mono (by omega))
  clear bb
  have xuxr : BoxIn (w7.alloc (.cells #[.int .i64 r.w, .slice Auxr r.rows.length cuxr] 28)) w7.heap.size (w7.heap.size + 1) w7.heap.size 28 #[.int .i64 r.w, .slice Auxr r.rows.length cuxr] := ⟨Blk.new _ _ _, Nat.le_refl _, Nat.lt_succ_self _⟩
  go_wp2_with fail
  generalize w7.alloc (.cells #[.int .i64 r.w, .slice Auxr r.rows.length cuxr] 28) = w8 at *
  refine (toCellSS_c _ (op.more (Nat.zero_le _) (by omega)) (by omega)).mono ?_
  rintro e w9 ⟨uxp, rfl, oxp, b9⟩
  have s9 := b9.size
  replace xr := xr.keep (SameIn.of_below b9 (by omega))
  replace or := or.keep (SameIn.of_below b9 (by omega))
  replace op := op.keep (SameIn.of_below b9 (by omega))
  replace orw0 := orw0.keep (SameIn.of_below b9 (by omega))
  replace xrw0 := xrw0.keep (SameIn.of_below b9 (by omega))
  replace oxr := oxr.keep (SameIn.of_below b9 (by omega))
  replace xuxr := xuxr.keep (SameIn.of_below b9 (by omega))
  replace B := B.trans (b9.mono (by omega))
  clear b9
  have yuxr0 : w9.cell? ⟨w7.heap.size, 0, none⟩ = some (.int .i64 r.w) := (by first | exact xuxr.cell 0)
  have yuxr1 : w9.cell? ⟨w7.heap.size, 1, none⟩ = some (.slice Auxr r.rows.length cuxr) := (by first | exact xuxr.cell 1)
  go_wp2_with fail
  clear yuxr0 yuxr1
  refine (impl_cp_c _ (oxr.rd.more (Nat.zero_le _) (by omega)) (oxp.rd.more (Nat.zero_le _) (by omega)) (by omega) (CellSS.tot_le (l := p) (n := 1048576) (by omega)).1 (CellSS.tot_le (l := p) (n := 1048576) (by omega)).2).mono ?_
  rintro e w10 ⟨rg0, rfl, org0, b10⟩
  have s10 := b10.size
  replace xr := xr.keep (SameIn.of_below b10 (by omega))
  replace or := or.keep (SameIn.of_below b10 (by omega))
  replace op := op.keep (SameIn.of_below b10 (by omega))
  replace orw0 := orw0.keep (SameIn.of_below b10 (by omega))
  replace xrw0 := xrw0.keep (SameIn.of_below b10 (by omega))
  replace oxr := oxr.keep (SameIn.of_below b10 (by omega))
  replace xuxr := xuxr.keep (SameIn.of_below b10 (by omega))
  replace oxp := oxp.keep (SameIn.of_below b10 (by omega))
  replace B := B.trans (b10.mono (by omega))
  clear b10
  rw [← HD0.out] at org0
  obtain ⟨t1rg0, t2rg0, t3rg0, t4rg0, t5rg0, rfl, ⟨A1rg0, c1rg0, rfl, _, _⟩, ⟨_, ⟨A2rg0, c2rg0, rfl, _, _⟩, _⟩, ⟨A3rg0, c3rg0, rfl, _, _⟩, ⟨A4rg0, c4rg0, rfl, _, _⟩, ⟨A5rg0, c5rg0, rfl, _, _⟩⟩ := id org0.rd
  unfold clmV at org0 ⊢
  have HALL : ((#[.int .i64 D0.kind, .int .i64 D0.reg.w, .slice A1rg0 D0.reg.rows.length c1rg0, .slice A2rg0 D0.pieces.length c2rg0, .slice A3rg0 D0.masks.length c3rg0, .string D0.text, .int .i64 D0.prime, .slice A4rg0 D0.weights.length c4rg0, .int .i64 D0.mask, .slice A5rg0 D0.wang.length c5rg0, .int .i64 D0.width, .int .i64 D0.height] : Array Value).all (·.oneCell')) = true := by simp [Value.oneCell']
  have K0 := clm_store w10 #[.int .i64 D0.kind, .int .i64 D0.reg.w, .slice A1rg0 D0.reg.rows.length c1rg0, .slice A2rg0 D0.pieces.length c2rg0, .slice A3rg0 D0.masks.length c3rg0, .string D0.text, .int .i64 D0.prime, .slice A4rg0 D0.weights.length c4rg0, .int .i64 D0.mask, .slice A5rg0 D0.wang.length c5rg0, .int .i64 D0.width, .int .i64 D0.height]
  obtain ⟨bb, xx, ss⟩ := K0
  have s11 : w10.heap.size + 1 ≤ ((w10.alloc (.cells #[.int .i64 0, .int .i64 0, .slice none 0 0, .slice none 0 0, .slice none 0 0, .string ⟨#[]⟩, .int .i64 0, .slice none 0 0, .int .i64 0, .slice none 0 0, .int .i64 0, .int .i64 0] 32)).setRow w10.heap.size #[.int .i64 D0.kind, .int .i64 D0.reg.w, .slice A1rg0 D0.reg.rows.length c1rg0, .slice A2rg0 D0.pieces.length c2rg0, .slice A3rg0 D0.masks.length c3rg0, .string D0.text, .int .i64 D0.prime, .slice A4rg0 D0.weights.length c4rg0, .int .i64 D0.mask, .slice A5rg0 D0.wang.length c5rg0, .int .i64 D0.width, .int .i64 D0.height]).heap.size := by omega
  replace xr := xr.keep (SameIn.of_below bb (by omega))
  replace or := or.keep (SameIn.of_below bb (by omega))
  replace op := op.keep (SameIn.of_below bb (by omega))
  replace orw0 := orw0.keep (SameIn.of_below bb (by omega))
  replace xrw0 := xrw0.keep (SameIn.of_below bb (by omega))
  replace oxr := oxr.keep (SameIn.of_below bb (by omega))
  replace xuxr := xuxr.keep (SameIn.of_below bb (by omega))
  replace oxp := oxp.keep (SameIn.of_below bb (by omega))
  replace org0 := org0.keep (SameIn.of_below bb (by omega))
  replace B := B.trans (bb.mono (by omega))
  clear bb ss
  have xrg0 : BoxIn ((w10.alloc (.cells #[.int .i64 0, .int .i64 0, .slice none 0 0, .slice none 0 0, .slice none 0 0, .string ⟨#[]⟩, .int .i64 0, .slice none 0 0, .int .i64 0, .slice none 0 0, .int .i64 0, .int .i64 0] 32)).setRow w10.heap.size #[.int .i64 D0.kind, .int .i64 D0.reg.w, .slice A1rg0 D0.reg.rows.length c1rg0, .slice A2rg0 D0.pieces.length c2rg0, .slice A3rg0 D0.masks.length c3rg0, .string D0.text, .int .i64 D0.prime, .slice A4rg0 D0.weights.length c4rg0, .int .i64 D0.mask, .slice A5rg0 D0.wang.length c5rg0, .int .i64 D0.width, .int .i64 D0.height]) w10.heap.size (w10.heap.size + 1) w10.heap.size 32 (#[.int .i64 D0.kind, .int .i64 D0.reg.w, .slice A1rg0 D0.reg.rows.length c1rg0, .slice A2rg0 D0.pieces.length c2rg0, .slice A3rg0 D0.masks.length c3rg0, .string D0.text, .int .i64 D0.prime, .slice A4rg0 D0.weights.length c4rg0, .int .i64 D0.mask, .slice A5rg0 D0.wang.length c5rg0, .int .i64 D0.width, .int .i64 D0.height]) := xx
  clear xx
  go_wp2_with (first | (refine wpList_store_row rfl 32 _ _ rfl w10.heap.size #[.int .i64 D0.kind, .int .i64 D0.reg.w, .slice A1rg0 D0.reg.rows.length c1rg0, .slice A2rg0 D0.pieces.length c2rg0, .slice A3rg0 D0.masks.length c3rg0, .string D0.text, .int .i64 D0.prime, .slice A4rg0 D0.weights.length c4rg0, .int .i64 D0.mask, .slice A5rg0 D0.wang.length c5rg0, .int .i64 D0.width, .int .i64 D0.height] rfl rfl 32 _ (Blk.new _ _ _) (by kernel_rfl) rfl HALL ?_) | (refine wpList_load_rowW rfl 32 _ rfl (w10.heap.size) rfl 32 _ _ _ xrg0.1 Tryz.underlying32 rfl (by kernel_rfl) ?_) | (refine wpList_load_rowW rfl 32 _ rfl (w5.heap.size) rfl 32 _ _ _ xrw0.1 Tryz.underlying32 rfl (by kernel_rfl) ?_))
  clear HALL
  generalize (w10.alloc (.cells #[.int .i64 0, .int .i64 0, .slice none 0 0, .slice none 0 0, .slice none 0 0, .string ⟨#[]⟩, .int .i64 0, .slice none 0 0, .int .i64 0, .slice none 0 0, .int .i64 0, .int .i64 0] 32)).setRow w10.heap.size #[.int .i64 D0.kind, .int .i64 D0.reg.w, .slice A1rg0 D0.reg.rows.length c1rg0, .slice A2rg0 D0.pieces.length c2rg0, .slice A3rg0 D0.masks.length c3rg0, .string D0.text, .int .i64 D0.prime, .slice A4rg0 D0.weights.length c4rg0, .int .i64 D0.mask, .slice A5rg0 D0.wang.length c5rg0, .int .i64 D0.width, .int .i64 D0.height] = w11 at *
  refine (eqClaim_c _ (org0.rd.more (Nat.zero_le _) (by omega)) (orw0.rd.more (Nat.zero_le _) (by omega))).mono ?_
  rintro e w12 ⟨rfl, b12⟩
  have s12 := b12.size
  replace xr := xr.keep (SameIn.of_below b12 (by omega))
  replace or := or.keep (SameIn.of_below b12 (by omega))
  replace op := op.keep (SameIn.of_below b12 (by omega))
  replace orw0 := orw0.keep (SameIn.of_below b12 (by omega))
  replace xrw0 := xrw0.keep (SameIn.of_below b12 (by omega))
  replace oxr := oxr.keep (SameIn.of_below b12 (by omega))
  replace xuxr := xuxr.keep (SameIn.of_below b12 (by omega))
  replace oxp := oxp.keep (SameIn.of_below b12 (by omega))
  replace org0 := org0.keep (SameIn.of_below b12 (by omega))
  replace xrg0 := xrg0.keep (SameIn.of_below b12 (by omega))
  replace B := B.trans (b12.mono (by omega))
  clear b12
  have yuxr0 : w12.cell? ⟨w7.heap.size, 0, none⟩ = some (.int .i64 r.w) := (by first | exact xuxr.cell 0)
  have yuxr1 : w12.cell? ⟨w7.heap.size, 1, none⟩ = some (.slice Auxr r.rows.length cuxr) := (by first | exact xuxr.cell 1)
  have yr0 : w12.cell? ⟨w.heap.size, 0, none⟩ = some (.int .i64 r.w) := (by first | exact xr.cell 0)
  have yr1 : w12.cell? ⟨w.heap.size, 1, none⟩ = some (sr) := (by first | exact xr.cell 1)
  go_wp2_with fail
  go_region_held3 (fun w' => w'.cell? ⟨w7.heap.size, 0, none⟩ = some (.int .i64 r.w) ∧ w'.cell? ⟨w7.heap.size, 1, none⟩ = some (.slice Auxr r.rows.length cuxr) ∧ w'.cell? ⟨w.heap.size, 0, none⟩ = some (.int .i64 r.w) ∧ w'.cell? ⟨w.heap.size, 1, none⟩ = some (sr))
    (first | ((try dsimp only); refine ⟨?_, ?_, ?_, ?_⟩ <;> assumption) | go_keep)
    ((first | (go_at_call 7; (with_reducible refine (toRegion_c (v := (.agg #[.int .i64 r.w, sr])) (x := r) _ (by exact ((or.keep (SameIn.drew)).more (Nat.zero_le _) (le_drew (show w.heap.size ≤ w12.heap.size by omega)))) (by omega)).mono ?_); rintro e w13 ⟨utr, rfl, otr, b13⟩; replace b13 := below_undrew b13; have s13 := b13.size; replace xr := xr.keep (SameIn.of_below b13 (by omega)); replace or := or.keep (SameIn.of_below b13 (by omega)); replace op := op.keep (SameIn.of_below b13 (by omega)); replace orw0 := orw0.keep (SameIn.of_below b13 (by omega)); replace xrw0 := xrw0.keep (SameIn.of_below b13 (by omega)); replace oxr := oxr.keep (SameIn.of_below b13 (by omega)); replace xuxr := xuxr.keep (SameIn.of_below b13 (by omega)); replace oxp := oxp.keep (SameIn.of_below b13 (by omega)); replace org0 := org0.keep (SameIn.of_below b13 (by omega)); replace xrg0 := xrg0.keep (SameIn.of_below b13 (by omega)); replace B := B.trans (b13.mono (by omega)); clear b13; have yuxr0_13 : w13.cell? ⟨w7.heap.size, 0, none⟩ = some (.int .i64 r.w) := (by first | exact xuxr.cell 0); have yuxr1_13 : w13.cell? ⟨w7.heap.size, 1, none⟩ = some (.slice Auxr r.rows.length cuxr) := (by first | exact xuxr.cell 1); have yr0_13 : w13.cell? ⟨w.heap.size, 0, none⟩ = some (.int .i64 r.w) := (by first | exact xr.cell 0); have yr1_13 : w13.cell? ⟨w.heap.size, 1, none⟩ = some (sr) := (by first | exact xr.cell 1)) | (go_at_call 11; (with_reducible refine (eqRegion_c (x := r) _ (oxr.rd.more (Nat.zero_le _) (by omega)) (otr.rd.more (Nat.zero_le _) (by omega))).mono ?_); rintro e w14 ⟨rfl, b14⟩; have s14 := b14.size; replace xr := xr.keep (SameIn.of_below b14 (by omega)); replace or := or.keep (SameIn.of_below b14 (by omega)); replace op := op.keep (SameIn.of_below b14 (by omega)); replace orw0 := orw0.keep (SameIn.of_below b14 (by omega)); replace xrw0 := xrw0.keep (SameIn.of_below b14 (by omega)); replace oxr := oxr.keep (SameIn.of_below b14 (by omega)); replace xuxr := xuxr.keep (SameIn.of_below b14 (by omega)); replace oxp := oxp.keep (SameIn.of_below b14 (by omega)); replace org0 := org0.keep (SameIn.of_below b14 (by omega)); replace xrg0 := xrg0.keep (SameIn.of_below b14 (by omega)); replace otr := otr.keep (SameIn.of_below b14 (by omega)); replace B := B.trans (b14.mono (by omega)); clear b14; have yuxr0_14 : w14.cell? ⟨w7.heap.size, 0, none⟩ = some (.int .i64 r.w) := (by first | exact xuxr.cell 0); have yuxr1_14 : w14.cell? ⟨w7.heap.size, 1, none⟩ = some (.slice Auxr r.rows.length cuxr) := (by first | exact xuxr.cell 1); have yr0_14 : w14.cell? ⟨w.heap.size, 0, none⟩ = some (.int .i64 r.w) := (by first | exact xr.cell 0); have yr1_14 : w14.cell? ⟨w.heap.size, 1, none⟩ = some (sr) := (by first | exact xr.cell 1))))
  clear yuxr0_13 yuxr1_13 yr0_13 yr1_13 yuxr0_14 yuxr1_14 yr0_14 yr1_14
  clear yuxr0 yuxr1 yr0 yr1
  clear otr
  go_wp2_with fail
  refine (toCellSS_c _ (op.more (Nat.zero_le _) (by omega)) (by omega)).mono ?_
  rintro e w15 ⟨utp, rfl, otp, b15⟩
  have s15 := b15.size
  replace xr := xr.keep (SameIn.of_below b15 (by omega))
  replace or := or.keep (SameIn.of_below b15 (by omega))
  replace op := op.keep (SameIn.of_below b15 (by omega))
  replace orw0 := orw0.keep (SameIn.of_below b15 (by omega))
  replace xrw0 := xrw0.keep (SameIn.of_below b15 (by omega))
  replace oxr := oxr.keep (SameIn.of_below b15 (by omega))
  replace xuxr := xuxr.keep (SameIn.of_below b15 (by omega))
  replace oxp := oxp.keep (SameIn.of_below b15 (by omega))
  replace org0 := org0.keep (SameIn.of_below b15 (by omega))
  replace xrg0 := xrg0.keep (SameIn.of_below b15 (by omega))
  replace B := B.trans (b15.mono (by omega))
  clear b15
  go_wp2_with fail
  refine (eqCellSS_c _ (oxp.rd.more (Nat.zero_le _) (by omega)) (otp.rd.more (Nat.zero_le _) (by omega))).mono ?_
  rintro e w16 ⟨rfl, b16⟩
  have s16 := b16.size
  replace xr := xr.keep (SameIn.of_below b16 (by omega))
  replace or := or.keep (SameIn.of_below b16 (by omega))
  replace op := op.keep (SameIn.of_below b16 (by omega))
  replace orw0 := orw0.keep (SameIn.of_below b16 (by omega))
  replace xrw0 := xrw0.keep (SameIn.of_below b16 (by omega))
  replace oxr := oxr.keep (SameIn.of_below b16 (by omega))
  replace xuxr := xuxr.keep (SameIn.of_below b16 (by omega))
  replace oxp := oxp.keep (SameIn.of_below b16 (by omega))
  replace org0 := org0.keep (SameIn.of_below b16 (by omega))
  replace xrg0 := xrg0.keep (SameIn.of_below b16 (by omega))
  replace otp := otp.keep (SameIn.of_below b16 (by omega))
  replace B := B.trans (b16.mono (by omega))
  clear b16
  clear otp
  have yuxr0 : w16.cell? ⟨w7.heap.size, 0, none⟩ = some (.int .i64 r.w) := (by first | exact xuxr.cell 0)
  have yuxr1 : w16.cell? ⟨w7.heap.size, 1, none⟩ = some (.slice Auxr r.rows.length cuxr) := (by first | exact xuxr.cell 1)
  go_wp2_with fail
  clear yuxr0 yuxr1
  refine (markRegion_c _ _ (by omega) (by omega) (by omega) (by omega) oxr).mono ?_
  rintro e w17 ⟨rfl, oxr', b17⟩
  have s17 := b17.size
  replace xr := xr.keep (SameIn.of_out b17 (by omega) (by omega))
  replace or := or.keep (SameIn.of_out b17 (by omega) (by omega))
  replace op := op.keep (SameIn.of_out b17 (by omega) (by omega))
  replace orw0 := orw0.keep (SameIn.of_out b17 (by omega) (by omega))
  replace xrw0 := xrw0.keep (SameIn.of_out b17 (by omega) (by omega))
  replace xuxr := xuxr.keep (SameIn.of_out b17 (by omega) (by omega))
  replace oxp := oxp.keep (SameIn.of_out b17 (by omega) (by omega))
  replace org0 := org0.keep (SameIn.of_out b17 (by omega) (by omega))
  replace xrg0 := xrg0.keep (SameIn.of_out b17 (by omega) (by omega))
  clear oxr
  have oxr := oxr'
  clear oxr'
  replace B := B.trans (b17.below (by omega) (by omega))
  clear b17
  go_wp2_with fail
  refine (markCellSS_c _ _ (by omega) (by omega) (by omega) (by omega) oxp).mono ?_
  rintro e w18 ⟨rfl, oxp', b18⟩
  have s18 := b18.size
  replace xr := xr.keep (SameIn.of_out b18 (by omega) (by omega))
  replace or := or.keep (SameIn.of_out b18 (by omega) (by omega))
  replace op := op.keep (SameIn.of_out b18 (by omega) (by omega))
  replace orw0 := orw0.keep (SameIn.of_out b18 (by omega) (by omega))
  replace xrw0 := xrw0.keep (SameIn.of_out b18 (by omega) (by omega))
  replace oxr := oxr.keep (SameIn.of_out b18 (by omega) (by omega))
  replace xuxr := xuxr.keep (SameIn.of_out b18 (by omega) (by omega))
  replace org0 := org0.keep (SameIn.of_out b18 (by omega) (by omega))
  replace xrg0 := xrg0.keep (SameIn.of_out b18 (by omega) (by omega))
  clear oxp
  have oxp := oxp'
  clear oxp'
  replace B := B.trans (b18.below (by omega) (by omega))
  clear b18
  go_wp2_with (first | (refine wpList_load_rowW rfl 32 _ rfl (w10.heap.size) rfl 32 _ _ _ xrg0.1 Tryz.underlying32 rfl (by kernel_rfl) ?_) | (refine wpList_load_rowW rfl 32 _ rfl (w5.heap.size) rfl 32 _ _ _ xrw0.1 Tryz.underlying32 rfl (by kernel_rfl) ?_))
  refine (eqClaim_c _ (org0.rd.more (Nat.zero_le _) (by omega)) (orw0.rd.more (Nat.zero_le _) (by omega))).mono ?_
  rintro e w19 ⟨rfl, b19⟩
  have s19 := b19.size
  replace xr := xr.keep (SameIn.of_below b19 (by omega))
  replace or := or.keep (SameIn.of_below b19 (by omega))
  replace op := op.keep (SameIn.of_below b19 (by omega))
  replace orw0 := orw0.keep (SameIn.of_below b19 (by omega))
  replace xrw0 := xrw0.keep (SameIn.of_below b19 (by omega))
  replace oxr := oxr.keep (SameIn.of_below b19 (by omega))
  replace xuxr := xuxr.keep (SameIn.of_below b19 (by omega))
  replace oxp := oxp.keep (SameIn.of_below b19 (by omega))
  replace org0 := org0.keep (SameIn.of_below b19 (by omega))
  replace xrg0 := xrg0.keep (SameIn.of_below b19 (by omega))
  replace B := B.trans (b19.mono (by omega))
  clear b19
  have hl0 : ClmSz D0 := by rw [HD0.out]; exact (pakC_sz r p (by omega) (by omega))
  obtain ⟨mq, hmq⟩ : ∃ q : Int, q = Clm.marks 1 D0 := ⟨_, rfl⟩
  have mq0 : 0 ≤ mq ∧ mq ≤ 100000000 := by rw [hmq]; exact hl0.mq
  obtain ⟨mq0, mq1⟩ := mq0
  have HMQ := Lib.hid hmq
  clear hmq
  go_wp2_with (first | (refine wpList_load_rowW rfl 32 _ rfl (w10.heap.size) rfl 32 _ _ _ xrg0.1 Tryz.underlying32 rfl (by kernel_rfl) ?_))
  refine (markClaim_c _ _ hl0 (by omega) (by omega) (by omega) org0).mono ?_
  rintro e w20 ⟨rfl, org0', b20⟩
  have s20 := b20.size
  replace xr := xr.keep (SameIn.of_out b20 (by omega) (by omega))
  replace or := or.keep (SameIn.of_out b20 (by omega) (by omega))
  replace op := op.keep (SameIn.of_out b20 (by omega) (by omega))
  replace orw0 := orw0.keep (SameIn.of_out b20 (by omega) (by omega))
  replace xrw0 := xrw0.keep (SameIn.of_out b20 (by omega) (by omega))
  replace oxr := oxr.keep (SameIn.of_out b20 (by omega) (by omega))
  replace xuxr := xuxr.keep (SameIn.of_out b20 (by omega) (by omega))
  replace oxp := oxp.keep (SameIn.of_out b20 (by omega) (by omega))
  replace xrg0 := xrg0.keep (SameIn.of_out b20 (by omega) (by omega))
  clear org0
  have org0 := org0'
  clear org0'
  replace B := B.trans (b20.below (by omega) (by omega))
  clear b20
  rw [← HMQ.out]
  go_wp2_with (first | (refine wpList_load_rowW rfl 32 _ rfl (w10.heap.size) rfl 32 _ _ _ xrg0.1 Tryz.underlying32 rfl (by kernel_rfl) ?_))
  refine (heldClaim_c _ _ hl0 (by omega) (by omega) (org0.rd.more (Nat.zero_le _) (by omega))).mono ?_
  rintro e w21 ⟨rfl, b21⟩
  have s21 := b21.size
  replace xr := xr.keep (SameIn.of_below b21 (by omega))
  replace or := or.keep (SameIn.of_below b21 (by omega))
  replace op := op.keep (SameIn.of_below b21 (by omega))
  replace orw0 := orw0.keep (SameIn.of_below b21 (by omega))
  replace xrw0 := xrw0.keep (SameIn.of_below b21 (by omega))
  replace oxr := oxr.keep (SameIn.of_below b21 (by omega))
  replace xuxr := xuxr.keep (SameIn.of_below b21 (by omega))
  replace oxp := oxp.keep (SameIn.of_below b21 (by omega))
  replace org0 := org0.keep (SameIn.of_below b21 (by omega))
  replace xrg0 := xrg0.keep (SameIn.of_below b21 (by omega))
  replace B := B.trans (b21.mono (by omega))
  clear b21
  rw [← HMQ.out]
  have yr0 : w21.cell? ⟨w.heap.size, 0, none⟩ = some (.int .i64 r.w) := (by first | exact xr.cell 0)
  have yr1 : w21.cell? ⟨w.heap.size, 1, none⟩ = some (sr) := (by first | exact xr.cell 1)
  go_wp2_with fail
  clear yr0 yr1
  refine (toRegion_c _ (or.more (Nat.zero_le _) (by omega)) (by omega)).mono ?_
  rintro e w22 ⟨uyr, rfl, oyr, b22⟩
  have s22 := b22.size
  replace xr := xr.keep (SameIn.of_below b22 (by omega))
  replace or := or.keep (SameIn.of_below b22 (by omega))
  replace op := op.keep (SameIn.of_below b22 (by omega))
  replace orw0 := orw0.keep (SameIn.of_below b22 (by omega))
  replace xrw0 := xrw0.keep (SameIn.of_below b22 (by omega))
  replace oxr := oxr.keep (SameIn.of_below b22 (by omega))
  replace xuxr := xuxr.keep (SameIn.of_below b22 (by omega))
  replace oxp := oxp.keep (SameIn.of_below b22 (by omega))
  replace org0 := org0.keep (SameIn.of_below b22 (by omega))
  replace xrg0 := xrg0.keep (SameIn.of_below b22 (by omega))
  replace B := B.trans (b22.mono (by omega))
  clear b22
  go_wp2_with fail
  refine (toCellSS_c _ (op.more (Nat.zero_le _) (by omega)) (by omega)).mono ?_
  rintro e w23 ⟨uyp, rfl, oyp, b23⟩
  have s23 := b23.size
  replace xr := xr.keep (SameIn.of_below b23 (by omega))
  replace or := or.keep (SameIn.of_below b23 (by omega))
  replace op := op.keep (SameIn.of_below b23 (by omega))
  replace orw0 := orw0.keep (SameIn.of_below b23 (by omega))
  replace xrw0 := xrw0.keep (SameIn.of_below b23 (by omega))
  replace oxr := oxr.keep (SameIn.of_below b23 (by omega))
  replace xuxr := xuxr.keep (SameIn.of_below b23 (by omega))
  replace oxp := oxp.keep (SameIn.of_below b23 (by omega))
  replace org0 := org0.keep (SameIn.of_below b23 (by omega))
  replace xrg0 := xrg0.keep (SameIn.of_below b23 (by omega))
  replace oyr := oyr.keep (SameIn.of_below b23 (by omega))
  replace B := B.trans (b23.mono (by omega))
  clear b23
  go_wp2_with fail
  refine (impl_cp_c _ (oyr.rd.more (Nat.zero_le _) (by omega)) (oyp.rd.more (Nat.zero_le _) (by omega)) (by omega) (CellSS.tot_le (l := p) (n := 1048576) (by omega)).1 (CellSS.tot_le (l := p) (n := 1048576) (by omega)).2).mono ?_
  rintro e w24 ⟨rh0, rfl, orh0, b24⟩
  have s24 := b24.size
  replace xr := xr.keep (SameIn.of_below b24 (by omega))
  replace or := or.keep (SameIn.of_below b24 (by omega))
  replace op := op.keep (SameIn.of_below b24 (by omega))
  replace orw0 := orw0.keep (SameIn.of_below b24 (by omega))
  replace xrw0 := xrw0.keep (SameIn.of_below b24 (by omega))
  replace oxr := oxr.keep (SameIn.of_below b24 (by omega))
  replace xuxr := xuxr.keep (SameIn.of_below b24 (by omega))
  replace oxp := oxp.keep (SameIn.of_below b24 (by omega))
  replace org0 := org0.keep (SameIn.of_below b24 (by omega))
  replace xrg0 := xrg0.keep (SameIn.of_below b24 (by omega))
  replace oyr := oyr.keep (SameIn.of_below b24 (by omega))
  replace oyp := oyp.keep (SameIn.of_below b24 (by omega))
  replace B := B.trans (b24.mono (by omega))
  clear b24
  clear oyr
  clear oyp
  rw [← HD0.out] at orh0
  obtain ⟨t1rh0, t2rh0, t3rh0, t4rh0, t5rh0, rfl, ⟨A1rh0, c1rh0, rfl, _, _⟩, ⟨_, ⟨A2rh0, c2rh0, rfl, _, _⟩, _⟩, ⟨A3rh0, c3rh0, rfl, _, _⟩, ⟨A4rh0, c4rh0, rfl, _, _⟩, ⟨A5rh0, c5rh0, rfl, _, _⟩⟩ := id orh0.rd
  unfold clmV at orh0 ⊢
  have HALL : ((#[.int .i64 D0.kind, .int .i64 D0.reg.w, .slice A1rh0 D0.reg.rows.length c1rh0, .slice A2rh0 D0.pieces.length c2rh0, .slice A3rh0 D0.masks.length c3rh0, .string D0.text, .int .i64 D0.prime, .slice A4rh0 D0.weights.length c4rh0, .int .i64 D0.mask, .slice A5rh0 D0.wang.length c5rh0, .int .i64 D0.width, .int .i64 D0.height] : Array Value).all (·.oneCell')) = true := by simp [Value.oneCell']
  have K0 := clm_store w24 #[.int .i64 D0.kind, .int .i64 D0.reg.w, .slice A1rh0 D0.reg.rows.length c1rh0, .slice A2rh0 D0.pieces.length c2rh0, .slice A3rh0 D0.masks.length c3rh0, .string D0.text, .int .i64 D0.prime, .slice A4rh0 D0.weights.length c4rh0, .int .i64 D0.mask, .slice A5rh0 D0.wang.length c5rh0, .int .i64 D0.width, .int .i64 D0.height]
  obtain ⟨bb, xx, ss⟩ := K0
  have s25 : w24.heap.size + 1 ≤ ((w24.alloc (.cells #[.int .i64 0, .int .i64 0, .slice none 0 0, .slice none 0 0, .slice none 0 0, .string ⟨#[]⟩, .int .i64 0, .slice none 0 0, .int .i64 0, .slice none 0 0, .int .i64 0, .int .i64 0] 32)).setRow w24.heap.size #[.int .i64 D0.kind, .int .i64 D0.reg.w, .slice A1rh0 D0.reg.rows.length c1rh0, .slice A2rh0 D0.pieces.length c2rh0, .slice A3rh0 D0.masks.length c3rh0, .string D0.text, .int .i64 D0.prime, .slice A4rh0 D0.weights.length c4rh0, .int .i64 D0.mask, .slice A5rh0 D0.wang.length c5rh0, .int .i64 D0.width, .int .i64 D0.height]).heap.size := by omega
  replace xr := xr.keep (SameIn.of_below bb (by omega))
  replace or := or.keep (SameIn.of_below bb (by omega))
  replace op := op.keep (SameIn.of_below bb (by omega))
  replace orw0 := orw0.keep (SameIn.of_below bb (by omega))
  replace xrw0 := xrw0.keep (SameIn.of_below bb (by omega))
  replace oxr := oxr.keep (SameIn.of_below bb (by omega))
  replace xuxr := xuxr.keep (SameIn.of_below bb (by omega))
  replace oxp := oxp.keep (SameIn.of_below bb (by omega))
  replace org0 := org0.keep (SameIn.of_below bb (by omega))
  replace xrg0 := xrg0.keep (SameIn.of_below bb (by omega))
  replace orh0 := orh0.keep (SameIn.of_below bb (by omega))
  replace B := B.trans (bb.mono (by omega))
  clear bb ss
  have xrh0 : BoxIn ((w24.alloc (.cells #[.int .i64 0, .int .i64 0, .slice none 0 0, .slice none 0 0, .slice none 0 0, .string ⟨#[]⟩, .int .i64 0, .slice none 0 0, .int .i64 0, .slice none 0 0, .int .i64 0, .int .i64 0] 32)).setRow w24.heap.size #[.int .i64 D0.kind, .int .i64 D0.reg.w, .slice A1rh0 D0.reg.rows.length c1rh0, .slice A2rh0 D0.pieces.length c2rh0, .slice A3rh0 D0.masks.length c3rh0, .string D0.text, .int .i64 D0.prime, .slice A4rh0 D0.weights.length c4rh0, .int .i64 D0.mask, .slice A5rh0 D0.wang.length c5rh0, .int .i64 D0.width, .int .i64 D0.height]) w24.heap.size (w24.heap.size + 1) w24.heap.size 32 (#[.int .i64 D0.kind, .int .i64 D0.reg.w, .slice A1rh0 D0.reg.rows.length c1rh0, .slice A2rh0 D0.pieces.length c2rh0, .slice A3rh0 D0.masks.length c3rh0, .string D0.text, .int .i64 D0.prime, .slice A4rh0 D0.weights.length c4rh0, .int .i64 D0.mask, .slice A5rh0 D0.wang.length c5rh0, .int .i64 D0.width, .int .i64 D0.height]) := xx
  clear xx
  go_wp2_with (first | (refine wpList_store_row rfl 32 _ _ rfl w24.heap.size #[.int .i64 D0.kind, .int .i64 D0.reg.w, .slice A1rh0 D0.reg.rows.length c1rh0, .slice A2rh0 D0.pieces.length c2rh0, .slice A3rh0 D0.masks.length c3rh0, .string D0.text, .int .i64 D0.prime, .slice A4rh0 D0.weights.length c4rh0, .int .i64 D0.mask, .slice A5rh0 D0.wang.length c5rh0, .int .i64 D0.width, .int .i64 D0.height] rfl rfl 32 _ (Blk.new _ _ _) (by kernel_rfl) rfl HALL ?_) | (refine wpList_load_rowW rfl 32 _ rfl (w24.heap.size) rfl 32 _ _ _ xrh0.1 Tryz.underlying32 rfl (by kernel_rfl) ?_) | (refine wpList_load_rowW rfl 32 _ rfl (w5.heap.size) rfl 32 _ _ _ xrw0.1 Tryz.underlying32 rfl (by kernel_rfl) ?_))
  clear HALL
  generalize (w24.alloc (.cells #[.int .i64 0, .int .i64 0, .slice none 0 0, .slice none 0 0, .slice none 0 0, .string ⟨#[]⟩, .int .i64 0, .slice none 0 0, .int .i64 0, .slice none 0 0, .int .i64 0, .int .i64 0] 32)).setRow w24.heap.size #[.int .i64 D0.kind, .int .i64 D0.reg.w, .slice A1rh0 D0.reg.rows.length c1rh0, .slice A2rh0 D0.pieces.length c2rh0, .slice A3rh0 D0.masks.length c3rh0, .string D0.text, .int .i64 D0.prime, .slice A4rh0 D0.weights.length c4rh0, .int .i64 D0.mask, .slice A5rh0 D0.wang.length c5rh0, .int .i64 D0.width, .int .i64 D0.height] = w25 at *
  refine (eqClaim_c _ (orh0.rd.more (Nat.zero_le _) (by omega)) (orw0.rd.more (Nat.zero_le _) (by omega))).mono ?_
  rintro e w26 ⟨rfl, b26⟩
  have s26 := b26.size
  replace xr := xr.keep (SameIn.of_below b26 (by omega))
  replace or := or.keep (SameIn.of_below b26 (by omega))
  replace op := op.keep (SameIn.of_below b26 (by omega))
  replace orw0 := orw0.keep (SameIn.of_below b26 (by omega))
  replace xrw0 := xrw0.keep (SameIn.of_below b26 (by omega))
  replace oxr := oxr.keep (SameIn.of_below b26 (by omega))
  replace xuxr := xuxr.keep (SameIn.of_below b26 (by omega))
  replace oxp := oxp.keep (SameIn.of_below b26 (by omega))
  replace org0 := org0.keep (SameIn.of_below b26 (by omega))
  replace xrg0 := xrg0.keep (SameIn.of_below b26 (by omega))
  replace orh0 := orh0.keep (SameIn.of_below b26 (by omega))
  replace xrh0 := xrh0.keep (SameIn.of_below b26 (by omega))
  replace B := B.trans (b26.mono (by omega))
  clear b26
  go_wp2_with (first | (refine wpList_load_rowW rfl 32 _ rfl (w10.heap.size) rfl 32 _ _ _ xrg0.1 Tryz.underlying32 rfl (by kernel_rfl) ?_))
  refine (heldClaim_c _ _ hl0 (by omega) (by omega) (org0.rd.more (Nat.zero_le _) (by omega))).mono ?_
  rintro e w27 ⟨rfl, b27⟩
  have s27 := b27.size
  replace xr := xr.keep (SameIn.of_below b27 (by omega))
  replace or := or.keep (SameIn.of_below b27 (by omega))
  replace op := op.keep (SameIn.of_below b27 (by omega))
  replace orw0 := orw0.keep (SameIn.of_below b27 (by omega))
  replace xrw0 := xrw0.keep (SameIn.of_below b27 (by omega))
  replace oxr := oxr.keep (SameIn.of_below b27 (by omega))
  replace xuxr := xuxr.keep (SameIn.of_below b27 (by omega))
  replace oxp := oxp.keep (SameIn.of_below b27 (by omega))
  replace org0 := org0.keep (SameIn.of_below b27 (by omega))
  replace xrg0 := xrg0.keep (SameIn.of_below b27 (by omega))
  replace orh0 := orh0.keep (SameIn.of_below b27 (by omega))
  replace xrh0 := xrh0.keep (SameIn.of_below b27 (by omega))
  replace B := B.trans (b27.mono (by omega))
  clear b27
  rw [← HMQ.out]
  go_wp2
  go_ret
  exact ⟨rfl, B⟩

end Go.Proofs.YtfmkmjebkmimkaaGreat
