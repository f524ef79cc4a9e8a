
/-
  The law's helpers over a claim that a function gives: a region, shapes, masks or weights, apart from each other.
-/
import Derived.Test.YtfmkmjebkmimkaaGreatLawClmX
import Derived.Test.YtfmkmjebkmimkaaGreatLawPcs
import Derived.Test.YtfmkmjebkmimkaaGreatLawWangX
namespace Go.Proofs.YtfmkmjebkmimkaaGreat
open Go.RowKit

theorem shps_nil {w : World} {lo hi : Nat} : ShpsIn w lo hi (.slice none 0 0) [] := ⟨[], rfl, OI.nil, fun j x u hx => by simp at hx, List.Pairwise.nil⟩
def ClmIn (w : World) (lo hi : Nat) (v : Value) (C : Clm) : Prop := ∃ m1 m2 s1 s2 s3 s4, v = clmV C.kind C.reg.w C.prime C.mask C.width C.height C.text s1 s2 s3 s4 (.slice none 0 0) ∧ C.wang = [] ∧ lo ≤ m1 ∧ m1 ≤ m2 ∧ m2 ≤ hi ∧
  IntsIn w m1 m2 s1 C.reg.rows ∧ ShpsIn w m2 hi s2 C.pieces ∧ IntsIn w lo m1 s3 C.masks ∧ IntsIn w lo m1 s4 C.weights ∧ ((C.masks = [] ∧ s3 = .slice none 0 0) ∨ (C.weights = [] ∧ s4 = .slice none 0 0))
def Clm.marks (k : Int) (C : Clm) : Int := k + C.reg.rows.length + 2 * (CellSS.num C.pieces : Int) + C.masks.length + C.weights.length
def Clm.mk1 (k : Int) (C : Clm) : Clm := { C with reg := Regs.mk k C.reg, pieces := CellSS.mk (k + C.reg.rows.length) C.pieces, masks := Ints.mk (k + C.reg.rows.length + 2 * (CellSS.num C.pieces : Int)) C.masks, weights := Ints.mk (k + C.reg.rows.length + 2 * (CellSS.num C.pieces : Int) + C.masks.length) C.weights }
theorem ClmIn.rd {w : World} {lo hi : Nat} {v : Value} {C : Clm} (h : ClmIn w lo hi v C) : ClmRd w lo hi v C := by
  obtain ⟨m1, m2, s1, s2, s3, s4, rfl, h0, h1, h2, h3, h4, h5, h6, h7, _⟩ := h
  refine ⟨s1, s2, s3, s4, _, rfl, h4.rd.more (by omega) (by omega), h5.rd.more (by omega) (by omega), h6.rd.more (by omega) (by omega), h7.rd.more (by omega) (by omega), ?_⟩
  rw [h0]
  exact WangsIn.nil.rd
theorem ClmIn.keep {w w' : World} {lo hi : Nat} {v : Value} {C : Clm} (h : ClmIn w lo hi v C) (hs : SameIn lo hi w w') : ClmIn w' lo hi v C := by
  obtain ⟨m1, m2, s1, s2, s3, s4, rfl, h0, h1, h2, h3, h4, h5, h6, h7, h8⟩ := h
  exact ⟨m1, m2, s1, s2, s3, s4, rfl, h0, h1, h2, h3, h4.keep fun b hb1 hb2 => hs b (by omega) (by omega), h5.keep fun b hb1 hb2 => hs b (by omega) (by omega), h6.keep fun b hb1 hb2 => hs b (by omega) (by omega), h7.keep fun b hb1 hb2 => hs b (by omega) (by omega), h8⟩
theorem ClmIn.none {w : World} {lo hi : Nat} (h : lo ≤ hi) : ClmIn w lo hi (clmV 0 0 0 0 0 0 ⟨#[]⟩ (.slice none 0 0) (.slice none 0 0) (.slice none 0 0) (.slice none 0 0) (.slice none 0 0)) ⟨0, ⟨0, []⟩, [], [], ⟨#[]⟩, 0, [], 0, [], 0, 0⟩ :=
  ⟨lo, lo, _, _, _, _, rfl, rfl, Nat.le_refl _, Nat.le_refl _, h, IntsIn.nil, shps_nil, IntsIn.nil, IntsIn.nil, .inl ⟨rfl, rfl⟩⟩
noncomputable abbrev clmC (C : Clm) (s1 s2 s3 s4 s5 : Value) : Array Value := #[.int .i64 C.kind, .int .i64 C.reg.w, s1, s2, s3, .string C.text, .int .i64 C.prime, s4, .int .i64 C.mask, s5, .int .i64 C.width, .int .i64 C.height]
/-- sizes that a claim may have -/
structure ClmSz (C : Clm) : Prop where
  rows : C.reg.rows.length ≤ 1048576
  pcs : CellSS.tot C.pieces ≤ 1048576
  masks : C.masks.length ≤ 1048576
  wts : C.weights.length ≤ 1048576
  wang : C.wang = []
theorem ClmSz.mq {C : Clm} (hz : ClmSz C) : 0 ≤ C.marks 1 ∧ C.marks 1 ≤ 100000000 := by
  have hnum : CellSS.num C.pieces ≤ 1048576 := by have := hz.pcs; unfold CellSS.tot at this; omega
  have := hz.rows
  have := hz.masks
  have := hz.wts
  unfold Clm.marks
  omega
/-- read only -/
structure ClmSp (w : World) (lo hi : Nat) (v : Value) (C : Clm) : Prop where
  rd : ClmRd w lo hi v C
theorem ClmSp.keep {w w' : World} {lo hi : Nat} {v : Value} {C : Clm} (h : ClmSp w lo hi v C) (hs : SameIn lo hi w w') : ClmSp w' lo hi v C := ⟨h.rd.keep hs⟩
theorem clm_store (w : World) (cs : Array Value) : Below w.heap.size w ((w.alloc (.cells #[.int .i64 0, .int .i64 0, .slice none 0 0, .slice none 0 0, .slice none 0 0, .string ⟨#[]⟩, .int .i64 0, .slice none 0 0, .int .i64 0, .slice none 0 0, .int .i64 0, .int .i64 0] 32)).setRow w.heap.size cs) ∧
    BoxIn ((w.alloc (.cells #[.int .i64 0, .int .i64 0, .slice none 0 0, .slice none 0 0, .slice none 0 0, .string ⟨#[]⟩, .int .i64 0, .slice none 0 0, .int .i64 0, .slice none 0 0, .int .i64 0, .int .i64 0] 32)).setRow w.heap.size cs) w.heap.size (w.heap.size + 1) w.heap.size 32 cs ∧
    ((w.alloc (.cells #[.int .i64 0, .int .i64 0, .slice none 0 0, .slice none 0 0, .slice none 0 0, .string ⟨#[]⟩, .int .i64 0, .slice none 0 0, .int .i64 0, .slice none 0 0, .int .i64 0, .int .i64 0] 32)).setRow w.heap.size cs).heap.size = w.heap.size + 1 := by
  have H := ((Sep.start w).box 32 #[.int .i64 0, .int .i64 0, .slice none 0 0, .slice none 0 0, .slice none 0 0, .string ⟨#[]⟩, .int .i64 0, .slice none 0 0, .int .i64 0, .slice none 0 0, .int .i64 0, .int .i64 0]).setAll cs
  exact ⟨H.below, ⟨H.h0, Nat.le_refl _, Nat.lt_succ_self _⟩, by simp⟩
theorem wpList_load_rowW {P : Program} {ops : Array Oper} {rest : List Oper} {o : Oper} {a : Act} {w : World} {Q : Exit → Act → World → Prop} (hw : Region.wanted o (yielded ops a.tmps) = true) (ty : TypeId) (x : Operand) (ho : o.op = .load ty x)
    (g : Nat) (hx : a.eval x = .pointer (some ⟨g, 0, none⟩)) (t : TypeId) (cs : Array Value) (fr : Nat × Nat) (d : TypeDesc) (hg : w.heap[g]? = some (.cells cs t fr))
    (hu : P.underlying ty = some d) (hd : (match d with | .struct _ | .array _ _ => true | _ => false) = true) (hi : (P.info? ty).map (·.size) = some cs.size)
    (h : wpList P ops Q rest (a.put o.dst (.agg cs)) w) : wpList P ops Q (o :: rest) a w :=
  wpList_step fun _ hK => by rw [if_pos hw]; exact wp_load_row ty x ho g hx t cs fr d hg hu hd hi (hK _ _ h)
set_option maxRecDepth 100000 in
set_option maxHeartbeats 1600000 in
theorem markClaim_c {lo hi : Nat} {v : Value} {C : Clm} (k0 : Int) (w : World) (hz : ClmSz C) (hk0 : 0 ≤ k0) (hk1 : k0 ≤ 1000000000) (hh : hi ≤ w.heap.size) (h : ClmIn w lo hi v C) :
    Calls Tryz.prog 15 #[v, .int .i64 k0] w fun e w' => e = .returned (.int .i64 (C.marks k0)) ∧ ClmIn w' lo hi v (C.mk1 k0) ∧ Out lo hi w w' := by
  obtain ⟨m1, m2, s1, s2, s3, s4, rfl, h0, h1, h2, h3, h4, h5, h6, h7, h8⟩ := h
  have hnum : CellSS.num C.pieces ≤ 1048576 := by have := hz.pcs; unfold CellSS.tot at this; omega
  have hr := hz.rows
  have hms := hz.masks
  have hws := hz.wts
  obtain ⟨k1, hk1'⟩ : ∃ k1 : Int, k1 = k0 + C.reg.rows.length := ⟨_, rfl⟩
  obtain ⟨k2, hk2'⟩ : ∃ k2 : Int, k2 = k1 + 2 * (CellSS.num C.pieces : Int) := ⟨_, rfl⟩
  obtain ⟨k3, hk3'⟩ : ∃ k3 : Int, k3 = k2 + C.masks.length := ⟨_, rfl⟩
  obtain ⟨k4, hk4'⟩ : ∃ k4 : Int, k4 = k3 + C.weights.length := ⟨_, rfl⟩
  have hmk : C.marks k0 = k4 := by unfold Clm.marks; omega
  have hmk1 : C.mk1 k0 = { C with reg := Regs.mk k0 C.reg, pieces := CellSS.mk k1 C.pieces, masks := Ints.mk k2 C.masks, weights := Ints.mk k3 C.weights } := by unfold Clm.mk1; rw [hk3', hk2', hk1']
  rw [hmk, hmk1]
  have b1 : 0 ≤ k1 ∧ k1 ≤ 1100000000 := by omega
  have b2 : 0 ≤ k2 ∧ k2 ≤ 1200000000 := by omega
  have b3 : 0 ≤ k3 ∧ k3 ≤ 1300000000 := by omega
  have b4 : 0 ≤ k4 ∧ k4 ≤ 1400000000 := by omega
  obtain ⟨b11, b12⟩ := b1
  obtain ⟨b21, b22⟩ := b2
  obtain ⟨b31, b32⟩ := b3
  obtain ⟨b41, b42⟩ := b4
  have E1 := Lib.hid hk1'
  have E2 := Lib.hid hk2'
  have E3 := Lib.hid hk3'
  have E4 := Lib.hid hk4'
  have HZ := Lib.hid hz
  have H0 := Lib.hid h0
  have H8 := Lib.hid h8
  obtain ⟨q1, q2, rfl, _, _⟩ := id h4.rd
  obtain ⟨_, ⟨q3, q4, rfl, _, _⟩, _⟩ := id h5.rd
  obtain ⟨q5, q6, rfl, _, _⟩ := id h6.rd
  obtain ⟨q7, q8, rfl, _, _⟩ := id h7.rd
  have hX : BoxIn (w.alloc (.cells (clmC C (.slice q1 C.reg.rows.length q2) (.slice q3 C.pieces.length q4) (.slice q5 C.masks.length q6) (.slice q7 C.weights.length q8) (.slice none 0 0)) 32)) w.heap.size (w.heap.size + 1) w.heap.size 32 (clmC C (.slice q1 C.reg.rows.length q2) (.slice q3 C.pieces.length q4) (.slice q5 C.masks.length q6) (.slice q7 C.weights.length q8) (.slice none 0 0)) := ⟨Blk.new _ _ _, Nat.le_refl _, Nat.lt_succ_self _⟩
  have hb0 : Below w.heap.size w (w.alloc (.cells (clmC C (.slice q1 C.reg.rows.length q2) (.slice q3 C.pieces.length q4) (.slice q5 C.masks.length q6) (.slice q7 C.weights.length q8) (.slice none 0 0)) 32)) := (Below.refl _ _).alloc (Nat.le_refl _) _
  have hsz : (w.alloc (.cells (clmC C (.slice q1 C.reg.rows.length q2) (.slice q3 C.pieces.length q4) (.slice q5 C.masks.length q6) (.slice q7 C.weights.length q8) (.slice none 0 0)) 32)).heap.size = w.heap.size + 1 := by simp
  have g4 := h4.keep (SameIn.of_below hb0 (by omega))
  have g5 := h5.keep (SameIn.of_below hb0 (by omega))
  have g6 := h6.keep (SameIn.of_below hb0 (by omega))
  have g7 := h7.keep (SameIn.of_below hb0 (by omega))
  clear h4 h5 h6 h7 h8 h0 hmk hmk1 hk1' hk2' hk3' hk4'
  have c1 : (w.alloc (.cells (clmC C (.slice q1 C.reg.rows.length q2) (.slice q3 C.pieces.length q4) (.slice q5 C.masks.length q6) (.slice q7 C.weights.length q8) (.slice none 0 0)) 32)).cell? ⟨w.heap.size, 1, none⟩ = some (.int .i64 C.reg.w) := hX.cell 1
  have c2 : (w.alloc (.cells (clmC C (.slice q1 C.reg.rows.length q2) (.slice q3 C.pieces.length q4) (.slice q5 C.masks.length q6) (.slice q7 C.weights.length q8) (.slice none 0 0)) 32)).cell? ⟨w.heap.size, 2, none⟩ = some (.slice q1 C.reg.rows.length q2) := hX.cell 2
  unfold clmV
  go_enter Tryz.func15, Tryz.ntmps15
  go_wp2_with fail
  clear c1 c2
  generalize (w.alloc (.cells #[.int .i64 C.kind, .int .i64 C.reg.w, .slice q1 C.reg.rows.length q2, .slice q3 C.pieces.length q4, .slice q5 C.masks.length q6, .string C.text, .int .i64 C.prime, .slice q7 C.weights.length q8, .int .i64 C.mask, .slice none 0 0, .int .i64 C.width, .int .i64 C.height] 32)) = W at *
  refine (markRegion_c (lo := m1) (hi := m2) (x := C.reg) k0 W hr hk0 (by omega) (by omega) ⟨_, rfl, g4⟩).mono ?_
  rintro e w1 ⟨rfl, ⟨s, hs, g4'⟩, o1⟩
  injection hs with hs
  have hs := Array.mk.inj hs
  simp only [List.cons.injEq, and_true] at hs
  obtain ⟨_, rfl⟩ := hs
  rw [← E1.out]
  have z1 := o1.size
  replace hX := hX.keep (SameIn.of_out o1 (by omega) (by omega))
  replace g5 := g5.keep (SameIn.of_out o1 (by omega) (by omega))
  replace g6 := g6.keep (SameIn.of_out o1 (by omega) (by omega))
  replace g7 := g7.keep (SameIn.of_out o1 (by omega) (by omega))
  have OO : Out lo hi w w1 := (Out.of_below hb0).trans (o1.wide (by omega) (by omega))
  clear o1 g4 hb0
  have c3 : w1.cell? ⟨w.heap.size, 3, none⟩ = some (.slice q3 C.pieces.length q4) := hX.cell 3
  go_wp2_with fail
  clear c3
  refine (markShps_c (lo := m2) (hi := hi) (x := C.pieces) k1 w1 HZ.out.pcs b11 (by omega) (by omega) g5).mono ?_
  rintro e w2 ⟨rfl, g5', o2⟩
  rw [← E2.out]
  have z2 := o2.size
  replace hX := hX.keep (SameIn.of_out o2 (by omega) (by omega))
  replace g4' := g4'.keep (SameIn.of_out o2 (by omega) (by omega))
  replace g6 := g6.keep (SameIn.of_out o2 (by omega) (by omega))
  replace g7 := g7.keep (SameIn.of_out o2 (by omega) (by omega))
  replace OO := OO.trans (o2.wide (by omega) (by omega))
  clear o2 g5
  have c4 : w2.cell? ⟨w.heap.size, 4, none⟩ = some (.slice q5 C.masks.length q6) := hX.cell 4
  rcases H8.out with ⟨hm0, hs0⟩ | ⟨hm0, hs0⟩
  · have HM0 := Lib.hid hm0
    have HS0 := Lib.hid hs0
    have hk23 : k2 = k3 := by rw [E3.out, hm0]; simp
    have HK23 := Lib.hid hk23
    clear hk23 hm0 hs0
    go_wp2_with fail
    clear c4
    rw [HS0.out]
    refine (markIntS_nil k2 w2).mono ?_
    rintro e w3 ⟨rfl, rfl⟩
    have c7 : w2.cell? ⟨w.heap.size, 7, none⟩ = some (.slice q7 C.weights.length q8) := hX.cell 7
    go_wp2_with fail
    clear c7
    refine (markIntS_c (lo := lo) (hi := m1) (x := C.weights) k2 w2 hws b21 (by omega) g7).mono ?_
    rintro e w4 ⟨rfl, g7', o4⟩
    have z4 := o4.size
    have hk : k2 + (C.weights.length : Int) = k4 := by rw [E4.out, HK23.out]
    rw [hk]
    replace hX := hX.keep (SameIn.of_out o4 (by omega) (by omega))
    replace g4' := g4'.keep (SameIn.of_out o4 (by omega) (by omega))
    replace g5' := g5'.keep (SameIn.of_out o4 (by omega) (by omega))
    replace OO := OO.trans (o4.wide (by omega) (by omega))
    clear o4 hk
    have c9 : w4.cell? ⟨w.heap.size, 9, none⟩ = some (.slice none 0 0) := hX.cell 9
    go_wp2_with fail
    clear c9
    refine (markWangS_nil k4 w4).mono ?_
    rintro e w5 ⟨rfl, rfl⟩
    go_wp2
    go_ret
    have hl : (Ints.mk k2 C.masks) = [] := by rw [HM0.out]; rfl
    refine ⟨rfl, ⟨m1, m2, _, _, _, _, rfl, H0.out, h1, h2, h3, g4', g5', ?_, ?_, .inl ⟨hl, HS0.out⟩⟩, OO⟩
    · show IntsIn _ lo m1 _ (Ints.mk k2 C.masks)
      rw [hl, HS0.out]; exact IntsIn.nil
    · show IntsIn _ lo m1 _ (Ints.mk k3 C.weights)
      rw [← HK23.out]; exact g7'
  · have HM0 := Lib.hid hm0
    have HS0 := Lib.hid hs0
    have hk34 : k3 = k4 := by rw [E4.out, hm0]; simp
    have HK := Lib.hid hk34
    clear hk34 hm0 hs0
    go_wp2_with fail
    clear c4
    refine (markIntS_c (lo := lo) (hi := m1) (x := C.masks) k2 w2 hms b21 (by omega) g6).mono ?_
    rintro e w3 ⟨rfl, g6', o3⟩
    rw [← E3.out]
    have z3 := o3.size
    replace hX := hX.keep (SameIn.of_out o3 (by omega) (by omega))
    replace g4' := g4'.keep (SameIn.of_out o3 (by omega) (by omega))
    replace g5' := g5'.keep (SameIn.of_out o3 (by omega) (by omega))
    replace OO := OO.trans (o3.wide (by omega) (by omega))
    clear o3
    have c7 : w3.cell? ⟨w.heap.size, 7, none⟩ = some (.slice q7 C.weights.length q8) := hX.cell 7
    go_wp2_with fail
    clear c7
    rw [HS0.out]
    refine (markIntS_nil k3 w3).mono ?_
    rintro e w4 ⟨rfl, rfl⟩
    have c9 : w3.cell? ⟨w.heap.size, 9, none⟩ = some (.slice none 0 0) := hX.cell 9
    go_wp2_with fail
    clear c9
    refine (markWangS_nil k3 w3).mono ?_
    rintro e w5 ⟨rfl, rfl⟩
    go_wp2
    go_ret
    have hl : (Ints.mk k3 C.weights) = [] := by rw [HM0.out]; rfl
    refine ⟨by rw [HK.out]; rfl, ⟨m1, m2, _, _, _, _, rfl, H0.out, h1, h2, h3, g4', g5', g6', ?_, .inr ⟨hl, HS0.out⟩⟩, OO⟩
    show IntsIn _ lo m1 _ (Ints.mk k3 C.weights)
    rw [hl, HS0.out]; exact IntsIn.nil
set_option maxRecDepth 100000 in
set_option maxHeartbeats 1600000 in
theorem heldClaim_c {v : Value} {C : Clm} (k0 : Int) (w : World) (hz : ClmSz C) (hk0 : 0 ≤ k0) (hk1 : k0 ≤ 1000000000) (h : ClmRd w 0 w.heap.size v (C.mk1 k0)) :
    Calls Tryz.prog 16 #[v, .int .i64 k0] w fun e w' => e = .returned (.int .i64 (C.marks k0)) ∧ Below w.heap.size w w' := by
  obtain ⟨s1, s2, s3, s4, s5, rfl, h1, h2, h3, h4, h5⟩ := h
  have hnum : CellSS.num C.pieces ≤ 1048576 := by have := hz.pcs; unfold CellSS.tot at this; omega
  have hr := hz.rows
  have hms := hz.masks
  have hws := hz.wts
  obtain ⟨k1, hk1'⟩ : ∃ k1 : Int, k1 = k0 + C.reg.rows.length := ⟨_, rfl⟩
  obtain ⟨k2, hk2'⟩ : ∃ k2 : Int, k2 = k1 + 2 * (CellSS.num C.pieces : Int) := ⟨_, rfl⟩
  obtain ⟨k3, hk3'⟩ : ∃ k3 : Int, k3 = k2 + C.masks.length := ⟨_, rfl⟩
  obtain ⟨k4, hk4'⟩ : ∃ k4 : Int, k4 = k3 + C.weights.length := ⟨_, rfl⟩
  have hmk : C.marks k0 = k4 := by unfold Clm.marks; omega
  have e1 : (C.mk1 k0).reg.rows = Ints.mk k0 C.reg.rows := rfl
  have e2 : (C.mk1 k0).pieces = CellSS.mk k1 C.pieces := by unfold Clm.mk1; rw [hk1']
  have e3 : (C.mk1 k0).masks = Ints.mk k2 C.masks := by unfold Clm.mk1; rw [hk2', hk1']
  have e4 : (C.mk1 k0).weights = Ints.mk k3 C.weights := by unfold Clm.mk1; rw [hk3', hk2', hk1']
  have e5 : (C.mk1 k0).wang = [] := hz.wang
  rw [e1] at h1
  rw [e2] at h2
  rw [e3] at h3
  rw [e4] at h4
  rw [e5] at h5
  rw [hmk]
  have b1 : 0 ≤ k1 ∧ k1 ≤ 1100000000 := by omega
  have b2 : 0 ≤ k2 ∧ k2 ≤ 1200000000 := by omega
  have b3 : 0 ≤ k3 ∧ k3 ≤ 1300000000 := by omega
  have b4 : 0 ≤ k4 ∧ k4 ≤ 1400000000 := by omega
  obtain ⟨b11, b12⟩ := b1
  obtain ⟨b21, b22⟩ := b2
  obtain ⟨b31, b32⟩ := b3
  obtain ⟨b41, b42⟩ := b4
  have E1 := Lib.hid hk1'
  have E2 := Lib.hid hk2'
  have E3 := Lib.hid hk3'
  have E4 := Lib.hid hk4'
  have HZ := Lib.hid hz
  obtain ⟨q1, q2, rfl, _, _⟩ := id h1
  obtain ⟨_, ⟨q3, q4, rfl, _, _⟩, _⟩ := id h2
  obtain ⟨q5, q6, rfl, _, _⟩ := id h3
  obtain ⟨q7, q8, rfl, _, _⟩ := id h4
  obtain ⟨q9, q10, rfl, _, _⟩ := id h5
  simp only [Ints.mk_length, CellSS.mk_length] at h1 h2 h3 h4 h5 ⊢
  change Calls Tryz.prog 16 #[clmV C.kind C.reg.w C.prime C.mask C.width C.height C.text (.slice q1 C.reg.rows.length q2) (.slice q3 C.pieces.length q4) (.slice q5 C.masks.length q6) (.slice q7 C.weights.length q8) (.slice q9 ([] : List Wg).length q10), .int .i64 k0] w _
  have D1 := Lib.hid h1
  have D2 := Lib.hid h2
  have D3 := Lib.hid h3
  have D4 := Lib.hid h4
  have D5 := Lib.hid h5
  clear h1 h2 h3 h4 h5 e1 e2 e3 e4 e5 hmk hk1' hk2' hk3' hk4'
  have H0 := (Sep.start w).box 32 (clmC C (.slice q1 C.reg.rows.length q2) (.slice q3 C.pieces.length q4) (.slice q5 C.masks.length q6) (.slice q7 C.weights.length q8) (.slice q9 ([] : List Wg).length q10))
  have c1 : (w.alloc (.cells (clmC C (.slice q1 C.reg.rows.length q2) (.slice q3 C.pieces.length q4) (.slice q5 C.masks.length q6) (.slice q7 C.weights.length q8) (.slice q9 ([] : List Wg).length q10)) 32)).cell? ⟨w.heap.size, 1, none⟩ = some (.int .i64 C.reg.w) := H0.h0.cell 1
  have c2 : (w.alloc (.cells (clmC C (.slice q1 C.reg.rows.length q2) (.slice q3 C.pieces.length q4) (.slice q5 C.masks.length q6) (.slice q7 C.weights.length q8) (.slice q9 ([] : List Wg).length q10)) 32)).cell? ⟨w.heap.size, 2, none⟩ = some (.slice q1 C.reg.rows.length q2) := H0.h0.cell 2
  unfold clmV
  go_enter Tryz.func16, Tryz.ntmps16
  go_wp2_with fail
  clear c1 c2
  generalize hW : (w.alloc (.cells _ 32)) = W at *
  clear hW
  refine (heldRegion_c (x := C.reg) k0 W hr hk0 (by omega) ⟨_, rfl, (D1.out.keep (SameIn.of_below H0.below (Nat.le_refl _))).more (Nat.le_refl _) H0.size⟩).mono ?_
  rintro e w1 ⟨rfl, b1⟩
  rw [← E1.out]
  have H1 := H0.step b1
  clear b1 H0
  have c3 : w1.cell? ⟨w.heap.size, 3, none⟩ = some (.slice q3 C.pieces.length q4) := H1.h0.cell 3
  go_wp2_with fail
  clear c3
  refine (heldShps_c (x := C.pieces) k1 w1 HZ.out.pcs b11 (by omega) ((D2.out.keep (SameIn.of_below H1.below (Nat.le_refl _))).more (Nat.le_refl _) H1.size)).mono ?_
  rintro e w2 ⟨rfl, b2⟩
  rw [← E2.out]
  have H2 := H1.step b2
  clear b2 H1
  have c4 : w2.cell? ⟨w.heap.size, 4, none⟩ = some (.slice q5 C.masks.length q6) := H2.h0.cell 4
  go_wp2_with fail
  clear c4
  refine (heldIntS_c (x := C.masks) k2 w2 hms b21 (by omega) ((D3.out.keep (SameIn.of_below H2.below (Nat.le_refl _))).more (Nat.le_refl _) H2.size)).mono ?_
  rintro e w3 ⟨rfl, rfl⟩
  rw [← E3.out]
  have c7 : w2.cell? ⟨w.heap.size, 7, none⟩ = some (.slice q7 C.weights.length q8) := H2.h0.cell 7
  go_wp2_with fail
  clear c7
  refine (heldIntS_c (x := C.weights) k3 w2 hws b31 (by omega) ((D4.out.keep (SameIn.of_below H2.below (Nat.le_refl _))).more (Nat.le_refl _) H2.size)).mono ?_
  rintro e w4 ⟨rfl, rfl⟩
  rw [← E4.out]
  have c9 : w2.cell? ⟨w.heap.size, 9, none⟩ = some (.slice q9 ([] : List Wg).length q10) := H2.h0.cell 9
  go_wp2_with fail
  clear c9
  refine (heldWangS_c (x := []) k4 w2 (by simp) b41 (by omega) ((D5.out.keep (SameIn.of_below H2.below (Nat.le_refl _))).more (Nat.le_refl _) H2.size)).mono ?_
  rintro e w5 ⟨he, rfl⟩
  obtain rfl : e = .returned (.int .i64 k4) := by rw [he]; simp
  clear he
  go_wp2
  go_ret
  exact ⟨rfl, H2.below⟩
end Go.Proofs.YtfmkmjebkmimkaaGreat
