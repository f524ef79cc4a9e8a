
/-
  The law FnExactDivisionPieces, walked by contracts, under the library's table.
-/
import Derived.Test.YtccihgifdlpkgaaGreatDoorDpX
import Derived.Test.YtccihgifdlpkgaaGreatDoorLawInts
import Derived.Test.YtccihgifdlpkgaaGreatDoorLawSh
namespace Go.Proofs.YtccihgifdlpkgaaGreatDoor
open Go.RowKit

theorem num_le {M : List (List Cell)} (h : ∀ t ∈ M, t.length ≤ 5) : CellSS.num M ≤ M.length * 5 := by
  induction M with
  | nil => exact Nat.le_refl _
  | cons a M ih =>
    have h1 := h a List.mem_cons_self
    have h2 := ih fun t ht => h t (List.mem_cons_of_mem _ ht)
    have e : CellSS.num (a :: M) = a.length + CellSS.num M := by simp [CellSS.num]
    rw [e, List.length_cons, Nat.add_mul]
    omega
theorem divP_tot (r : Reg) (k : Int) : CellSS.tot (divP r k) ≤ 1048576 := by
  have h1 := num_le (M := divP r k) fun t ht => (divP_row ht).2
  have h2 := divP_len r k
  unfold CellSS.tot
  omega
set_option maxRecDepth 100000 in
theorem impl_dp_l {v : Value} {r : Reg} (w : World) (h : RegRd w 0 w.heap.size v r) (k : Int) (hn : r.rows.length ≤ 1048576) (ht : Tab64 w) :
    Calls Tryz.prog 21 #[v, .int .i64 k] w fun e w' => ∃ v', e = .returned v' ∧ ShpsIn w' w.heap.size w'.heap.size v' (divP r k) ∧ Below w.heap.size w w' := by
  refine (impl_divP_c k w h hn ht).mono ?_
  rintro e w' ⟨v', P, rfl, hP, H⟩
  have H' : Sep w w' [Res.row v' 42 1 P.length (P.map Prod.fst), Res.shps P] := H
  refine ⟨v', rfl, ⟨P.map Prod.fst, by rw [← hP]; simp, by rw [← hP, List.length_map]; exact H'.oi, fun j x u hx hu => ?_, ?_⟩, H'.below⟩
  · rw [← hP, List.getElem?_map] at hu
    rw [List.getElem?_map] at hx
    obtain ⟨p, hp, rfl⟩ := Option.map_eq_some_iff.1 hu
    rw [hp] at hx
    injection hx with hx
    subst hx
    exact H'.g1.shpsOi (List.mem_of_getElem? hp)
  · exact List.pairwise_map.2 (ShpsAt.apart H'.h1)
set_option maxRecDepth 100000 in
theorem spec_dp_l {v : Value} {r : Reg} (w : World) (h : RegRd w 0 w.heap.size v r) (k : Int) (hn : r.rows.length ≤ 1048576) :
    Calls Tryz.prog 20 #[v, .int .i64 k] w fun e w' => ∃ v', e = .returned v' ∧ SpIn w' w.heap.size w'.heap.size v' (divP r k) ∧ Below w.heap.size w w' := by
  refine (spec_divP_c k w h hn).mono ?_
  rintro e w' ⟨v', rfl, L⟩
  exact ⟨v', rfl, ⟨L.rd⟩, L.below⟩
set_option maxRecDepth 100000 in
set_option maxHeartbeats 8000000 in
theorem law_DivisionPieces (vr : Value) (r : Reg) (k : Int) (w : World) (hr : RegRd w 0 w.heap.size vr r) (_hk : I64 k) (htab : Tab64 w) :
    Calls Tryz.prog 6 #[vr, .int .i64 k] w fun e w' => e = .returned (.bool true) ∧ Below w.heap.size w w' := by
  obtain ⟨sr, rfl, hsr⟩ := id hr
  have B : Below w.heap.size w (w.alloc (.cells #[.int .i64 r.w, sr] 24)) := ((Below.refl w.heap.size w).alloc (by first | exact Nat.le_refl _ | (simp; done) | (simp; omega)) _)
  have s0 : w.heap.size + 1 ≤ (w.alloc (.cells #[.int .i64 r.w, sr] 24)).heap.size := by simp
  have xr : BoxIn (w.alloc (.cells #[.int .i64 r.w, sr] 24)) w.heap.size (w.heap.size + 1) (w.heap.size) 24 #[.int .i64 r.w, sr] := ⟨by have := Blk.new w 24 #[.int .i64 r.w, sr]; simpa using this, by omega, by omega⟩
  have or := hr.keep (SameIn.of_below B (Nat.le_refl _))
  by_cases q0 : 1048576 < (r.rows.length : Int)
  · skip
    go_enter Tryz.func6, Tryz.ntmps6
    go_wp2_with fail
    generalize (w.alloc (.cells #[.int .i64 r.w, sr] 24)) = W0 at *
    refine (szRegion_c _ _ (or.more (Nat.zero_le _) (by omega)) (by omega) (by omega)).mono ?_
    rintro e w1 ⟨rfl, b1⟩
    have s1 := b1.size
    replace xr := xr.keep (SameIn.of_below b1 (by omega))
    replace or := or.keep (SameIn.of_below b1 (by omega))
    replace B := B.trans (b1.mono (by omega))
    clear b1
    rw [if_pos (by omega)]
    go_wp2
    go_ret
    exact ⟨rfl, B⟩
  go_enter Tryz.func6, Tryz.ntmps6
  go_wp2_with fail
  generalize (w.alloc (.cells #[.int .i64 r.w, sr] 24)) = W0 at *
  refine (szRegion_c _ _ (or.more (Nat.zero_le _) (by omega)) (by omega) (by omega)).mono ?_
  rintro e w1 ⟨rfl, b1⟩
  have s1 := b1.size
  replace xr := xr.keep (SameIn.of_below b1 (by omega))
  replace or := or.keep (SameIn.of_below b1 (by omega))
  replace B := B.trans (b1.mono (by omega))
  clear b1
  rw [if_neg (by omega)]
  have yr0 : w1.cell? ⟨w.heap.size, 0, none⟩ = some (.int .i64 r.w) := (by first | exact xr.cell 0)
  have yr1 : w1.cell? ⟨w.heap.size, 1, none⟩ = some (sr) := (by first | exact xr.cell 1)
  go_wp2_with fail
  clear yr0 yr1
  refine (toRegion_c _ (or.more (Nat.zero_le _) (by omega)) (by omega)).mono ?_
  rintro e w2 ⟨usr, rfl, osr, b2⟩
  have s2 := b2.size
  replace xr := xr.keep (SameIn.of_below b2 (by omega))
  replace or := or.keep (SameIn.of_below b2 (by omega))
  replace B := B.trans (b2.mono (by omega))
  clear b2
  go_wp2_with fail
  refine (spec_dp_l _ (osr.rd.more (Nat.zero_le _) (by omega)) k (by omega)).mono ?_
  rintro e w3 ⟨rw0, rfl, orw0, b3⟩
  have s3 := b3.size
  replace xr := xr.keep (SameIn.of_below b3 (by omega))
  replace or := or.keep (SameIn.of_below b3 (by omega))
  replace osr := osr.keep (SameIn.of_below b3 (by omega))
  replace B := B.trans (b3.mono (by omega))
  clear b3
  clear osr
  have yr0 : w3.cell? ⟨w.heap.size, 0, none⟩ = some (.int .i64 r.w) := (by first | exact xr.cell 0)
  have yr1 : w3.cell? ⟨w.heap.size, 1, none⟩ = some (sr) := (by first | exact xr.cell 1)
  go_wp2_with fail
  clear yr0 yr1
  refine (toRegion_c _ (or.more (Nat.zero_le _) (by omega)) (by omega)).mono ?_
  rintro e w4 ⟨uxr, rfl, oxr, b4⟩
  have s4 := b4.size
  replace xr := xr.keep (SameIn.of_below b4 (by omega))
  replace or := or.keep (SameIn.of_below b4 (by omega))
  replace orw0 := orw0.keep (SameIn.of_below b4 (by omega))
  replace B := B.trans (b4.mono (by omega))
  clear b4
  obtain ⟨tuxr, rfl, guxr⟩ := id oxr
  obtain ⟨Auxr, cuxr, rfl, _, _⟩ := guxr.rd
  clear guxr
  have bb : Below w4.heap.size w4 (w4.alloc (.cells #[.int .i64 r.w, .slice Auxr r.rows.length cuxr] 28)) := (Below.refl _ _).alloc (Nat.le_refl _) _
  have s5 : w4.heap.size + 1 ≤ (w4.alloc (.cells #[.int .i64 r.w, .slice Auxr r.rows.length cuxr] 28)).heap.size := by simp
  replace xr := xr.keep (SameIn.of_below bb (by omega))
  replace or := or.keep (SameIn.of_below bb (by omega))
  replace orw0 := orw0.keep (SameIn.of_below bb (by omega))
  replace oxr := oxr.keep (SameIn.of_below bb (by omega))
  replace B := B.trans (bb.mono (by omega))
  clear bb
  have xuxr : BoxIn (w4.alloc (.cells #[.int .i64 r.w, .slice Auxr r.rows.length cuxr] 28)) w4.heap.size (w4.heap.size + 1) w4.heap.size 28 #[.int .i64 r.w, .slice Auxr r.rows.length cuxr] := ⟨Blk.new _ _ _, Nat.le_refl _, Nat.lt_succ_self _⟩
  have yuxr0 : (w4.alloc (.cells #[.int .i64 r.w, .slice Auxr r.rows.length cuxr] 28)).cell? ⟨w4.heap.size, 0, none⟩ = some (.int .i64 r.w) := (by first | exact xuxr.cell 0)
  have yuxr1 : (w4.alloc (.cells #[.int .i64 r.w, .slice Auxr r.rows.length cuxr] 28)).cell? ⟨w4.heap.size, 1, none⟩ = some (.slice Auxr r.rows.length cuxr) := (by first | exact xuxr.cell 1)
  go_wp2_with fail
  generalize w4.alloc (.cells #[.int .i64 r.w, .slice Auxr r.rows.length cuxr] 28) = w5 at *
  clear yuxr0 yuxr1
  refine (impl_dp_l _ (oxr.rd.more (Nat.zero_le _) (by omega)) k (by omega) (tab64_on htab B)).mono ?_
  rintro e w6 ⟨rg0, rfl, org0, b6⟩
  have s6 := b6.size
  replace xr := xr.keep (SameIn.of_below b6 (by omega))
  replace or := or.keep (SameIn.of_below b6 (by omega))
  replace orw0 := orw0.keep (SameIn.of_below b6 (by omega))
  replace oxr := oxr.keep (SameIn.of_below b6 (by omega))
  replace xuxr := xuxr.keep (SameIn.of_below b6 (by omega))
  replace B := B.trans (b6.mono (by omega))
  clear b6
  go_wp2_with fail
  refine (eqShps_c _ (org0.rd.more (Nat.zero_le _) (by omega)) (orw0.rd.more (Nat.zero_le _) (by omega))).mono ?_
  rintro e w7 ⟨rfl, b7⟩
  have s7 := b7.size
  replace xr := xr.keep (SameIn.of_below b7 (by omega))
  replace or := or.keep (SameIn.of_below b7 (by omega))
  replace orw0 := orw0.keep (SameIn.of_below b7 (by omega))
  replace oxr := oxr.keep (SameIn.of_below b7 (by omega))
  replace xuxr := xuxr.keep (SameIn.of_below b7 (by omega))
  replace org0 := org0.keep (SameIn.of_below b7 (by omega))
  replace B := B.trans (b7.mono (by omega))
  clear b7
  have yuxr0 : w7.cell? ⟨w4.heap.size, 0, none⟩ = some (.int .i64 r.w) := (by first | exact xuxr.cell 0)
  have yuxr1 : w7.cell? ⟨w4.heap.size, 1, none⟩ = some (.slice Auxr r.rows.length cuxr) := (by first | exact xuxr.cell 1)
  have yr0 : w7.cell? ⟨w.heap.size, 0, none⟩ = some (.int .i64 r.w) := (by first | exact xr.cell 0)
  have yr1 : w7.cell? ⟨w.heap.size, 1, none⟩ = some (sr) := (by first | exact xr.cell 1)
  go_wp2_with fail
  go_region_held3 (fun w' => w'.cell? ⟨w4.heap.size, 0, none⟩ = some (.int .i64 r.w) ∧ w'.cell? ⟨w4.heap.size, 1, none⟩ = some (.slice Auxr r.rows.length cuxr) ∧ w'.cell? ⟨w.heap.size, 0, none⟩ = some (.int .i64 r.w) ∧ w'.cell? ⟨w.heap.size, 1, none⟩ = some (sr))
    (first | ((try dsimp only); refine ⟨?_, ?_, ?_, ?_⟩ <;> assumption) | go_keep)
    ((first | (go_at_call 9; (with_reducible refine (toRegion_c (v := (.agg #[.int .i64 r.w, sr])) (x := r) _ (by exact ((or.keep (SameIn.drew)).more (Nat.zero_le _) (le_drew (show w.heap.size ≤ w7.heap.size by omega)))) (by omega)).mono ?_); rintro e w8 ⟨utr, rfl, otr, b8⟩; replace b8 := below_undrew b8; have s8 := b8.size; replace xr := xr.keep (SameIn.of_below b8 (by omega)); replace or := or.keep (SameIn.of_below b8 (by omega)); replace orw0 := orw0.keep (SameIn.of_below b8 (by omega)); replace oxr := oxr.keep (SameIn.of_below b8 (by omega)); replace xuxr := xuxr.keep (SameIn.of_below b8 (by omega)); replace org0 := org0.keep (SameIn.of_below b8 (by omega)); replace B := B.trans (b8.mono (by omega)); clear b8; have yuxr0_8 : w8.cell? ⟨w4.heap.size, 0, none⟩ = some (.int .i64 r.w) := (by first | exact xuxr.cell 0); have yuxr1_8 : w8.cell? ⟨w4.heap.size, 1, none⟩ = some (.slice Auxr r.rows.length cuxr) := (by first | exact xuxr.cell 1); have yr0_8 : w8.cell? ⟨w.heap.size, 0, none⟩ = some (.int .i64 r.w) := (by first | exact xr.cell 0); have yr1_8 : w8.cell? ⟨w.heap.size, 1, none⟩ = some (sr) := (by first | exact xr.cell 1)) | (go_at_call 12; (with_reducible refine (eqRegion_c (x := r) _ (oxr.rd.more (Nat.zero_le _) (by omega)) (otr.rd.more (Nat.zero_le _) (by omega))).mono ?_); rintro e w9 ⟨rfl, b9⟩; have s9 := b9.size; replace xr := xr.keep (SameIn.of_below b9 (by omega)); replace or := or.keep (SameIn.of_below b9 (by omega)); replace orw0 := orw0.keep (SameIn.of_below b9 (by omega)); replace oxr := oxr.keep (SameIn.of_below b9 (by omega)); replace xuxr := xuxr.keep (SameIn.of_below b9 (by omega)); replace org0 := org0.keep (SameIn.of_below b9 (by omega)); replace otr := otr.keep (SameIn.of_below b9 (by omega)); replace B := B.trans (b9.mono (by omega)); clear b9; have yuxr0_9 : w9.cell? ⟨w4.heap.size, 0, none⟩ = some (.int .i64 r.w) := (by first | exact xuxr.cell 0); have yuxr1_9 : w9.cell? ⟨w4.heap.size, 1, none⟩ = some (.slice Auxr r.rows.length cuxr) := (by first | exact xuxr.cell 1); have yr0_9 : w9.cell? ⟨w.heap.size, 0, none⟩ = some (.int .i64 r.w) := (by first | exact xr.cell 0); have yr1_9 : w9.cell? ⟨w.heap.size, 1, none⟩ = some (sr) := (by first | exact xr.cell 1))))
  clear yuxr0_8 yuxr1_8 yr0_8 yr1_8 yuxr0_9 yuxr1_9 yr0_9 yr1_9
  clear yuxr0 yuxr1 yr0 yr1
  clear otr
  have yuxr0 : w9.cell? ⟨w4.heap.size, 0, none⟩ = some (.int .i64 r.w) := (by first | exact xuxr.cell 0)
  have yuxr1 : w9.cell? ⟨w4.heap.size, 1, none⟩ = some (.slice Auxr r.rows.length cuxr) := (by first | exact xuxr.cell 1)
  go_wp2_with fail
  clear yuxr0 yuxr1
  refine (markRegion_c _ _ (by omega) (by omega) (by omega) (by omega) oxr).mono ?_
  rintro e w10 ⟨rfl, oxr', b10⟩
  have s10 := b10.size
  replace xr := xr.keep (SameIn.of_out b10 (by omega) (by omega))
  replace or := or.keep (SameIn.of_out b10 (by omega) (by omega))
  replace orw0 := orw0.keep (SameIn.of_out b10 (by omega) (by omega))
  replace xuxr := xuxr.keep (SameIn.of_out b10 (by omega) (by omega))
  replace org0 := org0.keep (SameIn.of_out b10 (by omega) (by omega))
  clear oxr
  have oxr := oxr'
  clear oxr'
  replace B := B.trans (b10.below (by omega) (by omega))
  clear b10
  go_wp2_with fail
  refine (eqShps_c _ (org0.rd.more (Nat.zero_le _) (by omega)) (orw0.rd.more (Nat.zero_le _) (by omega))).mono ?_
  rintro e w11 ⟨rfl, b11⟩
  have s11 := b11.size
  replace xr := xr.keep (SameIn.of_below b11 (by omega))
  replace or := or.keep (SameIn.of_below b11 (by omega))
  replace orw0 := orw0.keep (SameIn.of_below b11 (by omega))
  replace oxr := oxr.keep (SameIn.of_below b11 (by omega))
  replace xuxr := xuxr.keep (SameIn.of_below b11 (by omega))
  replace org0 := org0.keep (SameIn.of_below b11 (by omega))
  replace B := B.trans (b11.mono (by omega))
  clear b11
  have hl0 : CellSS.tot (divP r k) ≤ 1048576 := (divP_tot r k)
  go_wp2_with fail
  refine (markShps_c _ _ hl0 (by omega) (by omega) (by omega) org0).mono ?_
  rintro e w12 ⟨rfl, org0', b12⟩
  have s12 := b12.size
  replace xr := xr.keep (SameIn.of_out b12 (by omega) (by omega))
  replace or := or.keep (SameIn.of_out b12 (by omega) (by omega))
  replace orw0 := orw0.keep (SameIn.of_out b12 (by omega) (by omega))
  replace oxr := oxr.keep (SameIn.of_out b12 (by omega) (by omega))
  replace xuxr := xuxr.keep (SameIn.of_out b12 (by omega) (by omega))
  clear org0
  have org0 := org0'
  clear org0'
  replace B := B.trans (b12.below (by omega) (by omega))
  clear b12
  go_wp2_with fail
  refine (heldShps_c _ _ hl0 (by omega) (by omega) (org0.rd.more (Nat.zero_le _) (by omega))).mono ?_
  rintro e w13 ⟨rfl, b13⟩
  have s13 := b13.size
  replace xr := xr.keep (SameIn.of_below b13 (by omega))
  replace or := or.keep (SameIn.of_below b13 (by omega))
  replace orw0 := orw0.keep (SameIn.of_below b13 (by omega))
  replace oxr := oxr.keep (SameIn.of_below b13 (by omega))
  replace xuxr := xuxr.keep (SameIn.of_below b13 (by omega))
  replace org0 := org0.keep (SameIn.of_below b13 (by omega))
  replace B := B.trans (b13.mono (by omega))
  clear b13
  have yr0 : w13.cell? ⟨w.heap.size, 0, none⟩ = some (.int .i64 r.w) := (by first | exact xr.cell 0)
  have yr1 : w13.cell? ⟨w.heap.size, 1, none⟩ = some (sr) := (by first | exact xr.cell 1)
  go_wp2_with fail
  clear yr0 yr1
  refine (toRegion_c _ (or.more (Nat.zero_le _) (by omega)) (by omega)).mono ?_
  rintro e w14 ⟨uyr, rfl, oyr, b14⟩
  have s14 := b14.size
  replace xr := xr.keep (SameIn.of_below b14 (by omega))
  replace or := or.keep (SameIn.of_below b14 (by omega))
  replace orw0 := orw0.keep (SameIn.of_below b14 (by omega))
  replace oxr := oxr.keep (SameIn.of_below b14 (by omega))
  replace xuxr := xuxr.keep (SameIn.of_below b14 (by omega))
  replace org0 := org0.keep (SameIn.of_below b14 (by omega))
  replace B := B.trans (b14.mono (by omega))
  clear b14
  go_wp2_with fail
  refine (impl_dp_l _ (oyr.rd.more (Nat.zero_le _) (by omega)) k (by omega) (tab64_on htab B)).mono ?_
  rintro e w15 ⟨rh0, rfl, orh0, b15⟩
  have s15 := b15.size
  replace xr := xr.keep (SameIn.of_below b15 (by omega))
  replace or := or.keep (SameIn.of_below b15 (by omega))
  replace orw0 := orw0.keep (SameIn.of_below b15 (by omega))
  replace oxr := oxr.keep (SameIn.of_below b15 (by omega))
  replace xuxr := xuxr.keep (SameIn.of_below b15 (by omega))
  replace org0 := org0.keep (SameIn.of_below b15 (by omega))
  replace oyr := oyr.keep (SameIn.of_below b15 (by omega))
  replace B := B.trans (b15.mono (by omega))
  clear b15
  clear oyr
  go_wp2_with fail
  refine (eqShps_c _ (orh0.rd.more (Nat.zero_le _) (by omega)) (orw0.rd.more (Nat.zero_le _) (by omega))).mono ?_
  rintro e w16 ⟨rfl, b16⟩
  have s16 := b16.size
  replace xr := xr.keep (SameIn.of_below b16 (by omega))
  replace or := or.keep (SameIn.of_below b16 (by omega))
  replace orw0 := orw0.keep (SameIn.of_below b16 (by omega))
  replace oxr := oxr.keep (SameIn.of_below b16 (by omega))
  replace xuxr := xuxr.keep (SameIn.of_below b16 (by omega))
  replace org0 := org0.keep (SameIn.of_below b16 (by omega))
  replace orh0 := orh0.keep (SameIn.of_below b16 (by omega))
  replace B := B.trans (b16.mono (by omega))
  clear b16
  go_wp2_with fail
  refine (heldShps_c _ _ hl0 (by omega) (by omega) (org0.rd.more (Nat.zero_le _) (by omega))).mono ?_
  rintro e w17 ⟨rfl, b17⟩
  have s17 := b17.size
  replace xr := xr.keep (SameIn.of_below b17 (by omega))
  replace or := or.keep (SameIn.of_below b17 (by omega))
  replace orw0 := orw0.keep (SameIn.of_below b17 (by omega))
  replace oxr := oxr.keep (SameIn.of_below b17 (by omega))
  replace xuxr := xuxr.keep (SameIn.of_below b17 (by omega))
  replace org0 := org0.keep (SameIn.of_below b17 (by omega))
  replace orh0 := orh0.keep (SameIn.of_below b17 (by omega))
  replace B := B.trans (b17.mono (by omega))
  clear b17
  go_wp2
  go_ret
  exact ⟨rfl, B⟩

end Go.Proofs.YtccihgifdlpkgaaGreatDoor
