
/-
  FormatClaim: the program's walk.
-/
import Derived.Test.YtjoglffhdoneoaaGreatDoorFcX
import Derived.Test.YtjoglffhdoneoaaGreatDoorQTail
import Derived.Test.YtjoglffhdoneoaaGreatDoorLawClmX
namespace Go.Proofs.YtjoglffhdoneoaaGreatDoor
open Go.RowKit

theorem join5 (T T1 U1 U2 D : ByteArray) : joinB ⟨#[32]⟩ [T, T1, ⟨#[98, 121]⟩, U1 ++ ⟨#[120]⟩ ++ U2, D] = T ++ ⟨#[32]⟩ ++ T1 ++ ⟨#[32, 98, 121, 32]⟩ ++ U1 ++ ⟨#[120]⟩ ++ U2 ++ ⟨#[32]⟩ ++ D := by
  simp only [joinB_cons, joinB_one]
  apply ba_ext
  simp
theorem join6 (T F P X : ByteArray) : joinB ⟨#[32]⟩ [T, F, ⟨#[111, 102]⟩, P, ⟨#[98, 121]⟩, X] = T ++ ⟨#[32]⟩ ++ F ++ ⟨#[32, 111, 102, 32]⟩ ++ P ++ ⟨#[32, 98, 121, 32]⟩ ++ X := by
  simp only [joinB_cons, joinB_one]
  apply ba_ext
  simp
theorem join6b (T F P X : ByteArray) : joinB ⟨#[32]⟩ [T, F, ⟨#[111, 102]⟩, P, ⟨#[98, 121]⟩, ⟨#[91]⟩ ++ X ++ ⟨#[93]⟩] = T ++ ⟨#[32]⟩ ++ F ++ ⟨#[32, 111, 102, 32]⟩ ++ P ++ ⟨#[32, 98, 121, 32, 91]⟩ ++ X ++ ⟨#[93]⟩ := by
  simp only [joinB_cons, joinB_one]
  apply ba_ext
  simp
theorem join8m (T F P X Y : ByteArray) : joinB ⟨#[32]⟩ [T, F, ⟨#[111, 102]⟩, P, ⟨#[109, 111, 100]⟩, X, ⟨#[98, 121]⟩, Y] = T ++ ⟨#[32]⟩ ++ F ++ ⟨#[32, 111, 102, 32]⟩ ++ P ++ ⟨#[32, 109, 111, 100, 32]⟩ ++ X ++ ⟨#[32, 98, 121, 32]⟩ ++ Y := by
  simp only [joinB_cons, joinB_one]
  apply ba_ext
  simp
theorem join8a (T F P X Y : ByteArray) : joinB ⟨#[32]⟩ [T, F, ⟨#[111, 102]⟩, P, ⟨#[98, 121]⟩, X, ⟨#[97, 110, 100]⟩, Y] = T ++ ⟨#[32]⟩ ++ F ++ ⟨#[32, 111, 102, 32]⟩ ++ P ++ ⟨#[32, 98, 121, 32]⟩ ++ X ++ ⟨#[32, 97, 110, 100, 32]⟩ ++ Y := by
  simp only [joinB_cons, joinB_one]
  apply ba_ext
  simp
theorem ocs2 {a b : ByteArray} : ∀ u ∈ [Value.string a, .string b], u.oneCell' = true := by intro u hu; simp at hu; rcases hu with rfl | rfl <;> rfl
theorem ocs4 {a b c d : ByteArray} : ∀ u ∈ [Value.string a, .string b, .string c, .string d], u.oneCell' = true := by intro u hu; simp at hu; rcases hu with rfl | rfl | rfl | rfl <;> rfl
set_option maxRecDepth 100000 in
set_option maxHeartbeats 3200000 in
theorem impl_fc_c {v : Value} {C : Clm} (w : World) (h : ClmRd w 0 w.heap.size v C) (hr : C.reg.rows.length ≤ 1048576) (hn : C.pieces.length ≤ 1048576) (hl : ∀ s ∈ C.pieces, s.length ≤ 1048576) (ht : C.text.size ≤ maxLen) :
    Calls Tryz.prog 21 #[v] w fun e w' => e = .returned (.string (fcB C)) ∧ Below w.heap.size w w' := by
  obtain ⟨i0, hi, hz0, hz1, hz2⟩ := info_parts infoStr
  obtain ⟨s1, s2, s3, s4, s5, rfl, h1, h2, h3, h4, h5⟩ := h
  have R1 : Hid (∀ w1, Below w.heap.size w w1 → RegRd w1 0 w1.heap.size (.agg #[.int .i64 C.reg.w, s1]) C.reg) := Lib.hid fun w1 b1 => ⟨s1, rfl, (h1.keep (SameIn.of_below b1 (Nat.le_refl _))).more (Nat.le_refl _) b1.size⟩
  have R2 : Hid (∀ w1, Below w.heap.size w w1 → CellSSRd w1 0 w1.heap.size s2 C.pieces) := Lib.hid fun w1 b1 => (h2.keep (SameIn.of_below b1 (Nat.le_refl _))).more (Nat.le_refl _) b1.size
  have R3 : Hid (∀ w1, Below w.heap.size w w1 → IntsRd w1 0 w1.heap.size s3 C.masks) := Lib.hid fun w1 b1 => (h3.keep (SameIn.of_below b1 (Nat.le_refl _))).more (Nat.le_refl _) b1.size
  have R4 : Hid (∀ w1, Below w.heap.size w w1 → IntsRd w1 0 w1.heap.size s4 C.weights) := Lib.hid fun w1 b1 => (h4.keep (SameIn.of_below b1 (Nat.le_refl _))).more (Nat.le_refl _) b1.size
  have R5 : Hid (∀ w1, Below w.heap.size w w1 → WangsRd w1 0 w1.heap.size s5 C.wang) := Lib.hid fun w1 b1 => (h5.keep (SameIn.of_below b1 (Nat.le_refl _))).more (Nat.le_refl _) b1.size
  obtain ⟨K, hK⟩ : ∃ K, K = C.kind := ⟨_, rfl⟩
  rw [← hK]
  have HK := Lib.hid hK
  obtain ⟨R, hR⟩ : ∃ R, R = fcB C := ⟨_, rfl⟩
  rw [← hR]
  have HR := Lib.hid hR
  have H0 := (Sep.start w).box 32 #[.int .i64 K, .int .i64 C.reg.w, s1, s2, s3, .string C.text, .int .i64 C.prime, s4, .int .i64 C.mask, s5, .int .i64 C.width, .int .i64 C.height]
  obtain ⟨g, hg⟩ : ∃ g, g = w.heap.size := ⟨_, rfl⟩
  rw [← hg] at H0
  unfold maxLen at ht
  have HTX := Lib.hid ht
  unfold clmV
  clear hK hR h1 h2 h3 h4 h5
  go_enter Tryz.func21, Tryz.ntmps21
  go_upto_region 1 with fail
  rw [← hg]
  generalize (w.alloc (.cells #[.int .i64 K, .int .i64 C.reg.w, s1, s2, s3, .string C.text, .int .i64 C.prime, s4, .int .i64 C.mask, s5, .int .i64 C.width, .int .i64 C.height] 32)) = W at *
  clear hg
  have c0 : W.cell? ⟨g, 0, none⟩ = some (.int .i64 K) := H0.h0.cell 0
  have c1 : W.cell? ⟨g, 1, none⟩ = some (.int .i64 C.reg.w) := H0.h0.cell 1
  have c2 : W.cell? ⟨g, 2, none⟩ = some s1 := H0.h0.cell 2
  have c3 : W.cell? ⟨g, 3, none⟩ = some (s2) := H0.h0.cell 3
  have c4 : W.cell? ⟨g, 4, none⟩ = some s3 := H0.h0.cell 4
  have c5 : W.cell? ⟨g, 5, none⟩ = some (.string C.text) := H0.h0.cell 5
  have c6 : W.cell? ⟨g, 6, none⟩ = some (.int .i64 C.prime) := H0.h0.cell 6
  have c7 : W.cell? ⟨g, 7, none⟩ = some s4 := H0.h0.cell 7
  have c8 : W.cell? ⟨g, 8, none⟩ = some (.int .i64 C.mask) := H0.h0.cell 8
  have c9 : W.cell? ⟨g, 9, none⟩ = some s5 := H0.h0.cell 9
  have c10 : W.cell? ⟨g, 10, none⟩ = some (.int .i64 C.width) := H0.h0.cell 10
  have c11 : W.cell? ⟨g, 11, none⟩ = some (.int .i64 C.height) := H0.h0.cell 11
  have HW := Lib.hid (impl_word K W)
  go_wp2_with fail
  refine (HW.out).mono ?_
  rintro e w1 ⟨rfl, b1⟩
  have H1 := H0.step b1
  clear c0 c1 c2 c3 c4 c5 c6 c7 c8 c9 c10 c11
  clear H0 b1 HW
  have c0 : w1.cell? ⟨g, 0, none⟩ = some (.int .i64 K) := H1.h0.cell 0
  have c1 : w1.cell? ⟨g, 1, none⟩ = some (.int .i64 C.reg.w) := H1.h0.cell 1
  have c2 : w1.cell? ⟨g, 2, none⟩ = some s1 := H1.h0.cell 2
  have c3 : w1.cell? ⟨g, 3, none⟩ = some (s2) := H1.h0.cell 3
  have c4 : w1.cell? ⟨g, 4, none⟩ = some s3 := H1.h0.cell 4
  have c5 : w1.cell? ⟨g, 5, none⟩ = some (.string C.text) := H1.h0.cell 5
  have c6 : w1.cell? ⟨g, 6, none⟩ = some (.int .i64 C.prime) := H1.h0.cell 6
  have c7 : w1.cell? ⟨g, 7, none⟩ = some s4 := H1.h0.cell 7
  have c8 : w1.cell? ⟨g, 8, none⟩ = some (.int .i64 C.mask) := H1.h0.cell 8
  have c9 : w1.cell? ⟨g, 9, none⟩ = some s5 := H1.h0.cell 9
  have c10 : w1.cell? ⟨g, 10, none⟩ = some (.int .i64 C.width) := H1.h0.cell 10
  have c11 : w1.cell? ⟨g, 11, none⟩ = some (.int .i64 C.height) := H1.h0.cell 11
  have hw7 := word_size K
  obtain ⟨T, hT⟩ : ∃ T, T = wordOf K := ⟨_, rfl⟩
  rw [← hT] at hw7 ⊢
  have HT := Lib.hid hT
  clear hT
  cases hw : inW K 1 6
  · obtain rfl : T = ⟨#[]⟩ := by rw [HT.out, word_no hw]
    obtain rfl : R = ⟨#[]⟩ := by
      rw [HR.out]; unfold fcB fcOk
      rw [if_neg (by intro e; rw [← HK.out] at e; rw [e] at hw; exact absurd hw (by decide)), ← HK.out, hw]; rfl
    clear hw
    go_wp2
    go_ret
    exact ⟨rfl, H1.below⟩
  have hw1 := ba_size0 (s := T) (by rw [HT.out]; exact word_ok hw)
  have HWK := Lib.hid hw
  clear hw
  by_cases hk5 : K = 5
  · subst hk5
    have HA := Lib.hid (impl_areW_c w1 (R5.out w1 H1.below))
    go_wp2_with fail
    refine (HA.out).mono ?_
    rintro e w2 ⟨rfl, b2⟩
    have H2 := H1.step b2
    clear c0 c1 c2 c3 c4 c5 c6 c7 c8 c9 c10 c11
    clear b2 H1 HA
    have c0 : w2.cell? ⟨g, 0, none⟩ = some (.int .i64 5) := H2.h0.cell 0
    have c1 : w2.cell? ⟨g, 1, none⟩ = some (.int .i64 C.reg.w) := H2.h0.cell 1
    have c2 : w2.cell? ⟨g, 2, none⟩ = some s1 := H2.h0.cell 2
    have c3 : w2.cell? ⟨g, 3, none⟩ = some (s2) := H2.h0.cell 3
    have c4 : w2.cell? ⟨g, 4, none⟩ = some s3 := H2.h0.cell 4
    have c5 : w2.cell? ⟨g, 5, none⟩ = some (.string C.text) := H2.h0.cell 5
    have c6 : w2.cell? ⟨g, 6, none⟩ = some (.int .i64 C.prime) := H2.h0.cell 6
    have c7 : w2.cell? ⟨g, 7, none⟩ = some s4 := H2.h0.cell 7
    have c8 : w2.cell? ⟨g, 8, none⟩ = some (.int .i64 C.mask) := H2.h0.cell 8
    have c9 : w2.cell? ⟨g, 9, none⟩ = some s5 := H2.h0.cell 9
    have c10 : w2.cell? ⟨g, 10, none⟩ = some (.int .i64 C.width) := H2.h0.cell 10
    have c11 : w2.cell? ⟨g, 11, none⟩ = some (.int .i64 C.height) := H2.h0.cell 11
    cases hp : areW C.wang
    · obtain rfl : R = ⟨#[]⟩ := by
        rw [HR.out]; unfold fcB perOk; rw [if_pos HK.out.symm, hp]; rfl
      clear hp
      go_wp2
      go_ret
      exact ⟨rfl, H2.below⟩
    · have HG := Lib.hid (impl_grid_c C.width C.height)
      have HP := Lib.hid hp
      clear hp
      go_wp2_with fail
      refine (HG.out w2).mono ?_
      rintro e w3 ⟨rfl, rfl⟩
      cases hg : gridW C.width C.height
      · obtain rfl : R = ⟨#[]⟩ := by
          rw [HR.out]; unfold fcB perOk; rw [if_pos HK.out.symm, hg, Bool.and_false]; rfl
        clear hg
        go_wp2
        go_ret
        exact ⟨rfl, H2.below⟩
      · have hgi := grid_in hg
        have hwl : 1 ≤ C.wang.length ∧ C.wang.length ≤ 6 := by
          have hp := HP.out
          unfold areW at hp
          simp only [Bool.and_eq_true] at hp
          have := inW_iff.1 hp.2
          omega
        have HRR : Hid (R = joinB ⟨#[32]⟩ [T, tilesTo C.wang C.wang.length, ⟨#[98, 121]⟩, dgt C.width ++ ⟨#[120]⟩ ++ dgt C.height, digS C.masks]) := Lib.hid (by
          rw [join5, HR.out]; unfold fcB perOk; rw [if_pos HK.out.symm, HP.out, hg, HT.out]; rfl)
        have l4 := Later.cell c4 (Blk.lt H2.h0)
        have l9 := Later.cell c9 (Blk.lt H2.h0)
        have l10 := Later.cell c10 (Blk.lt H2.h0)
        have l11 := Later.cell c11 (Blk.lt H2.h0)
        have HL : Hid (∀ u : Later w2, Calls Tryz.prog 60 #[s3] u.w fun e w' => e = .returned (.string (digS C.masks)) ∧ Below u.w.heap.size u.w w') := Lib.hid fun u =>
          impl_digits_c u.w (R3.out u.w (H2.below.trans (u.h.mono H2.below.size)))
        have HF : Hid (∀ u : Later w2, Calls Tryz.prog 58 #[s5] u.w fun e w' => e = .returned (.string (tilesTo C.wang C.wang.length)) ∧ Below u.w.heap.size u.w w') := Lib.hid fun u =>
          impl_fmtW_c u.w (R5.out u.w (H2.below.trans (u.h.mono H2.below.size))) HP.out hwl.1 hwl.2
        have HI1 : Hid (∀ u : Later w2, Calls Tryz.prog 59 #[.int .i64 C.width] u.w fun e w' => e = .returned (.string (dgt C.width)) ∧ u.w = w') := Lib.hid fun u => impl_dig_c C.width u.w (by omega) (by omega)
        have HI2 : Hid (∀ u : Later w2, Calls Tryz.prog 59 #[.int .i64 C.height] u.w fun e w' => e = .returned (.string (dgt C.height)) ∧ u.w = w') := Lib.hid fun u => impl_dig_c C.height u.w (by omega) (by omega)
        have hu1 : (dgt C.width).size ≤ 1 := Nat.le_of_eq (dgt_size _)
        have hu2 : (dgt C.height).size ≤ 1 := Nat.le_of_eq (dgt_size _)
        have hd := digS_size C.masks
        have hts := tilesTo_size (l := C.wang) (k := C.wang.length) (Nat.le_refl _)
        have hts2 : (tilesTo C.wang C.wang.length).size ≤ 30 := by omega
        clear hts hwl
        generalize dgt C.width = U1 at *
        generalize dgt C.height = U2 at *
        generalize digS C.masks = D at *
        generalize tilesTo C.wang C.wang.length = T1 at *
        clear c0 c1 c2 c3 c4 c5 c6 c7 c8 c9 c10 c11
        have y1 : ¬ 9223372036854775807 < U1.size + 1 := by omega
        have y2 : ¬ 9223372036854775807 < U1.size + 1 + U2.size := by omega
        have HSZ : Hid (∀ x ∈ [T, T1, (⟨#[98, 121]⟩ : ByteArray), U1 ++ ⟨#[120]⟩ ++ U2, D], x.size ≤ 100) := Lib.hid fun x hx => by
          simp only [List.mem_cons, List.not_mem_nil, or_false] at hx
          rcases hx with rfl | rfl | rfl | rfl | rfl
          · omega
          · omega
          · decide
          · simp only [ByteArray.size_append]; show U1.size + 1 + U2.size ≤ 100; omega
          · omega
        have HH := Lib.hid H2
        clear hu1 hu2 hd hts2 hw7 hg hgi hw1 H2
        go_upto_region 7 with fail
        refine wp_region_lqtail 15 (by kernel_rfl) (by kernel_rfl) ?_
        simp only [List.take_succ_cons, List.take_zero, List.drop_succ_cons, List.drop_zero]
        repeat (go_big_quiet_step ((first | (go_at_call 59; first | (with_reducible exact Later.same (HI1.out _)) | (with_reducible exact Later.same (HI2.out _))) | (go_at_call 60; with_reducible exact Later.call (HL.out _)) | (go_at_call 58; with_reducible exact Later.call (HF.out _)))))
        refine wpQuiet_nil ?_
        intro w3 hw3
        obtain ⟨u3, hu3⟩ := hw3
        subst hu3
        have H3 := HH.out.later u3
        clear l4 l9 l10 l11 HL HF HI1 HI2 y1 y2 HH
        generalize u3.w = w3 at *
        have H4 := H3.rowBox 9 #[.string T, .string T1, .string ⟨#[98, 121]⟩, .string (U1 ++ ⟨#[120]⟩ ++ U2), .string D] 1 5 rfl (by decide)
        have HJ := Lib.hid (join_own (l := [T, T1, ⟨#[98, 121]⟩, U1 ++ ⟨#[120]⟩ ++ U2, D]) (b := 100) ⟨#[32]⟩ H4 rfl HSZ.out (by simp) (by decide))
        go_wp2_with fail
        refine (HJ.out).mono ?_
        rintro e w5 ⟨rfl, b5⟩
        have H5 := H4.step b5
        go_wp2
        go_ret
        exact ⟨by rw [HRR.out]; rfl, H5.below⟩
  · have hk5b : (K == 5) = false := by simpa using hk5
    have HK5 : Hid (¬ C.kind = 5) := Lib.hid (by rw [← HK.out]; exact hk5)
    clear hk5
    have HPB := Lib.hid (impl_prob_c w1 (R1.out w1 H1.below) (R2.out w1 H1.below) hn hl)
    go_wp2_with fail
    refine (HPB.out).mono ?_
    rintro e w2 ⟨rfl, b2⟩
    have H2 := H1.step b2
    clear c0 c1 c2 c3 c4 c5 c6 c7 c8 c9 c10 c11
    clear b2 H1 HPB hw1
    cases hvp : (C.reg.valid && arePcs C.pieces)
    · obtain rfl : R = ⟨#[]⟩ := by
        rw [HR.out]; unfold fcB fcOk; rw [if_neg HK5.out, hvp, Bool.and_false]; rfl
      clear hvp
      go_wp2
      go_ret
      exact ⟨rfl, H2.below⟩
    have HOK : Hid (fcOk C = true) := Lib.hid (by unfold fcOk; rw [← HK.out, HWK.out, hvp]; rfl)
    simp only [Bool.and_eq_true] at hvp
    have HAP := Lib.hid hvp.2
    have HVV := Lib.hid hvp.1
    have hps := (pcsB_size hvp.2).2
    have hfr := (fmtR_ne hvp.1).2
    clear hvp
    have HR2 := R2.out w (Below.refl _ _)
    obtain ⟨vs, ⟨q2, d2, rfl, hm2, hr2⟩, hsl⟩ := HR2
    obtain ⟨n, hn2⟩ : ∃ n, n = C.pieces.length := ⟨_, rfl⟩
    rw [← hn2] at hm2 hr2 H2 ⊢
    have HN := Lib.hid hn2
    have HRR2 := Lib.hid hr2
    have HSL := Lib.hid hsl
    have hn5 : n ≤ 5 := by have := arePcs_on HAP.out; omega
    have c3 : w2.cell? ⟨g, 3, none⟩ = some (.slice q2 n d2) := H2.h0.cell 3
    have H3 := H2.nil 9 1
    clear hr2 hsl hn2 hm2 H2
    go_wp2
    clear c3
    go_loopw [4, 54] (fun ov iv wx => ∃ (i : Nat) (vo : Value), i ≤ n ∧ ov = vo ∧ iv = .int .i64 i ∧ Sep w wx [Res.row ov 9 1 i (sc ((C.pieces.take i).map fmtSh)), Res.box g 32 #[.int .i64 K, .int .i64 C.reg.w, s1, .slice q2 n d2, s3, .string C.text, .int .i64 C.prime, s4, .int .i64 C.mask, s5, .int .i64 C.width, .int .i64 C.height]]) (fun _ iv _ => n - (intOf iv).toNat)
    case atStart => exact ⟨0, _, Nat.zero_le _, rfl, rfl, H3⟩
    case round =>
      clear H3
      obtain ⟨i, vo, hin, rfl, rfl, H⟩ := hrel
      by_cases hlt : i < n
      · have hlti : (i : Int) < (n : Int) := by omega
        obtain ⟨b, off, u, x, hq, _, hb, hla, x1, xr⟩ := HRR2.out.slot HSL.out HN.out hlt
        subst hq
        have hsh := (arePcs_on HAP.out).1 u (List.mem_of_getElem? hla)
        have x2 := (H.below.cell (p := ⟨b, off + i, none⟩) hb).trans x1
        have HFC := Lib.hid (impl_fmtSh_c wr ((xr.keep (SameIn.of_below H.below (Nat.le_refl _))).more (Nat.le_refl _) H.below.size) hsh)
        have HTK : Hid (sc ((C.pieces.take (i + 1)).map fmtSh) = sc ((C.pieces.take i).map fmtSh) ++ [.string (fmtSh u)]) := Lib.hid (by
          rw [List.take_add_one, hla, Option.toList_some, List.map_append, sc_append]; rfl)
        obtain ⟨Ax, cx, hx, _, _⟩ := xr
        subst hx
        generalize fmtSh u = U at *
        clear x1 hla hsh
        go_wp2_with fail
        refine (HFC.out).mono ?_
        rintro e w3 ⟨rfl, b3⟩
        have H4 := H.step b3
        clear b3 H x2 HFC
        go_wp2_with (at_builtin; refine wpList_app rfl _ _ 81 rfl 9 i0 _ 1 16 Tryz.underlying81 hi hz0 hz1 hz2 rfl (by decide) _ _ _ rfl (H4.alloc _) _ _ _ [.string U] rfl (Rd.fresh w3 _ #[.string U] 1 1 rfl) ocs (by unfold maxLen; omega) (by omega) ?_; intro v5 w5 H5; clear H4)
        rw [← HTK.out] at H5
        go_roundw
        case rel => exact ⟨i + 1, _, by omega, rfl, by go_num, H5⟩
        case measure => simp [intOf]; omega
      · obtain rfl : i = n := by omega
        obtain ⟨Ao, co, rfl, _, _, _⟩ := Res.row_at H.h0
        have HPC : Hid (joinB ⟨#[43]⟩ ((C.pieces.take i).map fmtSh) = pcsB C.pieces) := Lib.hid (by
          unfold pcsB
          rw [if_pos HAP.out, HN.out]
          rfl)
        have HJ : Hid (∀ w1, Below wr.heap.size wr w1 → Calls Tryz.prog 57 #[.slice Ao i co, .string ⟨#[43]⟩] w1 fun e w' => e = .returned (.string (pcsB C.pieces)) ∧ Below w1.heap.size w1 w') := Lib.hid fun w1 b1 => by
          rw [← HPC.out]
          exact join_own (b := 80) ⟨#[43]⟩ (H.step b1) (by rw [List.length_map, List.length_take, ← HN.out, Nat.min_self]) (fun x hx => by
            obtain ⟨y, hy, rfl⟩ := List.mem_map.1 hx
            exact (fmtSh_size ((arePcs_on HAP.out).1 y (List.mem_of_mem_take hy))).1) (by rw [List.length_map, List.length_take]; omega) (by decide)
        have H4 := H.g1
        have c0 : wr.cell? ⟨g, 0, none⟩ = some (.int .i64 K) := H4.h0.cell 0
        have c1 : wr.cell? ⟨g, 1, none⟩ = some (.int .i64 C.reg.w) := H4.h0.cell 1
        have c2 : wr.cell? ⟨g, 2, none⟩ = some s1 := H4.h0.cell 2
        have c3 : wr.cell? ⟨g, 3, none⟩ = some (.slice q2 i d2) := H4.h0.cell 3
        have c4 : wr.cell? ⟨g, 4, none⟩ = some s3 := H4.h0.cell 4
        have c5 : wr.cell? ⟨g, 5, none⟩ = some (.string C.text) := H4.h0.cell 5
        have c6 : wr.cell? ⟨g, 6, none⟩ = some (.int .i64 C.prime) := H4.h0.cell 6
        have c7 : wr.cell? ⟨g, 7, none⟩ = some s4 := H4.h0.cell 7
        have c8 : wr.cell? ⟨g, 8, none⟩ = some (.int .i64 C.mask) := H4.h0.cell 8
        have c9 : wr.cell? ⟨g, 9, none⟩ = some s5 := H4.h0.cell 9
        have c10 : wr.cell? ⟨g, 10, none⟩ = some (.int .i64 C.width) := H4.h0.cell 10
        have c11 : wr.cell? ⟨g, 11, none⟩ = some (.int .i64 C.height) := H4.h0.cell 11
        have HFR := Lib.hid (impl_fmtReg_c wr (R1.out wr H.below) hr)
        obtain ⟨F, hF⟩ : ∃ F, F = fmtR C.reg := ⟨_, rfl⟩
        rw [← hF] at HFR hfr
        have HF := Lib.hid hF
        obtain ⟨P, hP⟩ : ∃ F, F = pcsB C.pieces := ⟨_, rfl⟩
        rw [← hP] at HJ hps
        have HP := Lib.hid hP
        clear hF hP
        go_wp2_with fail
        refine (HFR.out).mono ?_
        rintro e w3 ⟨rfl, b3⟩
        have HJ2 := Lib.hid (HJ.out w3 b3)
        have H5 := H4.drop2.step b3
        go_wp2_with fail
        refine (HJ2.out).mono ?_
        rintro e w4 ⟨rfl, b4⟩
        have H6 := H5.step b4
        clear H H4 H5 b3 b4 HJ HJ2 HFR
        clear c0 c1 c2 c3 c4 c5 c6 c7 c8 c9 c10 c11
        have H7 := H6.rowBox 9 #[.string T, .string F, .string ⟨#[111, 102]⟩, .string P] 1 4 rfl (by decide)
        have HS : Hid (headC C = T ++ ⟨#[32]⟩ ++ F ++ ⟨#[32, 111, 102, 32]⟩ ++ P) := Lib.hid (by unfold headC; rw [HT.out, HF.out, HP.out, HK.out])
        go_upto_region 17 with fail
        obtain ⟨gl, hgl⟩ : ∃ gl, gl = w4.heap.size := ⟨_, rfl⟩
        rw [← hgl] at H7 ⊢
        generalize (w4.alloc (.cells #[.string T, .string F, .string ⟨#[111, 102]⟩, .string P] 9)) = w5 at *
        clear hgl H6
        have H8 := H7.g1
        have c0 : w5.cell? ⟨g, 0, none⟩ = some (.int .i64 K) := H8.h0.cell 0
        have c1 : w5.cell? ⟨g, 1, none⟩ = some (.int .i64 C.reg.w) := H8.h0.cell 1
        have c2 : w5.cell? ⟨g, 2, none⟩ = some s1 := H8.h0.cell 2
        have c3 : w5.cell? ⟨g, 3, none⟩ = some (.slice q2 i d2) := H8.h0.cell 3
        have c4 : w5.cell? ⟨g, 4, none⟩ = some s3 := H8.h0.cell 4
        have c5 : w5.cell? ⟨g, 5, none⟩ = some (.string C.text) := H8.h0.cell 5
        have c6 : w5.cell? ⟨g, 6, none⟩ = some (.int .i64 C.prime) := H8.h0.cell 6
        have c7 : w5.cell? ⟨g, 7, none⟩ = some s4 := H8.h0.cell 7
        have c8 : w5.cell? ⟨g, 8, none⟩ = some (.int .i64 C.mask) := H8.h0.cell 8
        have c9 : w5.cell? ⟨g, 9, none⟩ = some s5 := H8.h0.cell 9
        have c10 : w5.cell? ⟨g, 10, none⟩ = some (.int .i64 C.width) := H8.h0.cell 10
        have c11 : w5.cell? ⟨g, 11, none⟩ = some (.int .i64 C.height) := H8.h0.cell 11
        clear H8
        have HJN : Hid (∀ w1 v n x L, n = 6 → (∀ y ∈ [x], y.size ≤ 2002) → Sep w w1 (Res.row v 9 1 n (sc [T, F, ⟨#[111, 102]⟩, P, ⟨#[98, 121]⟩, x]) :: L) → Calls Tryz.prog 57 #[v, .string ⟨#[32]⟩] w1 fun e w' => e = .returned (.string (joinB ⟨#[32]⟩ [T, F, ⟨#[111, 102]⟩, P, ⟨#[98, 121]⟩, x])) ∧ Below w1.heap.size w1 w') := Lib.hid fun w1 v n x L hn6 hx hs =>
          join_own (b := 2002) ⟨#[32]⟩ hs hn6 (fun y hy => by
            simp only [List.mem_cons, List.not_mem_nil, or_false] at hy
            rcases hy with rfl | rfl | rfl | rfl | rfl | rfl
            · omega
            · omega
            · decide
            · omega
            · decide
            · exact hx _ (by simp)) (by simp) (by decide)
        have HJ8 : Hid (∀ w1 v n a x y L, n = 8 → a.size ≤ 10 → x.size ≤ 100 → y.size ≤ 100 → ∀ c : ByteArray, c.size ≤ 10 → Sep w w1 (Res.row v 9 1 n (sc [T, F, ⟨#[111, 102]⟩, P, a, x, c, y]) :: L) → Calls Tryz.prog 57 #[v, .string ⟨#[32]⟩] w1 fun e w' => e = .returned (.string (joinB ⟨#[32]⟩ [T, F, ⟨#[111, 102]⟩, P, a, x, c, y])) ∧ Below w1.heap.size w1 w') := Lib.hid fun w1 v n a x y L hn8 ha hx hy c hc hs =>
          join_own (b := 2002) ⟨#[32]⟩ hs hn8 (fun z hz => by
            simp only [List.mem_cons, List.not_mem_nil, or_false] at hz
            rcases hz with rfl | rfl | rfl | rfl | rfl | rfl | rfl | rfl
            · omega
            · omega
            · decide
            · omega
            · omega
            · omega
            · omega
            · omega) (by simp) (by decide)
        clear hfr hps hw7
        by_cases k2 : K = 2
        · subst k2
          by_cases ht2 : C.text.size ≤ 2000
          · have hti : ¬ (2000 : Int) < (C.text.size : Int) := by omega
            have HRR : Hid (R = joinB ⟨#[32]⟩ [T, F, ⟨#[111, 102]⟩, P, ⟨#[98, 121]⟩, ⟨#[91]⟩ ++ C.text ++ ⟨#[93]⟩]) := Lib.hid (by
              rw [HR.out]; unfold fcB; rw [if_neg HK5.out, if_pos HOK.out, if_pos HK.out.symm, if_pos ht2, HS.out, join6b])
            have z1 : ¬ 9223372036854775807 < 1 + C.text.size := by omega
            have z2 : ¬ 9223372036854775807 < 1 + C.text.size + 1 := by omega
            have hxs : ∀ y ∈ [(⟨#[91]⟩ : ByteArray) ++ C.text ++ ⟨#[93]⟩], y.size ≤ 2002 := fun y hy => by
              simp only [List.mem_cons, List.not_mem_nil, or_false] at hy
              subst hy
              simp only [ByteArray.size_append]
              show 1 + C.text.size + 1 ≤ 2002
              omega
            have HXS := Lib.hid hxs
            clear hxs
            go_wp2_with (at_builtin; refine wpList_app rfl _ _ 81 rfl 9 i0 _ 1 16 Tryz.underlying81 hi hz0 hz1 hz2 rfl (by decide) _ _ _ rfl (H7.alloc _) _ _ _ [.string ⟨#[98, 121]⟩, .string (⟨#[91]⟩ ++ C.text ++ ⟨#[93]⟩)] rfl (Rd.fresh w5 _ #[.string ⟨#[98, 121]⟩, .string (⟨#[91]⟩ ++ C.text ++ ⟨#[93]⟩)] 1 2 rfl) ocs2 (by unfold maxLen; omega) (by omega) ?_; intro v6 w6 H9; clear H7)
            have HJJ := Lib.hid (HJN.out _ _ _ _ _ rfl HXS.out H9)
            refine (HJJ.out).mono ?_
            rintro e w7 ⟨rfl, b7⟩
            have H10 := H9.step b7
            go_wp2
            go_ret
            exact ⟨by rw [HRR.out]; rfl, H10.below⟩
          · have hti : (2000 : Int) < (C.text.size : Int) := by omega
            obtain rfl : R = ⟨#[]⟩ := by
              rw [HR.out]; unfold fcB; rw [if_neg HK5.out, if_pos HOK.out, if_pos HK.out.symm, if_neg ht2]
            go_wp2
            go_ret
            exact ⟨rfl, H7.below⟩
        have k2b : (K == 2) = false := by simpa using k2
        have K2 : Hid (¬ C.kind = 2) := Lib.hid (by rw [← HK.out]; exact k2)
        clear k2
        by_cases k3 : K = 3
        · subst k3
          have HPR := Lib.hid (impl_prime_c C.prime w5)
          go_wp2_with fail
          refine (HPR.out).mono ?_
          rintro e w6 ⟨rfl, rfl⟩
          cases hpr : prm C.prime
          · obtain rfl : R = ⟨#[]⟩ := by
              rw [HR.out]; unfold fcB; rw [if_neg HK5.out, if_pos HOK.out, if_neg K2.out, if_pos HK.out.symm, hpr]; rfl
            clear hpr
            go_wp2
            go_ret
            exact ⟨rfl, H7.below⟩
          · have HRR : Hid (R = joinB ⟨#[32]⟩ [T, F, ⟨#[111, 102]⟩, P, ⟨#[109, 111, 100]⟩, dgt C.prime, ⟨#[98, 121]⟩, digS C.weights]) := Lib.hid (by
              rw [HR.out]; unfold fcB; rw [if_neg HK5.out, if_pos HOK.out, if_neg K2.out, if_pos HK.out.symm, hpr, HS.out, join8m]; rfl)
            have HD := H7.drew
            have HL : Hid (∀ w1, Below w.heap.size w w1 → Calls Tryz.prog 60 #[s4] w1 fun e w' => e = .returned (.string (digS C.weights)) ∧ w1 = w') := Lib.hid fun w1 b1 => impl_digitsS_c w1 (R4.out w1 b1)
            have hpi := prm_in hpr
            have HI1 : Hid (∀ w1, Calls Tryz.prog 59 #[.int .i64 C.prime] w1 fun e w' => e = .returned (.string (dgt C.prime)) ∧ w1 = w') := Lib.hid fun w1 => impl_dig_c C.prime w1 hpi.1 hpi.2
            have hu1 : (dgt C.prime).size ≤ 1 := Nat.le_of_eq (dgt_size _)
            have hd := digS_size C.weights
            generalize dgt C.prime = U1 at *
            generalize digS C.weights = D at *
            have HU1 := Lib.hid hu1
            have HD1 := Lib.hid hd
            clear hu1 hd hpr hpi H7
            go_upto_region 28 with fail
            clear c0 c1 c2 c3 c4 c5 c6 c7 c8 c9 c10 c11
            have f6 : w5.cell? ⟨g, 6, none⟩ = some (.int .i64 C.prime) := HD.h1.cell 6
            have f7 : w5.cell? ⟨g, 7, none⟩ = some s4 := HD.h1.cell 7
            go_region_held3 (fun w' => w'.cell? ⟨g, 6, none⟩ = some (.int .i64 C.prime) ∧ w'.cell? ⟨g, 7, none⟩ = some s4)
              (first
                | go_keep
                | exact ⟨H10.h1.cell 6, H10.h1.cell 7⟩)
              (first
                | (go_at_call 59; (with_reducible refine (HI1.out _).mono ?_); rintro e w' ⟨rfl, rfl⟩)
                | (go_at_call 60; (with_reducible refine (HL.out _ HD.below).mono ?_); rintro e w' ⟨rfl, rfl⟩)
                | (refine step_app rfl (.tmp 112) (.tmp 119) 81 rfl 9 i0 _ 1 16 Tryz.underlying81 hi hz0 hz1 hz2 rfl (by decide) _ _ _ (by rfl) (HD.alloc _) _ _ _ [.string ⟨#[109, 111, 100]⟩, .string U1, .string ⟨#[98, 121]⟩, .string D] (by rfl) (Rd.fresh w5.drew _ #[.string ⟨#[109, 111, 100]⟩, .string U1, .string ⟨#[98, 121]⟩, .string D] 1 4 rfl) ocs4 (by unfold maxLen; omega) (by omega) ?_; intro v8 w8 H10))
            clear f6 f7 HL HI1 HD
            go_wp2_with fail
            have HJJ := Lib.hid (HJ8.out _ _ _ ⟨#[109, 111, 100]⟩ U1 D _ rfl (by decide) (by have := HU1.out; omega) (by have := HD1.out; omega) ⟨#[98, 121]⟩ (by decide) H10)
            refine (HJJ.out).mono ?_
            rintro e w9 ⟨rfl, b9⟩
            have H11 := H10.step b9
            go_wp2
            go_ret
            exact ⟨by rw [HRR.out]; rfl, H11.below⟩
        have k3b : (K == 3) = false := by simpa using k3
        have K3 : Hid (¬ C.kind = 3) := Lib.hid (by rw [← HK.out]; exact k3)
        clear k3
        have HTL := Lib.hid (impl_fmtTil_c w5 (R1.out w5 H7.below) (R3.out w5 H7.below) hr)
        have hts := fmtTil_size C.reg C.masks
        obtain ⟨U1, hU1⟩ : ∃ U, U = fmtTil C.reg C.masks := ⟨_, rfl⟩
        rw [← hU1] at HTL hts
        have HU1 := Lib.hid hU1
        clear hU1
        go_wp2_with fail
        refine (HTL.out).mono ?_
        rintro e w6 ⟨rfl, b6⟩
        have H9 := H7.step b6
        clear H7 b6 HTL
        clear c0 c1 c2 c3 c4 c5 c6 c7 c8 c9 c10 c11
        go_wp2_with (at_builtin; refine wpList_app rfl _ _ 81 rfl 9 i0 _ 1 16 Tryz.underlying81 hi hz0 hz1 hz2 rfl (by decide) _ _ _ rfl (H9.alloc _) _ _ _ [.string ⟨#[98, 121]⟩, .string U1] rfl (Rd.fresh w6 _ #[.string ⟨#[98, 121]⟩, .string U1] 1 2 rfl) ocs2 (by unfold maxLen; omega) (by omega) ?_; intro v7 w7 H10; clear H9; have c0 : w7.cell? ⟨g, 0, none⟩ = some (.int .i64 K) := H10.h1.cell 0; have c1 : w7.cell? ⟨g, 1, none⟩ = some (.int .i64 C.reg.w) := H10.h1.cell 1; have c2 : w7.cell? ⟨g, 2, none⟩ = some s1 := H10.h1.cell 2; have c8 : w7.cell? ⟨g, 8, none⟩ = some (.int .i64 C.mask) := H10.h1.cell 8; by_cases k4 : K = 4; (have k4b : (K == 4) = true := by simpa using k4); (have k4n : Hid (K = 4) := Lib.hid k4); clear k4; rotate_left; (have k4b : (K == 4) = false := by simpa using k4); (have k4n : Hid (¬ K = 4) := Lib.hid k4); clear k4)
        · have HRR : Hid (R = joinB ⟨#[32]⟩ [T, F, ⟨#[111, 102]⟩, P, ⟨#[98, 121]⟩, U1]) := Lib.hid (by
            rw [HR.out]; unfold fcB; rw [if_neg HK5.out, if_pos HOK.out, if_neg K2.out, if_neg K3.out, if_neg (by rw [← HK.out]; exact k4n.out), HS.out, join6, HU1.out])
          have HJJ := Lib.hid (HJN.out _ _ _ _ _ rfl (fun y hy => by simp only [List.mem_cons, List.not_mem_nil, or_false] at hy; subst hy; omega) H10)
          refine (HJJ.out).mono ?_
          rintro e w8 ⟨rfl, b8⟩
          have H11 := H10.step b8
          go_wp2
          go_ret
          exact ⟨by rw [HRR.out]; rfl, H11.below⟩
        · have HM := H10.rowBox 3 #[.int .i64 C.mask] 1 1 rfl (by decide)
          have HTB := Lib.hid (impl_fmtTil_c _ (R1.out _ HM.below) (l := [C.mask]) (HM.oi.sr.more (Nat.zero_le _) (Nat.le_refl _)) hr)
          have hts2 := fmtTil_size C.reg [C.mask]
          obtain ⟨U2, hU2⟩ : ∃ U, U = fmtTil C.reg [C.mask] := ⟨_, rfl⟩
          rw [← hU2] at HTB hts2
          have HRR : Hid (R = joinB ⟨#[32]⟩ [T, F, ⟨#[111, 102]⟩, P, ⟨#[98, 121]⟩, U1, ⟨#[97, 110, 100]⟩, U2]) := Lib.hid (by
            rw [HR.out]; unfold fcB; rw [if_neg HK5.out, if_pos HOK.out, if_neg K2.out, if_neg K3.out, if_pos (by rw [← HK.out]; exact k4n.out), HS.out, join8a, HU1.out, hU2])
          clear hU2
          refine (HTB.out).mono ?_
          rintro e w8 ⟨rfl, b8⟩
          have H11 := (HM.step b8).drop
          clear HM HTB b8 c0 c1 c2 c8 H10
          go_wp2_with (at_builtin; refine wpList_app rfl _ _ 81 rfl 9 i0 _ 1 16 Tryz.underlying81 hi hz0 hz1 hz2 rfl (by decide) _ _ _ rfl (H11.alloc _) _ _ _ [.string ⟨#[97, 110, 100]⟩, .string U2] rfl (Rd.fresh w8 _ #[.string ⟨#[97, 110, 100]⟩, .string U2] 1 2 rfl) ocs2 (by unfold maxLen; omega) (by omega) ?_; intro v9 w9 H12; clear H11)
          have HJJ := Lib.hid (HJ8.out _ _ _ ⟨#[98, 121]⟩ U1 U2 _ rfl (by decide) (by omega) (by omega) ⟨#[97, 110, 100]⟩ (by decide) H12)
          refine (HJJ.out).mono ?_
          rintro e w10 ⟨rfl, b10⟩
          have H13 := H12.step b10
          go_wp2
          go_ret
          exact ⟨by rw [HRR.out]; rfl, H13.below⟩
end Go.Proofs.YtjoglffhdoneoaaGreatDoor
