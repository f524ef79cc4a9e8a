
/-
  Masks put in the order of their least bits: the reference's walk.
-/
import Derived.Test.YtelneohlpljblaaGreatDoorRepX
import Derived.Test.YtelneohlpljblaaGreatDoorDivPX
namespace Go.Proofs.YtelneohlpljblaaGreatDoor
open Go.RowKit

set_option maxRecDepth 100000 in
theorem spec_lowI_c {d : Int} (w : World) (h : 0 < d ∧ d.toNat < 2 ^ 36) :
    Calls Tryz.prog 82 #[.int .i64 d] w fun e w' => e = .returned (.int .i64 (lowI d)) ∧ w = w' := by
  obtain ⟨m, rfl⟩ := Int.eq_ofNat_of_zero_le (Int.le_of_lt h.1)
  have h1 := h.1
  exact spec_low_c w (by omega) (by simpa using h.2)
def SrtPost (l : List Int) (w0 : World) (e : Ending) (w' : World) : Prop :=
  ∃ g n c, e = .returned (.slice (some ⟨g, 0, none⟩) n c) ∧ n = (srtL l).length ∧ Sep w0 w' [Res.row (.slice (some ⟨g, 0, none⟩) n c) 3 1 n (ic (srtL l))]
theorem SrtPost.mk {l : List Int} {w0 w' : World} {g n c : Nat} (hn : n = l.length) (hd : DifL l) (H : Sep w0 w' [Res.row (.slice (some ⟨g, 0, none⟩) n c) 3 1 n (ic (srtL (l.take n)))]) : SrtPost l w0 (.returned (.slice (some ⟨g, 0, none⟩) n c)) w' := by
  subst hn
  have h1 := srtL_len hd l.length
  rw [List.take_length] at H h1
  exact ⟨g, _, c, rfl, h1.symm, H⟩
set_option maxRecDepth 100000 in
set_option maxHeartbeats 4000000 in
theorem spec_srt_c {v : Value} {B : List Int} (w0 : World) (h : IntsRd w0 0 w0.heap.size v B) (hd : DifL B) (hp : ∀ a ∈ B, 0 < a ∧ a.toNat < 2 ^ 36) (hl : B.length ≤ 1000000) :
    Calls Tryz.prog 60 #[v] w0 (SrtPost B w0) := by
  obtain ⟨i0, hi, hz0, hz1, hz2⟩ := info_parts infoInt7
  obtain ⟨A, cl, rfl, hm, hrl⟩ := h
  obtain ⟨N, hN⟩ : ∃ N, N = B.length := ⟨_, rfl⟩
  rw [← hN] at hm hrl hl ⊢
  have HNN := Lib.hid hN
  have HD := Lib.hid hd
  have HPP := Lib.hid hp
  have HRL := Lib.hid hrl
  have H0 := (Sep.start w0).rowBox 3 #[] 1 0 rfl (by decide)
  obtain ⟨L, hL⟩ : ∃ L : List Res, L = [] := ⟨_, rfl⟩
  rw [← hL] at H0
  have HL := Lib.hid hL
  clear hd hp hrl hN hL
  go_enter Tryz.func60, Tryz.ntmps60
  go_wp2
  go_loopw [3, 4] (fun ov iv wx => ∃ i g c : Nat, i ≤ N ∧ iv = .int .i64 i ∧ ov = .slice (some ⟨g, 0, none⟩) i c ∧ Sep w0 wx (Res.row (.slice (some ⟨g, 0, none⟩) i c) 3 1 i (ic (srtL (B.take i))) :: L)) (fun _ iv _ => N - (intOf iv).toNat)
  case atStart => exact ⟨0, _, _, Nat.zero_le _, rfl, rfl, H0⟩
  case round =>
    clear H0
    obtain ⟨n, g, c, hnN, rfl, rfl, H⟩ := hrel
    by_cases hlt : n < N
    · have hlti : (n : Int) < (N : Int) := by omega
      obtain ⟨x, hx⟩ : ∃ x, B[n]? = some x := ⟨B[n]'(by rw [← HNN.out]; exact hlt), List.getElem?_eq_getElem _⟩
      obtain ⟨l, hl⟩ : ∃ l, l = srtL (B.take n) := ⟨_, rfl⟩
      rw [← hl] at H
      have htk : B.take (n + 1) = B.take n ++ [x] := by rw [List.take_add_one, hx]; rfl
      have hdt : DifL (B.take n) := HD.out.sublist (List.take_sublist _ _)
      have hdx : DifL (B.take n ++ [x]) := by rw [← htk]; exact HD.out.sublist (List.take_sublist _ _)
      have HN : Hid (n = l.length) := Lib.hid (by rw [hl, srtL_len HD.out, List.length_take]; have := HNN.out; omega)
      have HSO : Hid (SrtL l) := Lib.hid (by rw [hl]; exact srtL_srt _)
      have HMB : Hid (∀ d ∈ l, 0 < d ∧ d.toNat < 2 ^ 36) := Lib.hid fun d hd => HPP.out d (List.mem_of_mem_take ((mem_srtL hdt).1 (by rw [← hl]; exact hd)))
      have HDX : Hid (∀ d ∈ l, lowI d ≠ lowI x) := Lib.hid fun d hd => (List.pairwise_append.1 hdx).2.2 d ((mem_srtL hdt).1 (by rw [← hl]; exact hd)) x (by simp)
      have HINS : Hid (insL x l = srtL (B.take (n + 1))) := Lib.hid (by rw [htk, srtL_snoc, hl])
      obtain ⟨bl, ol, hA1, _, hb, hc⟩ := HRL.out.2 (by omega)
      subst hA1
      have HBL := Lib.hid hb
      have HXL : Hid (w0.cell? ⟨bl, ol + n, none⟩ = some (.int .i64 x)) := Lib.hid (hc n (.int .i64 x) (by simp [ic, hx]))
      have HXP := Lib.hid (HPP.out x (List.mem_of_getElem? hx))
      obtain ⟨lx, hlx⟩ : ∃ lx, lx = lowI x := ⟨_, rfl⟩
      have HCX : Hid (∀ W, Calls Tryz.prog 82 #[.int .i64 x] W fun e w' => e = .returned (.int .i64 lx) ∧ W = w') := Lib.hid fun W => by rw [hlx]; exact spec_lowI_c W HXP.out
      have HLX := Lib.hid hlx
      clear hx hl htk hdt hdx hb hc hlx
      go_wp2
      go_loopw [5] (fun kv wx => ∃ k : Nat, k ≤ n ∧ kv = .int .i64 k ∧ Hid (∀ d ∈ l.drop k, lowI x < lowI d) ∧ Sep w0 wx (Res.row (.slice (some ⟨g, 0, none⟩) n c) 3 1 n (ic l) :: L)) (fun kv _ => (intOf kv).toNat)
      case atStart => exact ⟨n, Nat.le_refl _, rfl, Lib.hid (by rw [List.drop_of_length_le (by rw [← HN.out]; exact Nat.le_refl _)]; intro d hd; simp at hd), H⟩
      case round =>
        clear H
        obtain ⟨k, hkn, rfl, HK, H⟩ := hrel
        have hnc : n ≤ c ∧ c ≤ maxLen := by obtain ⟨_, cs, _, h1, h2, _⟩ := own_blk H.h0; exact ⟨h1, h2⟩
        obtain ⟨hnc, hcm⟩ := hnc
        have y1 := (H.below.cell (p := ⟨bl, ol + n, none⟩) HBL.out).trans HXL.out
        have l1 := Later.cell y1 (Nat.lt_of_lt_of_le HBL.out H.size)
        by_cases hk0 : 0 < k
        · have hdk : decide ((0 : Int) < (k : Int)) = true := by simp; omega
          obtain ⟨p, hp⟩ : ∃ p, p = k - 1 := ⟨_, rfl⟩
          have HP : Hid (p = k - 1) := Lib.hid hp
          have e1 : (k : Int) - 1 = (p : Int) := by omega
          have e2 : IntKind.i64.wrap ((k : Int) - 1) = (p : Int) := by rw [e1]; exact IntWalk.i64_in _ (by omega)
          have e3 : (p : Int) < (n : Int) := by omega
          have e4 : p < n := by omega
          obtain ⟨d, hd⟩ : ∃ d, l[p]? = some d := ⟨l[p]'(by rw [← HN.out]; exact e4), List.getElem?_eq_getElem _⟩
          have x1 := own_cell1 H.h0 hd
          rw [Nat.zero_add] at x1
          have l0 := Later.cell x1 (by obtain ⟨_, cs, hB, _⟩ := own_blk H.h0; exact Blk.lt hB)
          have HDD := Lib.hid hd
          obtain ⟨ld, hld⟩ : ∃ ld, ld = lowI d := ⟨_, rfl⟩
          have HLD := Lib.hid hld
          have HCD : Hid (∀ W, Calls Tryz.prog 82 #[.int .i64 d] W fun e w' => e = .returned (.int .i64 ld) ∧ W = w') := Lib.hid fun W => by rw [hld]; exact spec_lowI_c W (HMB.out d (List.mem_of_getElem? hd))
          have HDR : Hid (l.drop p = d :: l.drop k) := Lib.hid (by
            have h1 : l.drop p = l[p]'(by rw [← HN.out]; exact e4) :: l.drop (p + 1) := List.drop_eq_getElem_cons _
            rw [h1, show p + 1 = k by omega]
            congr 1
            have := List.getElem?_eq_getElem (l := l) (i := p) (by rw [← HN.out]; exact e4)
            rw [hd] at this
            injection this with this
            exact this.symm)
          clear hp hd hld
          by_cases hxd : lx < ld
          · have hdq : decide ((lx : Int) < (ld : Int)) = true := decide_eq_true (by omega)
            have HK2 : Hid (∀ d ∈ l.drop p, lowI x < lowI d) := Lib.hid (by
              intro d' hd'
              rw [HDR.out] at hd'
              rcases List.mem_cons.1 hd' with rfl | hd'
              · rw [← HLX.out, ← HLD.out]; exact hxd
              · exact HK.out d' hd')
            go_wp2_with fail
            refine wp_region_later (by kernel_rfl) (by kernel_rfl) ?_
            repeat (go_big_quiet_step (first | (go_at_call 82; with_reducible exact Later.same (HCX.out _)) | (go_at_call 82; with_reducible exact Later.same (HCD.out _))))
            refine wpQuiet_nil ?_
            intro w3 hw3
            obtain ⟨u3, hu3⟩ := hw3
            subst hu3
            have H3 := H.later u3
            clear l0 x1 l1 H y1
            generalize u3.w = w3 at *
            go_wp2
            go_roundw
            case rel => exact ⟨p, by omega, by go_num, HK2, H3⟩
            case measure => simp [intOf]; omega
          · have hdq : decide ((lx : Int) < (ld : Int)) = false := decide_eq_false (by omega)
            have HI : Hid (ic (insL x l) = (ic l).take k ++ .int .i64 x :: (ic l).drop k) := Lib.hid (by
              rw [insL_put (k := k) ?_ HK.out]
              · simp [ic, List.map_take, List.map_drop]
              · have hlt2 : lowI d < lowI x := by
                  have h1 := HDX.out d (List.mem_of_getElem? HDD.out)
                  rw [HLX.out, HLD.out] at hxd
                  omega
                have hs : SrtL (l.take p ++ l.drop p) := by rw [List.take_append_drop]; exact HSO.out
                intro d' hd'
                have hk1 : l.take k = l.take p ++ [d] := by
                  rw [show k = p + 1 by omega, List.take_add_one, HDD.out]; rfl
                rw [hk1] at hd'
                rcases List.mem_append.1 hd' with hd' | hd'
                · have h2 := (List.pairwise_append.1 hs).2.2 d' hd' d (by rw [HDR.out]; exact List.mem_cons_self)
                  exact Nat.lt_trans h2 hlt2
                · rw [List.mem_singleton.1 hd']; exact hlt2)
            go_wp2_with fail
            refine wp_region_later (by kernel_rfl) (by kernel_rfl) ?_
            repeat (go_big_quiet_step (first | (go_at_call 82; with_reducible exact Later.same (HCX.out _)) | (go_at_call 82; with_reducible exact Later.same (HCD.out _))))
            refine wpQuiet_nil ?_
            intro w3 hw3
            obtain ⟨u3, hu3⟩ := hw3
            subst hu3
            have H3 := H.later u3
            clear l0 x1 l1 H y1
            generalize u3.w = w3 at *
            have H := H3
            clear H3 e1 e2 e3 e4 hdk hdq
            go_wp2_with fail
            have t1 : (0 : Int) ≤ (k : Int) := by omega
            have t2 : (k : Int) ≤ (c : Int) := by omega
            have t3 : (k : Int) ≤ (n : Int) := by omega
            have t4 : (n : Int) ≤ (c : Int) := by omega
            have HONE1 : Hid (∀ u ∈ (ic l).take k, u.oneCell' = true) := Lib.hid fun u hu => ic_one u (List.mem_of_mem_take hu)
            have HONE2 : Hid (∀ u ∈ (ic l).drop k, u.oneCell' = true) := Lib.hid fun u hu => ic_one u (List.mem_of_mem_drop hu)
            have HA := (H.rowBox 3 #[] 1 0 rfl (by decide)).drew
            have HB := ((H.rowBox 3 #[] 1 0 rfl (by decide)).rowBox 3 #[.int .i64 x] 1 1 rfl (by decide)).g1.drew
            have HC1 := ((H.rowBox 3 #[.int .i64 x] 1 1 rfl (by decide)).rowBox 3 #[] 1 0 rfl (by decide)).drew
            have HT1 := own_take (k := k) HA.h1 hkn
            have HT2 := own_take (k := k) HB.h2 hkn
            have HT3 := own_take (k := k) HC1.h2 hkn
            rw [Nat.mul_one] at HT1 HT2 HT3
            have hvl : (ic l).length = n := by rw [ic_length]; exact HN.out.symm
            simp only [World.size_alloc] at HB HC1
            have z1 := (HA.below.cell (p := ⟨bl, ol + n, none⟩) HBL.out).trans HXL.out
            have z2 := (H.drew.below.cell (p := ⟨bl, ol + n, none⟩) HBL.out).trans HXL.out
            by_cases hkc : c = k
            ·
              have hnk : n - k = 0 := by omega
              have HDN : Hid ((ic l).drop k = []) := Lib.hid (List.drop_of_length_le (by omega))
              go_wp2_with fail
              go_region_law (first
                | (refine step_app rfl (.tmp 33) (.tmp 36) 23 (by rfl) 3 i0 _ 1 8 Tryz.underlying23 hi hz0 hz1 hz2 rfl (by decide) _ _ _ (by rfl) HA _ _ _ ((ic l).take k) (by rfl) HT1 HONE1.out (by unfold maxLen; omega) (by omega) ?_; intro v5 w5 H5; have z5 := (H5.below.cell (p := ⟨bl, ol + n, none⟩) HBL.out).trans HXL.out)
                | (refine step_app rfl (.tmp 33) (.tmp 36) 23 (by rfl) 3 i0 _ 1 8 Tryz.underlying23 hi hz0 hz1 hz2 rfl (by decide) _ _ _ (by rfl) HB _ _ _ ((ic l).take k) (by rfl) HT2 HONE1.out (by unfold maxLen; omega) (by omega) ?_; intro v5 w5 H5; have z5 := (H5.below.cell (p := ⟨bl, ol + n, none⟩) HBL.out).trans HXL.out)
                | (refine step_app rfl (.tmp 33) (.tmp 36) 23 (by rfl) 3 i0 _ 1 8 Tryz.underlying23 hi hz0 hz1 hz2 rfl (by decide) _ _ _ (by rfl) HC1 _ _ _ ((ic l).take k) (by rfl) HT3 HONE1.out (by unfold maxLen; omega) (by omega) ?_; intro v5 w5 H5; have z5 := (H5.below.cell (p := ⟨bl, ol + n, none⟩) HBL.out).trans HXL.out)
                | (refine step_app rfl (.tmp 37) (.tmp 42) 23 (by rfl) 3 i0 _ 1 8 Tryz.underlying23 hi hz0 hz1 hz2 rfl (by decide) _ _ _ (by rfl) (H5.alloc _) _ _ _ [.int .i64 x] (by rfl) (Rd.fresh w5 _ #[.int .i64 x] 1 1 rfl) oc1 (by unfold maxLen; omega) (by omega) ?_; intro v6 w6 H6)
                | (refine step_app rfl (.tmp 37) (.tmp 42) 23 (by rfl) 3 i0 _ 1 8 Tryz.underlying23 hi hz0 hz1 hz2 rfl (by decide) _ _ _ (by rfl) H5 _ _ _ [.int .i64 x] (by rfl) (own_take (k := 1) H5.h1 (Nat.le_refl _)) oc1 (by unfold maxLen; omega) (by omega) ?_; intro v6 w6 H6)
                | (refine step_app rfl (.tmp 43) (.tmp 46) 23 (by rfl) 3 i0 _ 1 8 Tryz.underlying23 hi hz0 hz1 hz2 rfl (by decide) _ _ _ (by rfl) H6 (lo := 0) (hi' := w6.heap.size) _ 0 _ [] (by rfl) ⟨rfl, fun h => absurd h (Nat.lt_irrefl 0)⟩ (by intro u hu; simp at hu) (by unfold maxLen; omega) (by omega) ?_; intro v7 w7 H7))
              all_goals
                have H8 : Sep w0 w7 (Res.row v7 3 1 (n + 1) ((ic l).take k ++ .int .i64 x :: (ic l).drop k) :: L) := by
                  replace H7 := by first | exact H7.drop2.drop2 | exact H7.drop2
                  first
                    | rw [show 0 + k + 1 + (n - k) = n + 1 by omega] at H7
                    | rw [show 0 + k + 1 + 0 = n + 1 by omega] at H7
                  rw [HDN.out]; have := H7; simp only [List.nil_append, List.append_nil] at this; exact this
                clear H5 H6 H7 HA HT1 HB HT2 HC1 HT3
                (rw [← HI.out, HINS.out] at H8; clear H; obtain ⟨g8, o8, c8, rfl, _, _, _⟩ := own_shape H8.h0 (Nat.succ_pos _); obtain ⟨rfl, _⟩ := own_blk H8.h0; go_wp2; go_roundw; (case rel => exact ⟨n + 1, g8, c8, by omega, by go_num, rfl, H8⟩); (case measure => simp [intOf]; omega))
            ·
              go_wp2_with fail
              go_region_law (first
                | (refine step_app rfl (.tmp 33) (.tmp 36) 23 (by rfl) 3 i0 _ 1 8 Tryz.underlying23 hi hz0 hz1 hz2 rfl (by decide) _ _ _ (by rfl) HA _ _ _ ((ic l).take k) (by rfl) HT1 HONE1.out (by unfold maxLen; omega) (by omega) ?_; intro v5 w5 H5; have z5 := (H5.below.cell (p := ⟨bl, ol + n, none⟩) HBL.out).trans HXL.out)
                | (refine step_app rfl (.tmp 33) (.tmp 36) 23 (by rfl) 3 i0 _ 1 8 Tryz.underlying23 hi hz0 hz1 hz2 rfl (by decide) _ _ _ (by rfl) HB _ _ _ ((ic l).take k) (by rfl) HT2 HONE1.out (by unfold maxLen; omega) (by omega) ?_; intro v5 w5 H5; have z5 := (H5.below.cell (p := ⟨bl, ol + n, none⟩) HBL.out).trans HXL.out)
                | (refine step_app rfl (.tmp 33) (.tmp 36) 23 (by rfl) 3 i0 _ 1 8 Tryz.underlying23 hi hz0 hz1 hz2 rfl (by decide) _ _ _ (by rfl) HC1 _ _ _ ((ic l).take k) (by rfl) HT3 HONE1.out (by unfold maxLen; omega) (by omega) ?_; intro v5 w5 H5; have z5 := (H5.below.cell (p := ⟨bl, ol + n, none⟩) HBL.out).trans HXL.out)
                | (refine step_app rfl (.tmp 37) (.tmp 42) 23 (by rfl) 3 i0 _ 1 8 Tryz.underlying23 hi hz0 hz1 hz2 rfl (by decide) _ _ _ (by rfl) (H5.alloc _) _ _ _ [.int .i64 x] (by rfl) (Rd.fresh w5 _ #[.int .i64 x] 1 1 rfl) oc1 (by unfold maxLen; omega) (by omega) ?_; intro v6 w6 H6)
                | (refine step_app rfl (.tmp 37) (.tmp 42) 23 (by rfl) 3 i0 _ 1 8 Tryz.underlying23 hi hz0 hz1 hz2 rfl (by decide) _ _ _ (by rfl) H5 _ _ _ [.int .i64 x] (by rfl) (own_take (k := 1) H5.h1 (Nat.le_refl _)) oc1 (by unfold maxLen; omega) (by omega) ?_; intro v6 w6 H6)
                | (refine step_app rfl (.tmp 43) (.tmp 46) 23 (by rfl) 3 i0 _ 1 8 Tryz.underlying23 hi hz0 hz1 hz2 rfl (by decide) _ _ _ (by rfl) H6 (lo := 0) (hi' := w6.heap.size) _ (n - k) _ ((ic l).drop k) (by rfl) (by have := Rd.drop (k := k) (own_take (k := n) (by first | exact H6.h1 | exact H6.h2) (Nat.le_refl _)); rw [Nat.mul_one, Nat.mul_one, List.take_of_length_le (by omega), Nat.zero_add] at this; exact this) HONE2.out (by unfold maxLen; omega) (by omega) ?_; intro v7 w7 H7))
              all_goals
                have H8 : Sep w0 w7 (Res.row v7 3 1 (n + 1) ((ic l).take k ++ .int .i64 x :: (ic l).drop k) :: L) := by
                  replace H7 := by first | exact H7.drop2.drop2 | exact H7.drop2
                  first
                    | rw [show 0 + k + 1 + (n - k) = n + 1 by omega] at H7
                    | rw [show 0 + k + 1 + 0 = n + 1 by omega] at H7
                  have := H7; simp only [List.nil_append, List.append_assoc, List.cons_append] at this; exact this
                clear H5 H6 H7 HA HT1 HB HT2 HC1 HT3
                (rw [← HI.out, HINS.out] at H8; clear H; obtain ⟨g8, o8, c8, rfl, _, _, _⟩ := own_shape H8.h0 (Nat.succ_pos _); obtain ⟨rfl, _⟩ := own_blk H8.h0; go_wp2; go_roundw; (case rel => exact ⟨n + 1, g8, c8, by omega, by go_num, rfl, H8⟩); (case measure => simp [intOf]; omega))
        · have hdk : decide ((0 : Int) < (k : Int)) = false := by simp; omega
          have HI : Hid (ic (insL x l) = (ic l).take k ++ .int .i64 x :: (ic l).drop k) := Lib.hid (by
            rw [insL_put (k := k) (by rw [show k = 0 by omega]; intro d hd; simp at hd) HK.out]
            simp [ic, List.map_take, List.map_drop])
          go_wp2_with fail
          refine wp_region_later (by kernel_rfl) (by kernel_rfl) ?_
          repeat (go_big_quiet_step (first | (go_at_call 82; with_reducible exact Later.same (HCX.out _)) | (go_at_call 82; with_reducible exact Later.same (HCD.out _))))
          refine wpQuiet_nil ?_
          intro w3 hw3
          obtain ⟨u3, hu3⟩ := hw3
          subst hu3
          have H3 := H.later u3
          clear  l1 H y1
          generalize u3.w = w3 at *
          have H := H3
          clear H3 hdk
          go_wp2_with fail
          have t1 : (0 : Int) ≤ (k : Int) := by omega
          have t2 : (k : Int) ≤ (c : Int) := by omega
          have t3 : (k : Int) ≤ (n : Int) := by omega
          have t4 : (n : Int) ≤ (c : Int) := by omega
          have HONE1 : Hid (∀ u ∈ (ic l).take k, u.oneCell' = true) := Lib.hid fun u hu => ic_one u (List.mem_of_mem_take hu)
          have HONE2 : Hid (∀ u ∈ (ic l).drop k, u.oneCell' = true) := Lib.hid fun u hu => ic_one u (List.mem_of_mem_drop hu)
          have HA := (H.rowBox 3 #[] 1 0 rfl (by decide)).drew
          have HB := ((H.rowBox 3 #[] 1 0 rfl (by decide)).rowBox 3 #[.int .i64 x] 1 1 rfl (by decide)).g1.drew
          have HC1 := ((H.rowBox 3 #[.int .i64 x] 1 1 rfl (by decide)).rowBox 3 #[] 1 0 rfl (by decide)).drew
          have HT1 := own_take (k := k) HA.h1 hkn
          have HT2 := own_take (k := k) HB.h2 hkn
          have HT3 := own_take (k := k) HC1.h2 hkn
          rw [Nat.mul_one] at HT1 HT2 HT3
          have hvl : (ic l).length = n := by rw [ic_length]; exact HN.out.symm
          simp only [World.size_alloc] at HB HC1
          have z1 := (HA.below.cell (p := ⟨bl, ol + n, none⟩) HBL.out).trans HXL.out
          have z2 := (H.drew.below.cell (p := ⟨bl, ol + n, none⟩) HBL.out).trans HXL.out
          by_cases hkc : c = k
          ·
            have hnk : n - k = 0 := by omega
            have HDN : Hid ((ic l).drop k = []) := Lib.hid (List.drop_of_length_le (by omega))
            go_wp2_with fail
            go_region_law (first
              | (refine step_app rfl (.tmp 33) (.tmp 36) 23 (by rfl) 3 i0 _ 1 8 Tryz.underlying23 hi hz0 hz1 hz2 rfl (by decide) _ _ _ (by rfl) HA _ _ _ ((ic l).take k) (by rfl) HT1 HONE1.out (by unfold maxLen; omega) (by omega) ?_; intro v5 w5 H5; have z5 := (H5.below.cell (p := ⟨bl, ol + n, none⟩) HBL.out).trans HXL.out)
              | (refine step_app rfl (.tmp 33) (.tmp 36) 23 (by rfl) 3 i0 _ 1 8 Tryz.underlying23 hi hz0 hz1 hz2 rfl (by decide) _ _ _ (by rfl) HB _ _ _ ((ic l).take k) (by rfl) HT2 HONE1.out (by unfold maxLen; omega) (by omega) ?_; intro v5 w5 H5; have z5 := (H5.below.cell (p := ⟨bl, ol + n, none⟩) HBL.out).trans HXL.out)
              | (refine step_app rfl (.tmp 33) (.tmp 36) 23 (by rfl) 3 i0 _ 1 8 Tryz.underlying23 hi hz0 hz1 hz2 rfl (by decide) _ _ _ (by rfl) HC1 _ _ _ ((ic l).take k) (by rfl) HT3 HONE1.out (by unfold maxLen; omega) (by omega) ?_; intro v5 w5 H5; have z5 := (H5.below.cell (p := ⟨bl, ol + n, none⟩) HBL.out).trans HXL.out)
              | (refine step_app rfl (.tmp 37) (.tmp 42) 23 (by rfl) 3 i0 _ 1 8 Tryz.underlying23 hi hz0 hz1 hz2 rfl (by decide) _ _ _ (by rfl) (H5.alloc _) _ _ _ [.int .i64 x] (by rfl) (Rd.fresh w5 _ #[.int .i64 x] 1 1 rfl) oc1 (by unfold maxLen; omega) (by omega) ?_; intro v6 w6 H6)
              | (refine step_app rfl (.tmp 37) (.tmp 42) 23 (by rfl) 3 i0 _ 1 8 Tryz.underlying23 hi hz0 hz1 hz2 rfl (by decide) _ _ _ (by rfl) H5 _ _ _ [.int .i64 x] (by rfl) (own_take (k := 1) H5.h1 (Nat.le_refl _)) oc1 (by unfold maxLen; omega) (by omega) ?_; intro v6 w6 H6)
              | (refine step_app rfl (.tmp 43) (.tmp 46) 23 (by rfl) 3 i0 _ 1 8 Tryz.underlying23 hi hz0 hz1 hz2 rfl (by decide) _ _ _ (by rfl) H6 (lo := 0) (hi' := w6.heap.size) _ 0 _ [] (by rfl) ⟨rfl, fun h => absurd h (Nat.lt_irrefl 0)⟩ (by intro u hu; simp at hu) (by unfold maxLen; omega) (by omega) ?_; intro v7 w7 H7))
            all_goals
              have H8 : Sep w0 w7 (Res.row v7 3 1 (n + 1) ((ic l).take k ++ .int .i64 x :: (ic l).drop k) :: L) := by
                replace H7 := by first | exact H7.drop2.drop2 | exact H7.drop2
                first
                  | rw [show 0 + k + 1 + (n - k) = n + 1 by omega] at H7
                  | rw [show 0 + k + 1 + 0 = n + 1 by omega] at H7
                rw [HDN.out]; have := H7; simp only [List.nil_append, List.append_nil] at this; exact this
              clear H5 H6 H7 HA HT1 HB HT2 HC1 HT3
              (rw [← HI.out, HINS.out] at H8; clear H; obtain ⟨g8, o8, c8, rfl, _, _, _⟩ := own_shape H8.h0 (Nat.succ_pos _); obtain ⟨rfl, _⟩ := own_blk H8.h0; go_wp2; go_roundw; (case rel => exact ⟨n + 1, g8, c8, by omega, by go_num, rfl, H8⟩); (case measure => simp [intOf]; omega))
          ·
            go_wp2_with fail
            go_region_law (first
              | (refine step_app rfl (.tmp 33) (.tmp 36) 23 (by rfl) 3 i0 _ 1 8 Tryz.underlying23 hi hz0 hz1 hz2 rfl (by decide) _ _ _ (by rfl) HA _ _ _ ((ic l).take k) (by rfl) HT1 HONE1.out (by unfold maxLen; omega) (by omega) ?_; intro v5 w5 H5; have z5 := (H5.below.cell (p := ⟨bl, ol + n, none⟩) HBL.out).trans HXL.out)
              | (refine step_app rfl (.tmp 33) (.tmp 36) 23 (by rfl) 3 i0 _ 1 8 Tryz.underlying23 hi hz0 hz1 hz2 rfl (by decide) _ _ _ (by rfl) HB _ _ _ ((ic l).take k) (by rfl) HT2 HONE1.out (by unfold maxLen; omega) (by omega) ?_; intro v5 w5 H5; have z5 := (H5.below.cell (p := ⟨bl, ol + n, none⟩) HBL.out).trans HXL.out)
              | (refine step_app rfl (.tmp 33) (.tmp 36) 23 (by rfl) 3 i0 _ 1 8 Tryz.underlying23 hi hz0 hz1 hz2 rfl (by decide) _ _ _ (by rfl) HC1 _ _ _ ((ic l).take k) (by rfl) HT3 HONE1.out (by unfold maxLen; omega) (by omega) ?_; intro v5 w5 H5; have z5 := (H5.below.cell (p := ⟨bl, ol + n, none⟩) HBL.out).trans HXL.out)
              | (refine step_app rfl (.tmp 37) (.tmp 42) 23 (by rfl) 3 i0 _ 1 8 Tryz.underlying23 hi hz0 hz1 hz2 rfl (by decide) _ _ _ (by rfl) (H5.alloc _) _ _ _ [.int .i64 x] (by rfl) (Rd.fresh w5 _ #[.int .i64 x] 1 1 rfl) oc1 (by unfold maxLen; omega) (by omega) ?_; intro v6 w6 H6)
              | (refine step_app rfl (.tmp 37) (.tmp 42) 23 (by rfl) 3 i0 _ 1 8 Tryz.underlying23 hi hz0 hz1 hz2 rfl (by decide) _ _ _ (by rfl) H5 _ _ _ [.int .i64 x] (by rfl) (own_take (k := 1) H5.h1 (Nat.le_refl _)) oc1 (by unfold maxLen; omega) (by omega) ?_; intro v6 w6 H6)
              | (refine step_app rfl (.tmp 43) (.tmp 46) 23 (by rfl) 3 i0 _ 1 8 Tryz.underlying23 hi hz0 hz1 hz2 rfl (by decide) _ _ _ (by rfl) H6 (lo := 0) (hi' := w6.heap.size) _ (n - k) _ ((ic l).drop k) (by rfl) (by have := Rd.drop (k := k) (own_take (k := n) (by first | exact H6.h1 | exact H6.h2) (Nat.le_refl _)); rw [Nat.mul_one, Nat.mul_one, List.take_of_length_le (by omega), Nat.zero_add] at this; exact this) HONE2.out (by unfold maxLen; omega) (by omega) ?_; intro v7 w7 H7))
            all_goals
              have H8 : Sep w0 w7 (Res.row v7 3 1 (n + 1) ((ic l).take k ++ .int .i64 x :: (ic l).drop k) :: L) := by
                replace H7 := by first | exact H7.drop2.drop2 | exact H7.drop2
                first
                  | rw [show 0 + k + 1 + (n - k) = n + 1 by omega] at H7
                  | rw [show 0 + k + 1 + 0 = n + 1 by omega] at H7
                have := H7; simp only [List.nil_append, List.append_assoc, List.cons_append] at this; exact this
              clear H5 H6 H7 HA HT1 HB HT2 HC1 HT3
              (rw [← HI.out, HINS.out] at H8; clear H; obtain ⟨g8, o8, c8, rfl, _, _, _⟩ := own_shape H8.h0 (Nat.succ_pos _); obtain ⟨rfl, _⟩ := own_blk H8.h0; go_wp2; go_roundw; (case rel => exact ⟨n + 1, g8, c8, by omega, by go_num, rfl, H8⟩); (case measure => simp [intOf]; omega))
    · obtain rfl : n = N := by omega
      go_wp2
      go_ret
      exact SrtPost.mk HNN.out HD.out (HL.out ▸ H)
end Go.Proofs.YtelneohlpljblaaGreatDoor
