
/-
  Shapes turned: the reference's walk. The order of shapes, on both sides. A shape put into an ordered list, once: the reference's walk.
-/
import Derived.Test.YtjkppigjajknaaaGreatDoorMotC
import Derived.Test.YtjkppigjajknaaaGreatDoorPairR
namespace Go.Proofs.YtjkppigjajknaaaGreatDoor
open Go.RowKit

/-- a shape carried by a motion, in its corner -/
def turnS (m : Nat) (s : List Cell) : List Cell := corner (sortC (s.map (carryC m)))
theorem turn_sml {m : Nat} {s : List Cell} {b : Int} (h : ∀ c ∈ s, Sml b c) : ∀ c ∈ sortC (s.map (carryC m)), Sml b c := fun c hc => by
  rw [mem_sortC] at hc
  obtain ⟨d, hd, rfl⟩ := List.mem_map.1 hc
  exact carryC_sml (h d hd)
theorem sortC_pos {s : List Cell} (h : 1 ≤ s.length) : 1 ≤ (sortC s).length := by
  obtain ⟨c, hc⟩ := List.exists_mem_of_ne_nil s (by intro e; rw [e] at h; simp at h)
  exact List.length_pos_of_mem (mem_sortC.2 hc)
theorem map_take_c {m k : Nat} {s : List Cell} {d : Cell} (h : s[k]? = some d) : cc ((s.take k).map (carryC m)) ++ [Value.int .i64 (carryC m d).x, .int .i64 (carryC m d).y] = cc ((s.take (k + 1)).map (carryC m)) := by
  rw [List.take_add_one, h, List.map_append, cc_append]; rfl
set_option maxRecDepth 100000 in
set_option maxHeartbeats 1600000 in
theorem spec_turn_c {v : Value} {s : List Cell} (m : Nat) (w : World) (h : CellsRd w 0 w.heap.size v s) (hm : m < 8) (h1 : 1 ≤ s.length) (h8 : s.length ≤ 64) (hs : ∀ c ∈ s, Sml 100 c) :
    Calls Tryz.prog 194 #[v, .int .i64 m] w fun e w' => ∃ v', e = .returned v' ∧ CellsIn w' w.heap.size w'.heap.size v' (turnS m s) ∧ Below w.heap.size w w' := by
  obtain ⟨i0, hi, hz0, hz1, hz2⟩ := info_parts infoCellS
  obtain ⟨A, c, rfl, hm', hr⟩ := h
  have H0 := (Sep.start w).rowBox 49 #[] 2 0 rfl (by decide)
  have HR := Lib.hid hr
  have HS := Lib.hid hs
  clear hr hs
  go_enter Tryz.func194, Tryz.ntmps194
  go_wp2
  go_loopw [5, 6] (fun ov iv wx => ∃ i : Nat, i ≤ s.length ∧ iv = .int .i64 i ∧ Sep w wx [Res.row ov 49 2 i (cc ((s.take i).map (carryC m)))]) (fun _ iv _ => s.length - (intOf iv).toNat)
  case atStart => exact ⟨0, Nat.zero_le _, rfl, H0⟩
  case round =>
    clear H0
    obtain ⟨i, his, rfl, H⟩ := hrel
    by_cases hlt : i < s.length
    · obtain ⟨b, off, d, rfl, _, hb, hla, q1, q2⟩ := (HR.out.below H.below (Nat.le_refl _)).at2 hlt
      have HC := Lib.hid (spec_apply_c d m wr hm (HS.out d (List.mem_of_getElem? hla)))
      have HT := Lib.hid (map_take_c (m := m) hla)
      clear hla
      go_wp2_with fail
      refine (HC.out).mono ?_
      rintro e w1 ⟨rfl, b1⟩
      have H1 := H.step b1
      clear H HC b1 q1 q2
      go_wp2_with (at_builtin; refine wpList_app rfl _ _ 25 rfl 49 i0 _ 2 16 Tryz.underlying25 hi hz0 hz1 hz2 rfl (by decide) _ _ _ rfl (H1.alloc _) _ _ _ [.int .i64 (carryC m d).x, .int .i64 (carryC m d).y] rfl (Rd.fresh w1 _ #[.int .i64 (carryC m d).x, .int .i64 (carryC m d).y] 2 1 rfl) oc2 (by unfold maxLen; omega) (by omega) ?_; intro v2 w2 H2; clear H1)
      rw [HT.out] at H2
      go_roundw
      case rel => exact ⟨i + 1, by omega, by go_num, H2⟩
      case measure => simp [intOf]; omega
    · obtain rfl : i = s.length := by omega
      rw [List.take_length] at H
      have HLn : Hid ((s.map (carryC m)).length = s.length) := Lib.hid (by simp)
      have hrd : CellsRd wr 0 wr.heap.size u5 (s.map (carryC m)) := by
        have := H.oi.sr.more (Nat.zero_le _) (Nat.le_refl _)
        rw [← HLn.out] at this
        exact this
      have HSC := Lib.hid (spec_sort_c wr hrd (by rw [HLn.out]; exact h8))
      obtain ⟨A5, c5, rfl, _, _, _⟩ := Res.row_at H.h0
      have hbel := H.below
      clear H hrd
      go_wp2_with fail
      refine (HSC.out).mono ?_
      rintro e w1 ⟨v1, rfl, o1, b1⟩
      have hb1 := hbel.trans (b1.mono hbel.size)
      have HCO := Lib.hid (l2CornerB_c w1 (o1.rd.more (Nat.zero_le _) (Nat.le_refl _)) (sortC_pos (by rw [HLn.out]; exact h1)) (Nat.le_trans sortC_len (by rw [HLn.out]; exact h8)) (turn_sml HS.out))
      obtain ⟨A1, c1, rfl, _, _⟩ := o1.rd
      clear hbel b1 o1 HSC
      go_wp2_with fail
      refine (HCO.out).mono ?_
      rintro e w2 ⟨v2, rfl, o2, b2⟩
      have hb2 := hb1.trans (b2.mono hb1.size)
      have HO : CellsIn w2 w.heap.size w2.heap.size v2 (turnS m s) := OI.base o2 hb1.size (Nat.le_refl _)
      go_wp2
      go_ret
      exact ⟨_, rfl, HO, hb2⟩
end Go.Proofs.YtjkppigjajknaaaGreatDoor

namespace Go.Proofs.YtjkppigjajknaaaGreatDoor
open Go.RowKit

set_option maxRecDepth 100000 in
theorem infoCellsP : (Tryz.prog.info? 25).map (fun i => (i.zero, i.size, i.bytes)) = some (some (.slice none 0 0), 1, 24) := by kernel_rfl
structure PutAt (s : List Cell) (M : List (List Cell)) (k : Nat) : Prop where
  le : k ≤ M.length
  hi : ∀ (j : Nat) (r : List Cell), k ≤ j → M[j]? = some r → cmpS s r < 0
  lo : ∀ r : List Cell, 0 < k → M[k - 1]? = some r → ¬ cmpS s r < 0
def PutPost (vs : List Value) (M : List (List Cell)) (v u : Value) (s : List Cell) (w : World) (e : Ending) (w' : World) : Prop :=
  ∃ v', e = .returned v' ∧ Below w.heap.size w w' ∧ ∃ k, PutAt s M k ∧ ((0 < k ∧ M[k - 1]? = some s ∧ v' = v) ∨ (¬ (0 < k ∧ M[k - 1]? = some s) ∧ OI w' w.heap.size w'.heap.size 25 1 v' (M.length + 1) (vs.take k ++ u :: vs.drop k)))
theorem slots_one {w : World} {lo hi : Nat} {vs : List Value} {l : List (List Cell)} (h : SlotsRd w lo hi vs l) : ∀ u ∈ vs, u.oneCell' = true := by
  intro u hu
  obtain ⟨i, hi⟩ := List.getElem?_of_mem hu
  have hl : i < l.length := by have := (List.getElem?_eq_some_iff.1 hi).1; rw [h.1] at this; exact this
  obtain ⟨x, hx, A, c, rfl, _⟩ := h.2 i l[i] (List.getElem?_eq_getElem hl)
  rw [hx] at hi
  injection hi with hi
  subst hi
  rfl
theorem ocv2 {v : Value} (h : v.oneCell' = true) : ∀ u ∈ [v], u.oneCell' = true := by intro u hu; simp at hu; subst hu; exact h
set_option maxRecDepth 100000 in
set_option maxHeartbeats 3200000 in
theorem spec_put_c {g o c n cs : Nat} {As : Option Addr} {vs : List Value} {M : List (List Cell)} {s : List Cell} (w : World) (hr : Rd w 0 w.heap.size 1 (some ⟨g, o, none⟩) n vs) (hsl : SlotsRd w 0 w.heap.size vs M) (hn : n = M.length) (hnc : n ≤ c) (hn8 : n ≤ 900000)
    (hs : CellsRd w 0 w.heap.size (.slice As s.length cs) s) (hs8 : s.length ≤ 64) (hM : ∀ r ∈ M, r.length ≤ 64) :
    Calls Tryz.prog 193 #[.slice (some ⟨g, o, none⟩) n c, .slice As s.length cs] w (PutPost vs M (.slice (some ⟨g, o, none⟩) n c) (.slice As s.length cs) s w) := by
  obtain ⟨i0, hi, hz0, hz1, hz2⟩ := info_parts infoCellsP
  have HR := Lib.hid hr
  have HSL := Lib.hid hsl
  have HN := Lib.hid hn
  have HS := Lib.hid hs
  have HM := Lib.hid hM
  clear hr hsl hn hs hM
  go_enter Tryz.func193, Tryz.ntmps193
  go_wp2
  go_loopw [5] (fun kv wx => ∃ k : Nat, k ≤ n ∧ kv = .int .i64 k ∧ Hid (∀ (j : Nat) (r : List Cell), k ≤ j → M[j]? = some r → cmpS s r < 0) ∧ Below w.heap.size w wx) (fun kv _ => (intOf kv).toNat)
  case atStart => exact ⟨n, Nat.le_refl _, rfl, Lib.hid (fun j r hj hr => by have := (List.getElem?_eq_some_iff.1 hr).1; have := HN.out; omega), Below.refl _ _⟩
  case round =>
    obtain ⟨k, hkn, rfl, HK, hbel⟩ := hrel
    by_cases hk0 : 0 < k
    · have hdk : decide ((0 : Int) < (k : Int)) = true := by simp; omega
      obtain ⟨p, hp⟩ : ∃ p, p = k - 1 := ⟨_, rfl⟩
      have HP : Hid (p = k - 1) := Lib.hid hp
      have e1 : (k : Int) - 1 = (p : Int) := by omega
      have e2 : IntKind.i64.wrap ((k : Int) - 1) = (p : Int) := by rw [e1]; exact IntWalk.i64_in _ (by omega)
      have e3 : (p : Int) < (n : Int) := by omega
      have e4 : p < n := by omega
      obtain ⟨b0, o0, r, x, he, _, hb0, hMr, x1, xr⟩ := HR.out.slot HSL.out HN.out e4
      injection he with he
      injection he with he1 he2
      subst he1 he2
      have hrl := HM.out r (List.mem_of_getElem? hMr)
      have HMR := Lib.hid hMr
      have HC : Hid (∀ w1, Below w.heap.size w w1 → Calls Tryz.prog 213 #[.slice As s.length cs, x] w1 fun e w' => e = .returned (.int .i64 (cmpS s r)) ∧ Below w1.heap.size w1 w') := Lib.hid fun w1 b1 =>
        spec_cmp_c w1 ((HS.out.keep (SameIn.of_below b1 (Nat.le_refl _))).more (Nat.le_refl _) b1.size) ((xr.keep (SameIn.of_below b1 (Nat.le_refl _))).more (Nat.le_refl _) b1.size) (by omega)
      have HE : Hid (∀ w1, Below w.heap.size w w1 → Calls Tryz.prog 214 #[x, .slice As s.length cs] w1 fun e w' => e = .returned (.bool (same r s)) ∧ Below w1.heap.size w1 w') := Lib.hid fun w1 b1 =>
        spec_eqShapes_c w1 ((xr.keep (SameIn.of_below b1 (Nat.le_refl _))).more (Nat.le_refl _) b1.size) ((HS.out.keep (SameIn.of_below b1 (Nat.le_refl _))).more (Nat.le_refl _) b1.size)
      have x2 := (hbel.cell (p := ⟨g, o + p, none⟩) hb0).trans x1
      obtain ⟨Ax, cx, hx, _, _⟩ := xr
      subst hx
      have HX1 := Lib.hid x1
      have HC1' := Lib.hid (HC.out wr hbel)
      obtain ⟨q, hq⟩ : ∃ q, q = cmpS s r := ⟨_, rfl⟩
      rw [← hq] at HC1'
      have HQ := Lib.hid hq
      clear hp hMr hq x1
      go_wp2_with fail
      refine (HC1'.out).mono ?_
      rintro e w2 ⟨rfl, b2⟩
      have hb2 := hbel.trans (b2.mono hbel.size)
      clear x2 b2 hbel HC1'
      by_cases hq0 : q < 0
      · have hdq : decide (q < 0) = true := decide_eq_true hq0
        have HK2 : Hid (∀ (j : Nat) (r : List Cell), p ≤ j → M[j]? = some r → cmpS s r < 0) := Lib.hid (by
          intro j r' hj hr'
          by_cases e : j = p
          · subst e
            have := HMR.out
            rw [hr'] at this
            injection this with this
            rw [this, ← HQ.out]; exact hq0
          · exact HK.out j r' (by have := HP.out; omega) hr')
        clear hq0
        go_wp2
        go_roundw
        case rel => exact ⟨p, by omega, by go_num, HK2, hb2⟩
        case measure => simp [intOf]; omega
      · have hdq : decide (q < 0) = false := decide_eq_false hq0
        have HPA : Hid (PutAt s M k) := Lib.hid ⟨by rw [← HN.out]; exact hkn, HK.out, fun r' _ hr' => by
          rw [← HP.out, HMR.out] at hr'
          injection hr' with hr'
          rw [← hr', ← HQ.out]; exact hq0⟩
        have HE1 := Lib.hid (HE.out w2 hb2)
        have x2 := (hb2.cell (p := ⟨g, o + p, none⟩) hb0).trans HX1.out
        clear hq0
        go_wp2_with fail
        refine (HE1.out).mono ?_
        rintro e w3 ⟨rfl, b3⟩
        have hb3 := hb2.trans (b3.mono hb2.size)
        clear x2 b3 hb2 HE1
        by_cases hrs : r = s
        · have HRS : Hid (M[k - 1]? = some s) := Lib.hid (by rw [← HP.out, HMR.out, hrs])
          rw [same_t hrs]
          clear hrs
          go_wp2
          go_ret
          exact ⟨_, rfl, hb3, k, HPA.out, .inl ⟨hk0, HRS.out, rfl⟩⟩
        · have HNO : Hid (¬ (0 < k ∧ M[k - 1]? = some s)) := Lib.hid (fun h => by
            have := h.2
            rw [← HP.out, HMR.out] at this
            injection this with this
            exact hrs this)
          rw [same_f hrs]
          clear hrs
          have t1 : (0 : Int) ≤ (k : Int) := by omega
          have t2 : (k : Int) ≤ (c : Int) := by omega
          have t3 : (k : Int) ≤ (n : Int) := by omega
          have t4 : (n : Int) ≤ (c : Int) := by omega
          have hone := slots_one HSL.out
          have HONE1 : Hid (∀ u ∈ vs.take k, u.oneCell' = true) := Lib.hid fun u hu => hone u (List.mem_of_mem_take hu)
          have HONE2 : Hid (∀ u ∈ vs.drop k, u.oneCell' = true) := Lib.hid fun u hu => hone u (List.mem_of_mem_drop hu)
          have HA := ((Sep.start w).step hb3 |>.rowBox 25 #[] 1 0 rfl (by decide)).drew
          have HB := ((((Sep.start w).step hb3).rowBox 25 #[] 1 0 rfl (by decide)).rowBox 25 #[.slice As s.length cs] 1 1 rfl (by decide)).g1.drew
          have HC1 := ((((Sep.start w).step hb3).rowBox 25 #[.slice As s.length cs] 1 1 rfl (by decide)).rowBox 25 #[] 1 0 rfl (by decide)).drew
          have HT0 : Rd w 0 w.heap.size 1 (some ⟨g, o, none⟩) k (vs.take k) := by have := HR.out.take hkn; rwa [Nat.mul_one] at this
          have HT1 := HT0.below HA.below (Nat.le_refl _)
          have HT2 := HT0.below HB.below (Nat.le_refl _)
          have HT3 := HT0.below HC1.below (Nat.le_refl _)
          have HT4 : Hid (Rd w 0 w.heap.size 1 (some ⟨g, o + k, none⟩) (n - k) (vs.drop k)) := Lib.hid (by have := HR.out.drop (k := k); rwa [Nat.mul_one] at this)
          have hvl : vs.length = n := by have := HR.out.1; rwa [Nat.mul_one] at this
          simp only [World.size_alloc] at HB HC1
          clear hone HT0
          by_cases hkc : c = k
          ·
            have hnk : n - k = 0 := by omega
            have HDN : Hid (vs.drop k = []) := Lib.hid (List.drop_of_length_le (by omega))
            go_wp2_with fail
            go_region_law (first
              | (refine step_app rfl (.tmp 34) (.tmp 37) 38 (by rfl) 25 i0 _ 1 24 Tryz.underlying38 hi hz0 hz1 hz2 rfl (by decide) _ _ _ (by rfl) HA _ _ _ (vs.take k) (by rfl) HT1 HONE1.out (by unfold maxLen; omega) (by omega) ?_; intro v5 w5 H5)
              | (refine step_app rfl (.tmp 34) (.tmp 37) 38 (by rfl) 25 i0 _ 1 24 Tryz.underlying38 hi hz0 hz1 hz2 rfl (by decide) _ _ _ (by rfl) HB _ _ _ (vs.take k) (by rfl) HT2 HONE1.out (by unfold maxLen; omega) (by omega) ?_; intro v5 w5 H5)
              | (refine step_app rfl (.tmp 34) (.tmp 37) 38 (by rfl) 25 i0 _ 1 24 Tryz.underlying38 hi hz0 hz1 hz2 rfl (by decide) _ _ _ (by rfl) HC1 _ _ _ (vs.take k) (by rfl) HT3 HONE1.out (by unfold maxLen; omega) (by omega) ?_; intro v5 w5 H5)
              | (refine step_app rfl (.tmp 38) (.tmp 40) 38 (by rfl) 25 i0 _ 1 24 Tryz.underlying38 hi hz0 hz1 hz2 rfl (by decide) _ _ _ (by rfl) (H5.alloc _) _ _ _ [.slice As s.length cs] (by rfl) (Rd.fresh w5 _ #[.slice As s.length cs] 1 1 rfl) (ocv2 rfl) (by unfold maxLen; omega) (by omega) ?_; intro v6 w6 H6)
              | (refine step_app rfl (.tmp 38) (.tmp 40) 38 (by rfl) 25 i0 _ 1 24 Tryz.underlying38 hi hz0 hz1 hz2 rfl (by decide) _ _ _ (by rfl) H5 _ _ _ [.slice As s.length cs] (by rfl) (own_take (k := 1) H5.h1 (Nat.le_refl _)) (ocv2 rfl) (by unfold maxLen; omega) (by omega) ?_; intro v6 w6 H6)
              | (refine step_app rfl (.tmp 41) (.tmp 44) 38 (by rfl) 25 i0 _ 1 24 Tryz.underlying38 hi hz0 hz1 hz2 rfl (by decide) _ _ _ (by rfl) H6 (lo := 0) (hi' := w6.heap.size) _ 0 _ [] (by rfl) ⟨rfl, fun h => absurd h (Nat.lt_irrefl 0)⟩ (by intro u hu; simp at hu) (by unfold maxLen; omega) (by omega) ?_; intro v7 w7 H7))
            all_goals
              have H8 : Sep w w7 [Res.row v7 25 1 (n + 1) (vs.take k ++ .slice As s.length cs :: vs.drop k)] := by
                replace H7 := by first | exact H7.drop2 | exact H7
                first
                  | rw [show 0 + k + 1 + (n - k) = n + 1 by omega] at H7
                  | rw [show 0 + k + 1 + 0 = n + 1 by omega] at H7
                rw [HDN.out]; have := H7; simp only [List.nil_append, List.append_nil] at this; exact this
              have HO := H8.oi
              rw [HN.out] at HO
              have HO := Lib.hid HO
              obtain ⟨A7, c7, rfl, _, _, _⟩ := Res.row_at H8.h0
              clear H5 H6 H7 HA HT1 HB HT2 HC1 HT3
              go_wp2
              go_ret
              exact ⟨_, rfl, H8.below, k, HPA.out, .inr ⟨HNO.out, HO.out⟩⟩
          ·
            go_wp2_with fail
            go_region_law (first
              | (refine step_app rfl (.tmp 34) (.tmp 37) 38 (by rfl) 25 i0 _ 1 24 Tryz.underlying38 hi hz0 hz1 hz2 rfl (by decide) _ _ _ (by rfl) HA _ _ _ (vs.take k) (by rfl) HT1 HONE1.out (by unfold maxLen; omega) (by omega) ?_; intro v5 w5 H5)
              | (refine step_app rfl (.tmp 34) (.tmp 37) 38 (by rfl) 25 i0 _ 1 24 Tryz.underlying38 hi hz0 hz1 hz2 rfl (by decide) _ _ _ (by rfl) HB _ _ _ (vs.take k) (by rfl) HT2 HONE1.out (by unfold maxLen; omega) (by omega) ?_; intro v5 w5 H5)
              | (refine step_app rfl (.tmp 34) (.tmp 37) 38 (by rfl) 25 i0 _ 1 24 Tryz.underlying38 hi hz0 hz1 hz2 rfl (by decide) _ _ _ (by rfl) HC1 _ _ _ (vs.take k) (by rfl) HT3 HONE1.out (by unfold maxLen; omega) (by omega) ?_; intro v5 w5 H5)
              | (refine step_app rfl (.tmp 38) (.tmp 40) 38 (by rfl) 25 i0 _ 1 24 Tryz.underlying38 hi hz0 hz1 hz2 rfl (by decide) _ _ _ (by rfl) (H5.alloc _) _ _ _ [.slice As s.length cs] (by rfl) (Rd.fresh w5 _ #[.slice As s.length cs] 1 1 rfl) (ocv2 rfl) (by unfold maxLen; omega) (by omega) ?_; intro v6 w6 H6)
              | (refine step_app rfl (.tmp 38) (.tmp 40) 38 (by rfl) 25 i0 _ 1 24 Tryz.underlying38 hi hz0 hz1 hz2 rfl (by decide) _ _ _ (by rfl) H5 _ _ _ [.slice As s.length cs] (by rfl) (own_take (k := 1) H5.h1 (Nat.le_refl _)) (ocv2 rfl) (by unfold maxLen; omega) (by omega) ?_; intro v6 w6 H6)
              | (refine step_app rfl (.tmp 41) (.tmp 44) 38 (by rfl) 25 i0 _ 1 24 Tryz.underlying38 hi hz0 hz1 hz2 rfl (by decide) _ _ _ (by rfl) H6 (lo := 0) (hi' := w.heap.size) _ (n - k) _ (vs.drop k) (by rfl) (HT4.out.below H6.below (Nat.le_refl _)) HONE2.out (by unfold maxLen; omega) (by omega) ?_; intro v7 w7 H7))
            all_goals
              have H8 : Sep w w7 [Res.row v7 25 1 (n + 1) (vs.take k ++ .slice As s.length cs :: vs.drop k)] := by
                replace H7 := by first | exact H7.drop2 | exact H7
                first
                  | rw [show 0 + k + 1 + (n - k) = n + 1 by omega] at H7
                  | rw [show 0 + k + 1 + 0 = n + 1 by omega] at H7
                have := H7; simp only [List.nil_append, List.append_assoc, List.cons_append] at this; exact this
              have HO := H8.oi
              rw [HN.out] at HO
              have HO := Lib.hid HO
              obtain ⟨A7, c7, rfl, _, _, _⟩ := Res.row_at H8.h0
              clear H5 H6 H7 HA HT1 HB HT2 HC1 HT3
              go_wp2
              go_ret
              exact ⟨_, rfl, H8.below, k, HPA.out, .inr ⟨HNO.out, HO.out⟩⟩
    · have hdk : decide ((0 : Int) < (k : Int)) = false := by simp; omega
      have HPA : Hid (PutAt s M k) := Lib.hid ⟨by rw [← HN.out]; exact hkn, HK.out, fun r' h _ => absurd h hk0⟩
      have HNO : Hid (¬ (0 < k ∧ M[k - 1]? = some s)) := Lib.hid (fun h => hk0 h.1)
      go_wp2
      have t1 : (0 : Int) ≤ (k : Int) := by omega
      have t2 : (k : Int) ≤ (c : Int) := by omega
      have t3 : (k : Int) ≤ (n : Int) := by omega
      have t4 : (n : Int) ≤ (c : Int) := by omega
      have hone := slots_one HSL.out
      have HONE1 : Hid (∀ u ∈ vs.take k, u.oneCell' = true) := Lib.hid fun u hu => hone u (List.mem_of_mem_take hu)
      have HONE2 : Hid (∀ u ∈ vs.drop k, u.oneCell' = true) := Lib.hid fun u hu => hone u (List.mem_of_mem_drop hu)
      have HA := ((Sep.start w).step hbel |>.rowBox 25 #[] 1 0 rfl (by decide)).drew
      have HB := ((((Sep.start w).step hbel).rowBox 25 #[] 1 0 rfl (by decide)).rowBox 25 #[.slice As s.length cs] 1 1 rfl (by decide)).g1.drew
      have HC1 := ((((Sep.start w).step hbel).rowBox 25 #[.slice As s.length cs] 1 1 rfl (by decide)).rowBox 25 #[] 1 0 rfl (by decide)).drew
      have HT0 : Rd w 0 w.heap.size 1 (some ⟨g, o, none⟩) k (vs.take k) := by have := HR.out.take hkn; rwa [Nat.mul_one] at this
      have HT1 := HT0.below HA.below (Nat.le_refl _)
      have HT2 := HT0.below HB.below (Nat.le_refl _)
      have HT3 := HT0.below HC1.below (Nat.le_refl _)
      have HT4 : Hid (Rd w 0 w.heap.size 1 (some ⟨g, o + k, none⟩) (n - k) (vs.drop k)) := Lib.hid (by have := HR.out.drop (k := k); rwa [Nat.mul_one] at this)
      have hvl : vs.length = n := by have := HR.out.1; rwa [Nat.mul_one] at this
      simp only [World.size_alloc] at HB HC1
      clear hone HT0
      by_cases hkc : c = k
      ·
        have hnk : n - k = 0 := by omega
        have HDN : Hid (vs.drop k = []) := Lib.hid (List.drop_of_length_le (by omega))
        go_wp2_with fail
        go_region_law (first
          | (refine step_app rfl (.tmp 34) (.tmp 37) 38 (by rfl) 25 i0 _ 1 24 Tryz.underlying38 hi hz0 hz1 hz2 rfl (by decide) _ _ _ (by rfl) HA _ _ _ (vs.take k) (by rfl) HT1 HONE1.out (by unfold maxLen; omega) (by omega) ?_; intro v5 w5 H5)
          | (refine step_app rfl (.tmp 34) (.tmp 37) 38 (by rfl) 25 i0 _ 1 24 Tryz.underlying38 hi hz0 hz1 hz2 rfl (by decide) _ _ _ (by rfl) HB _ _ _ (vs.take k) (by rfl) HT2 HONE1.out (by unfold maxLen; omega) (by omega) ?_; intro v5 w5 H5)
          | (refine step_app rfl (.tmp 34) (.tmp 37) 38 (by rfl) 25 i0 _ 1 24 Tryz.underlying38 hi hz0 hz1 hz2 rfl (by decide) _ _ _ (by rfl) HC1 _ _ _ (vs.take k) (by rfl) HT3 HONE1.out (by unfold maxLen; omega) (by omega) ?_; intro v5 w5 H5)
          | (refine step_app rfl (.tmp 38) (.tmp 40) 38 (by rfl) 25 i0 _ 1 24 Tryz.underlying38 hi hz0 hz1 hz2 rfl (by decide) _ _ _ (by rfl) (H5.alloc _) _ _ _ [.slice As s.length cs] (by rfl) (Rd.fresh w5 _ #[.slice As s.length cs] 1 1 rfl) (ocv2 rfl) (by unfold maxLen; omega) (by omega) ?_; intro v6 w6 H6)
          | (refine step_app rfl (.tmp 38) (.tmp 40) 38 (by rfl) 25 i0 _ 1 24 Tryz.underlying38 hi hz0 hz1 hz2 rfl (by decide) _ _ _ (by rfl) H5 _ _ _ [.slice As s.length cs] (by rfl) (own_take (k := 1) H5.h1 (Nat.le_refl _)) (ocv2 rfl) (by unfold maxLen; omega) (by omega) ?_; intro v6 w6 H6)
          | (refine step_app rfl (.tmp 41) (.tmp 44) 38 (by rfl) 25 i0 _ 1 24 Tryz.underlying38 hi hz0 hz1 hz2 rfl (by decide) _ _ _ (by rfl) H6 (lo := 0) (hi' := w6.heap.size) _ 0 _ [] (by rfl) ⟨rfl, fun h => absurd h (Nat.lt_irrefl 0)⟩ (by intro u hu; simp at hu) (by unfold maxLen; omega) (by omega) ?_; intro v7 w7 H7))
        all_goals
          have H8 : Sep w w7 [Res.row v7 25 1 (n + 1) (vs.take k ++ .slice As s.length cs :: vs.drop k)] := by
            replace H7 := by first | exact H7.drop2 | exact H7
            first
              | rw [show 0 + k + 1 + (n - k) = n + 1 by omega] at H7
              | rw [show 0 + k + 1 + 0 = n + 1 by omega] at H7
            rw [HDN.out]; have := H7; simp only [List.nil_append, List.append_nil] at this; exact this
          have HO := H8.oi
          rw [HN.out] at HO
          have HO := Lib.hid HO
          obtain ⟨A7, c7, rfl, _, _, _⟩ := Res.row_at H8.h0
          clear H5 H6 H7 HA HT1 HB HT2 HC1 HT3
          go_wp2
          go_ret
          exact ⟨_, rfl, H8.below, k, HPA.out, .inr ⟨HNO.out, HO.out⟩⟩
      ·
        go_wp2_with fail
        go_region_law (first
          | (refine step_app rfl (.tmp 34) (.tmp 37) 38 (by rfl) 25 i0 _ 1 24 Tryz.underlying38 hi hz0 hz1 hz2 rfl (by decide) _ _ _ (by rfl) HA _ _ _ (vs.take k) (by rfl) HT1 HONE1.out (by unfold maxLen; omega) (by omega) ?_; intro v5 w5 H5)
          | (refine step_app rfl (.tmp 34) (.tmp 37) 38 (by rfl) 25 i0 _ 1 24 Tryz.underlying38 hi hz0 hz1 hz2 rfl (by decide) _ _ _ (by rfl) HB _ _ _ (vs.take k) (by rfl) HT2 HONE1.out (by unfold maxLen; omega) (by omega) ?_; intro v5 w5 H5)
          | (refine step_app rfl (.tmp 34) (.tmp 37) 38 (by rfl) 25 i0 _ 1 24 Tryz.underlying38 hi hz0 hz1 hz2 rfl (by decide) _ _ _ (by rfl) HC1 _ _ _ (vs.take k) (by rfl) HT3 HONE1.out (by unfold maxLen; omega) (by omega) ?_; intro v5 w5 H5)
          | (refine step_app rfl (.tmp 38) (.tmp 40) 38 (by rfl) 25 i0 _ 1 24 Tryz.underlying38 hi hz0 hz1 hz2 rfl (by decide) _ _ _ (by rfl) (H5.alloc _) _ _ _ [.slice As s.length cs] (by rfl) (Rd.fresh w5 _ #[.slice As s.length cs] 1 1 rfl) (ocv2 rfl) (by unfold maxLen; omega) (by omega) ?_; intro v6 w6 H6)
          | (refine step_app rfl (.tmp 38) (.tmp 40) 38 (by rfl) 25 i0 _ 1 24 Tryz.underlying38 hi hz0 hz1 hz2 rfl (by decide) _ _ _ (by rfl) H5 _ _ _ [.slice As s.length cs] (by rfl) (own_take (k := 1) H5.h1 (Nat.le_refl _)) (ocv2 rfl) (by unfold maxLen; omega) (by omega) ?_; intro v6 w6 H6)
          | (refine step_app rfl (.tmp 41) (.tmp 44) 38 (by rfl) 25 i0 _ 1 24 Tryz.underlying38 hi hz0 hz1 hz2 rfl (by decide) _ _ _ (by rfl) H6 (lo := 0) (hi' := w.heap.size) _ (n - k) _ (vs.drop k) (by rfl) (HT4.out.below H6.below (Nat.le_refl _)) HONE2.out (by unfold maxLen; omega) (by omega) ?_; intro v7 w7 H7))
        all_goals
          have H8 : Sep w w7 [Res.row v7 25 1 (n + 1) (vs.take k ++ .slice As s.length cs :: vs.drop k)] := by
            replace H7 := by first | exact H7.drop2 | exact H7
            first
              | rw [show 0 + k + 1 + (n - k) = n + 1 by omega] at H7
              | rw [show 0 + k + 1 + 0 = n + 1 by omega] at H7
            have := H7; simp only [List.nil_append, List.append_assoc, List.cons_append] at this; exact this
          have HO := H8.oi
          rw [HN.out] at HO
          have HO := Lib.hid HO
          obtain ⟨A7, c7, rfl, _, _, _⟩ := Res.row_at H8.h0
          clear H5 H6 H7 HA HT1 HB HT2 HC1 HT3
          go_wp2
          go_ret
          exact ⟨_, rfl, H8.below, k, HPA.out, .inr ⟨HNO.out, HO.out⟩⟩
end Go.Proofs.YtjkppigjajknaaaGreatDoor
