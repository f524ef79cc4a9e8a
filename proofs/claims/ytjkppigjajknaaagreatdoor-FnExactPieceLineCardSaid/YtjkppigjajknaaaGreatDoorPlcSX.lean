
/-
  A number put into an ascending list, once: the reference's walk. All placements of a shape, of some shapes: the reference's walks. All placements of some shapes: the reference's walk.
-/
import Derived.Test.YtjkppigjajknaaaGreatDoorPlcP
import Derived.Test.YtjkppigjajknaaaGreatDoorSepX
import Derived.Test.YtjkppigjajknaaaGreatDoorPairR
import Derived.Test.YtjkppigjajknaaaGreatDoorMotC
import Derived.Test.YtjkppigjajknaaaGreatDoorPlcIX
import Derived.Test.YtjkppigjajknaaaGreatDoorAllX
import Derived.Test.YtjkppigjajknaaaGreatDoorPlcX
import Derived.Deep.DeepCutAuto
namespace Go.Proofs.YtjkppigjajknaaaGreatDoor
open Go.RowKit

set_option maxRecDepth 100000 in
theorem infoInt7 : (Tryz.prog.info? 3).map (fun i => (i.zero, i.size, i.bytes)) = some (some (.int .i64 0), 1, 8) := by kernel_rfl
def Put7Post (L : List Res) (l : List Int) (x : Int) (w0 : World) (e : Ending) (w' : World) : Prop :=
  ∃ g' c', e = .returned (.slice (some ⟨g', 0, none⟩) (insN x l).length c') ∧ Sep w0 w' (Res.row (.slice (some ⟨g', 0, none⟩) (insN x l).length c') 3 1 (insN x l).length (ic (insN x l)) :: L)
theorem Put7Post.mk {L : List Res} {l l' : List Int} {x : Int} {w0 w' : World} {v : Value} {m : Nat} (hl : insN x l = l') (hm : m = l'.length) (h0 : 0 < m) (H : Sep w0 w' (Res.row v 3 1 m (ic l') :: L)) : Put7Post L l x w0 (.returned v) w' := by
  obtain ⟨g, o, c, rfl, _, _, _⟩ := own_shape H.h0 h0
  obtain ⟨rfl, _⟩ := own_blk H.h0
  subst hm
  unfold Put7Post
  rw [hl]
  exact ⟨g, c, rfl, H⟩
set_option maxRecDepth 100000 in
set_option maxHeartbeats 3200000 in
theorem spec_put7_c {g c n : Nat} {l : List Int} {x : Int} {L : List Res} {w0 w : World} (H : Sep w0 w (Res.row (.slice (some ⟨g, 0, none⟩) n c) 3 1 n (ic l) :: L)) (hn : n = l.length) (ha : Asc l) (hn8 : n ≤ 1000000) :
    Calls Tryz.prog 128 #[.slice (some ⟨g, 0, none⟩) n c, .int .i64 x] w (Put7Post L l x w0) := by
  obtain ⟨i0, hi, hz0, hz1, hz2⟩ := info_parts infoInt7
  have hnc : n ≤ c ∧ c ≤ maxLen := by obtain ⟨_, cs, _, h1, h2, _⟩ := own_blk H.h0; exact ⟨h1, h2⟩
  have HN := Lib.hid hn
  have HAS := Lib.hid ha
  obtain ⟨hnc, hcm⟩ := hnc
  clear hn ha
  go_enter Tryz.func128, Tryz.ntmps128
  go_wp2
  go_loopw [5] (fun kv wx => ∃ k : Nat, k ≤ n ∧ kv = .int .i64 k ∧ Hid (∀ (j : Nat) (d : Int), k ≤ j → l[j]? = some d → x < d) ∧ w = wx) (fun kv _ => (intOf kv).toNat)
  case atStart => exact ⟨n, Nat.le_refl _, rfl, Lib.hid (fun j r hj hr => by have := (List.getElem?_eq_some_iff.1 hr).1; have := HN.out; omega), rfl⟩
  case round =>
    obtain ⟨k, hkn, rfl, HK, rfl⟩ := hrel
    by_cases hk0 : 0 < k
    · have hdk : decide ((0 : Int) < (k : Int)) = true := by simp; omega
      obtain ⟨p, hp⟩ : ∃ p, p = k - 1 := ⟨_, rfl⟩
      have HP : Hid (p = k - 1) := Lib.hid hp
      have e1 : (k : Int) - 1 = (p : Int) := by omega
      have e2 : IntKind.i64.wrap ((k : Int) - 1) = (p : Int) := by rw [e1]; exact IntWalk.i64_in _ (by omega)
      have e3 : (p : Int) < (n : Int) := by omega
      have e4 : p < n := by omega
      obtain ⟨d, hd⟩ : ∃ d, l[p]? = some d := ⟨l[p]'(by rw [← HN.out]; exact e4), List.getElem?_eq_getElem _⟩
      have x1 := own_cell1 H.h0 hd
      rw [Nat.zero_add] at x1
      have HD := Lib.hid hd
      clear hp hd
      by_cases hxd : x < d
      · have hdq : decide (x < d) = true := decide_eq_true hxd
        have HK2 : Hid (∀ (j : Nat) (d : Int), p ≤ j → l[j]? = some d → x < d) := Lib.hid (by
          intro j r' hj hr'
          by_cases e : j = p
          · subst e
            have := HD.out
            rw [hr'] at this
            injection this with this
            rw [this]; exact hxd
          · exact HK.out j r' (by have := HP.out; omega) hr')
        clear hxd
        go_wp2
        go_roundw
        case rel => exact ⟨p, by omega, by go_num, HK2, trivial⟩
        case measure => simp [intOf]; omega
      · have hdq : decide (x < d) = false := decide_eq_false hxd
        by_cases hdx : d = x
        · have HI : Hid (insN x l = l) := Lib.hid (insN_has HAS.out (by rw [← hdx]; exact List.mem_of_getElem? HD.out))
          have hbq : (d == x) = true := by simpa using hdx
          have hl0 : 0 < n := by omega
          clear hdx hxd
          go_wp2
          go_ret
          exact Put7Post.mk HI.out HN.out hl0 H
        · have hbq : (d == x) = false := by simpa using hdx
          have HI : Hid (ic (insN x l) = (ic l).take k ++ .int .i64 x :: (ic l).drop k) := Lib.hid (by
            rw [insN_at HAS.out (by rw [← HN.out]; exact hkn) HK.out (fun d' _ h' => by rw [← HP.out, HD.out] at h'; injection h' with h'; omega)]
            simp [ic, List.map_take, List.map_drop])
          have HIL : Hid (n + 1 = (insN x l).length) := Lib.hid (by
            have := congrArg List.length HI.out
            rw [ic_length, List.length_append, List.length_cons, List.length_take, List.length_drop, ic_length, ← HN.out] at this
            omega)
          clear hdx hxd
          go_wp2_with fail
          have t1 : (0 : Int) ≤ (k : Int) := by omega
          have t2 : (k : Int) ≤ (c : Int) := by omega
          have t3 : (k : Int) ≤ (n : Int) := by omega
          have t4 : (n : Int) ≤ (c : Int) := by omega
          have HONE1 : Hid (∀ u ∈ (ic l).take k, u.oneCell' = true) := Lib.hid fun u hu => ic_one u (List.mem_of_mem_take hu)
          have HONE2 : Hid (∀ u ∈ (ic l).drop k, u.oneCell' = true) := Lib.hid fun u hu => ic_one u (List.mem_of_mem_drop hu)
          have HA := (H.rowBox 3 #[] 1 0 rfl (by decide)).drew
          have HB := ((H.rowBox 3 #[] 1 0 rfl (by decide)).rowBox 3 #[.int .i64 x] 1 1 rfl (by decide)).g1.drew
          have HC1 := ((H.rowBox 3 #[.int .i64 x] 1 1 rfl (by decide)).rowBox 3 #[] 1 0 rfl (by decide)).drew
          have HT1 := own_take (k := k) HA.h1 hkn
          have HT2 := own_take (k := k) HB.h2 hkn
          have HT3 := own_take (k := k) HC1.h2 hkn
          rw [Nat.mul_one] at HT1 HT2 HT3
          have hvl : (ic l).length = n := by rw [ic_length]; exact HN.out.symm
          simp only [World.size_alloc] at HB HC1
          by_cases hkc : c = k
          ·
            have hnk : n - k = 0 := by omega
            have HDN : Hid ((ic l).drop k = []) := Lib.hid (List.drop_of_length_le (by omega))
            go_wp2_with fail
            go_region_law (first
              | (refine step_app rfl (.tmp 33) (.tmp 36) 29 (by rfl) 3 i0 _ 1 8 Tryz.underlying29 hi hz0 hz1 hz2 rfl (by decide) _ _ _ (by rfl) HA _ _ _ ((ic l).take k) (by rfl) HT1 HONE1.out (by unfold maxLen; omega) (by omega) ?_; intro v5 w5 H5)
              | (refine step_app rfl (.tmp 33) (.tmp 36) 29 (by rfl) 3 i0 _ 1 8 Tryz.underlying29 hi hz0 hz1 hz2 rfl (by decide) _ _ _ (by rfl) HB _ _ _ ((ic l).take k) (by rfl) HT2 HONE1.out (by unfold maxLen; omega) (by omega) ?_; intro v5 w5 H5)
              | (refine step_app rfl (.tmp 33) (.tmp 36) 29 (by rfl) 3 i0 _ 1 8 Tryz.underlying29 hi hz0 hz1 hz2 rfl (by decide) _ _ _ (by rfl) HC1 _ _ _ ((ic l).take k) (by rfl) HT3 HONE1.out (by unfold maxLen; omega) (by omega) ?_; intro v5 w5 H5)
              | (refine step_app rfl (.tmp 37) (.tmp 39) 29 (by rfl) 3 i0 _ 1 8 Tryz.underlying29 hi hz0 hz1 hz2 rfl (by decide) _ _ _ (by rfl) (H5.alloc _) _ _ _ [.int .i64 x] (by rfl) (Rd.fresh w5 _ #[.int .i64 x] 1 1 rfl) oc1 (by unfold maxLen; omega) (by omega) ?_; intro v6 w6 H6)
              | (refine step_app rfl (.tmp 37) (.tmp 39) 29 (by rfl) 3 i0 _ 1 8 Tryz.underlying29 hi hz0 hz1 hz2 rfl (by decide) _ _ _ (by rfl) H5 _ _ _ [.int .i64 x] (by rfl) (own_take (k := 1) H5.h1 (Nat.le_refl _)) oc1 (by unfold maxLen; omega) (by omega) ?_; intro v6 w6 H6)
              | (refine step_app rfl (.tmp 40) (.tmp 43) 29 (by rfl) 3 i0 _ 1 8 Tryz.underlying29 hi hz0 hz1 hz2 rfl (by decide) _ _ _ (by rfl) H6 (lo := 0) (hi' := w6.heap.size) _ 0 _ [] (by rfl) ⟨rfl, fun h => absurd h (Nat.lt_irrefl 0)⟩ (by intro u hu; simp at hu) (by unfold maxLen; omega) (by omega) ?_; intro v7 w7 H7))
            all_goals
              have H8 : Sep w0 w7 (Res.row v7 3 1 (n + 1) ((ic l).take k ++ .int .i64 x :: (ic l).drop k) :: L) := by
                replace H7 := by first | exact H7.drop2.drop2 | exact H7.drop2
                first
                  | rw [show 0 + k + 1 + (n - k) = n + 1 by omega] at H7
                  | rw [show 0 + k + 1 + 0 = n + 1 by omega] at H7
                rw [HDN.out]; have := H7; simp only [List.nil_append, List.append_nil] at this; exact this
              clear H5 H6 H7 HA HT1 HB HT2 HC1 HT3
              (rw [← HI.out] at H8; clear H; go_wp2; go_ret; exact Put7Post.mk rfl HIL.out (Nat.succ_pos _) H8)
          ·
            go_wp2_with fail
            go_region_law (first
              | (refine step_app rfl (.tmp 33) (.tmp 36) 29 (by rfl) 3 i0 _ 1 8 Tryz.underlying29 hi hz0 hz1 hz2 rfl (by decide) _ _ _ (by rfl) HA _ _ _ ((ic l).take k) (by rfl) HT1 HONE1.out (by unfold maxLen; omega) (by omega) ?_; intro v5 w5 H5)
              | (refine step_app rfl (.tmp 33) (.tmp 36) 29 (by rfl) 3 i0 _ 1 8 Tryz.underlying29 hi hz0 hz1 hz2 rfl (by decide) _ _ _ (by rfl) HB _ _ _ ((ic l).take k) (by rfl) HT2 HONE1.out (by unfold maxLen; omega) (by omega) ?_; intro v5 w5 H5)
              | (refine step_app rfl (.tmp 33) (.tmp 36) 29 (by rfl) 3 i0 _ 1 8 Tryz.underlying29 hi hz0 hz1 hz2 rfl (by decide) _ _ _ (by rfl) HC1 _ _ _ ((ic l).take k) (by rfl) HT3 HONE1.out (by unfold maxLen; omega) (by omega) ?_; intro v5 w5 H5)
              | (refine step_app rfl (.tmp 37) (.tmp 39) 29 (by rfl) 3 i0 _ 1 8 Tryz.underlying29 hi hz0 hz1 hz2 rfl (by decide) _ _ _ (by rfl) (H5.alloc _) _ _ _ [.int .i64 x] (by rfl) (Rd.fresh w5 _ #[.int .i64 x] 1 1 rfl) oc1 (by unfold maxLen; omega) (by omega) ?_; intro v6 w6 H6)
              | (refine step_app rfl (.tmp 37) (.tmp 39) 29 (by rfl) 3 i0 _ 1 8 Tryz.underlying29 hi hz0 hz1 hz2 rfl (by decide) _ _ _ (by rfl) H5 _ _ _ [.int .i64 x] (by rfl) (own_take (k := 1) H5.h1 (Nat.le_refl _)) oc1 (by unfold maxLen; omega) (by omega) ?_; intro v6 w6 H6)
              | (refine step_app rfl (.tmp 40) (.tmp 43) 29 (by rfl) 3 i0 _ 1 8 Tryz.underlying29 hi hz0 hz1 hz2 rfl (by decide) _ _ _ (by rfl) H6 (lo := 0) (hi' := w6.heap.size) _ (n - k) _ ((ic l).drop k) (by rfl) (by have := Rd.drop (k := k) (own_take (k := n) (by first | exact H6.h1 | exact H6.h2) (Nat.le_refl _)); rw [Nat.mul_one, Nat.mul_one, List.take_of_length_le (by omega), Nat.zero_add] at this; exact this) HONE2.out (by unfold maxLen; omega) (by omega) ?_; intro v7 w7 H7))
            all_goals
              have H8 : Sep w0 w7 (Res.row v7 3 1 (n + 1) ((ic l).take k ++ .int .i64 x :: (ic l).drop k) :: L) := by
                replace H7 := by first | exact H7.drop2.drop2 | exact H7.drop2
                first
                  | rw [show 0 + k + 1 + (n - k) = n + 1 by omega] at H7
                  | rw [show 0 + k + 1 + 0 = n + 1 by omega] at H7
                have := H7; simp only [List.nil_append, List.append_assoc, List.cons_append] at this; exact this
              clear H5 H6 H7 HA HT1 HB HT2 HC1 HT3
              (rw [← HI.out] at H8; clear H; go_wp2; go_ret; exact Put7Post.mk rfl HIL.out (Nat.succ_pos _) H8)
    · have hdk : decide ((0 : Int) < (k : Int)) = false := by simp; omega
      have HI : Hid (ic (insN x l) = (ic l).take k ++ .int .i64 x :: (ic l).drop k) := Lib.hid (by
        rw [insN_at HAS.out (by rw [← HN.out]; exact hkn) HK.out (fun d' h' => absurd h' hk0)]
        simp [ic, List.map_take, List.map_drop])
      have HIL : Hid (n + 1 = (insN x l).length) := Lib.hid (by
        have := congrArg List.length HI.out
        rw [ic_length, List.length_append, List.length_cons, List.length_take, List.length_drop, ic_length, ← HN.out] at this
        omega)
      go_wp2_with fail
      have t1 : (0 : Int) ≤ (k : Int) := by omega
      have t2 : (k : Int) ≤ (c : Int) := by omega
      have t3 : (k : Int) ≤ (n : Int) := by omega
      have t4 : (n : Int) ≤ (c : Int) := by omega
      have HONE1 : Hid (∀ u ∈ (ic l).take k, u.oneCell' = true) := Lib.hid fun u hu => ic_one u (List.mem_of_mem_take hu)
      have HONE2 : Hid (∀ u ∈ (ic l).drop k, u.oneCell' = true) := Lib.hid fun u hu => ic_one u (List.mem_of_mem_drop hu)
      have HA := (H.rowBox 3 #[] 1 0 rfl (by decide)).drew
      have HB := ((H.rowBox 3 #[] 1 0 rfl (by decide)).rowBox 3 #[.int .i64 x] 1 1 rfl (by decide)).g1.drew
      have HC1 := ((H.rowBox 3 #[.int .i64 x] 1 1 rfl (by decide)).rowBox 3 #[] 1 0 rfl (by decide)).drew
      have HT1 := own_take (k := k) HA.h1 hkn
      have HT2 := own_take (k := k) HB.h2 hkn
      have HT3 := own_take (k := k) HC1.h2 hkn
      rw [Nat.mul_one] at HT1 HT2 HT3
      have hvl : (ic l).length = n := by rw [ic_length]; exact HN.out.symm
      simp only [World.size_alloc] at HB HC1
      by_cases hkc : c = k
      ·
        have hnk : n - k = 0 := by omega
        have HDN : Hid ((ic l).drop k = []) := Lib.hid (List.drop_of_length_le (by omega))
        go_wp2_with fail
        go_region_law (first
          | (refine step_app rfl (.tmp 33) (.tmp 36) 29 (by rfl) 3 i0 _ 1 8 Tryz.underlying29 hi hz0 hz1 hz2 rfl (by decide) _ _ _ (by rfl) HA _ _ _ ((ic l).take k) (by rfl) HT1 HONE1.out (by unfold maxLen; omega) (by omega) ?_; intro v5 w5 H5)
          | (refine step_app rfl (.tmp 33) (.tmp 36) 29 (by rfl) 3 i0 _ 1 8 Tryz.underlying29 hi hz0 hz1 hz2 rfl (by decide) _ _ _ (by rfl) HB _ _ _ ((ic l).take k) (by rfl) HT2 HONE1.out (by unfold maxLen; omega) (by omega) ?_; intro v5 w5 H5)
          | (refine step_app rfl (.tmp 33) (.tmp 36) 29 (by rfl) 3 i0 _ 1 8 Tryz.underlying29 hi hz0 hz1 hz2 rfl (by decide) _ _ _ (by rfl) HC1 _ _ _ ((ic l).take k) (by rfl) HT3 HONE1.out (by unfold maxLen; omega) (by omega) ?_; intro v5 w5 H5)
          | (refine step_app rfl (.tmp 37) (.tmp 39) 29 (by rfl) 3 i0 _ 1 8 Tryz.underlying29 hi hz0 hz1 hz2 rfl (by decide) _ _ _ (by rfl) (H5.alloc _) _ _ _ [.int .i64 x] (by rfl) (Rd.fresh w5 _ #[.int .i64 x] 1 1 rfl) oc1 (by unfold maxLen; omega) (by omega) ?_; intro v6 w6 H6)
          | (refine step_app rfl (.tmp 37) (.tmp 39) 29 (by rfl) 3 i0 _ 1 8 Tryz.underlying29 hi hz0 hz1 hz2 rfl (by decide) _ _ _ (by rfl) H5 _ _ _ [.int .i64 x] (by rfl) (own_take (k := 1) H5.h1 (Nat.le_refl _)) oc1 (by unfold maxLen; omega) (by omega) ?_; intro v6 w6 H6)
          | (refine step_app rfl (.tmp 40) (.tmp 43) 29 (by rfl) 3 i0 _ 1 8 Tryz.underlying29 hi hz0 hz1 hz2 rfl (by decide) _ _ _ (by rfl) H6 (lo := 0) (hi' := w6.heap.size) _ 0 _ [] (by rfl) ⟨rfl, fun h => absurd h (Nat.lt_irrefl 0)⟩ (by intro u hu; simp at hu) (by unfold maxLen; omega) (by omega) ?_; intro v7 w7 H7))
        all_goals
          have H8 : Sep w0 w7 (Res.row v7 3 1 (n + 1) ((ic l).take k ++ .int .i64 x :: (ic l).drop k) :: L) := by
            replace H7 := by first | exact H7.drop2.drop2 | exact H7.drop2
            first
              | rw [show 0 + k + 1 + (n - k) = n + 1 by omega] at H7
              | rw [show 0 + k + 1 + 0 = n + 1 by omega] at H7
            rw [HDN.out]; have := H7; simp only [List.nil_append, List.append_nil] at this; exact this
          clear H5 H6 H7 HA HT1 HB HT2 HC1 HT3
          (rw [← HI.out] at H8; clear H; go_wp2; go_ret; exact Put7Post.mk rfl HIL.out (Nat.succ_pos _) H8)
      ·
        go_wp2_with fail
        go_region_law (first
          | (refine step_app rfl (.tmp 33) (.tmp 36) 29 (by rfl) 3 i0 _ 1 8 Tryz.underlying29 hi hz0 hz1 hz2 rfl (by decide) _ _ _ (by rfl) HA _ _ _ ((ic l).take k) (by rfl) HT1 HONE1.out (by unfold maxLen; omega) (by omega) ?_; intro v5 w5 H5)
          | (refine step_app rfl (.tmp 33) (.tmp 36) 29 (by rfl) 3 i0 _ 1 8 Tryz.underlying29 hi hz0 hz1 hz2 rfl (by decide) _ _ _ (by rfl) HB _ _ _ ((ic l).take k) (by rfl) HT2 HONE1.out (by unfold maxLen; omega) (by omega) ?_; intro v5 w5 H5)
          | (refine step_app rfl (.tmp 33) (.tmp 36) 29 (by rfl) 3 i0 _ 1 8 Tryz.underlying29 hi hz0 hz1 hz2 rfl (by decide) _ _ _ (by rfl) HC1 _ _ _ ((ic l).take k) (by rfl) HT3 HONE1.out (by unfold maxLen; omega) (by omega) ?_; intro v5 w5 H5)
          | (refine step_app rfl (.tmp 37) (.tmp 39) 29 (by rfl) 3 i0 _ 1 8 Tryz.underlying29 hi hz0 hz1 hz2 rfl (by decide) _ _ _ (by rfl) (H5.alloc _) _ _ _ [.int .i64 x] (by rfl) (Rd.fresh w5 _ #[.int .i64 x] 1 1 rfl) oc1 (by unfold maxLen; omega) (by omega) ?_; intro v6 w6 H6)
          | (refine step_app rfl (.tmp 37) (.tmp 39) 29 (by rfl) 3 i0 _ 1 8 Tryz.underlying29 hi hz0 hz1 hz2 rfl (by decide) _ _ _ (by rfl) H5 _ _ _ [.int .i64 x] (by rfl) (own_take (k := 1) H5.h1 (Nat.le_refl _)) oc1 (by unfold maxLen; omega) (by omega) ?_; intro v6 w6 H6)
          | (refine step_app rfl (.tmp 40) (.tmp 43) 29 (by rfl) 3 i0 _ 1 8 Tryz.underlying29 hi hz0 hz1 hz2 rfl (by decide) _ _ _ (by rfl) H6 (lo := 0) (hi' := w6.heap.size) _ (n - k) _ ((ic l).drop k) (by rfl) (by have := Rd.drop (k := k) (own_take (k := n) (by first | exact H6.h1 | exact H6.h2) (Nat.le_refl _)); rw [Nat.mul_one, Nat.mul_one, List.take_of_length_le (by omega), Nat.zero_add] at this; exact this) HONE2.out (by unfold maxLen; omega) (by omega) ?_; intro v7 w7 H7))
        all_goals
          have H8 : Sep w0 w7 (Res.row v7 3 1 (n + 1) ((ic l).take k ++ .int .i64 x :: (ic l).drop k) :: L) := by
            replace H7 := by first | exact H7.drop2.drop2 | exact H7.drop2
            first
              | rw [show 0 + k + 1 + (n - k) = n + 1 by omega] at H7
              | rw [show 0 + k + 1 + 0 = n + 1 by omega] at H7
            have := H7; simp only [List.nil_append, List.append_assoc, List.cons_append] at this; exact this
          clear H5 H6 H7 HA HT1 HB HT2 HC1 HT3
          (rw [← HI.out] at H8; clear H; go_wp2; go_ret; exact Put7Post.mk rfl HIL.out (Nat.succ_pos _) H8)
end Go.Proofs.YtjkppigjajknaaaGreatDoor

namespace Go.Proofs.YtjkppigjajknaaaGreatDoor
open Go.RowKit

set_option maxRecDepth 100000 in
theorem spec_orients_ro {v : Value} {s : List Cell} (w : World) (h : CellsRd w 0 w.heap.size v s) (hsh : isShape s = true) :
    Calls Tryz.prog 164 #[v] w fun e w' => ∃ v', e = .returned v' ∧ CellSSRd w' w.heap.size w'.heap.size v' (orients s) ∧ Below w.heap.size w w' :=
  (spec_orients_c w h hsh).mono fun _ _ ⟨v', _, he, hP, H⟩ => ⟨v', he, hP ▸ H.shpsRdNew rfl, H.below⟩
/-- numbers put in one after another -/
theorem srtU_app {l m : List Int} : srtU (l ++ m) = m.foldl (fun a n => insN n a) (srtU l) := by simp [srtU]

set_option maxRecDepth 100000 in
set_option maxHeartbeats 4000000 in
theorem spec_plc_c {v v2 : Value} {r : Reg} {s : List Cell} (w : World) (h : RegRd w 0 w.heap.size v r) (h2 : CellsRd w 0 w.heap.size v2 s) (hv : r.Valid) (hsh : isShape s = true) :
    Calls Tryz.prog 127 #[v, v2] w fun e w' => ∃ v', e = .returned v' ∧ IntsIn w' w.heap.size w'.heap.size v' (plc r s) ∧ Below w.heap.size w w' := by
  obtain ⟨i0, hi, hz0, hz1, hz2⟩ := info_parts infoCellI
  obtain ⟨wn, hwn⟩ : ∃ wn : Nat, r.w = (wn : Int) := ⟨r.w.toNat, by have := hv.1; omega⟩
  obtain ⟨hn, hhn⟩ : ∃ hn : Nat, hn = r.rows.length := ⟨_, rfl⟩
  have hw1 := hv.1
  have hw6 := hv.2.1
  have hh6 := hv.2.2.2.1
  have HW := Lib.hid hwn
  have HHN := Lib.hid hhn
  have HV := Lib.hid hv
  have HRD : Hid (∀ w1, Below w.heap.size w w1 → RegRd w1 0 w1.heap.size v r) := Lib.hid fun w1 b1 => (h.keep (SameIn.of_below b1 (Nat.le_refl _))).more (Nat.le_refl _) b1.size
  have HOR : Hid (∀ w1, Below w.heap.size w w1 → Calls Tryz.prog 164 #[v2] w1 fun e w' => ∃ v', e = .returned v' ∧ CellSSRd w' w1.heap.size w'.heap.size v' (orients s) ∧ Below w1.heap.size w1 w') := Lib.hid fun w1 b1 =>
    spec_orients_ro w1 ((h2.keep (SameIn.of_below b1 (Nat.le_refl _))).more (Nat.le_refl _) b1.size) hsh
  obtain ⟨T, hT⟩ : ∃ T, T = orients s := ⟨_, rfl⟩
  have HTS : Hid (∀ t ∈ T, ∀ c ∈ t, Sml 20 c) := Lib.hid (by rw [hT]; exact orients_sml hsh)
  have HTL : Hid (∀ t ∈ T, t.length ≤ 8) := Lib.hid (by rw [hT]; exact orients_len8 hsh)
  have HT8 : Hid (T.length ≤ 8) := Lib.hid (by rw [hT]; exact orients_le 8)
  have HPL : Hid (plc r s = srtU (rawT r T)) := Lib.hid (by rw [hT]; rfl)
  rw [← hT] at HOR
  obtain ⟨sr, rfl, hsr⟩ := h
  obtain ⟨A, c, rfl, _, _⟩ := hsr
  obtain ⟨A2, c2, rfl, _, _⟩ := h2
  rw [hwn] at hw1 hw6 HRD ⊢
  rw [← hhn] at hh6 HRD ⊢
  have H0 := ((Sep.start w).box 36 #[.int .i64 (wn : Int), .slice A hn c]).rowBox 3 #[] 1 0 rfl (by decide)
  obtain ⟨bR, hbR⟩ : ∃ bR, bR = w.heap.size := ⟨_, rfl⟩
  simp only [World.size_alloc] at H0
  rw [← hbR] at H0
  clear hv hwn hhn hT hsh
  go_enter Tryz.func127, Tryz.ntmps127
  go_upto_region 2 with fail
  rw [← hbR]
  generalize ((w.alloc (.cells #[.int .i64 (wn : Int), .slice A hn c] 36)).alloc (.cells #[] 3)) = W at *
  clear hbR
  have HO1 := Lib.hid (HOR.out W H0.below)
  go_wp2_with fail
  refine (HO1.out).mono ?_
  rintro e w2 ⟨ov, rfl, hss, b2⟩
  have H2 := (H0.same b2).p2
  have HSS := Lib.hid hss
  obtain ⟨vs, ⟨At, ct, rfl, hmt, hrt⟩, hsl⟩ := hss
  have HRT := Lib.hid hrt
  have HSL := Lib.hid hsl
  obtain ⟨lo, hlo⟩ : ∃ lo, lo = W.heap.size := ⟨_, rfl⟩
  rw [← hlo] at H2 HRT HSL HSS b2
  clear H0 HO1 b2 hrt hsl HOR hlo HSS
  go_wp2
  go_loopw [5, 7] (fun ov kv wx => ∃ (k n g cp : Nat) (acc : List Int), k ≤ T.length ∧ kv = .int .i64 k ∧ ov = .slice (some ⟨g, 0, none⟩) n cp ∧ Hid (acc = rawT r (T.take k)) ∧ Hid (n = (srtU acc).length) ∧ Sep w wx [Res.row (.slice (some ⟨g, 0, none⟩) n cp) 3 1 n (ic (srtU acc)), Res.box bR 36 #[.int .i64 (wn : Int), .slice A hn c], Res.same lo w2.heap.size w2]) (fun _ kv _ => T.length - (intOf kv).toNat)
  case atStart => exact ⟨0, 0, _, _, [], Nat.zero_le _, rfl, rfl, Lib.hid rfl, Lib.hid rfl, H2⟩
  case round =>
    clear H2
    obtain ⟨k, n, g, cp, acc, hk, rfl, rfl, HACC, HN, H⟩ := hrel
    have hT8 := HT8.out
    by_cases hlt : k < T.length
    · have hlti : (k : Int) < (T.length : Int) := by omega
      obtain ⟨b, off, t, x, rfl, hb1, hb2, hla, x1, xr⟩ := HRT.out.slot HSL.out rfl hlt
      have c0 : wr.cell? ⟨bR, 0, none⟩ = some (.int .i64 (wn : Int)) := H.h1.cell 0
      have c1 : wr.cell? ⟨bR, 1, none⟩ = some (.slice A hn c) := H.h1.cell 1
      have HIS := Lib.hid (spec_IsRegion_c wr (HRD.out wr H.below))
      rw [Reg.valid_iff.2 HV.out] at HIS
      have HLA := Lib.hid hla
      have HX1 := Lib.hid x1
      have HXR := Lib.hid xr
      obtain ⟨Ax, cx, rfl, hmx, hrx⟩ := xr
      have HRX := Lib.hid hrx
      clear hla x1 hrx
      go_wp2_with fail
      refine (HIS.out).mono ?_
      rintro e w3 ⟨rfl, b3⟩
      have H3 := H.step b3
      clear H HIS b3 c0 c1
      go_wp2
      go_loopw [5, 8] (fun ov yv wx => ∃ (y n g cp : Nat) (acc : List Int), y ≤ hn ∧ yv = .int .i64 y ∧ ov = .slice (some ⟨g, 0, none⟩) n cp ∧ Hid (acc = rawT r (T.take k) ++ rawY r t y) ∧ Hid (n = (srtU acc).length) ∧ Sep w wx [Res.row (.slice (some ⟨g, 0, none⟩) n cp) 3 1 n (ic (srtU acc)), Res.box bR 36 #[.int .i64 (wn : Int), .slice A hn c], Res.same lo w2.heap.size w2]) (fun _ yv _ => hn - (intOf yv).toNat)
      case atStart => exact ⟨0, n, g, cp, acc, Nat.zero_le _, rfl, rfl, Lib.hid (by rw [HACC.out]; simp [rawY]), HN, H3⟩
      case round =>
        clear H3 HACC HN
        obtain ⟨y, n, g, cp, acc, hy, rfl, rfl, HACC, HN, H⟩ := hrel
        have c1 : wr.cell? ⟨bR, 1, none⟩ = some (.slice A hn c) := H.h1.cell 1
        by_cases hlty : y < hn
        · have hltyi : (y : Int) < (hn : Int) := by omega
          go_wp2
          clear c1
          go_loopw [5, 9] (fun ov xv wx => ∃ (x n g cp : Nat) (acc : List Int), x ≤ wn ∧ xv = .int .i64 x ∧ ov = .slice (some ⟨g, 0, none⟩) n cp ∧ Hid (acc = rawT r (T.take k) ++ rawY r t y ++ rawX r t y x) ∧ Hid (n = (srtU acc).length) ∧ Sep w wx [Res.row (.slice (some ⟨g, 0, none⟩) n cp) 3 1 n (ic (srtU acc)), Res.box bR 36 #[.int .i64 (wn : Int), .slice A hn c], Res.same lo w2.heap.size w2]) (fun _ xv _ => wn - (intOf xv).toNat)
          case atStart => exact ⟨0, n, g, cp, acc, Nat.zero_le _, rfl, rfl, Lib.hid (by rw [HACC.out]; simp [rawX]), HN, H⟩
          case round =>
            clear H HACC HN
            obtain ⟨x, n, g, cp, acc, hx, rfl, rfl, HACC, HN, H⟩ := hrel
            have c0 : wr.cell? ⟨bR, 0, none⟩ = some (.int .i64 (wn : Int)) := H.h1.cell 0
            by_cases hltx : x < wn
            · have hltxi : (x : Int) < (wn : Int) := by omega
              have H1 := H.rowBox 49 #[] 2 0 rfl (by decide)
              have htl := HTL.out t (List.mem_of_getElem? HLA.out)
              clear H
              go_wp2
              clear c0
              go_loopw [10, 11] (fun mv jv wx => ∃ j : Nat, j ≤ t.length ∧ jv = .int .i64 j ∧ Sep w wx [Res.row mv 49 2 j (cc ((t.take j).map fun c => ⟨c.x + x, c.y + y⟩)), Res.row (.slice (some ⟨g, 0, none⟩) n cp) 3 1 n (ic (srtU acc)), Res.box bR 36 #[.int .i64 (wn : Int), .slice A hn c], Res.same lo w2.heap.size w2]) (fun _ jv _ => t.length - (intOf jv).toNat)
              case atStart => exact ⟨0, Nat.zero_le _, rfl, H1⟩
              case round =>
                clear H1
                obtain ⟨j, hj, rfl, H⟩ := hrel
                have y1 : wr.cell? ⟨b, off + k, none⟩ = some (.slice Ax t.length cx) := (same_cell H.h3 hb1 hb2).trans HX1.out
                by_cases hltj : j < t.length
                · have hltji : (j : Int) < (t.length : Int) := by omega
                  obtain ⟨bt, ot, d, rfl, hbt1, hbt2, hld, z1, z2⟩ := HRX.out.at2 hltj
                  have y2 := (same_cell H.h3 hbt1 hbt2).trans z1
                  have y3 := (same_cell H.h3 hbt1 hbt2).trans z2
                  obtain ⟨⟨d1, d2⟩, d3, d4⟩ := HTS.out t (List.mem_of_getElem? HLA.out) d (List.mem_of_getElem? hld)
                  have HMT := Lib.hid (map_take_g (f := fun c => ⟨c.x + x, c.y + y⟩) hld)
                  have e1 : IntKind.i64.wrap (d.x + x) = d.x + x := IntWalk.i64_in _ (by omega)
                  have e2 : IntKind.i64.wrap (d.y + y) = d.y + y := IntWalk.i64_in _ (by omega)
                  clear hld z1 z2
                  go_wp2_with fail
                  go_region_law (refine step_app rfl (.tmp 50) (.tmp 72) 25 (by rfl) 49 i0 _ 2 16 Tryz.underlying25 hi hz0 hz1 hz2 rfl (by decide) _ _ _ (by rfl) ((H.alloc _).drew) _ _ _ [.int .i64 (d.x + x), .int .i64 (d.y + y)] (by rfl) (Rd.fresh wr _ #[.int .i64 (d.x + x), .int .i64 (d.y + y)] 2 1 rfl) oc2 (by unfold maxLen; omega) (by omega) ?_; intro v5 w5 H5)
                  all_goals
                    rw [HMT.out] at H5
                    clear H y1 y2 y3
                    go_wp2
                    go_roundw
                    case rel => exact ⟨j + 1, by omega, by go_num, H5⟩
                    case measure => simp [intOf]; omega
                · obtain rfl : j = t.length := by omega
                  obtain ⟨M, hM⟩ : ∃ M, M = moveS t x y := ⟨_, rfl⟩
                  have hH : Sep w wr [Res.row u10 49 2 M.length (cc M), Res.row (.slice (some ⟨g, 0, none⟩) n cp) 3 1 n (ic (srtU acc)), Res.box bR 36 #[.int .i64 (wn : Int), .slice A hn c], Res.same lo w2.heap.size w2] := by
                    rw [List.take_length] at H
                    rw [hM, moveS_len]
                    exact H
                  have HMX := Lib.hid hM
                  have hml : M.length ≤ 8 := by rw [hM, moveS_len]; exact htl
                  obtain ⟨Am, cm, rfl, _, _, _⟩ := Res.row_at hH.h0
                  have HMC := Lib.hid (spec_maskCells_c wr (HRD.out wr hH.below) (hH.oi.sr.more (Nat.zero_le _) (Nat.le_refl _)) HV.out (by omega))
                  have c0 : wr.cell? ⟨bR, 0, none⟩ = some (.int .i64 (wn : Int)) := hH.h2.cell 0
                  have c1 : wr.cell? ⟨bR, 1, none⟩ = some (.slice A hn c) := hH.h2.cell 1
                  have HXS : Hid (rawX r t y (x + 1) = rawX r t y x ++ optI (maskS r M)) := Lib.hid (by rw [hM]; exact rawX_succ)
                  have hnl : n ≤ 1000 := by
                    rw [HN.out]
                    refine Nat.le_trans srtU_len ?_
                    rw [HACC.out, List.length_append, List.length_append]
                    have a1 := rawT_len HV.out (T.take k)
                    have a2 := rawY_len (t := t) HV.out y
                    have a3 := rawX_len (r := r) (t := t) (y := y) x
                    rw [List.length_take] at a1
                    omega
                  rw [mskV_eq] at HMC
                  obtain ⟨O, hO⟩ : ∃ O, O = maskS r M := ⟨_, rfl⟩
                  rw [← hO] at HMC HXS
                  clear H hM hO
                  go_wp2_with fail
                  refine (HMC.out).mono ?_
                  rintro e w5 ⟨rfl, b5⟩
                  have H5 := (hH.step b5).drop
                  clear hH b5 HMC c0 c1
                  cases O with
                  | none =>
                    rw [show (none : Option Nat).isSome = false from rfl]
                    have HACC2 : Hid (acc = rawT r (T.take k) ++ rawY r t y ++ rawX r t y (x + 1)) := Lib.hid (by rw [HACC.out, HXS.out]; simp [optI])
                    go_wp2
                    go_roundw
                    case rel => exact ⟨x + 1, n, g, cp, acc, by omega, by go_num, rfl, HACC2, HN, H5⟩
                    case measure => simp [intOf]; omega
                  | some m =>
                    rw [show (some m : Option Nat).isSome = true from rfl, show mskN (some m) = (m : Int) from rfl]
                    have HACC2 : Hid (acc ++ [(m : Int)] = rawT r (T.take k) ++ rawY r t y ++ rawX r t y (x + 1)) := Lib.hid (by rw [HACC.out, HXS.out]; simp [optI])
                    have HPUT := Lib.hid (spec_put7_c (x := (m : Int)) H5 HN.out asc_srtU (by omega))
                    go_wp2_with fail
                    refine (HPUT.out).mono ?_
                    rintro e w6 ⟨g6, c6, rfl, H6⟩
                    rw [← srtU_snoc] at H6
                    clear H5 HPUT
                    go_wp2
                    go_roundw
                    case rel => exact ⟨x + 1, _, g6, c6, acc ++ [(m : Int)], by omega, by go_num, by rw [srtU_snoc], HACC2, Lib.hid rfl, H6⟩
                    case measure => simp [intOf]; omega
            · obtain rfl : x = wn := by omega
              have HACC2 : Hid (acc = rawT r (T.take k) ++ rawY r t (y + 1)) := Lib.hid (by
                have : r.w.toNat = x := by rw [HW.out]; rfl
                rw [HACC.out, rawY_succ, this, List.append_assoc])
              go_wp2
              go_roundw
              case rel => exact ⟨y + 1, n, g, cp, acc, by omega, by go_num, rfl, HACC2, HN, H⟩
              case measure => simp [intOf]; omega
        · obtain rfl : y = hn := by omega
          have HACC2 : Hid (acc = rawT r (T.take (k + 1))) := Lib.hid (by rw [HACC.out, rawT_take HLA.out, HHN.out])
          go_wp2
          go_roundw
          case rel => exact ⟨k + 1, n, g, cp, acc, by omega, by go_num, rfl, HACC2, HN, H⟩
          case measure => simp [intOf]; omega
    · obtain rfl : k = T.length := by omega
      have HP2 : Hid (srtU acc = plc r s) := Lib.hid (by rw [HPL.out, HACC.out, List.take_length])
      go_wp2
      go_ret
      refine ⟨_, rfl, ?_, H.below⟩
      have := H.oi
      unfold IntsIn
      rw [← HP2.out, ← HN.out]
      exact this
end Go.Proofs.YtjkppigjajknaaaGreatDoor

namespace Go.Proofs.YtjkppigjajknaaaGreatDoor
open Go.RowKit

theorem fold_take {l : List Int} {acc : List Int} {j : Nat} {x : Int} (h : l[j]? = some x) : insN x (srtU (acc ++ l.take j)) = srtU (acc ++ l.take (j + 1)) := by
  rw [← srtU_snoc, List.append_assoc, List.take_add_one, h]; rfl
set_option maxRecDepth 100000 in
set_option maxHeartbeats 1600000 in
theorem spec_all_c {v v2 : Value} {r : Reg} {ps : List (List Cell)} (w : World) (h : RegRd w 0 w.heap.size v r) (h2 : CellSSRd w 0 w.heap.size v2 ps) (hv : r.Valid) (hp : arePcs ps = true) :
    Calls Tryz.prog 78 #[v, v2] w fun e w' => ∃ v', e = .returned v' ∧ IntsIn w' w.heap.size w'.heap.size v' (allP r ps) ∧ Below w.heap.size w w' := by
  have HV := Lib.hid hv
  have HPS := Lib.hid (arePcs_on hp).1
  have hp5 := (arePcs_on hp).2.2
  have HRD : Hid (∀ w1, Below w.heap.size w w1 → RegRd w1 0 w1.heap.size v r) := Lib.hid fun w1 b1 => (h.keep (SameIn.of_below b1 (Nat.le_refl _))).more (Nat.le_refl _) b1.size
  have HAP : Hid (∀ w1, Below w.heap.size w w1 → Calls Tryz.prog 40 #[v2] w1 fun e w' => e = .returned (.bool true) ∧ Below w1.heap.size w1 w') := Lib.hid fun w1 b1 => by
    have := spec_arePcs_c w1 ((h2.keep (SameIn.of_below b1 (Nat.le_refl _))).more (Nat.le_refl _) b1.size) (by omega) (fun s hs => by have := shp_len (HPS.out s hs); omega)
    rw [hp] at this
    exact this
  obtain ⟨sr, rfl, hsr⟩ := h
  obtain ⟨A, c, rfl, _, _⟩ := hsr
  obtain ⟨vs, ⟨A2, c2, rfl, hm2, hr2⟩, hsl⟩ := h2
  have HR2 := Lib.hid hr2
  have HSL := Lib.hid hsl
  have H0 := ((Sep.start w).box 36 #[.int .i64 r.w, .slice A r.rows.length c]).rowBox 3 #[] 1 0 rfl (by decide)
  obtain ⟨bR, hbR⟩ : ∃ bR, bR = w.heap.size := ⟨_, rfl⟩
  simp only [World.size_alloc] at H0
  rw [← hbR] at H0
  clear hv hp hr2 hsl
  go_enter Tryz.func78, Tryz.ntmps78
  go_upto_region 2 with fail
  rw [← hbR]
  generalize ((w.alloc (.cells #[.int .i64 r.w, .slice A r.rows.length c] 36)).alloc (.cells #[] 3)) = W at *
  clear hbR
  go_wp2
  go_loopw [5, 6] (fun ov kv wx => ∃ (k n g cp : Nat) (acc : List Int), k ≤ ps.length ∧ kv = .int .i64 k ∧ ov = .slice (some ⟨g, 0, none⟩) n cp ∧ Hid (acc = allRaw r (ps.take k)) ∧ Hid (n = (srtU acc).length) ∧ Sep w wx [Res.row (.slice (some ⟨g, 0, none⟩) n cp) 3 1 n (ic (srtU acc)), Res.box bR 36 #[.int .i64 r.w, .slice A r.rows.length c]]) (fun _ kv _ => ps.length - (intOf kv).toNat)
  case atStart => exact ⟨0, 0, _, _, [], Nat.zero_le _, rfl, rfl, Lib.hid rfl, Lib.hid rfl, H0⟩
  case round =>
    clear H0
    obtain ⟨k, n, g, cp, acc, hk, rfl, rfl, HACC, HN, H⟩ := hrel
    by_cases hlt : k < ps.length
    · have hlti : (k : Int) < (ps.length : Int) := by omega
      obtain ⟨b, off, s, x, rfl, hb1, hb2, hla, x1, xr⟩ := HR2.out.slot HSL.out rfl hlt
      have HA1 := Lib.hid (HAP.out wr H.below)
      have HLA := Lib.hid hla
      have HX1 := Lib.hid x1
      have HXR := Lib.hid xr
      obtain ⟨Q, hQ⟩ : ∃ Q, Q = plc r s := ⟨_, rfl⟩
      have hpl := plc_len HV.out (s := s)
      rw [← hQ] at hpl
      have HQ := Lib.hid hQ
      obtain ⟨Ax, cx, rfl, _, _⟩ := xr
      clear hla x1 hQ
      go_wp2_with fail
      refine (HA1.out).mono ?_
      rintro e w4 ⟨rfl, b4⟩
      have H4 := (H.step b4).drew
      clear H b4 HA1
      have HPC : Hid (Calls Tryz.prog 127 #[.agg #[.int .i64 r.w, .slice A r.rows.length c], .slice Ax s.length cx] w4.drew fun e w' => ∃ v', e = .returned v' ∧ IntsIn w' w4.drew.heap.size w'.heap.size v' Q ∧ Below w4.drew.heap.size w4.drew w') := Lib.hid (by
        rw [HQ.out]
        exact spec_plc_c w4.drew (HRD.out w4.drew H4.below) ((HXR.out.keep (SameIn.of_below H4.below (Nat.le_refl _))).more (Nat.le_refl _) H4.size) HV.out (HPS.out s (List.mem_of_getElem? HLA.out)))
      have c0 : w4.drew.cell? ⟨bR, 0, none⟩ = some (.int .i64 r.w) := H4.h1.cell 0
      have c1 : w4.drew.cell? ⟨bR, 1, none⟩ = some (.slice A r.rows.length c) := H4.h1.cell 1
      have y1 : w4.drew.cell? ⟨b, off + k, none⟩ = some (.slice Ax s.length cx) := (H4.below.cell (p := ⟨b, off + k, none⟩) hb2).trans HX1.out
      go_wp2_with fail
      go_cut [7] (fun pv wx => ∃ Ap cq m, pv = .slice Ap m cq ∧ Hid (m = Q.length) ∧ Sep w wx [Res.row (.slice Ap m cq) 3 1 m (ic Q), Res.row (.slice (some ⟨g, 0, none⟩) n cp) 3 1 n (ic (srtU acc)), Res.box bR 36 #[.int .i64 r.w, .slice A r.rows.length c]])
      case first =>
        go_region_with (go_at_call 127; (with_reducible refine (HPC.out).mono ?_); rintro e w5 ⟨pv, rfl, o5, b5⟩; have H5 := H4.oiNew b5 o5; obtain ⟨Ap, cq, rfl, _, _⟩ := o5.rd)
        all_goals (go_wp2_with fail; go_meet; exact ⟨Ap, cq, _, rfl, Lib.hid rfl, H5⟩)
      case rest =>
      obtain ⟨Ap, cq, m, rfl, HM, H5⟩ := hcut
      clear H4 HPC c0 c1 y1
      generalize hwc : wc = w6 at *
      clear hwc
      have hml : m ≤ 288 := by rw [HM.out]; exact hpl
      have hnl : acc.length ≤ 1440 := by
        rw [HACC.out]
        have a1 := allRaw_len HV.out (ps.take k)
        rw [List.length_take] at a1
        omega
      go_wp2
      go_loopw [5, 8] (fun ov jv wx => ∃ (j n g cp : Nat), j ≤ m ∧ jv = .int .i64 j ∧ ov = .slice (some ⟨g, 0, none⟩) n cp ∧ Hid (n = (srtU (acc ++ Q.take j)).length) ∧ Sep w wx [Res.row (.slice (some ⟨g, 0, none⟩) n cp) 3 1 n (ic (srtU (acc ++ Q.take j))), Res.row (.slice Ap m cq) 3 1 m (ic Q), Res.box bR 36 #[.int .i64 r.w, .slice A r.rows.length c]]) (fun _ jv _ => m - (intOf jv).toNat)
      case atStart => exact ⟨0, n, g, cp, Nat.zero_le _, rfl, rfl, by rw [List.take_zero, List.append_nil]; exact HN, by rw [List.take_zero, List.append_nil]; exact H5.g1⟩
      case round =>
        clear H5 HN
        obtain ⟨j, n, g, cp, hj, rfl, rfl, HN, H⟩ := hrel
        by_cases hltj : j < m
        · have hltji : (j : Int) < (m : Int) := by omega
          obtain ⟨gp, o, cc', he, _, _, _⟩ := own_shape H.h1 (by omega)
          injection he with he1 he2 he3
          subst he1 he3
          obtain ⟨rfl, _⟩ := own_blk H.h1
          obtain ⟨x, hx⟩ : ∃ x, Q[j]? = some x := ⟨Q[j]'(by rw [← HM.out]; exact hltj), List.getElem?_eq_getElem _⟩
          have x1 := own_cell1 H.h1 hx
          rw [Nat.zero_add] at x1
          have HX := Lib.hid hx
          have hnb : n ≤ 2000 := by
            rw [HN.out]
            refine Nat.le_trans srtU_len ?_
            rw [List.length_append, List.length_take]
            omega
          have HPUT := Lib.hid (spec_put7_c (x := x) H HN.out asc_srtU (by omega))
          clear hx
          go_wp2_with fail
          refine (HPUT.out).mono ?_
          rintro e w7 ⟨g7, c7, rfl, H7⟩
          rw [fold_take HX.out] at H7 ⊢
          clear H HPUT x1
          go_wp2
          go_roundw
          case rel => exact ⟨j + 1, _, g7, c7, by omega, by go_num, rfl, Lib.hid rfl, H7⟩
          case measure => simp [intOf]; omega
        · obtain rfl : j = m := by omega
          have HACC2 : Hid (acc ++ Q.take j = allRaw r (ps.take (k + 1))) := Lib.hid (by rw [HACC.out, allRaw_take HLA.out, HM.out, List.take_length, HQ.out])
          go_wp2
          go_roundw
          case rel => exact ⟨k + 1, n, g, cp, acc ++ Q.take j, by omega, by go_num, rfl, HACC2, HN, H.drop2⟩
          case measure => simp [intOf]; omega
    · obtain rfl : k = ps.length := by omega
      have HP2 : Hid (srtU acc = allP r ps) := Lib.hid (by rw [HACC.out, List.take_length]; rfl)
      go_wp2
      go_ret
      refine ⟨_, rfl, ?_, H.below⟩
      have := H.oi
      unfold IntsIn
      rw [← HP2.out, ← HN.out]
      exact this
end Go.Proofs.YtjkppigjajknaaaGreatDoor
