
/-
  Cells put in order: the reference's walk.
-/
import Derived.Test.YtghpkfihdcjlaaaGreatDoorMotAB
import Derived.Test.YtghpkfihdcjlaaaGreatDoorSepX
import Derived.Test.YtghpkfihdcjlaaaGreatDoorEqW
namespace Go.Proofs.YtghpkfihdcjlaaaGreatDoor
open Go.RowKit

theorem cc_take {l : List Cell} {k : Nat} (hk : k ≤ l.length) : (cc l).take (k * 2) = cc (l.take k) := by
  have h := cc_append (l.take k) (l.drop k)
  rw [List.take_append_drop] at h
  rw [h]
  exact List.take_left' (by rw [cc_length, List.length_take]; omega)
theorem cc_drop {l : List Cell} {k : Nat} (hk : k ≤ l.length) : (cc l).drop (k * 2) = cc (l.drop k) := by
  have h := cc_append (l.take k) (l.drop k)
  rw [List.take_append_drop] at h
  rw [h]
  exact List.drop_left' (by rw [cc_length, List.length_take]; omega)
section
variable {w : World} {e : TypeId} {sz n g c : Nat} {xs : List Value}
/-- the head of a row, read -/
theorem own_take {k : Nat} (h : w.ownsRow 0 e sz (.slice (some ⟨g, 0, none⟩) n c) n xs) (hk : k ≤ n) : Rd w 0 w.heap.size sz (some ⟨g, 0, none⟩) k (xs.take (k * sz)) := by
  obtain ⟨_, cs, hB, _⟩ := own_blk h
  refine ⟨by rw [List.length_take, h.1]; exact Nat.min_eq_left (Nat.mul_le_mul_right _ hk), fun _ => ⟨g, 0, rfl, Nat.zero_le _, hB.lt, fun j u hu => ?_⟩⟩
  rw [List.getElem?_take] at hu
  split at hu
  · exact own_cell h hu
  · cases hu
/-- the tail of a row, read -/
theorem own_drop {k : Nat} (h : w.ownsRow 0 e sz (.slice (some ⟨g, 0, none⟩) n c) n xs) : Rd w 0 w.heap.size sz (some ⟨g, k * sz, none⟩) (n - k) (xs.drop (k * sz)) := by
  obtain ⟨_, cs, hB, _⟩ := own_blk h
  refine ⟨by rw [List.length_drop, h.1, Nat.sub_mul], fun _ => ⟨g, k * sz, rfl, Nat.zero_le _, hB.lt, fun j u hu => ?_⟩⟩
  rw [List.getElem?_drop] at hu
  have := own_cell h hu
  rwa [Nat.zero_add] at this
end
theorem ins_one {l : List Cell} : ∀ u ∈ cc l, u.oneCell' = true := cc_onec
set_option maxRecDepth 100000 in
set_option maxHeartbeats 3200000 in
theorem spec_sort_c {v : Value} {s : List Cell} (w : World) (h : CellsRd w 0 w.heap.size v s) (hn : s.length ≤ 64) :
    Calls Tryz.prog 68 #[v] w fun e w' => ∃ v', e = .returned v' ∧ CellsIn w' w.heap.size w'.heap.size v' (sortC s) ∧ Below w.heap.size w w' := by
  obtain ⟨i0, hi, hz0, hz1, hz2⟩ := info_parts infoCellS
  obtain ⟨A, c, rfl, hm, hr⟩ := h
  have H0 := (Sep.start w).rowBox 46 #[] 2 0 rfl (by decide)
  have HR := Lib.hid hr
  clear hr
  go_enter Tryz.func68, Tryz.ntmps68
  go_wp2
  generalize w.alloc (.cells #[] 46) = W at *
  go_loopw [3, 4] (fun ov iv wx => ∃ (i n go co : Nat) (l : List Cell), i ≤ s.length ∧ iv = .int .i64 i ∧ ov = .slice (some ⟨go, 0, none⟩) n co ∧ n ≤ co ∧ n ≤ i ∧ Hid (l = sortC (s.take i)) ∧ Hid (n = l.length) ∧ Sep w wx [Res.row (.slice (some ⟨go, 0, none⟩) n co) 46 2 n (cc l)]) (fun _ iv _ => s.length - (intOf iv).toNat)
  case atStart => exact ⟨0, 0, _, _, [], Nat.zero_le _, rfl, rfl, Nat.le_refl _, Nat.le_refl _, Lib.hid rfl, Lib.hid rfl, H0⟩
  case round =>
    clear H0
    obtain ⟨i, n, go, co, l, his, rfl, rfl, hnc, hni, HL, HN, H⟩ := hrel
    by_cases hlt : i < s.length
    · obtain ⟨d, hd⟩ : ∃ d, s[i]? = some d := ⟨s[i], List.getElem?_eq_getElem hlt⟩
      obtain ⟨b, off, hA, _, hb, hc⟩ := HR.out.2 (by omega)
      subst hA
      have q1 := (H.below.cell (p := ⟨b, off + i * 2, none⟩) hb).trans (hc _ _ (cc_at hd).1)
      have q2 : wr.cell? ⟨b, off + i * 2 + 1, none⟩ = some (.int .i64 d.y) := (H.below.cell (p := ⟨b, off + i * 2 + 1, none⟩) hb).trans (by rw [Nat.add_assoc]; exact hc _ _ (cc_at hd).2)
      have HQ1 : Hid (w.cell? ⟨b, off + i * 2, none⟩ = some (.int .i64 d.x)) := Lib.hid (hc _ _ (cc_at hd).1)
      have HQ2 : Hid (w.cell? ⟨b, off + i * 2 + 1, none⟩ = some (.int .i64 d.y)) := Lib.hid (by rw [Nat.add_assoc]; exact hc _ _ (cc_at hd).2)
      have hbr : b < wr.heap.size := by have := H.below.size; omega
      have l1 := Later.cell q1 hbr
      have l2 := Later.cell q2 hbr
      have hgr : go < wr.heap.size := by obtain ⟨_, _, hB, _⟩ := own_blk H.h0; exact hB.lt
      have HSR : Hid (Srt l) := Lib.hid (by rw [HL.out]; exact srt_sortC)
      have HS1 : Hid (sortC (s.take (i + 1)) = insC d l) := Lib.hid (by rw [List.take_add_one, hd, HL.out]; exact sortC_snoc)
      have HCE := Lib.hid H
      clear hc hd
      obtain ⟨wo, hwo⟩ : ∃ wo : World, wo = wr := ⟨_, rfl⟩
      subst hwo
      go_wp2
      go_loopw [5] (fun kv wx => ∃ k : Nat, k ≤ n ∧ kv = .int .i64 k ∧ Hid (∀ (j : Nat) (x : Cell), k ≤ j → l[j]? = some x → befB d x = true) ∧ Below wo.heap.size wo wx) (fun kv _ => (intOf kv).toNat)
      case atStart => exact ⟨n, Nat.le_refl _, rfl, Lib.hid (fun j x hj hx => by have := (List.getElem?_eq_some_iff.1 hx).1; have := HN.out; omega), Below.refl _ _⟩
      case round =>
        obtain ⟨k, hkn, rfl, HK, hbel⟩ := hrel
        have H1 := H.step hbel
        have x1 := (hbel.cell (p := ⟨b, off + i * 2, none⟩) hbr).trans q1
        have x2 := (hbel.cell (p := ⟨b, off + i * 2 + 1, none⟩) hbr).trans q2
        have hbr2 : b < wr.heap.size := by have := hbel.size; omega
        have hgr2 : go < wr.heap.size := by have := hbel.size; omega
        have m1 := Later.cell x1 hbr2
        have m2 := Later.cell x2 hbr2
        clear l1 l2
        by_cases hk0 : 0 < k
        · have hdk : decide ((0 : Int) < (k : Int)) = true := by simp; omega
          obtain ⟨p, hp⟩ : ∃ p, p = k - 1 := ⟨_, rfl⟩
          have hpk : k = p + 1 := by omega
          have HPK := Lib.hid hpk
          obtain ⟨y, hy⟩ : ∃ y, l[p]? = some y := ⟨l[p]'(by rw [← HN.out]; omega), List.getElem?_eq_getElem _⟩
          have z1 := own_cell2 H1.h0 hy
          rw [Nat.zero_add] at z1
          obtain ⟨z1, z2⟩ := z1
          have m3 := Later.cell z1 hgr2
          have m4 := Later.cell z2 hgr2
          have HY := Lib.hid hy
          have e1 : (k : Int) - 1 = (p : Int) := by omega
          have e2 : IntKind.i64.wrap ((k : Int) - 1) = (p : Int) := by rw [e1]; exact IntWalk.i64_in _ (by omega)
          have e3 : (p : Int) < (n : Int) := by omega
          have e4 : p < n := by omega
          clear hp hy hpk
          have HC : Hid (∀ w', Calls Tryz.prog 63 #[.agg #[.int .i64 d.x, .int .i64 d.y], .agg #[.int .i64 y.x, .int .i64 y.y]] w' fun e w'' => e = .returned (.bool (befB d y)) ∧ Below w'.heap.size w' w'') := Lib.hid fun w' => spec_bef_c d y w'
          cases hbf : befB d y
          · rw [hbf] at HC
            have HB := Lib.hid hbf
            have HW : ¬ y = d → Hid (∀ (j : Nat) (x : Cell), j < k → l[j]? = some x → befB x d = true) := fun hne => Lib.hid (by
              intro j x hj hx
              have hpk := HPK.out
              rcases bef_tri d y with h | h | h
              · rw [hbf] at h; cases h
              · exact absurd h.symm hne
              · by_cases e : j = p
                · subst e
                  have := HY.out
                  rw [hx] at this
                  injection this with this
                  rw [this]; exact h
                · exact bef_trans (srt_lt HSR.out (by omega) hx HY.out) h)
            have HW := Lib.hid HW
            clear hbf
            go_wp2_with fail
            refine wp_region_later (by kernel_rfl) (by kernel_rfl) ?_
            repeat (go_big_quiet_step ((go_at_call 63; exact Later.call (HC.out _))))
            refine wpQuiet_nil ?_
            intro w3 hw3
            obtain ⟨u3, hu3⟩ := hw3
            subst hu3
            have hb3 := u3.h
            generalize u3.w = w3 at *
            have H2 := H1.step hb3
            have q3 := (hb3.cell (p := ⟨b, off + i * 2, none⟩) hbr2).trans x1
            have q4 := (hb3.cell (p := ⟨b, off + i * 2 + 1, none⟩) hbr2).trans x2
            have q5 := (hb3.cell (p := ⟨go, p * 2, none⟩) hgr2).trans z1
            have q6 := (hb3.cell (p := ⟨go, p * 2 + 1, none⟩) hgr2).trans z2
            clear H1 H m1 m2 m3 m4 x1 x2 z1 z2 q1 q2 HC HCE
            by_cases hyd : y = d
            · subst hyd
              have heq : ∀ n, (Op.equal 46 (.agg #[.int .i64 y.x, .int .i64 y.y]) (.agg #[.int .i64 y.x, .int .i64 y.y])).run Tryz.prog (w3.drewN n) = .ok true (w3.drewN n) := fun n => by have := run_equal_cell (w3.drewN n) y y; rw [decide_eq_true rfl] at this; exact this
              have HS2 : Hid (sortC (s.take (i + 1)) = l) := Lib.hid (by rw [HS1.out]; exact insC_has HSR.out (List.mem_of_getElem? HY.out))
              go_wp2_with fail
              go_quiet (fail)
              have H3 := H2.drewN nq
              clear H2 heq q3 q4 q5 q6
              generalize w3.drewN nq = w4 at *
              go_wp2
              go_roundw
              case rel => exact ⟨i + 1, n, go, co, l, by omega, by go_num, rfl, hnc, by omega, Lib.hid HS2.out.symm, HN, H3⟩
              case measure => simp [intOf]; omega
            · have HYD := Lib.hid hyd
              have HWH := HW.out hyd
              clear hyd HW
              go_wp2_with fail
              refine wp_region_quiet_lit (by kernel_rfl) (by kernel_rfl) ?_
              repeat (go_big_quiet_step (fail))
              go_big_quiet_want
              go_big_quiet_op
              refine ⟨.bool false, fun aa => ?_, ?_⟩
              · by_cases hx : y.x = d.x
                · have hy : ¬ y.y = d.y := fun hy => HYD.out (by cases y; cases d; simp at hx hy; subst hx; subst hy; rfl)
                  simp [hx, hy]
                · simp [hx]
              go_big_quiet_on
              repeat (go_big_quiet_step (fail))
              refine wpQuiet_nil ?_
              intro _ hwq'
              obtain ⟨nq, hwq''⟩ := hwq'
              subst hwq''
              have H3 := H2.drewN nq
              clear H2 q5 q6
              replace q3 : (w3.drewN nq).cell? ⟨b, off + i * 2, none⟩ = some (.int .i64 d.x) := q3
              replace q4 : (w3.drewN nq).cell? ⟨b, off + i * 2 + 1, none⟩ = some (.int .i64 d.y) := q4
              generalize w3.drewN nq = w4 at *
              have t1 : (0 : Int) ≤ (k : Int) := by omega
              have t2 : (k : Int) ≤ (co : Int) := by omega
              have t3 : (k : Int) ≤ (n : Int) := by omega
              have t4 : (n : Int) ≤ (co : Int) := by omega
              have HI : Hid (cc (l.take k) ++ [Value.int .i64 d.x, .int .i64 d.y] ++ cc (l.drop k) = cc (sortC (s.take (i + 1)))) := Lib.hid (by
                rw [HS1.out, insC_at HSR.out HK.out HWH.out, cc_append, List.append_assoc]; rfl)
              have HLE : Hid (n + 1 = (sortC (s.take (i + 1))).length) := Lib.hid (by
                rw [HS1.out, insC_at HSR.out HK.out HWH.out, List.length_append, List.length_cons, List.length_take, List.length_drop, ← HN.out]; omega)
              have hkl : k ≤ l.length := by rw [← HN.out]; exact hkn
              have HA := (H3.rowBox 46 #[] 2 0 rfl (by decide)).drew
              have HT1 := own_take (k := k) HA.h1 hkn
              have HB := ((H3.rowBox 46 #[] 2 0 rfl (by decide)).rowBox 46 #[.int .i64 d.x, .int .i64 d.y] 2 1 rfl (by decide)).g1.drew
              have HT2 := own_take (k := k) HB.h2 hkn
              have HC1 := ((H3.rowBox 46 #[.int .i64 d.x, .int .i64 d.y] 2 1 rfl (by decide)).rowBox 46 #[] 2 0 rfl (by decide)).drew
              have HT3 := own_take (k := k) HC1.h2 hkn
              rw [cc_take hkl] at HT1 HT2 HT3
              simp only [World.size_alloc] at HB HC1
              have zb1 := (H3.below.cell (p := ⟨b, off + i * 2, none⟩) hb).trans HQ1.out
              have zb2 := (H3.below.cell (p := ⟨b, off + i * 2 + 1, none⟩) hb).trans HQ2.out
              have za1 : (w4.alloc (.cells #[] 46)).cell? ⟨b, off + i * 2, none⟩ = some (.int .i64 d.x) := (HA.below.cell (p := ⟨b, off + i * 2, none⟩) hb).trans HQ1.out
              have za2 : (w4.alloc (.cells #[] 46)).cell? ⟨b, off + i * 2 + 1, none⟩ = some (.int .i64 d.y) := (HA.below.cell (p := ⟨b, off + i * 2 + 1, none⟩) hb).trans HQ2.out
              by_cases hkc : co = k
              ·
                have hnk : n - k = 0 := by omega
                have HDN : Hid (cc (l.drop k) = []) := Lib.hid (by rw [List.drop_of_length_le (by rw [← HN.out]; omega)]; rfl)
                have HI2 : Hid (([] : List Value) ++ cc (l.take k) ++ [Value.int .i64 d.x, .int .i64 d.y] ++ [] = cc (sortC (s.take (i + 1)))) := Lib.hid (by rw [← HI.out, HDN.out, List.nil_append])
                go_wp2_with fail
                go_region_law (first
                  | (refine step_app rfl (.tmp 45) (.tmp 48) 24 (by rfl) 46 i0 _ 2 16 Tryz.underlying24 hi hz0 hz1 hz2 rfl (by decide) _ _ _ (by rfl) HA _ _ _ (cc (l.take k)) (by rfl) HT1 cc_onec (by unfold maxLen; omega) (by omega) ?_; intro v5 w5 H5; have z1 := (H5.below.cell (p := ⟨b, off + i * 2, none⟩) hb).trans HQ1.out; have z2 := (H5.below.cell (p := ⟨b, off + i * 2 + 1, none⟩) hb).trans HQ2.out)
                  | (refine step_app rfl (.tmp 45) (.tmp 48) 24 (by rfl) 46 i0 _ 2 16 Tryz.underlying24 hi hz0 hz1 hz2 rfl (by decide) _ _ _ (by rfl) HB _ _ _ (cc (l.take k)) (by rfl) HT2 cc_onec (by unfold maxLen; omega) (by omega) ?_; intro v5 w5 H5; have z1 := (H5.below.cell (p := ⟨b, off + i * 2, none⟩) hb).trans HQ1.out; have z2 := (H5.below.cell (p := ⟨b, off + i * 2 + 1, none⟩) hb).trans HQ2.out)
                  | (refine step_app rfl (.tmp 45) (.tmp 48) 24 (by rfl) 46 i0 _ 2 16 Tryz.underlying24 hi hz0 hz1 hz2 rfl (by decide) _ _ _ (by rfl) HC1 _ _ _ (cc (l.take k)) (by rfl) HT3 cc_onec (by unfold maxLen; omega) (by omega) ?_; intro v5 w5 H5; have z1 := (H5.below.cell (p := ⟨b, off + i * 2, none⟩) hb).trans HQ1.out; have z2 := (H5.below.cell (p := ⟨b, off + i * 2 + 1, none⟩) hb).trans HQ2.out)
                  | (refine step_app rfl (.tmp 49) (.tmp 54) 24 (by rfl) 46 i0 _ 2 16 Tryz.underlying24 hi hz0 hz1 hz2 rfl (by decide) _ _ _ (by rfl) (H5.alloc _) _ _ _ [.int .i64 d.x, .int .i64 d.y] (by rfl) (Rd.fresh w5 _ #[.int .i64 d.x, .int .i64 d.y] 2 1 rfl) oc2 (by unfold maxLen; omega) (by omega) ?_; intro v6 w6 H6; have z1 := (H6.below.cell (p := ⟨b, off + i * 2, none⟩) hb).trans HQ1.out; have z2 := (H6.below.cell (p := ⟨b, off + i * 2 + 1, none⟩) hb).trans HQ2.out)
                  | (refine step_app rfl (.tmp 49) (.tmp 54) 24 (by rfl) 46 i0 _ 2 16 Tryz.underlying24 hi hz0 hz1 hz2 rfl (by decide) _ _ _ (by rfl) H5 _ _ _ [.int .i64 d.x, .int .i64 d.y] (by rfl) (own_take (k := 1) H5.h1 (Nat.le_refl _)) oc2 (by unfold maxLen; omega) (by omega) ?_; intro v6 w6 H6; have z1 := (H6.below.cell (p := ⟨b, off + i * 2, none⟩) hb).trans HQ1.out; have z2 := (H6.below.cell (p := ⟨b, off + i * 2 + 1, none⟩) hb).trans HQ2.out)
                  | (refine step_app rfl (.tmp 55) (.tmp 58) 24 (by rfl) 46 i0 _ 2 16 Tryz.underlying24 hi hz0 hz1 hz2 rfl (by decide) _ _ _ (by rfl) H6 (lo := 0) (hi' := w6.heap.size) _ 0 _ [] (by rfl) ⟨rfl, fun h => absurd h (Nat.lt_irrefl 0)⟩ (by intro u hu; exact ins_one (l := l.drop k) u (by first | exact hu | simp at hu)) (by unfold maxLen; omega) (by omega) ?_; intro v7 w7 H7)
                  | (refine step_app rfl (.tmp 55) (.tmp 58) 24 (by rfl) 46 i0 _ 2 16 Tryz.underlying24 hi hz0 hz1 hz2 rfl (by decide) _ _ _ (by rfl) H6 (lo := 0) (hi' := w6.heap.size) _ 0 _ [] (by rfl) ⟨rfl, fun h => absurd h (Nat.lt_irrefl 0)⟩ (by intro u hu; exact ins_one (l := l.drop k) u (by first | exact hu | simp at hu)) (by unfold maxLen; omega) (by omega) ?_; intro v7 w7 H7))
                all_goals
                  rw [HI2.out] at H7
                  have H8 : Sep w w7 [Res.row v7 46 2 (n + 1) (cc (sortC (s.take (i + 1))))] := by
                    have := by first | exact H7.drop2.drop2 | exact H7.drop2
                    first
                      | (rw [show 0 + k + 1 + (n - k) = n + 1 by omega] at this; exact this)
                      | (rw [show 0 + k + 1 + 0 = n + 1 by omega] at this; exact this)
                  clear H5 H6 H7 HA HT1 HB HT2 HC1 HT3
                  obtain ⟨g7, o7, c7, rfl, hc7, _, _⟩ := own_shape H8.h0 (by omega)
                  obtain ⟨rfl, _⟩ := own_blk H8.h0
                  go_wp2
                  go_roundw
                  case rel => exact ⟨i + 1, n + 1, g7, c7, _, by omega, by go_num, rfl, hc7, by omega, Lib.hid rfl, HLE, H8⟩
                  case measure => simp [intOf]; omega
              ·
                go_wp2_with fail
                go_region_law (first
                  | (refine step_app rfl (.tmp 45) (.tmp 48) 24 (by rfl) 46 i0 _ 2 16 Tryz.underlying24 hi hz0 hz1 hz2 rfl (by decide) _ _ _ (by rfl) HA _ _ _ (cc (l.take k)) (by rfl) HT1 cc_onec (by unfold maxLen; omega) (by omega) ?_; intro v5 w5 H5; have z1 := (H5.below.cell (p := ⟨b, off + i * 2, none⟩) hb).trans HQ1.out; have z2 := (H5.below.cell (p := ⟨b, off + i * 2 + 1, none⟩) hb).trans HQ2.out)
                  | (refine step_app rfl (.tmp 45) (.tmp 48) 24 (by rfl) 46 i0 _ 2 16 Tryz.underlying24 hi hz0 hz1 hz2 rfl (by decide) _ _ _ (by rfl) HB _ _ _ (cc (l.take k)) (by rfl) HT2 cc_onec (by unfold maxLen; omega) (by omega) ?_; intro v5 w5 H5; have z1 := (H5.below.cell (p := ⟨b, off + i * 2, none⟩) hb).trans HQ1.out; have z2 := (H5.below.cell (p := ⟨b, off + i * 2 + 1, none⟩) hb).trans HQ2.out)
                  | (refine step_app rfl (.tmp 45) (.tmp 48) 24 (by rfl) 46 i0 _ 2 16 Tryz.underlying24 hi hz0 hz1 hz2 rfl (by decide) _ _ _ (by rfl) HC1 _ _ _ (cc (l.take k)) (by rfl) HT3 cc_onec (by unfold maxLen; omega) (by omega) ?_; intro v5 w5 H5; have z1 := (H5.below.cell (p := ⟨b, off + i * 2, none⟩) hb).trans HQ1.out; have z2 := (H5.below.cell (p := ⟨b, off + i * 2 + 1, none⟩) hb).trans HQ2.out)
                  | (refine step_app rfl (.tmp 49) (.tmp 54) 24 (by rfl) 46 i0 _ 2 16 Tryz.underlying24 hi hz0 hz1 hz2 rfl (by decide) _ _ _ (by rfl) (H5.alloc _) _ _ _ [.int .i64 d.x, .int .i64 d.y] (by rfl) (Rd.fresh w5 _ #[.int .i64 d.x, .int .i64 d.y] 2 1 rfl) oc2 (by unfold maxLen; omega) (by omega) ?_; intro v6 w6 H6; have z1 := (H6.below.cell (p := ⟨b, off + i * 2, none⟩) hb).trans HQ1.out; have z2 := (H6.below.cell (p := ⟨b, off + i * 2 + 1, none⟩) hb).trans HQ2.out)
                  | (refine step_app rfl (.tmp 49) (.tmp 54) 24 (by rfl) 46 i0 _ 2 16 Tryz.underlying24 hi hz0 hz1 hz2 rfl (by decide) _ _ _ (by rfl) H5 _ _ _ [.int .i64 d.x, .int .i64 d.y] (by rfl) (own_take (k := 1) H5.h1 (Nat.le_refl _)) oc2 (by unfold maxLen; omega) (by omega) ?_; intro v6 w6 H6; have z1 := (H6.below.cell (p := ⟨b, off + i * 2, none⟩) hb).trans HQ1.out; have z2 := (H6.below.cell (p := ⟨b, off + i * 2 + 1, none⟩) hb).trans HQ2.out)
                  | (refine step_app rfl (.tmp 55) (.tmp 58) 24 (by rfl) 46 i0 _ 2 16 Tryz.underlying24 hi hz0 hz1 hz2 rfl (by decide) _ _ _ (by rfl) H6 (lo := 0) (hi' := w6.heap.size) _ _ _ (cc (l.drop k)) (by rfl) (by have := own_drop (k := k) H6.h1; rw [cc_drop hkl] at this; exact this) (by intro u hu; exact ins_one (l := l.drop k) u (by first | exact hu | simp at hu)) (by unfold maxLen; omega) (by omega) ?_; intro v7 w7 H7)
                  | (refine step_app rfl (.tmp 55) (.tmp 58) 24 (by rfl) 46 i0 _ 2 16 Tryz.underlying24 hi hz0 hz1 hz2 rfl (by decide) _ _ _ (by rfl) H6 (lo := 0) (hi' := w6.heap.size) _ _ _ (cc (l.drop k)) (by rfl) (by have := own_drop (k := k) H6.h2; rw [cc_drop hkl] at this; exact this) (by intro u hu; exact ins_one (l := l.drop k) u (by first | exact hu | simp at hu)) (by unfold maxLen; omega) (by omega) ?_; intro v7 w7 H7))
                all_goals
                  rw [List.nil_append, HI.out] at H7
                  have H8 : Sep w w7 [Res.row v7 46 2 (n + 1) (cc (sortC (s.take (i + 1))))] := by
                    have := by first | exact H7.drop2.drop2 | exact H7.drop2
                    first
                      | (rw [show 0 + k + 1 + (n - k) = n + 1 by omega] at this; exact this)
                      | (rw [show 0 + k + 1 + 0 = n + 1 by omega] at this; exact this)
                  clear H5 H6 H7 HA HT1 HB HT2 HC1 HT3
                  obtain ⟨g7, o7, c7, rfl, hc7, _, _⟩ := own_shape H8.h0 (by omega)
                  obtain ⟨rfl, _⟩ := own_blk H8.h0
                  go_wp2
                  go_roundw
                  case rel => exact ⟨i + 1, n + 1, g7, c7, _, by omega, by go_num, rfl, hc7, by omega, Lib.hid rfl, HLE, H8⟩
                  case measure => simp [intOf]; omega
          · rw [hbf] at HC
            have HK2 : Hid (∀ (j : Nat) (x : Cell), p ≤ j → l[j]? = some x → befB d x = true) := Lib.hid (by
              intro j x hj hx
              by_cases e : j = p
              · subst e
                have := HY.out
                rw [hx] at this
                injection this with this
                rw [this]; exact hbf
              · exact HK.out j x (by have := HPK.out; omega) hx)
            clear hbf
            go_wp2_with fail
            refine wp_region_later (by kernel_rfl) (by kernel_rfl) ?_
            repeat (go_big_quiet_step ((go_at_call 63; exact Later.call (HC.out _))))
            refine wpQuiet_nil ?_
            intro w3 hw3
            obtain ⟨u3, hu3⟩ := hw3
            subst hu3
            have hb3 := u3.h
            generalize u3.w = w3 at *
            have hb4 := hbel.trans (hb3.mono hbel.size)
            clear H1 m1 m2 m3 m4 x1 x2 z1 z2 HC hbel hb3
            go_wp2
            go_roundw
            case rel => exact ⟨p, by omega, by go_num, HK2, hb4⟩
            case measure => simp [intOf]; omega
        · have hdk : decide ((0 : Int) < (k : Int)) = false := by simp; omega
          have HWH : Hid (∀ (j : Nat) (x : Cell), j < k → l[j]? = some x → befB x d = true) := Lib.hid (fun j x hj _ => by omega)
          have HC : Hid True := Lib.hid trivial
          clear m1 m2 x1 x2 q1 q2 H HCE
          go_wp2_with fail
          refine wp_region_later (by kernel_rfl) (by kernel_rfl) ?_
          repeat (go_big_quiet_step (fail))
          refine wpQuiet_nil ?_
          intro w3 hw3
          obtain ⟨u3, hu3⟩ := hw3
          subst hu3
          have hb3 := u3.h
          generalize u3.w = w3 at *
          have H2 := H1.step hb3
          clear H1 HC
          go_wp2_with fail
          refine wp_region_quiet_lit (by kernel_rfl) (by kernel_rfl) ?_
          repeat (go_big_quiet_step (fail))
          refine wpQuiet_nil ?_
          intro _ hwq'
          obtain ⟨nq, hwq''⟩ := hwq'
          subst hwq''
          have H3 := H2.drewN nq
          clear H2
          generalize w3.drewN nq = w4 at *
          have t1 : (0 : Int) ≤ (k : Int) := by omega
          have t2 : (k : Int) ≤ (co : Int) := by omega
          have t3 : (k : Int) ≤ (n : Int) := by omega
          have t4 : (n : Int) ≤ (co : Int) := by omega
          have HI : Hid (cc (l.take k) ++ [Value.int .i64 d.x, .int .i64 d.y] ++ cc (l.drop k) = cc (sortC (s.take (i + 1)))) := Lib.hid (by
            rw [HS1.out, insC_at HSR.out HK.out HWH.out, cc_append, List.append_assoc]; rfl)
          have HLE : Hid (n + 1 = (sortC (s.take (i + 1))).length) := Lib.hid (by
            rw [HS1.out, insC_at HSR.out HK.out HWH.out, List.length_append, List.length_cons, List.length_take, List.length_drop, ← HN.out]; omega)
          have hkl : k ≤ l.length := by rw [← HN.out]; exact hkn
          have HA := (H3.rowBox 46 #[] 2 0 rfl (by decide)).drew
          have HT1 := own_take (k := k) HA.h1 hkn
          have HB := ((H3.rowBox 46 #[] 2 0 rfl (by decide)).rowBox 46 #[.int .i64 d.x, .int .i64 d.y] 2 1 rfl (by decide)).g1.drew
          have HT2 := own_take (k := k) HB.h2 hkn
          have HC1 := ((H3.rowBox 46 #[.int .i64 d.x, .int .i64 d.y] 2 1 rfl (by decide)).rowBox 46 #[] 2 0 rfl (by decide)).drew
          have HT3 := own_take (k := k) HC1.h2 hkn
          rw [cc_take hkl] at HT1 HT2 HT3
          simp only [World.size_alloc] at HB HC1
          have zb1 := (H3.below.cell (p := ⟨b, off + i * 2, none⟩) hb).trans HQ1.out
          have zb2 := (H3.below.cell (p := ⟨b, off + i * 2 + 1, none⟩) hb).trans HQ2.out
          have za1 : (w4.alloc (.cells #[] 46)).cell? ⟨b, off + i * 2, none⟩ = some (.int .i64 d.x) := (HA.below.cell (p := ⟨b, off + i * 2, none⟩) hb).trans HQ1.out
          have za2 : (w4.alloc (.cells #[] 46)).cell? ⟨b, off + i * 2 + 1, none⟩ = some (.int .i64 d.y) := (HA.below.cell (p := ⟨b, off + i * 2 + 1, none⟩) hb).trans HQ2.out
          by_cases hkc : co = k
          ·
            have hnk : n - k = 0 := by omega
            have HDN : Hid (cc (l.drop k) = []) := Lib.hid (by rw [List.drop_of_length_le (by rw [← HN.out]; omega)]; rfl)
            have HI2 : Hid (([] : List Value) ++ cc (l.take k) ++ [Value.int .i64 d.x, .int .i64 d.y] ++ [] = cc (sortC (s.take (i + 1)))) := Lib.hid (by rw [← HI.out, HDN.out, List.nil_append])
            go_wp2_with fail
            go_region_law (first
              | (refine step_app rfl (.tmp 45) (.tmp 48) 24 (by rfl) 46 i0 _ 2 16 Tryz.underlying24 hi hz0 hz1 hz2 rfl (by decide) _ _ _ (by rfl) HA _ _ _ (cc (l.take k)) (by rfl) HT1 cc_onec (by unfold maxLen; omega) (by omega) ?_; intro v5 w5 H5; have z1 := (H5.below.cell (p := ⟨b, off + i * 2, none⟩) hb).trans HQ1.out; have z2 := (H5.below.cell (p := ⟨b, off + i * 2 + 1, none⟩) hb).trans HQ2.out)
              | (refine step_app rfl (.tmp 45) (.tmp 48) 24 (by rfl) 46 i0 _ 2 16 Tryz.underlying24 hi hz0 hz1 hz2 rfl (by decide) _ _ _ (by rfl) HB _ _ _ (cc (l.take k)) (by rfl) HT2 cc_onec (by unfold maxLen; omega) (by omega) ?_; intro v5 w5 H5; have z1 := (H5.below.cell (p := ⟨b, off + i * 2, none⟩) hb).trans HQ1.out; have z2 := (H5.below.cell (p := ⟨b, off + i * 2 + 1, none⟩) hb).trans HQ2.out)
              | (refine step_app rfl (.tmp 45) (.tmp 48) 24 (by rfl) 46 i0 _ 2 16 Tryz.underlying24 hi hz0 hz1 hz2 rfl (by decide) _ _ _ (by rfl) HC1 _ _ _ (cc (l.take k)) (by rfl) HT3 cc_onec (by unfold maxLen; omega) (by omega) ?_; intro v5 w5 H5; have z1 := (H5.below.cell (p := ⟨b, off + i * 2, none⟩) hb).trans HQ1.out; have z2 := (H5.below.cell (p := ⟨b, off + i * 2 + 1, none⟩) hb).trans HQ2.out)
              | (refine step_app rfl (.tmp 49) (.tmp 54) 24 (by rfl) 46 i0 _ 2 16 Tryz.underlying24 hi hz0 hz1 hz2 rfl (by decide) _ _ _ (by rfl) (H5.alloc _) _ _ _ [.int .i64 d.x, .int .i64 d.y] (by rfl) (Rd.fresh w5 _ #[.int .i64 d.x, .int .i64 d.y] 2 1 rfl) oc2 (by unfold maxLen; omega) (by omega) ?_; intro v6 w6 H6; have z1 := (H6.below.cell (p := ⟨b, off + i * 2, none⟩) hb).trans HQ1.out; have z2 := (H6.below.cell (p := ⟨b, off + i * 2 + 1, none⟩) hb).trans HQ2.out)
              | (refine step_app rfl (.tmp 49) (.tmp 54) 24 (by rfl) 46 i0 _ 2 16 Tryz.underlying24 hi hz0 hz1 hz2 rfl (by decide) _ _ _ (by rfl) H5 _ _ _ [.int .i64 d.x, .int .i64 d.y] (by rfl) (own_take (k := 1) H5.h1 (Nat.le_refl _)) oc2 (by unfold maxLen; omega) (by omega) ?_; intro v6 w6 H6; have z1 := (H6.below.cell (p := ⟨b, off + i * 2, none⟩) hb).trans HQ1.out; have z2 := (H6.below.cell (p := ⟨b, off + i * 2 + 1, none⟩) hb).trans HQ2.out)
              | (refine step_app rfl (.tmp 55) (.tmp 58) 24 (by rfl) 46 i0 _ 2 16 Tryz.underlying24 hi hz0 hz1 hz2 rfl (by decide) _ _ _ (by rfl) H6 (lo := 0) (hi' := w6.heap.size) _ 0 _ [] (by rfl) ⟨rfl, fun h => absurd h (Nat.lt_irrefl 0)⟩ (by intro u hu; exact ins_one (l := l.drop k) u (by first | exact hu | simp at hu)) (by unfold maxLen; omega) (by omega) ?_; intro v7 w7 H7)
              | (refine step_app rfl (.tmp 55) (.tmp 58) 24 (by rfl) 46 i0 _ 2 16 Tryz.underlying24 hi hz0 hz1 hz2 rfl (by decide) _ _ _ (by rfl) H6 (lo := 0) (hi' := w6.heap.size) _ 0 _ [] (by rfl) ⟨rfl, fun h => absurd h (Nat.lt_irrefl 0)⟩ (by intro u hu; exact ins_one (l := l.drop k) u (by first | exact hu | simp at hu)) (by unfold maxLen; omega) (by omega) ?_; intro v7 w7 H7))
            all_goals
              rw [HI2.out] at H7
              have H8 : Sep w w7 [Res.row v7 46 2 (n + 1) (cc (sortC (s.take (i + 1))))] := by
                have := by first | exact H7.drop2.drop2 | exact H7.drop2
                first
                  | (rw [show 0 + k + 1 + (n - k) = n + 1 by omega] at this; exact this)
                  | (rw [show 0 + k + 1 + 0 = n + 1 by omega] at this; exact this)
              clear H5 H6 H7 HA HT1 HB HT2 HC1 HT3
              obtain ⟨g7, o7, c7, rfl, hc7, _, _⟩ := own_shape H8.h0 (by omega)
              obtain ⟨rfl, _⟩ := own_blk H8.h0
              go_wp2
              go_roundw
              case rel => exact ⟨i + 1, n + 1, g7, c7, _, by omega, by go_num, rfl, hc7, by omega, Lib.hid rfl, HLE, H8⟩
              case measure => simp [intOf]; omega
          ·
            go_wp2_with fail
            go_region_law (first
              | (refine step_app rfl (.tmp 45) (.tmp 48) 24 (by rfl) 46 i0 _ 2 16 Tryz.underlying24 hi hz0 hz1 hz2 rfl (by decide) _ _ _ (by rfl) HA _ _ _ (cc (l.take k)) (by rfl) HT1 cc_onec (by unfold maxLen; omega) (by omega) ?_; intro v5 w5 H5; have z1 := (H5.below.cell (p := ⟨b, off + i * 2, none⟩) hb).trans HQ1.out; have z2 := (H5.below.cell (p := ⟨b, off + i * 2 + 1, none⟩) hb).trans HQ2.out)
              | (refine step_app rfl (.tmp 45) (.tmp 48) 24 (by rfl) 46 i0 _ 2 16 Tryz.underlying24 hi hz0 hz1 hz2 rfl (by decide) _ _ _ (by rfl) HB _ _ _ (cc (l.take k)) (by rfl) HT2 cc_onec (by unfold maxLen; omega) (by omega) ?_; intro v5 w5 H5; have z1 := (H5.below.cell (p := ⟨b, off + i * 2, none⟩) hb).trans HQ1.out; have z2 := (H5.below.cell (p := ⟨b, off + i * 2 + 1, none⟩) hb).trans HQ2.out)
              | (refine step_app rfl (.tmp 45) (.tmp 48) 24 (by rfl) 46 i0 _ 2 16 Tryz.underlying24 hi hz0 hz1 hz2 rfl (by decide) _ _ _ (by rfl) HC1 _ _ _ (cc (l.take k)) (by rfl) HT3 cc_onec (by unfold maxLen; omega) (by omega) ?_; intro v5 w5 H5; have z1 := (H5.below.cell (p := ⟨b, off + i * 2, none⟩) hb).trans HQ1.out; have z2 := (H5.below.cell (p := ⟨b, off + i * 2 + 1, none⟩) hb).trans HQ2.out)
              | (refine step_app rfl (.tmp 49) (.tmp 54) 24 (by rfl) 46 i0 _ 2 16 Tryz.underlying24 hi hz0 hz1 hz2 rfl (by decide) _ _ _ (by rfl) (H5.alloc _) _ _ _ [.int .i64 d.x, .int .i64 d.y] (by rfl) (Rd.fresh w5 _ #[.int .i64 d.x, .int .i64 d.y] 2 1 rfl) oc2 (by unfold maxLen; omega) (by omega) ?_; intro v6 w6 H6; have z1 := (H6.below.cell (p := ⟨b, off + i * 2, none⟩) hb).trans HQ1.out; have z2 := (H6.below.cell (p := ⟨b, off + i * 2 + 1, none⟩) hb).trans HQ2.out)
              | (refine step_app rfl (.tmp 49) (.tmp 54) 24 (by rfl) 46 i0 _ 2 16 Tryz.underlying24 hi hz0 hz1 hz2 rfl (by decide) _ _ _ (by rfl) H5 _ _ _ [.int .i64 d.x, .int .i64 d.y] (by rfl) (own_take (k := 1) H5.h1 (Nat.le_refl _)) oc2 (by unfold maxLen; omega) (by omega) ?_; intro v6 w6 H6; have z1 := (H6.below.cell (p := ⟨b, off + i * 2, none⟩) hb).trans HQ1.out; have z2 := (H6.below.cell (p := ⟨b, off + i * 2 + 1, none⟩) hb).trans HQ2.out)
              | (refine step_app rfl (.tmp 55) (.tmp 58) 24 (by rfl) 46 i0 _ 2 16 Tryz.underlying24 hi hz0 hz1 hz2 rfl (by decide) _ _ _ (by rfl) H6 (lo := 0) (hi' := w6.heap.size) _ _ _ (cc (l.drop k)) (by rfl) (by have := own_drop (k := k) H6.h1; rw [cc_drop hkl] at this; exact this) (by intro u hu; exact ins_one (l := l.drop k) u (by first | exact hu | simp at hu)) (by unfold maxLen; omega) (by omega) ?_; intro v7 w7 H7)
              | (refine step_app rfl (.tmp 55) (.tmp 58) 24 (by rfl) 46 i0 _ 2 16 Tryz.underlying24 hi hz0 hz1 hz2 rfl (by decide) _ _ _ (by rfl) H6 (lo := 0) (hi' := w6.heap.size) _ _ _ (cc (l.drop k)) (by rfl) (by have := own_drop (k := k) H6.h2; rw [cc_drop hkl] at this; exact this) (by intro u hu; exact ins_one (l := l.drop k) u (by first | exact hu | simp at hu)) (by unfold maxLen; omega) (by omega) ?_; intro v7 w7 H7))
            all_goals
              rw [List.nil_append, HI.out] at H7
              have H8 : Sep w w7 [Res.row v7 46 2 (n + 1) (cc (sortC (s.take (i + 1))))] := by
                have := by first | exact H7.drop2.drop2 | exact H7.drop2
                first
                  | (rw [show 0 + k + 1 + (n - k) = n + 1 by omega] at this; exact this)
                  | (rw [show 0 + k + 1 + 0 = n + 1 by omega] at this; exact this)
              clear H5 H6 H7 HA HT1 HB HT2 HC1 HT3
              obtain ⟨g7, o7, c7, rfl, hc7, _, _⟩ := own_shape H8.h0 (by omega)
              obtain ⟨rfl, _⟩ := own_blk H8.h0
              go_wp2
              go_roundw
              case rel => exact ⟨i + 1, n + 1, g7, c7, _, by omega, by go_num, rfl, hc7, by omega, Lib.hid rfl, HLE, H8⟩
              case measure => simp [intOf]; omega
    · obtain rfl : i = s.length := by omega
      have HE : Hid (sortC s = l) := Lib.hid (by rw [HL.out, List.take_length])
      go_wp2
      go_ret
      have HO : CellsIn wr w.heap.size wr.heap.size (.slice (some ⟨go, 0, none⟩) n co) (sortC s) := by rw [HE.out]; unfold CellsIn; rw [← HN.out]; exact H.oi
      exact ⟨_, rfl, HO, H.below⟩
end Go.Proofs.YtghpkfihdcjlaaaGreatDoor
