
/-
  Wang tiles: the walk of the program's 'FindPeriod'.
-/
import Derived.Test.YtlfeognjnlppkaaDoorWangI
import Derived.Deep.LoopGhost
namespace Go.Proofs.YtlfeognjnlppkaaDoor
open Go.RowKit

def IPost (r : Option Per) (w : World) (e : Ending) (w' : World) : Prop := ∃ (v' : Value) (x y : Int), e = .returned (.tuple #[v', .int .i64 x, .int .i64 y, .bool r.isSome]) ∧ (∀ f a b, r = some (f, a, b) → x = (a : Int) ∧ y = (b : Int) ∧ IntsIn w' w.heap.size w'.heap.size v' (fc f)) ∧ Below w.heap.size w w'
theorem IPost.no {r : Option Per} {w w' : World} {v : Value} {x y : Int} {q : Bool} (hr : r = none) (hq : q = false) (hb : Below w.heap.size w w') : IPost r w (.returned (.tuple #[v, .int .i64 x, .int .i64 y, .bool q])) w' := by
  subst hr hq
  exact ⟨_, _, _, rfl, (fun f a b h => by cases h), hb⟩

set_option maxRecDepth 100000 in
set_option maxHeartbeats 6400000 in
theorem impl_period_c {v : Value} {l : List Wg} (w : World) (hl0 : WangsRd w 0 w.heap.size v l) :
    Calls Tryd.prog 51 #[v] w (IPost (period l) w) := by
  obtain ⟨S, hS⟩ : ∃ S, S = period l := ⟨_, rfl⟩
  rw [← hS]
  have HS := Lib.hid hS
  obtain ⟨q0, hq0⟩ : ∃ q0, q0 = areW l := ⟨_, rfl⟩
  have HAR := Lib.hid hq0
  have HL0 := Lib.hid hl0
  obtain ⟨A, c, rfl, _, _⟩ := id hl0
  have H := (Sep.start w).box 27 #[.slice A l.length c]
  have x1 : (w.alloc (.cells #[.slice A l.length c] 27)).cell? ⟨w.heap.size, 0, none⟩ = some (.slice A l.length c) := H.h0.cell 0
  clear hS hq0 hl0
  go_enter Tryd.func51, Tryd.ntmps51
  go_wp2_with fail
  clear x1
  generalize w.alloc (.cells #[.slice A l.length c] 27) = W at *
  refine (impl_areW_c (l := l) W ((HL0.out.keep (SameIn.of_below H.below (Nat.le_refl _))).more (Nat.le_refl _) H.size)).mono ?_
  rintro e w1 ⟨rfl, b1⟩
  rw [← HAR.out]
  have H1 := H.step b1
  clear b1 H
  cases q0
  · have hno : S = none := by rw [HS.out, period, ← HAR.out]; rfl
    subst hno
    go_wp2
    refine bodyPost_ret (v := .tuple #[.slice none 0 0, .int .i64 0, .int .i64 0, .bool false]) (by simp [results, Tryd.results51, go_sem]) rfl ?_
    exact IPost.no rfl rfl H1.below
  · have hA : areW l = true := HAR.out.symm
    have hlen : 1 ≤ l.length ∧ l.length ≤ 6 := by
      have := hA
      unfold areW at this
      rw [Bool.and_eq_true] at this
      have := inW_iff.1 this.2
      omega
    obtain ⟨hl1, hl6⟩ := hlen
    have HA := Lib.hid hA
    clear hA
    go_wp2
    go_loopw [6] (fun i wr => ∃ (a : Nat) (L : List Res), a ≤ 9 ∧ i = .int .i64 ((a + 1 : Nat) : Int) ∧ Hid (tryAll l a = none) ∧ Sep w wr (Res.box w.heap.size 27 #[.slice A l.length c] :: L)) (fun i _ => 12 - (intOf i).toNat)
    case atStart => exact ⟨0, [], by omega, by go_num, Lib.hid rfl, H1⟩
    case round =>
      clear H1
      obtain ⟨a, L, ha, rfl, HT, H⟩ := hrel
      obtain ⟨a1, ha1⟩ : ∃ a1, a1 = a + 1 := ⟨_, rfl⟩
      rw [← ha1]
      have HA1 := Lib.hid ha1
      by_cases h9 : a < 9
      · have hd9 : decide ((a1 : Int) ≤ 9) = true := by simp; omega
        have h19 : a1 ≤ 9 := by omega
        have h11 : 1 ≤ a1 := by omega
        have H2 := H.box 3 #[.int .i64 ((0 + 1 : Nat) : Int)]
        clear ha1 H
        go_wp2
        obtain ⟨wi, hwi⟩ : ∃ wi : World, wi = wr := ⟨_, rfl⟩
        subst hwi
        go_loopg [7] 3 (fun gk p wr => ∃ (k g7 : Nat) (L : List Res), gk + k = 3 ∧ p = .pointer (some ⟨g7, 0, none⟩) ∧ Hid (tryRow l a1 k = none) ∧ Sep w wr (Res.box g7 3 #[.int .i64 ((k + 1 : Nat) : Int)] :: Res.box w.heap.size 27 #[.slice A l.length c] :: L))
        case atStart => exact ⟨0, _, _, rfl, rfl, Lib.hid rfl, H2⟩
        case round =>
          clear H2
          obtain ⟨k, g7, L2, hgk, rfl, HK, H⟩ := hrel
          obtain ⟨k1, hk1⟩ : ∃ k1, k1 = k + 1 := ⟨_, rfl⟩
          rw [← hk1] at H
          have HK1 := Lib.hid hk1
          have x7 : wr.cell? ⟨g7, 0, none⟩ = some (.int .i64 (k1 : Int)) := H.h0.cell 0
          by_cases h3 : k < 3
          · have hd3 : decide ((k1 : Int) ≤ 3) = true := by simp; omega
            have h13 : k1 ≤ 3 := by omega
            have h12 : 1 ≤ k1 := by omega
            clear hk1
            obtain ⟨r, hrr⟩ : ∃ r, r = a1 % k1 := ⟨_, rfl⟩
            obtain ⟨q, hqq⟩ : ∃ q, q = a1 / k1 := ⟨_, rfl⟩
            have hrl : r < k1 := by rw [hrr]; exact Nat.mod_lt _ (by omega)
            have hql : q ≤ 9 := by rw [hqq]; exact Nat.le_trans (Nat.div_le_self _ _) (by omega)
            have d1 : Int.tmod (a1 : Int) (k1 : Int) = (r : Int) := by rw [Int.tmod_eq_emod_of_nonneg (by omega), hrr]; exact (Int.natCast_emod a1 k1).symm
            have d2 : (a1 : Int) % (k1 : Int) = (r : Int) := by rw [hrr]; exact (Int.natCast_emod a1 k1).symm
            have d3 : IntKind.i64.wrap (Int.tmod (a1 : Int) (k1 : Int)) = (r : Int) := by rw [d1]; exact IntWalk.i64_in _ (by omega)
            have d4 : IntKind.i64.wrap ((a1 : Int) % (k1 : Int)) = (r : Int) := by rw [d2]; exact IntWalk.i64_in _ (by omega)
            have d5 : Int.tdiv (a1 : Int) (k1 : Int) = (q : Int) := by rw [Int.tdiv_eq_ediv_of_nonneg (by omega), hqq]; exact (Int.natCast_ediv a1 k1).symm
            have d6 : (a1 : Int) / (k1 : Int) = (q : Int) := by rw [hqq]; exact (Int.natCast_ediv a1 k1).symm
            have d7 : IntKind.i64.wrap (Int.tdiv (a1 : Int) (k1 : Int)) = (q : Int) := by rw [d5]; exact IntWalk.i64_in _ (by omega)
            have d8 : IntKind.i64.wrap ((a1 : Int) / (k1 : Int)) = (q : Int) := by rw [d6]; exact IntWalk.i64_in _ (by omega)
            have HRR := Lib.hid hrr
            have HQQ := Lib.hid hqq
            clear hrr hqq
            have H3 := H.box 3 #[.int .i64 (q : Int)]
            have hlt7 := H.h0.lt
            have hlt1 := H.h1.lt
            have x7a : (wr.alloc (.cells #[.int .i64 (q : Int)] 3)).cell? ⟨g7, 0, none⟩ = some (.int .i64 (k1 : Int)) := H3.h1.cell 0
            have x8a : (wr.alloc (.cells #[.int .i64 (q : Int)] 3)).cell? ⟨wr.heap.size, 0, none⟩ = some (.int .i64 (q : Int)) := H3.h0.cell 0
            by_cases hr0 : r = 0
            · subst hr0
              have z0 : ((0 : Nat) : Int) = 0 := rfl
              rw [z0] at d1 d2 d3 d4
              have hkq : a1 = k1 * q := by have := Nat.div_add_mod a1 k1; rw [← HRR.out, ← HQQ.out] at this; omega
              have hq1 : 1 ≤ q := by
                rcases Nat.eq_zero_or_pos q with h0 | h0
                · rw [h0] at hkq; simp at hkq; omega
                · exact h0
              clear z0 hkq
              by_cases hq3 : q ≤ 3
              · have hib : inW (q : Int) 1 3 = true := inW_iff.2 ⟨by omega, by omega⟩
                have H4 := (H3.box 31 #[.slice none 0 0]).box 4 #[.bool false]
                simp only [World.size_alloc] at H4
                have x7c : (((wr.alloc (.cells #[.int .i64 (q : Int)] 3)).alloc (.cells #[.slice none 0 0] 31)).alloc (.cells #[.bool false] 4)).cell? ⟨g7, 0, none⟩ = some (.int .i64 (k1 : Int)) := H4.h3.cell 0
                have x8c : (((wr.alloc (.cells #[.int .i64 (q : Int)] 3)).alloc (.cells #[.slice none 0 0] 31)).alloc (.cells #[.bool false] 4)).cell? ⟨wr.heap.size, 0, none⟩ = some (.int .i64 (q : Int)) := H4.h2.cell 0
                have x1c : (((wr.alloc (.cells #[.int .i64 (q : Int)] 3)).alloc (.cells #[.slice none 0 0] 31)).alloc (.cells #[.bool false] 4)).cell? ⟨w.heap.size, 0, none⟩ = some (.slice A l.length c) := H4.h4.cell 0
                have H5 := H4.g2.g3.g4.g3.g4.nil 3 1
                have HWF := Lib.hid (wangFills_c k1 q HL0.out hl1 hl6 h12 (by omega) hq1 (by omega) (k1 * q) [] (.slice none 0 0) L2 _ H5 (fun x hx => by simp at hx) (by simp))
                clear H3 H4 H5 H
                go_wp2_with (go_at_call 42; refine (between_w _ _ _ _).mono ?_; rintro e w' ⟨rfl, rfl⟩)
                clear x7 x7a x8a x7c x8c x1c
                refine (HWF.out).mono ?_
                intro e w4 hp
                obtain ⟨rfl, hp2⟩ := hp
                have HP2 := Lib.hid hp2
                clear hp2 HWF
                cases hs : searchW l k1 q (k1 * q) [] with
                | none =>
                  have hno : tryAt l a1 k1 = none := tryAt_none (by rw [← HQQ.out]; exact hs)
                  have HNO := Lib.hid hno
                  have H6 := HP2.out.1 hs
                  have x10 : w4.cell? ⟨wr.heap.size + 1 + 1, 0, none⟩ = some (.bool false) := H6.h2.cell 0
                  clear hs hno HP2
                  have HN2 := (H6).box 3 #[.int .i64 (k1 : Int)]
                  have HNb := (H6).box 3 #[.int .i64 ((k + 1 + 1 : Nat) : Int)]
                  have x7' : w4.cell? ⟨g7, 0, none⟩ = some (.int .i64 (k1 : Int)) := H6.h4.cell 0
                  have hmiss := tryRow_miss HK.out (by rw [← HK1.out]; exact HNO.out)
                  have HK2 := Lib.hid hmiss
                  have hk11 : (k1 : Int) + 1 = ((k + 1 + 1 : Nat) : Int) := by rw [HK1.out]; omega
                  have fr := HN2.h0.frozen 0
                  have y7 : (w4.alloc (.cells #[.int .i64 (k1 : Int)] 3)).cell? ⟨w4.heap.size, 0, none⟩ = some (.int .i64 (k1 : Int)) := HN2.h0.cell 0
                  have HN3 := HN2.set_ 0 (.int .i64 ((k + 1 + 1 : Nat) : Int))
                  try simp only [World.size_alloc] at HN2 HNb HN3 fr y7
                  clear hmiss
                  go_wp2
                  go_roundg (gk - 1)
                  case rel => first | exact ⟨k + 1, w4.heap.size, _, by omega, rfl, HK2, HN3.drop2.drop2.drop2⟩ | exact ⟨k + 1, w4.heap.size, _, by omega, rfl, HK2, HNb.drop2.drop2.drop2⟩
                  case measure => omega
                | some f =>
                  obtain ⟨vg, H6⟩ := HP2.out.2 f hs
                  have hyes : tryAt l a1 k1 = some (f, k1, q) := by
                    have := tryAt_some (l := l) (a := a1) (w := k1) (f := f) ⟨HRR.out.symm, by rw [← HQQ.out]; exact hq3⟩ (by rw [← HQQ.out]; exact hs)
                    rw [← HQQ.out] at this
                    exact this
                  have hhit := period_hit HA.out HT.out h9 (by rw [← HA1.out]; exact HK.out) h3 (by rw [← HA1.out, ← HK1.out]; exact hyes)
                  obtain rfl : S = some (f, k1, q) := by rw [HS.out]; exact hhit
                  have x10 : w4.cell? ⟨wr.heap.size + 1 + 1, 0, none⟩ = some (.bool true) := H6.h2.cell 0
                  have x9 : w4.cell? ⟨wr.heap.size + 1, 0, none⟩ = some vg := H6.h1.cell 0
                  have x7 : w4.cell? ⟨g7, 0, none⟩ = some (.int .i64 (k1 : Int)) := H6.h4.cell 0
                  have x8 : w4.cell? ⟨wr.heap.size, 0, none⟩ = some (.int .i64 (q : Int)) := H6.h5.cell 0
                  obtain ⟨Ag, cg, rfl, _, _, _⟩ := Res.row_at H6.h0
                  clear hyes hhit hs HP2
                  go_wp2_with fail
                  go_quiet (fail)
                  have H7 := H6.drewN nq
                  go_wp2
                  refine bodyPost_ret (v := .tuple #[.slice Ag f.length cg, .int .i64 (k1 : Int), .int .i64 (q : Int), .bool true]) (by simp [results, Tryd.results51, go_sem]) rfl ?_
                  have hI : IntsIn (w4.drewN nq) w.heap.size (w4.drewN nq).heap.size (.slice Ag f.length cg) (fc f) := IntsIn.mk H7.oi.1 (by rw [fc_length]) rfl
                  exact ⟨_, _, _, rfl, (fun f' a' b' h => by injection h with h; injection h with h1 h2; injection h2 with h2 h3; subst h1; subst h2; subst h3; exact ⟨rfl, rfl, hI⟩), H7.below⟩
              · have hib : inW (q : Int) 1 3 = false := by
                  rcases hh : inW (q : Int) 1 3 with _ | _
                  · rfl
                  · have := inW_iff.1 hh; omega
                have hno : tryAt l a1 k1 = none := tryAt_no (by rw [← HQQ.out]; exact fun h => hq3 h.2)
                have HNO := Lib.hid hno
                clear hno
                have HN2 := (H3).box 3 #[.int .i64 (k1 : Int)]
                have HNb := (H3).box 3 #[.int .i64 ((k + 1 + 1 : Nat) : Int)]
                have x7' : (wr.alloc (.cells #[.int .i64 (q : Int)] 3)).cell? ⟨g7, 0, none⟩ = some (.int .i64 (k1 : Int)) := H3.h1.cell 0
                have hmiss := tryRow_miss HK.out (by rw [← HK1.out]; exact HNO.out)
                have HK2 := Lib.hid hmiss
                have hk11 : (k1 : Int) + 1 = ((k + 1 + 1 : Nat) : Int) := by rw [HK1.out]; omega
                have fr := HN2.h0.frozen 0
                have y7 : ((wr.alloc (.cells #[.int .i64 (q : Int)] 3)).alloc (.cells #[.int .i64 (k1 : Int)] 3)).cell? ⟨(wr.alloc (.cells #[.int .i64 (q : Int)] 3)).heap.size, 0, none⟩ = some (.int .i64 (k1 : Int)) := HN2.h0.cell 0
                have HN3 := HN2.set_ 0 (.int .i64 ((k + 1 + 1 : Nat) : Int))
                try simp only [World.size_alloc] at HN2 HNb HN3 fr y7
                clear hmiss
                go_wp2_with (go_at_call 42; refine (between_w _ _ _ _).mono ?_; rintro e w' ⟨rfl, rfl⟩)
                go_roundg (gk - 1)
                case rel => first | exact ⟨k + 1, wr.heap.size + 1, _, by omega, rfl, HK2, HN3.drop2.drop2⟩ | exact ⟨k + 1, wr.heap.size + 1, _, by omega, rfl, HK2, HNb.drop2.drop2⟩
                case measure => omega
            · have hrb : ((r : Int) == 0) = false := by simp; omega
              have hrn : ((r : Int) != 0) = true := by simp; omega
              have hno : tryAt l a1 k1 = none := tryAt_no (by rw [← HRR.out]; exact fun h => hr0 h.1)
              have HNO := Lib.hid hno
              clear hno
              have HN2 := (H3).box 3 #[.int .i64 (k1 : Int)]
              have HNb := (H3).box 3 #[.int .i64 ((k + 1 + 1 : Nat) : Int)]
              have x7' : (wr.alloc (.cells #[.int .i64 (q : Int)] 3)).cell? ⟨g7, 0, none⟩ = some (.int .i64 (k1 : Int)) := H3.h1.cell 0
              have hmiss := tryRow_miss HK.out (by rw [← HK1.out]; exact HNO.out)
              have HK2 := Lib.hid hmiss
              have hk11 : (k1 : Int) + 1 = ((k + 1 + 1 : Nat) : Int) := by rw [HK1.out]; omega
              have fr := HN2.h0.frozen 0
              have y7 : ((wr.alloc (.cells #[.int .i64 (q : Int)] 3)).alloc (.cells #[.int .i64 (k1 : Int)] 3)).cell? ⟨(wr.alloc (.cells #[.int .i64 (q : Int)] 3)).heap.size, 0, none⟩ = some (.int .i64 (k1 : Int)) := HN2.h0.cell 0
              have HN3 := HN2.set_ 0 (.int .i64 ((k + 1 + 1 : Nat) : Int))
              try simp only [World.size_alloc] at HN2 HNb HN3 fr y7
              clear hmiss
              go_wp2
              go_roundg (gk - 1)
              case rel => first | exact ⟨k + 1, wr.heap.size + 1, _, by omega, rfl, HK2, HN3.drop2.drop2⟩ | exact ⟨k + 1, wr.heap.size + 1, _, by omega, rfl, HK2, HNb.drop2.drop2⟩
              case measure => omega
          · have hd3 : decide ((k1 : Int) ≤ 3) = false := by simp; omega
            have h33 : ¬ k1 ≤ 3 := by omega
            obtain rfl : k = 3 := by omega
            have hmiss := tryAll_miss HT.out (by rw [← HA1.out]; exact HK.out)
            have HT2 := Lib.hid hmiss
            have H4 := H.g1
            clear hk1 hmiss H
            go_wp2
            go_roundw
            case rel => exact ⟨a + 1, _, by omega, by rw [HA1.out]; go_num, HT2, H4⟩
            case measure => simp [intOf]; omega
      · have hd9 : decide ((a1 : Int) ≤ 9) = false := by simp; omega
        have h99 : ¬ a1 ≤ 9 := by omega
        obtain rfl : a = 9 := by omega
        have hno : S = none := by
          rw [HS.out, period, HT.out]
          split <;> rfl
        subst hno
        have hB := H.below
        clear ha1 H
        go_wp2
        refine bodyPost_ret (v := .tuple #[.slice none 0 0, .int .i64 0, .int .i64 0, .bool false]) (by simp [results, Tryd.results51, go_sem]) rfl ?_
        exact IPost.no rfl rfl hB
end Go.Proofs.YtlfeognjnlppkaaDoor
