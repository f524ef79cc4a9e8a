
/-
  Wang tiles: the first period, in plain Lean; the walk of the reference's 'FindPeriod'.
-/
import Derived.Test.YtlfeognjnlppkaaDoorWangH
namespace Go.Proofs.YtlfeognjnlppkaaDoor
open Go.RowKit

abbrev Per := List Nat × Nat × Nat
def tryAt (l : List Wg) (a w : Nat) : Option Per := if a % w = 0 ∧ a / w ≤ 3 then (searchW l w (a / w) (w * (a / w)) []).map fun f => (f, w, a / w) else none
def tryRow (l : List Wg) (a k : Nat) : Option Per := (List.range k).findSome? fun i => tryAt l a (i + 1)
def tryAll (l : List Wg) (k : Nat) : Option Per := (List.range k).findSome? fun i => tryRow l (i + 1) 3
def period (l : List Wg) : Option Per := if areW l then tryAll l 9 else none
theorem tryRow_miss {l : List Wg} {a k : Nat} (h : tryRow l a k = none) (hn : tryAt l a (k + 1) = none) : tryRow l a (k + 1) = none := find_miss h hn
theorem tryAll_miss {l : List Wg} {k : Nat} (h : tryAll l k = none) (hn : tryRow l (k + 1) 3 = none) : tryAll l (k + 1) = none := find_miss h hn
theorem period_hit {l : List Wg} {a k : Nat} {p : Per} (hA : areW l = true) (h : tryAll l a = none) (ha : a < 9) (h2 : tryRow l (a + 1) k = none) (hk : k < 3) (h3 : tryAt l (a + 1) (k + 1) = some p) : period l = some p := by
  unfold period
  rw [hA, if_pos rfl]
  have h4 : tryRow l (a + 1) 3 = some p := find_hit (F := fun i => tryAt l (a + 1) (i + 1)) h2 hk h3
  exact find_hit (F := fun i => tryRow l (i + 1) 3) h ha h4
theorem tryAt_no {l : List Wg} {a w : Nat} (h : ¬ (a % w = 0 ∧ a / w ≤ 3)) : tryAt l a w = none := by unfold tryAt; rw [if_neg h]
theorem tryAt_none {l : List Wg} {a w : Nat} (h : searchW l w (a / w) (w * (a / w)) [] = none) : tryAt l a w = none := by
  unfold tryAt
  split
  · rw [h]; rfl
  · rfl
theorem tryAt_some {l : List Wg} {a w : Nat} {f : List Nat} (h1 : a % w = 0 ∧ a / w ≤ 3) (h : searchW l w (a / w) (w * (a / w)) [] = some f) : tryAt l a w = some (f, w, a / w) := by unfold tryAt; rw [if_pos h1, h]; rfl

def PPost (r : Option Per) (w : World) (e : Ending) (w' : World) : Prop := ∃ (v' : Value) (x y : Int), e = .returned (.tuple #[v', .int .i64 x, .int .i64 y, .bool r.isSome]) ∧ (∀ f a b, r = some (f, a, b) → x = (a : Int) ∧ y = (b : Int) ∧ IntsRd w' w.heap.size w'.heap.size v' (fc f)) ∧ Below w.heap.size w w'

set_option maxRecDepth 100000 in
set_option maxHeartbeats 6400000 in
theorem spec_period_c {v : Value} {l : List Wg} (w : World) (hl0 : WangsRd w 0 w.heap.size v l) :
    Calls Tryd.prog 48 #[v] w (PPost (period l) w) := by
  obtain ⟨S, hS⟩ : ∃ S, S = period l := ⟨_, rfl⟩
  rw [← hS]
  have HS := Lib.hid hS
  obtain ⟨q0, hq0⟩ : ∃ q0, q0 = areW l := ⟨_, rfl⟩
  have HAR := Lib.hid hq0
  have HL0 := Lib.hid hl0
  obtain ⟨A, c, rfl, _, _⟩ := id hl0
  clear hS hq0 hl0
  go_enter Tryd.func48, Tryd.ntmps48
  go_wp2
  go_loopw [6] (fun i wr => ∃ a : Nat, a ≤ 9 ∧ i = .int .i64 ((a + 1 : Nat) : Int) ∧ Hid (tryAll l a = none) ∧ Below w.heap.size w wr) (fun i _ => 12 - (intOf i).toNat)
  case atStart => exact ⟨0, by omega, by go_num, Lib.hid rfl, Below.refl _ _⟩
  case round =>
    obtain ⟨a, ha, rfl, HT, hbel⟩ := hrel
    obtain ⟨a1, ha1⟩ : ∃ a1, a1 = a + 1 := ⟨_, rfl⟩
    rw [← ha1]
    have HA1 := Lib.hid ha1
    by_cases h9 : a < 9
    · have hd9 : decide ((a1 : Int) ≤ 9) = true := by simp; omega
      have h19 : a1 ≤ 9 := by omega
      have h11 : 1 ≤ a1 := by omega
      clear ha1
      go_wp2_with fail
      refine (spec_areW_c (l := l) wr ((HL0.out.keep (SameIn.of_below hbel (Nat.le_refl _))).more (Nat.le_refl _) hbel.size)).mono ?_
      rintro e w1 ⟨rfl, b1⟩
      rw [← HAR.out]
      have hb1 := hbel.trans (b1.mono hbel.size)
      clear b1 hbel hd9
      cases q0
      · have hno : S = none := by rw [HS.out, period, ← HAR.out]; rfl
        have HNO := Lib.hid hno
        clear hno
        obtain rfl : S = none := HNO.out
        have H2 := (Sep.start w1).rowBox 3 #[] 1 0 rfl (by decide)
        have hb2 := hb1.trans (H2.below.mono hb1.size)
        go_wp2_with fail
        refine bodyPost_ret (v := .tuple #[.slice (some ⟨w1.heap.size, 0, none⟩) 0 0, .int .i64 0, .int .i64 0, .bool false]) (by simp [results, Tryd.results48, go_sem]) rfl ?_
        exact ⟨_, 0, 0, rfl, (fun f a b h => by cases h), hb2⟩
      · have hA : areW l = true := HAR.out.symm
        have hlen : 1 ≤ l.length ∧ l.length ≤ 6 := by
          have := hA
          unfold areW at this
          rw [Bool.and_eq_true] at this
          have := inW_iff.1 this.2
          omega
        obtain ⟨hl1, hl6⟩ := hlen
        have HA := Lib.hid hA
        clear hA
        go_wp2
        obtain ⟨wo, hwo⟩ : ∃ wo : World, wo = w1 := ⟨_, rfl⟩
        subst hwo
        go_loopw [7] (fun i wr => ∃ k : Nat, k ≤ 3 ∧ i = .int .i64 ((k + 1 : Nat) : Int) ∧ Hid (tryRow l a1 k = none) ∧ Below w.heap.size w wr) (fun i _ => 6 - (intOf i).toNat)
        case atStart => exact ⟨0, by omega, by go_num, Lib.hid rfl, hb1⟩
        case round =>
          clear hb1
          obtain ⟨k, hk, rfl, HK, hb1⟩ := hrel
          obtain ⟨k1, hk1⟩ : ∃ k1, k1 = k + 1 := ⟨_, rfl⟩
          rw [← hk1]
          have HK1 := Lib.hid hk1
          by_cases h3 : k < 3
          · have hd3 : decide ((k1 : Int) ≤ 3) = true := by simp; omega
            have h13 : k1 ≤ 3 := by omega
            have h12 : 1 ≤ k1 := by omega
            clear hk1
            obtain ⟨r, hrr⟩ : ∃ r, r = a1 % k1 := ⟨_, rfl⟩
            obtain ⟨q, hqq⟩ : ∃ q, q = a1 / k1 := ⟨_, rfl⟩
            have hrl : r < k1 := by rw [hrr]; exact Nat.mod_lt _ (by omega)
            have hql : q ≤ 9 := by rw [hqq]; exact Nat.le_trans (Nat.div_le_self _ _) (by omega)
            have d1 : Int.tmod (a1 : Int) (k1 : Int) = (r : Int) := by rw [Int.tmod_eq_emod_of_nonneg (by omega), hrr]; exact (Int.natCast_emod a1 k1).symm
            have d2 : (a1 : Int) % (k1 : Int) = (r : Int) := by rw [hrr]; exact (Int.natCast_emod a1 k1).symm
            have d3 : IntKind.i64.wrap (Int.tmod (a1 : Int) (k1 : Int)) = (r : Int) := by rw [d1]; exact IntWalk.i64_in _ (by omega)
            have d4 : IntKind.i64.wrap ((a1 : Int) % (k1 : Int)) = (r : Int) := by rw [d2]; exact IntWalk.i64_in _ (by omega)
            have d5 : Int.tdiv (a1 : Int) (k1 : Int) = (q : Int) := by rw [Int.tdiv_eq_ediv_of_nonneg (by omega), hqq]; exact (Int.natCast_ediv a1 k1).symm
            have d6 : (a1 : Int) / (k1 : Int) = (q : Int) := by rw [hqq]; exact (Int.natCast_ediv a1 k1).symm
            have d7 : IntKind.i64.wrap (Int.tdiv (a1 : Int) (k1 : Int)) = (q : Int) := by rw [d5]; exact IntWalk.i64_in _ (by omega)
            have d8 : IntKind.i64.wrap ((a1 : Int) / (k1 : Int)) = (q : Int) := by rw [d6]; exact IntWalk.i64_in _ (by omega)
            have HRR := Lib.hid hrr
            have HQQ := Lib.hid hqq
            clear hrr hqq
            by_cases hr0 : r = 0
            · subst hr0
              by_cases hq3 : q ≤ 3
              · have hdq : decide (3 < (q : Int)) = false := by simp; omega
                have z0 : ((0 : Nat) : Int) = 0 := rfl
                rw [z0] at d1 d2 d3 d4
                have hkq : a1 = k1 * q := by have := Nat.div_add_mod a1 k1; rw [← HRR.out, ← HQQ.out] at this; omega
                have hq1 : 1 ≤ q := by
                  rcases Nat.eq_zero_or_pos q with h0 | h0
                  · rw [h0] at hkq; simp at hkq; omega
                  · exact h0
                have H2 := (Sep.start wr).rowBox 3 #[] 1 0 rfl (by decide)
                have hb2 := hb1.trans (H2.below.mono hb1.size)
                have hE : IntsRd (wr.alloc (.cells #[] 3)) w.heap.size (wr.alloc (.cells #[] 3)).heap.size (.slice (some ⟨wr.heap.size, 0, none⟩) 0 0) (fc []) := H2.oi.sr.more hb1.size (Nat.le_refl _)
                have HSR := Lib.hid (spec_search_c k1 q HA.out hl1 hl6 h12 (by omega) hq1 (by omega) (k1 * q) [] _ _ w.heap.size hb2.size ((HL0.out.keep (SameIn.of_below hb2 (Nat.le_refl _))).more (Nat.le_refl _) hb2.size) hE ⟨_, _, rfl, Nat.le_refl _⟩ (fun x hx => by simp at hx) laidOk.nil (by simp))
                have HKQ := Lib.hid hkq
                clear z0 hE H2 hb1 hkq
                go_wp2_with fail
                refine (HSR.out).mono ?_
                intro e w3 hp
                obtain ⟨v3, rfl, hfd, b3⟩ := hp
                have hb3 := hb2.trans (b3.mono hb2.size)
                clear b3 HSR hb2
                cases hs : searchW l k1 q (k1 * q) [] with
                | none =>
                  have hno : tryAt l a1 k1 = none := tryAt_none (by rw [← HQQ.out]; exact hs)
                  have hno2 : tryAt l a1 (k + 1) = none := by rw [← HK1.out]; exact hno
                  have hmiss := tryRow_miss HK.out hno2
                  have HK2 := Lib.hid hmiss
                  clear hno hno2 hmiss hs hfd d1 d2 d3 d4 d5 d6 d7 d8
                  go_wp2
                  go_roundw
                  case rel => exact ⟨k + 1, by omega, by rw [HK1.out]; go_num, HK2, hb3⟩
                  case measure => simp [intOf]; omega
                | some f =>
                  have hyes : tryAt l a1 k1 = some (f, k1, q) := by
                    have := tryAt_some (l := l) (a := a1) (w := k1) (f := f) ⟨HRR.out.symm, by rw [← HQQ.out]; exact hq3⟩ (by rw [← HQQ.out]; exact hs)
                    rw [← HQQ.out] at this
                    exact this
                  have hhit := period_hit HA.out HT.out h9 (by rw [← HA1.out]; exact HK.out) h3 (by rw [← HA1.out, ← HK1.out]; exact hyes)
                  obtain rfl : S = some (f, k1, q) := by rw [HS.out]; exact hhit
                  have HFD := Lib.hid (hfd f hs)
                  clear hyes hhit hs hfd
                  go_wp2_with fail
                  go_quiet (fail)
                  have hb4 := below_drewN hb3 nq
                  go_wp2
                  refine bodyPost_ret (v := .tuple #[v3, .int .i64 (k1 : Int), .int .i64 (q : Int), .bool true]) (by simp [results, Tryd.results48, go_sem]) rfl ?_
                  exact ⟨_, _, _, rfl, (fun f' a' b' h => by injection h with h; injection h with h1 h2; injection h2 with h2 h3; subst h1; subst h2; subst h3; exact ⟨rfl, rfl, (HFD.out.keep (SameIn.drewN nq)).more (Nat.le_refl _) (Nat.le_refl _)⟩), hb4⟩
              · have hdq : decide (3 < (q : Int)) = true := by simp; omega
                have z0 : ((0 : Nat) : Int) = 0 := rfl
                rw [z0] at d1 d2 d3 d4
                have hno : tryAt l a1 k1 = none := tryAt_no (by rw [← HQQ.out]; exact fun h => hq3 h.2)
                have HNO := Lib.hid hno
                clear z0 hno
                have hmiss := tryRow_miss HK.out (by rw [← HK1.out]; exact HNO.out)
                have HK2 := Lib.hid hmiss
                go_wp2
                go_roundw
                case rel => exact ⟨k + 1, by omega, by rw [HK1.out]; go_num, HK2, hb1⟩
                case measure => simp [intOf]; omega
            · have hrb : ((r : Int) == 0) = false := by simp; omega
              have hrn : ((r : Int) != 0) = true := by simp; omega
              have hno : tryAt l a1 k1 = none := tryAt_no (by rw [← HRR.out]; exact fun h => hr0 h.1)
              have HNO := Lib.hid hno
              clear hno
              have hmiss := tryRow_miss HK.out (by rw [← HK1.out]; exact HNO.out)
              have HK2 := Lib.hid hmiss
              go_wp2
              go_roundw
              case rel => exact ⟨k + 1, by omega, by rw [HK1.out]; go_num, HK2, hb1⟩
              case measure => simp [intOf]; omega
          · have hd3 : decide ((k1 : Int) ≤ 3) = false := by simp; omega
            have h33 : ¬ k1 ≤ 3 := by omega
            obtain rfl : k = 3 := by omega
            have hmiss := tryAll_miss HT.out (by rw [← HA1.out]; exact HK.out)
            have HT2 := Lib.hid hmiss
            clear hk1 hmiss
            go_wp2
            go_roundw
            case rel => exact ⟨a + 1, by omega, by rw [HA1.out]; go_num, HT2, hb1⟩
            case measure => simp [intOf]; omega
    · have hd9 : decide ((a1 : Int) ≤ 9) = false := by simp; omega
      have h99 : ¬ a1 ≤ 9 := by omega
      obtain rfl : a = 9 := by omega
      have hno : S = none := by
        rw [HS.out, period, HT.out]
        split <;> rfl
      have HNO := Lib.hid hno
      clear hno ha1
      obtain rfl : S = none := HNO.out
      have H2 := (Sep.start wr).rowBox 3 #[] 1 0 rfl (by decide)
      have hb2 := hbel.trans (H2.below.mono hbel.size)
      go_wp2_with fail
      refine bodyPost_ret (v := .tuple #[.slice (some ⟨wr.heap.size, 0, none⟩) 0 0, .int .i64 0, .int .i64 0, .bool false]) (by simp [results, Tryd.results48, go_sem]) rfl ?_
      exact ⟨_, 0, 0, rfl, (fun f a b h => by cases h), hb2⟩
end Go.Proofs.YtlfeognjnlppkaaDoor
