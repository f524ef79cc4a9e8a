
/-
  Wang tiles: the search for a fill, the reference's 'FindWangFill'.
-/
import Derived.Test.YtlfeognjnlppkaaDoorWangF
namespace Go.Proofs.YtlfeognjnlppkaaDoor
open Go.RowKit

theorem areW_len {l : List Wg} (h : areW l = true) : 1 ≤ l.length ∧ l.length ≤ 6 := by
  unfold areW at h
  rw [Bool.and_eq_true] at h
  have := inW_iff.1 h.2
  omega
/-- fills that begin with f, k tiles more, in order: the first -/
def fillW (l : List Wg) (w : Nat) : Nat → List Nat → Option (List Nat)
  | 0, f => some f
  | k + 1, f => (List.range l.length).findSome? fun t => if fitsW l w f t then fillW l w k (f ++ [t]) else none
set_option maxRecDepth 100000 in
set_option maxHeartbeats 3200000 in
theorem spec_fills_c {v : Value} {l : List Wg} (wd h : Nat) (hA : areW l = true) (hl1 : 1 ≤ l.length) (hl : l.length ≤ 6) (hw1 : 1 ≤ wd) (hw4 : wd ≤ 4) (_ : 1 ≤ h) (hh4 : h ≤ 4) :
    ∀ (k : Nat) (f : List Nat) (vf : Value) (w : World) (lo : Nat) (_ : lo ≤ w.heap.size) (_ : WangsRd w 0 w.heap.size v l) (_ : IntsRd w lo w.heap.size vf (fc f)) (_ : ∃ A c, vf = .slice A f.length c ∧ f.length ≤ c) (_ : inT l f) (_ : laidOk l wd f) (_ : f.length + k = wd * h),
    Calls Tryd.prog 64 #[v, .int .i64 wd, .int .i64 h, vf] w (SPost (fillW l wd k f) lo w) := by
  intro k
  induction k with
  | zero =>
    intro f vf w lo hlo hl0 hf hcap hin hla hfk
    have hfl : f.length = wd * h := by omega
    have HF := Lib.hid hf
    obtain ⟨A, c, rfl, hcc⟩ := hcap
    have hn16 : f.length ≤ 16 := by rw [hfl]; exact Nat.le_trans (Nat.mul_le_mul hw4 hh4) (by decide)
    obtain ⟨n, hn⟩ : ∃ n, n = f.length := ⟨_, rfl⟩
    rw [← hn] at hfl hn16 HF ⊢
    have hmul : (wd : Int) * (h : Int) = (n : Int) := by rw [hfl]; exact (Int.natCast_mul wd h).symm
    have hmul2 : IntKind.i64.wrap ((wd : Int) * (h : Int)) = (n : Int) := by rw [hmul]; exact IntWalk.i64_in _ (by omega)
    clear hf hl0 hcc hn hfl hfk hA hin hla
    go_enter Tryd.func64, Tryd.ntmps64
    go_wp2
    go_ret2
    exact SPost.mk rfl (fun g hg => by injection hg with hg; subst hg; exact HF.out) (Below.refl _ _)
  | succ k ih =>
    intro f vf w lo hlo hl0 hf hcap hin hla hfk
    replace hf := hf.more (Nat.zero_le _) (Nat.le_refl _)
    obtain ⟨i0, hi, hz0, hz1, hz2⟩ := info_parts infoIntW
    obtain ⟨A, c, rfl, hmm, hr⟩ := id hl0
    obtain ⟨A', c', rfl, hm', hr'⟩ := id hf
    obtain ⟨A2, c2, he, hcc⟩ := hcap
    injection he with he1 he2 he3
    subst he1 he3
    have hn16 : wd * h ≤ 16 := Nat.le_trans (Nat.mul_le_mul hw4 hh4) (by decide)
    rw [fc_length] at hm' hr' hf ⊢
    obtain ⟨m, hm⟩ : ∃ m, m = wd * h := ⟨_, rfl⟩
    have hmul : (wd : Int) * (h : Int) = (m : Int) := by rw [hm]; exact (Int.natCast_mul wd h).symm
    have hmul2 : IntKind.i64.wrap ((wd : Int) * (h : Int)) = (m : Int) := by rw [hmul]; exact IntWalk.i64_in _ (by omega)
    obtain ⟨n, hn⟩ : ∃ n, n = f.length := ⟨_, rfl⟩
    rw [← hn] at hm' hr' hf hcc ⊢
    have hnm : n < m := by omega
    have hne : ((n : Int) == (m : Int)) = false := by simp; omega
    have hm16 : m ≤ 16 := by omega
    have HFK := Lib.hid hfk
    have HN := Lib.hid hn
    have HM := Lib.hid hm
    have HA := Lib.hid hA
    have HF := Lib.hid hf
    have HR := Lib.hid hr'
    have HLA := Lib.hid hla
    have HIN := Lib.hid hin
    have HL0 := Lib.hid hl0
    have IH := Lib.hid ih
    obtain ⟨F, hF⟩ : ∃ F : Nat → Option (List Nat), F = fun t => if fitsW l wd f t then fillW l wd k (f ++ [t]) else none := ⟨_, rfl⟩
    obtain ⟨S, hS⟩ : ∃ S, S = fillW l wd (k + 1) f := ⟨_, rfl⟩
    rw [← hS]
    unfold fillW at hS
    rw [← hF] at hS
    have HS := Lib.hid hS
    have HFF := Lib.hid hF
    clear hfk hn hm hA hf hr' hla hin hl0 ih hS hF hmm hr he2
    go_enter Tryd.func64, Tryd.ntmps64
    go_wp2
    clear hmul hmul2 hne
    go_loopw [10] (fun i wr => ∃ t : Nat, t ≤ l.length ∧ i = .int .i64 t ∧ Hid ((List.range t).findSome? F = none) ∧ Below w.heap.size w wr) (fun i _ => l.length - (intOf i).toNat)
    case atStart => exact ⟨0, Nat.zero_le _, rfl, Lib.hid rfl, Below.refl _ _⟩
    case round =>
      obtain ⟨t, ht, rfl, HT, hbel⟩ := hrel
      by_cases hlt : t < l.length
      · go_wp2_with fail
        refine (spec_fits_c (f := f) wd t wr ((HL0.out.keep (SameIn.of_below hbel (Nat.le_refl _))).more (Nat.le_refl _) hbel.size) ((HF.out.keep (SameIn.of_below hbel (Nat.le_refl _))).more (Nat.le_refl _) hbel.size) HIN.out hlt hl hw1 hw4 (by rw [← HN.out]; omega)).mono ?_
        rintro e w1 ⟨rfl, b1⟩
        have hb1 := hbel.trans (b1.mono hbel.size)
        clear b1 hbel
        cases hft : fitsW l wd f t
        · have hno : F t = none := by rw [HFF.out]; simp [hft]
          have hmiss := find_miss HT.out hno
          have HT2 := Lib.hid hmiss
          clear hft hno hmiss
          go_wp2
          go_roundw
          case rel => exact ⟨t + 1, by omega, by go_num, HT2, hb1⟩
          case measure => simp [intOf]; omega
        · have hFt : F t = fillW l wd k (f ++ [t]) := by rw [HFF.out]; simp [hft]
          have HFT := Lib.hid hFt
          have hla2 := HLA.out.snoc hft
          have HLA2 := Lib.hid hla2
          have HE := (Sep.start w1).rowBox 3 #[] 1 0 rfl (by decide)
          have hb2 := hb1.trans (HE.below.mono hb1.size)
          have hrf := HR.out.keep (SameIn.of_below hb2 (Nat.le_refl _))
          clear hft hFt hla2 hb2
          go_wp2_with (at_builtin; first
            | (refine wpList_app rfl _ _ 31 rfl 3 i0 _ 1 8 Tryd.underlying31 hi hz0 hz1 hz2 rfl (by decide) _ _ _ rfl HE _ _ _ _ rfl hrf ic_one (by unfold maxLen; omega) (by omega) ?_
               intro v1 w1 H1
               clear HE hrf)
            | (refine wpList_app rfl _ _ 31 rfl 3 i0 _ 1 8 Tryd.underlying31 hi hz0 hz1 hz2 rfl (by decide) _ _ _ rfl (H1.alloc _) _ _ _ [.int .i64 (t : Int)] rfl (Rd.fresh w1 _ #[.int .i64 (t : Int)] 1 1 rfl) oc1 (by unfold maxLen; omega) (by omega) ?_
               intro v2 w2 H2
               clear H1))
          have hx : (#[] : Array Value).toList ++ ic (fc f) ++ [Value.int .i64 (t : Int)] = ic (fc (f ++ [t])) := by rw [fc_append, ic_append]; rfl
          have hl' : 0 + n + 1 = (fc (f ++ [t])).length := by rw [fc_length, List.length_append, ← HN.out]; simp
          obtain ⟨A5, c5, rfl, hc5, _, _⟩ := Res.row_at H2.h0
          have hsr := H2.oi.sr.more (lo' := lo) (by have := hb1.size; omega) (Nat.le_refl _)
          rw [hx, hl'] at hsr
          have hb2 := hb1.trans (H2.below.mono hb1.size)
          have hlen : (f ++ [t]).length = 0 + n + 1 := by rw [← fc_length (f := f ++ [t]), ← hl']
          have hin2 := HIN.out.snoc hlt
          have hfk2 : (f ++ [t]).length + k = wd * h := by have := HFK.out; rw [List.length_append]; simp; omega
          rw [← hl'] at hsr
          have hf2 : IntsRd w2 lo w2.heap.size (.slice A5 (0 + n + 1) c5) (fc (f ++ [t])) := by
            unfold IntsRd
            rw [← hl']
            exact hsr
          refine (IH.out (f ++ [t]) _ w2 lo (by have := hb2.size; omega) ((HL0.out.keep (SameIn.of_below hb2 (Nat.le_refl _))).more (Nat.le_refl _) hb2.size) hf2 ⟨A5, c5, by rw [hlen], by rw [hlen]; exact hc5⟩ hin2 HLA2.out hfk2).mono ?_
          intro e w3 hp
          obtain ⟨v3, rfl, hfd, b3⟩ := hp
          have hb3 := hb2.trans (b3.mono hb2.size)
          clear hx hl' hsr hlen hin2 hfk2 hf2 H2 b3 hb2 hb1
          rw [← HFT.out] at hfd ⊢
          cases hs : F t with
          | none =>
            have hmiss := find_miss HT.out hs
            have HT2 := Lib.hid hmiss
            clear hmiss hs hfd
            go_wp2
            go_roundw
            case rel => exact ⟨t + 1, by omega, by go_num, HT2, hb3⟩
            case measure => simp [intOf]; omega
          | some g =>
            have hhit := find_hit HT.out hlt hs
            obtain rfl : S = some g := by rw [HS.out]; exact hhit
            have HFD := Lib.hid (hfd g hs)
            clear hhit hs hfd
            go_wp2
            go_ret2
            exact SPost.mk rfl (fun g' hg => by injection hg with hg; subst hg; exact HFD.out) hb3
      · obtain rfl : t = l.length := by omega
        obtain rfl : S = none := by rw [HS.out]; exact HT.out
        have H2 := (Sep.start wr).rowBox 3 #[] 1 0 rfl (by decide)
        have hb2 := hbel.trans (H2.below.mono hbel.size)
        clear H2 hbel
        go_wp2
        go_ret2
        exact SPost.mk rfl (fun g hg => by cases hg) hb2
set_option maxRecDepth 100000 in
set_option maxHeartbeats 1600000 in
theorem spec_findFill_c {v : Value} {l : List Wg} (wd h : Nat) (w : World) (hl0 : WangsRd w 0 w.heap.size v l) (hA : areW l = true) (hw1 : 1 ≤ wd) (hw4 : wd ≤ 4) (hh1 : 1 ≤ h) (hh4 : h ≤ 4) :
    Calls Tryd.prog 47 #[v, .int .i64 wd, .int .i64 h] w (SPost (fillW l wd (wd * h) []) w.heap.size w) := by
  obtain ⟨hl1, hl6⟩ := areW_len hA
  have HL0 := Lib.hid hl0
  have HA := Lib.hid hA
  obtain ⟨A, c, rfl, _, _⟩ := id hl0
  clear hl0 hA
  go_enter Tryd.func47, Tryd.ntmps47
  go_wp2_with fail
  refine (spec_areW_c (l := l) w HL0.out).mono ?_
  rintro e w1 ⟨rfl, b1⟩
  rw [HA.out]
  go_wp2_with (go_at_call 63; refine (l18Sides_c _ _ _ (by omega)).mono ?_; rintro e w' ⟨rfl, rfl⟩)
  have HE := (Sep.start w1).rowBox 3 #[] 1 0 rfl (by decide)
  have hb1 : Below w.heap.size w (w1.alloc (.cells #[] 3)) := b1.trans (HE.below.mono b1.size)
  have hf0 : IntsRd (w1.alloc (.cells #[] 3)) w.heap.size (w1.alloc (.cells #[] 3)).heap.size (.slice (some ⟨w1.heap.size, 0, none⟩) 0 0) (fc []) := HE.oi.sr.more b1.size (Nat.le_refl _)
  generalize w1.alloc (.cells #[] 3) = W at *
  refine (spec_fills_c wd h HA.out hl1 hl6 hw1 hw4 hh1 hh4 (wd * h) [] _ W w.heap.size hb1.size ((HL0.out.keep (SameIn.of_below hb1 (Nat.le_refl _))).more (Nat.le_refl _) hb1.size) hf0 ⟨_, _, rfl, Nat.le_refl _⟩ (fun x hx => by simp at hx) laidOk.nil (by simp)).mono ?_
  intro e w2 hp
  obtain ⟨v', rfl, hfd, b2⟩ := hp
  have hb := hb1.trans (b2.mono hb1.size)
  clear HE hf0
  go_wp2
  go_ret2
  exact SPost.mk rfl hfd hb
end Go.Proofs.YtlfeognjnlppkaaDoor
