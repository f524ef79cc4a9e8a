
/-
  Wang tiles: the walk of the program's search.
-/
import Derived.Test.YtlfeognjnlppkaaDoorWangG
namespace Go.Proofs.YtlfeognjnlppkaaDoor
open Go.RowKit

set_option maxRecDepth 100000 in
set_option maxHeartbeats 800000 in
theorem copyInts_c {v : Value} {x : List Int} (w : World) (h : IntsRd w 0 w.heap.size v x) (hn : x.length ≤ 1000000) :
    Calls Tryd.prog 78 #[v] w fun e w' => ∃ v', e = .returned v' ∧ IntsIn w' w.heap.size w'.heap.size v' x ∧ Below w.heap.size w w' := by
  obtain ⟨i0, hi, hz0, hz1, hz2⟩ := info_parts infoIntW
  obtain ⟨A, c, rfl, hm, hr⟩ := h
  have H := (Sep.start w).nil 3 1
  obtain ⟨n, hx⟩ : ∃ n, n = x.length := ⟨_, rfl⟩
  rw [← hx] at hr hn ⊢
  have HX := Lib.hid hx
  clear hm hx
  go_enter Tryd.func78, Tryd.ntmps78
  go_wp2_with (at_builtin; refine wpList_app rfl _ _ 31 rfl 3 i0 _ 1 8 Tryd.underlying31 hi hz0 hz1 hz2 rfl (by decide) _ _ _ rfl H _ _ _ _ rfl hr ic_one (by unfold maxLen; omega) (by omega) ?_; intro v1 w1 H1; clear H hr)
  go_ret
  exact ⟨_, rfl, IntsIn.mk H1.oi.1 (by rw [← HX.out]; omega) rfl, H1.below⟩

set_option maxRecDepth 100000 in
set_option maxHeartbeats 3200000 in
theorem wangFills_c {w0 : World} {g9 g10 g1 g7 g8 : Nat} {v : Value} {l : List Wg} (wd h : Nat) (hl0 : WangsRd w0 0 w0.heap.size v l) (hl1 : 1 ≤ l.length) (hl : l.length ≤ 6) (hw1 : 1 ≤ wd) (hw4 : wd ≤ 4) (hh1 : 1 ≤ h) (hh4 : h ≤ 4) :
    ∀ (k : Nat) (f : List Nat) (vf : Value) (L : List Res) (w : World) (_ : Sep w0 w (fillRow vf f :: bxs g9 g10 g1 g7 g8 (.slice none 0 0) false v wd h L)) (_ : inT l f) (_ : f.length + k = wd * h),
    Calls Tryd.prog 68 #[v, .int .i64 wd, .int .i64 h, vf, .func (.func 70) #[] #[.pointer (some ⟨g1, 0, none⟩), .pointer (some ⟨g7, 0, none⟩), .pointer (some ⟨g8, 0, none⟩), .pointer (some ⟨g9, 0, none⟩), .pointer (some ⟨g10, 0, none⟩)]] w
      (VPost w0 g9 g10 g1 g7 g8 v wd h L vf f (searchW l wd h k f)) := by
  intro k
  have hn16 : wd * h ≤ 16 := Nat.le_trans (Nat.mul_le_mul hw4 hh4) (by decide)
  induction k with
  | zero =>
    intro f vf L w H hin hfk
    have hfl : f.length = wd * h := by omega
    have HV := Lib.hid (visit_c wd h w hl0 H hin hl1 hl hw1 hw4 hh1 hh4 hfl)
    obtain ⟨A, c, rfl, _, _, _⟩ := Res.row_at H.h0
    obtain ⟨Al, cl, rfl, _, _⟩ := id hl0
    obtain ⟨n, hn⟩ : ∃ n, n = f.length := ⟨_, rfl⟩
    have hmul : (wd : Int) * (h : Int) = (n : Int) := by rw [hn, hfl]; exact (Int.natCast_mul wd h).symm
    have hmul2 : IntKind.i64.wrap ((wd : Int) * (h : Int)) = (n : Int) := by rw [hmul]; exact IntWalk.i64_in _ (by omega)
    obtain ⟨S, hS⟩ : ∃ S, S = searchW l wd h 0 f := ⟨_, rfl⟩
    rw [← hS]
    unfold searchW at hS
    rw [← hS] at HV
    rw [← hn] at HV ⊢
    clear hS hfk hfl hn H
    go_enter Tryd.func68, Tryd.ntmps68
    go_wp2_with fail
    refine (HV.out).mono ?_
    intro e w1 hp
    obtain ⟨rfl, hp2⟩ := hp
    have HP2 := Lib.hid hp2
    clear hp2 hmul hmul2
    cases S with
    | none =>
      go_wp2
      go_ret
      exact VPost.no rfl rfl (HP2.out.1 (by simp))
    | some g =>
      obtain ⟨vg, hg⟩ := HP2.out.2 g (by simp)
      go_wp2
      go_ret
      exact VPost.yes rfl rfl hg
  | succ k ih =>
    intro f vf L w H hin hfk
    obtain ⟨i0, hi, hz0, hz1, hz2⟩ := info_parts infoIntW
    obtain ⟨A, c, rfl, _, _, _⟩ := Res.row_at H.h0
    obtain ⟨Al, cl, rfl, hml, _⟩ := id hl0
    obtain ⟨n, hn⟩ : ∃ n, n = f.length := ⟨_, rfl⟩
    obtain ⟨m, hm⟩ : ∃ m, m = wd * h := ⟨_, rfl⟩
    have hmul : (wd : Int) * (h : Int) = (m : Int) := by rw [hm]; exact (Int.natCast_mul wd h).symm
    have hmul2 : IntKind.i64.wrap ((wd : Int) * (h : Int)) = (m : Int) := by rw [hmul]; exact IntWalk.i64_in _ (by omega)
    have hne : ((n : Int) == (m : Int)) = false := by simp; omega
    have hnm : n < 16 := by omega
    have hnm2 : n < m := by omega
    have hm16 : m ≤ 16 := by omega
    have HFK := Lib.hid hfk
    have HN := Lib.hid hn
    have HIN := Lib.hid hin
    have IH := Lib.hid ih
    obtain ⟨F, hF⟩ : ∃ F : Nat → Option (List Nat), F = fun t => if fitsW l wd f t then searchW l wd h k (f ++ [t]) else none := ⟨_, rfl⟩
    obtain ⟨S, hS⟩ : ∃ S, S = searchW l wd h (k + 1) f := ⟨_, rfl⟩
    rw [← hS]
    unfold searchW at hS
    rw [← hF] at hS
    have HS := Lib.hid hS
    have HFF := Lib.hid hF
    have HL0 := Lib.hid hl0
    have H0 : Sep w0 w (Res.row (.slice A n c) 3 1 n (ic (fc f)) :: bxs g9 g10 g1 g7 g8 (.slice none 0 0) false (.slice Al l.length cl) wd h L) := by rw [hn]; exact H
    rw [← hn]
    unfold maxLen at hml
    clear hfk hm hin ih hS hF hn H hl0
    go_enter Tryd.func68, Tryd.ntmps68
    go_wp2
    clear hmul hmul2 hne
    go_loopw [24] (fun i wr => ∃ t : Nat, t ≤ l.length ∧ i = .int .i64 t ∧ Hid ((List.range t).findSome? F = none) ∧ Sep w0 wr (Res.row (.slice A n c) 3 1 n (ic (fc f)) :: bxs g9 g10 g1 g7 g8 (.slice none 0 0) false (.slice Al l.length cl) wd h L)) (fun i _ => l.length - (intOf i).toNat)
    case atStart => exact ⟨0, Nat.zero_le _, rfl, Lib.hid rfl, H0⟩
    case round =>
      clear H0
      obtain ⟨t, ht, rfl, HT, H⟩ := hrel
      by_cases hlt : t < l.length
      · have hcp : IntsRd wr 0 wr.heap.size (.slice A n c) (fc f) := by unfold IntsRd; rw [fc_length, ← HN.out]; exact H.oi.sr.more (Nat.zero_le _) (Nat.le_refl _)
        have HC := Lib.hid (copyInts_c wr hcp (by rw [fc_length, ← HN.out]; omega))
        clear hcp
        go_wp2_with fail
        refine (HC.out).mono ?_
        rintro e w1 ⟨v1, rfl, o1, b1⟩
        have H1 := H.oiNew b1 o1
        rw [fc_length, ← HN.out] at H1
        clear b1 o1 HC H
        go_wp2_with (at_builtin; refine wpList_app rfl _ _ 31 rfl 3 i0 _ 1 8 Tryd.underlying31 hi hz0 hz1 hz2 rfl (by decide) _ _ _ rfl (H1.alloc _) _ _ _ [.int .i64 (t : Int)] rfl (Rd.fresh w1 _ #[.int .i64 (t : Int)] 1 1 rfl) oc1 (by unfold maxLen; omega) (by omega) ?_; intro v2 w2 H2; clear H1)
        have hx : ic (fc f) ++ [Value.int .i64 (t : Int)] = ic (fc (f ++ [t])) := by rw [fc_append, ic_append]; rfl
        have hl' : n + 1 = (f ++ [t]).length := by rw [List.length_append, ← HN.out]; simp
        rw [hx] at H2
        have H3 : Sep w0 w2 (fillRow v2 (f ++ [t]) :: Res.row (.slice A n c) 3 1 n (ic (fc f)) :: bxs g9 g10 g1 g7 g8 (.slice none 0 0) false (.slice Al l.length cl) wd h L) := by
          unfold fillRow; rw [← hl']; exact H2
        have hrd : IntsRd w2 0 w2.heap.size v2 (fc (f ++ [t])) := by unfold IntsRd; rw [fc_length]; exact H3.oi.sr.more (Nat.zero_le _) (Nat.le_refl _)
        have HFI := Lib.hid (impl_fits_c wd t w2 ((HL0.out.keep (SameIn.of_below H3.below (Nat.le_refl _))).more (Nat.le_refl _) H3.size) hrd HIN.out hlt hl hw1 hw4 (by rw [← HN.out]; omega))
        have hin2 := HIN.out.snoc hlt
        have HIN2 := Lib.hid hin2
        have hfk2 : (f ++ [t]).length + k = wd * h := by have := HFK.out; rw [List.length_append]; simp; omega
        have HFK2 := Lib.hid hfk2
        clear hx hl' H2 hrd hin2 hfk2
        refine (HFI.out).mono ?_
        rintro e w3 ⟨rfl, b3⟩
        have H4 := H3.step b3
        clear H3 b3 HFI
        cases hft : fitsW l wd f t
        · have hno : F t = none := by rw [HFF.out]; simp [hft]
          have hmiss := find_miss HT.out hno
          have HT2 := Lib.hid hmiss
          have H5 := H4.drop
          clear hft hno hmiss H4
          go_wp2
          go_roundw
          case rel => exact ⟨t + 1, by omega, by go_num, HT2, H5⟩
          case measure => simp [intOf]; omega
        · have hFt : F t = searchW l wd h k (f ++ [t]) := by rw [HFF.out]; simp [hft]
          have HREC := Lib.hid (IH.out (f ++ [t]) v2 _ w3 H4.tail5 HIN2.out HFK2.out)
          rw [← hFt] at HREC
          clear hft hFt H4
          go_wp2_with fail
          refine (HREC.out).mono ?_
          intro e w4 hp
          obtain ⟨rfl, hp2⟩ := hp
          have HP2 := Lib.hid hp2
          clear hp2 HREC
          cases hs : F t with
          | none =>
            have H5 := (HP2.out.1 hs).un5.drop
            have hmiss := find_miss HT.out hs
            have HT2 := Lib.hid hmiss
            clear hmiss hs HP2
            go_wp2
            go_roundw
            case rel => exact ⟨t + 1, by omega, by go_num, HT2, H5⟩
            case measure => simp [intOf]; omega
          | some g =>
            obtain ⟨vg, hg⟩ := HP2.out.2 g hs
            have H5 := hg.un5.drop2
            have hhit := find_hit HT.out hlt hs
            obtain rfl : S = some g := by rw [HS.out]; exact hhit
            clear hhit hs HP2 hg
            go_wp2
            go_ret
            exact VPost.yes rfl rfl H5
      · obtain rfl : t = l.length := by omega
        obtain rfl : S = none := by rw [HS.out]; exact HT.out
        go_wp2
        go_ret
        refine VPost.no rfl rfl ?_
        unfold fillRow
        rw [← HN.out]
        exact H
end Go.Proofs.YtlfeognjnlppkaaDoor
