
/-
  Wang tiles: the search for a fill that closes, in plain Lean; the walk of the reference's search.
-/
import Derived.Test.YtlfeognjnlppkaaDoorWangE
import Derived.Test.YtlfeognjnlppkaaDoorSepApp
namespace Go.Proofs.YtlfeognjnlppkaaDoor
open Go.RowKit

/-- fills that begin with f, k tiles more, in order: the first that closes -/
def searchW (l : List Wg) (w h : Nat) : Nat → List Nat → Option (List Nat)
  | 0, f => if closesW l w h f then some f else none
  | k + 1, f => (List.range l.length).findSome? fun t => if fitsW l w f t then searchW l w h k (f ++ [t]) else none
theorem find_end {α β : Type} {F : α → Option β} {l : List α} (h : l.findSome? F = none) {a : α} {r : List α} : (l ++ a :: r).findSome? F = (F a).or (r.findSome? F) := by
  rw [List.findSome?_append, h, Option.none_or, List.findSome?_cons]
  cases F a <;> rfl
theorem range_cut {n k : Nat} (h : k < n) : List.range n = List.range k ++ k :: (List.range (n - k - 1)).map (· + (k + 1)) := by
  have e : n = k + 1 + (n - k - 1) := by omega
  rw [e, List.range_add, List.range_succ, List.append_assoc, List.singleton_append]
  congr 2
  rw [show k + 1 + (n - k - 1) - k - 1 = n - k - 1 by omega]
  exact List.map_congr_left fun a _ => Nat.add_comm _ _
theorem find_hit {β : Type} {F : Nat → Option β} {n k : Nat} {g : β} (h : (List.range k).findSome? F = none) (hk : k < n) (hg : F k = some g) : (List.range n).findSome? F = some g := by
  rw [range_cut hk, find_end h, hg]; rfl
theorem find_miss {β : Type} {F : Nat → Option β} {k : Nat} (h : (List.range k).findSome? F = none) (hg : F k = none) : (List.range (k + 1)).findSome? F = none := by
  rw [List.range_succ, find_end h, hg]; rfl
theorem search_len {l : List Wg} {w h : Nat} : ∀ (k : Nat) (f g : List Nat), searchW l w h k f = some g → g.length = f.length + k
  | 0, f, g, hs => by
    unfold searchW at hs
    split at hs
    · injection hs with hs; rw [hs]; rfl
    · cases hs
  | k + 1, f, g, hs => by
    unfold searchW at hs
    obtain ⟨t, _, ht⟩ := List.exists_of_findSome?_eq_some hs
    split at ht
    · have := search_len k (f ++ [t]) g ht
      rw [this]
      simp
      omega
    · cases ht
set_option maxRecDepth 100000 in
theorem infoIntW : (Tryd.prog.info? 3).map (fun i => (i.zero, i.size, i.bytes)) = some (some (.int .i64 0), 1, 8) := by kernel_rfl
def Found (r : Option (List Nat)) (lo : Nat) (w : World) (v : Value) : Prop := ∀ g, r = some g → IntsRd w lo w.heap.size v (fc g)
/-- what the reference's search answers -/
def SPost (r : Option (List Nat)) (lo : Nat) (w : World) (e : Ending) (w' : World) : Prop := ∃ v', e = .returned (.tuple #[v', .bool r.isSome]) ∧ Found r lo w' v' ∧ Below w.heap.size w w'
theorem SPost.mk {r : Option (List Nat)} {lo : Nat} {w w' : World} {v' : Value} {q : Bool} (hq : q = r.isSome) (hf : Found r lo w' v') (hb : Below w.heap.size w w') : SPost r lo w (.returned (.tuple #[v', .bool q])) w' := by subst hq; exact ⟨v', rfl, hf, hb⟩

set_option maxRecDepth 100000 in
set_option maxHeartbeats 3200000 in
theorem spec_search_c {v : Value} {l : List Wg} (wd h : Nat) (hA : areW l = true) (hl1 : 1 ≤ l.length) (hl : l.length ≤ 6) (hw1 : 1 ≤ wd) (hw4 : wd ≤ 4) (hh1 : 1 ≤ h) (hh4 : h ≤ 4) :
    ∀ (k : Nat) (f : List Nat) (vf : Value) (w : World) (lo : Nat) (_ : lo ≤ w.heap.size) (_ : WangsRd w 0 w.heap.size v l) (_ : IntsRd w lo w.heap.size vf (fc f)) (_ : ∃ A c, vf = .slice A f.length c ∧ f.length ≤ c) (_ : inT l f) (_ : laidOk l wd f) (_ : f.length + k = wd * h),
    Calls Tryd.prog 65 #[v, .int .i64 wd, .int .i64 h, vf] w (SPost (searchW l wd h k f) lo w) := by
  intro k
  induction k with
  | zero =>
    intro f vf w lo hlo hl0 hf hcap hin hla hfk
    have hfl : f.length = wd * h := by omega
    have HPER := Lib.hid (spec_periodic_c wd h w hl0 (hf.more (Nat.zero_le _) (Nat.le_refl _)) hcap hA hin hla hl1 hl hw1 hw4 hh1 hh4 hfl)
    have HF := Lib.hid hf
    obtain ⟨A, c, rfl, hcc⟩ := hcap
    have hn16 : f.length ≤ 16 := by rw [hfl]; exact Nat.le_trans (Nat.mul_le_mul hw4 hh4) (by decide)
    obtain ⟨n, hn⟩ : ∃ n, n = f.length := ⟨_, rfl⟩
    rw [← hn] at hfl hn16 HPER HF ⊢
    have hmul : (wd : Int) * (h : Int) = (n : Int) := by rw [hfl]; exact (Int.natCast_mul wd h).symm
    have hmul2 : IntKind.i64.wrap ((wd : Int) * (h : Int)) = (n : Int) := by rw [hmul]; exact IntWalk.i64_in _ (by omega)
    obtain ⟨S, hS⟩ : ∃ S, S = searchW l wd h 0 f := ⟨_, rfl⟩
    rw [← hS]
    unfold searchW at hS
    have HS := Lib.hid hS
    clear hf hl0 hcc hn hfl hfk hS hA hin hla
    cases hR : closesW l wd h f
    · obtain rfl : S = none := by rw [HS.out, hR]; rfl
      rw [hR] at HPER
      clear hR
      go_enter Tryd.func65, Tryd.ntmps65
      go_wp2_with fail
      refine (HPER.out).mono ?_
      rintro e w1 ⟨rfl, b1⟩
      clear hmul hmul2
      go_wp2
      go_ret2
      exact SPost.mk rfl (fun g hg => by cases hg) b1
    · obtain rfl : S = some f := by rw [HS.out, hR]; rfl
      rw [hR] at HPER
      clear hR
      go_enter Tryd.func65, Tryd.ntmps65
      go_wp2_with fail
      refine (HPER.out).mono ?_
      rintro e w1 ⟨rfl, b1⟩
      clear hmul hmul2
      go_wp2
      go_ret2
      exact SPost.mk rfl (fun g hg => by injection hg with hg; subst hg; exact (HF.out.keep (SameIn.of_below b1 (Nat.le_refl _))).more (Nat.le_refl _) b1.size) b1
  | succ k ih =>
    intro f vf w lo hlo hl0 hf hcap hin hla hfk
    replace hf := hf.more (Nat.zero_le _) (Nat.le_refl _)
    obtain ⟨i0, hi, hz0, hz1, hz2⟩ := info_parts infoIntW
    obtain ⟨A, c, rfl, hmm, hr⟩ := id hl0
    obtain ⟨A', c', rfl, hm', hr'⟩ := id hf
    obtain ⟨A2, c2, he, hcc⟩ := hcap
    injection he with he1 he2 he3
    subst he1 he3
    have hn16 : wd * h ≤ 16 := Nat.le_trans (Nat.mul_le_mul hw4 hh4) (by decide)
    rw [fc_length] at hm' hr' hf ⊢
    obtain ⟨m, hm⟩ : ∃ m, m = wd * h := ⟨_, rfl⟩
    have hmul : (wd : Int) * (h : Int) = (m : Int) := by rw [hm]; exact (Int.natCast_mul wd h).symm
    have hmul2 : IntKind.i64.wrap ((wd : Int) * (h : Int)) = (m : Int) := by rw [hmul]; exact IntWalk.i64_in _ (by omega)
    obtain ⟨n, hn⟩ : ∃ n, n = f.length := ⟨_, rfl⟩
    rw [← hn] at hm' hr' hf hcc ⊢
    have hnm : n < m := by omega
    have hne : ((n : Int) == (m : Int)) = false := by simp; omega
    have hm16 : m ≤ 16 := by omega
    have HFK := Lib.hid hfk
    have HN := Lib.hid hn
    have HM := Lib.hid hm
    have HA := Lib.hid hA
    have HF := Lib.hid hf
    have HR := Lib.hid hr'
    have HLA := Lib.hid hla
    have HIN := Lib.hid hin
    have HL0 := Lib.hid hl0
    have IH := Lib.hid ih
    obtain ⟨F, hF⟩ : ∃ F : Nat → Option (List Nat), F = fun t => if fitsW l wd f t then searchW l wd h k (f ++ [t]) else none := ⟨_, rfl⟩
    obtain ⟨S, hS⟩ : ∃ S, S = searchW l wd h (k + 1) f := ⟨_, rfl⟩
    rw [← hS]
    unfold searchW at hS
    rw [← hF] at hS
    have HS := Lib.hid hS
    have HFF := Lib.hid hF
    clear hfk hn hm hA hf hr' hla hin hl0 ih hS hF hmm hr he2
    go_enter Tryd.func65, Tryd.ntmps65
    go_wp2
    clear hmul hmul2 hne
    go_loopw [10] (fun i wr => ∃ t : Nat, t ≤ l.length ∧ i = .int .i64 t ∧ Hid ((List.range t).findSome? F = none) ∧ Below w.heap.size w wr) (fun i _ => l.length - (intOf i).toNat)
    case atStart => exact ⟨0, Nat.zero_le _, rfl, Lib.hid rfl, Below.refl _ _⟩
    case round =>
      obtain ⟨t, ht, rfl, HT, hbel⟩ := hrel
      by_cases hlt : t < l.length
      · go_wp2_with fail
        refine (spec_fits_c (f := f) wd t wr ((HL0.out.keep (SameIn.of_below hbel (Nat.le_refl _))).more (Nat.le_refl _) hbel.size) ((HF.out.keep (SameIn.of_below hbel (Nat.le_refl _))).more (Nat.le_refl _) hbel.size) HIN.out hlt hl hw1 hw4 (by rw [← HN.out]; omega)).mono ?_
        rintro e w1 ⟨rfl, b1⟩
        have hb1 := hbel.trans (b1.mono hbel.size)
        clear b1 hbel
        cases hft : fitsW l wd f t
        · have hno : F t = none := by rw [HFF.out]; simp [hft]
          have hmiss := find_miss HT.out hno
          have HT2 := Lib.hid hmiss
          clear hft hno hmiss
          go_wp2
          go_roundw
          case rel => exact ⟨t + 1, by omega, by go_num, HT2, hb1⟩
          case measure => simp [intOf]; omega
        · have hFt : F t = searchW l wd h k (f ++ [t]) := by rw [HFF.out]; simp [hft]
          have HFT := Lib.hid hFt
          have hla2 := HLA.out.snoc hft
          have HLA2 := Lib.hid hla2
          have HE := (Sep.start w1).rowBox 3 #[] 1 0 rfl (by decide)
          have hb2 := hb1.trans (HE.below.mono hb1.size)
          have hrf := HR.out.keep (SameIn.of_below hb2 (Nat.le_refl _))
          clear hft hFt hla2 hb2
          go_wp2_with (at_builtin; first
            | (refine wpList_app rfl _ _ 31 rfl 3 i0 _ 1 8 Tryd.underlying31 hi hz0 hz1 hz2 rfl (by decide) _ _ _ rfl HE _ _ _ _ rfl hrf ic_one (by unfold maxLen; omega) (by omega) ?_
               intro v1 w1 H1
               clear HE hrf)
            | (refine wpList_app rfl _ _ 31 rfl 3 i0 _ 1 8 Tryd.underlying31 hi hz0 hz1 hz2 rfl (by decide) _ _ _ rfl (H1.alloc _) _ _ _ [.int .i64 (t : Int)] rfl (Rd.fresh w1 _ #[.int .i64 (t : Int)] 1 1 rfl) oc1 (by unfold maxLen; omega) (by omega) ?_
               intro v2 w2 H2
               clear H1))
          have hx : (#[] : Array Value).toList ++ ic (fc f) ++ [Value.int .i64 (t : Int)] = ic (fc (f ++ [t])) := by rw [fc_append, ic_append]; rfl
          have hl' : 0 + n + 1 = (fc (f ++ [t])).length := by rw [fc_length, List.length_append, ← HN.out]; simp
          obtain ⟨A5, c5, rfl, hc5, _, _⟩ := Res.row_at H2.h0
          have hsr := H2.oi.sr.more (lo' := lo) (by have := hb1.size; omega) (Nat.le_refl _)
          rw [hx, hl'] at hsr
          have hb2 := hb1.trans (H2.below.mono hb1.size)
          have hlen : (f ++ [t]).length = 0 + n + 1 := by rw [← fc_length (f := f ++ [t]), ← hl']
          have hin2 := HIN.out.snoc hlt
          have hfk2 : (f ++ [t]).length + k = wd * h := by have := HFK.out; rw [List.length_append]; simp; omega
          rw [← hl'] at hsr
          have hf2 : IntsRd w2 lo w2.heap.size (.slice A5 (0 + n + 1) c5) (fc (f ++ [t])) := by
            unfold IntsRd
            rw [← hl']
            exact hsr
          refine (IH.out (f ++ [t]) _ w2 lo (by have := hb2.size; omega) ((HL0.out.keep (SameIn.of_below hb2 (Nat.le_refl _))).more (Nat.le_refl _) hb2.size) hf2 ⟨A5, c5, by rw [hlen], by rw [hlen]; exact hc5⟩ hin2 HLA2.out hfk2).mono ?_
          intro e w3 hp
          obtain ⟨v3, rfl, hfd, b3⟩ := hp
          have hb3 := hb2.trans (b3.mono hb2.size)
          clear hx hl' hsr hlen hin2 hfk2 hf2 H2 b3 hb2 hb1
          rw [← HFT.out] at hfd ⊢
          cases hs : F t with
          | none =>
            have hmiss := find_miss HT.out hs
            have HT2 := Lib.hid hmiss
            clear hmiss hs hfd
            go_wp2
            go_roundw
            case rel => exact ⟨t + 1, by omega, by go_num, HT2, hb3⟩
            case measure => simp [intOf]; omega
          | some g =>
            have hhit := find_hit HT.out hlt hs
            obtain rfl : S = some g := by rw [HS.out]; exact hhit
            have HFD := Lib.hid (hfd g hs)
            clear hhit hs hfd
            go_wp2
            go_ret2
            exact SPost.mk rfl (fun g' hg => by injection hg with hg; subst hg; exact HFD.out) hb3
      · obtain rfl : t = l.length := by omega
        obtain rfl : S = none := by rw [HS.out]; exact HT.out
        have H2 := (Sep.start wr).rowBox 3 #[] 1 0 rfl (by decide)
        have hb2 := hbel.trans (H2.below.mono hbel.size)
        clear H2 hbel
        go_wp2
        go_ret2
        exact SPost.mk rfl (fun g hg => by cases hg) hb2
end Go.Proofs.YtlfeognjnlppkaaDoor
