
/-
  Wang tiles: the walk of the program's 'FindWangFill'.
-/
import Derived.Test.YtlfeognjnlppkaaDoorWangH
import Derived.Test.YtlfeognjnlppkaaDoorWangS
namespace Go.Proofs.YtlfeognjnlppkaaDoor
open Go.RowKit

section
variable {w0 w : World} {x a b g : Res} {L : List Res}
theorem Sep.tail2 (h : Sep w0 w (x :: g :: a :: b :: L)) : Sep w0 w (x :: a :: b :: g :: L) := h.onTail (by intro q; simp only [List.mem_cons]; grind) h.drop.p2
theorem Sep.un2 (h : Sep w0 w (x :: a :: b :: g :: L)) : Sep w0 w (x :: g :: a :: b :: L) := h.onTail (by intro q; simp only [List.mem_cons]; grind) h.drop.g2
end
/-- the visitor's boxes: what was found, whether -/
abbrev bxs2 (g9 g10 : Nat) (o : Value) (q : Bool) (L : List Res) : List Res := Res.box g9 31 #[o] :: Res.box g10 4 #[.bool q] :: L
def VPost2 (w0 : World) (g9 g10 : Nat) (L : List Res) (vf : Value) (f : List Nat) (r : Option (List Nat)) (e : Ending) (w' : World) : Prop :=
  e = .returned (.bool (!r.isSome)) ∧ (r = none → Sep w0 w' (fillRow vf f :: bxs2 g9 g10 (.slice none 0 0) false L)) ∧ ∀ g, r = some g → ∃ vg, Sep w0 w' (fillRow vg g :: bxs2 g9 g10 vg true L)
theorem VPost2.no {w0 w' : World} {g9 g10 : Nat} {vf : Value} {L : List Res} {f : List Nat} {r : Option (List Nat)} {q : Bool} (hr : r = none) (hq : q = true) (H : Sep w0 w' (fillRow vf f :: bxs2 g9 g10 (.slice none 0 0) false L)) : VPost2 w0 g9 g10 L vf f r (.returned (.bool q)) w' := by
  subst hr hq
  exact ⟨rfl, fun _ => H, fun g hg => by cases hg⟩
theorem VPost2.yes {w0 w' : World} {g9 g10 : Nat} {vf vg : Value} {L : List Res} {f g : List Nat} {r : Option (List Nat)} {q : Bool} (hr : r = some g) (hq : q = false) (H : Sep w0 w' (fillRow vg g :: bxs2 g9 g10 vg true L)) : VPost2 w0 g9 g10 L vf f r (.returned (.bool q)) w' := by
  subst hr hq
  exact ⟨rfl, (fun h => by cases h), fun g' hg => by injection hg with hg; subst hg; exact ⟨_, H⟩⟩

set_option maxRecDepth 100000 in
set_option maxHeartbeats 1600000 in
theorem visit2_c {w0 : World} {g9 g10 : Nat} {vf : Value} {f : List Nat} {L : List Res} (w : World) (H1 : Sep w0 w (fillRow vf f :: bxs2 g9 g10 (.slice none 0 0) false L)) :
    Calls Tryd.prog 69 #[vf, .pointer (some ⟨g9, 0, none⟩), .pointer (some ⟨g10, 0, none⟩)] w (VPost2 w0 g9 g10 L vf f (some f)) := by
  obtain ⟨A, c, rfl, _, _, _⟩ := Res.row_at H1.h0
  have f9 := H1.h1.frozen 0
  have f10 := H1.h2.frozen 0
  have x9 : w.cell? ⟨g9, 0, none⟩ = some (.slice none 0 0) := H1.h1.cell 0
  have x10 : w.cell? ⟨g10, 0, none⟩ = some (.bool false) := H1.h2.cell 0
  have H2 := ((H1.g1.set_ 0 (.slice A f.length c)).p1.g2.set_ 0 (.bool true)).p2
  have hne : g9 ≠ g10 := fun e => H1.drop.2.2.1 (Res.box g10 4 #[.bool false]) (by simp) g9 rfl e
  go_enter Tryd.func69, Tryd.ntmps69
  go_wp2
  go_ret
  exact VPost2.yes rfl rfl H2

set_option maxRecDepth 100000 in
set_option maxHeartbeats 3200000 in
theorem wangFills2_c {w0 : World} {g9 g10 : Nat} {v : Value} {l : List Wg} (wd h : Nat) (hl0 : WangsRd w0 0 w0.heap.size v l) (hl1 : 1 ≤ l.length) (hl : l.length ≤ 6) (hw1 : 1 ≤ wd) (hw4 : wd ≤ 4) (_ : 1 ≤ h) (hh4 : h ≤ 4) :
    ∀ (k : Nat) (f : List Nat) (vf : Value) (L : List Res) (w : World) (_ : Sep w0 w (fillRow vf f :: bxs2 g9 g10 (.slice none 0 0) false L)) (_ : inT l f) (_ : f.length + k = wd * h),
    Calls Tryd.prog 68 #[v, .int .i64 wd, .int .i64 h, vf, .func (.func 69) #[] #[.pointer (some ⟨g9, 0, none⟩), .pointer (some ⟨g10, 0, none⟩)]] w
      (VPost2 w0 g9 g10 L vf f (fillW l wd k f)) := by
  intro k
  have hn16 : wd * h ≤ 16 := Nat.le_trans (Nat.mul_le_mul hw4 hh4) (by decide)
  induction k with
  | zero =>
    intro f vf L w H hin hfk
    have hfl : f.length = wd * h := by omega
    have HV := Lib.hid (visit2_c w H)
    obtain ⟨A, c, rfl, _, _, _⟩ := Res.row_at H.h0
    obtain ⟨Al, cl, rfl, _, _⟩ := id hl0
    obtain ⟨n, hn⟩ : ∃ n, n = f.length := ⟨_, rfl⟩
    have hmul : (wd : Int) * (h : Int) = (n : Int) := by rw [hn, hfl]; exact (Int.natCast_mul wd h).symm
    have hmul2 : IntKind.i64.wrap ((wd : Int) * (h : Int)) = (n : Int) := by rw [hmul]; exact IntWalk.i64_in _ (by omega)
    obtain ⟨S, hS⟩ : ∃ S, S = fillW l wd 0 f := ⟨_, rfl⟩
    rw [← hS]
    unfold fillW at hS
    rw [← hS] at HV
    rw [← hn] at HV ⊢
    clear hS hfk hfl hn H
    go_enter Tryd.func68, Tryd.ntmps68
    go_wp2_with fail
    refine (HV.out).mono ?_
    intro e w1 hp
    obtain ⟨rfl, hp2⟩ := hp
    have HP2 := Lib.hid hp2
    clear hp2 hmul hmul2
    cases S with
    | none =>
      go_wp2
      go_ret
      exact VPost2.no rfl rfl (HP2.out.1 (by simp))
    | some g =>
      obtain ⟨vg, hg⟩ := HP2.out.2 g (by simp)
      go_wp2
      go_ret
      exact VPost2.yes rfl rfl hg
  | succ k ih =>
    intro f vf L w H hin hfk
    obtain ⟨i0, hi, hz0, hz1, hz2⟩ := info_parts infoIntW
    obtain ⟨A, c, rfl, _, _, _⟩ := Res.row_at H.h0
    obtain ⟨Al, cl, rfl, hml, _⟩ := id hl0
    obtain ⟨n, hn⟩ : ∃ n, n = f.length := ⟨_, rfl⟩
    obtain ⟨m, hm⟩ : ∃ m, m = wd * h := ⟨_, rfl⟩
    have hmul : (wd : Int) * (h : Int) = (m : Int) := by rw [hm]; exact (Int.natCast_mul wd h).symm
    have hmul2 : IntKind.i64.wrap ((wd : Int) * (h : Int)) = (m : Int) := by rw [hmul]; exact IntWalk.i64_in _ (by omega)
    have hne : ((n : Int) == (m : Int)) = false := by simp; omega
    have hnm : n < 16 := by omega
    have hnm2 : n < m := by omega
    have hm16 : m ≤ 16 := by omega
    have HFK := Lib.hid hfk
    have HN := Lib.hid hn
    have HIN := Lib.hid hin
    have IH := Lib.hid ih
    obtain ⟨F, hF⟩ : ∃ F : Nat → Option (List Nat), F = fun t => if fitsW l wd f t then fillW l wd k (f ++ [t]) else none := ⟨_, rfl⟩
    obtain ⟨S, hS⟩ : ∃ S, S = fillW l wd (k + 1) f := ⟨_, rfl⟩
    rw [← hS]
    unfold fillW at hS
    rw [← hF] at hS
    have HS := Lib.hid hS
    have HFF := Lib.hid hF
    have HL0 := Lib.hid hl0
    have H0 : Sep w0 w (Res.row (.slice A n c) 3 1 n (ic (fc f)) :: bxs2 g9 g10 (.slice none 0 0) false L) := by rw [hn]; exact H
    rw [← hn]
    unfold maxLen at hml
    clear hfk hm hin ih hS hF hn H hl0
    go_enter Tryd.func68, Tryd.ntmps68
    go_wp2
    clear hmul hmul2 hne
    go_loopw [24] (fun i wr => ∃ t : Nat, t ≤ l.length ∧ i = .int .i64 t ∧ Hid ((List.range t).findSome? F = none) ∧ Sep w0 wr (Res.row (.slice A n c) 3 1 n (ic (fc f)) :: bxs2 g9 g10 (.slice none 0 0) false L)) (fun i _ => l.length - (intOf i).toNat)
    case atStart => exact ⟨0, Nat.zero_le _, rfl, Lib.hid rfl, H0⟩
    case round =>
      clear H0
      obtain ⟨t, ht, rfl, HT, H⟩ := hrel
      by_cases hlt : t < l.length
      · have hcp : IntsRd wr 0 wr.heap.size (.slice A n c) (fc f) := by unfold IntsRd; rw [fc_length, ← HN.out]; exact H.oi.sr.more (Nat.zero_le _) (Nat.le_refl _)
        have HC := Lib.hid (copyInts_c wr hcp (by rw [fc_length, ← HN.out]; omega))
        clear hcp
        go_wp2_with fail
        refine (HC.out).mono ?_
        rintro e w1 ⟨v1, rfl, o1, b1⟩
        have H1 := H.oiNew b1 o1
        rw [fc_length, ← HN.out] at H1
        clear b1 o1 HC H
        go_wp2_with (at_builtin; refine wpList_app rfl _ _ 31 rfl 3 i0 _ 1 8 Tryd.underlying31 hi hz0 hz1 hz2 rfl (by decide) _ _ _ rfl (H1.alloc _) _ _ _ [.int .i64 (t : Int)] rfl (Rd.fresh w1 _ #[.int .i64 (t : Int)] 1 1 rfl) oc1 (by unfold maxLen; omega) (by omega) ?_; intro v2 w2 H2; clear H1)
        have hx : ic (fc f) ++ [Value.int .i64 (t : Int)] = ic (fc (f ++ [t])) := by rw [fc_append, ic_append]; rfl
        have hl' : n + 1 = (f ++ [t]).length := by rw [List.length_append, ← HN.out]; simp
        rw [hx] at H2
        have H3 : Sep w0 w2 (fillRow v2 (f ++ [t]) :: Res.row (.slice A n c) 3 1 n (ic (fc f)) :: bxs2 g9 g10 (.slice none 0 0) false L) := by
          unfold fillRow; rw [← hl']; exact H2
        have hrd : IntsRd w2 0 w2.heap.size v2 (fc (f ++ [t])) := by unfold IntsRd; rw [fc_length]; exact H3.oi.sr.more (Nat.zero_le _) (Nat.le_refl _)
        have HFI := Lib.hid (impl_fits_c wd t w2 ((HL0.out.keep (SameIn.of_below H3.below (Nat.le_refl _))).more (Nat.le_refl _) H3.size) hrd HIN.out hlt hl hw1 hw4 (by rw [← HN.out]; omega))
        have hin2 := HIN.out.snoc hlt
        have HIN2 := Lib.hid hin2
        have hfk2 : (f ++ [t]).length + k = wd * h := by have := HFK.out; rw [List.length_append]; simp; omega
        have HFK2 := Lib.hid hfk2
        clear hx hl' H2 hrd hin2 hfk2
        refine (HFI.out).mono ?_
        rintro e w3 ⟨rfl, b3⟩
        have H4 := H3.step b3
        clear H3 b3 HFI
        cases hft : fitsW l wd f t
        · have hno : F t = none := by rw [HFF.out]; simp [hft]
          have hmiss := find_miss HT.out hno
          have HT2 := Lib.hid hmiss
          have H5 := H4.drop
          clear hft hno hmiss H4
          go_wp2
          go_roundw
          case rel => exact ⟨t + 1, by omega, by go_num, HT2, H5⟩
          case measure => simp [intOf]; omega
        · have hFt : F t = fillW l wd k (f ++ [t]) := by rw [HFF.out]; simp [hft]
          have HREC := Lib.hid (IH.out (f ++ [t]) v2 _ w3 H4.tail2 HIN2.out HFK2.out)
          rw [← hFt] at HREC
          clear hft hFt H4
          go_wp2_with fail
          refine (HREC.out).mono ?_
          intro e w4 hp
          obtain ⟨rfl, hp2⟩ := hp
          have HP2 := Lib.hid hp2
          clear hp2 HREC
          cases hs : F t with
          | none =>
            have H5 := (HP2.out.1 hs).un2.drop
            have hmiss := find_miss HT.out hs
            have HT2 := Lib.hid hmiss
            clear hmiss hs HP2
            go_wp2
            go_roundw
            case rel => exact ⟨t + 1, by omega, by go_num, HT2, H5⟩
            case measure => simp [intOf]; omega
          | some g =>
            obtain ⟨vg, hg⟩ := HP2.out.2 g hs
            have H5 := hg.un2.drop2
            have hhit := find_hit HT.out hlt hs
            obtain rfl : S = some g := by rw [HS.out]; exact hhit
            clear hhit hs HP2 hg
            go_wp2
            go_ret
            exact VPost2.yes rfl rfl H5
      · obtain rfl : t = l.length := by omega
        obtain rfl : S = none := by rw [HS.out]; exact HT.out
        go_wp2
        go_ret
        refine VPost2.no rfl rfl ?_
        unfold fillRow
        rw [← HN.out]
        exact H
def FPost (r : Option (List Nat)) (w : World) (e : Ending) (w' : World) : Prop := ∃ v', e = .returned (.tuple #[v', .bool r.isSome]) ∧ (∀ f, r = some f → IntsIn w' w.heap.size w'.heap.size v' (fc f)) ∧ Below w.heap.size w w'
theorem FPost.mk {r : Option (List Nat)} {w w' : World} {v : Value} {q : Bool} (hq : q = r.isSome) (hi : ∀ f, r = some f → IntsIn w' w.heap.size w'.heap.size v (fc f)) (hb : Below w.heap.size w w') : FPost r w (.returned (.tuple #[v, .bool q])) w' := by
  subst hq
  exact ⟨_, rfl, hi, hb⟩
set_option maxRecDepth 100000 in
theorem isWangGrid_c (a b : Int) (w : World) (h : 1 ≤ a ∧ a ≤ 4 ∧ 1 ≤ b ∧ b ≤ 4) : Calls Tryd.prog 67 #[.int .i64 a, .int .i64 b] w fun e w' => e = .returned (.bool true) ∧ w = w' := by
  have h1 : inW a 1 4 = true := inW_iff.2 ⟨h.1, h.2.1⟩
  have h2 : inW b 1 4 = true := inW_iff.2 ⟨h.2.2.1, h.2.2.2⟩
  clear h
  go_enter Tryd.func67, Tryd.ntmps67
  go_wp2_with (go_at_call 42; refine (between_w _ _ _ _).mono ?_; rintro e w' ⟨rfl, rfl⟩)
  go_ret
  exact ⟨rfl, rfl⟩
set_option maxRecDepth 100000 in
set_option maxHeartbeats 1600000 in
theorem impl_findFill_c {v : Value} {l : List Wg} (wd h : Nat) (w : World) (hl0 : WangsRd w 0 w.heap.size v l) (hA : areW l = true) (hw1 : 1 ≤ wd) (hw4 : wd ≤ 4) (hh1 : 1 ≤ h) (hh4 : h ≤ 4) :
    Calls Tryd.prog 50 #[v, .int .i64 wd, .int .i64 h] w (FPost (fillW l wd (wd * h) []) w) := by
  obtain ⟨hl1, hl6⟩ := areW_len hA
  obtain ⟨S, hS⟩ : ∃ S, S = fillW l wd (wd * h) [] := ⟨_, rfl⟩
  rw [← hS]
  have HS := Lib.hid hS
  have HL0 := Lib.hid hl0
  have HA := Lib.hid hA
  obtain ⟨A, c, rfl, _, _⟩ := id hl0
  clear hl0 hA hS
  go_enter Tryd.func50, Tryd.ntmps50
  go_wp2_with fail
  refine (impl_areW_c (l := l) w HL0.out).mono ?_
  rintro e w1 ⟨rfl, b1⟩
  rw [HA.out]
  have HB := (((Sep.start w).step b1).box 31 #[.slice none 0 0]).box 4 #[.bool false]
  simp only [World.size_alloc] at HB
  have hlt : w1.heap.size < w1.heap.size + 1 := by omega
  go_wp2_with (go_at_call 67; refine (isWangGrid_c _ _ _ (by omega)).mono ?_; rintro e w' ⟨rfl, rfl⟩)
  have HF := Lib.hid (wangFills2_c wd h HL0.out hl1 hl6 hw1 hw4 hh1 hh4 (wd * h) [] (.slice none 0 0) [] _ ((HB.g1).nil 3 1) (fun x hx => by simp at hx) (by simp))
  rw [← HS.out] at HF
  clear HB
  refine (HF.out).mono ?_
  intro e w2 hp
  obtain ⟨rfl, hp2⟩ := hp
  have HP := Lib.hid hp2
  clear hp2 HF HS
  cases S with
  | none =>
    have H6 := HP.out.1 rfl
    have x9 : w2.cell? ⟨w1.heap.size, 0, none⟩ = some (.slice none 0 0) := H6.h1.cell 0
    have x10 : w2.cell? ⟨w1.heap.size + 1, 0, none⟩ = some (.bool false) := H6.h2.cell 0
    clear HP
    go_wp2_with fail
    go_quiet (fail)
    have H7 := H6.drewN nq
    go_wp2
    go_ret2
    exact FPost.mk rfl (fun f h => by cases h) H7.below
  | some f =>
    obtain ⟨vg, H6⟩ := HP.out.2 f rfl
    obtain ⟨Ag, cg, rfl, _, _, _⟩ := Res.row_at H6.h0
    have x9 : w2.cell? ⟨w1.heap.size, 0, none⟩ = some (.slice Ag f.length cg) := H6.h1.cell 0
    have x10 : w2.cell? ⟨w1.heap.size + 1, 0, none⟩ = some (.bool true) := H6.h2.cell 0
    clear HP
    go_wp2_with fail
    go_quiet (fail)
    have H7 := H6.drewN nq
    go_wp2
    go_ret2
    exact FPost.mk rfl (fun f' h => by injection h with h; subst h; exact IntsIn.mk H7.oi.1 (by rw [fc_length]) rfl) H7.below
end Go.Proofs.YtlfeognjnlppkaaDoor
