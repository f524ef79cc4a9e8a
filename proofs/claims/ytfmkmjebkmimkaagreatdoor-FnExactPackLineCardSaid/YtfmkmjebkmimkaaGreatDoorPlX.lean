
/-
  Coverings, plain: a covering with at most so many masks, the least cell first; the fewest masks. Coverings: the program's search, FewestCovering, CountCovering. Coverings: the reference's search. FewestCovering and CountCovering: both walks. PackLine: the reference's walk. PackLine: the program's walk. The law FnExactPackLine, walked by contracts, under the library's tables.
-/
import Derived.Test.YtfmkmjebkmimkaaGreatDoorPkBX
import Derived.Test.YtfmkmjebkmimkaaGreatDoorDivPX
import Derived.Test.YtfmkmjebkmimkaaGreatDoorTilP
import Derived.Test.YtfmkmjebkmimkaaGreatDoorFtX
import Derived.Test.YtfmkmjebkmimkaaGreatDoorPzG
import Derived.Test.YtfmkmjebkmimkaaGreatDoorPlcSX
import Derived.Test.YtfmkmjebkmimkaaGreatDoorTlfX
import Derived.Test.YtfmkmjebkmimkaaGreatDoorFmtIX
import Derived.Test.YtfmkmjebkmimkaaGreatDoorStrX
import Derived.Lib.ItoaLen
import Derived.Deep.RegionHeld3
import Derived.Test.YtfmkmjebkmimkaaGreatDoorLawPcs
import Derived.Test.YtfmkmjebkmimkaaGreatDoorLawInts
namespace Go.Proofs.YtfmkmjebkmimkaaGreatDoor
open Go.RowKit

/-- what is left of some cells -/
def lessN (f m : Nat) : Nat := f - (f &&& m)
theorem lessN_le {f m : Nat} : lessN f m ≤ f := Nat.sub_le _ _
theorem lessN_bit {f m : Nat} (hf : f < 2 ^ 64) (i : Nat) : (lessN f m).testBit i = (f.testBit i && !m.testBit i) := by
  unfold lessN
  rw [sub_test (show (f &&& m) &&& f = f &&& m by rw [Nat.and_comm (f &&& m), ← Nat.and_assoc, Nat.and_self]) hf, Nat.testBit_and]
  cases f.testBit i <;> cases m.testBit i <;> rfl
theorem andNot_less {a m : Nat} (ha : a < 2 ^ 36) (hm : m < 2 ^ 36) : bits .andNot .i64 (a : Int) (m : Int) = ((lessN a m : Nat) : Int) := by
  rw [i64_andNot_nat a m (by omega) (by omega)]
  congr 1
  apply Nat.eq_of_testBit_eq
  intro i
  rw [lessN_bit (by omega), Nat.testBit_and, Nat.testBit_two_pow_sub_succ (by omega : m < 2 ^ 64)]
  by_cases h : i < 64
  · simp [h]
  · have : a.testBit i = false := Nat.testBit_lt_two_pow (Nat.lt_of_lt_of_le (show a < 2 ^ 64 by omega) (Nat.pow_le_pow_right (by decide) (by omega)))
    simp [this]
def covL (F : Nat → Option (List Nat)) (f : Nat) : List Nat → Option (List Nat)
  | [] => none
  | m :: B => match F (lessN f m) with
    | some x => some (m :: x)
    | none => covL F f B
/-- a covering with at most k masks -/
def cov (A : List Nat) : Nat → Nat → Option (List Nat)
  | 0, f => if f = 0 then some [] else none
  | k + 1, f => if f = 0 then some [] else covL (cov A k) f (A.filter fun m => m.testBit (lowB f))
theorem cov_zero {A : List Nat} {k : Nat} : cov A k 0 = some [] := by cases k <;> simp [cov]
theorem cov_none {A : List Nat} {f : Nat} (h : f ≠ 0) : cov A 0 f = none := by simp [cov, h]
theorem cov_more {A : List Nat} {k f : Nat} (h : f ≠ 0) : cov A (k + 1) f = covL (cov A k) f (A.filter fun m => m.testBit (lowB f)) := by rw [cov, if_neg h]
theorem covL_end {F : Nat → Option (List Nat)} {f i : Nat} {B : List Nat} (h : i = B.length) : covL F f (B.drop i) = none := by rw [h, List.drop_length]; rfl
theorem covL_yes {F : Nat → Option (List Nat)} {f i m : Nat} {B x : List Nat} (h : B[i]? = some m) (hx : F (lessN f m) = some x) : covL F f (B.drop i) = some (m :: x) := by rw [pk_drop h, covL, hx]
theorem covL_no {F : Nat → Option (List Nat)} {f i m : Nat} {B : List Nat} (h : B[i]? = some m) (hx : F (lessN f m) = none) : covL F f (B.drop i) = covL F f (B.drop (i + 1)) := by rw [pk_drop h, covL, hx]
/-- the reference's loop runs over all -/
def covA (F : Nat → Option (List Nat)) (f k : Nat) (A : List Nat) : Option (List Nat) := covL F f (A.filter fun m => m.testBit k)
theorem covA_end {F : Nat → Option (List Nat)} {f k i : Nat} {A : List Nat} (h : i = A.length) : covA F f k (A.drop i) = none := by rw [h, List.drop_length]; rfl
theorem covA_skip {F : Nat → Option (List Nat)} {f k i m : Nat} {A : List Nat} (h : A[i]? = some m) (hb : m.testBit k = false) : covA F f k (A.drop i) = covA F f k (A.drop (i + 1)) := by
  unfold covA; rw [pk_drop h, List.filter_cons, hb]; rfl
theorem covA_yes {F : Nat → Option (List Nat)} {f k i m : Nat} {A x : List Nat} (h : A[i]? = some m) (hb : m.testBit k = true) (hx : F (lessN f m) = some x) : covA F f k (A.drop i) = some (m :: x) := by
  unfold covA; rw [pk_drop h, List.filter_cons, if_pos hb, covL, hx]
theorem covA_no {F : Nat → Option (List Nat)} {f k i m : Nat} {A : List Nat} (h : A[i]? = some m) (hb : m.testBit k = true) (hx : F (lessN f m) = none) : covA F f k (A.drop i) = covA F f k (A.drop (i + 1)) := by
  unfold covA; rw [pk_drop h, List.filter_cons, if_pos hb, covL, hx]
/-- what masks reach -/
def orA (A : List Nat) : Nat := A.foldl (· ||| ·) 0
theorem orA_fold {A : List Nat} {i : Nat} : ∀ {a : Nat}, (A.foldl (· ||| ·) a).testBit i = (a.testBit i || A.any fun m => m.testBit i) := by
  induction A with
  | nil => intro a; simp
  | cons x A ih => intro a; rw [List.foldl_cons, ih, Nat.testBit_or, List.any_cons, Bool.or_assoc]
theorem orA_bit {A : List Nat} {i : Nat} : (orA A).testBit i = A.any fun m => m.testBit i := by unfold orA; rw [orA_fold]; simp
theorem orA_snoc {A : List Nat} {m : Nat} : orA (A ++ [m]) = orA A ||| m := by simp [orA]
theorem covL_mem {F : Nat → Option (List Nat)} {f : Nat} : ∀ {B x : List Nat}, covL F f B = some x → ∃ m ∈ B, ∃ y, F (lessN f m) = some y
  | [], x, h => by cases h
  | m :: B, x, h => by
    unfold covL at h
    split at h
    · rename_i y hy
      exact ⟨m, List.mem_cons_self .., y, hy⟩
    · obtain ⟨m2, h1, y, h2⟩ := covL_mem h
      exact ⟨m2, List.mem_cons_of_mem _ h1, y, h2⟩
theorem cov_reach {A : List Nat} : ∀ (k : Nat) {f : Nat} {x : List Nat}, f < 2 ^ 64 → cov A k f = some x → ∀ i, f.testBit i = true → (orA A).testBit i = true
  | 0, f, x, hf, h, i, hi => by
    unfold cov at h
    split at h
    · rename_i h0; rw [h0, Nat.zero_testBit] at hi; cases hi
    · cases h
  | k + 1, f, x, hf, h, i, hi => by
    by_cases h0 : f = 0
    · rw [h0, Nat.zero_testBit] at hi; cases hi
    · rw [cov_more h0] at h
      obtain ⟨m, hm, y, hy⟩ := covL_mem h
      have hmA := (List.mem_filter.1 hm).1
      by_cases hb : m.testBit i = true
      · rw [orA_bit, List.any_eq_true]; exact ⟨m, hmA, hb⟩
      · refine cov_reach k (Nat.lt_of_le_of_lt lessN_le hf) hy i ?_
        rw [lessN_bit hf, hi]
        simpa using hb
theorem cov_far {A : List Nat} {M k : Nat} (hM : M < 2 ^ 64) (hA : ∀ m ∈ A, m &&& M = m) (h : orA A ≠ M) : cov A k M = none := by
  cases hc : cov A k M with
  | none => rfl
  | some x =>
    refine absurd ?_ h
    apply Nat.eq_of_testBit_eq
    intro i
    cases hb : M.testBit i
    · rw [orA_bit, List.any_eq_false]
      intro m hm
      have : (m &&& M).testBit i = m.testBit i := by rw [hA m hm]
      rw [Nat.testBit_and, hb, Bool.and_false] at this
      rw [← this]; simp
    · exact cov_reach k hM hc i hb
/-- the fewest, from n on, d tries -/
def covFrom (A : List Nat) (M : Nat) : Nat → Nat → Option (List Nat)
  | 0, _ => none
  | d + 1, n => match cov A n M with
    | some x => some x
    | none => covFrom A M d (n + 1)
theorem covFrom_yes {A x : List Nat} {M d n : Nat} (h : cov A n M = some x) : covFrom A M (d + 1) n = some x := by rw [covFrom, h]
theorem covFrom_no {A : List Nat} {M d n : Nat} (h : cov A n M = none) : covFrom A M (d + 1) n = covFrom A M d (n + 1) := by rw [covFrom, h]
theorem covFrom_far {A : List Nat} {M : Nat} (hM : M < 2 ^ 64) (hA : ∀ m ∈ A, m &&& M = m) (h : orA A ≠ M) : ∀ d n, covFrom A M d n = none
  | 0, n => rfl
  | d + 1, n => by rw [covFrom_no (cov_far hM hA h), covFrom_far hM hA h d]
/-- a covering with fewest masks -/
def covR (r : Reg) (ps : List (List Cell)) : Option (List Nat) := if smlB r ps = true then covFrom (allN r ps) r.mask (areaR r + 1).toNat 0 else none
theorem srtU_cons {l : List Int} {m : Int} : srtU (m :: l) = insN m (srtU l) := by
  refine asc_ext asc_srtU (asc_insN asc_srtU) fun c => ?_
  rw [mem_srtU, mem_insN, mem_srtU, List.mem_cons]
theorem covL_len {F : Nat → Option (List Nat)} {f n : Nat} (hF : ∀ g x, F g = some x → x.length ≤ n) : ∀ {B x : List Nat}, covL F f B = some x → x.length ≤ n + 1
  | [], x, h => by cases h
  | m :: B, x, h => by
    unfold covL at h
    split at h
    · rename_i y hy
      injection h with h
      subst h
      have := hF _ _ hy
      rw [List.length_cons]; omega
    · exact covL_len hF h
theorem cov_len {A : List Nat} : ∀ (k : Nat) {f : Nat} {x : List Nat}, cov A k f = some x → x.length ≤ k
  | 0, f, x, h => by
    unfold cov at h
    split at h
    · injection h with h; subst h; exact Nat.le_refl _
    · cases h
  | k + 1, f, x, h => by
    by_cases h0 : f = 0
    · subst h0; rw [cov_zero] at h; injection h with h; subst h; exact Nat.zero_le _
    · rw [cov_more h0] at h
      exact covL_len (fun g y hy => cov_len k hy) h
end Go.Proofs.YtfmkmjebkmimkaaGreatDoor

namespace Go.Proofs.YtfmkmjebkmimkaaGreatDoor
open Go.RowKit

/-- the search's memory, that is only read -/
structure CovSt (A : List Nat) (gs : Nat) (vs : List Value) (w : World) : Prop where
  box : Blk w gs 209 (schCells vs .nilFunc)
  slots : IntSlots w 0 w.heap.size vs (atM A)
  len : vs.length = 64
  tab : Tab64 w
theorem CovSt.keep {A : List Nat} {gs : Nat} {vs : List Value} {w w' : World} (h : CovSt A gs vs w) (hb : Below w.heap.size w w') : CovSt A gs vs w' :=
  ⟨(hb.block gs h.box.lt).trans h.box, (h.slots.keep (SameIn.of_below hb (Nat.le_refl _))).more (Nat.le_refl _) hb.size, h.len, tab64_on h.tab hb⟩
def CvRes (o : Option (List Nat)) (l : List Nat) (w : World) (v : Value) (b : Bool) : Prop := match o with
  | some x => b = true ∧ IntsRd w 0 w.heap.size v (nl (l ++ x))
  | none => b = false ∧ v = .slice none 0 0
def CvPost (o : Option (List Nat)) (l : List Nat) (w : World) : Ending → World → Prop := fun e w' => ∃ v' b, e = .returned (.tuple #[v', .bool b]) ∧ CvRes o l w' v' b ∧ Below w.heap.size w w'
theorem CvPost.some {o : Option (List Nat)} {l x y : List Nat} {w w' : World} {v : Value} (h : o = .some x) (hy : y = l ++ x) (hr : IntsRd w' 0 w'.heap.size v (nl y)) (hb : Below w.heap.size w w') : CvPost o l w (.returned (.tuple #[v, .bool true])) w' := by
  subst h
  subst hy
  exact ⟨v, true, rfl, ⟨rfl, hr⟩, hb⟩
theorem CvPost.none {o : Option (List Nat)} {l : List Nat} {w w' : World} (h : o = .none) (hb : Below w.heap.size w w') : CvPost o l w (.returned (.tuple #[.slice none 0 0, .bool false])) w' := by
  subst h
  exact ⟨_, false, rfl, ⟨rfl, rfl⟩, hb⟩
def CoverC (A : List Nat) (k : Nat) : Prop := ∀ (gs : Nat) (vs : List Value) (w : World) (l : List Nat) (lv : Value) (free : Nat), CovSt A gs vs w → IntsRd w 0 w.heap.size lv (nl l) → l.length + k ≤ 1000 → free < 2 ^ 36 →
  Calls Tryz.prog 198 #[.pointer (some ⟨gs, 0, none⟩), .int .i64 free, .int .i64 k, lv] w (CvPost (cov A k free) l w)
set_option maxRecDepth 100000 in
set_option maxHeartbeats 800000 in
theorem cover_done {A : List Nat} (k gs : Nat) (w : World) (l : List Nat) (lv : Value) (hl : IntsRd w 0 w.heap.size lv (nl l)) :
    Calls Tryz.prog 198 #[.pointer (some ⟨gs, 0, none⟩), .int .i64 ((0 : Nat) : Int), .int .i64 k, lv] w (CvPost (cov A k 0) l w) := by
  have HL := Lib.hid hl
  obtain ⟨A1, c1, rfl, _, _⟩ := id hl
  have HC : Hid (cov A k 0 = some []) := Lib.hid cov_zero
  clear hl
  go_enter Tryz.func198, Tryz.ntmps198
  go_wp2
  go_ret2
  exact CvPost.some HC.out (List.append_nil l).symm HL.out (Below.refl _ _)
set_option maxRecDepth 100000 in
set_option maxHeartbeats 800000 in
theorem cover_none {A : List Nat} (gs : Nat) (w : World) (l : List Nat) (lv : Value) (free : Nat) (hl : IntsRd w 0 w.heap.size lv (nl l)) (h0 : free ≠ 0) :
    Calls Tryz.prog 198 #[.pointer (some ⟨gs, 0, none⟩), .int .i64 free, .int .i64 ((0 : Nat) : Int), lv] w (CvPost (cov A 0 free) l w) := by
  obtain ⟨A1, c1, rfl, _, _⟩ := id hl
  have HC : Hid (cov A 0 free = none) := Lib.hid (cov_none h0)
  have hz : ((free : Int) == 0) = false := by simp; omega
  clear hl h0
  go_enter Tryz.func198, Tryz.ntmps198
  go_wp2
  go_ret2
  exact CvPost.none HC.out (Below.refl _ _)
set_option maxRecDepth 100000 in
set_option maxHeartbeats 3200000 in
theorem cover_step {A : List Nat} {k : Nat} (hA : ∀ m ∈ A, m < 2 ^ 36) (ih : CoverC A k) (gs : Nat) (vs : List Value) (w : World) (l : List Nat) (lv : Value) (free kk : Nat) (hkk : kk = k + 1) (hS : CovSt A gs vs w) (hl : IntsRd w 0 w.heap.size lv (nl l)) (hlk : l.length + kk ≤ 1000) (hf : free < 2 ^ 36) (h0 : free ≠ 0) :
    Calls Tryz.prog 198 #[.pointer (some ⟨gs, 0, none⟩), .int .i64 free, .int .i64 kk, lv] w (CvPost (cov A kk free) l w) := by
  obtain ⟨j0, hj, hy0, hy1, hy2⟩ := info_parts infoInt8
  have HIH := Lib.hid ih
  have HF := Lib.hid hf
  have HSS := Lib.hid hS
  obtain ⟨low, hlow⟩ : ∃ low, low = lowB free := ⟨_, rfl⟩
  have hl64 : low < 64 := by rw [hlow]; exact lowB_lt hf
  obtain ⟨B, hB⟩ : ∃ B, B = A.filter fun m => m.testBit low := ⟨_, rfl⟩
  obtain ⟨R, hR⟩ : ∃ R, R = cov A kk free := ⟨_, rfl⟩
  rw [← hR]
  have HB : Hid (R = covL (cov A k) free (B.drop 0)) := Lib.hid (by rw [hR, hkk, cov_more h0, hB, hlow, List.drop_zero])
  have HBM : Hid (∀ m ∈ B, m < 2 ^ 36) := Lib.hid fun m hm => by
    rw [hB] at hm
    exact hA m (List.mem_filter.1 hm).1
  have hrow : (atM A)[low]? = some (nl B) := by rw [hB]; exact atM_at hl64
  obtain ⟨u, hu, hru⟩ := hS.slots.2 low (nl B) hrow
  have c0 : w.cell? ⟨gs, low, none⟩ = some u := by
    rw [hS.box.cell, sch_at (by rw [hS.len]; exact hl64), hu]
  have l0 := Later.cell c0 hS.box.lt
  have HTZ : Hid (∀ u : Later w, Calls Tryz.prog 181 #[.int .u64 free] u.w fun e w' => e = .returned (.int .i64 low) ∧ u.w = w') := Lib.hid fun u => by
    rw [hlow]
    exact tz_c u.w h0 hf (tab64_on hS.tab u.h)
  have hw : IntKind.u64.wrap (free : Int) = (free : Int) := by rw [IntKind.wrap_u64]; omega
  have hz : ((free : Int) == 0) = false := by simp; omega
  have hz2 : ((kk : Int) == 0) = false := by simp; omega
  have HRU : Hid (∀ w1, Below w.heap.size w w1 → IntsRd w1 0 w1.heap.size u (nl B)) := Lib.hid fun w1 b => (hru.keep (SameIn.of_below b (Nat.le_refl _))).more (Nat.le_refl _) b.size
  have HRL : Hid (∀ w1, Below w.heap.size w w1 → IntsRd w1 0 w1.heap.size lv (nl l)) := Lib.hid fun w1 b => (hl.keep (SameIn.of_below b (Nat.le_refl _))).more (Nat.le_refl _) b.size
  obtain ⟨Au, cu, rfl, hmu, _⟩ := hru
  obtain ⟨A1, c1, rfl, _, _⟩ := hl
  obtain ⟨n, hn⟩ : ∃ n, n = B.length := ⟨_, rfl⟩
  have hnl : (nl B).length = n := by rw [hn]; simp [nl]
  obtain ⟨ln, hln⟩ : ∃ n, n = l.length := ⟨_, rfl⟩
  have hnl2 : (nl l).length = ln := by rw [hln]; simp [nl]
  rw [hnl] at l0 HRU hmu
  rw [hnl2] at HRL ⊢
  have HN := Lib.hid hn
  have HLN := Lib.hid hln
  have HLK : Hid (ln + kk ≤ 1000) := Lib.hid (by omega)
  unfold maxLen at hmu
  have t1 : (0 : Int) ≤ (low : Int) := by omega
  have t2 : (low : Int) < 64 := by omega
  have hkb : k ≤ 1000 := by omega
  have e5 : (kk : Int) - 1 = (k : Int) := by omega
  have e6 : IntKind.i64.wrap ((kk : Int) - 1) = (k : Int) := by rw [e5]; exact IntWalk.i64_in _ (by omega)
  have HKK := Lib.hid hkk
  clear hS ih hf h0 hlow hB hu c0 hn hnl hln hnl2 hA hrow hR hkk hlk
  go_enter Tryz.func198, Tryz.ntmps198
  go_wp2_with fail
  refine wp_region_later (by kernel_rfl) (by kernel_rfl) ?_
  repeat (go_big_quiet_step ((go_at_call 181; with_reducible exact Later.same (HTZ.out _))))
  refine wpQuiet_nil ?_
  intro w3 hw3
  obtain ⟨u3, hu3⟩ := hw3
  subst hu3
  have HO3 : Hid (Below w.heap.size w u3.w) := Lib.hid u3.h
  clear l0 HTZ hw hz hz2
  generalize u3.w = w3 at *
  go_wp2
  go_loopw [28] (fun iv wx => ∃ j : Nat, j ≤ n ∧ iv = .int .i64 j ∧ Hid (R = covL (cov A k) free (B.drop j)) ∧ Hid (Below w.heap.size w wx)) (fun iv _ => n - (intOf iv).toNat)
  case atStart => exact ⟨0, Nat.zero_le _, rfl, HB, HO3⟩
  case round =>
    clear HO3
    obtain ⟨j, hjn, rfl, HC, HO⟩ := hrel
    by_cases hlt : j < n
    · have hlti : (j : Int) < (n : Int) := by omega
      obtain ⟨m, hm⟩ : ∃ m, B[j]? = some m := ⟨B[j]'(by rw [← HN.out]; exact hlt), List.getElem?_eq_getElem _⟩
      have hm36 := HBM.out m (List.mem_of_getElem? hm)
      obtain ⟨b, off, hA1, hb, y0⟩ := ints_atZ (HRU.out wr HO.out) (show (nl B)[j]? = some (m : Int) by simp [nl, hm])
      subst hA1
      have HM := Lib.hid hm
      have HAN := andNot_less HF.out hm36
      obtain ⟨f2, hf2⟩ : ∃ f2, f2 = lessN free m := ⟨_, rfl⟩
      rw [← hf2] at HAN
      have HF2 := Lib.hid hf2
      have hf36 : f2 < 2 ^ 36 := by rw [hf2]; exact Nat.lt_of_le_of_lt lessN_le HF.out
      have HF36 := Lib.hid hf36
      have HCP : Hid (Calls Tryz.prog 225 #[.slice A1 ln c1] wr fun e w' => ∃ v', e = .returned v' ∧ OI w' wr.heap.size w'.heap.size 3 1 v' ln (ic (nl l)) ∧ Below wr.heap.size wr w') := Lib.hid (by
        have h1 := HLN.out
        have h2 := HLK.out
        have h3 : (nl l).length = ln := by simp [nl]; exact h1.symm
        have := impl_copyInts_c (l := nl l) wr (HRL.out wr HO.out) (by omega)
        refine this.mono ?_
        rintro e w' ⟨v', he, ho, hb⟩
        refine ⟨v', he, ?_, hb⟩
        unfold IntsIn at ho
        rw [h3] at ho
        exact ho)
      have hln6 : ln ≤ 1000 := by have := HLK.out; omega
      clear hm hm36 hf2 hf36
      go_wp2_with fail
      refine (HCP.out).mono ?_
      rintro e w4 ⟨v4, rfl, o4, b4⟩
      have H4 := (Sep.start wr).oiNew b4 o4
      clear y0 HCP o4 b4
      go_wp2_with (at_builtin; refine wpList_app rfl _ _ 22 rfl 3 j0 _ 1 8 Tryz.underlying22 hj hy0 hy1 hy2 rfl (by decide) _ _ _ rfl (H4.alloc _) _ _ _ [.int .i64 (m : Int)] rfl (Rd.fresh w4 _ #[.int .i64 (m : Int)] 1 1 rfl) oc1 (by unfold maxLen; omega) (by omega) ?_; intro v5 w5 H5; clear H4)
      have HR5 : Hid (IntsRd w5 0 w5.heap.size v5 (nl (l ++ [m]))) := Lib.hid (by
        have e1 : ic (nl (l ++ [m])) = ic (nl l) ++ [.int .i64 (m : Int)] := by rw [nl_append, ic_append]; rfl
        refine row_rdZ (n := ln + 1) ?_ (by rw [HLN.out]; simp [nl])
        rw [e1]
        exact H5.h0)
      have HB5 : Hid (Below wr.heap.size wr w5) := Lib.hid H5.below
      have HBW : Hid (Below w.heap.size w w5) := Lib.hid (HO.out.trans (HB5.out.mono HO.out.size))
      have HCALL := Lib.hid (HIH.out gs vs w5 (l ++ [m]) v5 f2 (HSS.out.keep HBW.out) HR5.out (by have h1 := HLN.out; have h2 := HLK.out; have h3 := HKK.out; simp only [List.length_append, List.length_cons, List.length_nil]; omega) HF36.out)
      obtain ⟨Q, hQ⟩ : ∃ Q, Q = cov A k f2 := ⟨_, rfl⟩
      rw [← hQ] at HCALL
      have HQ := Lib.hid hQ
      clear H5 hQ
      refine (HCALL.out).mono ?_
      rintro e w6 ⟨v6, b6, rfl, hr6, hb6⟩
      have HB6 : Hid (Below w.heap.size w w6) := Lib.hid (HBW.out.trans (hb6.mono HBW.out.size))
      clear HCALL hb6
      cases Q with
      | none =>
        obtain ⟨rfl, rfl⟩ := hr6
        have HC2 : Hid (R = covL (cov A k) free (B.drop (j + 1))) := Lib.hid (by rw [HC.out]; exact covL_no HM.out (by rw [← HF2.out]; exact HQ.out.symm))
        go_wp2
        go_roundw
        case rel => exact ⟨j + 1, by omega, by go_num, HC2, HB6⟩
        case measure => simp [intOf]; omega
      | some x =>
        obtain ⟨rfl, hr7⟩ := hr6
        have HC2 : Hid (R = some (m :: x)) := Lib.hid (by rw [HC.out]; exact covL_yes HM.out (by rw [← HF2.out]; exact HQ.out.symm))
        obtain ⟨Z, hZ⟩ : ∃ Z, Z = l ++ (m :: x) := ⟨_, rfl⟩
        rw [show l ++ [m] ++ x = Z by rw [hZ]; simp] at hr7
        have HR7 := Lib.hid hr7
        have HZ := Lib.hid hZ
        obtain ⟨A7, c7, rfl, _, _⟩ := id hr7
        generalize (nl Z).length = q7 at *
        clear hr7 hZ
        go_wp2
        go_ret2
        exact CvPost.some HC2.out HZ.out HR7.out HB6.out
    · obtain rfl : j = n := by omega
      have HC2 : Hid (R = none) := Lib.hid (by rw [HC.out]; exact covL_end HN.out)
      go_wp2
      go_ret2
      exact CvPost.none HC2.out HO.out
theorem cover_c {A : List Nat} (hA : ∀ m ∈ A, m < 2 ^ 36) : ∀ k, CoverC A k
  | 0 => fun gs vs w l lv free hS hl hlk hf => by
    by_cases h0 : free = 0
    · subst h0; exact cover_done 0 gs w l lv hl
    · exact cover_none gs w l lv free hl h0
  | k + 1 => fun gs vs w l lv free hS hl hlk hf => by
    by_cases h0 : free = 0
    · subst h0; exact cover_done (k + 1) gs w l lv hl
    · exact cover_step hA (cover_c hA k) gs vs w l lv free (k + 1) rfl hS hl hlk hf h0
end Go.Proofs.YtfmkmjebkmimkaaGreatDoor

namespace Go.Proofs.YtfmkmjebkmimkaaGreatDoor
open Go.RowKit

/-- a covering, in order -/
def covI (o : Option (List Nat)) : List Int := match o with
  | some x => srtU (nl x)
  | none => []
theorem covI_cons {m : Nat} {x : List Nat} : covI (some (m :: x)) = insN (m : Int) (covI (some x)) := srtU_cons
theorem covI_asc (o : Option (List Nat)) : Asc (covI o) := by
  cases o with
  | none => exact List.Pairwise.nil
  | some x => exact asc_srtU
theorem covI_len {x : List Nat} : (covI (some x)).length ≤ x.length := by
  have := srtU_len (l := nl x)
  simpa [covI, nl] using this
def CvSp (o : Option (List Nat)) (w : World) : Ending → World → Prop := fun e w' => ∃ g c n, e = .returned (.tuple #[.slice (some ⟨g, 0, none⟩) n c, .bool o.isSome]) ∧ n = (covI o).length ∧ Sep w w' [Res.row (.slice (some ⟨g, 0, none⟩) n c) 3 1 n (ic (covI o))]
theorem CvSp.mk {o : Option (List Nat)} {w w' : World} {g c n : Nat} {b : Bool} {L : List Int} (hb : b = o.isSome) (hL : covI o = L) (hn : n = L.length) (H : Sep w w' [Res.row (.slice (some ⟨g, 0, none⟩) n c) 3 1 n (ic L)]) : CvSp o w (.returned (.tuple #[.slice (some ⟨g, 0, none⟩) n c, .bool b])) w' := by
  subst hb
  subst hL
  exact ⟨g, c, n, rfl, hn, H⟩
theorem bit_zero {m x : Nat} (hm : m < 9223372036854775808) : (bits .and .i64 ((m : Int) / 2 ^ x) 1 == 0) = !m.testBit x := by
  have e1 : ((m : Int) / 2 ^ x) = ((m / 2 ^ x : Nat) : Int) := by simp
  have hd : m / 2 ^ x < 9223372036854775808 := Nat.lt_of_le_of_lt (Nat.div_le_self _ _) hm
  rw [e1, show (1 : Int) = ((1 : Nat) : Int) from rfl, i64_and_nat _ 1 hd (by decide), nat_mask1, Nat.testBit_eq_decide_div_mod_eq]
  have := Nat.mod_lt (m / 2 ^ x) (show 0 < 2 by decide)
  by_cases h : m / 2 ^ x % 2 = 1
  · rw [h]; simp
  · rw [show m / 2 ^ x % 2 = 0 by omega]; simp
def SCovC (A : List Nat) (k : Nat) : Prop := ∀ (w : World) (v : Value) (free : Nat), IntsRd w 0 w.heap.size v (nl A) → free < 2 ^ 36 →
  Calls Tryz.prog 192 #[v, .int .i64 free, .int .i64 k] w (CvSp (cov A k free) w)
set_option maxRecDepth 100000 in
set_option maxHeartbeats 800000 in
theorem scov_done {A : List Nat} (k : Nat) (w : World) (v : Value) (h : IntsRd w 0 w.heap.size v (nl A)) :
    Calls Tryz.prog 192 #[v, .int .i64 ((0 : Nat) : Int), .int .i64 k] w (CvSp (cov A k 0) w) := by
  obtain ⟨A1, c1, rfl, _, _⟩ := id h
  have HC : Hid (cov A k 0 = some []) := Lib.hid cov_zero
  have H1 := (Sep.start w).rowBox 3 #[] 1 0 rfl (by decide)
  clear h
  go_enter Tryz.func192, Tryz.ntmps192
  go_wp2
  go_ret2
  exact CvSp.mk (L := []) (by rw [HC.out]; rfl) (by rw [HC.out]; rfl) rfl H1
set_option maxRecDepth 100000 in
set_option maxHeartbeats 3200000 in
theorem scov_step {A : List Nat} {k : Nat} (hA : ∀ m ∈ A, m < 2 ^ 36) (hAL : A.length ≤ 1000000) (hk6 : k ≤ 1000) (ih : ∀ k', k = k' + 1 → SCovC A k') (w : World) (v : Value) (free : Nat) (h : IntsRd w 0 w.heap.size v (nl A)) (hf : free < 2 ^ 36) (h0 : free ≠ 0) :
    Calls Tryz.prog 192 #[v, .int .i64 free, .int .i64 k] w (CvSp (cov A k free) w) := by
  obtain ⟨R, hR⟩ : ∃ R, R = cov A k free := ⟨_, rfl⟩
  rw [← hR]
  have HR := Lib.hid hR
  have HIH := Lib.hid ih
  have HF := Lib.hid hf
  have H0 := Lib.hid h0
  have HA := Lib.hid hA
  obtain ⟨low, hlow⟩ : ∃ low, low = lowB free := ⟨_, rfl⟩
  have HLOW := Lib.hid hlow
  have hl64 : low < 64 := by rw [hlow]; exact lowB_lt hf
  have HLO := Lib.hid (spec_low_c w h0 hf)
  rw [← hlow] at HLO
  have hz : ((free : Int) == 0) = false := by simp; omega
  have HRD : Hid (∀ w1, Below w.heap.size w w1 → IntsRd w1 0 w1.heap.size v (nl A)) := Lib.hid fun w1 b => (h.keep (SameIn.of_below b (Nat.le_refl _))).more (Nat.le_refl _) b.size
  obtain ⟨A1, c1, rfl, _, _⟩ := h
  obtain ⟨n, hn⟩ : ∃ n, n = A.length := ⟨_, rfl⟩
  have hnl : (nl A).length = n := by rw [hn]; simp [nl]
  have hn6 : n ≤ 1000000 := by rw [hn]; exact hAL
  rw [hnl] at HRD ⊢
  have HN := Lib.hid hn
  have t1 : (0 : Int) ≤ (low : Int) := by omega
  clear hf h0 hlow hn hnl hA hR ih hAL
  go_enter Tryz.func192, Tryz.ntmps192
  go_wp2_with fail
  refine (HLO.out).mono ?_
  rintro e w1 ⟨rfl, rfl⟩
  clear HLO hz
  rcases Nat.eq_zero_or_pos k with hk0 | hkp
  · subst hk0
    have HC : Hid (R = none) := Lib.hid (by rw [HR.out]; exact cov_none H0.out)
    have H1 := (Sep.start w).rowBox 3 #[] 1 0 rfl (by decide)
    by_cases hn0 : 0 < n
    · have hn0i : (0 : Int) < (n : Int) := by omega
      go_wp2
      go_loopw [9] (fun iv wx => iv = .int .i64 0 ∧ w = wx) (fun _ _ => 0)
      case atStart => exact ⟨rfl, rfl⟩
      case round =>
        obtain ⟨rfl, rfl⟩ := hrel
        go_wp2
        go_ret2
        exact CvSp.mk (L := []) (by rw [HC.out]; rfl) (by rw [HC.out]; rfl) rfl H1
    · obtain rfl : n = 0 := by omega
      go_wp2
      go_loopw [9] (fun iv wx => iv = .int .i64 0 ∧ w = wx) (fun _ _ => 0)
      case atStart => exact ⟨rfl, rfl⟩
      case round =>
        obtain ⟨rfl, rfl⟩ := hrel
        go_wp2
        go_ret2
        exact CvSp.mk (L := []) (by rw [HC.out]; rfl) (by rw [HC.out]; rfl) rfl H1
  obtain ⟨k1, hk1⟩ : ∃ k1, k = k1 + 1 := ⟨k - 1, by omega⟩
  have HIH1 := Lib.hid (HIH.out k1 hk1)
  have hkpi : (0 : Int) < (k : Int) := by omega
  have hkb : k1 ≤ 1000 := by omega
  have e5 : (k : Int) - 1 = (k1 : Int) := by omega
  have e6 : IntKind.i64.wrap ((k : Int) - 1) = (k1 : Int) := by rw [e5]; exact IntWalk.i64_in _ (by omega)
  have HB : Hid (R = covA (cov A k1) free low (A.drop 0)) := Lib.hid (by rw [HR.out, hk1, cov_more H0.out, List.drop_zero, covA, HLOW.out])
  have HK1 := Lib.hid hk1
  clear hk1
  go_wp2
  go_loopw [9] (fun iv wx => ∃ i : Nat, i ≤ n ∧ iv = .int .i64 i ∧ Hid (R = covA (cov A k1) free low (A.drop i)) ∧ Hid (Below w.heap.size w wx)) (fun iv _ => n - (intOf iv).toNat)
  case atStart => exact ⟨0, Nat.zero_le _, rfl, HB, Lib.hid (Below.refl _ _)⟩
  case round =>
    obtain ⟨i, hin, rfl, HC, HO⟩ := hrel
    by_cases hlt : i < n
    · have hlti : (i : Int) < (n : Int) := by omega
      obtain ⟨m, hm⟩ : ∃ m, A[i]? = some m := ⟨A[i]'(by rw [← HN.out]; exact hlt), List.getElem?_eq_getElem _⟩
      have hm36 : m < 68719476736 := HA.out m (List.mem_of_getElem? hm)
      obtain ⟨b, off, hA1, hb, y0⟩ := ints_atZ (HRD.out wr HO.out) (show (nl A)[i]? = some (m : Int) by simp [nl, hm])
      subst hA1
      have HM := Lib.hid hm
      have hbit := bit_zero (m := m) (x := low) (by omega)
      clear hm
      cases ht : m.testBit low
      · rw [ht] at hbit
        have HC2 : Hid (R = covA (cov A k1) free low (A.drop (i + 1))) := Lib.hid (by rw [HC.out]; exact covA_skip HM.out ht)
        clear ht
        go_wp2
        go_roundw
        case rel => exact ⟨i + 1, by omega, by go_num, HC2, HO⟩
        case measure => simp [intOf]; omega
      · rw [ht] at hbit
        have HT := Lib.hid ht
        have hfi : free < 68719476736 := HF.out
        have hand := i64_and_nat free m (by omega) (by omega)
        have hle : free &&& m ≤ free := Nat.and_le_left
        have hsub : (free : Int) - ((free &&& m : Nat) : Int) = ((lessN free m : Nat) : Int) := by unfold lessN; omega
        obtain ⟨a, ha⟩ : ∃ a, a = free &&& m := ⟨_, rfl⟩
        rw [← ha] at hand hsub hle
        obtain ⟨f2, hf2⟩ : ∃ f2, f2 = lessN free m := ⟨_, rfl⟩
        rw [← hf2] at hsub
        have hf36 : f2 < 68719476736 := by rw [hf2]; exact Nat.lt_of_le_of_lt lessN_le HF.out
        have hsub2 : IntKind.i64.wrap ((free : Int) - (a : Int)) = (f2 : Int) := by rw [hsub]; exact IntWalk.i64_in _ (by omega)
        have HF2 := Lib.hid hf2
        have HCALL := Lib.hid (HIH1.out wr _ f2 (HRD.out wr HO.out) hf36)
        obtain ⟨Q, hQ⟩ : ∃ Q, Q = cov A k1 f2 := ⟨_, rfl⟩
        rw [← hQ] at HCALL
        have HQ := Lib.hid hQ
        clear ht ha hf2 hQ hle
        go_wp2_with fail
        refine (HCALL.out).mono ?_
        rintro e w6 ⟨g6, c6, n6, rfl, hn6', H6⟩
        have HN6 := Lib.hid hn6'
        have HB6 : Hid (Below w.heap.size w w6) := Lib.hid (HO.out.trans (H6.below.mono HO.out.size))
        clear HCALL hn6' hb y0
        cases Q with
        | none =>
          have HC2 : Hid (R = covA (cov A k1) free low (A.drop (i + 1))) := Lib.hid (by rw [HC.out]; exact covA_no HM.out HT.out (by rw [← HF2.out]; exact HQ.out.symm))
          clear H6
          go_wp2
          go_roundw
          case rel => exact ⟨i + 1, by omega, by go_num, HC2, HB6⟩
          case measure => simp [intOf]; omega
        | some x =>
          have HC2 : Hid (R = some (m :: x)) := Lib.hid (by rw [HC.out]; exact covA_yes HM.out HT.out (by rw [← HF2.out]; exact HQ.out.symm))
          have hxl : n6 ≤ 1000 := by
            have h1 := cov_len k1 HQ.out.symm
            have h2 := covI_len (x := x)
            have h3 := HN6.out
            have h4 := HK1.out
            omega
          have HPUT := Lib.hid (spec_put7_c (x := (m : Int)) H6 HN6.out (covI_asc _) (by omega))
          obtain ⟨b, off, hA1, hb, y0⟩ := ints_atZ (HRD.out w6 HB6.out) (show (nl A)[i]? = some (m : Int) by simp [nl, HM.out])
          injection hA1 with hA1
          injection hA1 with hA1 hA2
          subst hA1
          subst hA2
          clear H6
          go_wp2_with fail
          refine (HPUT.out).mono ?_
          rintro e w7 ⟨g7, c7, rfl, H7⟩
          rw [← covI_cons, ← HC2.out] at H7 ⊢
          have HRS : Hid (Sep w w7 [Res.row (.slice (some ⟨g7, 0, none⟩) (covI R).length c7) 3 1 (covI R).length (ic (covI R))]) := Lib.hid (by
            refine ⟨H7.h0, fun b hb => Nat.le_trans HO.out.size (H7.2.1 b hb), fun q hq => by simp at hq, ?_⟩
            exact HO.out.trans (H7.below.mono HO.out.size))
          obtain ⟨q7, hq7⟩ : ∃ q, q = (covI R).length := ⟨_, rfl⟩
          rw [← hq7] at HRS ⊢
          have HQ7 := Lib.hid hq7
          clear H7 HPUT hq7 y0 hb
          go_wp2
          go_ret2
          exact CvSp.mk (by rw [HC2.out]; rfl) rfl HQ7.out HRS.out
    · obtain rfl : i = n := by omega
      have HC2 : Hid (R = none) := Lib.hid (by rw [HC.out]; exact covA_end HN.out)
      have H1 := (show Sep w wr [] from HO.out).rowBox 3 #[] 1 0 rfl (by decide)
      go_wp2
      go_ret2
      exact CvSp.mk (L := []) (by rw [HC2.out]; rfl) (by rw [HC2.out]; rfl) rfl H1
theorem scov_c {A : List Nat} (hA : ∀ m ∈ A, m < 2 ^ 36) (hAL : A.length ≤ 1000000) : ∀ k, k ≤ 1000 → SCovC A k
  | 0, hk => fun w v free h hf => by
    by_cases h0 : free = 0
    · subst h0; exact scov_done 0 w v h
    · exact scov_step hA hAL hk (fun k' e => by omega) w v free h hf h0
  | k + 1, hk => fun w v free h hf => by
    by_cases h0 : free = 0
    · subst h0; exact scov_done (k + 1) w v h
    · exact scov_step hA hAL hk (fun k' e => (Nat.succ.inj e : k = k') ▸ scov_c hA hAL k (by omega)) w v free h hf h0
end Go.Proofs.YtfmkmjebkmimkaaGreatDoor

namespace Go.Proofs.YtfmkmjebkmimkaaGreatDoor
open Go.RowKit

def FcvPost (r : Reg) (ps : List (List Cell)) (w : World) : Ending → World → Prop := fun e w' => ∃ v', e = .returned (.tuple #[v', .bool (covR r ps).isSome]) ∧ IntsIn w' w.heap.size w'.heap.size v' (covI (covR r ps)) ∧ Below w.heap.size w w'
theorem nilIn {w : World} {lo hi : Nat} : IntsIn w lo hi (.slice none 0 0) [] := ⟨World.ownsRow_nil w lo 3 1, fun k hk => by simp [Value.ownBlock] at hk⟩
theorem FcvPost.none {r : Reg} {ps : List (List Cell)} {w w' : World} (h : covR r ps = .none) (hb : Below w.heap.size w w') : FcvPost r ps w (.returned (.tuple #[.slice none 0 0, .bool false])) w' := by
  unfold FcvPost
  rw [h]
  exact ⟨_, rfl, nilIn, hb⟩
theorem FcvPost.nil {r : Reg} {ps : List (List Cell)} {w w' : World} {v : Value} (h : covR r ps = .none) (ho : OI w' w.heap.size w'.heap.size 3 1 v 0 []) (hb : Below w.heap.size w w') : FcvPost r ps w (.returned (.tuple #[v, .bool false])) w' := by
  unfold FcvPost
  rw [h]
  exact ⟨_, rfl, ho, hb⟩
theorem FcvPost.some {r : Reg} {ps : List (List Cell)} {w w' : World} {x : List Nat} {v : Value} (h : covR r ps = .some x) (hv : IntsIn w' w.heap.size w'.heap.size v (srtU (nl x))) (hb : Below w.heap.size w w') : FcvPost r ps w (.returned (.tuple #[v, .bool true])) w' := by
  unfold FcvPost
  rw [h]
  exact ⟨_, rfl, hv, hb⟩
theorem sml_parts {r : Reg} {ps : List (List Cell)} (h : smlB r ps = true) : r.Valid ∧ arePcs ps = true ∧ r.valid = true ∧ 0 ≤ areaR r ∧ areaR r ≤ 12 := by
  unfold smlB at h
  simp only [Bool.and_eq_true] at h
  refine ⟨Reg.valid_iff.1 h.1.1, h.1.2, h.1.1, ?_, of_decide_eq_true h.2⟩
  unfold areaR
  rw [h.1.1, if_pos rfl]
  omega
set_option maxRecDepth 100000 in
set_option maxHeartbeats 3200000 in
theorem impl_fcv_c {v v2 : Value} {r : Reg} {ps : List (List Cell)} (w : World) (h : RegRd w 0 w.heap.size v r) (h2 : CellSSRd w 0 w.heap.size v2 ps) (hn : ps.length ≤ 1048576) (hl : ∀ s ∈ ps, s.length ≤ 1048576) (ht : Tab64 w) :
    Calls Tryz.prog 140 #[v, v2] w (FcvPost r ps w) := by
  have HRD : Hid (∀ w1, Below w.heap.size w w1 → RegRd w1 0 w1.heap.size v r) := Lib.hid fun w1 b1 => (h.keep (SameIn.of_below b1 (Nat.le_refl _))).more (Nat.le_refl _) b1.size
  have HR2 : Hid (∀ w1, Below w.heap.size w w1 → CellSSRd w1 0 w1.heap.size v2 ps) := Lib.hid fun w1 b1 => (h2.keep (SameIn.of_below b1 (Nat.le_refl _))).more (Nat.le_refl _) b1.size
  have HTB : Hid (∀ w1, Below w.heap.size w w1 → Tab64 w1) := Lib.hid fun w1 b1 => tab64_on ht b1
  obtain ⟨T, hT⟩ : ∃ T, T = smlB r ps := ⟨_, rfl⟩
  have HT := Lib.hid hT
  obtain ⟨sr, rfl, hsr⟩ := h
  obtain ⟨A0, c, rfl, _, _⟩ := hsr
  obtain ⟨vs0, ⟨A2, c2, rfl, _, _⟩, _⟩ := h2
  have H0 := (Sep.start w).box 29 #[.int .i64 r.w, .slice A0 r.rows.length c]
  obtain ⟨g, hg⟩ : ∃ g, g = w.heap.size := ⟨_, rfl⟩
  rw [← hg] at H0
  clear ht
  go_enter Tryz.func140, Tryz.ntmps140
  go_upto_region 1 with fail
  rw [← hg]
  generalize (w.alloc (.cells #[.int .i64 r.w, .slice A0 r.rows.length c] 29)) = W at *
  clear hg
  have c0 : W.cell? ⟨g, 0, none⟩ = some (.int .i64 r.w) := H0.h0.cell 0
  have c1 : W.cell? ⟨g, 1, none⟩ = some (.slice A0 r.rows.length c) := H0.h0.cell 1
  have HP := Lib.hid (impl_small_c W (HRD.out W H0.below) (HR2.out W H0.below) hn hl)
  rw [← hT] at HP
  clear hT
  go_wp2_with fail
  refine (HP.out).mono ?_
  rintro e w1 ⟨rfl, b1⟩
  have H1 := H0.step b1
  clear c0 c1 H0 HP b1
  cases T
  · go_wp2
    go_ret2
    exact FcvPost.none (by rw [covR, if_neg (by rw [← HT.out]; decide)]) H1.below
  obtain ⟨hv, hp, hvb, ha0, ha12⟩ := sml_parts HT.out.symm
  have HV := Lib.hid hv
  have HAP := Lib.hid hp
  obtain ⟨an, han⟩ : ∃ an : Nat, areaR r = (an : Int) := ⟨(areaR r).toNat, by omega⟩
  have han12 : an ≤ 12 := by omega
  have HAN := Lib.hid han
  have c0 : w1.cell? ⟨g, 0, none⟩ = some (.int .i64 r.w) := H1.h0.cell 0
  have c1 : w1.cell? ⟨g, 1, none⟩ = some (.slice A0 r.rows.length c) := H1.h0.cell 1
  have HALL := Lib.hid (impl_all_c w1 (HRD.out w1 H1.below) (HR2.out w1 H1.below) HV.out HAP.out)
  obtain ⟨A, hA⟩ : ∃ A, A = allN r ps := ⟨_, rfl⟩
  rw [← nl_allN HV.out, ← hA] at HALL
  have HAL : Hid (A.length ≤ 1000000) := Lib.hid (by
    have h1 := allP_len HV.out (ps := ps)
    have h2 := (arePcs_on HAP.out).2.2
    have h3 : ps.length * 288 ≤ 5 * 288 := Nat.mul_le_mul_right _ (by omega)
    have h4 : A.length = (allP r ps).length := by rw [← nl_allN HV.out, ← hA]; simp [nl]
    omega)
  have HMS : Hid (∀ m ∈ A, m < 2 ^ 36) := Lib.hid (by rw [hA]; exact allN_lt HV.out)
  obtain ⟨M, hM⟩ : ∃ M, M = r.mask := ⟨_, rfl⟩
  have HMM := Lib.hid hM
  have hM36 : M < 2 ^ 36 := by rw [hM]; exact Reg.mask_lt HV.out
  have HM36 := Lib.hid hM36
  obtain ⟨R, hR⟩ : ∃ R, R = covR r ps := ⟨_, rfl⟩
  have HRR := Lib.hid hR
  have HR0 : Hid (R = covFrom A M (an + 1 - 0) 0) := Lib.hid (by
    rw [hR, covR, if_pos HT.out.symm, hA, hM, HAN.out]
    congr 1)
  clear hA hM hR hM36 hv hp hvb ha0 ha12 han
  go_wp2_with fail
  refine (HALL.out).mono ?_
  rintro e w2 ⟨v3, rfl, o3, b3⟩
  have hrd : IntsRd w2 0 w2.heap.size v3 (nl A) := (IntsIn.rd o3).more (Nat.zero_le _) (Nat.le_refl _)
  have H2 := H1.step b3
  have HNS := Lib.hid (newSearchN_c w2 hrd HMS.out HAL.out)
  obtain ⟨Av, cv, rfl, _, _⟩ := id hrd
  clear c0 c1 HALL o3 b3 H1 hrd
  go_wp2_with fail
  refine (HNS.out).mono ?_
  rintro e w3 ⟨vs, rfl, hvs, H3⟩
  obtain ⟨gs, hgs⟩ : ∃ gs, gs = w2.heap.size := ⟨_, rfl⟩
  rw [← hgs] at H3 ⊢
  have HST : Hid (CovSt A gs vs w3) := Lib.hid ⟨H3.h0, (H3.drop.rowsSlots).more (Nat.zero_le _) (Nat.le_refl _), hvs, HTB.out w3 (H2.step H3.below).below⟩
  have H4 := H2.step H3.below
  have HB3 : Hid (Below w3.heap.size w3 w3) := Lib.hid (Below.refl _ _)
  clear HNS H3 H2 hgs hvs
  go_wp2
  go_loopw [7] (fun nv wx => ∃ n : Nat, n ≤ an + 1 ∧ nv = .int .i64 n ∧ Hid (R = covFrom A M (an + 1 - n) n) ∧ Hid (Below w3.heap.size w3 wx) ∧ Sep w wx [Res.box g 29 #[.int .i64 r.w, .slice A0 r.rows.length c]]) (fun nv _ => an + 1 - (intOf nv).toNat)
  case atStart => exact ⟨0, Nat.zero_le _, rfl, HR0, HB3, H4⟩
  case round =>
    clear H4
    obtain ⟨n, hnn, rfl, HC, HO, H⟩ := hrel
    have c0 : wr.cell? ⟨g, 0, none⟩ = some (.int .i64 r.w) := H.h0.cell 0
    have c1 : wr.cell? ⟨g, 1, none⟩ = some (.slice A0 r.rows.length c) := H.h0.cell 1
    have HAR := Lib.hid (impl_area_c wr (HRD.out wr H.below) (by have := HV.out.2.2.2.1; omega))
    rw [HAN.out] at HAR
    go_wp2_with fail
    refine (HAR.out).mono ?_
    rintro e w5 ⟨rfl, b5⟩
    have H5 := H.step b5
    have HO5 : Hid (Below w3.heap.size w3 w5) := Lib.hid (HO.out.trans (b5.mono HO.out.size))
    clear c0 c1 HAR b5 H
    by_cases hle : n ≤ an
    · have hlei : (n : Int) ≤ (an : Int) := by omega
      have c0 : w5.cell? ⟨g, 0, none⟩ = some (.int .i64 r.w) := H5.h0.cell 0
      have c1 : w5.cell? ⟨g, 1, none⟩ = some (.slice A0 r.rows.length c) := H5.h0.cell 1
      have HMK := Lib.hid (impl_mask_c w5 (HRD.out w5 H5.below) HV.out)
      rw [← HMM.out] at HMK
      go_wp2_with fail
      refine (HMK.out).mono ?_
      rintro e w6 ⟨rfl, b6⟩
      have H6 := H5.step b6
      have HO6 : Hid (Below w3.heap.size w3 w6) := Lib.hid (HO5.out.trans (b6.mono HO5.out.size))
      clear c0 c1 HMK b6 H5
      have HCV := Lib.hid (cover_c HMS.out n gs vs w6 [] (.slice none 0 0) M (HST.out.keep HO6.out) (((nilIn (lo := 0)).rd).more (Nat.zero_le _) (Nat.le_refl _)) (by simp; omega) HM36.out)
      obtain ⟨Q, hQ⟩ : ∃ Q, Q = cov A n M := ⟨_, rfl⟩
      rw [← hQ] at HCV
      have HQ := Lib.hid hQ
      clear hQ
      go_wp2_with fail
      refine (HCV.out).mono ?_
      rintro e w7 ⟨v7, b7, rfl, hr7, hb7⟩
      have H7 := H6.step hb7
      have HO7 : Hid (Below w3.heap.size w3 w7) := Lib.hid (HO6.out.trans (hb7.mono HO6.out.size))
      clear HCV hb7 H6
      cases Q with
      | none =>
        obtain ⟨rfl, rfl⟩ := hr7
        have HC2 : Hid (R = covFrom A M (an + 1 - (n + 1)) (n + 1)) := Lib.hid (by
          rw [HC.out, show an + 1 - n = (an + 1 - (n + 1)) + 1 by omega]
          exact covFrom_no HQ.out.symm)
        go_wp2
        go_roundw
        case rel => exact ⟨n + 1, by omega, by go_num, HC2, HO7, H7⟩
        case measure => simp [intOf]; omega
      | some x =>
        obtain ⟨rfl, hr8⟩ := hr7
        have HC2 : Hid (covR r ps = some x) := Lib.hid (by
          rw [← HRR.out, HC.out, show an + 1 - n = (an + 1 - (n + 1)) + 1 by omega]
          exact covFrom_yes HQ.out.symm)
        have hxl := cov_len n HQ.out.symm
        have HORD := Lib.hid (impl_ordered_c w7 (l := nl x) (by simpa using hr8) (by simp [nl]; omega))
        obtain ⟨A7, c7, rfl, _, _⟩ := id hr8
        clear hr8 hxl
        go_wp2_with fail
        refine (HORD.out).mono ?_
        rintro e w8 ⟨v8, rfl, o8, b8⟩
        have H8 := H7.step b8
        have HO8 : Hid (IntsIn w8 w.heap.size w8.heap.size v8 (srtU (nl x))) := Lib.hid (OI.base o8 H7.below.size (Nat.le_refl _))
        obtain ⟨A8, c8, rfl, _, _⟩ := o8.rd
        clear o8 b8 HORD H7
        go_wp2
        go_ret2
        exact FcvPost.some HC2.out HO8.out H8.below
    · have hlei : ¬ (n : Int) ≤ (an : Int) := by omega
      have HC2 : Hid (covR r ps = none) := Lib.hid (by
        rw [← HRR.out, HC.out, show an + 1 - n = 0 by omega]
        rfl)
      go_wp2
      go_ret2
      exact FcvPost.none HC2.out H5.below
set_option maxRecDepth 100000 in
set_option maxHeartbeats 3200000 in
theorem spec_fcv_c {v v2 : Value} {r : Reg} {ps : List (List Cell)} (w : World) (h : RegRd w 0 w.heap.size v r) (h2 : CellSSRd w 0 w.heap.size v2 ps) (hn : ps.length ≤ 1048576) (hl : ∀ s ∈ ps, s.length ≤ 1048576) :
    Calls Tryz.prog 130 #[v, v2] w (FcvPost r ps w) := by
  have HRD : Hid (∀ w1, Below w.heap.size w w1 → RegRd w1 0 w1.heap.size v r) := Lib.hid fun w1 b1 => (h.keep (SameIn.of_below b1 (Nat.le_refl _))).more (Nat.le_refl _) b1.size
  have HR2 : Hid (∀ w1, Below w.heap.size w w1 → CellSSRd w1 0 w1.heap.size v2 ps) := Lib.hid fun w1 b1 => (h2.keep (SameIn.of_below b1 (Nat.le_refl _))).more (Nat.le_refl _) b1.size
  obtain ⟨T, hT⟩ : ∃ T, T = smlB r ps := ⟨_, rfl⟩
  have HT := Lib.hid hT
  obtain ⟨sr, rfl, hsr⟩ := h
  obtain ⟨A0, c, rfl, _, _⟩ := hsr
  obtain ⟨vs0, ⟨A2, c2, rfl, _, _⟩, _⟩ := h2
  have H0 := (Sep.start w).box 29 #[.int .i64 r.w, .slice A0 r.rows.length c]
  obtain ⟨g, hg⟩ : ∃ g, g = w.heap.size := ⟨_, rfl⟩
  rw [← hg] at H0
  go_enter Tryz.func130, Tryz.ntmps130
  go_upto_region 1 with fail
  rw [← hg]
  generalize (w.alloc (.cells #[.int .i64 r.w, .slice A0 r.rows.length c] 29)) = W at *
  clear hg
  have c0 : W.cell? ⟨g, 0, none⟩ = some (.int .i64 r.w) := H0.h0.cell 0
  have c1 : W.cell? ⟨g, 1, none⟩ = some (.slice A0 r.rows.length c) := H0.h0.cell 1
  have HP := Lib.hid (spec_small_c W (HRD.out W H0.below) (HR2.out W H0.below) hn hl)
  rw [← hT] at HP
  clear hT
  go_wp2_with fail
  refine (HP.out).mono ?_
  rintro e w1 ⟨rfl, b1⟩
  have H1 := H0.step b1
  clear c0 c1 H0 HP b1
  cases T
  · have H2 := H1.rowBox 3 #[] 1 0 rfl (by decide)
    go_wp2
    go_ret2
    exact FcvPost.nil (by rw [covR, if_neg (by rw [← HT.out]; decide)]) H2.oi H2.below
  obtain ⟨hv, hp, hvb, ha0, ha12⟩ := sml_parts HT.out.symm
  have HV := Lib.hid hv
  have HAP := Lib.hid hp
  obtain ⟨an, han⟩ : ∃ an : Nat, areaR r = (an : Int) := ⟨(areaR r).toNat, by omega⟩
  have han12 : an ≤ 12 := by omega
  have HAN := Lib.hid han
  have c0 : w1.cell? ⟨g, 0, none⟩ = some (.int .i64 r.w) := H1.h0.cell 0
  have c1 : w1.cell? ⟨g, 1, none⟩ = some (.slice A0 r.rows.length c) := H1.h0.cell 1
  have HALL := Lib.hid (spec_all_c w1 (HRD.out w1 H1.below) (HR2.out w1 H1.below) HV.out HAP.out)
  obtain ⟨A, hA⟩ : ∃ A, A = allN r ps := ⟨_, rfl⟩
  rw [← nl_allN HV.out, ← hA] at HALL
  have HAL : Hid (A.length ≤ 1000000) := Lib.hid (by
    have h1 := allP_len HV.out (ps := ps)
    have h2 := (arePcs_on HAP.out).2.2
    have h3 : ps.length * 288 ≤ 5 * 288 := Nat.mul_le_mul_right _ (by omega)
    have h4 : A.length = (allP r ps).length := by rw [← nl_allN HV.out, ← hA]; simp [nl]
    omega)
  have HMS : Hid (∀ m ∈ A, m < 2 ^ 36) := Lib.hid (by rw [hA]; exact allN_lt HV.out)
  obtain ⟨M, hM⟩ : ∃ M, M = r.mask := ⟨_, rfl⟩
  have HMM := Lib.hid hM
  have hM36 : M < 68719476736 := by rw [hM]; exact Reg.mask_lt HV.out
  have HSUB : Hid (∀ m ∈ A, m &&& M = m) := Lib.hid (fun m hm => by rw [hM]; exact (allN_sub HV.out HAP.out m (by rw [← hA]; exact hm)).1)
  obtain ⟨R, hR⟩ : ∃ R, R = covR r ps := ⟨_, rfl⟩
  have HRR := Lib.hid hR
  have HR0 : Hid (R = covFrom A M (an + 1 - 0) 0) := Lib.hid (by
    rw [hR, covR, if_pos HT.out.symm, hA, hM, HAN.out]
    congr 1)
  clear hA hM hR hv hp hvb ha0 ha12 han
  go_wp2_with fail
  refine (HALL.out).mono ?_
  rintro e w2 ⟨v3, rfl, o3, b3⟩
  have hrd : IntsRd w2 0 w2.heap.size v3 (nl A) := (IntsIn.rd o3).more (Nat.zero_le _) (Nat.le_refl _)
  have H2 := H1.step b3
  have HRA : Hid (∀ w3, Below w2.heap.size w2 w3 → IntsRd w3 0 w3.heap.size v3 (nl A)) := Lib.hid fun w3 b => (hrd.keep (SameIn.of_below b (Nat.le_refl _))).more (Nat.le_refl _) b.size
  obtain ⟨Av, cv, rfl, _, _⟩ := id hrd
  obtain ⟨ka, hka⟩ : ∃ n, n = A.length := ⟨_, rfl⟩
  have hnl : (nl A).length = ka := by rw [hka]; simp [nl]
  have hka6 : ka ≤ 1000000 := by rw [hka]; exact HAL.out
  rw [hnl] at HRA ⊢
  have HKA := Lib.hid hka
  have HO2 : Hid (Below w2.heap.size w2 w2) := Lib.hid (Below.refl _ _)
  clear c0 c1 HALL o3 b3 H1 hrd hka hnl
  go_wp2
  go_loopw [7, 8] (fun rv iv wx => ∃ (i q : Nat), i ≤ ka ∧ iv = .int .i64 i ∧ rv = .int .i64 q ∧ q < 68719476736 ∧ Hid (q = orA (A.take i)) ∧ w2 = wx) (fun _ iv _ => ka - (intOf iv).toNat)
  case atStart => exact ⟨0, 0, Nat.zero_le _, rfl, rfl, by decide, Lib.hid rfl, rfl⟩
  case round =>
    obtain ⟨i, q, hi, rfl, rfl, hq36, HQ, rfl⟩ := hrel
    by_cases hlt : i < ka
    · have hlti : (i : Int) < (ka : Int) := by omega
      obtain ⟨m, hm⟩ : ∃ m, A[i]? = some m := ⟨A[i]'(by rw [← HKA.out]; exact hlt), List.getElem?_eq_getElem _⟩
      have hm36 : m < 68719476736 := HMS.out m (List.mem_of_getElem? hm)
      obtain ⟨b, off, hA1, hb, y0⟩ := ints_atZ (HRA.out w2 HO2.out) (show (nl A)[i]? = some (m : Int) by simp [nl, hm])
      subst hA1
      have hor := i64_or_nat q m (by omega) (by omega)
      obtain ⟨q2, hq2⟩ : ∃ q2, q2 = q ||| m := ⟨_, rfl⟩
      rw [← hq2] at hor
      have hq236 : q2 < 68719476736 := by rw [hq2]; exact Nat.or_lt_two_pow (n := 36) hq36 hm36
      have HQ2 : Hid (q2 = orA (A.take (i + 1))) := Lib.hid (by rw [List.take_add_one, hm, Option.toList_some, orA_snoc, ← HQ.out, hq2])
      clear hm hq2
      go_wp2
      go_roundw
      case rel => exact ⟨i + 1, q2, by omega, by go_num, rfl, hq236, HQ2, trivial⟩
      case measure => simp [intOf]; omega
    · obtain rfl : ka = i := by omega
      have HQ2 : Hid (q = orA A) := Lib.hid (by rw [HQ.out, HKA.out, List.take_length])
      clear hlt
      go_wp2
      go_loopw [9] (fun nv wx => ∃ n : Nat, n ≤ an + 1 ∧ nv = .int .i64 n ∧ Hid (R = covFrom A M (an + 1 - n) n) ∧ Hid (Below w2.heap.size w2 wx) ∧ Sep w wx [Res.box g 29 #[.int .i64 r.w, .slice A0 r.rows.length c]]) (fun nv _ => an + 1 - (intOf nv).toNat)
      case atStart => exact ⟨0, Nat.zero_le _, rfl, HR0, HO2, H2⟩
      case round =>
        clear H2
        obtain ⟨n, hnn, rfl, HC, HO, H⟩ := hrel
        have c0 : wr.cell? ⟨g, 0, none⟩ = some (.int .i64 r.w) := H.h0.cell 0
        have c1 : wr.cell? ⟨g, 1, none⟩ = some (.slice A0 r.rows.length c) := H.h0.cell 1
        have HAR := Lib.hid (spec_area_c wr (HRD.out wr H.below) (by have := HV.out.2.2.2.1; omega))
        rw [HAN.out] at HAR
        go_wp2_with fail
        refine (HAR.out).mono ?_
        rintro e w5 ⟨rfl, b5⟩
        have H5 := H.step b5
        have HO5 : Hid (Below w2.heap.size w2 w5) := Lib.hid (HO.out.trans (b5.mono HO.out.size))
        clear c0 c1 HAR b5 H
        by_cases hle : n ≤ an
        · have hlei : (n : Int) ≤ (an : Int) := by omega
          have c0 : w5.cell? ⟨g, 0, none⟩ = some (.int .i64 r.w) := H5.h0.cell 0
          have c1 : w5.cell? ⟨g, 1, none⟩ = some (.slice A0 r.rows.length c) := H5.h0.cell 1
          have HMK := Lib.hid (spec_mask_c w5 (HRD.out w5 H5.below) HV.out)
          rw [← HMM.out] at HMK
          by_cases hqm : q = M
          · subst hqm
            have hqq : ((q : Int) == (q : Int)) = true := by simp
            go_wp2_with fail
            refine (HMK.out).mono ?_
            rintro e w6 ⟨rfl, b6⟩
            have H6 := H5.step b6
            have HO6 : Hid (Below w2.heap.size w2 w6) := Lib.hid (HO5.out.trans (b6.mono HO5.out.size))
            clear c0 c1 HMK b6 H5
            have c0 : w6.cell? ⟨g, 0, none⟩ = some (.int .i64 r.w) := H6.h0.cell 0
            have c1 : w6.cell? ⟨g, 1, none⟩ = some (.slice A0 r.rows.length c) := H6.h0.cell 1
            have HMK := Lib.hid (spec_mask_c w6 (HRD.out w6 H6.below) HV.out)
            rw [← HMM.out] at HMK
            go_wp2_with fail
            refine (HMK.out).mono ?_
            rintro e w7 ⟨rfl, b7⟩
            have H7 := H6.step b7
            have HO7 : Hid (Below w2.heap.size w2 w7) := Lib.hid (HO6.out.trans (b7.mono HO6.out.size))
            clear c0 c1 HMK b7 H6
            have HCV := Lib.hid (scov_c HMS.out HAL.out n (by omega) w7 _ q (HRA.out w7 HO7.out) hM36)
            obtain ⟨Q, hQ⟩ : ∃ Q, Q = cov A n q := ⟨_, rfl⟩
            rw [← hQ] at HCV
            have HQQ := Lib.hid hQ
            clear hQ
            go_wp2_with fail
            refine (HCV.out).mono ?_
            rintro e w8 ⟨g8, c8, n8, rfl, hn8, H8⟩
            have HO8 : Hid (Below w2.heap.size w2 w8) := Lib.hid (HO7.out.trans (H8.below.mono HO7.out.size))
            have H9 := H7.step H8.below
            clear HCV
            cases Q with
            | none =>
              have HC2 : Hid (R = covFrom A q (an + 1 - (n + 1)) (n + 1)) := Lib.hid (by
                rw [HC.out, show an + 1 - n = (an + 1 - (n + 1)) + 1 by omega]
                exact covFrom_no HQQ.out.symm)
              clear H8 hn8 H7
              go_wp2
              go_roundw
              case rel => exact ⟨n + 1, by omega, by go_num, HC2, HO8, H9⟩
              case measure => simp [intOf]; omega
            | some x =>
              have HC2 : Hid (covR r ps = some x) := Lib.hid (by
                rw [← HRR.out, HC.out, show an + 1 - n = (an + 1 - (n + 1)) + 1 by omega]
                exact covFrom_yes HQQ.out.symm)
              have HI8 : Hid (IntsIn w8 w.heap.size w8.heap.size (.slice (some ⟨g8, 0, none⟩) n8 c8) (srtU (nl x))) := Lib.hid (by
                have h1 := H8.oi
                have h2 : n8 = (srtU (nl x)).length := hn8
                unfold IntsIn
                rw [← h2]
                exact OI.base h1 H7.below.size (Nat.le_refl _))
              clear H8 hn8 H7
              go_wp2
              go_ret2
              exact FcvPost.some HC2.out HI8.out H9.below
          · have hqq : ((q : Int) == (M : Int)) = false := by simp; omega
            have HC2 : Hid (covR r ps = none) := Lib.hid (by
              rw [← HRR.out, HC.out]
              exact covFrom_far (by omega) HSUB.out (by rw [← HQ2.out]; exact hqm) _ _)
            clear hqm
            go_wp2_with fail
            refine (HMK.out).mono ?_
            rintro e w6 ⟨rfl, b6⟩
            have H6 := (H5.step b6).rowBox 3 #[] 1 0 rfl (by decide)
            clear c0 c1 HMK b6 H5
            go_wp2
            go_ret2
            exact FcvPost.nil HC2.out H6.oi H6.below
        · have hlei : ¬ (n : Int) ≤ (an : Int) := by omega
          have HC2 : Hid (covR r ps = none) := Lib.hid (by
            rw [← HRR.out, HC.out, show an + 1 - n = 0 by omega]
            rfl)
          have H6 := H5.rowBox 3 #[] 1 0 rfl (by decide)
          go_wp2
          go_ret2
          exact FcvPost.nil HC2.out H6.oi H6.below
def cvN (r : Reg) (ps : List (List Cell)) : Int := match covR r ps with
  | some x => ((srtU (nl x)).length : Nat)
  | none => -1
theorem covR_len {r : Reg} {ps : List (List Cell)} {x : List Nat} (h : covR r ps = some x) : x.length ≤ 40 := by
  unfold covR at h
  split at h
  · rename_i hs
    have hp := sml_parts hs
    have hf : ∀ (d n : Nat) (A : List Nat) (M : Nat), covFrom A M d n = some x → x.length ≤ n + d := by
      intro d
      induction d with
      | zero => intro n A M h; cases h
      | succ d ih =>
        intro n A M h
        unfold covFrom at h
        split at h
        · rename_i y hy
          injection h with h
          subst h
          have := cov_len n hy
          omega
        · have := ih (n + 1) A M h; omega
    have := hf _ _ _ _ h
    omega
  · cases h
theorem cvN_bd (r : Reg) (ps : List (List Cell)) : -1 ≤ cvN r ps ∧ cvN r ps ≤ 40 := by
  unfold cvN
  split
  · rename_i x hx
    have h1 := covR_len hx
    have h2 := srtU_len (l := nl x)
    have h3 : (nl x).length = x.length := by simp [nl]
    omega
  · omega
set_option maxRecDepth 100000 in
set_option maxHeartbeats 1600000 in
theorem impl_ccv_c {v v2 : Value} {r : Reg} {ps : List (List Cell)} (w : World) (h : RegRd w 0 w.heap.size v r) (h2 : CellSSRd w 0 w.heap.size v2 ps) (hn : ps.length ≤ 1048576) (hl : ∀ s ∈ ps, s.length ≤ 1048576) (ht : Tab64 w) :
    Calls Tryz.prog 66 #[v, v2] w fun e w' => e = .returned (.int .i64 (cvN r ps)) ∧ Below w.heap.size w w' := by
  have HRD : Hid (∀ w1, Below w.heap.size w w1 → RegRd w1 0 w1.heap.size v r) := Lib.hid fun w1 b1 => (h.keep (SameIn.of_below b1 (Nat.le_refl _))).more (Nat.le_refl _) b1.size
  have HR2 : Hid (∀ w1, Below w.heap.size w w1 → CellSSRd w1 0 w1.heap.size v2 ps) := Lib.hid fun w1 b1 => (h2.keep (SameIn.of_below b1 (Nat.le_refl _))).more (Nat.le_refl _) b1.size
  have HTB : Hid (∀ w1, Below w.heap.size w w1 → Tab64 w1) := Lib.hid fun w1 b1 => tab64_on ht b1
  obtain ⟨T, hT⟩ : ∃ T, T = cvN r ps := ⟨_, rfl⟩
  rw [← hT]
  have HT := Lib.hid hT
  obtain ⟨sr, rfl, hsr⟩ := h
  obtain ⟨A0, c, rfl, _, _⟩ := hsr
  obtain ⟨vs0, ⟨A2, c2, rfl, _, _⟩, _⟩ := h2
  have H0 := (Sep.start w).box 29 #[.int .i64 r.w, .slice A0 r.rows.length c]
  obtain ⟨g, hg⟩ : ∃ g, g = w.heap.size := ⟨_, rfl⟩
  rw [← hg] at H0
  clear ht hT
  go_enter Tryz.func66, Tryz.ntmps66
  go_upto_region 1 with fail
  rw [← hg]
  generalize (w.alloc (.cells #[.int .i64 r.w, .slice A0 r.rows.length c] 29)) = W at *
  clear hg
  have c0 : W.cell? ⟨g, 0, none⟩ = some (.int .i64 r.w) := H0.h0.cell 0
  have c1 : W.cell? ⟨g, 1, none⟩ = some (.slice A0 r.rows.length c) := H0.h0.cell 1
  have HTBW := HTB.out W H0.below
  have HP := Lib.hid (impl_fcv_c W (HRD.out W H0.below) (HR2.out W H0.below) hn hl HTBW)
  obtain ⟨Q, hQ⟩ : ∃ Q, Q = covR r ps := ⟨_, rfl⟩
  unfold FcvPost at HP
  rw [← hQ] at HP
  have HQ := Lib.hid hQ
  clear hQ
  go_wp2_with fail
  refine (HP.out).mono ?_
  rintro e w1 ⟨v1, rfl, o1, b1⟩
  have H1 := H0.step b1
  clear c0 c1 H0 HP HTBW
  cases Q with
  | none =>
    obtain rfl : T = -1 := by rw [HT.out, cvN, ← HQ.out]
    obtain ⟨A1, c1, rfl, _, _⟩ := o1.rd
    clear o1 b1
    go_wp2
    go_ret
    exact ⟨rfl, H1.below⟩
  | some x =>
    have HTX : Hid (T = ((srtU (nl x)).length : Nat)) := Lib.hid (by rw [HT.out, cvN, ← HQ.out])
    obtain ⟨L, hL⟩ : ∃ L, L = srtU (nl x) := ⟨_, rfl⟩
    have o2 : IntsIn w1 W.heap.size w1.heap.size v1 L := by rw [hL]; exact o1
    rw [← hL] at HTX
    obtain ⟨A1, c1, rfl, _, _⟩ := o2.rd
    clear o1 o2 b1 hL
    go_wp2
    go_ret
    rw [HTX.out]
    exact ⟨rfl, H1.below⟩
set_option maxRecDepth 100000 in
set_option maxHeartbeats 1600000 in
theorem spec_ccv_c {v v2 : Value} {r : Reg} {ps : List (List Cell)} (w : World) (h : RegRd w 0 w.heap.size v r) (h2 : CellSSRd w 0 w.heap.size v2 ps) (hn : ps.length ≤ 1048576) (hl : ∀ s ∈ ps, s.length ≤ 1048576) :
    Calls Tryz.prog 57 #[v, v2] w fun e w' => e = .returned (.int .i64 (cvN r ps)) ∧ Below w.heap.size w w' := by
  have ht : True := trivial
  have HTB : Hid (∀ w1 : World, Below w.heap.size w w1 → True) := Lib.hid fun _ _ => trivial
  have HRD : Hid (∀ w1, Below w.heap.size w w1 → RegRd w1 0 w1.heap.size v r) := Lib.hid fun w1 b1 => (h.keep (SameIn.of_below b1 (Nat.le_refl _))).more (Nat.le_refl _) b1.size
  have HR2 : Hid (∀ w1, Below w.heap.size w w1 → CellSSRd w1 0 w1.heap.size v2 ps) := Lib.hid fun w1 b1 => (h2.keep (SameIn.of_below b1 (Nat.le_refl _))).more (Nat.le_refl _) b1.size
  obtain ⟨T, hT⟩ : ∃ T, T = cvN r ps := ⟨_, rfl⟩
  rw [← hT]
  have HT := Lib.hid hT
  obtain ⟨sr, rfl, hsr⟩ := h
  obtain ⟨A0, c, rfl, _, _⟩ := hsr
  obtain ⟨vs0, ⟨A2, c2, rfl, _, _⟩, _⟩ := h2
  have H0 := (Sep.start w).box 29 #[.int .i64 r.w, .slice A0 r.rows.length c]
  obtain ⟨g, hg⟩ : ∃ g, g = w.heap.size := ⟨_, rfl⟩
  rw [← hg] at H0
  clear ht hT
  go_enter Tryz.func57, Tryz.ntmps57
  go_upto_region 1 with fail
  rw [← hg]
  generalize (w.alloc (.cells #[.int .i64 r.w, .slice A0 r.rows.length c] 29)) = W at *
  clear hg
  have c0 : W.cell? ⟨g, 0, none⟩ = some (.int .i64 r.w) := H0.h0.cell 0
  have c1 : W.cell? ⟨g, 1, none⟩ = some (.slice A0 r.rows.length c) := H0.h0.cell 1
  have HTBW := HTB.out W H0.below
  have HP := Lib.hid (spec_fcv_c W (HRD.out W H0.below) (HR2.out W H0.below) hn hl )
  obtain ⟨Q, hQ⟩ : ∃ Q, Q = covR r ps := ⟨_, rfl⟩
  unfold FcvPost at HP
  rw [← hQ] at HP
  have HQ := Lib.hid hQ
  clear hQ
  go_wp2_with fail
  refine (HP.out).mono ?_
  rintro e w1 ⟨v1, rfl, o1, b1⟩
  have H1 := H0.step b1
  clear c0 c1 H0 HP HTBW
  cases Q with
  | none =>
    obtain rfl : T = -1 := by rw [HT.out, cvN, ← HQ.out]
    obtain ⟨A1, c1, rfl, _, _⟩ := o1.rd
    clear o1 b1
    go_wp2
    go_ret
    exact ⟨rfl, H1.below⟩
  | some x =>
    have HTX : Hid (T = ((srtU (nl x)).length : Nat)) := Lib.hid (by rw [HT.out, cvN, ← HQ.out])
    obtain ⟨L, hL⟩ : ∃ L, L = srtU (nl x) := ⟨_, rfl⟩
    have o2 : IntsIn w1 W.heap.size w1.heap.size v1 L := by rw [hL]; exact o1
    rw [← hL] at HTX
    obtain ⟨A1, c1, rfl, _, _⟩ := o2.rd
    clear o1 o2 b1 hL
    go_wp2
    go_ret
    rw [HTX.out]
    exact ⟨rfl, H1.below⟩
end Go.Proofs.YtfmkmjebkmimkaaGreatDoor

namespace Go.Proofs.YtfmkmjebkmimkaaGreatDoor
open Go.RowKit

def pkS (U1 T1 U2 T2 U3 : ByteArray) : ByteArray := ⟨#[112, 97, 99, 107, 32]⟩ ++ U1 ++ ⟨#[32, 97, 115, 32]⟩ ++ T1 ++ ⟨#[32, 98, 108, 111, 99, 107, 32]⟩ ++ U2 ++ ⟨#[32, 97, 115, 32]⟩ ++ T2 ++ ⟨#[32, 99, 111, 118, 101, 114, 32]⟩ ++ U3
/-- the line about packings -/
def pkT (r : Reg) (ps : List (List Cell)) : ByteArray := if smlB r ps = true then pkS (itoaB ((lgP r ps).length : Int)) (fmtTil r (nl (lgP r ps))) (itoaB (cntB (fbM r ps) : Int)) (fmtTil r [(fbM r ps : Int)]) (itoaB (cvN r ps)) else ⟨#[]⟩
theorem pk_join (U1 T1 U2 T2 U3 : ByteArray) : joinB spaceB [⟨#[112, 97, 99, 107]⟩, U1, ⟨#[97, 115]⟩, T1, ⟨#[98, 108, 111, 99, 107]⟩, U2, ⟨#[97, 115]⟩, T2, ⟨#[99, 111, 118, 101, 114]⟩, U3] = pkS U1 T1 U2 T2 U3 := by
  simp only [joinB_cons, joinB_one, spaceB, pkS]
  apply ba_ext
  simp
theorem itoaB_size (n : Int) (h0 : -9223372036854775808 ≤ n) (h1 : n ≤ 9223372036854775807) : (itoaB n).size ≤ 21 := by
  unfold itoaB
  rw [ustr_size]
  exact Lib.itoa_length_le n h0 h1
theorem fmtTil_sz (r : Reg) (l : List Int) : (fmtTil r l).size ≤ 42 := by
  unfold fmtTil
  split
  · rename_i h
    unfold tilG at h
    simp only [Bool.and_eq_true] at h
    have hv := Reg.valid_iff.1 h.1
    have h1 := fmtTs_size (r := r) (l := l) (by have := hv.2.1; omega) r.rows.length
    have := hv.2.2.2.1
    omega
  · decide
set_option maxRecDepth 100000 in
theorem tab10_below {w w' : World} (ht : Tab10 w) (hb : Below w.heap.size w w') : Tab10 w' := by
  have hs : (Tryz.prog.globalNamed "internal/strconv.uint64pow10").isSome = true := by kernel_rfl
  obtain ⟨g, hg⟩ := Option.isSome_iff_exists.1 hs
  exact Go.Joins.tab_stays hg ht hb (Nat.le_refl _)
set_option maxRecDepth 100000 in
set_option maxHeartbeats 12800000 in
theorem spec_pl_c {v v2 : Value} {r : Reg} {ps : List (List Cell)} (w : World) (h : RegRd w 0 w.heap.size v r) (h2 : CellSSRd w 0 w.heap.size v2 ps) (hr : r.rows.length ≤ 1048576) (hn : ps.length ≤ 1048576) (hl : ∀ s ∈ ps, s.length ≤ 1048576) :
    Calls Tryz.prog 9 #[v, v2] w fun e w' => e = .returned (.string (pkT r ps)) ∧ Below w.heap.size w w' := by
  have HRD : Hid (∀ w1, Below w.heap.size w w1 → RegRd w1 0 w1.heap.size v r) := Lib.hid fun w1 b1 => (h.keep (SameIn.of_below b1 (Nat.le_refl _))).more (Nat.le_refl _) b1.size
  have HR2 : Hid (∀ w1, Below w.heap.size w w1 → CellSSRd w1 0 w1.heap.size v2 ps) := Lib.hid fun w1 b1 => (h2.keep (SameIn.of_below b1 (Nat.le_refl _))).more (Nat.le_refl _) b1.size
  obtain ⟨R, hR⟩ : ∃ R, R = pkT r ps := ⟨_, rfl⟩
  rw [← hR]
  have HR := Lib.hid hR
  obtain ⟨sr, rfl, hsr⟩ := h
  obtain ⟨A, c, rfl, _, _⟩ := hsr
  obtain ⟨vs, ⟨A2, c2, rfl, _, _⟩, _⟩ := h2
  have H0 := (Sep.start w).box 29 #[.int .i64 r.w, .slice A r.rows.length c]
  obtain ⟨g, hg⟩ : ∃ g, g = w.heap.size := ⟨_, rfl⟩
  rw [← hg] at H0
  clear hR
  go_enter Tryz.func9, Tryz.ntmps9
  go_upto_region 1 with fail
  rw [← hg]
  generalize (w.alloc (.cells #[.int .i64 r.w, .slice A r.rows.length c] 29)) = W at *
  clear hg
  have c0 : W.cell? ⟨g, 0, none⟩ = some (.int .i64 r.w) := H0.h0.cell 0
  have c1 : W.cell? ⟨g, 1, none⟩ = some (.slice A r.rows.length c) := H0.h0.cell 1
  have HC1 := Lib.hid (spec_lg_c W (HRD.out W H0.below) (HR2.out W H0.below) hn hl)
  unfold LgPost at HC1
  obtain ⟨K, hK⟩ : ∃ K, K = smlB r ps := ⟨_, rfl⟩
  obtain ⟨L, hL⟩ : ∃ L, L = nl (lgP r ps) := ⟨_, rfl⟩
  obtain ⟨mk, hm⟩ : ∃ m, m = fbM r ps := ⟨_, rfl⟩
  rw [← hK, ← hL] at HC1
  have HKK := Lib.hid hK
  have HLL := Lib.hid hL
  have HMM := Lib.hid hm
  have HM36 : Hid (mk < 2 ^ 36) := Lib.hid (by rw [hm]; exact fbM_lt)
  have HLN : Hid (L.length ≤ 1000000) := Lib.hid (by rw [hL]; exact lgP_len)
  clear hK hL hm
  go_wp2_with fail
  refine (HC1.out).mono ?_
  rintro e w1 ⟨v1, rfl, o1, b1⟩
  have hrd : IntsRd w1 0 w1.heap.size v1 L := (IntsIn.rd o1).more (Nat.zero_le _) (Nat.le_refl _)
  have HRL1 : Hid (∀ w', Below w1.heap.size w1 w' → IntsRd w' 0 w'.heap.size v1 L) := Lib.hid fun w' b => (hrd.keep (SameIn.of_below b (Nat.le_refl _))).more (Nat.le_refl _) b.size
  obtain ⟨q3, d3, rfl, _, _⟩ := id hrd
  have H1 := H0.step b1
  clear c0 c1 HC1 o1 b1 H0 hrd
  have c0 : w1.cell? ⟨g, 0, none⟩ = some (.int .i64 r.w) := H1.h0.cell 0
  have c1 : w1.cell? ⟨g, 1, none⟩ = some (.slice A r.rows.length c) := H1.h0.cell 1
  have HC2 := Lib.hid (spec_fb_c w1 (HRD.out w1 H1.below) (HR2.out w1 H1.below) hn hl)
  unfold FbPost at HC2
  rw [← HKK.out, ← HMM.out] at HC2
  go_wp2_with fail
  refine (HC2.out).mono ?_
  rintro e w2 ⟨rfl, b2⟩
  have H2 := H1.step b2
  have HB2 := Lib.hid b2
  clear c0 c1 HC2 b2 H1
  cases K
  · obtain rfl : R = ⟨#[]⟩ := by rw [HR.out, pkT, if_neg (by rw [← HKK.out]; decide)]
    go_wp2
    go_ret
    exact ⟨rfl, H2.below⟩
  have HW : Hid (Below w.heap.size w w2) := Lib.hid H2.below
  have HTR : Hid (∀ w', Below w2.heap.size w2 w' → Below w.heap.size w w') := Lib.hid fun w' b => HW.out.trans (b.mono HW.out.size)
  have hgl : g < w2.heap.size := H2.h0.lt
  have hx0 : w2.cell? ⟨g, 0, none⟩ = some (.int .i64 r.w) := H2.h0.cell 0
  have hx1 : w2.cell? ⟨g, 1, none⟩ = some (.slice A r.rows.length c) := H2.h0.cell 1
  have BB : Hid (∀ w', Below w2.heap.size w2 w' → w'.cell? ⟨g, 0, none⟩ = some (.int .i64 r.w) ∧ w'.cell? ⟨g, 1, none⟩ = some (.slice A r.rows.length c)) := Lib.hid fun w' b => ⟨(b.cell (p := ⟨g, 0, none⟩) hgl).trans hx0, (b.cell (p := ⟨g, 1, none⟩) hgl).trans hx1⟩
  obtain ⟨ln, hln⟩ : ∃ n, n = L.length := ⟨_, rfl⟩
  have HRL : Hid (∀ w', Below w2.heap.size w2 w' → IntsRd w' 0 w'.heap.size (.slice q3 ln d3) L) := Lib.hid fun w' b => by rw [hln]; exact HRL1.out w' (HB2.out.trans (b.mono HB2.out.size))
  rw [← hln]
  have hln6 : ln ≤ 1000000 := by rw [hln]; exact HLN.out
  have hm36 : mk < 68719476736 := HM36.out
  obtain ⟨nm, hnm⟩ : ∃ n, n = cntB mk := ⟨_, rfl⟩
  have hnm36 : nm ≤ 36 := by rw [hnm]; exact cntB_le mk
  obtain ⟨cv, hcv⟩ : ∃ n, n = cvN r ps := ⟨_, rfl⟩
  have hcvb : -1 ≤ cv ∧ cv ≤ 40 := by rw [hcv]; exact cvN_bd r ps
  obtain ⟨U1, hU1⟩ : ∃ U, U = itoaB (ln : Int) := ⟨_, rfl⟩
  obtain ⟨U2, hU2⟩ : ∃ U, U = itoaB (nm : Int) := ⟨_, rfl⟩
  obtain ⟨U3, hU3⟩ : ∃ U, U = itoaB cv := ⟨_, rfl⟩
  obtain ⟨T1, hT1⟩ : ∃ U, U = fmtTil r L := ⟨_, rfl⟩
  obtain ⟨T2, hT2⟩ : ∃ U, U = fmtTil r [(mk : Int)] := ⟨_, rfl⟩
  have HRR : Hid (R = pkS U1 T1 U2 T2 U3) := Lib.hid (by
    rw [HR.out, pkT, if_pos HKK.out.symm, hU1, hU2, hU3, hT1, hT2, hln, hnm, hcv, HLL.out, HMM.out]
    congr 2
    simp [nl])
  have s1 : U1.size ≤ 21 := by rw [hU1]; exact itoaB_size _ (by omega) (by omega)
  have s2 : U2.size ≤ 21 := by rw [hU2]; exact itoaB_size _ (by omega) (by omega)
  have s3 : U3.size ≤ 21 := by rw [hU3]; exact itoaB_size _ (by omega) (by omega)
  have s4 : T1.size ≤ 42 := by rw [hT1]; exact fmtTil_sz r L
  have s5 : T2.size ≤ 42 := by rw [hT2]; exact fmtTil_sz r _

  have HI1 : Hid (∀ w', Below w2.heap.size w2 w' → Calls Tryz.prog 54 #[.int .i64 (ln : Int)] w' fun e w'' => e = .returned (.string U1) ∧ Below w'.heap.size w' w'') := Lib.hid fun w' b => by rw [hU1]; exact spec_fmtInt_c (ln : Int) w' (by omega) (by omega)
  have HI2 : Hid (∀ w', Below w2.heap.size w2 w' → Calls Tryz.prog 54 #[.int .i64 (nm : Int)] w' fun e w'' => e = .returned (.string U2) ∧ Below w'.heap.size w' w'') := Lib.hid fun w' b => by rw [hU2]; exact spec_fmtInt_c (nm : Int) w' (by omega) (by omega)
  have HI3 : Hid (∀ w', Below w2.heap.size w2 w' → Calls Tryz.prog 54 #[.int .i64 cv] w' fun e w'' => e = .returned (.string U3) ∧ Below w'.heap.size w' w'') := Lib.hid fun w' b => by rw [hU3]; exact spec_fmtInt_c cv w' (by omega) (by omega)
  have HT1 : Hid (∀ w', Below w2.heap.size w2 w' → Calls Tryz.prog 55 #[.agg #[.int .i64 r.w, .slice A r.rows.length c], .slice q3 ln d3] w' fun e w'' => e = .returned (.string T1) ∧ Below w'.heap.size w' w'') := Lib.hid fun w' b => by rw [hT1]; exact spec_fmtTil_c w' (HRD.out w' (HTR.out w' b)) (HRL.out w' b) hr
  have HT2 : Hid (∀ w' v, Sep w2 w' [Res.row v 3 1 1 (ic [(mk : Int)])] → Calls Tryz.prog 55 #[.agg #[.int .i64 r.w, .slice A r.rows.length c], v] w' fun e w'' => e = .returned (.string T2) ∧ Below w'.heap.size w' w'') := Lib.hid fun w' v hs => by rw [hT2]; exact spec_fmtTil_c w' (HRD.out w' (HTR.out w' hs.below)) (row_rdZ hs.h0 rfl) hr
  have HON : Hid (∀ w', Below w2.heap.size w2 w' → Calls Tryz.prog 56 #[.int .i64 (mk : Int)] w' fun e w'' => e = .returned (.int .i64 (nm : Int)) ∧ Below w'.heap.size w' w'') := Lib.hid fun w' b => by
    rw [hnm]
    refine (spec_bits_c (m := mk) w' HM36.out).mono ?_
    rintro e w'' ⟨he, hw⟩
    subst hw
    exact ⟨he, Below.refl _ _⟩
  have HCV : Hid (∀ w', Below w2.heap.size w2 w' → Calls Tryz.prog 57 #[.agg #[.int .i64 r.w, .slice A r.rows.length c], .slice A2 ps.length c2] w' fun e w'' => e = .returned (.int .i64 cv) ∧ Below w'.heap.size w' w'') := Lib.hid fun w' b => by rw [hcv]; exact spec_ccv_c w' (HRD.out w' (HTR.out w' b)) (HR2.out w' (HTR.out w' b)) hn hl
  have y1 : ¬ 9223372036854775807 < 5 + U1.size := by omega
  have y2 : ¬ 9223372036854775807 < 5 + U1.size + 4 := by omega
  have y3 : ¬ 9223372036854775807 < 5 + U1.size + 4 + T1.size := by omega
  have y4 : ¬ 9223372036854775807 < 5 + U1.size + 4 + T1.size + 7 := by omega
  have y5 : ¬ 9223372036854775807 < 5 + U1.size + 4 + T1.size + 7 + U2.size := by omega
  have y6 : ¬ 9223372036854775807 < 5 + U1.size + 4 + T1.size + 7 + U2.size + 4 := by omega
  have y7 : ¬ 9223372036854775807 < 5 + U1.size + 4 + T1.size + 7 + U2.size + 4 + T2.size := by omega
  have y8 : ¬ 9223372036854775807 < 5 + U1.size + 4 + T1.size + 7 + U2.size + 4 + T2.size + 7 := by omega
  have y9 : ¬ 9223372036854775807 < 5 + U1.size + 4 + T1.size + 7 + U2.size + 4 + T2.size + 7 + U3.size := by omega
  clear hln hnm hcv hU1 hU2 hU3 hT1 hT2 s1 s2 s3 s4 s5 hx0 hx1 H2 hcvb hnm36
  go_upto_region 5 with fail
  have HH : Below w2.heap.size w2 w2.drew := below_drew (Below.refl _ _)
  have HB := ((Sep.start w2).rowBox 3 #[.int .i64 (mk : Int)] 1 1 rfl (by decide)).drew
  have f0 := (BB.out _ HH).1
  have f1 := (BB.out _ HH).2
  have k0 := (BB.out _ HB.below).1
  have k1 := (BB.out _ HB.below).2
  go_region_held3 (fun w' => w'.cell? ⟨g, 0, none⟩ = some (.int .i64 r.w) ∧ w'.cell? ⟨g, 1, none⟩ = some (.slice A r.rows.length c))
    (first | ((try dsimp only); refine ⟨?_, ?_⟩ <;> assumption) | go_keep)
    (first
    | (go_at_call 54; first | ((with_reducible refine (HI1.out _ HH).mono ?_); rintro e wz ⟨rfl, bz⟩; replace HH := HH.trans (bz.mono HH.size); clear bz; have f0 := (BB.out _ HH).1; have f1 := (BB.out _ HH).2; have HB := ((show Sep w2 wz [] from HH).rowBox 3 #[.int .i64 (mk : Int)] 1 1 rfl (by decide)); have k0 := (BB.out _ HB.below).1; have k1 := (BB.out _ HB.below).2) | ((with_reducible refine (HI1.out _ HB.below).mono ?_); rintro e wz ⟨rfl, bz⟩; have HC := HB.step bz; clear bz; have f0 := (BB.out _ HC.below).1; have f1 := (BB.out _ HC.below).2) | ((with_reducible refine (HI1.out _ HC.below).mono ?_); rintro e wz ⟨rfl, bz⟩; replace HC := HC.step bz; clear bz; have f0 := (BB.out _ HC.below).1; have f1 := (BB.out _ HC.below).2))
    | (go_at_call 54; first | ((with_reducible refine (HI2.out _ HH).mono ?_); rintro e wz ⟨rfl, bz⟩; replace HH := HH.trans (bz.mono HH.size); clear bz; have f0 := (BB.out _ HH).1; have f1 := (BB.out _ HH).2; have HB := ((show Sep w2 wz [] from HH).rowBox 3 #[.int .i64 (mk : Int)] 1 1 rfl (by decide)); have k0 := (BB.out _ HB.below).1; have k1 := (BB.out _ HB.below).2) | ((with_reducible refine (HI2.out _ HB.below).mono ?_); rintro e wz ⟨rfl, bz⟩; have HC := HB.step bz; clear bz; have f0 := (BB.out _ HC.below).1; have f1 := (BB.out _ HC.below).2) | ((with_reducible refine (HI2.out _ HC.below).mono ?_); rintro e wz ⟨rfl, bz⟩; replace HC := HC.step bz; clear bz; have f0 := (BB.out _ HC.below).1; have f1 := (BB.out _ HC.below).2))
    | (go_at_call 54; first | ((with_reducible refine (HI3.out _ HH).mono ?_); rintro e wz ⟨rfl, bz⟩; replace HH := HH.trans (bz.mono HH.size); clear bz; have f0 := (BB.out _ HH).1; have f1 := (BB.out _ HH).2; have HB := ((show Sep w2 wz [] from HH).rowBox 3 #[.int .i64 (mk : Int)] 1 1 rfl (by decide)); have k0 := (BB.out _ HB.below).1; have k1 := (BB.out _ HB.below).2) | ((with_reducible refine (HI3.out _ HB.below).mono ?_); rintro e wz ⟨rfl, bz⟩; have HC := HB.step bz; clear bz; have f0 := (BB.out _ HC.below).1; have f1 := (BB.out _ HC.below).2) | ((with_reducible refine (HI3.out _ HC.below).mono ?_); rintro e wz ⟨rfl, bz⟩; replace HC := HC.step bz; clear bz; have f0 := (BB.out _ HC.below).1; have f1 := (BB.out _ HC.below).2))
    | (go_at_call 55; first | ((with_reducible refine (HT1.out _ HH).mono ?_); rintro e wz ⟨rfl, bz⟩; replace HH := HH.trans (bz.mono HH.size); clear bz; have f0 := (BB.out _ HH).1; have f1 := (BB.out _ HH).2; have HB := ((show Sep w2 wz [] from HH).rowBox 3 #[.int .i64 (mk : Int)] 1 1 rfl (by decide)); have k0 := (BB.out _ HB.below).1; have k1 := (BB.out _ HB.below).2) | ((with_reducible refine (HT1.out _ HB.below).mono ?_); rintro e wz ⟨rfl, bz⟩; have HC := HB.step bz; clear bz; have f0 := (BB.out _ HC.below).1; have f1 := (BB.out _ HC.below).2) | ((with_reducible refine (HT1.out _ HC.below).mono ?_); rintro e wz ⟨rfl, bz⟩; replace HC := HC.step bz; clear bz; have f0 := (BB.out _ HC.below).1; have f1 := (BB.out _ HC.below).2))
    | (go_at_call 56; first | ((with_reducible refine (HON.out _ HH).mono ?_); rintro e wz ⟨rfl, bz⟩; replace HH := HH.trans (bz.mono HH.size); clear bz; have f0 := (BB.out _ HH).1; have f1 := (BB.out _ HH).2; have HB := ((show Sep w2 wz [] from HH).rowBox 3 #[.int .i64 (mk : Int)] 1 1 rfl (by decide)); have k0 := (BB.out _ HB.below).1; have k1 := (BB.out _ HB.below).2) | ((with_reducible refine (HON.out _ HB.below).mono ?_); rintro e wz ⟨rfl, bz⟩; have HC := HB.step bz; clear bz; have f0 := (BB.out _ HC.below).1; have f1 := (BB.out _ HC.below).2) | ((with_reducible refine (HON.out _ HC.below).mono ?_); rintro e wz ⟨rfl, bz⟩; replace HC := HC.step bz; clear bz; have f0 := (BB.out _ HC.below).1; have f1 := (BB.out _ HC.below).2))
    | (go_at_call 57; first | ((with_reducible refine (HCV.out _ HH).mono ?_); rintro e wz ⟨rfl, bz⟩; replace HH := HH.trans (bz.mono HH.size); clear bz; have f0 := (BB.out _ HH).1; have f1 := (BB.out _ HH).2; have HB := ((show Sep w2 wz [] from HH).rowBox 3 #[.int .i64 (mk : Int)] 1 1 rfl (by decide)); have k0 := (BB.out _ HB.below).1; have k1 := (BB.out _ HB.below).2) | ((with_reducible refine (HCV.out _ HB.below).mono ?_); rintro e wz ⟨rfl, bz⟩; have HC := HB.step bz; clear bz; have f0 := (BB.out _ HC.below).1; have f1 := (BB.out _ HC.below).2) | ((with_reducible refine (HCV.out _ HC.below).mono ?_); rintro e wz ⟨rfl, bz⟩; replace HC := HC.step bz; clear bz; have f0 := (BB.out _ HC.below).1; have f1 := (BB.out _ HC.below).2))
    | (go_at_call 55; first | ((with_reducible refine (HT2.out _ _ HB).mono ?_); rintro e wz ⟨rfl, bz⟩; have HC := HB.step bz; clear bz; have f0 := (BB.out _ HC.below).1; have f1 := (BB.out _ HC.below).2) | ((with_reducible refine (HT2.out _ _ HC).mono ?_); rintro e wz ⟨rfl, bz⟩; replace HC := HC.step bz; clear bz; have f0 := (BB.out _ HC.below).1; have f1 := (BB.out _ HC.below).2)))
  all_goals
    go_wp2
    go_ret
    exact ⟨by rw [HRR.out]; rfl, HTR.out _ HC.below⟩
end Go.Proofs.YtfmkmjebkmimkaaGreatDoor

namespace Go.Proofs.YtfmkmjebkmimkaaGreatDoor
open Go.RowKit

set_option maxRecDepth 100000 in
set_option maxHeartbeats 12800000 in
theorem impl_pl_c {v v2 : Value} {r : Reg} {ps : List (List Cell)} (w : World) (h : RegRd w 0 w.heap.size v r) (h2 : CellSSRd w 0 w.heap.size v2 ps) (hr : r.rows.length ≤ 1048576) (hn : ps.length ≤ 1048576) (hl : ∀ s ∈ ps, s.length ≤ 1048576) (ht : Tab64 w) (ht10 : Tab10 w) :
    Calls Tryz.prog 12 #[v, v2] w fun e w' => e = .returned (.string (pkT r ps)) ∧ Below w.heap.size w w' := by
  have HRD : Hid (∀ w1, Below w.heap.size w w1 → RegRd w1 0 w1.heap.size v r) := Lib.hid fun w1 b1 => (h.keep (SameIn.of_below b1 (Nat.le_refl _))).more (Nat.le_refl _) b1.size
  have HR2 : Hid (∀ w1, Below w.heap.size w w1 → CellSSRd w1 0 w1.heap.size v2 ps) := Lib.hid fun w1 b1 => (h2.keep (SameIn.of_below b1 (Nat.le_refl _))).more (Nat.le_refl _) b1.size
  have HTB : Hid (∀ w1, Below w.heap.size w w1 → Tab64 w1) := Lib.hid fun w1 b1 => tab64_on ht b1
  have HT10 : Hid (∀ w1, Below w.heap.size w w1 → Tab10 w1) := Lib.hid fun w1 b1 => tab10_below ht10 b1
  obtain ⟨R, hR⟩ : ∃ R, R = pkT r ps := ⟨_, rfl⟩
  rw [← hR]
  have HR := Lib.hid hR
  obtain ⟨sr, rfl, hsr⟩ := h
  obtain ⟨A, c, rfl, _, _⟩ := hsr
  obtain ⟨vs, ⟨A2, c2, rfl, _, _⟩, _⟩ := h2
  have H0 := (Sep.start w).box 29 #[.int .i64 r.w, .slice A r.rows.length c]
  obtain ⟨g, hg⟩ : ∃ g, g = w.heap.size := ⟨_, rfl⟩
  rw [← hg] at H0
  clear hR ht ht10
  go_enter Tryz.func12, Tryz.ntmps12
  go_upto_region 1 with fail
  rw [← hg]
  generalize (w.alloc (.cells #[.int .i64 r.w, .slice A r.rows.length c] 29)) = W at *
  clear hg
  have c0 : W.cell? ⟨g, 0, none⟩ = some (.int .i64 r.w) := H0.h0.cell 0
  have c1 : W.cell? ⟨g, 1, none⟩ = some (.slice A r.rows.length c) := H0.h0.cell 1
  have HC1 := Lib.hid (impl_lg_c W (HRD.out W H0.below) (HR2.out W H0.below) hn hl)
  unfold LgPost at HC1
  obtain ⟨K, hK⟩ : ∃ K, K = smlB r ps := ⟨_, rfl⟩
  obtain ⟨L, hL⟩ : ∃ L, L = nl (lgP r ps) := ⟨_, rfl⟩
  obtain ⟨mk, hm⟩ : ∃ m, m = fbM r ps := ⟨_, rfl⟩
  rw [← hK, ← hL] at HC1
  have HKK := Lib.hid hK
  have HLL := Lib.hid hL
  have HMM := Lib.hid hm
  have HM36 : Hid (mk < 2 ^ 36) := Lib.hid (by rw [hm]; exact fbM_lt)
  have HLN : Hid (L.length ≤ 1000000) := Lib.hid (by rw [hL]; exact lgP_len)
  clear hK hL hm
  go_wp2_with fail
  refine (HC1.out).mono ?_
  rintro e w1 ⟨v1, rfl, o1, b1⟩
  have hrd : IntsRd w1 0 w1.heap.size v1 L := (IntsIn.rd o1).more (Nat.zero_le _) (Nat.le_refl _)
  have HRL1 : Hid (∀ w', Below w1.heap.size w1 w' → IntsRd w' 0 w'.heap.size v1 L) := Lib.hid fun w' b => (hrd.keep (SameIn.of_below b (Nat.le_refl _))).more (Nat.le_refl _) b.size
  obtain ⟨q3, d3, rfl, _, _⟩ := id hrd
  have H1 := H0.step b1
  clear c0 c1 HC1 o1 b1 H0 hrd
  have c0 : w1.cell? ⟨g, 0, none⟩ = some (.int .i64 r.w) := H1.h0.cell 0
  have c1 : w1.cell? ⟨g, 1, none⟩ = some (.slice A r.rows.length c) := H1.h0.cell 1
  have HC2 := Lib.hid (impl_fb_c w1 (HRD.out w1 H1.below) (HR2.out w1 H1.below) hn hl)
  unfold FbPost at HC2
  rw [← HKK.out, ← HMM.out] at HC2
  go_wp2_with fail
  refine (HC2.out).mono ?_
  rintro e w2 ⟨rfl, b2⟩
  have H2 := H1.step b2
  have HB2 := Lib.hid b2
  clear c0 c1 HC2 b2 H1
  cases K
  · obtain rfl : R = ⟨#[]⟩ := by rw [HR.out, pkT, if_neg (by rw [← HKK.out]; decide)]
    go_wp2
    go_ret
    exact ⟨rfl, H2.below⟩
  have HW : Hid (Below w.heap.size w w2) := Lib.hid H2.below
  have HTR : Hid (∀ w', Below w2.heap.size w2 w' → Below w.heap.size w w') := Lib.hid fun w' b => HW.out.trans (b.mono HW.out.size)
  have hgl : g < w2.heap.size := H2.h0.lt
  have hx0 : w2.cell? ⟨g, 0, none⟩ = some (.int .i64 r.w) := H2.h0.cell 0
  have hx1 : w2.cell? ⟨g, 1, none⟩ = some (.slice A r.rows.length c) := H2.h0.cell 1
  have BB : Hid (∀ w', Below w2.heap.size w2 w' → w'.cell? ⟨g, 0, none⟩ = some (.int .i64 r.w) ∧ w'.cell? ⟨g, 1, none⟩ = some (.slice A r.rows.length c)) := Lib.hid fun w' b => ⟨(b.cell (p := ⟨g, 0, none⟩) hgl).trans hx0, (b.cell (p := ⟨g, 1, none⟩) hgl).trans hx1⟩
  obtain ⟨ln, hln⟩ : ∃ n, n = L.length := ⟨_, rfl⟩
  have HRL : Hid (∀ w', Below w2.heap.size w2 w' → IntsRd w' 0 w'.heap.size (.slice q3 ln d3) L) := Lib.hid fun w' b => by rw [hln]; exact HRL1.out w' (HB2.out.trans (b.mono HB2.out.size))
  rw [← hln]
  have hln6 : ln ≤ 1000000 := by rw [hln]; exact HLN.out
  have hm36 : mk < 68719476736 := HM36.out
  obtain ⟨nm, hnm⟩ : ∃ n, n = cntB mk := ⟨_, rfl⟩
  have hnm36 : nm ≤ 36 := by rw [hnm]; exact cntB_le mk
  obtain ⟨cv, hcv⟩ : ∃ n, n = cvN r ps := ⟨_, rfl⟩
  have hcvb : -1 ≤ cv ∧ cv ≤ 40 := by rw [hcv]; exact cvN_bd r ps
  obtain ⟨U1, hU1⟩ : ∃ U, U = itoaB (ln : Int) := ⟨_, rfl⟩
  obtain ⟨U2, hU2⟩ : ∃ U, U = itoaB (nm : Int) := ⟨_, rfl⟩
  obtain ⟨U3, hU3⟩ : ∃ U, U = itoaB cv := ⟨_, rfl⟩
  obtain ⟨T1, hT1⟩ : ∃ U, U = fmtTil r L := ⟨_, rfl⟩
  obtain ⟨T2, hT2⟩ : ∃ U, U = fmtTil r [(mk : Int)] := ⟨_, rfl⟩
  have HRR : Hid (R = pkS U1 T1 U2 T2 U3) := Lib.hid (by
    rw [HR.out, pkT, if_pos HKK.out.symm, hU1, hU2, hU3, hT1, hT2, hln, hnm, hcv, HLL.out, HMM.out]
    congr 2
    simp [nl])
  have s1 : U1.size ≤ 21 := by rw [hU1]; exact itoaB_size _ (by omega) (by omega)
  have s2 : U2.size ≤ 21 := by rw [hU2]; exact itoaB_size _ (by omega) (by omega)
  have s3 : U3.size ≤ 21 := by rw [hU3]; exact itoaB_size _ (by omega) (by omega)
  have s4 : T1.size ≤ 42 := by rw [hT1]; exact fmtTil_sz r L
  have s5 : T2.size ≤ 42 := by rw [hT2]; exact fmtTil_sz r _

  have HI1 : Hid (∀ w', Below w2.heap.size w2 w' → Calls Tryz.prog 63 #[.int .i64 (ln : Int)] w' fun e w'' => e = .returned (.string U1) ∧ Below w'.heap.size w' w'') := Lib.hid fun w' b => by rw [hU1]; exact impl_fmtInt_c (ln : Int) w' (by omega) (by omega) (HT10.out w' (HTR.out w' b))
  have HI2 : Hid (∀ w', Below w2.heap.size w2 w' → Calls Tryz.prog 63 #[.int .i64 (nm : Int)] w' fun e w'' => e = .returned (.string U2) ∧ Below w'.heap.size w' w'') := Lib.hid fun w' b => by rw [hU2]; exact impl_fmtInt_c (nm : Int) w' (by omega) (by omega) (HT10.out w' (HTR.out w' b))
  have HI3 : Hid (∀ w', Below w2.heap.size w2 w' → Calls Tryz.prog 63 #[.int .i64 cv] w' fun e w'' => e = .returned (.string U3) ∧ Below w'.heap.size w' w'') := Lib.hid fun w' b => by rw [hU3]; exact impl_fmtInt_c cv w' (by omega) (by omega) (HT10.out w' (HTR.out w' b))
  have HT1 : Hid (∀ w', Below w2.heap.size w2 w' → Calls Tryz.prog 64 #[.agg #[.int .i64 r.w, .slice A r.rows.length c], .slice q3 ln d3] w' fun e w'' => e = .returned (.string T1) ∧ Below w'.heap.size w' w'') := Lib.hid fun w' b => by rw [hT1]; exact impl_fmtTil_c w' (HRD.out w' (HTR.out w' b)) (HRL.out w' b) hr
  have HT2 : Hid (∀ w' v, Sep w2 w' [Res.row v 3 1 1 (ic [(mk : Int)])] → Calls Tryz.prog 64 #[.agg #[.int .i64 r.w, .slice A r.rows.length c], v] w' fun e w'' => e = .returned (.string T2) ∧ Below w'.heap.size w' w'') := Lib.hid fun w' v hs => by rw [hT2]; exact impl_fmtTil_c w' (HRD.out w' (HTR.out w' hs.below)) (row_rdZ hs.h0 rfl) hr
  have HON : Hid (∀ w', Below w2.heap.size w2 w' → Calls Tryz.prog 65 #[.int .u64 (mk : Int)] w' fun e w'' => e = .returned (.int .i64 (nm : Int)) ∧ Below w'.heap.size w' w'') := Lib.hid fun w' b => by
    rw [hnm]
    refine (ones36_c mk w' HM36.out).mono ?_
    rintro e w'' ⟨he, hw⟩
    subst hw
    exact ⟨he, Below.refl _ _⟩
  have hu1 : IntKind.u64.wrap (mk : Int) = (mk : Int) := u64_in _ (by omega)
  have HCV : Hid (∀ w', Below w2.heap.size w2 w' → Calls Tryz.prog 66 #[.agg #[.int .i64 r.w, .slice A r.rows.length c], .slice A2 ps.length c2] w' fun e w'' => e = .returned (.int .i64 cv) ∧ Below w'.heap.size w' w'') := Lib.hid fun w' b => by rw [hcv]; exact impl_ccv_c w' (HRD.out w' (HTR.out w' b)) (HR2.out w' (HTR.out w' b)) hn hl (HTB.out w' (HTR.out w' b))
  have HSZ : Hid (∀ x ∈ [(⟨#[112, 97, 99, 107]⟩ : ByteArray), (U1 : ByteArray), (⟨#[97, 115]⟩ : ByteArray), (T1 : ByteArray), (⟨#[98, 108, 111, 99, 107]⟩ : ByteArray), (U2 : ByteArray), (⟨#[97, 115]⟩ : ByteArray), (T2 : ByteArray), (⟨#[99, 111, 118, 101, 114]⟩ : ByteArray), (U3 : ByteArray)], x.size ≤ 100) := Lib.hid fun x hx => by
    simp only [List.mem_cons, List.not_mem_nil, or_false] at hx
    rcases hx with rfl | rfl | rfl | rfl | rfl | rfl | rfl | rfl | rfl | rfl
    · decide
    · omega
    · decide
    · omega
    · decide
    · omega
    · decide
    · omega
    · decide
    · omega
  clear hln hnm hcv hU1 hU2 hU3 hT1 hT2 s1 s2 s3 s4 s5 hx0 hx1 H2 hcvb hnm36
  go_upto_region 5 with fail
  have HH : Below w2.heap.size w2 w2.drew := below_drew (Below.refl _ _)
  have HB := ((Sep.start w2).rowBox 3 #[.int .i64 (mk : Int)] 1 1 rfl (by decide)).drew
  have f0 := (BB.out _ HH).1
  have f1 := (BB.out _ HH).2
  have k0 := (BB.out _ HB.below).1
  have k1 := (BB.out _ HB.below).2
  go_region_held3 (fun w' => w'.cell? ⟨g, 0, none⟩ = some (.int .i64 r.w) ∧ w'.cell? ⟨g, 1, none⟩ = some (.slice A r.rows.length c))
    (first | ((try dsimp only); refine ⟨?_, ?_⟩ <;> assumption) | go_keep)
    (first
    | (go_at_call 63; first | ((with_reducible refine (HI1.out _ HH).mono ?_); rintro e wz ⟨rfl, bz⟩; replace HH := HH.trans (bz.mono HH.size); clear bz; have f0 := (BB.out _ HH).1; have f1 := (BB.out _ HH).2; have HB := ((show Sep w2 wz [] from HH).rowBox 3 #[.int .i64 (mk : Int)] 1 1 rfl (by decide)); have k0 := (BB.out _ HB.below).1; have k1 := (BB.out _ HB.below).2) | ((with_reducible refine (HI1.out _ HB.below).mono ?_); rintro e wz ⟨rfl, bz⟩; have HC := HB.step bz; clear bz; have f0 := (BB.out _ HC.below).1; have f1 := (BB.out _ HC.below).2) | ((with_reducible refine (HI1.out _ HC.below).mono ?_); rintro e wz ⟨rfl, bz⟩; replace HC := HC.step bz; clear bz; have f0 := (BB.out _ HC.below).1; have f1 := (BB.out _ HC.below).2))
    | (go_at_call 63; first | ((with_reducible refine (HI2.out _ HH).mono ?_); rintro e wz ⟨rfl, bz⟩; replace HH := HH.trans (bz.mono HH.size); clear bz; have f0 := (BB.out _ HH).1; have f1 := (BB.out _ HH).2; have HB := ((show Sep w2 wz [] from HH).rowBox 3 #[.int .i64 (mk : Int)] 1 1 rfl (by decide)); have k0 := (BB.out _ HB.below).1; have k1 := (BB.out _ HB.below).2) | ((with_reducible refine (HI2.out _ HB.below).mono ?_); rintro e wz ⟨rfl, bz⟩; have HC := HB.step bz; clear bz; have f0 := (BB.out _ HC.below).1; have f1 := (BB.out _ HC.below).2) | ((with_reducible refine (HI2.out _ HC.below).mono ?_); rintro e wz ⟨rfl, bz⟩; replace HC := HC.step bz; clear bz; have f0 := (BB.out _ HC.below).1; have f1 := (BB.out _ HC.below).2))
    | (go_at_call 63; first | ((with_reducible refine (HI3.out _ HH).mono ?_); rintro e wz ⟨rfl, bz⟩; replace HH := HH.trans (bz.mono HH.size); clear bz; have f0 := (BB.out _ HH).1; have f1 := (BB.out _ HH).2; have HB := ((show Sep w2 wz [] from HH).rowBox 3 #[.int .i64 (mk : Int)] 1 1 rfl (by decide)); have k0 := (BB.out _ HB.below).1; have k1 := (BB.out _ HB.below).2) | ((with_reducible refine (HI3.out _ HB.below).mono ?_); rintro e wz ⟨rfl, bz⟩; have HC := HB.step bz; clear bz; have f0 := (BB.out _ HC.below).1; have f1 := (BB.out _ HC.below).2) | ((with_reducible refine (HI3.out _ HC.below).mono ?_); rintro e wz ⟨rfl, bz⟩; replace HC := HC.step bz; clear bz; have f0 := (BB.out _ HC.below).1; have f1 := (BB.out _ HC.below).2))
    | (go_at_call 64; first | ((with_reducible refine (HT1.out _ HH).mono ?_); rintro e wz ⟨rfl, bz⟩; replace HH := HH.trans (bz.mono HH.size); clear bz; have f0 := (BB.out _ HH).1; have f1 := (BB.out _ HH).2; have HB := ((show Sep w2 wz [] from HH).rowBox 3 #[.int .i64 (mk : Int)] 1 1 rfl (by decide)); have k0 := (BB.out _ HB.below).1; have k1 := (BB.out _ HB.below).2) | ((with_reducible refine (HT1.out _ HB.below).mono ?_); rintro e wz ⟨rfl, bz⟩; have HC := HB.step bz; clear bz; have f0 := (BB.out _ HC.below).1; have f1 := (BB.out _ HC.below).2) | ((with_reducible refine (HT1.out _ HC.below).mono ?_); rintro e wz ⟨rfl, bz⟩; replace HC := HC.step bz; clear bz; have f0 := (BB.out _ HC.below).1; have f1 := (BB.out _ HC.below).2))
    | (go_at_call 65; first | ((with_reducible refine (HON.out _ HH).mono ?_); rintro e wz ⟨rfl, bz⟩; replace HH := HH.trans (bz.mono HH.size); clear bz; have f0 := (BB.out _ HH).1; have f1 := (BB.out _ HH).2; have HB := ((show Sep w2 wz [] from HH).rowBox 3 #[.int .i64 (mk : Int)] 1 1 rfl (by decide)); have k0 := (BB.out _ HB.below).1; have k1 := (BB.out _ HB.below).2) | ((with_reducible refine (HON.out _ HB.below).mono ?_); rintro e wz ⟨rfl, bz⟩; have HC := HB.step bz; clear bz; have f0 := (BB.out _ HC.below).1; have f1 := (BB.out _ HC.below).2) | ((with_reducible refine (HON.out _ HC.below).mono ?_); rintro e wz ⟨rfl, bz⟩; replace HC := HC.step bz; clear bz; have f0 := (BB.out _ HC.below).1; have f1 := (BB.out _ HC.below).2))
    | (go_at_call 66; first | ((with_reducible refine (HCV.out _ HH).mono ?_); rintro e wz ⟨rfl, bz⟩; replace HH := HH.trans (bz.mono HH.size); clear bz; have f0 := (BB.out _ HH).1; have f1 := (BB.out _ HH).2; have HB := ((show Sep w2 wz [] from HH).rowBox 3 #[.int .i64 (mk : Int)] 1 1 rfl (by decide)); have k0 := (BB.out _ HB.below).1; have k1 := (BB.out _ HB.below).2) | ((with_reducible refine (HCV.out _ HB.below).mono ?_); rintro e wz ⟨rfl, bz⟩; have HC := HB.step bz; clear bz; have f0 := (BB.out _ HC.below).1; have f1 := (BB.out _ HC.below).2) | ((with_reducible refine (HCV.out _ HC.below).mono ?_); rintro e wz ⟨rfl, bz⟩; replace HC := HC.step bz; clear bz; have f0 := (BB.out _ HC.below).1; have f1 := (BB.out _ HC.below).2))
    | (go_at_call 64; first | ((with_reducible refine (HT2.out _ _ HB).mono ?_); rintro e wz ⟨rfl, bz⟩; have HC := HB.step bz; clear bz; have f0 := (BB.out _ HC.below).1; have f1 := (BB.out _ HC.below).2) | ((with_reducible refine (HT2.out _ _ HC).mono ?_); rintro e wz ⟨rfl, bz⟩; replace HC := HC.step bz; clear bz; have f0 := (BB.out _ HC.below).1; have f1 := (BB.out _ HC.below).2))
    | (go_at_call 62; (with_reducible refine (line_own (l := [⟨#[112, 97, 99, 107]⟩, U1, ⟨#[97, 115]⟩, T1, ⟨#[98, 108, 111, 99, 107]⟩, U2, ⟨#[97, 115]⟩, T2, ⟨#[99, 111, 118, 101, 114]⟩, U3]) (b := 100) (HC.rowBox 9 #[.string ⟨#[112, 97, 99, 107]⟩, .string U1, .string ⟨#[97, 115]⟩, .string T1, .string ⟨#[98, 108, 111, 99, 107]⟩, .string U2, .string ⟨#[97, 115]⟩, .string T2, .string ⟨#[99, 111, 118, 101, 114]⟩, .string U3] 1 10 rfl (by decide)) rfl HSZ.out (by simp) (by decide)).mono ?_); rintro e wz ⟨rfl, bz⟩; have HD := (HC.rowBox 9 #[.string ⟨#[112, 97, 99, 107]⟩, .string U1, .string ⟨#[97, 115]⟩, .string T1, .string ⟨#[98, 108, 111, 99, 107]⟩, .string U2, .string ⟨#[97, 115]⟩, .string T2, .string ⟨#[99, 111, 118, 101, 114]⟩, .string U3] 1 10 rfl (by decide)).step bz; clear bz; have f0 := (BB.out _ HD.below).1; have f1 := (BB.out _ HD.below).2))
  all_goals
    go_wp2
    go_ret
    exact ⟨by rw [HRR.out]; exact congrArg (fun x => Ending.returned (Value.string x)) (pk_join U1 T1 U2 T2 U3), HTR.out _ HD.below⟩
end Go.Proofs.YtfmkmjebkmimkaaGreatDoor

namespace Go.Proofs.YtfmkmjebkmimkaaGreatDoor
open Go.RowKit

set_option maxRecDepth 100000 in
theorem tab64_laid3 {x y : String × DataW Unit} {W : World} (h : laidMet Tryz.prog [x, ("math/bits.deBruijn64tab", Lib.tabData .u8 tab64L), y] W) : Tab64 W := by
  have hs : ((Tryz.prog.globalNamed "math/bits.deBruijn64tab").bind fun g => (Tryz.prog.globals[g]?).map (·.type)) = some 219 := by kernel_rfl
  obtain ⟨g, hg, hty⟩ := Option.bind_eq_some_iff.1 hs
  exact Lib.tabIs_of_head hg hty Tryz.underlying219 Tryz.underlying5 (by kernel_rfl) (by kernel_rfl) h.tail
set_option maxRecDepth 100000 in
theorem tab10_laid3 {x y : String × DataW Unit} {W : World} (h : laidMet Tryz.prog [x, y, ("internal/strconv.uint64pow10", Lib.tabData .u64 Lib.pow10Tab)] W) : Tab10 W := by
  have hs : ((Tryz.prog.globalNamed "internal/strconv.uint64pow10").bind fun g => (Tryz.prog.globals[g]?).map (·.type)) = some 232 := by kernel_rfl
  obtain ⟨g, hg, hty⟩ := Option.bind_eq_some_iff.1 hs
  exact Lib.tabIs_of_head hg hty Tryz.underlying232 Tryz.underlying134 (by kernel_rfl) (by kernel_rfl) h.tail.tail
theorem pkT_size (r : Reg) (ps : List (List Cell)) : (pkT r ps).size ≤ 9223372036854775807 := by
  unfold pkT
  split
  · have h1 := itoaB_size ((lgP r ps).length : Int) (by omega) (by have := lgP_len (r := r) (ps := ps); simp [nl] at this; omega)
    have h2 := itoaB_size (cntB (fbM r ps) : Int) (by omega) (by have := cntB_le (fbM r ps); omega)
    have h3 := itoaB_size (cvN r ps) (by have := cvN_bd r ps; omega) (by have := cvN_bd r ps; omega)
    have h4 := fmtTil_sz r (nl (lgP r ps))
    have h5 := fmtTil_sz r [(fbM r ps : Int)]
    unfold pkS
    simp only [ByteArray.size_append]
    show 5 + _ + 4 + _ + 7 + _ + 4 + _ + 7 + _ ≤ _
    omega
  · decide
set_option maxRecDepth 100000 in
set_option maxHeartbeats 8000000 in
theorem law_PackLine (vr : Value) (r : Reg) (vp : Value) (p : List (List Cell)) (w : World) (hr : RegRd w 0 w.heap.size vr r) (hp : CellSSRd w 0 w.heap.size vp p) (htab : Tab64 w) (ht10 : Tab10 w) :
    Calls Tryz.prog 3 #[vr, vp] w fun e w' => e = .returned (.bool true) ∧ Below w.heap.size w w' := by
  obtain ⟨sr, rfl, hsr⟩ := id hr
  have B : Below w.heap.size w (w.alloc (.cells #[.int .i64 r.w, sr] 24)) := ((Below.refl w.heap.size w).alloc (by first | exact Nat.le_refl _ | (simp; done) | (simp; omega)) _)
  have s0 : w.heap.size + 1 ≤ (w.alloc (.cells #[.int .i64 r.w, sr] 24)).heap.size := by simp
  have xr : BoxIn (w.alloc (.cells #[.int .i64 r.w, sr] 24)) w.heap.size (w.heap.size + 1) (w.heap.size) 24 #[.int .i64 r.w, sr] := ⟨by have := Blk.new w 24 #[.int .i64 r.w, sr]; simpa using this, by omega, by omega⟩
  have or := hr.keep (SameIn.of_below B (Nat.le_refl _))
  have op := hp.keep (SameIn.of_below B (Nat.le_refl _))
  by_cases q0 : 1048576 < (r.rows.length : Int)
  · skip
    go_enter Tryz.func3, Tryz.ntmps3
    go_wp2_with fail
    generalize (w.alloc (.cells #[.int .i64 r.w, sr] 24)) = W0 at *
    refine (szRegion_c _ _ (or.more (Nat.zero_le _) (by omega)) (by omega) (by omega)).mono ?_
    rintro e w1 ⟨rfl, b1⟩
    have s1 := b1.size
    replace xr := xr.keep (SameIn.of_below b1 (by omega))
    replace or := or.keep (SameIn.of_below b1 (by omega))
    replace op := op.keep (SameIn.of_below b1 (by omega))
    replace B := B.trans (b1.mono (by omega))
    clear b1
    rw [if_pos (by omega)]
    go_wp2
    go_ret
    exact ⟨rfl, B⟩
  by_cases q1 : 1048576 < (r.rows.length : Int) + (CellSS.tot p : Int)
  · skip
    go_enter Tryz.func3, Tryz.ntmps3
    go_wp2_with fail
    generalize (w.alloc (.cells #[.int .i64 r.w, sr] 24)) = W0 at *
    refine (szRegion_c _ _ (or.more (Nat.zero_le _) (by omega)) (by omega) (by omega)).mono ?_
    rintro e w1 ⟨rfl, b1⟩
    have s1 := b1.size
    replace xr := xr.keep (SameIn.of_below b1 (by omega))
    replace or := or.keep (SameIn.of_below b1 (by omega))
    replace op := op.keep (SameIn.of_below b1 (by omega))
    replace B := B.trans (b1.mono (by omega))
    clear b1
    rw [if_neg (by omega)]
    go_wp2_with fail
    refine (szCellSS_c _ _ (op.more (Nat.zero_le _) (by omega)) (by omega) (by omega)).mono ?_
    rintro e w2 ⟨rfl, rfl⟩
    rw [if_pos (by omega)]
    go_wp2
    go_ret
    exact ⟨rfl, B⟩
  go_enter Tryz.func3, Tryz.ntmps3
  go_wp2_with fail
  generalize (w.alloc (.cells #[.int .i64 r.w, sr] 24)) = W0 at *
  refine (szRegion_c _ _ (or.more (Nat.zero_le _) (by omega)) (by omega) (by omega)).mono ?_
  rintro e w1 ⟨rfl, b1⟩
  have s1 := b1.size
  replace xr := xr.keep (SameIn.of_below b1 (by omega))
  replace or := or.keep (SameIn.of_below b1 (by omega))
  replace op := op.keep (SameIn.of_below b1 (by omega))
  replace B := B.trans (b1.mono (by omega))
  clear b1
  rw [if_neg (by omega)]
  go_wp2_with fail
  refine (szCellSS_c _ _ (op.more (Nat.zero_le _) (by omega)) (by omega) (by omega)).mono ?_
  rintro e w2 ⟨rfl, rfl⟩
  rw [if_neg (by omega)]
  have yr0 : w1.cell? ⟨w.heap.size, 0, none⟩ = some (.int .i64 r.w) := (by first | exact xr.cell 0)
  have yr1 : w1.cell? ⟨w.heap.size, 1, none⟩ = some (sr) := (by first | exact xr.cell 1)
  go_wp2_with fail
  clear yr0 yr1
  refine (toRegion_c _ (or.more (Nat.zero_le _) (by omega)) (by omega)).mono ?_
  rintro e w3 ⟨usr, rfl, osr, b3⟩
  have s3 := b3.size
  replace xr := xr.keep (SameIn.of_below b3 (by omega))
  replace or := or.keep (SameIn.of_below b3 (by omega))
  replace op := op.keep (SameIn.of_below b3 (by omega))
  replace B := B.trans (b3.mono (by omega))
  clear b3
  go_wp2_with fail
  refine (toCellSS_c _ (op.more (Nat.zero_le _) (by omega)) (by omega)).mono ?_
  rintro e w4 ⟨usp, rfl, osp, b4⟩
  have s4 := b4.size
  replace xr := xr.keep (SameIn.of_below b4 (by omega))
  replace or := or.keep (SameIn.of_below b4 (by omega))
  replace op := op.keep (SameIn.of_below b4 (by omega))
  replace osr := osr.keep (SameIn.of_below b4 (by omega))
  replace B := B.trans (b4.mono (by omega))
  clear b4
  go_wp2_with fail
  refine (spec_pl_c _ (osr.rd.more (Nat.zero_le _) (by omega)) (osp.rd.more (Nat.zero_le _) (by omega)) (by omega) (CellSS.tot_le (l := p) (n := 1048576) (by omega)).1 (CellSS.tot_le (l := p) (n := 1048576) (by omega)).2).mono ?_
  rintro e w5 ⟨rfl, b5⟩
  have s5 := b5.size
  replace xr := xr.keep (SameIn.of_below b5 (by omega))
  replace or := or.keep (SameIn.of_below b5 (by omega))
  replace op := op.keep (SameIn.of_below b5 (by omega))
  replace osr := osr.keep (SameIn.of_below b5 (by omega))
  replace osp := osp.keep (SameIn.of_below b5 (by omega))
  replace B := B.trans (b5.mono (by omega))
  clear b5
  clear osr
  clear osp
  have yr0 : w5.cell? ⟨w.heap.size, 0, none⟩ = some (.int .i64 r.w) := (by first | exact xr.cell 0)
  have yr1 : w5.cell? ⟨w.heap.size, 1, none⟩ = some (sr) := (by first | exact xr.cell 1)
  go_wp2_with fail
  clear yr0 yr1
  refine (toRegion_c _ (or.more (Nat.zero_le _) (by omega)) (by omega)).mono ?_
  rintro e w6 ⟨uxr, rfl, oxr, b6⟩
  have s6 := b6.size
  replace xr := xr.keep (SameIn.of_below b6 (by omega))
  replace or := or.keep (SameIn.of_below b6 (by omega))
  replace op := op.keep (SameIn.of_below b6 (by omega))
  replace B := B.trans (b6.mono (by omega))
  clear b6
  obtain ⟨tuxr, rfl, guxr⟩ := id oxr
  obtain ⟨Auxr, cuxr, rfl, _, _⟩ := guxr.rd
  clear guxr
  have bb : Below w6.heap.size w6 (w6.alloc (.cells #[.int .i64 r.w, .slice Auxr r.rows.length cuxr] 29)) := (Below.refl _ _).alloc (Nat.le_refl _) _
  have s7 : w6.heap.size + 1 ≤ (w6.alloc (.cells #[.int .i64 r.w, .slice Auxr r.rows.length cuxr] 29)).heap.size := by simp
  replace xr := xr.keep (SameIn.of_below bb (by omega))
  replace or := or.keep (SameIn.of_below bb (by omega))
  replace op := op.keep (SameIn.of_below bb (by omega))
  replace oxr := oxr.keep (SameIn.of_below bb (by omega))
  replace B := B.trans (bb.mono (by omega))
  clear bb
  have xuxr : BoxIn (w6.alloc (.cells #[.int .i64 r.w, .slice Auxr r.rows.length cuxr] 29)) w6.heap.size (w6.heap.size + 1) w6.heap.size 29 #[.int .i64 r.w, .slice Auxr r.rows.length cuxr] := ⟨Blk.new _ _ _, Nat.le_refl _, Nat.lt_succ_self _⟩
  go_wp2_with fail
  generalize w6.alloc (.cells #[.int .i64 r.w, .slice Auxr r.rows.length cuxr] 29) = w7 at *
  refine (toCellSS_c _ (op.more (Nat.zero_le _) (by omega)) (by omega)).mono ?_
  rintro e w8 ⟨uxp, rfl, oxp, b8⟩
  have s8 := b8.size
  replace xr := xr.keep (SameIn.of_below b8 (by omega))
  replace or := or.keep (SameIn.of_below b8 (by omega))
  replace op := op.keep (SameIn.of_below b8 (by omega))
  replace oxr := oxr.keep (SameIn.of_below b8 (by omega))
  replace xuxr := xuxr.keep (SameIn.of_below b8 (by omega))
  replace B := B.trans (b8.mono (by omega))
  clear b8
  have yuxr0 : w8.cell? ⟨w6.heap.size, 0, none⟩ = some (.int .i64 r.w) := (by first | exact xuxr.cell 0)
  have yuxr1 : w8.cell? ⟨w6.heap.size, 1, none⟩ = some (.slice Auxr r.rows.length cuxr) := (by first | exact xuxr.cell 1)
  go_wp2_with fail
  clear yuxr0 yuxr1
  refine (impl_pl_c _ (oxr.rd.more (Nat.zero_le _) (by omega)) (oxp.rd.more (Nat.zero_le _) (by omega)) (by omega) (CellSS.tot_le (l := p) (n := 1048576) (by omega)).1 (CellSS.tot_le (l := p) (n := 1048576) (by omega)).2 (tab64_on htab B) (tab10_below ht10 B)).mono ?_
  rintro e w9 ⟨rfl, b9⟩
  have s9 := b9.size
  replace xr := xr.keep (SameIn.of_below b9 (by omega))
  replace or := or.keep (SameIn.of_below b9 (by omega))
  replace op := op.keep (SameIn.of_below b9 (by omega))
  replace oxr := oxr.keep (SameIn.of_below b9 (by omega))
  replace xuxr := xuxr.keep (SameIn.of_below b9 (by omega))
  replace oxp := oxp.keep (SameIn.of_below b9 (by omega))
  replace B := B.trans (b9.mono (by omega))
  clear b9
  have yuxr0 : w9.cell? ⟨w6.heap.size, 0, none⟩ = some (.int .i64 r.w) := (by first | exact xuxr.cell 0)
  have yuxr1 : w9.cell? ⟨w6.heap.size, 1, none⟩ = some (.slice Auxr r.rows.length cuxr) := (by first | exact xuxr.cell 1)
  have yr0 : w9.cell? ⟨w.heap.size, 0, none⟩ = some (.int .i64 r.w) := (by first | exact xr.cell 0)
  have yr1 : w9.cell? ⟨w.heap.size, 1, none⟩ = some (sr) := (by first | exact xr.cell 1)
  go_wp2_with fail
  go_region_held3 (fun w' => w'.cell? ⟨w6.heap.size, 0, none⟩ = some (.int .i64 r.w) ∧ w'.cell? ⟨w6.heap.size, 1, none⟩ = some (.slice Auxr r.rows.length cuxr) ∧ w'.cell? ⟨w.heap.size, 0, none⟩ = some (.int .i64 r.w) ∧ w'.cell? ⟨w.heap.size, 1, none⟩ = some (sr))
    (first | ((try dsimp only); refine ⟨?_, ?_, ?_, ?_⟩ <;> assumption) | go_keep)
    ((first | (go_at_call 10; (with_reducible refine (toRegion_c (v := (.agg #[.int .i64 r.w, sr])) (x := r) _ (by exact ((or.keep (SameIn.drew)).more (Nat.zero_le _) (le_drew (show w.heap.size ≤ w9.heap.size by omega)))) (by omega)).mono ?_); rintro e w10 ⟨utr, rfl, otr, b10⟩; replace b10 := below_undrew b10; have s10 := b10.size; replace xr := xr.keep (SameIn.of_below b10 (by omega)); replace or := or.keep (SameIn.of_below b10 (by omega)); replace op := op.keep (SameIn.of_below b10 (by omega)); replace oxr := oxr.keep (SameIn.of_below b10 (by omega)); replace xuxr := xuxr.keep (SameIn.of_below b10 (by omega)); replace oxp := oxp.keep (SameIn.of_below b10 (by omega)); replace B := B.trans (b10.mono (by omega)); clear b10; have yuxr0_10 : w10.cell? ⟨w6.heap.size, 0, none⟩ = some (.int .i64 r.w) := (by first | exact xuxr.cell 0); have yuxr1_10 : w10.cell? ⟨w6.heap.size, 1, none⟩ = some (.slice Auxr r.rows.length cuxr) := (by first | exact xuxr.cell 1); have yr0_10 : w10.cell? ⟨w.heap.size, 0, none⟩ = some (.int .i64 r.w) := (by first | exact xr.cell 0); have yr1_10 : w10.cell? ⟨w.heap.size, 1, none⟩ = some (sr) := (by first | exact xr.cell 1)) | (go_at_call 13; (with_reducible refine (eqRegion_c (x := r) _ (oxr.rd.more (Nat.zero_le _) (by omega)) (otr.rd.more (Nat.zero_le _) (by omega))).mono ?_); rintro e w11 ⟨rfl, b11⟩; have s11 := b11.size; replace xr := xr.keep (SameIn.of_below b11 (by omega)); replace or := or.keep (SameIn.of_below b11 (by omega)); replace op := op.keep (SameIn.of_below b11 (by omega)); replace oxr := oxr.keep (SameIn.of_below b11 (by omega)); replace xuxr := xuxr.keep (SameIn.of_below b11 (by omega)); replace oxp := oxp.keep (SameIn.of_below b11 (by omega)); replace otr := otr.keep (SameIn.of_below b11 (by omega)); replace B := B.trans (b11.mono (by omega)); clear b11; have yuxr0_11 : w11.cell? ⟨w6.heap.size, 0, none⟩ = some (.int .i64 r.w) := (by first | exact xuxr.cell 0); have yuxr1_11 : w11.cell? ⟨w6.heap.size, 1, none⟩ = some (.slice Auxr r.rows.length cuxr) := (by first | exact xuxr.cell 1); have yr0_11 : w11.cell? ⟨w.heap.size, 0, none⟩ = some (.int .i64 r.w) := (by first | exact xr.cell 0); have yr1_11 : w11.cell? ⟨w.heap.size, 1, none⟩ = some (sr) := (by first | exact xr.cell 1))))
  clear yuxr0_10 yuxr1_10 yr0_10 yr1_10 yuxr0_11 yuxr1_11 yr0_11 yr1_11
  clear yuxr0 yuxr1 yr0 yr1
  clear otr
  go_wp2_with fail
  refine (toCellSS_c _ (op.more (Nat.zero_le _) (by omega)) (by omega)).mono ?_
  rintro e w12 ⟨utp, rfl, otp, b12⟩
  have s12 := b12.size
  replace xr := xr.keep (SameIn.of_below b12 (by omega))
  replace or := or.keep (SameIn.of_below b12 (by omega))
  replace op := op.keep (SameIn.of_below b12 (by omega))
  replace oxr := oxr.keep (SameIn.of_below b12 (by omega))
  replace xuxr := xuxr.keep (SameIn.of_below b12 (by omega))
  replace oxp := oxp.keep (SameIn.of_below b12 (by omega))
  replace B := B.trans (b12.mono (by omega))
  clear b12
  go_wp2_with fail
  refine (eqCellSS_c _ (oxp.rd.more (Nat.zero_le _) (by omega)) (otp.rd.more (Nat.zero_le _) (by omega))).mono ?_
  rintro e w13 ⟨rfl, b13⟩
  have s13 := b13.size
  replace xr := xr.keep (SameIn.of_below b13 (by omega))
  replace or := or.keep (SameIn.of_below b13 (by omega))
  replace op := op.keep (SameIn.of_below b13 (by omega))
  replace oxr := oxr.keep (SameIn.of_below b13 (by omega))
  replace xuxr := xuxr.keep (SameIn.of_below b13 (by omega))
  replace oxp := oxp.keep (SameIn.of_below b13 (by omega))
  replace otp := otp.keep (SameIn.of_below b13 (by omega))
  replace B := B.trans (b13.mono (by omega))
  clear b13
  clear otp
  go_wp2
  go_ret
  exact ⟨rfl, B⟩

end Go.Proofs.YtfmkmjebkmimkaaGreatDoor
