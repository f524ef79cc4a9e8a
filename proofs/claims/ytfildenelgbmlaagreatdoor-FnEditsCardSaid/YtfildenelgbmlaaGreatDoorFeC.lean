
/-
  A tiling repaired, in plain Lean: what kept masks leave; masks in the order of their least bits. No program in sight. Masks in the order of their least bits: plain, and the reference's walk. What a repaired tiling is, plain: kept masks, then a tiling of the rest, in the order of their least bits. Whether a number is in a list: both walks. Masks put in the order of their least bits: the reference's walk. A tiling repaired: the reference's walk. Masks put in the order of their least bits: the program's closure, the library's sort over it. A tiling repaired: the program's walk. Is a list of masks a tiling? Plain: what both sides compute; the tilings of the search are tilings. Rows of numbers: reads, appends under a guard. IsTiling: both walks. A repaired tiling is a tiling, and keeps what was kept: plain. The cells without which there is a tiling: both walks. The cells without which there is a tiling: the reference's walk.
-/
import Derived.Test.YtfildenelgbmlaaGreatDoorPkPU
import Derived.Test.YtfildenelgbmlaaGreatDoorFtX
import Derived.Test.YtfildenelgbmlaaGreatDoorPlcSX
import Derived.Test.YtfildenelgbmlaaGreatDoorFtS
import Derived.Test.YtfildenelgbmlaaGreatDoorDivPX
import Derived.Test.YtfildenelgbmlaaGreatDoorRegData
import Derived.Test.YtfildenelgbmlaaGreatDoorSepX
import Derived.Test.YtfildenelgbmlaaGreatDoorCwWalks
import Derived.Deep.DeepCutAuto
import Derived.Test.YtfildenelgbmlaaGreatDoorShelf
import Derived.Shelf.GgSortFunc.Whole
import Derived.Lib.OwnBridge
import Derived.Deep.QuietTactic
import Derived.BigQuiet
import Derived.Test.YtfildenelgbmlaaGreatDoorTilP
import Derived.Test.YtfildenelgbmlaaGreatDoorRowX
import Derived.Test.YtfildenelgbmlaaGreatDoorPlcP
import Derived.Test.YtfildenelgbmlaaGreatDoorFlipX
import Derived.IntWalk
import Derived.Deep.RegionHeld3
import Derived.Test.YtfildenelgbmlaaGreatDoorCellX
namespace Go.Proofs.YtfildenelgbmlaaGreatDoor
open Go.RowKit

/-! what is left -/
theorem sub_free {M u m : Nat} (hM : M < 2 ^ 64) (hu : u &&& M = u) (hm : m &&& M = m) : m &&& (M - u) = m ↔ u &&& m = 0 := by
  constructor
  · intro h
    apply Nat.eq_of_testBit_eq
    intro i
    rw [Nat.testBit_and, Nat.zero_testBit]
    have h1 : (m.testBit i && (M - u).testBit i) = m.testBit i := by rw [← Nat.testBit_and, h]
    rw [sub_test hu hM] at h1
    revert h1
    cases u.testBit i <;> cases m.testBit i <;> cases M.testBit i <;> simp
  · intro h
    apply Nat.eq_of_testBit_eq
    intro i
    rw [Nat.testBit_and, sub_test hu hM]
    have h1 : (u.testBit i && m.testBit i) = false := by rw [← Nat.testBit_and, h, Nat.zero_testBit]
    have h2 : (m.testBit i && M.testBit i) = m.testBit i := by rw [← Nat.testBit_and, hm]
    revert h1 h2
    cases u.testBit i <;> cases m.testBit i <;> cases M.testBit i <;> simp
theorem or_sub {M u m : Nat} (hu : u &&& M = u) (hm : m &&& M = m) : (u ||| m) &&& M = u ||| m := by
  apply Nat.eq_of_testBit_eq
  intro i
  have h1 : (u.testBit i && M.testBit i) = u.testBit i := by rw [← Nat.testBit_and, hu]
  have h2 : (m.testBit i && M.testBit i) = m.testBit i := by rw [← Nat.testBit_and, hm]
  rw [Nat.testBit_and, Nat.testBit_or]
  revert h1 h2
  cases u.testBit i <;> cases m.testBit i <;> cases M.testBit i <;> simp
/-- the mask of what is kept, if it may be kept -/
def keptU (A : List Nat) : Nat → List Int → Option Nat
  | u, [] => some u
  | u, m :: l => if (0 ≤ m ∧ m.toNat ∈ A) ∧ u &&& m.toNat = 0 then keptU A (u ||| m.toNat) l else none
theorem keptU_snoc {A : List Nat} {m : Int} : ∀ {l : List Int} {u : Nat}, keptU A u (l ++ [m]) = (keptU A u l).bind fun u' => if (0 ≤ m ∧ m.toNat ∈ A) ∧ u' &&& m.toNat = 0 then some (u' ||| m.toNat) else none
  | [], u => by
    show keptU A u [m] = _
    simp only [keptU, Option.bind_some]
  | a :: l, u => by
    show keptU A u (a :: (l ++ [m])) = _
    unfold keptU
    split
    · exact keptU_snoc
    · rfl
theorem keptU_app {A : List Nat} : ∀ {l k : List Int} {u : Nat}, keptU A u l = none → keptU A u (l ++ k) = none
  | [], _, u, h => by cases h
  | a :: l, k, u, h => by
    show keptU A u (a :: (l ++ k)) = none
    unfold keptU at h ⊢
    split at h
    · rename_i hc; rw [if_pos hc]; exact keptU_app h
    · rename_i hc; rw [if_neg hc]
/-- what kept masks are, that may be kept -/
theorem keptU_some {A : List Nat} {M : Nat} (hA : ∀ m ∈ A, m &&& M = m ∧ 0 < m) : ∀ {l : List Int} {u u' : Nat}, u &&& M = u → keptU A u l = some u' → u' &&& M = u' ∧ u &&& u' = u ∧ (∀ a ∈ l, 0 ≤ a ∧ a.toNat ∈ A ∧ u &&& a.toNat = 0 ∧ a.toNat &&& u' = a.toNat) ∧ l.Pairwise fun a b => a.toNat &&& b.toNat = 0
  | [], u, u', hu, h => by injection h with h; subst h; exact ⟨hu, Nat.and_self _, fun a ha => absurd ha (by simp), List.Pairwise.nil⟩
  | m :: l, u, u', hu, h => by
    unfold keptU at h
    split at h
    · rename_i hc
      obtain ⟨⟨h0, hmA⟩, hum⟩ := hc
      obtain ⟨i1, i2, i3, i4⟩ := keptU_some hA (or_sub hu (hA _ hmA).1) h
      have k1 : u &&& u' = u := by
        apply Nat.eq_of_testBit_eq
        intro i
        have : ((u ||| m.toNat).testBit i && u'.testBit i) = (u ||| m.toNat).testBit i := by rw [← Nat.testBit_and, i2]
        rw [Nat.testBit_or] at this
        rw [Nat.testBit_and]
        revert this
        cases u.testBit i <;> cases m.toNat.testBit i <;> cases u'.testBit i <;> simp
      have k2 : m.toNat &&& u' = m.toNat := by
        apply Nat.eq_of_testBit_eq
        intro i
        have : ((u ||| m.toNat).testBit i && u'.testBit i) = (u ||| m.toNat).testBit i := by rw [← Nat.testBit_and, i2]
        rw [Nat.testBit_or] at this
        rw [Nat.testBit_and]
        revert this
        cases u.testBit i <;> cases m.toNat.testBit i <;> cases u'.testBit i <;> simp
      have k3 : ∀ a ∈ l, u &&& a.toNat = 0 ∧ m.toNat &&& a.toNat = 0 := fun a ha => by
        have h3 := (i3 a ha).2.2.1
        constructor
        · apply Nat.eq_of_testBit_eq
          intro i
          have : ((u ||| m.toNat).testBit i && a.toNat.testBit i) = false := by rw [← Nat.testBit_and, h3, Nat.zero_testBit]
          rw [Nat.testBit_or] at this
          rw [Nat.testBit_and, Nat.zero_testBit]
          revert this
          cases u.testBit i <;> cases m.toNat.testBit i <;> cases a.toNat.testBit i <;> simp
        · apply Nat.eq_of_testBit_eq
          intro i
          have : ((u ||| m.toNat).testBit i && a.toNat.testBit i) = false := by rw [← Nat.testBit_and, h3, Nat.zero_testBit]
          rw [Nat.testBit_or] at this
          rw [Nat.testBit_and, Nat.zero_testBit]
          revert this
          cases u.testBit i <;> cases m.toNat.testBit i <;> cases a.toNat.testBit i <;> simp
      refine ⟨i1, k1, fun a ha => ?_, List.pairwise_cons.2 ⟨fun a ha => (k3 a ha).2, i4⟩⟩
      rcases List.mem_cons.1 ha with rfl | ha
      · exact ⟨h0, hmA, hum, k2⟩
      · obtain ⟨j1, j2, _, j4⟩ := i3 a ha
        exact ⟨j1, j2, (k3 a ha).1, j4⟩
    · cases h
end Go.Proofs.YtfildenelgbmlaaGreatDoor

namespace Go.Proofs.YtfildenelgbmlaaGreatDoor
open Go.RowKit

def lowI (a : Int) : Nat := lowB a.toNat
def SrtL (l : List Int) : Prop := l.Pairwise fun a b => lowI a < lowI b
/-- no two have the same least bit -/
def DifL (l : List Int) : Prop := l.Pairwise fun a b => lowI a ≠ lowI b
def insL (x : Int) (l : List Int) : List Int := l.filter (fun d => decide (lowI d < lowI x)) ++ x :: l.filter (fun d => decide (lowI x < lowI d))
def srtL (L : List Int) : List Int := L.foldl (fun a x => insL x a) []
theorem filter_all {α : Type} {p : α → Bool} {l : List α} (h : ∀ a ∈ l, p a = true) : l.filter p = l := List.filter_eq_self.2 h
theorem filter_none {α : Type} {p : α → Bool} {l : List α} (h : ∀ a ∈ l, p a = false) : l.filter p = [] := List.filter_eq_nil_iff.2 fun a ha => by rw [h a ha]; exact Bool.false_ne_true
theorem insL_put {x : Int} {l : List Int} {k : Nat} (h1 : ∀ d ∈ l.take k, lowI d < lowI x) (h2 : ∀ d ∈ l.drop k, lowI x < lowI d) : insL x l = l.take k ++ x :: l.drop k := by
  unfold insL
  have e1 : l.filter (fun d => decide (lowI d < lowI x)) = l.take k := by
    conv => lhs; rw [← List.take_append_drop k l]
    rw [List.filter_append, filter_all (fun a ha => decide_eq_true (h1 a ha)), filter_none (fun a ha => decide_eq_false (by have := h2 a ha; omega)), List.append_nil]
  have e2 : l.filter (fun d => decide (lowI x < lowI d)) = l.drop k := by
    conv => lhs; rw [← List.take_append_drop k l]
    rw [List.filter_append, filter_none (fun a ha => decide_eq_false (by have := h1 a ha; omega)), filter_all (fun a ha => decide_eq_true (h2 a ha)), List.nil_append]
  rw [e1, e2]
theorem mem_insL {x d : Int} {l : List Int} (h : ∀ a ∈ l, lowI a ≠ lowI x) : d ∈ insL x l ↔ d = x ∨ d ∈ l := by
  unfold insL
  rw [List.mem_append, List.mem_cons, List.mem_filter, List.mem_filter, decide_eq_true_iff, decide_eq_true_iff]
  constructor
  · rintro (h | h | h)
    · exact .inr h.1
    · exact .inl h
    · exact .inr h.1
  · rintro (h1 | h1)
    · exact .inr (.inl h1)
    · have := h d h1
      rcases Nat.lt_or_gt_of_ne this with h2 | h2
      · exact .inl ⟨h1, h2⟩
      · exact .inr (.inr ⟨h1, h2⟩)
theorem srt_insL {x : Int} {l : List Int} (h : SrtL l) : SrtL (insL x l) := by
  unfold insL SrtL
  rw [List.pairwise_append, List.pairwise_cons]
  refine ⟨h.filter _, ⟨fun d hd => of_decide_eq_true (List.mem_filter.1 hd).2, h.filter _⟩, fun a ha b hb => ?_⟩
  have h1 : lowI a < lowI x := of_decide_eq_true (List.mem_filter.1 ha).2
  rcases List.mem_cons.1 hb with rfl | hb
  · exact h1
  · have : lowI x < lowI b := of_decide_eq_true (List.mem_filter.1 hb).2
    omega
theorem srtL_snoc {L : List Int} {x : Int} : srtL (L ++ [x]) = insL x (srtL L) := by simp [srtL]
theorem srt_srtL (L : List Int) : ∀ a : List Int, SrtL a → SrtL (L.foldl (fun a x => insL x a) a) := by
  induction L with
  | nil => intro a h; exact h
  | cons x L ih => intro a h; exact ih _ (srt_insL h)
theorem mem_foldL (L : List Int) : ∀ a : List Int, DifL (a ++ L) → ∀ d, d ∈ L.foldl (fun a x => insL x a) a ↔ d ∈ a ∨ d ∈ L := by
  induction L with
  | nil => intro a _ d; simp
  | cons x L ih =>
    intro a h d
    have h0 : ∀ b ∈ a, lowI b ≠ lowI x := fun b hb => (List.pairwise_append.1 h).2.2 b hb x List.mem_cons_self
    have hd : DifL (insL x a ++ L) := by
      unfold DifL at h ⊢
      rw [List.pairwise_append] at h ⊢
      obtain ⟨p1, p2, p3⟩ := h
      rw [List.pairwise_cons] at p2
      refine ⟨?_, p2.2, fun b hb c hc => ?_⟩
      · unfold insL
        rw [List.pairwise_append, List.pairwise_cons]
        refine ⟨p1.filter _, ⟨fun d hd => ?_, p1.filter _⟩, fun b hb c hc => ?_⟩
        · have : lowI x < lowI d := of_decide_eq_true (List.mem_filter.1 hd).2
          omega
        · have h1 : lowI b < lowI x := of_decide_eq_true (List.mem_filter.1 hb).2
          rcases List.mem_cons.1 hc with rfl | hc
          · omega
          · have : lowI x < lowI c := of_decide_eq_true (List.mem_filter.1 hc).2
            omega
      · rcases (mem_insL h0).1 hb with rfl | hb
        · exact p2.1 c hc
        · exact p3 b hb c (List.mem_cons_of_mem _ hc)
    show d ∈ L.foldl (fun a x => insL x a) (insL x a) ↔ _
    rw [ih _ hd, mem_insL h0, List.mem_cons]
    constructor
    · rintro ((h | h) | h)
      · exact .inr (.inl h)
      · exact .inl h
      · exact .inr (.inr h)
    · rintro (h | h | h)
      · exact .inl (.inr h)
      · exact .inl (.inl h)
      · exact .inr h
theorem mem_srtL {L : List Int} (h : DifL L) {d : Int} : d ∈ srtL L ↔ d ∈ L := by
  unfold srtL
  rw [mem_foldL L [] (by rw [List.nil_append]; exact h)]
  simp
theorem srtL_srt (L : List Int) : SrtL (srtL L) := srt_srtL L [] List.Pairwise.nil
/-- a sorted list of the same numbers is this one -/
theorem srtL_is {L S : List Int} (h : DifL L) (hs : SrtL S) (hm : ∀ d, d ∈ S ↔ d ∈ L) : S = srtL L :=
  pw_ext (r := fun a b => lowI a < lowI b) (fun a h => Nat.lt_irrefl _ h) (fun a b h1 h2 => absurd h2 (Nat.lt_asymm h1)) hs (srtL_srt L) fun d => by rw [hm, mem_srtL h]
theorem insL_len {x : Int} {l : List Int} (h : ∀ a ∈ l, lowI a ≠ lowI x) : (insL x l).length = l.length + 1 := by
  unfold insL
  rw [List.length_append, List.length_cons]
  have : (l.filter fun d => decide (lowI d < lowI x)).length + (l.filter fun d => decide (lowI x < lowI d)).length = l.length := by
    induction l with
    | nil => rfl
    | cons a l ih =>
      have h1 := ih fun b hb => h b (List.mem_cons_of_mem _ hb)
      have h2 := h a List.mem_cons_self
      rw [List.filter_cons, List.filter_cons, List.length_cons]
      rcases Nat.lt_or_gt_of_ne h2 with h3 | h3
      · rw [if_pos (decide_eq_true h3), if_neg (by rw [decide_eq_false (by omega)]; exact Bool.false_ne_true), List.length_cons]; omega
      · rw [if_neg (by rw [decide_eq_false (by omega)]; exact Bool.false_ne_true), if_pos (decide_eq_true h3), List.length_cons]; omega
  omega
theorem srtL_len {L : List Int} (h : DifL L) (k : Nat) : (srtL (L.take k)).length = (L.take k).length := by
  induction k with
  | zero => rfl
  | succ k ih =>
    cases hk : L[k]? with
    | none =>
      rw [List.take_of_length_le (by have := List.getElem?_eq_none_iff.1 hk; omega)]
      rw [List.take_of_length_le (by have := List.getElem?_eq_none_iff.1 hk; omega)] at ih
      exact ih
    | some x =>
      have e : L.take (k + 1) = L.take k ++ [x] := by rw [List.take_add_one, hk]; rfl
      have hd : DifL (L.take k ++ [x]) := by rw [← e]; exact h.sublist (List.take_sublist _ _)
      have h0 : ∀ a ∈ srtL (L.take k), lowI a ≠ lowI x := fun a ha => by
        have := (mem_srtL ((List.pairwise_append.1 hd).1)).1 ha
        exact (List.pairwise_append.1 hd).2.2 a this x (by simp)
      rw [e, srtL_snoc, insL_len h0, ih, List.length_append]; rfl
end Go.Proofs.YtfildenelgbmlaaGreatDoor

namespace Go.Proofs.YtfildenelgbmlaaGreatDoor
open Go.RowKit

theorem sub_in {M u x : Nat} (hM : M < 2 ^ 64) (hu : u &&& M = u) (hx : x &&& (M - u) = x) : x &&& M = x ∧ u &&& x = 0 := by
  have h1 : x &&& M = x := by
    apply Nat.eq_of_testBit_eq
    intro i
    have h := congrArg (fun n => n.testBit i) hx
    simp only [Nat.testBit_and, sub_test hu hM] at h
    rw [Nat.testBit_and]
    revert h
    cases x.testBit i <;> cases M.testBit i <;> cases u.testBit i <;> simp
  exact ⟨h1, (sub_free hM hu h1).1 hx⟩
theorem til_in {A : List Nat} : ∀ (free : Nat), free < 2 ^ 36 → ∀ t ∈ til A free, (∀ m ∈ t, m ∈ A ∧ m &&& free = m ∧ 0 < m) ∧ t.Pairwise fun a b => a &&& b = 0 := by
  intro free
  induction free using Nat.strongRecOn with
  | _ free ih =>
    intro hf t ht
    by_cases h0 : free = 0
    · subst h0
      rw [til_zero] at ht
      simp at ht
      subst ht
      exact ⟨fun m hm => absurd hm (by simp), List.Pairwise.nil⟩
    · rw [til_pos h0] at ht
      obtain ⟨m, hm, ht⟩ := List.mem_flatMap.1 ht
      unfold tilAt at ht
      cases hfit : fitB free m
      · rw [hfit] at ht; simp at ht
      · rw [hfit] at ht
        simp at ht
        obtain ⟨t', ht', rfl⟩ := ht
        have h1 := ih (free - m) (fit_lt hfit) (by omega) t' ht'
        have h2 := fit_and hfit
        have h3 : ∀ x ∈ t', x &&& free = x ∧ m &&& x = 0 := fun x hx => sub_in (by omega) h2 (h1.1 x hx).2.1
        refine ⟨fun x hx => ?_, List.pairwise_cons.2 ⟨fun x hx => (h3 x hx).2, h1.2⟩⟩
        rcases List.mem_cons.1 hx with rfl | hx
        · exact ⟨hm, h2, Nat.pos_of_ne_zero (fitB_pos hfit)⟩
        · exact ⟨(h1.1 x hx).1, (h3 x hx).1, (h1.1 x hx).2.2⟩
theorem lowB_ne {a b : Nat} (ha : 0 < a) (ha2 : a < 2 ^ 36) (hb : 0 < b) (hb2 : b < 2 ^ 36) (h : a &&& b = 0) : lowB a ≠ lowB b := by
  intro e
  have h1 := (lowB_bits (by omega) ha2).1
  have h2 := (lowB_bits (by omega) hb2).1
  rw [e] at h1
  have h3 : (a &&& b).testBit (lowB b) = true := by rw [Nat.testBit_and, h1, h2]; rfl
  rw [h, Nat.zero_testBit] at h3
  cases h3
theorem ascL_len : ∀ (l : List Int) (lo : Nat), (l.Pairwise fun a b => lowI a < lowI b) → (∀ a ∈ l, lo ≤ lowI a ∧ lowI a < 64) → l.length ≤ 64 - lo
  | [], _, _, _ => Nat.zero_le _
  | a :: l, lo, h, hb => by
    rw [List.pairwise_cons] at h
    have h1 := ascL_len l (lowI a + 1) h.2 fun b hb' => ⟨h.1 b hb', (hb b (List.mem_cons_of_mem _ hb')).2⟩
    have h2 := hb a List.mem_cons_self
    rw [List.length_cons]
    omega
theorem difL_len {l : List Int} (h : DifL l) (hb : ∀ a ∈ l, 0 < a ∧ a.toNat < 2 ^ 36) : l.length ≤ 64 := by
  have h1 := srtL_len h l.length
  rw [List.take_length] at h1
  rw [← h1]
  exact ascL_len _ 0 (srtL_srt l) fun a ha => ⟨Nat.zero_le _, lowB_lt (hb a ((mem_srtL h).1 ha)).2⟩
def repO (A : List Nat) (M : Nat) (k : List Int) : Option (List Int) :=
  (keptU A 0 k).bind fun u => if ordB A (M - u) 0 = true then some (srtL (k ++ nl (ordR A (M - u) 0))) else none
def repX (r : Reg) (ps : List (List Cell)) (k : List Int) : Option (List Int) := if (r.valid && arePcs ps) = true then repO (allN r ps) r.mask k else none
def repL (r : Reg) (ps : List (List Cell)) (k : List Int) : List Int := (repX r ps k).getD []
def repB (r : Reg) (ps : List (List Cell)) (k : List Int) : Bool := (repX r ps k).isSome
theorem rep_bad {r : Reg} {ps : List (List Cell)} {k : List Int} (h : (r.valid && arePcs ps) = false) : repB r ps k = false ∧ repL r ps k = [] := by
  unfold repB repL repX
  rw [h]
  exact ⟨rfl, rfl⟩
theorem rep_out {r : Reg} {ps : List (List Cell)} {k : List Int} (h : keptU (allN r ps) 0 k = none) : repB r ps k = false ∧ repL r ps k = [] := by
  unfold repB repL repX repO
  rw [h]
  split <;> exact ⟨rfl, rfl⟩
theorem rep_no {r : Reg} {ps : List (List Cell)} {k : List Int} {u : Nat} (h : keptU (allN r ps) 0 k = some u) (ho : ordB (allN r ps) (r.mask - u) 0 = false) : repB r ps k = false ∧ repL r ps k = [] := by
  unfold repB repL repX repO
  rw [h]
  simp only [Option.bind_some, ho]
  split <;> exact ⟨rfl, rfl⟩
theorem rep_yes {r : Reg} {ps : List (List Cell)} {k : List Int} {u : Nat} (hv : (r.valid && arePcs ps) = true) (h : keptU (allN r ps) 0 k = some u) (ho : ordB (allN r ps) (r.mask - u) 0 = true) : repB r ps k = true ∧ repL r ps k = srtL (k ++ nl (ordR (allN r ps) (r.mask - u) 0)) := by
  unfold repB repL repX repO
  rw [h]
  simp only [Option.bind_some, ho, hv, if_true]
  exact ⟨rfl, rfl⟩
theorem mem_nl {t : List Nat} {a : Int} (h : a ∈ nl t) : ∃ m ∈ t, a = (m : Int) := by
  unfold nl at h
  obtain ⟨m, hm, rfl⟩ := List.mem_map.1 h
  exact ⟨m, hm, rfl⟩
theorem mem_nl_iff {A : List Nat} {x : Int} : x ∈ nl A ↔ 0 ≤ x ∧ x.toNat ∈ A := by
  constructor
  · intro h
    obtain ⟨m, hm, rfl⟩ := mem_nl h
    exact ⟨by omega, by simpa using hm⟩
  · rintro ⟨h1, h2⟩
    unfold nl
    exact List.mem_map.2 ⟨x.toNat, h2, by omega⟩
theorem keptU_go {A : List Nat} {k : List Int} {i u : Nat} {x : Int} (h : keptU A 0 (k.take i) = some u) (hx : k[i]? = some x) (hc : (0 ≤ x ∧ x.toNat ∈ A) ∧ u &&& x.toNat = 0) : keptU A 0 (k.take (i + 1)) = some (u ||| x.toNat) := by
  have e : k.take (i + 1) = k.take i ++ [x] := by rw [List.take_add_one, hx]; rfl
  rw [e, keptU_snoc, h]
  simp only [Option.bind_some, if_pos hc]
theorem keptU_stop {A : List Nat} {k : List Int} {i u : Nat} {x : Int} (h : keptU A 0 (k.take i) = some u) (hx : k[i]? = some x) (hn : ¬ ((0 ≤ x ∧ x.toNat ∈ A) ∧ u &&& x.toNat = 0)) : keptU A 0 k = none := by
  have e : k.take (i + 1) = k.take i ++ [x] := by rw [List.take_add_one, hx]; rfl
  rw [← List.take_append_drop (i + 1) k]
  refine keptU_app ?_
  rw [e, keptU_snoc, h]
  simp only [Option.bind_some, if_neg hn]
/-- what is free gets less by a kept mask -/
theorem free_go {M u m : Nat} (hM : M < 2 ^ 36) (hu : u &&& M = u) (hm : m &&& (M - u) = m) : M - (u ||| m) = M - u - m ∧ m ≤ M - u := by
  have h1 := sub_in (by omega) hu hm
  have h2 : m ≤ M - u := by rw [← hm]; exact Nat.and_le_right
  have h3 : u ≤ M := by rw [← hu]; exact Nat.and_le_right
  rw [or_add (by omega) (by omega) h1.2]
  omega
/-- what the parts of a repaired tiling are -/
theorem rep_parts {A : List Nat} {M u : Nat} {k : List Int} (hM : M < 2 ^ 36) (hA : ∀ m ∈ A, m &&& M = m ∧ 0 < m) (hk : keptU A 0 k = some u) :
    u &&& M = u ∧ DifL (k ++ nl (ordR A (M - u) 0)) ∧ ∀ a ∈ k ++ nl (ordR A (M - u) 0), 0 < a ∧ a.toNat < 2 ^ 36 := by
  obtain ⟨h1, _, h3, h4⟩ := keptU_some hA (Nat.zero_and _) hk
  have hlt : ∀ m ∈ A, m < 2 ^ 36 := fun m hm => by have := (hA m hm).1; rw [← this]; exact Nat.lt_of_le_of_lt Nat.and_le_right hM
  have hkp : ∀ a ∈ k, 0 < a ∧ a.toNat < 2 ^ 36 ∧ a.toNat &&& u = a.toNat ∧ a.toNat ∈ A := fun a ha => by
    obtain ⟨j1, j2, _, j4⟩ := h3 a ha
    have := (hA _ j2).2
    exact ⟨by omega, hlt _ j2, j4, j2⟩
  have hT : (∀ m ∈ ordR A (M - u) 0, m ∈ A ∧ m &&& (M - u) = m ∧ 0 < m) ∧ (ordR A (M - u) 0).Pairwise fun a b => a &&& b = 0 := by
    unfold ordR
    cases ht : (til A (M - u))[0]? with
    | none => exact ⟨fun m hm => absurd hm (by simp), List.Pairwise.nil⟩
    | some t => exact til_in (M - u) (by omega) t (List.mem_of_getElem? ht)
  generalize ordR A (M - u) 0 = T at hT ⊢
  have htp : ∀ m ∈ T, 0 < m ∧ m < 2 ^ 36 ∧ u &&& m = 0 := fun m hm => ⟨(hT.1 m hm).2.2, hlt _ (hT.1 m hm).1, (sub_in (by omega) h1 (hT.1 m hm).2.1).2⟩
  refine ⟨h1, ?_, fun a ha => ?_⟩
  · unfold DifL
    rw [List.pairwise_append]
    refine ⟨?_, ?_, ?_⟩
    · refine h4.imp_of_mem ?_
      intro a b ha hb h
      exact lowB_ne (by have := (hkp a ha).1; omega) (hkp a ha).2.1 (by have := (hkp b hb).1; omega) (hkp b hb).2.1 h
    · unfold nl
      rw [List.pairwise_map]
      refine hT.2.imp_of_mem ?_
      intro a b ha hb h
      exact lowB_ne (htp a ha).1 (htp a ha).2.1 (htp b hb).1 (htp b hb).2.1 h
    · intro a ha b hb
      obtain ⟨m, hm, rfl⟩ := mem_nl hb
      refine lowB_ne (by have := (hkp a ha).1; omega) (hkp a ha).2.1 (htp m hm).1 (htp m hm).2.1 ?_
      apply Nat.eq_of_testBit_eq
      intro i
      have e1 := congrArg (fun n => n.testBit i) (hkp a ha).2.2.1
      have e2 := congrArg (fun n => n.testBit i) (htp m hm).2.2
      simp only [Nat.testBit_and, Nat.zero_testBit] at e1 e2
      simp only [Nat.testBit_and, Nat.zero_testBit, Int.toNat_natCast]
      revert e1 e2
      cases a.toNat.testBit i <;> cases m.testBit i <;> cases u.testBit i <;> simp
  · rcases List.mem_append.1 ha with ha | ha
    · exact ⟨(hkp a ha).1, (hkp a ha).2.1⟩
    · obtain ⟨m, hm, rfl⟩ := mem_nl ha
      have := htp m hm
      exact ⟨by omega, by simpa using this.2.1⟩
end Go.Proofs.YtfildenelgbmlaaGreatDoor

namespace Go.Proofs.YtfildenelgbmlaaGreatDoor
open Go.RowKit

def hasI (l : List Int) (x : Int) : Bool := decide (x ∈ l)
set_option maxRecDepth 100000 in
set_option maxHeartbeats 800000 in
theorem spec_hasI_c {v : Value} {l : List Int} {x : Int} (w : World) (h : IntsRd w 0 w.heap.size v l) (hl : l.length ≤ 1048576) :
    Calls Tryz.prog 122 #[v, .int .i64 x] w fun e w' => e = .returned (.bool (hasI l x)) ∧ w = w' := by
  obtain ⟨A, c, rfl, hm, hr⟩ := h
  obtain ⟨n, hn⟩ : ∃ n, n = l.length := ⟨_, rfl⟩
  rw [← hn] at hl hr ⊢
  obtain ⟨R, hR⟩ : ∃ R, R = hasI l x := ⟨_, rfl⟩
  rw [← hR]
  have HN := Lib.hid hn
  have HR := Lib.hid hr
  have HRR := Lib.hid hR
  clear hn hr hR hm
  go_enter Tryz.func122, Tryz.ntmps122
  go_wp2
  go_loopw [5] (fun iv wx => ∃ i : Nat, i ≤ n ∧ iv = .int .i64 i ∧ Hid (∀ j < i, l[j]? ≠ some x) ∧ w = wx) (fun iv _ => n - (intOf iv).toNat)
  case atStart => exact ⟨0, Nat.zero_le _, rfl, Lib.hid (fun j hj => absurd hj (Nat.not_lt_zero _)), rfl⟩
  case round =>
    obtain ⟨i, hi, rfl, HK, rfl⟩ := hrel
    by_cases hlt : i < n
    · have hlti : (i : Int) < (n : Int) := by omega
      obtain ⟨y, hy⟩ : ∃ y, l[i]? = some y := ⟨l[i]'(by rw [← HN.out]; exact hlt), List.getElem?_eq_getElem _⟩
      obtain ⟨b, off, hA1, _, hb, hc⟩ := HR.out.2 (by omega)
      subst hA1
      have y1 := hc i (.int .i64 y) (by simp [ic, hy])
      have HY := Lib.hid hy
      clear hc hb hy
      by_cases he : y = x
      · have heq : (y == x) = true := by simpa using he
        obtain rfl : R = true := by rw [HRR.out, hasI]; exact decide_eq_true (by rw [← he]; exact List.mem_of_getElem? HY.out)
        clear he
        go_wp2
        go_ret
        exact ⟨rfl, rfl⟩
      · have heq : (y == x) = false := by simpa using he
        have HK2 : Hid (∀ j < i + 1, l[j]? ≠ some x) := Lib.hid fun j hj => by
          rcases Nat.lt_or_ge j i with h | h
          · exact HK.out j h
          · obtain rfl : j = i := by omega
            rw [HY.out]
            intro h
            injection h with h
            exact he h
        clear he
        go_wp2
        go_roundw
        case rel => exact ⟨i + 1, by omega, by go_num, HK2, trivial⟩
        case measure => simp [intOf]; omega
    · obtain rfl : i = n := by omega
      obtain rfl : R = false := by
        rw [HRR.out, hasI]
        refine decide_eq_false fun h => ?_
        obtain ⟨j, hj⟩ := List.getElem?_of_mem h
        exact HK.out j (by have := (List.getElem?_eq_some_iff.1 hj).1; rw [HN.out]; exact this) hj
      go_wp2
      go_ret
      exact ⟨rfl, rfl⟩
set_option maxRecDepth 100000 in
set_option maxHeartbeats 800000 in
theorem impl_hasI_c {v : Value} {l : List Int} {x : Int} (w : World) (h : IntsRd w 0 w.heap.size v l) (hl : l.length ≤ 1048576) :
    Calls Tryz.prog 115 #[v, .int .i64 x] w fun e w' => e = .returned (.bool (hasI l x)) ∧ w = w' := by
  obtain ⟨A, c, rfl, hm, hr⟩ := h
  obtain ⟨n, hn⟩ : ∃ n, n = l.length := ⟨_, rfl⟩
  rw [← hn] at hl hr ⊢
  obtain ⟨R, hR⟩ : ∃ R, R = hasI l x := ⟨_, rfl⟩
  rw [← hR]
  have HN := Lib.hid hn
  have HR := Lib.hid hr
  have HRR := Lib.hid hR
  clear hn hr hR hm
  go_enter Tryz.func115, Tryz.ntmps115
  go_wp2
  go_loopw [9] (fun iv wx => ∃ i : Nat, i ≤ n ∧ iv = .int .i64 i ∧ Hid (∀ j < i, l[j]? ≠ some x) ∧ w = wx) (fun iv _ => n - (intOf iv).toNat)
  case atStart => exact ⟨0, Nat.zero_le _, rfl, Lib.hid (fun j hj => absurd hj (Nat.not_lt_zero _)), rfl⟩
  case round =>
    obtain ⟨i, hi, rfl, HK, rfl⟩ := hrel
    by_cases hlt : i < n
    · have hlti : (i : Int) < (n : Int) := by omega
      obtain ⟨y, hy⟩ : ∃ y, l[i]? = some y := ⟨l[i]'(by rw [← HN.out]; exact hlt), List.getElem?_eq_getElem _⟩
      obtain ⟨b, off, hA1, _, hb, hc⟩ := HR.out.2 (by omega)
      subst hA1
      have y1 := hc i (.int .i64 y) (by simp [ic, hy])
      have HY := Lib.hid hy
      clear hc hb hy
      by_cases he : y = x
      · have heq : (y == x) = true := by simpa using he
        obtain rfl : R = true := by rw [HRR.out, hasI]; exact decide_eq_true (by rw [← he]; exact List.mem_of_getElem? HY.out)
        clear he
        go_wp2
        go_ret
        exact ⟨rfl, rfl⟩
      · have heq : (y == x) = false := by simpa using he
        have HK2 : Hid (∀ j < i + 1, l[j]? ≠ some x) := Lib.hid fun j hj => by
          rcases Nat.lt_or_ge j i with h | h
          · exact HK.out j h
          · obtain rfl : j = i := by omega
            rw [HY.out]
            intro h
            injection h with h
            exact he h
        clear he
        go_wp2
        go_roundw
        case rel => exact ⟨i + 1, by omega, by go_num, HK2, trivial⟩
        case measure => simp [intOf]; omega
    · obtain rfl : i = n := by omega
      obtain rfl : R = false := by
        rw [HRR.out, hasI]
        refine decide_eq_false fun h => ?_
        obtain ⟨j, hj⟩ := List.getElem?_of_mem h
        exact HK.out j (by have := (List.getElem?_eq_some_iff.1 hj).1; rw [HN.out]; exact this) hj
      go_wp2
      go_ret
      exact ⟨rfl, rfl⟩
end Go.Proofs.YtfildenelgbmlaaGreatDoor

namespace Go.Proofs.YtfildenelgbmlaaGreatDoor
open Go.RowKit

set_option maxRecDepth 100000 in
theorem spec_lowI_c {d : Int} (w : World) (h : 0 < d ∧ d.toNat < 2 ^ 36) :
    Calls Tryz.prog 167 #[.int .i64 d] w fun e w' => e = .returned (.int .i64 (lowI d)) ∧ w = w' := by
  obtain ⟨m, rfl⟩ := Int.eq_ofNat_of_zero_le (Int.le_of_lt h.1)
  have h1 := h.1
  exact spec_low_c w (by omega) (by simpa using h.2)
def SrtPost (l : List Int) (w0 : World) (e : Ending) (w' : World) : Prop :=
  ∃ g n c, e = .returned (.slice (some ⟨g, 0, none⟩) n c) ∧ n = (srtL l).length ∧ Sep w0 w' [Res.row (.slice (some ⟨g, 0, none⟩) n c) 3 1 n (ic (srtL l))]
theorem SrtPost.mk {l : List Int} {w0 w' : World} {g n c : Nat} (hn : n = l.length) (hd : DifL l) (H : Sep w0 w' [Res.row (.slice (some ⟨g, 0, none⟩) n c) 3 1 n (ic (srtL (l.take n)))]) : SrtPost l w0 (.returned (.slice (some ⟨g, 0, none⟩) n c)) w' := by
  subst hn
  have h1 := srtL_len hd l.length
  rw [List.take_length] at H h1
  exact ⟨g, _, c, rfl, h1.symm, H⟩
set_option maxRecDepth 100000 in
set_option maxHeartbeats 4000000 in
theorem spec_srt_c {v : Value} {B : List Int} (w0 : World) (h : IntsRd w0 0 w0.heap.size v B) (hd : DifL B) (hp : ∀ a ∈ B, 0 < a ∧ a.toNat < 2 ^ 36) (hl : B.length ≤ 1000000) :
    Calls Tryz.prog 124 #[v] w0 (SrtPost B w0) := by
  obtain ⟨i0, hi, hz0, hz1, hz2⟩ := info_parts infoInt7
  obtain ⟨A, cl, rfl, hm, hrl⟩ := h
  obtain ⟨N, hN⟩ : ∃ N, N = B.length := ⟨_, rfl⟩
  rw [← hN] at hm hrl hl ⊢
  have HNN := Lib.hid hN
  have HD := Lib.hid hd
  have HPP := Lib.hid hp
  have HRL := Lib.hid hrl
  have H0 := (Sep.start w0).rowBox 3 #[] 1 0 rfl (by decide)
  obtain ⟨L, hL⟩ : ∃ L : List Res, L = [] := ⟨_, rfl⟩
  rw [← hL] at H0
  have HL := Lib.hid hL
  clear hd hp hrl hN hL
  go_enter Tryz.func124, Tryz.ntmps124
  go_wp2
  go_loopw [3, 4] (fun ov iv wx => ∃ i g c : Nat, i ≤ N ∧ iv = .int .i64 i ∧ ov = .slice (some ⟨g, 0, none⟩) i c ∧ Sep w0 wx (Res.row (.slice (some ⟨g, 0, none⟩) i c) 3 1 i (ic (srtL (B.take i))) :: L)) (fun _ iv _ => N - (intOf iv).toNat)
  case atStart => exact ⟨0, _, _, Nat.zero_le _, rfl, rfl, H0⟩
  case round =>
    clear H0
    obtain ⟨n, g, c, hnN, rfl, rfl, H⟩ := hrel
    by_cases hlt : n < N
    · have hlti : (n : Int) < (N : Int) := by omega
      obtain ⟨x, hx⟩ : ∃ x, B[n]? = some x := ⟨B[n]'(by rw [← HNN.out]; exact hlt), List.getElem?_eq_getElem _⟩
      obtain ⟨l, hl⟩ : ∃ l, l = srtL (B.take n) := ⟨_, rfl⟩
      rw [← hl] at H
      have htk : B.take (n + 1) = B.take n ++ [x] := by rw [List.take_add_one, hx]; rfl
      have hdt : DifL (B.take n) := HD.out.sublist (List.take_sublist _ _)
      have hdx : DifL (B.take n ++ [x]) := by rw [← htk]; exact HD.out.sublist (List.take_sublist _ _)
      have HN : Hid (n = l.length) := Lib.hid (by rw [hl, srtL_len HD.out, List.length_take]; have := HNN.out; omega)
      have HSO : Hid (SrtL l) := Lib.hid (by rw [hl]; exact srtL_srt _)
      have HMB : Hid (∀ d ∈ l, 0 < d ∧ d.toNat < 2 ^ 36) := Lib.hid fun d hd => HPP.out d (List.mem_of_mem_take ((mem_srtL hdt).1 (by rw [← hl]; exact hd)))
      have HDX : Hid (∀ d ∈ l, lowI d ≠ lowI x) := Lib.hid fun d hd => (List.pairwise_append.1 hdx).2.2 d ((mem_srtL hdt).1 (by rw [← hl]; exact hd)) x (by simp)
      have HINS : Hid (insL x l = srtL (B.take (n + 1))) := Lib.hid (by rw [htk, srtL_snoc, hl])
      obtain ⟨bl, ol, hA1, _, hb, hc⟩ := HRL.out.2 (by omega)
      subst hA1
      have HBL := Lib.hid hb
      have HXL : Hid (w0.cell? ⟨bl, ol + n, none⟩ = some (.int .i64 x)) := Lib.hid (hc n (.int .i64 x) (by simp [ic, hx]))
      have HXP := Lib.hid (HPP.out x (List.mem_of_getElem? hx))
      obtain ⟨lx, hlx⟩ : ∃ lx, lx = lowI x := ⟨_, rfl⟩
      have HCX : Hid (∀ W, Calls Tryz.prog 167 #[.int .i64 x] W fun e w' => e = .returned (.int .i64 lx) ∧ W = w') := Lib.hid fun W => by rw [hlx]; exact spec_lowI_c W HXP.out
      have HLX := Lib.hid hlx
      clear hx hl htk hdt hdx hb hc hlx
      go_wp2
      go_loopw [5] (fun kv wx => ∃ k : Nat, k ≤ n ∧ kv = .int .i64 k ∧ Hid (∀ d ∈ l.drop k, lowI x < lowI d) ∧ Sep w0 wx (Res.row (.slice (some ⟨g, 0, none⟩) n c) 3 1 n (ic l) :: L)) (fun kv _ => (intOf kv).toNat)
      case atStart => exact ⟨n, Nat.le_refl _, rfl, Lib.hid (by rw [List.drop_of_length_le (by rw [← HN.out]; exact Nat.le_refl _)]; intro d hd; simp at hd), H⟩
      case round =>
        clear H
        obtain ⟨k, hkn, rfl, HK, H⟩ := hrel
        have hnc : n ≤ c ∧ c ≤ maxLen := by obtain ⟨_, cs, _, h1, h2, _⟩ := own_blk H.h0; exact ⟨h1, h2⟩
        obtain ⟨hnc, hcm⟩ := hnc
        have y1 := (H.below.cell (p := ⟨bl, ol + n, none⟩) HBL.out).trans HXL.out
        have l1 := Later.cell y1 (Nat.lt_of_lt_of_le HBL.out H.size)
        by_cases hk0 : 0 < k
        · have hdk : decide ((0 : Int) < (k : Int)) = true := by simp; omega
          obtain ⟨p, hp⟩ : ∃ p, p = k - 1 := ⟨_, rfl⟩
          have HP : Hid (p = k - 1) := Lib.hid hp
          have e1 : (k : Int) - 1 = (p : Int) := by omega
          have e2 : IntKind.i64.wrap ((k : Int) - 1) = (p : Int) := by rw [e1]; exact IntWalk.i64_in _ (by omega)
          have e3 : (p : Int) < (n : Int) := by omega
          have e4 : p < n := by omega
          obtain ⟨d, hd⟩ : ∃ d, l[p]? = some d := ⟨l[p]'(by rw [← HN.out]; exact e4), List.getElem?_eq_getElem _⟩
          have x1 := own_cell1 H.h0 hd
          rw [Nat.zero_add] at x1
          have l0 := Later.cell x1 (by obtain ⟨_, cs, hB, _⟩ := own_blk H.h0; exact Blk.lt hB)
          have HDD := Lib.hid hd
          obtain ⟨ld, hld⟩ : ∃ ld, ld = lowI d := ⟨_, rfl⟩
          have HLD := Lib.hid hld
          have HCD : Hid (∀ W, Calls Tryz.prog 167 #[.int .i64 d] W fun e w' => e = .returned (.int .i64 ld) ∧ W = w') := Lib.hid fun W => by rw [hld]; exact spec_lowI_c W (HMB.out d (List.mem_of_getElem? hd))
          have HDR : Hid (l.drop p = d :: l.drop k) := Lib.hid (by
            have h1 : l.drop p = l[p]'(by rw [← HN.out]; exact e4) :: l.drop (p + 1) := List.drop_eq_getElem_cons _
            rw [h1, show p + 1 = k by omega]
            congr 1
            have := List.getElem?_eq_getElem (l := l) (i := p) (by rw [← HN.out]; exact e4)
            rw [hd] at this
            injection this with this
            exact this.symm)
          clear hp hd hld
          by_cases hxd : lx < ld
          · have hdq : decide ((lx : Int) < (ld : Int)) = true := decide_eq_true (by omega)
            have HK2 : Hid (∀ d ∈ l.drop p, lowI x < lowI d) := Lib.hid (by
              intro d' hd'
              rw [HDR.out] at hd'
              rcases List.mem_cons.1 hd' with rfl | hd'
              · rw [← HLX.out, ← HLD.out]; exact hxd
              · exact HK.out d' hd')
            go_wp2_with fail
            refine wp_region_later (by kernel_rfl) (by kernel_rfl) ?_
            repeat (go_big_quiet_step (first | (go_at_call 167; with_reducible exact Later.same (HCX.out _)) | (go_at_call 167; with_reducible exact Later.same (HCD.out _))))
            refine wpQuiet_nil ?_
            intro w3 hw3
            obtain ⟨u3, hu3⟩ := hw3
            subst hu3
            have H3 := H.later u3
            clear l0 x1 l1 H y1
            generalize u3.w = w3 at *
            go_wp2
            go_roundw
            case rel => exact ⟨p, by omega, by go_num, HK2, H3⟩
            case measure => simp [intOf]; omega
          · have hdq : decide ((lx : Int) < (ld : Int)) = false := decide_eq_false (by omega)
            have HI : Hid (ic (insL x l) = (ic l).take k ++ .int .i64 x :: (ic l).drop k) := Lib.hid (by
              rw [insL_put (k := k) ?_ HK.out]
              · simp [ic, List.map_take, List.map_drop]
              · have hlt2 : lowI d < lowI x := by
                  have h1 := HDX.out d (List.mem_of_getElem? HDD.out)
                  rw [HLX.out, HLD.out] at hxd
                  omega
                have hs : SrtL (l.take p ++ l.drop p) := by rw [List.take_append_drop]; exact HSO.out
                intro d' hd'
                have hk1 : l.take k = l.take p ++ [d] := by
                  rw [show k = p + 1 by omega, List.take_add_one, HDD.out]; rfl
                rw [hk1] at hd'
                rcases List.mem_append.1 hd' with hd' | hd'
                · have h2 := (List.pairwise_append.1 hs).2.2 d' hd' d (by rw [HDR.out]; exact List.mem_cons_self)
                  exact Nat.lt_trans h2 hlt2
                · rw [List.mem_singleton.1 hd']; exact hlt2)
            go_wp2_with fail
            refine wp_region_later (by kernel_rfl) (by kernel_rfl) ?_
            repeat (go_big_quiet_step (first | (go_at_call 167; with_reducible exact Later.same (HCX.out _)) | (go_at_call 167; with_reducible exact Later.same (HCD.out _))))
            refine wpQuiet_nil ?_
            intro w3 hw3
            obtain ⟨u3, hu3⟩ := hw3
            subst hu3
            have H3 := H.later u3
            clear l0 x1 l1 H y1
            generalize u3.w = w3 at *
            have H := H3
            clear H3 e1 e2 e3 e4 hdk hdq
            go_wp2_with fail
            have t1 : (0 : Int) ≤ (k : Int) := by omega
            have t2 : (k : Int) ≤ (c : Int) := by omega
            have t3 : (k : Int) ≤ (n : Int) := by omega
            have t4 : (n : Int) ≤ (c : Int) := by omega
            have HONE1 : Hid (∀ u ∈ (ic l).take k, u.oneCell' = true) := Lib.hid fun u hu => ic_one u (List.mem_of_mem_take hu)
            have HONE2 : Hid (∀ u ∈ (ic l).drop k, u.oneCell' = true) := Lib.hid fun u hu => ic_one u (List.mem_of_mem_drop hu)
            have HA := (H.rowBox 3 #[] 1 0 rfl (by decide)).drew
            have HB := ((H.rowBox 3 #[] 1 0 rfl (by decide)).rowBox 3 #[.int .i64 x] 1 1 rfl (by decide)).g1.drew
            have HC1 := ((H.rowBox 3 #[.int .i64 x] 1 1 rfl (by decide)).rowBox 3 #[] 1 0 rfl (by decide)).drew
            have HT1 := own_take (k := k) HA.h1 hkn
            have HT2 := own_take (k := k) HB.h2 hkn
            have HT3 := own_take (k := k) HC1.h2 hkn
            rw [Nat.mul_one] at HT1 HT2 HT3
            have hvl : (ic l).length = n := by rw [ic_length]; exact HN.out.symm
            simp only [World.size_alloc] at HB HC1
            have z1 := (HA.below.cell (p := ⟨bl, ol + n, none⟩) HBL.out).trans HXL.out
            have z2 := (H.drew.below.cell (p := ⟨bl, ol + n, none⟩) HBL.out).trans HXL.out
            by_cases hkc : c = k
            ·
              have hnk : n - k = 0 := by omega
              have HDN : Hid ((ic l).drop k = []) := Lib.hid (List.drop_of_length_le (by omega))
              go_wp2_with fail
              go_region_law (first
                | (refine step_app rfl (.tmp 33) (.tmp 36) 31 (by rfl) 3 i0 _ 1 8 Tryz.underlying31 hi hz0 hz1 hz2 rfl (by decide) _ _ _ (by rfl) HA _ _ _ ((ic l).take k) (by rfl) HT1 HONE1.out (by unfold maxLen; omega) (by omega) ?_; intro v5 w5 H5; have z5 := (H5.below.cell (p := ⟨bl, ol + n, none⟩) HBL.out).trans HXL.out)
                | (refine step_app rfl (.tmp 33) (.tmp 36) 31 (by rfl) 3 i0 _ 1 8 Tryz.underlying31 hi hz0 hz1 hz2 rfl (by decide) _ _ _ (by rfl) HB _ _ _ ((ic l).take k) (by rfl) HT2 HONE1.out (by unfold maxLen; omega) (by omega) ?_; intro v5 w5 H5; have z5 := (H5.below.cell (p := ⟨bl, ol + n, none⟩) HBL.out).trans HXL.out)
                | (refine step_app rfl (.tmp 33) (.tmp 36) 31 (by rfl) 3 i0 _ 1 8 Tryz.underlying31 hi hz0 hz1 hz2 rfl (by decide) _ _ _ (by rfl) HC1 _ _ _ ((ic l).take k) (by rfl) HT3 HONE1.out (by unfold maxLen; omega) (by omega) ?_; intro v5 w5 H5; have z5 := (H5.below.cell (p := ⟨bl, ol + n, none⟩) HBL.out).trans HXL.out)
                | (refine step_app rfl (.tmp 37) (.tmp 42) 31 (by rfl) 3 i0 _ 1 8 Tryz.underlying31 hi hz0 hz1 hz2 rfl (by decide) _ _ _ (by rfl) (H5.alloc _) _ _ _ [.int .i64 x] (by rfl) (Rd.fresh w5 _ #[.int .i64 x] 1 1 rfl) oc1 (by unfold maxLen; omega) (by omega) ?_; intro v6 w6 H6)
                | (refine step_app rfl (.tmp 37) (.tmp 42) 31 (by rfl) 3 i0 _ 1 8 Tryz.underlying31 hi hz0 hz1 hz2 rfl (by decide) _ _ _ (by rfl) H5 _ _ _ [.int .i64 x] (by rfl) (own_take (k := 1) H5.h1 (Nat.le_refl _)) oc1 (by unfold maxLen; omega) (by omega) ?_; intro v6 w6 H6)
                | (refine step_app rfl (.tmp 43) (.tmp 46) 31 (by rfl) 3 i0 _ 1 8 Tryz.underlying31 hi hz0 hz1 hz2 rfl (by decide) _ _ _ (by rfl) H6 (lo := 0) (hi' := w6.heap.size) _ 0 _ [] (by rfl) ⟨rfl, fun h => absurd h (Nat.lt_irrefl 0)⟩ (by intro u hu; simp at hu) (by unfold maxLen; omega) (by omega) ?_; intro v7 w7 H7))
              all_goals
                have H8 : Sep w0 w7 (Res.row v7 3 1 (n + 1) ((ic l).take k ++ .int .i64 x :: (ic l).drop k) :: L) := by
                  replace H7 := by first | exact H7.drop2.drop2 | exact H7.drop2
                  first
                    | rw [show 0 + k + 1 + (n - k) = n + 1 by omega] at H7
                    | rw [show 0 + k + 1 + 0 = n + 1 by omega] at H7
                  rw [HDN.out]; have := H7; simp only [List.nil_append, List.append_nil] at this; exact this
                clear H5 H6 H7 HA HT1 HB HT2 HC1 HT3
                (rw [← HI.out, HINS.out] at H8; clear H; obtain ⟨g8, o8, c8, rfl, _, _, _⟩ := own_shape H8.h0 (Nat.succ_pos _); obtain ⟨rfl, _⟩ := own_blk H8.h0; go_wp2; go_roundw; (case rel => exact ⟨n + 1, g8, c8, by omega, by go_num, rfl, H8⟩); (case measure => simp [intOf]; omega))
            ·
              go_wp2_with fail
              go_region_law (first
                | (refine step_app rfl (.tmp 33) (.tmp 36) 31 (by rfl) 3 i0 _ 1 8 Tryz.underlying31 hi hz0 hz1 hz2 rfl (by decide) _ _ _ (by rfl) HA _ _ _ ((ic l).take k) (by rfl) HT1 HONE1.out (by unfold maxLen; omega) (by omega) ?_; intro v5 w5 H5; have z5 := (H5.below.cell (p := ⟨bl, ol + n, none⟩) HBL.out).trans HXL.out)
                | (refine step_app rfl (.tmp 33) (.tmp 36) 31 (by rfl) 3 i0 _ 1 8 Tryz.underlying31 hi hz0 hz1 hz2 rfl (by decide) _ _ _ (by rfl) HB _ _ _ ((ic l).take k) (by rfl) HT2 HONE1.out (by unfold maxLen; omega) (by omega) ?_; intro v5 w5 H5; have z5 := (H5.below.cell (p := ⟨bl, ol + n, none⟩) HBL.out).trans HXL.out)
                | (refine step_app rfl (.tmp 33) (.tmp 36) 31 (by rfl) 3 i0 _ 1 8 Tryz.underlying31 hi hz0 hz1 hz2 rfl (by decide) _ _ _ (by rfl) HC1 _ _ _ ((ic l).take k) (by rfl) HT3 HONE1.out (by unfold maxLen; omega) (by omega) ?_; intro v5 w5 H5; have z5 := (H5.below.cell (p := ⟨bl, ol + n, none⟩) HBL.out).trans HXL.out)
                | (refine step_app rfl (.tmp 37) (.tmp 42) 31 (by rfl) 3 i0 _ 1 8 Tryz.underlying31 hi hz0 hz1 hz2 rfl (by decide) _ _ _ (by rfl) (H5.alloc _) _ _ _ [.int .i64 x] (by rfl) (Rd.fresh w5 _ #[.int .i64 x] 1 1 rfl) oc1 (by unfold maxLen; omega) (by omega) ?_; intro v6 w6 H6)
                | (refine step_app rfl (.tmp 37) (.tmp 42) 31 (by rfl) 3 i0 _ 1 8 Tryz.underlying31 hi hz0 hz1 hz2 rfl (by decide) _ _ _ (by rfl) H5 _ _ _ [.int .i64 x] (by rfl) (own_take (k := 1) H5.h1 (Nat.le_refl _)) oc1 (by unfold maxLen; omega) (by omega) ?_; intro v6 w6 H6)
                | (refine step_app rfl (.tmp 43) (.tmp 46) 31 (by rfl) 3 i0 _ 1 8 Tryz.underlying31 hi hz0 hz1 hz2 rfl (by decide) _ _ _ (by rfl) H6 (lo := 0) (hi' := w6.heap.size) _ (n - k) _ ((ic l).drop k) (by rfl) (by have := Rd.drop (k := k) (own_take (k := n) (by first | exact H6.h1 | exact H6.h2) (Nat.le_refl _)); rw [Nat.mul_one, Nat.mul_one, List.take_of_length_le (by omega), Nat.zero_add] at this; exact this) HONE2.out (by unfold maxLen; omega) (by omega) ?_; intro v7 w7 H7))
              all_goals
                have H8 : Sep w0 w7 (Res.row v7 3 1 (n + 1) ((ic l).take k ++ .int .i64 x :: (ic l).drop k) :: L) := by
                  replace H7 := by first | exact H7.drop2.drop2 | exact H7.drop2
                  first
                    | rw [show 0 + k + 1 + (n - k) = n + 1 by omega] at H7
                    | rw [show 0 + k + 1 + 0 = n + 1 by omega] at H7
                  have := H7; simp only [List.nil_append, List.append_assoc, List.cons_append] at this; exact this
                clear H5 H6 H7 HA HT1 HB HT2 HC1 HT3
                (rw [← HI.out, HINS.out] at H8; clear H; obtain ⟨g8, o8, c8, rfl, _, _, _⟩ := own_shape H8.h0 (Nat.succ_pos _); obtain ⟨rfl, _⟩ := own_blk H8.h0; go_wp2; go_roundw; (case rel => exact ⟨n + 1, g8, c8, by omega, by go_num, rfl, H8⟩); (case measure => simp [intOf]; omega))
        · have hdk : decide ((0 : Int) < (k : Int)) = false := by simp; omega
          have HI : Hid (ic (insL x l) = (ic l).take k ++ .int .i64 x :: (ic l).drop k) := Lib.hid (by
            rw [insL_put (k := k) (by rw [show k = 0 by omega]; intro d hd; simp at hd) HK.out]
            simp [ic, List.map_take, List.map_drop])
          go_wp2_with fail
          refine wp_region_later (by kernel_rfl) (by kernel_rfl) ?_
          repeat (go_big_quiet_step (first | (go_at_call 167; with_reducible exact Later.same (HCX.out _)) | (go_at_call 167; with_reducible exact Later.same (HCD.out _))))
          refine wpQuiet_nil ?_
          intro w3 hw3
          obtain ⟨u3, hu3⟩ := hw3
          subst hu3
          have H3 := H.later u3
          clear  l1 H y1
          generalize u3.w = w3 at *
          have H := H3
          clear H3 hdk
          go_wp2_with fail
          have t1 : (0 : Int) ≤ (k : Int) := by omega
          have t2 : (k : Int) ≤ (c : Int) := by omega
          have t3 : (k : Int) ≤ (n : Int) := by omega
          have t4 : (n : Int) ≤ (c : Int) := by omega
          have HONE1 : Hid (∀ u ∈ (ic l).take k, u.oneCell' = true) := Lib.hid fun u hu => ic_one u (List.mem_of_mem_take hu)
          have HONE2 : Hid (∀ u ∈ (ic l).drop k, u.oneCell' = true) := Lib.hid fun u hu => ic_one u (List.mem_of_mem_drop hu)
          have HA := (H.rowBox 3 #[] 1 0 rfl (by decide)).drew
          have HB := ((H.rowBox 3 #[] 1 0 rfl (by decide)).rowBox 3 #[.int .i64 x] 1 1 rfl (by decide)).g1.drew
          have HC1 := ((H.rowBox 3 #[.int .i64 x] 1 1 rfl (by decide)).rowBox 3 #[] 1 0 rfl (by decide)).drew
          have HT1 := own_take (k := k) HA.h1 hkn
          have HT2 := own_take (k := k) HB.h2 hkn
          have HT3 := own_take (k := k) HC1.h2 hkn
          rw [Nat.mul_one] at HT1 HT2 HT3
          have hvl : (ic l).length = n := by rw [ic_length]; exact HN.out.symm
          simp only [World.size_alloc] at HB HC1
          have z1 := (HA.below.cell (p := ⟨bl, ol + n, none⟩) HBL.out).trans HXL.out
          have z2 := (H.drew.below.cell (p := ⟨bl, ol + n, none⟩) HBL.out).trans HXL.out
          by_cases hkc : c = k
          ·
            have hnk : n - k = 0 := by omega
            have HDN : Hid ((ic l).drop k = []) := Lib.hid (List.drop_of_length_le (by omega))
            go_wp2_with fail
            go_region_law (first
              | (refine step_app rfl (.tmp 33) (.tmp 36) 31 (by rfl) 3 i0 _ 1 8 Tryz.underlying31 hi hz0 hz1 hz2 rfl (by decide) _ _ _ (by rfl) HA _ _ _ ((ic l).take k) (by rfl) HT1 HONE1.out (by unfold maxLen; omega) (by omega) ?_; intro v5 w5 H5; have z5 := (H5.below.cell (p := ⟨bl, ol + n, none⟩) HBL.out).trans HXL.out)
              | (refine step_app rfl (.tmp 33) (.tmp 36) 31 (by rfl) 3 i0 _ 1 8 Tryz.underlying31 hi hz0 hz1 hz2 rfl (by decide) _ _ _ (by rfl) HB _ _ _ ((ic l).take k) (by rfl) HT2 HONE1.out (by unfold maxLen; omega) (by omega) ?_; intro v5 w5 H5; have z5 := (H5.below.cell (p := ⟨bl, ol + n, none⟩) HBL.out).trans HXL.out)
              | (refine step_app rfl (.tmp 33) (.tmp 36) 31 (by rfl) 3 i0 _ 1 8 Tryz.underlying31 hi hz0 hz1 hz2 rfl (by decide) _ _ _ (by rfl) HC1 _ _ _ ((ic l).take k) (by rfl) HT3 HONE1.out (by unfold maxLen; omega) (by omega) ?_; intro v5 w5 H5; have z5 := (H5.below.cell (p := ⟨bl, ol + n, none⟩) HBL.out).trans HXL.out)
              | (refine step_app rfl (.tmp 37) (.tmp 42) 31 (by rfl) 3 i0 _ 1 8 Tryz.underlying31 hi hz0 hz1 hz2 rfl (by decide) _ _ _ (by rfl) (H5.alloc _) _ _ _ [.int .i64 x] (by rfl) (Rd.fresh w5 _ #[.int .i64 x] 1 1 rfl) oc1 (by unfold maxLen; omega) (by omega) ?_; intro v6 w6 H6)
              | (refine step_app rfl (.tmp 37) (.tmp 42) 31 (by rfl) 3 i0 _ 1 8 Tryz.underlying31 hi hz0 hz1 hz2 rfl (by decide) _ _ _ (by rfl) H5 _ _ _ [.int .i64 x] (by rfl) (own_take (k := 1) H5.h1 (Nat.le_refl _)) oc1 (by unfold maxLen; omega) (by omega) ?_; intro v6 w6 H6)
              | (refine step_app rfl (.tmp 43) (.tmp 46) 31 (by rfl) 3 i0 _ 1 8 Tryz.underlying31 hi hz0 hz1 hz2 rfl (by decide) _ _ _ (by rfl) H6 (lo := 0) (hi' := w6.heap.size) _ 0 _ [] (by rfl) ⟨rfl, fun h => absurd h (Nat.lt_irrefl 0)⟩ (by intro u hu; simp at hu) (by unfold maxLen; omega) (by omega) ?_; intro v7 w7 H7))
            all_goals
              have H8 : Sep w0 w7 (Res.row v7 3 1 (n + 1) ((ic l).take k ++ .int .i64 x :: (ic l).drop k) :: L) := by
                replace H7 := by first | exact H7.drop2.drop2 | exact H7.drop2
                first
                  | rw [show 0 + k + 1 + (n - k) = n + 1 by omega] at H7
                  | rw [show 0 + k + 1 + 0 = n + 1 by omega] at H7
                rw [HDN.out]; have := H7; simp only [List.nil_append, List.append_nil] at this; exact this
              clear H5 H6 H7 HA HT1 HB HT2 HC1 HT3
              (rw [← HI.out, HINS.out] at H8; clear H; obtain ⟨g8, o8, c8, rfl, _, _, _⟩ := own_shape H8.h0 (Nat.succ_pos _); obtain ⟨rfl, _⟩ := own_blk H8.h0; go_wp2; go_roundw; (case rel => exact ⟨n + 1, g8, c8, by omega, by go_num, rfl, H8⟩); (case measure => simp [intOf]; omega))
          ·
            go_wp2_with fail
            go_region_law (first
              | (refine step_app rfl (.tmp 33) (.tmp 36) 31 (by rfl) 3 i0 _ 1 8 Tryz.underlying31 hi hz0 hz1 hz2 rfl (by decide) _ _ _ (by rfl) HA _ _ _ ((ic l).take k) (by rfl) HT1 HONE1.out (by unfold maxLen; omega) (by omega) ?_; intro v5 w5 H5; have z5 := (H5.below.cell (p := ⟨bl, ol + n, none⟩) HBL.out).trans HXL.out)
              | (refine step_app rfl (.tmp 33) (.tmp 36) 31 (by rfl) 3 i0 _ 1 8 Tryz.underlying31 hi hz0 hz1 hz2 rfl (by decide) _ _ _ (by rfl) HB _ _ _ ((ic l).take k) (by rfl) HT2 HONE1.out (by unfold maxLen; omega) (by omega) ?_; intro v5 w5 H5; have z5 := (H5.below.cell (p := ⟨bl, ol + n, none⟩) HBL.out).trans HXL.out)
              | (refine step_app rfl (.tmp 33) (.tmp 36) 31 (by rfl) 3 i0 _ 1 8 Tryz.underlying31 hi hz0 hz1 hz2 rfl (by decide) _ _ _ (by rfl) HC1 _ _ _ ((ic l).take k) (by rfl) HT3 HONE1.out (by unfold maxLen; omega) (by omega) ?_; intro v5 w5 H5; have z5 := (H5.below.cell (p := ⟨bl, ol + n, none⟩) HBL.out).trans HXL.out)
              | (refine step_app rfl (.tmp 37) (.tmp 42) 31 (by rfl) 3 i0 _ 1 8 Tryz.underlying31 hi hz0 hz1 hz2 rfl (by decide) _ _ _ (by rfl) (H5.alloc _) _ _ _ [.int .i64 x] (by rfl) (Rd.fresh w5 _ #[.int .i64 x] 1 1 rfl) oc1 (by unfold maxLen; omega) (by omega) ?_; intro v6 w6 H6)
              | (refine step_app rfl (.tmp 37) (.tmp 42) 31 (by rfl) 3 i0 _ 1 8 Tryz.underlying31 hi hz0 hz1 hz2 rfl (by decide) _ _ _ (by rfl) H5 _ _ _ [.int .i64 x] (by rfl) (own_take (k := 1) H5.h1 (Nat.le_refl _)) oc1 (by unfold maxLen; omega) (by omega) ?_; intro v6 w6 H6)
              | (refine step_app rfl (.tmp 43) (.tmp 46) 31 (by rfl) 3 i0 _ 1 8 Tryz.underlying31 hi hz0 hz1 hz2 rfl (by decide) _ _ _ (by rfl) H6 (lo := 0) (hi' := w6.heap.size) _ (n - k) _ ((ic l).drop k) (by rfl) (by have := Rd.drop (k := k) (own_take (k := n) (by first | exact H6.h1 | exact H6.h2) (Nat.le_refl _)); rw [Nat.mul_one, Nat.mul_one, List.take_of_length_le (by omega), Nat.zero_add] at this; exact this) HONE2.out (by unfold maxLen; omega) (by omega) ?_; intro v7 w7 H7))
            all_goals
              have H8 : Sep w0 w7 (Res.row v7 3 1 (n + 1) ((ic l).take k ++ .int .i64 x :: (ic l).drop k) :: L) := by
                replace H7 := by first | exact H7.drop2.drop2 | exact H7.drop2
                first
                  | rw [show 0 + k + 1 + (n - k) = n + 1 by omega] at H7
                  | rw [show 0 + k + 1 + 0 = n + 1 by omega] at H7
                have := H7; simp only [List.nil_append, List.append_assoc, List.cons_append] at this; exact this
              clear H5 H6 H7 HA HT1 HB HT2 HC1 HT3
              (rw [← HI.out, HINS.out] at H8; clear H; obtain ⟨g8, o8, c8, rfl, _, _, _⟩ := own_shape H8.h0 (Nat.succ_pos _); obtain ⟨rfl, _⟩ := own_blk H8.h0; go_wp2; go_roundw; (case rel => exact ⟨n + 1, g8, c8, by omega, by go_num, rfl, H8⟩); (case measure => simp [intOf]; omega))
    · obtain rfl : n = N := by omega
      go_wp2
      go_ret
      exact SrtPost.mk HNN.out HD.out (HL.out ▸ H)
end Go.Proofs.YtfildenelgbmlaaGreatDoor

namespace Go.Proofs.YtfildenelgbmlaaGreatDoor
open Go.RowKit

set_option maxRecDepth 100000 in
set_option maxHeartbeats 4000000 in
theorem spec_repair_c {v v2 v3 : Value} {r : Reg} {ps : List (List Cell)} {k : List Int} (w : World) (h : RegRd w 0 w.heap.size v r) (h2 : CellSSRd w 0 w.heap.size v2 ps) (h3 : IntsRd w 0 w.heap.size v3 k) (hn : ps.length ≤ 1048576) (hl : ∀ s ∈ ps, s.length ≤ 1048576) (hkl : k.length ≤ 1048576) :
    Calls Tryz.prog 47 #[v, v2, v3] w fun e w' => ∃ v', e = .returned (.tuple #[v', .bool (repB r ps k)]) ∧ IntsIn w' w.heap.size w'.heap.size v' (repL r ps k) ∧ Below w.heap.size w w' := by
  obtain ⟨i0, hi, hz0, hz1, hz2⟩ := info_parts infoInt7
  have HRD : Hid (∀ w1, Below w.heap.size w w1 → RegRd w1 0 w1.heap.size v r) := Lib.hid fun w1 b1 => (h.keep (SameIn.of_below b1 (Nat.le_refl _))).more (Nat.le_refl _) b1.size
  have HR2 : Hid (∀ w1, Below w.heap.size w w1 → CellSSRd w1 0 w1.heap.size v2 ps) := Lib.hid fun w1 b1 => (h2.keep (SameIn.of_below b1 (Nat.le_refl _))).more (Nat.le_refl _) b1.size
  have HAR : Hid (∀ w1, Below w.heap.size w w1 → Calls Tryz.prog 120 #[v2] w1 fun e w' => e = .returned (.bool (arePcs ps)) ∧ Below w1.heap.size w1 w') := Lib.hid fun w1 b1 =>
    spec_arePcs_c w1 (HR2.out w1 b1) hn hl
  obtain ⟨RB, hRB⟩ : ∃ b, b = repB r ps k := ⟨_, rfl⟩
  obtain ⟨RL, hRL⟩ : ∃ b, b = repL r ps k := ⟨_, rfl⟩
  rw [← hRB, ← hRL]
  have HB := Lib.hid hRB
  have HL := Lib.hid hRL
  obtain ⟨sr, rfl, hsr⟩ := h
  obtain ⟨A, c, rfl, _, _⟩ := hsr
  obtain ⟨vs, ⟨A2, c2, rfl, _, _⟩, _⟩ := h2
  obtain ⟨A3, c3, rfl, hm3, hr3⟩ := h3
  obtain ⟨n3, hn3⟩ : ∃ n, n = k.length := ⟨_, rfl⟩
  rw [← hn3] at hm3 hr3 hkl ⊢
  have HN3 := Lib.hid hn3
  have HR3 := Lib.hid hr3
  have H0 := (Sep.start w).box 36 #[.int .i64 r.w, .slice A r.rows.length c]
  obtain ⟨bR, hbR⟩ : ∃ bR, bR = w.heap.size := ⟨_, rfl⟩
  rw [← hbR] at H0
  clear hRB hRL hn hl hr3 hn3
  go_enter Tryz.func47, Tryz.ntmps47
  go_upto_region 1 with fail
  rw [← hbR]
  generalize (w.alloc (.cells #[.int .i64 r.w, .slice A r.rows.length c] 36)) = W at *
  clear hbR
  have c0 : W.cell? ⟨bR, 0, none⟩ = some (.int .i64 r.w) := H0.h0.cell 0
  have c1 : W.cell? ⟨bR, 1, none⟩ = some (.slice A r.rows.length c) := H0.h0.cell 1
  have HP := Lib.hid (spec_IsRegion_c W (HRD.out W H0.below))
  go_wp2_with fail
  refine (HP.out).mono ?_
  rintro e w1 ⟨rfl, b1⟩
  have H1 := H0.step b1
  clear H0 b1 HP c0 c1
  cases hv : r.valid
  · have h1 := rep_bad (r := r) (ps := ps) (k := k) (by rw [hv]; rfl)
    obtain rfl : RB = false := by rw [HB.out]; exact h1.1
    obtain rfl : RL = [] := by rw [HL.out]; exact h1.2
    clear hv h1
    have HZ := H1.rowBox 3 #[] 1 0 rfl (by decide)
    go_wp2
    refine bodyPost_ret (results_tmp2 rfl _ _ _) rfl ?_
    exact ⟨_, rfl, HZ.oi, HZ.below⟩
  have HVV := Lib.hid hv
  have HP2 := Lib.hid (HAR.out w1 H1.below)
  clear hv HAR
  go_wp2_with fail
  refine (HP2.out).mono ?_
  rintro e w2 ⟨rfl, b2⟩
  replace H1 := H1.step b2
  clear HP2 b2
  cases hp : arePcs ps
  · have h1 := rep_bad (r := r) (ps := ps) (k := k) (by rw [hp, Bool.and_false])
    obtain rfl : RB = false := by rw [HB.out]; exact h1.1
    obtain rfl : RL = [] := by rw [HL.out]; exact h1.2
    clear hp h1
    have HZ := H1.rowBox 3 #[] 1 0 rfl (by decide)
    go_wp2
    refine bodyPost_ret (results_tmp2 rfl _ _ _) rfl ?_
    exact ⟨_, rfl, HZ.oi, HZ.below⟩
  have HOK : Hid ((r.valid && arePcs ps) = true) := Lib.hid (by rw [hp, HVV.out]; rfl)
  have HV := Lib.hid (Reg.valid_iff.1 HVV.out)
  have HAP := Lib.hid hp
  have HALL := Lib.hid (spec_all_c w2 (HRD.out w2 H1.below) (HR2.out w2 H1.below) HV.out HAP.out)
  have c0 : w2.cell? ⟨bR, 0, none⟩ = some (.int .i64 r.w) := H1.h0.cell 0
  have c1 : w2.cell? ⟨bR, 1, none⟩ = some (.slice A r.rows.length c) := H1.h0.cell 1
  clear hp
  go_wp2_with fail
  refine (HALL.out).mono ?_
  rintro e w3 ⟨av, rfl, o3, b3⟩
  have H2 := H1.oiNew b3 o3
  clear c0 c1 H1 HALL b3
  have c0 : w3.cell? ⟨bR, 0, none⟩ = some (.int .i64 r.w) := H2.h1.cell 0
  have c1 : w3.cell? ⟨bR, 1, none⟩ = some (.slice A r.rows.length c) := H2.h1.cell 1
  have HMSK := Lib.hid (spec_mask_c w3 (HRD.out w3 H2.below) HV.out)
  obtain ⟨Aq, cq, rfl, _, _⟩ := o3.rd
  clear o3
  go_wp2_with fail
  refine (HMSK.out).mono ?_
  rintro e w4 ⟨rfl, b4⟩
  have H3 := H2.step b4
  clear H2 b4 HMSK c0 c1
  obtain ⟨M, hM⟩ : ∃ M, M = r.mask := ⟨_, rfl⟩
  obtain ⟨Q, hQ⟩ : ∃ Q, Q = allN r ps := ⟨_, rfl⟩
  have hQ2 : allP r ps = nl Q := by rw [hQ, nl_allN HV.out]
  rw [hQ2] at H3 ⊢
  rw [← hM]
  have hM36 : M < 68719476736 := by rw [hM]; have := Reg.mask_lt HV.out; omega
  have HQA : Hid (∀ m ∈ Q, m &&& M = m ∧ 0 < m) := Lib.hid (by rw [hQ, hM]; exact allN_sub HV.out HAP.out)
  have HQL : Hid (∀ m ∈ Q, m < 2 ^ 36) := Lib.hid (by rw [hQ]; exact allN_lt HV.out)
  have HQN : Hid ((nl Q).length ≤ 1048576) := Lib.hid (by
    rw [← hQ2]
    have := allP_len HV.out (ps := ps)
    have := arePcs_on HAP.out
    omega)
  have HOUT : Hid (keptU Q 0 k = none → repB r ps k = false ∧ repL r ps k = []) := Lib.hid fun h => rep_out (by rw [← hQ]; exact h)
  have HNO : Hid (∀ u, keptU Q 0 k = some u → ordB Q (M - u) 0 = false → repB r ps k = false ∧ repL r ps k = []) := Lib.hid fun u h1 h2 => rep_no (u := u) (by rw [← hQ]; exact h1) (by rw [← hQ, ← hM]; exact h2)
  have HYES : Hid (∀ u, keptU Q 0 k = some u → ordB Q (M - u) 0 = true → repB r ps k = true ∧ repL r ps k = srtL (k ++ nl (ordR Q (M - u) 0))) := Lib.hid fun u h1 h2 => by
    have := rep_yes (u := u) HOK.out (by rw [← hQ]; exact h1) (by rw [← hQ, ← hM]; exact h2)
    rw [← hQ, ← hM] at this
    exact this
  obtain ⟨nq, hnq⟩ : ∃ nq, nq = (nl Q).length := ⟨_, rfl⟩
  rw [← hnq] at H3 HQN ⊢
  have HNQ := Lib.hid hnq
  clear hM hQ hQ2 hnq
  go_wp2
  go_loopw [9, 10] (fun fv iv wx => ∃ i u f : Nat, i ≤ n3 ∧ iv = .int .i64 i ∧ fv = .int .i64 f ∧ Hid (f = M - u) ∧ Hid (keptU Q 0 (k.take i) = some u) ∧ Sep w wx [Res.row (.slice Aq nq cq) 3 1 nq (ic (nl Q)), Res.box bR 36 #[.int .i64 r.w, .slice A r.rows.length c]]) (fun _ iv _ => n3 - (intOf iv).toNat)
  case atStart => exact ⟨0, 0, M, Nat.zero_le _, rfl, rfl, Lib.hid rfl, Lib.hid rfl, H3⟩
  case round =>
    clear H3
    obtain ⟨i, u, f, hi3, rfl, rfl, HF, HU, H⟩ := hrel
    have hf36 : f < 68719476736 := by have := HF.out; omega
    have HUM : Hid (u &&& M = u) := Lib.hid (keptU_some HQA.out (Nat.zero_and _) HU.out).1
    by_cases hlt : i < n3
    · have hlti : (i : Int) < (n3 : Int) := by omega
      obtain ⟨x, hx⟩ : ∃ x, k[i]? = some x := ⟨k[i]'(by rw [← HN3.out]; exact hlt), List.getElem?_eq_getElem _⟩
      obtain ⟨b, off, hA1, _, hb, hc⟩ := HR3.out.2 (by omega)
      subst hA1
      have x1 : w.cell? ⟨b, off + i, none⟩ = some (.int .i64 x) := hc i (.int .i64 x) (by simp [ic, hx])
      have y1 := (H.below.cell (p := ⟨b, off + i, none⟩) hb).trans x1
      have l1 := Later.cell y1 (Nat.lt_of_lt_of_le hb H.size)
      have HX := Lib.hid hx
      obtain ⟨hb0, hhb0⟩ : ∃ hb0, hb0 = hasI (nl Q) x := ⟨_, rfl⟩
      have hqr : IntsRd wr 0 wr.heap.size (.slice Aq nq cq) (nl Q) := by unfold IntsRd; rw [← HNQ.out]; exact H.oi.sr.more (Nat.zero_le _) (Nat.le_refl _)
      have HHAS : Hid (∀ u : Later wr, Calls Tryz.prog 122 #[.slice Aq nq cq, .int .i64 x] u.w fun e w' => e = .returned (.bool hb0) ∧ u.w = w') := Lib.hid fun u => by
        rw [hhb0]
        exact spec_hasI_c u.w (Later.ints hqr) (by rw [← HNQ.out]; exact HQN.out)
      have HX1 := Lib.hid x1
      have HBK := Lib.hid hb
      clear hqr hc hx x1 hb
      cases hb0
      · have h1 := HOUT.out (keptU_stop HU.out HX.out (by
          rintro ⟨h1, _⟩
          have := mem_nl_iff.2 h1
          unfold hasI at hhb0
          exact of_decide_eq_false hhb0.symm this))
        obtain rfl : RB = false := by rw [HB.out]; exact h1.1
        obtain rfl : RL = [] := by rw [HL.out]; exact h1.2
        clear h1 hhb0
        go_wp2_with fail
        refine wp_region_later (by kernel_rfl) (by kernel_rfl) ?_
        repeat (go_big_quiet_step ((go_at_call 122; with_reducible exact Later.same (HHAS.out _))))
        refine wpQuiet_nil ?_
        intro w5 hw5
        obtain ⟨u5, hu5⟩ := hw5
        subst hu5
        have H5 := H.later u5
        clear l1 H HHAS y1
        generalize u5.w = w5 at *
        have HZ := H5.rowBox 3 #[] 1 0 rfl (by decide)
        go_wp2
        refine bodyPost_ret (results_tmp2 rfl _ _ _) rfl ?_
        exact ⟨_, rfl, HZ.oi, HZ.below⟩
      · have hxm := mem_nl_iff.1 (show x ∈ nl Q by unfold hasI at hhb0; exact of_decide_eq_true hhb0.symm)
        obtain ⟨m, rfl⟩ := Int.eq_ofNat_of_zero_le hxm.1
        have hmQ : m ∈ Q := by simpa using hxm.2
        have hm36 := HQL.out m hmQ
        have hand := i64_and_nat m f (by omega) (by omega)
        have HMQ := Lib.hid hmQ
        clear hxm hmQ hhb0
        by_cases hsub : m &&& f = m
        · have hne : (bits .and .i64 (m : Int) (f : Int) != (m : Int)) = false := by rw [hand, hsub]; simp
          have hsub2 : m &&& (M - u) = m := by rw [← HF.out]; exact hsub
          have hg := free_go (by omega) HUM.out hsub2
          have HU2 : Hid (keptU Q 0 (k.take (i + 1)) = some (u ||| m)) := Lib.hid (by
            have := keptU_go HU.out HX.out ⟨⟨by omega, by simpa using HMQ.out⟩, by simpa using (sub_in (by omega) HUM.out hsub2).2⟩
            simpa using this)
          obtain ⟨f2, hf2⟩ : ∃ f2, f2 = f - m := ⟨_, rfl⟩
          have HF2 : Hid (f2 = M - (u ||| m)) := Lib.hid (by rw [hf2, hg.1, HF.out])
          have e1 : (f : Int) - (m : Int) = (f2 : Int) := by have := HF.out; omega
          have e2 : IntKind.i64.wrap ((f : Int) - (m : Int)) = (f2 : Int) := by rw [e1]; exact IntWalk.i64_in _ (by omega)
          clear hsub hsub2 hg hf2 hand
          go_wp2_with fail
          refine wp_region_later (by kernel_rfl) (by kernel_rfl) ?_
          repeat (go_big_quiet_step ((go_at_call 122; with_reducible exact Later.same (HHAS.out _))))
          refine wpQuiet_nil ?_
          intro w5 hw5
          obtain ⟨u5, hu5⟩ := hw5
          subst hu5
          have H5 := H.later u5
          clear l1 H HHAS y1
          generalize u5.w = w5 at *
          have y1 : w5.cell? ⟨b, off + i, none⟩ = some (.int .i64 m) := (H5.below.cell (p := ⟨b, off + i, none⟩) HBK.out).trans HX1.out
          go_wp2
          go_roundw
          case rel => exact ⟨i + 1, u ||| m, f2, by omega, by go_num, rfl, HF2, HU2, H5⟩
          case measure => simp [intOf]; omega
        · have hne : (bits .and .i64 (m : Int) (f : Int) != (m : Int)) = true := by
            rw [hand]
            simp only [bne_iff_ne, ne_eq]
            omega
          have h1 := HOUT.out (keptU_stop HU.out HX.out (by
            rintro ⟨⟨_, h1⟩, h2⟩
            have h3 : m ∈ Q := HMQ.out
            refine hsub ?_
            rw [HF.out]
            exact (sub_free (by omega) HUM.out (HQA.out m h3).1).2 (by simpa using h2)))
          obtain rfl : RB = false := by rw [HB.out]; exact h1.1
          obtain rfl : RL = [] := by rw [HL.out]; exact h1.2
          clear h1 hsub hand
          go_wp2_with fail
          refine wp_region_later (by kernel_rfl) (by kernel_rfl) ?_
          repeat (go_big_quiet_step ((go_at_call 122; with_reducible exact Later.same (HHAS.out _))))
          refine wpQuiet_nil ?_
          intro w5 hw5
          obtain ⟨u5, hu5⟩ := hw5
          subst hu5
          have H5 := H.later u5
          clear l1 H HHAS y1
          generalize u5.w = w5 at *
          have HZ := H5.rowBox 3 #[] 1 0 rfl (by decide)
          go_wp2
          refine bodyPost_ret (results_tmp2 rfl _ _ _) rfl ?_
          exact ⟨_, rfl, HZ.oi, HZ.below⟩
    · obtain rfl : i = n3 := by omega
      have HU2 : Hid (keptU Q 0 k = some u) := Lib.hid (by have := HU.out; rw [HN3.out, List.take_length] at this; exact this)
      obtain ⟨RT, hRT⟩ : ∃ RT, RT = nl (ordR Q f 0) := ⟨_, rfl⟩
      obtain ⟨OB, hOB⟩ : ∃ OB, OB = ordB Q f 0 := ⟨_, rfl⟩
      have hM1 : srcM Q f 1 = if OB = true then [RT] else [] := by rw [srcM_one, hRT, hOB]
      have HS := Lib.hid (srch_c (v := .slice Aq nq cq) HQL.out f hf36 1 wr (by unfold IntsRd; rw [← HNQ.out]; exact H.oi.sr.more (Nat.zero_le _) (Nat.le_refl _)) (Nat.le_refl _) (by omega))
      unfold SrchPost at HS
      rw [hM1] at HS
      have hparts := rep_parts (by omega) HQA.out HU2.out
      rw [← HF.out, ← hRT] at hparts
      have HDF := Lib.hid hparts.2.1
      have HPS := Lib.hid hparts.2.2
      have HNO2 : Hid (OB = false → repB r ps k = false ∧ repL r ps k = []) := Lib.hid fun h => HNO.out u HU2.out (by rw [← HF.out, ← hOB, h])
      have HYES2 : Hid (OB = true → repB r ps k = true ∧ repL r ps k = srtL (k ++ RT)) := Lib.hid fun h => by
        have := HYES.out u HU2.out (by rw [← HF.out, ← hOB, h])
        rw [← HF.out, ← hRT] at this
        exact this
      clear hRT hOB hM1 hparts
      go_wp2_with fail
      refine (HS.out).mono ?_
      rintro e w5 ⟨g6, n6, c6, vs6, rfl, hn6, H6⟩
      have hbel : Below w.heap.size w w5 := H.below.trans (H6.below.mono H.size)
      have HBEL := Lib.hid hbel
      clear HS H
      cases OB
      · have h1 := HNO2.out rfl
        obtain rfl : RB = false := by rw [HB.out]; exact h1.1
        obtain rfl : RL = [] := by rw [HL.out]; exact h1.2
        obtain rfl : n6 = 0 := hn6
        have HZ := (Sep.start w5).rowBox 3 #[] 1 0 rfl (by decide)
        clear h1 H6
        go_wp2
        refine bodyPost_ret (results_tmp2 rfl _ _ _) rfl ?_
        exact ⟨_, rfl, OI.base HZ.oi hbel.size (Nat.le_refl _), hbel.trans (HZ.below.mono hbel.size)⟩
      · have h1 := HYES2.out rfl
        obtain rfl : RB = true := by rw [HB.out]; exact h1.1
        have HRL : Hid (RL = srtL (k ++ RT)) := Lib.hid (by rw [HL.out]; exact h1.2)
        obtain rfl : n6 = 1 := hn6
        have hvl : vs6.length = 1 := RowsAt.len H6.h1
        obtain ⟨t, rfl⟩ : ∃ t, vs6 = [t] := by
          match vs6, hvl with
          | [t], _ => exact ⟨t, rfl⟩
        have x0 : w5.cell? ⟨g6, 0, none⟩ = some t := by have := own_cell H6.h0 (j := 0) (u := t) rfl; rwa [Nat.zero_add] at this
        have hg6 : g6 < w5.heap.size := by obtain ⟨_, cs, hB, _⟩ := own_blk H6.h0; exact Blk.lt hB
        have ho := H6.drop.rowsOi (i := 0) rfl rfl
        obtain ⟨At, ct, rfl, _, _, hrt⟩ := ho.rd
        obtain ⟨nt, hnt⟩ : ∃ nt, nt = RT.length := ⟨_, rfl⟩
        rw [← hnt] at hrt x0
        have HNT := Lib.hid hnt
        have hnt64 : i + nt ≤ 64 := by
          have := difL_len HDF.out HPS.out
          rw [List.length_append, ← HN3.out, ← hnt] at this
          exact this
        have HRT := Lib.hid hrt
        have HG6 := Lib.hid hg6
        have HX0 := Lib.hid x0
        have HA := ((Sep.start w5).rowBox 3 #[] 1 0 rfl (by decide)).drew
        have hk1 : Rd (w5.alloc (.cells #[] 3)).drew 0 w.heap.size 1 A3 i (ic k) := HR3.out.below (hbel.trans (HA.below.mono hbel.size)) (Nat.le_refl _)
        have HSRT : Hid (∀ (w7 : World) (v6 : Value), Sep w5 w7 [Res.row v6 3 1 (0 + i + nt) ([] ++ ic k ++ ic RT)] → Calls Tryz.prog 124 #[v6] w7 fun e w' => ∃ g n c, e = .returned (.slice (some ⟨g, 0, none⟩) n c) ∧ IntsIn w' w.heap.size w'.heap.size (.slice (some ⟨g, 0, none⟩) n c) RL ∧ Below w7.heap.size w7 w') := Lib.hid fun w7 v6 H => by
          have hrd : IntsRd w7 0 w7.heap.size v6 (k ++ RT) := by
            unfold IntsRd
            rw [List.length_append, ← HN3.out, ← hnt, ic_append]
            have := H.oi.sr.more (lo' := 0) (hi' := w7.heap.size) (Nat.zero_le _) (Nat.le_refl _)
            rw [Nat.zero_add, List.nil_append] at this
            exact this
          refine (spec_srt_c w7 hrd HDF.out HPS.out (by rw [List.length_append, ← HN3.out, ← hnt]; omega)).mono ?_
          rintro e w8 ⟨g, n, c, rfl, hn, H8⟩
          refine ⟨g, n, c, rfl, ?_, H8.below⟩
          unfold IntsIn
          rw [HRL.out, ← hn]
          exact OI.base H8.oi (Nat.le_trans hbel.size H.size) (Nat.le_refl _)
        clear h1 H6 ho hvl hrt hnt hg6
        go_wp2_with fail
        go_region_held3 (fun w' => w'.cell? ⟨g6, 0, none⟩ = some (.slice At nt ct))
          (first
            | go_keep
            | exact (H8.below.cell (p := ⟨g6, 0, none⟩) HG6.out).trans HX0.out
            | exact (H6.below.cell (p := ⟨g6, 0, none⟩) HG6.out).trans HX0.out
            | exact (H5.below.cell (p := ⟨g6, 0, none⟩) HG6.out).trans HX0.out)
          (first
            | (refine step_app rfl (.tmp 66) (.tmp 67) 31 (by rfl) 3 i0 _ 1 8 Tryz.underlying31 hi hz0 hz1 hz2 rfl (by decide) _ _ _ (by rfl) HA _ _ _ (ic k) (by rfl) hk1 ic_one (by unfold maxLen; omega) (by omega) ?_; intro v5 w6 H5)
            | (refine step_app rfl (.tmp 68) (.tmp 71) 31 (by rfl) 3 i0 _ 1 8 Tryz.underlying31 hi hz0 hz1 hz2 rfl (by decide) _ _ _ (by rfl) H5 _ _ _ (ic RT) (by rfl) (HRT.out.below H5.below (Nat.le_refl _)) ic_one (by unfold maxLen; omega) (by omega) ?_; intro v6 w7 H6)
            | (go_at_call 124; (refine (HSRT.out _ _ H6).mono ?_); rintro e w8 ⟨g8, n8, c8, rfl, o8, b8⟩; have H8 := H6.step b8))
        go_wp2
        refine bodyPost_ret (results_tmp2 rfl _ _ _) rfl ?_
        exact ⟨_, rfl, o8, HBEL.out.trans (H8.below.mono HBEL.out.size)⟩
end Go.Proofs.YtfildenelgbmlaaGreatDoor

namespace Go.Proofs.YtfildenelgbmlaaGreatDoor
open Go.RowKit

abbrev M36 := {m : Nat // m < 68719476736}
instance : Inhabited M36 := ⟨⟨0, by decide⟩⟩
def encM (x : M36) : Value := .int .i64 (x.1 : Int)
def ltM (x y : M36) : Bool := decide (lowB x.1 < lowB y.1)
theorem swo_ltM : Sort.SWO ltM where
  irrefl x := by simp [ltM]
  trans x y z h1 h2 := by simp [ltM] at *; omega
  ntrans x y z h1 h2 := by simp [ltM] at *; omega
set_option maxRecDepth 100000 in
theorem low_any (m : Nat) (w : World) (hm : m < 68719476736) (ht : Tab64 w) (q : Nat) : Calls Tryz.prog 100 #[.int .i64 m] (w.drewN q) fun e w' => e = .returned (.int .i64 (lowB m)) ∧ w' = w.drewN q :=
  (impl_low_c (w.drewN q) hm (tab64_on ht (below_drewN (Below.refl _ _) q))).mono fun _ _ ⟨h1, h2⟩ => ⟨h1, h2.symm⟩
set_option maxRecDepth 100000 in
set_option maxHeartbeats 1600000 in
theorem repLess_c {Bs g n c i j : Nat} {X Y : M36} (w : World) (hs : w.cell? ⟨Bs, 0, none⟩ = some (.slice (some ⟨g, 0, none⟩) n c)) (hX : w.cell? ⟨g, i, none⟩ = some (encM X)) (hY : w.cell? ⟨g, j, none⟩ = some (encM Y)) (hi : i < n) (hj : j < n) (ht : Tab64 w) :
    Calls Tryz.prog 119 #[.int .i64 i, .int .i64 j, .pointer (some ⟨Bs, 0, none⟩)] w fun e w' => e = .returned (.bool (ltM X Y)) ∧ ∃ q, w' = w.drewN q := by
  obtain ⟨x, hx⟩ := X
  obtain ⟨y, hy⟩ := Y
  unfold encM at hX hY
  simp only at hX hY
  have HX := Lib.hid (low_any x w hx ht)
  have HY := Lib.hid (low_any y w hy ht)
  have h1 : (i : Int) < (n : Int) := by omega
  have h2 : (j : Int) < (n : Int) := by omega
  have hlt : ltM ⟨x, hx⟩ ⟨y, hy⟩ = decide (((lowB x : Nat) : Int) < ((lowB y : Nat) : Int)) := by unfold ltM; rw [Bool.eq_iff_iff]; simp
  rw [hlt]
  clear hlt
  generalize lowB x = lx at *
  generalize lowB y = ly at *
  go_enter Tryz.func119, Tryz.ntmps119
  go_wp2_with fail
  go_quiet ((first | (go_at_call 100; with_reducible exact Calls.quiet_of_same (HX.out _)) | (go_at_call 100; with_reducible exact Calls.quiet_of_same (HY.out _))))
  go_wp2
  go_ret
  exact ⟨by simp, nq, rfl⟩

def toM (a : Int) : M36 := if h : a.toNat < 68719476736 then ⟨a.toNat, h⟩ else default
theorem encM_toM {a : Int} (h : 0 < a ∧ a.toNat < 2 ^ 36) : encM (toM a) = .int .i64 a := by
  have h2 : a.toNat < 68719476736 := h.2
  unfold toM encM
  rw [dif_pos h2]
  have : ((a.toNat : Nat) : Int) = a := by omega
  simp only [this]
theorem ic_toM {l : List Int} (h : ∀ a ∈ l, 0 < a ∧ a.toNat < 2 ^ 36) : ic l = (l.map toM).map encM := by
  unfold ic
  rw [List.map_map]
  exact List.map_congr_left fun a ha => (encM_toM (h a ha)).symm
def ofM (x : M36) : Int := (x.1 : Int)
theorem ofM_toM {l : List Int} (h : ∀ a ∈ l, 0 < a ∧ a.toNat < 2 ^ 36) : (l.map toM).map ofM = l := by
  rw [List.map_map]
  conv => rhs; rw [← List.map_id l]
  refine List.map_congr_left fun a ha => ?_
  have h2 : a.toNat < 68719476736 := (h a ha).2
  have h1 := (h a ha).1
  show ofM (toM a) = a
  unfold toM ofM
  rw [dif_pos h2]
  show ((a.toNat : Nat) : Int) = a
  omega
theorem map_encM (l : List M36) : l.map encM = ic (l.map ofM) := by unfold ic; rw [List.map_map]; rfl
/-- sorted and a permutation: the list in the order of its least bits -/
theorem sorted_srt {l : List Int} {d' : Array M36} (hd : DifL l) (hb : ∀ a ∈ l, 0 < a ∧ a.toNat < 2 ^ 36) (hp : Sort.PermIn 0 (l.map toM).toArray.size (l.map toM).toArray d') (hs : Sort.SortedIn ltM 0 (l.map toM).toArray.size d') :
    d'.toList.map ofM = srtL l ∧ d'.size = l.length := by
  obtain ⟨h1, _, h3⟩ := hp
  have hsz : d'.size = l.length := by rw [h1]; simp
  have h4 : d'.toList.Perm (l.map toM) := by
    have e1 : (d'.extract 0 (l.map toM).toArray.size) = d' := by rw [← h1]; simp
    have e2 : ((l.map toM).toArray.extract 0 (l.map toM).toArray.size) = (l.map toM).toArray := by simp; exact List.take_of_length_le (by simp)
    rw [e1, e2] at h3
    simpa using h3
  have h5 : (d'.toList.map ofM).Perm l := by
    have := h4.map ofM
    rwa [ofM_toM hb] at this
  have h6 : DifL (d'.toList.map ofM) := by
    unfold DifL
    exact (h5.pairwise_iff (fun {a b} h => Ne.symm h)).2 hd
  refine ⟨srtL_is hd ?_ fun x => h5.mem_iff, hsz⟩
  unfold SrtL
  unfold DifL at h6
  rw [List.pairwise_map] at h6 ⊢
  rw [List.pairwise_iff_getElem] at h6 ⊢
  intro i j hi hj hij
  have k1 := h6 i j hi hj hij
  have k2 := hs i j (Nat.zero_le _) hij (by rw [← h1]; simpa using hj)
  have hj2 : j < d'.size := by simpa using hj
  have hi2 : i < d'.size := by simpa using hi
  rw [getElem!_pos d' j hj2, getElem!_pos d' i hi2] at k2
  unfold ltM at k2
  have k3 := of_decide_eq_false k2
  have e1 : ∀ x : M36, lowI (ofM x) = lowB x.1 := fun x => by unfold lowI ofM; simp
  rw [e1, e1] at k1 ⊢
  simp only [Array.getElem_toList] at k1 ⊢
  omega
theorem srtL_tiny {l : List Int} (h : l.length ≤ 1) : srtL l = l := by
  match l, h with
  | [], _ => rfl
  | [a], _ => rfl
noncomputable def siT : TypeInfo := (Tryz.prog.info? 31).get (by kernel_rfl)
noncomputable def siE : TypeInfo := (Tryz.prog.info? 3).get (by kernel_rfl)
theorem siK (n : Nat) (h2 : 2 ≤ n) : Lib.swapperK n siE 2 = 5 := by
  have a : siE.hasPointers = false := by kernel_rfl
  have b : siE.bytes = 8 := by kernel_rfl
  have c : (n == 0) = false := by simp; omega
  have d : (n == 1) = false := by simp; omega
  simp [Lib.swapperK, a, b, c, d]
noncomputable abbrev repFn (Bs : Nat) : Value := .func (.func 119) #[] #[.pointer (some ⟨Bs, 0, none⟩)]
set_option maxHeartbeats 1600000 in
set_option maxRecDepth 100000 in
theorem sortRep_c {Bs n c : Nat} {A : Option Addr} {l : List Int} {w0 w : World} (H : Sep w0 w [Res.row (.slice A n c) 3 1 n (ic l), Res.box Bs 31 #[.slice A n c]]) (hn : n = l.length) (hd : DifL l) (hb : ∀ a ∈ l, 0 < a ∧ a.toNat < 2 ^ 36) (ht : Tab64 w0) :
    Calls Tryz.prog 118 #[.iface 31 (.slice A n c), repFn Bs] w fun e w' => e = .returned (.tuple #[]) ∧ Sep w0 w' [Res.row (.slice A n c) 3 1 n (ic (srtL l)), Res.box Bs 31 #[.slice A n c]] := by
  by_cases h1 : n ≤ 1
  · have hf : ∃ f, Tryz.prog.funcs.findIdx? (·.name == "internal/reflectlite" ++ ".Swapper$" ++ toString (Lib.swapperK n siE 2)) = some f := by
      by_cases h0 : n = 0
      · subst h0
        exact ⟨184, by kernel_rfl⟩
      · obtain rfl : n = 1 := by omega
        exact ⟨185, by kernel_rfl⟩
    obtain ⟨f, hf⟩ := hf
    have hS := Any.sort_Slice_tiny Tryz.laysGg6 31 3 siT siE (by kernel_rfl) (by kernel_rfl) (by kernel_rfl) (by kernel_rfl) 2 (fun _ => by kernel_rfl) A n c h1 f hf (.func 119) #[] #[.pointer (some ⟨Bs, 0, none⟩)] w
    refine Calls.mono (show Calls Tryz.prog 118 _ _ _ from hS) ?_
    rintro e w' ⟨rfl, os, rfl⟩
    refine ⟨rfl, ?_⟩
    rw [srtL_tiny (by omega)]
    exact H.step (Go.Lib.below_grow w.heap.size w (Nat.le_refl _) 0 os)
  · obtain ⟨g, o, c', he, _, _, hg⟩ := own_shape H.h0 (by omega)
    injection he with he1 _ he3
    subst he1 he3
    obtain ⟨rfl, _⟩ := own_blk H.h0
    have hg0 : w0.heap.size ≤ g := H.2.1 g rfl
    have hne : g ≠ Bs := fun e => H.2.2.1 (Res.box Bs 31 #[.slice (some ⟨g, 0, none⟩) n c]) (by simp) g rfl e
    have hBs : Bs < w.heap.size := Blk.lt H.h1
    have hbox : w.cell? ⟨Bs, 0, none⟩ = some (.slice (some ⟨g, 0, none⟩) n c) := H.h1.cell 0
    have hbel := H.below
    have hown := H.h0
    have hown2 : w.ownsRow 0 3 1 (.slice (some ⟨g, 0, none⟩) n c) n ((l.map toM).map encM) := by rw [← ic_toM hb]; exact hown
    obtain ⟨g', c2, he, _, _, _, _, hln, hH⟩ := Lib.holds_of_ownsRow hown2 (by intro e; cases e)
    injection he with he1 _ he3
    injection he1 with he1
    injection he1 with he1
    subst he1 he3
    have hds : (l.map toM).toArray.size = n := by simp; omega
    have hless : LessReads Tryz.prog 119 #[.pointer (some ⟨Bs, 0, none⟩)] encM ltM g 0 (l.map toM).toArray.size w := by
      intro m os dk hs i j hi hj
      have hsz : (Sort.putRow encM (Sort.ahead w m) g 0 dk).heap.size = w.heap.size := by simp
      have hb1 : Below w0.heap.size w0 (sortWorld encM w g 0 m dk os) := by
        have h1 := Lib.below_putRow (enc := encM) (q := m) (d := dk) hbel hg0
        exact h1.trans (Lib.below_grow _ _ (by rw [hsz]; exact hbel.size) 0 os)
      have hcell : ∀ t, t < n → (sortWorld encM w g 0 m dk os).cell? ⟨g, t, none⟩ = some (encM dk[t]!) := fun t ht => by
        unfold sortWorld
        rw [Sort.cell?_grow _ _ _ (by rw [hsz]; exact hg)]
        have := Sort.cell?_putRow encM (Sort.ahead w m) g 0 _ dk (Sort.holds_ahead _ _ m _ _ _ hH) hs t (by omega)
        rwa [Nat.zero_add] at this
      refine repLess_c (g := g) (n := n) (c := c) (sortWorld encM w g 0 m dk os) ?_ (hcell i (by omega)) (hcell j (by omega)) (by omega) (by omega) (tab64_on ht hb1)
      unfold sortWorld
      rw [Sort.cell?_grow _ _ _ (by rw [hsz]; exact hBs), Sort.cell?_putRow_other _ _ _ _ _ _ (.inl (fun e => hne e.symm)), Sort.cell?_ahead]
      exact hbox
    have hS := Any.sort_Slice_sorted Tryz.laysGg6 31 3 siT siE (by kernel_rfl) (by kernel_rfl) (by kernel_rfl) (by kernel_rfl) 2 (fun _ => by kernel_rfl) (by kernel_rfl) (fun _ => by kernel_rfl) encM (fun _ => rfl) ltM swo_ltM 119 #[.pointer (some ⟨Bs, 0, none⟩)]
      (enters_of Tryz.func119 (by kernel_rfl) rfl) g 0 c (l.map toM).toArray (by rw [hds]; omega) (by have := difL_len hd hb; rw [hds]; omega) 188 (by rw [siK _ (by rw [hds]; omega)]; kernel_rfl) true
      (fun args W => run_callFunc_extern Tryz.func188 (by kernel_rfl) (by kernel_rfl) (by kernel_rfl) (e := Extern.ReflectliteSwapper.swap true) (by kernel_rfl) args W) w hless hH hg
    rw [hds] at hS
    refine Calls.mono (show Calls Tryz.prog 118 _ _ _ from hS) ?_
    rintro e w' ⟨rfl, d', m, os, hP, hSo, rfl⟩
    refine ⟨rfl, ?_⟩
    obtain ⟨k1, k2⟩ := sorted_srt hd hb (by rw [hds]; exact hP) (by rw [hds]; exact hSo)
    refine H.turn ⟨rfl, rfl, rfl, by simp, fun b hb' hd => ?_⟩ ?_ fun b hb => .inl hb
    · rw [Sort.heap_grow_old _ _ (by simpa using hb')]
      have hgb : g ≠ b := fun e => hd (by rw [← e]; rfl)
      simp [Sort.putRow, Sort.mapBlock, Sort.ahead, Array.getElem?_modify, hgb]
    · have h2 := Lib.ownsRow_putRow (q := m) (k := n) (ys := d'.toList) hown2 (by rw [Array.length_toList, k2]; exact hn.symm) (Nat.le_refl _)
      rw [List.take_of_length_le (by rw [Array.length_toList, k2]; omega), map_encM, k1] at h2
      exact Lib.ownsRow_grow h2 0 os
end Go.Proofs.YtfildenelgbmlaaGreatDoor

namespace Go.Proofs.YtfildenelgbmlaaGreatDoor
open Go.RowKit

set_option maxRecDepth 100000 in
set_option maxHeartbeats 4000000 in
theorem impl_repair_c {v v2 v3 : Value} {r : Reg} {ps : List (List Cell)} {k : List Int} (w : World) (h : RegRd w 0 w.heap.size v r) (h2 : CellSSRd w 0 w.heap.size v2 ps) (h3 : IntsRd w 0 w.heap.size v3 k) (hn : ps.length ≤ 1048576) (hl : ∀ s ∈ ps, s.length ≤ 1048576) (hkl : k.length ≤ 1048576) (ht : Tab64 w) :
    Calls Tryz.prog 46 #[v, v2, v3] w fun e w' => ∃ v', e = .returned (.tuple #[v', .bool (repB r ps k)]) ∧ IntsIn w' w.heap.size w'.heap.size v' (repL r ps k) ∧ Below w.heap.size w w' := by
  obtain ⟨i0, hi, hz0, hz1, hz2⟩ := info_parts infoIntC
  have HRD : Hid (∀ w1, Below w.heap.size w w1 → RegRd w1 0 w1.heap.size v r) := Lib.hid fun w1 b1 => (h.keep (SameIn.of_below b1 (Nat.le_refl _))).more (Nat.le_refl _) b1.size
  have HR2 : Hid (∀ w1, Below w.heap.size w w1 → CellSSRd w1 0 w1.heap.size v2 ps) := Lib.hid fun w1 b1 => (h2.keep (SameIn.of_below b1 (Nat.le_refl _))).more (Nat.le_refl _) b1.size
  have HR3 : Hid (∀ w1, Below w.heap.size w w1 → IntsRd w1 0 w1.heap.size v3 k) := Lib.hid fun w1 b1 => ints_keep h3 b1
  have HTB : Hid (∀ w1, Below w.heap.size w w1 → Tab64 w1) := Lib.hid fun w1 b1 => tab64_on ht b1
  have HPR : Hid (∀ w1, Below w.heap.size w w1 → Calls Tryz.prog 65 #[v, v2] w1 fun e w' => e = .returned (.bool (r.valid && arePcs ps)) ∧ Below w1.heap.size w1 w') := Lib.hid fun w1 b1 =>
    impl_prob_c w1 (HRD.out w1 b1) (HR2.out w1 b1) hn hl
  obtain ⟨RB, hRB⟩ : ∃ b, b = repB r ps k := ⟨_, rfl⟩
  obtain ⟨RL, hRL⟩ : ∃ b, b = repL r ps k := ⟨_, rfl⟩
  rw [← hRB, ← hRL]
  have HB := Lib.hid hRB
  have HL := Lib.hid hRL
  obtain ⟨sr, rfl, hsr⟩ := h
  obtain ⟨A, c, rfl, _, _⟩ := hsr
  obtain ⟨vs, ⟨A2, c2, rfl, _, _⟩, _⟩ := h2
  obtain ⟨A3, c3, rfl, hm3, hr3⟩ := h3
  obtain ⟨n3, hn3⟩ : ∃ n, n = k.length := ⟨_, rfl⟩
  rw [← hn3] at hm3 hr3 hkl HR3 ⊢
  have HN3 := Lib.hid hn3
  have HRK := Lib.hid hr3
  have H0 := (Sep.start w).box 36 #[.int .i64 r.w, .slice A r.rows.length c]
  obtain ⟨bR, hbR⟩ : ∃ bR, bR = w.heap.size := ⟨_, rfl⟩
  rw [← hbR] at H0
  clear hRB hRL ht hn hl hr3 hn3
  go_enter Tryz.func46, Tryz.ntmps46
  go_upto_region 1 with fail
  rw [← hbR]
  generalize (w.alloc (.cells #[.int .i64 r.w, .slice A r.rows.length c] 36)) = W at *
  clear hbR
  have c0 : W.cell? ⟨bR, 0, none⟩ = some (.int .i64 r.w) := H0.h0.cell 0
  have c1 : W.cell? ⟨bR, 1, none⟩ = some (.slice A r.rows.length c) := H0.h0.cell 1
  have HP := Lib.hid (HPR.out W H0.below)
  go_wp2_with fail
  refine (HP.out).mono ?_
  rintro e w1 ⟨rfl, b1⟩
  have H1 := H0.step b1
  have hB1 := H1.below
  clear H0 b1 HP c0 c1 HPR
  cases hp : (r.valid && arePcs ps)
  · have h1 := rep_bad (k := k) hp
    obtain rfl : RB = false := by rw [HB.out]; exact h1.1
    obtain rfl : RL = [] := by rw [HL.out]; exact h1.2
    clear hp h1
    go_wp2
    refine bodyPost_ret (results_tmp2 rfl _ _ _) rfl ?_
    exact ⟨_, rfl, OI.nil, hB1⟩
  have HOK := Lib.hid hp
  simp only [Bool.and_eq_true] at hp
  have HV := Lib.hid (Reg.valid_iff.1 hp.1)
  have HAP := Lib.hid hp.2
  have HALL := Lib.hid (impl_all_c w1 (HRD.out w1 H1.below) (HR2.out w1 H1.below) HV.out HAP.out)
  have c0 : w1.cell? ⟨bR, 0, none⟩ = some (.int .i64 r.w) := H1.h0.cell 0
  have c1 : w1.cell? ⟨bR, 1, none⟩ = some (.slice A r.rows.length c) := H1.h0.cell 1
  clear hp hB1
  go_wp2_with fail
  refine (HALL.out).mono ?_
  rintro e w3 ⟨av, rfl, o3, b3⟩
  have H3 := H1.oiNew b3 o3
  clear c0 c1 H1 HALL b3
  obtain ⟨Aq, cq, rfl, _, _⟩ := o3.rd
  clear o3
  obtain ⟨M, hM⟩ : ∃ M, M = r.mask := ⟨_, rfl⟩
  obtain ⟨Q, hQ⟩ : ∃ Q, Q = allN r ps := ⟨_, rfl⟩
  have hQ2 : allP r ps = nl Q := by rw [hQ, nl_allN HV.out]
  rw [hQ2] at H3 ⊢
  have hM36 : M < 68719476736 := by rw [hM]; have := Reg.mask_lt HV.out; omega
  have HQA : Hid (∀ m ∈ Q, m &&& M = m ∧ 0 < m) := Lib.hid (by rw [hQ, hM]; exact allN_sub HV.out HAP.out)
  have HQL : Hid (∀ m ∈ Q, m < 2 ^ 36) := Lib.hid (by rw [hQ]; exact allN_lt HV.out)
  have HQN : Hid ((nl Q).length ≤ 1000000) := Lib.hid (by
    rw [← hQ2]
    have := allP_len HV.out (ps := ps)
    have := arePcs_on HAP.out
    omega)
  have HMSK : Hid (∀ w1, Below w.heap.size w w1 → Calls Tryz.prog 68 #[.agg #[.int .i64 r.w, .slice A r.rows.length c]] w1 fun e w' => e = .returned (.int .i64 (M : Int)) ∧ Below w1.heap.size w1 w') := Lib.hid fun w1 b1 => by
    rw [hM]; exact impl_mask_c w1 (HRD.out w1 b1) HV.out
  have HOUT : Hid (keptU Q 0 k = none → repB r ps k = false ∧ repL r ps k = []) := Lib.hid fun h => rep_out (by rw [← hQ]; exact h)
  have HNO : Hid (∀ u, keptU Q 0 k = some u → ordB Q (M - u) 0 = false → repB r ps k = false ∧ repL r ps k = []) := Lib.hid fun u h1 h2 => rep_no (u := u) (by rw [← hQ]; exact h1) (by rw [← hQ, ← hM]; exact h2)
  have HYES : Hid (∀ u, keptU Q 0 k = some u → ordB Q (M - u) 0 = true → repB r ps k = true ∧ repL r ps k = srtL (k ++ nl (ordR Q (M - u) 0))) := Lib.hid fun u h1 h2 => by
    have := rep_yes (u := u) HOK.out (by rw [← hQ]; exact h1) (by rw [← hQ, ← hM]; exact h2)
    rw [← hQ, ← hM] at this
    exact this
  obtain ⟨nq, hnq⟩ : ∃ nq, nq = (nl Q).length := ⟨_, rfl⟩
  rw [← hnq] at H3 HQN ⊢
  have HNQ := Lib.hid hnq
  clear hM hQ hQ2 hnq
  go_wp2
  go_loopw [9, 24] (fun uv iv wx => ∃ i u : Nat, i ≤ n3 ∧ iv = .int .i64 i ∧ uv = .int .i64 u ∧ Hid (keptU Q 0 (k.take i) = some u) ∧ Sep w wx [Res.row (.slice Aq nq cq) 3 1 nq (ic (nl Q)), Res.box bR 36 #[.int .i64 r.w, .slice A r.rows.length c]]) (fun _ iv _ => n3 - (intOf iv).toNat)
  case atStart => exact ⟨0, 0, Nat.zero_le _, rfl, rfl, Lib.hid rfl, H3⟩
  case round =>
    clear H3
    obtain ⟨i, u, hi3, rfl, rfl, HU, H⟩ := hrel
    have HUM : Hid (u &&& M = u) := Lib.hid (keptU_some HQA.out (Nat.zero_and _) HU.out).1
    have hu36 : u < 68719476736 := by rw [← HUM.out]; exact Nat.lt_of_le_of_lt Nat.and_le_right hM36
    have hqr : IntsRd wr 0 wr.heap.size (.slice Aq nq cq) (nl Q) := by unfold IntsRd; rw [← HNQ.out]; exact H.oi.sr.more (Nat.zero_le _) (Nat.le_refl _)
    have HQR := Lib.hid hqr
    clear hqr
    by_cases hlt : i < n3
    · have hlti : (i : Int) < (n3 : Int) := by omega
      obtain ⟨x, hx⟩ : ∃ x, k[i]? = some x := ⟨k[i]'(by rw [← HN3.out]; exact hlt), List.getElem?_eq_getElem _⟩
      obtain ⟨b, off, hA1, _, hb, hc⟩ := HRK.out.2 (by omega)
      subst hA1
      have x1 : w.cell? ⟨b, off + i, none⟩ = some (.int .i64 x) := hc i (.int .i64 x) (by simp [ic, hx])
      have y1 := (H.below.cell (p := ⟨b, off + i, none⟩) hb).trans x1
      have HX := Lib.hid hx
      obtain ⟨hb0, hhb0⟩ : ∃ hb0, hb0 = hasI (nl Q) x := ⟨_, rfl⟩
      have HHAS : Hid (Calls Tryz.prog 115 #[.slice Aq nq cq, .int .i64 x] wr fun e w' => e = .returned (.bool hb0) ∧ wr = w') := Lib.hid (by
        rw [hhb0]
        exact impl_hasI_c wr HQR.out (by rw [← HNQ.out]; have := HQN.out; omega))
      clear hc hx x1 hb
      cases hb0
      · have h1 := HOUT.out (keptU_stop HU.out HX.out (by
          rintro ⟨h1, _⟩
          have := mem_nl_iff.2 h1
          unfold hasI at hhb0
          exact of_decide_eq_false hhb0.symm this))
        obtain rfl : RB = false := by rw [HB.out]; exact h1.1
        obtain rfl : RL = [] := by rw [HL.out]; exact h1.2
        have hB := H.below
        clear h1 hhb0 H
        go_wp2_with fail
        refine (HHAS.out).mono ?_
        rintro e w5 ⟨rfl, rfl⟩
        clear HHAS y1
        go_wp2
        refine bodyPost_ret (results_tmp2 rfl _ _ _) rfl ?_
        exact ⟨_, rfl, OI.nil, hB⟩
      · have hxm := mem_nl_iff.1 (show x ∈ nl Q by unfold hasI at hhb0; exact of_decide_eq_true hhb0.symm)
        obtain ⟨m, rfl⟩ := Int.eq_ofNat_of_zero_le hxm.1
        have hmQ : m ∈ Q := by simpa using hxm.2
        have hm36 := HQL.out m hmQ
        have hand := i64_and_nat u m (by omega) (by omega)
        have HMQ := Lib.hid hmQ
        clear hxm hmQ hhb0
        by_cases hsub : u &&& m = 0
        · have hne : (bits .and .i64 (u : Int) (m : Int) != 0) = false := by rw [hand, hsub]; rfl
          have hor : bits .or .i64 (u : Int) (m : Int) = ((u ||| m : Nat) : Int) := i64_or_nat _ _ (by omega) (by omega)
          have HU2 : Hid (keptU Q 0 (k.take (i + 1)) = some (u ||| m)) := Lib.hid (by
            have := keptU_go HU.out HX.out ⟨⟨by omega, by simpa using HMQ.out⟩, by simpa using hsub⟩
            simpa using this)
          clear hsub hand
          go_wp2_with fail
          refine (HHAS.out).mono ?_
          rintro e w5 ⟨rfl, rfl⟩
          clear HHAS
          go_wp2
          go_roundw
          case rel => exact ⟨i + 1, u ||| m, by omega, by go_num, rfl, HU2, H⟩
          case measure => simp [intOf]; omega
        · have hne : (bits .and .i64 (u : Int) (m : Int) != 0) = true := by
            rw [hand]
            simp only [bne_iff_ne, ne_eq]
            omega
          have h1 := HOUT.out (keptU_stop HU.out HX.out (by
            rintro ⟨⟨_, h1⟩, h2⟩
            exact hsub (by simpa using h2)))
          obtain rfl : RB = false := by rw [HB.out]; exact h1.1
          obtain rfl : RL = [] := by rw [HL.out]; exact h1.2
          have hB := H.below
          clear h1 hsub hand H
          go_wp2_with fail
          refine (HHAS.out).mono ?_
          rintro e w5 ⟨rfl, rfl⟩
          clear HHAS y1
          go_wp2
          refine bodyPost_ret (results_tmp2 rfl _ _ _) rfl ?_
          exact ⟨_, rfl, OI.nil, hB⟩
    · obtain rfl : i = n3 := by omega
      have HU2 : Hid (keptU Q 0 k = some u) := Lib.hid (by have := HU.out; rw [HN3.out, List.take_length] at this; exact this)
      have hnot : bits .andNot .i64 (M : Int) (u : Int) = ((M - u : Nat) : Int) := andNot_sub HUM.out (by omega) (by omega)
      obtain ⟨f, hf⟩ : ∃ f, f = M - u := ⟨_, rfl⟩
      rw [← hf] at hnot
      have hf36 : f < 68719476736 := by omega
      obtain ⟨RT, hRT⟩ : ∃ RT, RT = nl (ordR Q f 0) := ⟨_, rfl⟩
      obtain ⟨OB, hOB⟩ : ∃ OB, OB = ordB Q f 0 := ⟨_, rfl⟩
      have hparts := rep_parts (by omega) HQA.out HU2.out
      rw [← hf, ← hRT] at hparts
      have HDF := Lib.hid hparts.2.1
      have HPS := Lib.hid hparts.2.2
      have HNO2 : Hid (OB = false → repB r ps k = false ∧ repL r ps k = []) := Lib.hid fun h => HNO.out u HU2.out (by rw [← hf, ← hOB, h])
      have HYES2 : Hid (OB = true → repB r ps k = true ∧ repL r ps k = srtL (k ++ RT)) := Lib.hid fun h => by
        have := HYES.out u HU2.out (by rw [← hf, ← hOB, h])
        rw [← hf, ← hRT] at this
        exact this
      have HM := Lib.hid (HMSK.out wr H.below)
      have c0 : wr.cell? ⟨bR, 0, none⟩ = some (.int .i64 r.w) := H.h1.cell 0
      have c1 : wr.cell? ⟨bR, 1, none⟩ = some (.slice A r.rows.length c) := H.h1.cell 1
      have HORD : Hid (∀ w1, Below w.heap.size w w1 → IntsRd w1 0 w1.heap.size (.slice Aq nq cq) (nl Q) → Calls Tryz.prog 116 #[.slice Aq nq cq, .int .i64 (f : Int), .int .i64 0] w1 fun e w' => ∃ v', e = .returned (.tuple #[v', .bool OB]) ∧ IntsIn w' w1.heap.size w'.heap.size v' RT ∧ Below w1.heap.size w1 w') := Lib.hid fun w1 b1 hv => by
        have := ordinal_c (free := f) (N := 0) w1 hv HQL.out (by have := HQN.out; rw [HNQ.out] at this; simpa [nl] using this) hf36 (by omega) (HTB.out w1 b1)
        rw [hOB, hRT]
        exact this
      clear hf hRT hOB hparts
      go_wp2_with fail
      refine (HM.out).mono ?_
      rintro e w5 ⟨rfl, b5⟩
      have H5 := H.step b5
      have HOR := Lib.hid (HORD.out w5 H5.below (ints_keep HQR.out b5))
      clear HM H b5 c0 c1
      go_wp2_with fail
      refine (HOR.out).mono ?_
      rintro e w6 ⟨tv, rfl, o6, b6⟩
      have H6 := H5.oiNew b6 o6
      obtain ⟨At, ct, rfl, _, hrt⟩ := o6.rd
      have HRTT := Lib.hid hrt
      clear hrt HOR H5 b6 o6
      cases OB
      · have h1 := HNO2.out rfl
        obtain rfl : RB = false := by rw [HB.out]; exact h1.1
        obtain rfl : RL = [] := by rw [HL.out]; exact h1.2
        have hB := H6.below
        clear h1 H6
        go_wp2
        refine bodyPost_ret (results_tmp2 rfl _ _ _) rfl ?_
        exact ⟨_, rfl, OI.nil, hB⟩
      · have h1 := HYES2.out rfl
        obtain rfl : RB = true := by rw [HB.out]; exact h1.1
        have HRL : Hid (RL = srtL (k ++ RT)) := Lib.hid (by rw [HL.out]; exact h1.2)
        obtain ⟨nt, hnt⟩ : ∃ nt, nt = RT.length := ⟨_, rfl⟩
        rw [← hnt] at H6 HRTT ⊢
        have HNT := Lib.hid hnt
        have hnt64 : i + nt ≤ 64 := by
          have := difL_len HDF.out HPS.out
          rw [List.length_append, ← HN3.out, ← hnt] at this
          exact this
        have HC := Lib.hid (impl_copyInts_c w6 (HR3.out w6 H6.below) (by rw [← HN3.out]; omega))
        clear h1 hnt
        go_wp2_with fail
        refine (HC.out).mono ?_
        rintro e w7 ⟨kv, rfl, o7, b7⟩
        have H7 := H6.oiNew b7 o7
        rw [← HN3.out] at H7
        have HRD7 := Lib.hid (HRTT.out.below b7 (Nat.le_refl _))
        obtain ⟨Ak, ck, rfl, _, _⟩ := o7.rd
        rw [← HN3.out] at H7
        rw [← HN3.out]
        clear HC H6 b7 o7
        go_upto_region 16 with ((at_builtin; refine wpList_app rfl _ _ 31 rfl 3 i0 _ 1 8 Tryz.underlying31 hi hz0 hz1 hz2 rfl (by decide) _ _ _ rfl H7 _ _ _ (ic RT) rfl HRD7.out ic_one (by unfold maxLen; omega) (by omega) ?_; intro v8 w8 H8; obtain ⟨A8, c8, rfl, _, _, _⟩ := Res.row_at H8.h0; clear H7))
        have H9 := (H8.drop2.drop2.drop2.box 31 #[.slice A8 (i + nt) c8]).g1
        rw [← ic_append] at H9
        obtain ⟨b14, hb14⟩ : ∃ b14, b14 = w8.heap.size := ⟨_, rfl⟩
        rw [← hb14] at H9
        have hlen : i + nt = (k ++ RT).length := by rw [List.length_append, ← HN3.out, ← HNT.out]
        rw [← hb14]
        generalize w8.alloc (.cells #[.slice A8 (i + nt) c8] 31) = W9 at *
        have HS := Lib.hid (sortRep_c H9 hlen HDF.out HPS.out (HTB.out w (Below.refl _ _)))
        have d0 : W9.cell? ⟨b14, 0, none⟩ = some (.slice A8 (i + nt) c8) := H9.h1.cell 0
        clear H8 hlen hb14
        go_wp2_with fail
        refine (HS.out).mono ?_
        rintro e w10 ⟨rfl, H10⟩
        have d1 : w10.cell? ⟨b14, 0, none⟩ = some (.slice A8 (i + nt) c8) := H10.h1.cell 0
        clear d0 H9 HS
        go_wp2
        refine bodyPost_ret (results_tmp2 rfl _ _ _) rfl ?_
        refine ⟨_, rfl, ?_, H10.below⟩
        unfold IntsIn
        have e1 : (srtL (k ++ RT)).length = i + nt := by
          have := srtL_len HDF.out (k ++ RT).length
          rw [List.take_length] at this
          rw [this, List.length_append, ← HN3.out, ← HNT.out]
        rw [HRL.out, e1]
        exact H10.oi
end Go.Proofs.YtfildenelgbmlaaGreatDoor

namespace Go.Proofs.YtfildenelgbmlaaGreatDoor
open Go.RowKit

/-- are the rest masks of placements, apart from what is used, in the order of their least bits, and have they all cells with it? -/
def isCov (A : List Int) (M : Nat) : Option Nat → Nat → List Int → Bool
  | _, u, [] => u == M
  | p, u, n :: t => hasI A n && ((u &&& n.toNat == 0) && ((match p with
    | none => true
    | some q => decide (q < lowB n.toNat)) && isCov A M (some (lowB n.toNat)) (u ||| n.toNat) t))
theorem disj_of {u m f : Nat} (h : u &&& f = 0) (hm : m &&& f = m) : u &&& m = 0 := by
  rw [← hm, ← Nat.and_assoc, Nat.and_comm u m, Nat.and_assoc, h, Nat.and_zero]
theorem fit_low {f m : Nat} (hf : f < 2 ^ 36) (h0 : f ≠ 0) (h : fitB f m = true) : lowB m = lowB f ∧ (f - m ≠ 0 → lowB f < lowB (f - m)) := by
  have hle := fit_le h
  have hand := fit_and h
  have hbit : m.testBit (lowB f) = true := by unfold fitB at h; simp only [Bool.and_eq_true] at h; exact h.1
  obtain ⟨b1, b2⟩ := lowB_bits h0 hf
  refine ⟨lowB_is (fitB_pos h) (by omega) hbit fun j hj => ?_, fun hne => ?_⟩
  · have : (m &&& f).testBit j = m.testBit j := by rw [hand]
    rw [Nat.testBit_and, b2 j hj, Bool.and_false] at this
    exact this.symm
  · obtain ⟨c1, c2⟩ := lowB_bits hne (by omega)
    rw [sub_test hand (by omega)] at c1
    rw [Bool.and_eq_true] at c1
    rcases Nat.lt_trichotomy (lowB f) (lowB (f - m)) with q | q | q
    · exact q
    · rw [← q, hbit] at c1; simp at c1
    · rw [b2 _ q] at c1; simp at c1
theorem or_rest {u f m : Nat} (hf : f < 2 ^ 64) (h : m &&& f = m) : (u ||| m) ||| (f - m) = u ||| f := by
  apply Nat.eq_of_testBit_eq
  intro i
  rw [Nat.testBit_or, Nat.testBit_or, Nat.testBit_or, sub_test h hf]
  have : (m &&& f).testBit i = m.testBit i := by rw [h]
  rw [Nat.testBit_and] at this
  revert this
  cases u.testBit i <;> cases f.testBit i <;> cases m.testBit i <;> simp
theorem disj_rest {u f m : Nat} (hf : f < 2 ^ 64) (h : m &&& f = m) (hu : u &&& f = 0) : (u ||| m) &&& (f - m) = 0 := by
  apply Nat.eq_of_testBit_eq
  intro i
  rw [Nat.testBit_and, Nat.testBit_or, sub_test h hf, Nat.zero_testBit]
  have h1 : (u &&& f).testBit i = false := by rw [hu, Nat.zero_testBit]
  rw [Nat.testBit_and] at h1
  revert h1
  cases u.testBit i <;> cases f.testBit i <;> cases m.testBit i <;> simp
/-- a tiling of the search is a tiling -/
theorem til_isCov {A : List Nat} {M : Nat} : ∀ (f : Nat), f < 2 ^ 36 → ∀ (u : Nat) (p : Option Nat) (t : List Nat), t ∈ til A f → u &&& f = 0 → u ||| f = M → (∀ q, p = some q → f ≠ 0 → q < lowB f) → isCov (nl A) M p u (nl t) = true := by
  intro f
  induction f using Nat.strongRecOn with
  | _ f ih =>
    intro hf u p t ht hu hM hp
    by_cases h0 : f = 0
    · subst h0
      rw [til_zero] at ht
      simp at ht
      subst ht
      rw [Nat.or_zero] at hM
      show (u == M) = true
      simpa using hM
    · rw [til_pos h0] at ht
      obtain ⟨m, hmA, ht⟩ := List.mem_flatMap.1 ht
      unfold tilAt at ht
      cases hfit : fitB f m
      · rw [hfit] at ht; simp at ht
      · rw [hfit, if_pos rfl] at ht
        obtain ⟨t', ht', rfl⟩ := List.mem_map.1 ht
        have hl := fit_low hf h0 hfit
        have hand := fit_and hfit
        show isCov (nl A) M p u ((m : Int) :: nl t') = true
        unfold isCov
        rw [Int.toNat_natCast, disj_of hu hand]
        have h1 : hasI (nl A) (m : Int) = true := decide_eq_true (List.mem_map.2 ⟨m, hmA, rfl⟩)
        rw [h1, ih (f - m) (fit_lt hfit) (by omega) _ _ t' ht' (disj_rest (by omega) hand hu) (by rw [or_rest (by omega) hand]; exact hM) (fun q hq hne => by injection hq with hq; rw [← hq, hl.1]; exact hl.2 hne)]
        cases p with
        | none => rfl
        | some q =>
          have := hp q rfl h0
          simp [hl.1, this]
theorem til_cover {A : List Nat} {M : Nat} (hM : M < 2 ^ 36) {t : List Nat} (h : t ∈ til A M) : isCov (nl A) M none 0 (nl t) = true :=
  til_isCov M hM 0 none t h (Nat.zero_and _) (Nat.zero_or _) (fun _ h => by cases h)
/-! the loop of both sides -/
theorem isCov_end {A : List Int} {M u : Nat} {p : Option Nat} {t : List Int} {i : Nat} (h : i = t.length) : isCov A M p u (t.drop i) = (u == M) := by
  rw [h, List.drop_length]; cases p <;> rfl
theorem dropI {t : List Int} {i : Nat} {n : Int} (h : t[i]? = some n) : t.drop i = n :: t.drop (i + 1) := by
  obtain ⟨h1, h2⟩ := List.getElem?_eq_some_iff.1 h
  rw [List.drop_eq_getElem_cons h1, h2]
theorem isCov_none {A : List Int} {M u : Nat} {n : Int} {t : List Int} : isCov A M none u (n :: t) = (hasI A n && ((u &&& n.toNat == 0) && isCov A M (some (lowB n.toNat)) (u ||| n.toNat) t)) := by
  conv => lhs; unfold isCov
  simp
theorem isCov_some {A : List Int} {M u q : Nat} {n : Int} {t : List Int} : isCov A M (some q) u (n :: t) = (hasI A n && ((u &&& n.toNat == 0) && (decide (q < lowB n.toNat) && isCov A M (some (lowB n.toNat)) (u ||| n.toNat) t))) := by
  conv => lhs; unfold isCov
theorem isCov_no {A : List Int} {M u : Nat} {p : Option Nat} {t : List Int} {i : Nat} {n : Int} (h : t[i]? = some n) (hb : hasI A n = false ∨ u &&& n.toNat ≠ 0 ∨ ∃ q, p = some q ∧ lowB n.toNat ≤ q) : isCov A M p u (t.drop i) = false := by
  rw [dropI h]
  rcases hb with hb | hb | ⟨q, rfl, hb⟩
  · cases p with
    | none => rw [isCov_none, hb]; rfl
    | some q => rw [isCov_some, hb]; rfl
  · have e : (u &&& n.toNat == 0) = false := by simpa using hb
    cases p with
    | none => rw [isCov_none, e]; simp
    | some q => rw [isCov_some, e]; simp
  · rw [isCov_some, show decide (q < lowB n.toNat) = false by simp; omega]; simp
theorem isCov_yes {A : List Int} {M u : Nat} {p : Option Nat} {t : List Int} {i : Nat} {n : Int} (h : t[i]? = some n) (h1 : hasI A n = true) (h2 : u &&& n.toNat = 0) (h3 : ∀ q, p = some q → q < lowB n.toNat) : isCov A M p u (t.drop i) = isCov A M (some (lowB n.toNat)) (u ||| n.toNat) (t.drop (i + 1)) := by
  have e : (u &&& n.toNat == 0) = true := by simpa using h2
  rw [dropI h]
  cases p with
  | none => rw [isCov_none, h1, e]; simp
  | some q => rw [isCov_some, h1, e, decide_eq_true (h3 q rfl)]; simp
end Go.Proofs.YtfildenelgbmlaaGreatDoor

namespace Go.Proofs.YtfildenelgbmlaaGreatDoor
open Go.RowKit

set_option maxRecDepth 100000 in
theorem infoIntZ : (Tryz.prog.info? 3).map (fun i => (i.zero, i.size, i.bytes)) = some (some (.int .i64 0), 1, 8) := by kernel_rfl
set_option maxRecDepth 100000 in
theorem infoRowZ : (Tryz.prog.info? 31).map (fun i => (i.zero, i.size, i.bytes)) = some (some (.slice none 0 0), 1, 24) := by kernel_rfl
theorem ocZ {v : Value} (h : v.oneCell' = true) : ∀ u ∈ [v], u.oneCell' = true := by intro u hu; simp at hu; subst hu; exact h
theorem wpList_appW {P : Program} {w0 w : World} {L : List Res} {ops : Array Oper} {rest : List Oper} {o : Oper} {a : Act} {Q : Exit → Act → World → Prop} (hw : Region.wanted o (yielded ops a.tmps) = true) (s x : Operand) (t : TypeId)
    (ho : o.op = .call { callee := .builtin .append, args := #[s, x], argTypes := #[t, t] })
    (e : TypeId) (i : TypeInfo) (z : Value) (size bytes : Nat) (ht : P.underlying t = some (.slice e)) (hi : P.info? e = some i) (hz : i.zero = some z)
    (hsize : i.size = size) (hby : i.bytes = bytes) (hzs : z.cells.size = size) (hsz : 0 < size)
    (v : Value) (n : Nat) (xs : List Value) (hs : a.eval s = v) (H : Sep w0 w (Res.row v e size n xs :: L))
    (A : Option Addr) (m c : Nat) (news : List Value) (hx : a.eval x = .slice A m c) {lo hi' : Nat} (hr : Rd w lo hi' size A m news) (h1 : ∀ u ∈ news, u.oneCell' = true)
    (h63 : n + m ≤ maxLen) (hbytes : (n + m) * bytes ≤ 140737488355328)
    (h : ∀ v' w', Sep w0 w' (Res.row v' e size (n + m) (xs ++ news) :: L) → wpList P ops Q rest (a.put o.dst v') w') : wpList P ops Q (o :: rest) a w := by
  refine wpList_step fun K hK => ?_
  rw [if_pos hw]
  obtain ⟨v', w', hr', h2⟩ := H.run_app (P := P) t o.type e i z size bytes ht hi hz hsize hby hzs hsz c hr h1 h63 hbytes
  unfold Oper.wp execOp
  simp only [ho, resolve, invoke, builtin, Sem.run_bind, Sem.run_pure, Result.andThen_ok, List.map_toArray, List.map_cons, List.map_nil, hs, hx, hr']
  exact hK _ _ (h v' w' h2)
theorem ints_atZ {w : World} {A : Option Addr} {n c i : Nat} {l : List Int} {y : Int} (h : IntsRd w 0 w.heap.size (.slice A n c) l) (hy : l[i]? = some y) : ∃ b off, A = some ⟨b, off, none⟩ ∧ b < w.heap.size ∧ w.cell? ⟨b, off + i, none⟩ = some (.int .i64 y) := by
  obtain ⟨A', c', e, _, hr⟩ := h
  injection e with e1 e2 e3
  subst e1
  obtain ⟨b, off, e4, _, hb, hc⟩ := hr.2 (by have := (List.getElem?_eq_some_iff.1 hy).1; omega)
  exact ⟨b, off, e4, hb, hc i _ (by simp [ic, hy])⟩
theorem row_rdZ {w : World} {v : Value} {n : Nat} {l : List Int} (h : w.ownsRow 0 3 1 v n (ic l)) (hn : n = l.length) : IntsRd w 0 w.heap.size v l := by
  subst hn
  exact IntsIn.rd (lo := 0) ⟨h, fun k hk => own_lt h k hk⟩
theorem nlZ {l : List Nat} {x : Nat} : nl (l ++ [x]) = nl l ++ [(x : Int)] := by simp [nl]
end Go.Proofs.YtfildenelgbmlaaGreatDoor

namespace Go.Proofs.YtfildenelgbmlaaGreatDoor
open Go.RowKit

/-- the least bit of the mask before number i -/
def prevL (t : List Int) (i : Nat) : Option Nat := if i = 0 then none else some (lowB (t.getD (i - 1) 0).toNat)
theorem prevL_zero {t : List Int} : prevL t 0 = none := rfl
theorem prevL_succ {t : List Int} {i : Nat} {n : Int} (h : t[i]? = some n) : prevL t (i + 1) = some (lowB n.toNat) := by
  unfold prevL
  rw [if_neg (by omega), Nat.add_sub_cancel, List.getD_eq_getElem?_getD, h]; rfl
/-- the mask before number i is one of cells that are used -/
def PrevOk (t : List Int) (i u : Nat) : Prop := ∀ (p : Nat) (y : Int), i = p + 1 → t[p]? = some y → ∃ m : Nat, y = (m : Int) ∧ m < 2 ^ 36 ∧ 0 < m ∧ u.testBit (lowB m) = true
theorem hasI_nl {A : List Nat} {n : Int} (h : hasI (nl A) n = true) : ∃ m : Nat, n = (m : Int) ∧ m ∈ A := by
  have := of_decide_eq_true h
  obtain ⟨m, h1, h2⟩ := List.mem_map.1 this
  exact ⟨m, h2.symm, h1⟩
theorem low_apart {u q m : Nat} (h0 : m ≠ 0) (hm : m < 2 ^ 36) (hq : u.testBit q = true) (hu : u &&& m = 0) : q ≠ lowB m := by
  intro e
  have h1 := (lowB_bits h0 hm).1
  rw [← e] at h1
  have h2 : (u &&& m).testBit q = false := by rw [hu, Nat.zero_testBit]
  rw [Nat.testBit_and, hq, h1] at h2
  cases h2
set_option maxRecDepth 100000 in
set_option maxHeartbeats 3200000 in
theorem impl_isCover_c {v vt : Value} {A : List Nat} {M : Nat} {t : List Int} (w : World) (h : IntsRd w 0 w.heap.size v (nl A)) (h2 : IntsRd w 0 w.heap.size vt t) (hA : ∀ m ∈ A, m < 2 ^ 36 ∧ 0 < m) (hl : A.length ≤ 1000000) (hM : M < 2 ^ 36) (ht : Tab64 w) :
    Calls Tryz.prog 66 #[v, .int .i64 M, vt] w fun e w' => e = .returned (.bool (isCov (nl A) M none 0 t)) ∧ w = w' := by
  obtain ⟨R, hR⟩ : ∃ R, R = isCov (nl A) M none 0 t := ⟨_, rfl⟩
  rw [← hR]
  have HR0 : Hid (R = isCov (nl A) M (prevL t 0) 0 (t.drop 0)) := Lib.hid hR
  have HRD := Lib.hid h
  have HR2 := Lib.hid h2
  have HA := Lib.hid hA
  have HT := Lib.hid ht
  have hM36 : M < 68719476736 := hM
  obtain ⟨Av, cv, rfl, _, _⟩ := id h
  obtain ⟨At, ct, rfl, hmt, _⟩ := id h2
  have hal : (nl A).length ≤ 1048576 := by simp [nl]; omega
  have HI : Hid (∀ x : Int, Calls Tryz.prog 115 #[.slice Av (nl A).length cv, .int .i64 x] w fun e w' => e = .returned (.bool (hasI (nl A) x)) ∧ w = w') := Lib.hid fun x => impl_hasI_c w h hal
  obtain ⟨n, hn⟩ : ∃ n, n = t.length := ⟨_, rfl⟩
  have hn63 : n ≤ 9223372036854775807 := by unfold maxLen at hmt; omega
  rw [← hn] at HR2 ⊢
  have HN := Lib.hid hn
  generalize (nl A).length = la at *
  clear hR h h2 hA ht hn hal hmt hl
  go_enter Tryz.func66, Tryz.ntmps66
  go_wp2
  go_loopw [7, 12] (fun uv iv wx => ∃ i u : Nat, i ≤ n ∧ iv = .int .i64 i ∧ uv = .int .i64 u ∧ u < 68719476736 ∧ Hid (R = isCov (nl A) M (prevL t i) u (t.drop i)) ∧ Hid (PrevOk t i u) ∧ w = wx) (fun _ iv _ => n - (intOf iv).toNat)
  case atStart => exact ⟨0, 0, Nat.zero_le _, rfl, rfl, by decide, HR0, Lib.hid (fun p y hp => by omega), rfl⟩
  case round =>
    obtain ⟨i, u, hin, rfl, rfl, hu36, HC, HP, rfl⟩ := hrel
    by_cases hlt : i < n
    · have hlti : (i : Int) < (n : Int) := by omega
      obtain ⟨x, hx⟩ : ∃ x, t[i]? = some x := ⟨t[i]'(by rw [← HN.out]; exact hlt), List.getElem?_eq_getElem _⟩
      obtain ⟨b, off, hA1, hb, y0⟩ := ints_atZ HR2.out hx
      subst hA1
      have HX := Lib.hid hx
      have HIX := Lib.hid (HI.out x)
      cases hh : hasI (nl A) x
      · rw [hh] at HIX
        obtain rfl : R = false := by rw [HC.out]; exact isCov_no hx (.inl hh)
        clear hx hh
        go_wp2_with fail
        refine (HIX.out).mono ?_
        rintro e w1 ⟨rfl, rfl⟩
        go_wp2
        go_ret
        exact ⟨rfl, rfl⟩
      rw [hh] at HIX
      have HHH := Lib.hid hh
      obtain ⟨m, rfl, hmA⟩ := hasI_nl hh
      obtain ⟨hm36', hm0⟩ := HA.out m hmA
      have hm36 : m < 68719476736 := hm36'
      have hand := i64_and_nat u m (by omega) (by omega)
      obtain ⟨a, ha⟩ : ∃ a, a = u &&& m := ⟨_, rfl⟩
      rw [← ha] at hand
      have HAA := Lib.hid ha
      clear hx hh hmA ha hm36'
      by_cases hz : a = 0
      · subst hz
        have hz1 : (((0 : Nat) : Int) != 0) = false := rfl
        have hor := i64_or_nat u m (by omega) (by omega)
        obtain ⟨u2, hu2⟩ : ∃ u2, u2 = u ||| m := ⟨_, rfl⟩
        rw [← hu2] at hor
        have hu236 : u2 < 68719476736 := by rw [hu2]; exact Nat.or_lt_two_pow (n := 36) hu36 hm36
        have HP2 : Hid (PrevOk t (i + 1) u2) := Lib.hid (fun p y hp hy => by
          obtain rfl : p = i := by omega
          rw [HX.out] at hy
          injection hy with hy
          refine ⟨m, hy.symm, hm36, hm0, ?_⟩
          rw [hu2, Nat.testBit_or, (lowB_bits (by omega) hm36).1, Bool.or_true])
        have HYES : Hid ((∀ q, prevL t i = some q → q < lowB m) → R = isCov (nl A) M (prevL t (i + 1)) u2 (t.drop (i + 1))) := Lib.hid (fun hq => by
          rw [HC.out, isCov_yes HX.out HHH.out (by rw [Int.toNat_natCast]; exact HAA.out.symm) (by rw [Int.toNat_natCast]; exact hq), prevL_succ HX.out, hu2]
          rfl)
        clear hu2
        by_cases hi0 : i = 0
        · have hi0i : ¬ (0 : Int) < (i : Int) := by omega
          have hi0f : ((0 : Int) < (i : Int)) = False := eq_false hi0i
          have HC2 := Lib.hid (HYES.out (fun q hq => by rw [hi0, prevL_zero] at hq; cases hq))
          clear hi0
          go_wp2_with fail
          refine (HIX.out).mono ?_
          rintro e w1 ⟨rfl, rfl⟩
          go_wp2
          go_roundw
          case rel => exact ⟨i + 1, u2, by omega, by go_num, rfl, hu236, HC2, HP2, trivial⟩
          case measure => simp [intOf]; omega
        · obtain ⟨p, hp⟩ : ∃ p, i = p + 1 := ⟨i - 1, by omega⟩
          have hi0i : (0 : Int) < (i : Int) := by omega
          obtain ⟨y, hy⟩ : ∃ y, t[p]? = some y := ⟨t[p]'(by rw [← HN.out]; omega), List.getElem?_eq_getElem _⟩
          obtain ⟨k, rfl, hk36, hk0, hkb⟩ := HP.out p y hp hy
          obtain ⟨b', off', hA2, hb', y1⟩ := ints_atZ HR2.out hy
          injection hA2 with hA2
          injection hA2 with hA21 hA22
          subst hA21
          subst hA22
          have e5 : (i : Int) - 1 = (p : Int) := by omega
          have e6 : IntKind.i64.wrap ((i : Int) - 1) = (p : Int) := by rw [e5]; exact IntWalk.i64_in _ (by omega)
          have e7 : (p : Int) < (n : Int) := by omega
          have e8 : p < n := by omega
          have hne := low_apart (m := m) (by omega) hm36 hkb HAA.out.symm
          have HPL : Hid (prevL t i = some (lowB k)) := Lib.hid (by rw [hp, prevL_succ hy]; rfl)
          have HLK := Lib.hid (impl_low_c (m := k) w hk36 HT.out)
          have HLM := Lib.hid (impl_low_c (m := m) w hm36 HT.out)
          obtain ⟨q, hq⟩ : ∃ q, q = lowB k := ⟨_, rfl⟩
          obtain ⟨lm, hlm⟩ : ∃ l, l = lowB m := ⟨_, rfl⟩
          rw [← hq] at hne HPL HLK
          rw [← hlm] at hne HLM HYES
          have HLMM := Lib.hid hlm
          clear hq hlm hp hy hkb hk36 hk0 hb'
          by_cases hql : q < lm
          · have HC2 := Lib.hid (HYES.out (fun q' hq' => by rw [HPL.out] at hq'; injection hq' with hq'; omega))
            have c1 : ¬ (lm : Int) ≤ (q : Int) := by omega
            have c2 : ¬ (lm : Int) < (q : Int) := by omega
            clear HYES
            go_wp2_with (first
              | (with_reducible refine (HIX.out).mono ?_; rintro e w5 ⟨rfl, rfl⟩)
              | (with_reducible refine (HLK.out).mono ?_; rintro e w5 ⟨rfl, rfl⟩)
              | (with_reducible refine (HLM.out).mono ?_; rintro e w5 ⟨rfl, rfl⟩))
            go_roundw
            case rel => exact ⟨i + 1, u2, by omega, by go_num, rfl, hu236, HC2, HP2, trivial⟩
            case measure => simp [intOf]; omega
          · have c1 : (lm : Int) ≤ (q : Int) := by omega
            have c2 : (lm : Int) < (q : Int) := by omega
            obtain rfl : R = false := by rw [HC.out]; exact isCov_no HX.out (.inr (.inr ⟨q, HPL.out, by rw [Int.toNat_natCast, ← HLMM.out]; omega⟩))
            clear HYES
            go_wp2_with (first
              | (with_reducible refine (HIX.out).mono ?_; rintro e w5 ⟨rfl, rfl⟩)
              | (with_reducible refine (HLK.out).mono ?_; rintro e w5 ⟨rfl, rfl⟩)
              | (with_reducible refine (HLM.out).mono ?_; rintro e w5 ⟨rfl, rfl⟩))
            go_ret
            exact ⟨rfl, rfl⟩
      · have hz1 : ((a : Int) != 0) = true := by simp; omega
        obtain rfl : R = false := by rw [HC.out]; exact isCov_no HX.out (.inr (.inl (by rw [Int.toNat_natCast, ← HAA.out]; exact hz)))
        go_wp2_with fail
        refine (HIX.out).mono ?_
        rintro e w1 ⟨rfl, rfl⟩
        go_wp2
        go_ret
        exact ⟨rfl, rfl⟩
    · obtain rfl : n = i := by omega
      have HC2 : Hid (R = (u == M)) := Lib.hid (by rw [HC.out]; exact isCov_end HN.out)
      have hbe : ((u : Int) == (M : Int)) = (u == M) := by rw [Bool.eq_iff_iff]; simp only [beq_iff_eq]; omega
      obtain ⟨Z, hZ⟩ : ∃ Z, Z = (u == M) := ⟨_, rfl⟩
      rw [← hZ] at hbe
      obtain rfl : R = Z := HC2.out.trans hZ.symm
      clear hZ HC2 HC HR0
      go_wp2
      go_ret
      exact ⟨rfl, rfl⟩
/-- is it a tiling? -/
def tlgB (r : Reg) (ps : List (List Cell)) (t : List Int) : Bool := (r.valid && arePcs ps) && isCov (nl (allN r ps)) r.mask none 0 t
set_option maxRecDepth 100000 in
set_option maxHeartbeats 3200000 in
theorem impl_tlg_c {v v2 v3 : Value} {r : Reg} {ps : List (List Cell)} {t : List Int} (w : World) (h : RegRd w 0 w.heap.size v r) (h2 : CellSSRd w 0 w.heap.size v2 ps) (h3 : IntsRd w 0 w.heap.size v3 t) (hn : ps.length ≤ 1048576) (hl : ∀ s ∈ ps, s.length ≤ 1048576) (ht : Tab64 w) :
    Calls Tryz.prog 17 #[v, v2, v3] w fun e w' => e = .returned (.bool (tlgB r ps t)) ∧ Below w.heap.size w w' := by
  have HRD : Hid (∀ w1, Below w.heap.size w w1 → RegRd w1 0 w1.heap.size v r) := Lib.hid fun w1 b1 => (h.keep (SameIn.of_below b1 (Nat.le_refl _))).more (Nat.le_refl _) b1.size
  have HR2 : Hid (∀ w1, Below w.heap.size w w1 → CellSSRd w1 0 w1.heap.size v2 ps) := Lib.hid fun w1 b1 => (h2.keep (SameIn.of_below b1 (Nat.le_refl _))).more (Nat.le_refl _) b1.size
  have HR3 : Hid (∀ w1, Below w.heap.size w w1 → IntsRd w1 0 w1.heap.size v3 t) := Lib.hid fun w1 b1 => (h3.keep (SameIn.of_below b1 (Nat.le_refl _))).more (Nat.le_refl _) b1.size
  have HTB : Hid (∀ w1, Below w.heap.size w w1 → Tab64 w1) := Lib.hid fun w1 b1 => tab64_on ht b1
  obtain ⟨T, hT⟩ : ∃ T, T = tlgB r ps t := ⟨_, rfl⟩
  rw [← hT]
  have HT := Lib.hid hT
  obtain ⟨sr, rfl, hsr⟩ := h
  obtain ⟨A0, c, rfl, _, _⟩ := hsr
  obtain ⟨vs0, ⟨A2, c2, rfl, _, _⟩, _⟩ := h2
  obtain ⟨A3, c3, rfl, _, _⟩ := h3
  have H0 := (Sep.start w).box 36 #[.int .i64 r.w, .slice A0 r.rows.length c]
  obtain ⟨g, hg⟩ : ∃ g, g = w.heap.size := ⟨_, rfl⟩
  rw [← hg] at H0
  clear hT ht
  go_enter Tryz.func17, Tryz.ntmps17
  go_upto_region 1 with fail
  rw [← hg]
  generalize (w.alloc (.cells #[.int .i64 r.w, .slice A0 r.rows.length c] 36)) = W at *
  clear hg
  have c0 : W.cell? ⟨g, 0, none⟩ = some (.int .i64 r.w) := H0.h0.cell 0
  have c1 : W.cell? ⟨g, 1, none⟩ = some (.slice A0 r.rows.length c) := H0.h0.cell 1
  have hgl : g < W.heap.size := H0.h0.lt
  have HW : Hid (Below w.heap.size w W) := Lib.hid H0.below
  have HTR : Hid (∀ w', Below W.heap.size W w' → Below w.heap.size w w') := Lib.hid fun w' b => HW.out.trans (b.mono HW.out.size)
  have BB : Hid (∀ w', Below W.heap.size W w' → w'.cell? ⟨g, 0, none⟩ = some (.int .i64 r.w) ∧ w'.cell? ⟨g, 1, none⟩ = some (.slice A0 r.rows.length c)) := Lib.hid fun w' b => ⟨(b.cell (p := ⟨g, 0, none⟩) hgl).trans c0, (b.cell (p := ⟨g, 1, none⟩) hgl).trans c1⟩
  obtain ⟨K, hK⟩ : ∃ K, K = (r.valid && arePcs ps) := ⟨_, rfl⟩
  have HK := Lib.hid hK
  have HP : Hid (∀ w', Below W.heap.size W w' → Calls Tryz.prog 65 #[.agg #[.int .i64 r.w, .slice A0 r.rows.length c], .slice A2 ps.length c2] w' fun e w'' => e = .returned (.bool K) ∧ Below w'.heap.size w' w'') := Lib.hid fun w' b => by rw [hK]; exact impl_prob_c w' (HRD.out w' (HTR.out w' b)) (HR2.out w' (HTR.out w' b)) hn hl
  clear hK
  cases K
  · obtain rfl : T = false := by rw [HT.out, tlgB, ← HK.out]; rfl
    have l0 := Later.cell c0 hgl
    have l1 := Later.cell c1 hgl
    have HPL : Hid (∀ u : Later W, Calls Tryz.prog 65 #[.agg #[.int .i64 r.w, .slice A0 r.rows.length c], .slice A2 ps.length c2] u.w fun e w'' => e = .returned (.bool false) ∧ Below u.w.heap.size u.w w'') := Lib.hid fun u => HP.out u.w u.h
    clear c0 c1
    refine wp_region_later (by kernel_rfl) (by kernel_rfl) ?_
    repeat (go_big_quiet_step ((go_at_call 65; with_reducible exact Later.call (HPL.out _))))
    refine wpQuiet_nil ?_
    intro w5 hw5
    obtain ⟨u5, hu5⟩ := hw5
    subst hu5
    have H2 := H0.later u5
    clear l0 l1 HPL H0
    generalize u5.w = w5 at *
    go_wp2
    go_ret
    exact ⟨rfl, H2.below⟩
  have hkk := HK.out.symm
  rw [Bool.and_eq_true] at hkk
  have HV := Lib.hid (Reg.valid_iff.1 hkk.1)
  have HAP := Lib.hid hkk.2
  have HALL : Hid (∀ w', Below W.heap.size W w' → Calls Tryz.prog 67 #[.agg #[.int .i64 r.w, .slice A0 r.rows.length c], .slice A2 ps.length c2] w' fun e w'' => ∃ v', e = .returned v' ∧ IntsIn w'' w'.heap.size w''.heap.size v' (nl (allN r ps)) ∧ Below w'.heap.size w' w'') := Lib.hid fun w' b => by
    rw [nl_allN HV.out]
    exact impl_all_c w' (HRD.out w' (HTR.out w' b)) (HR2.out w' (HTR.out w' b)) HV.out HAP.out
  have HMK : Hid (∀ w', Below W.heap.size W w' → Calls Tryz.prog 68 #[.agg #[.int .i64 r.w, .slice A0 r.rows.length c]] w' fun e w'' => e = .returned (.int .i64 (r.mask : Int)) ∧ Below w'.heap.size w' w'') := Lib.hid fun w' b => impl_mask_c w' (HRD.out w' (HTR.out w' b)) HV.out
  have HCV : Hid (∀ w' va, Below W.heap.size W w' → IntsRd w' 0 w'.heap.size va (nl (allN r ps)) → Calls Tryz.prog 66 #[va, .int .i64 (r.mask : Int), .slice A3 t.length c3] w' fun e w'' => e = .returned (.bool T) ∧ w' = w'') := Lib.hid fun w' va b ha => by
    have h1 := allP_len HV.out (ps := ps)
    have h2 := (arePcs_on HAP.out).2.2
    have h4 : (allN r ps).length = (allP r ps).length := by rw [← nl_allN HV.out]; simp [nl]
    have h3 : ps.length * 288 ≤ 5 * 288 := Nat.mul_le_mul_right _ (by omega)
    have hT2 : T = isCov (nl (allN r ps)) r.mask none 0 t := by rw [HT.out, tlgB, ← HK.out, Bool.true_and]
    rw [hT2]
    exact impl_isCover_c w' ha (HR3.out w' (HTR.out w' b)) (fun m hm => ⟨allN_lt HV.out m hm, (allN_sub HV.out HAP.out m hm).2⟩) (by omega) (Reg.mask_lt HV.out) (HTB.out w' (HTR.out w' b))
  clear hkk c0 c1 H0
  have HH : Below W.heap.size W W.drew := below_drew (Below.refl _ _)
  have f0 := (BB.out _ HH).1
  have f1 := (BB.out _ HH).2
  go_region_held3 (fun w' => w'.cell? ⟨g, 0, none⟩ = some (.int .i64 r.w) ∧ w'.cell? ⟨g, 1, none⟩ = some (.slice A0 r.rows.length c))
    (first | ((try dsimp only); refine ⟨?_, ?_⟩ <;> assumption) | go_keep)
    (first
    | (go_at_call 65; (with_reducible refine (HP.out _ HH).mono ?_); rintro e wz ⟨rfl, bz⟩; replace HH := HH.trans (bz.mono HH.size); clear bz; have f0 := (BB.out _ HH).1; have f1 := (BB.out _ HH).2)
    | (go_at_call 67; (with_reducible refine (HALL.out _ HH).mono ?_); rintro e wz ⟨va, rfl, oa, bz⟩; have HA := Lib.hid ((IntsIn.rd oa).more (Nat.zero_le _) (Nat.le_refl _)); have HZ : Below wz.heap.size wz wz := Below.refl _ _; obtain ⟨Aa, ca, rfl, _, _⟩ := (IntsIn.rd oa); replace HH := HH.trans (bz.mono HH.size); clear bz oa; have f0 := (BB.out _ HH).1; have f1 := (BB.out _ HH).2)
    | (go_at_call 68; (with_reducible refine (HMK.out _ HH).mono ?_); rintro e wz ⟨rfl, bz⟩; (first | (have HA2 := Lib.hid ((HA.out.keep (SameIn.of_below bz (Nat.le_refl _))).more (Nat.le_refl _) bz.size)) | skip); replace HH := HH.trans (bz.mono HH.size); clear bz; have f0 := (BB.out _ HH).1; have f1 := (BB.out _ HH).2)
    | (go_at_call 66; (with_reducible refine (HCV.out _ _ HH HA2.out).mono ?_); rintro e wz ⟨rfl, rfl⟩)
    | (go_at_call 66; (with_reducible refine (HCV.out _ _ HH HA.out).mono ?_); rintro e wz ⟨rfl, rfl⟩))
  all_goals
    go_wp2
    go_ret
    exact ⟨rfl, HTR.out _ HH⟩
end Go.Proofs.YtfildenelgbmlaaGreatDoor

namespace Go.Proofs.YtfildenelgbmlaaGreatDoor
open Go.RowKit

def orAll (t : List Int) : Nat := t.foldr (fun a m => a.toNat ||| m) 0
theorem orAll_bit {i : Nat} : ∀ {t : List Int}, (orAll t).testBit i = true ↔ ∃ a ∈ t, a.toNat.testBit i = true
  | [] => by simp [orAll]
  | a :: t => by
    show (a.toNat ||| orAll t).testBit i = true ↔ _
    rw [Nat.testBit_or, Bool.or_eq_true, orAll_bit (t := t)]
    simp
theorem isCov_or {A : List Int} {M : Nat} : ∀ {t : List Int} {p : Option Nat} {u : Nat}, isCov A M p u t = true → u ||| orAll t = M
  | [], p, u, h => by
    have : (u == M) = true := by cases p <;> exact h
    show u ||| 0 = M
    rw [Nat.or_zero]
    simpa using this
  | n :: t, p, u, h => by
    have h4 : isCov A M (some (lowB n.toNat)) (u ||| n.toNat) t = true := by
      cases p with
      | none =>
        rw [isCov_none] at h
        simp only [Bool.and_eq_true] at h
        exact h.2.2
      | some q0 =>
        rw [isCov_some] at h
        simp only [Bool.and_eq_true] at h
        exact h.2.2.2
    have := isCov_or h4
    rw [Nat.or_assoc] at this
    exact this
theorem isCov_srt {A : List Nat} {M : Nat} : ∀ (t : List Int) (p : Option Nat) (u : Nat), (∀ a ∈ t, 0 ≤ a ∧ a.toNat ∈ A) → SrtL t → (∀ q, p = some q → ∀ a ∈ t, q < lowI a) → (∀ a ∈ t, u &&& a.toNat = 0) → t.Pairwise (fun a b => a.toNat &&& b.toNat = 0) → u ||| orAll t = M → isCov (nl A) M p u t = true
  | [], p, u, _, _, _, _, _, h => by
    have h : u ||| 0 = M := h
    rw [Nat.or_zero] at h
    cases p <;> (show (u == M) = true; simpa using h)
  | n :: t, p, u, hA, hs, hp, hd, hpw, h => by
    unfold SrtL at hs
    rw [List.pairwise_cons] at hs hpw
    have ih : isCov (nl A) M (some (lowB n.toNat)) (u ||| n.toNat) t = true := isCov_srt t (some (lowB n.toNat)) (u ||| n.toNat) (fun a ha => hA a (List.mem_cons_of_mem _ ha)) hs.2 (fun q hq a ha => by injection hq with hq; rw [← hq]; exact hs.1 a ha)
      (fun a ha => by
        rw [Nat.and_or_distrib_right, hd a (List.mem_cons_of_mem _ ha), hpw.1 a ha]; rfl) hpw.2 (by rw [Nat.or_assoc]; exact h)
    have h1 : hasI (nl A) n = true := by
      have := hA n (List.mem_cons_self ..)
      unfold hasI
      exact decide_eq_true (mem_nl_iff.2 this)
    have h2 := hd n (List.mem_cons_self ..)
    cases p with
    | none => rw [isCov_none, h1, h2, ih]; rfl
    | some q =>
      have h3 : q < lowB n.toNat := hp q rfl n (List.mem_cons_self ..)
      rw [isCov_some, h1, h2, ih, decide_eq_true h3]; rfl
theorem keptU_or {A : List Nat} : ∀ {l : List Int} {u u' : Nat}, keptU A u l = some u' → u' = u ||| orAll l
  | [], u, u', h => by
    have h : some u = some u' := h
    injection h with h
    show u' = u ||| 0
    rw [Nat.or_zero, h]
  | a :: l, u, u', h => by
    unfold keptU at h
    split at h
    · have := keptU_or h
      rw [this, Nat.or_assoc]
      rfl
    · cases h
theorem orAll_app {a b : List Int} : orAll (a ++ b) = orAll a ||| orAll b := by
  apply Nat.eq_of_testBit_eq
  intro i
  rw [Bool.eq_iff_iff, Nat.testBit_or, Bool.or_eq_true, orAll_bit, orAll_bit, orAll_bit]
  simp only [List.mem_append]
  constructor
  · rintro ⟨x, hx | hx, h⟩
    · exact .inl ⟨x, hx, h⟩
    · exact .inr ⟨x, hx, h⟩
  · rintro (⟨x, hx, h⟩ | ⟨x, hx, h⟩)
    · exact ⟨x, .inl hx, h⟩
    · exact ⟨x, .inr hx, h⟩
theorem orAll_same {a b : List Int} (h : ∀ x, x ∈ a ↔ x ∈ b) : orAll a = orAll b := by
  apply Nat.eq_of_testBit_eq
  intro i
  rw [Bool.eq_iff_iff, orAll_bit, orAll_bit]
  simp only [h]
/-- a repaired tiling is a tiling, and has what was kept -/
theorem rep_law {r : Reg} {ps : List (List Cell)} {k : List Int} (h : repB r ps k = true) : tlgB r ps (repL r ps k) = true ∧ ∀ x ∈ k, x ∈ repL r ps k := by
  cases hc : r.valid && arePcs ps
  · rw [(rep_bad hc).1] at h; cases h
  · have hv := Reg.valid_iff.1 (Bool.and_eq_true_iff.1 hc).1
    have hp := (Bool.and_eq_true_iff.1 hc).2
    cases hk : keptU (allN r ps) 0 k with
    | none => rw [(rep_out hk).1] at h; cases h
    | some u =>
      have hM : r.mask < 2 ^ 36 := by have := Reg.mask_lt hv; omega
      have hA := allN_sub hv hp
      obtain ⟨p1, p2, p3⟩ := rep_parts hM hA hk
      obtain ⟨_, _, k3, k4⟩ := keptU_some hA (Nat.zero_and _) hk
      have ku := keptU_or hk
      rw [Nat.zero_or] at ku
      cases ho : ordB (allN r ps) (r.mask - u) 0
      · rw [(rep_no hk ho).1] at h; cases h
      · rw [(rep_yes hc hk ho).2]
        obtain ⟨t, ht⟩ : ∃ t, (til (allN r ps) (r.mask - u))[0]? = some t := by
          unfold ordB at ho
          exact Option.isSome_iff_exists.1 ho
        have hR : ordR (allN r ps) (r.mask - u) 0 = t := by unfold ordR; rw [ht]; rfl
        rw [hR] at p2 p3 ⊢
        have htm := List.mem_of_getElem? ht
        have hin := til_in (r.mask - u) (by omega) t htm
        have hcov := isCov_or (til_cover (by omega) htm)
        rw [Nat.zero_or] at hcov
        have hmem : ∀ d, d ∈ srtL (k ++ nl t) ↔ d ∈ k ++ nl t := fun d => mem_srtL p2
        have hall : ∀ a ∈ k ++ nl t, 0 ≤ a ∧ a.toNat ∈ allN r ps := fun a ha => by
          rcases List.mem_append.1 ha with ha | ha
          · exact ⟨(k3 a ha).1, (k3 a ha).2.1⟩
          · obtain ⟨m, hm, rfl⟩ := mem_nl ha
            exact ⟨by omega, by simpa using (hin.1 m hm).1⟩
        have hdis : (k ++ nl t).Pairwise fun a b => a.toNat &&& b.toNat = 0 := by
          rw [List.pairwise_append]
          refine ⟨k4, ?_, fun a ha b hb => ?_⟩
          · unfold nl
            rw [List.pairwise_map]
            exact hin.2.imp fun h => by simpa using h
          · obtain ⟨m, hm, rfl⟩ := mem_nl hb
            have q1 := (k3 a ha).2.2.2
            have q2 := (sub_in (by omega) p1 (hin.1 m hm).2.1).2
            rw [Int.toNat_natCast, ← q1, Nat.and_assoc, q2, Nat.and_zero]
        have hsd : (srtL (k ++ nl t)).Pairwise fun a b => a.toNat &&& b.toNat = 0 := by
          refine (srtL_srt (k ++ nl t)).imp_of_mem ?_
          intro a b ha hb hlt
          have ha := (hmem a).1 ha
          have hb := (hmem b).1 hb
          obtain ⟨i, hi, ei⟩ := List.getElem_of_mem ha
          obtain ⟨j, hj, ej⟩ := List.getElem_of_mem hb
          rcases Nat.lt_trichotomy i j with q | q | q
          · have := List.pairwise_iff_getElem.1 hdis i j hi hj q
            rwa [ei, ej] at this
          · subst q
            rw [ei] at ej
            subst ej
            omega
          · have := List.pairwise_iff_getElem.1 hdis j i hj hi q
            rw [ei, ej, Nat.and_comm] at this
            exact this
        refine ⟨?_, fun x hx => (hmem x).2 (List.mem_append_left _ hx)⟩
        unfold tlgB
        rw [hc, Bool.true_and]
        refine isCov_srt _ _ _ (fun a ha => hall a ((hmem a).1 ha)) (srtL_srt _) (fun q hq => by cases hq) (fun a _ => Nat.zero_and _) hsd ?_
        rw [Nat.zero_or, orAll_same hmem, orAll_app, ← ku, hcov]
        have := or_rest (u := 0) (f := r.mask) (m := u) (by omega) p1
        simpa using this
end Go.Proofs.YtfildenelgbmlaaGreatDoor

namespace Go.Proofs.YtfildenelgbmlaaGreatDoor
open Go.RowKit

def Reg.safeC (r : Reg) (ps : List (List Cell)) (c : Cell) : Bool := findB (r.less c.x c.y) ps
def Reg.safes (r : Reg) (ps : List (List Cell)) : List Cell := if (r.valid && arePcs ps) = true then r.cells.filter (r.safeC ps) else []
theorem safe_take {p : Cell → Bool} {l : List Cell} {k : Nat} {c : Cell} (h : l[k]? = some c) : (l.take (k + 1)).filter p = (l.take k).filter p ++ if p c = true then [c] else [] := by
  have hk := (List.getElem?_eq_some_iff.1 h).1
  have e := (List.getElem?_eq_some_iff.1 h).2
  rw [List.take_succ_eq_append_getElem hk, List.filter_append, e]
  cases hp : p c <;> simp [hp]
theorem safe_le {p : Cell → Bool} {l : List Cell} {k : Nat} : ((l.take k).filter p).length ≤ l.length := Nat.le_trans (List.length_filter_le _ _) (by rw [List.length_take]; omega)
theorem safes_no {r : Reg} {ps : List (List Cell)} (h : (r.valid && arePcs ps) = false) : r.safes ps = [] := by rw [Reg.safes, h]; rfl
theorem safes_yes {r : Reg} {ps : List (List Cell)} (h : (r.valid && arePcs ps) = true) : r.safes ps = r.cells.filter (r.safeC ps) := by rw [Reg.safes, h]; rfl

set_option maxRecDepth 100000 in
set_option maxHeartbeats 1600000 in
theorem impl_safes_c {v v2 : Value} {r : Reg} {ps : List (List Cell)} (w : World) (h : RegRd w 0 w.heap.size v r) (h2 : CellSSRd w 0 w.heap.size v2 ps) (_hn : r.rows.length ≤ 1048576) (hpn : ps.length ≤ 1048576) (hpl : ∀ s ∈ ps, s.length ≤ 1048576) (ht : Tab64 w) :
    Calls Tryz.prog 54 #[v, v2] w fun en w' => ∃ v', en = .returned v' ∧ CellsIn w' w.heap.size w'.heap.size v' (r.safes ps) ∧ Below w.heap.size w w' := by
  have HPB : Hid (∀ w1, Below w.heap.size w w1 → Calls Tryz.prog 65 #[v, v2] w1 fun e w' => e = .returned (.bool (r.valid && arePcs ps)) ∧ Below w1.heap.size w1 w') := Lib.hid fun w1 b1 =>
    impl_prob_c w1 ((h.keep (SameIn.of_below b1 (Nat.le_refl _))).more (Nat.le_refl _) b1.size) ((h2.keep (SameIn.of_below b1 (Nat.le_refl _))).more (Nat.le_refl _) b1.size) hpn hpl
  have HHT : Hid (∀ (w1 : World) (u : Value) (x : Reg), Below w.heap.size w w1 → RegRd w1 0 w1.heap.size u x → Calls Tryz.prog 69 #[u, v2] w1 fun e w' => e = .returned (.bool (findB x ps)) ∧ Below w1.heap.size w1 w') := Lib.hid fun w1 u x b1 hx =>
    impl_hasT_c w1 hx ((h2.keep (SameIn.of_below b1 (Nat.le_refl _))).more (Nat.le_refl _) b1.size) hpn hpl (tab64_on ht b1)
  obtain ⟨SF, hSF⟩ : ∃ f, f = r.safeC ps := ⟨_, rfl⟩
  have HSF := Lib.hid hSF
  obtain ⟨BV, hBV⟩ : ∃ b, b = (r.valid && arePcs ps) := ⟨_, rfl⟩
  rw [← hBV] at HPB
  have HBV := Lib.hid hBV
  clear hSF hBV
  obtain ⟨vs2, ⟨A2, c2, rfl, _, _⟩, _⟩ := h2
  obtain ⟨s, rfl, hs⟩ := h
  obtain ⟨A, c, rfl, hm, hr⟩ := id hs
  obtain ⟨i0, hi, hz0, hz1, hz2⟩ := info_parts infoCell
  have H := (Sep.start w).box 36 #[.int .i64 r.w, .slice A r.rows.length c]
  obtain ⟨L, hL⟩ : ∃ L, L = (r.safes ps) := ⟨_, rfl⟩
  rw [← hL]
  have HL := Lib.hid hL
  clear hr hL ht hpn hpl
  go_enter Tryz.func54, Tryz.ntmps54
  go_wp2_with fail
  generalize w.alloc (.cells #[.int .i64 r.w, .slice A r.rows.length c] 36) = W at *
  refine (HPB.out W H.below).mono ?_
  rintro e w1 ⟨rfl, b1⟩
  have H1 := H.step b1
  clear b1 H
  cases hsp : BV
  · have hl0 : L = [] := by rw [HL.out, safes_no (by rw [← HBV.out]; exact hsp)]
    subst hl0
    have hB := H1.below
    clear hsp
    go_wp2
    go_ret
    exact ⟨_, rfl, CellsIn.nil, hB⟩
  · have hV : r.Valid := Reg.valid_iff.1 (by have := HBV.out; rw [hsp] at this; exact (Bool.and_eq_true_iff.1 this.symm).1)
    have hl0 : L = r.cells.filter SF := by rw [HL.out, HSF.out, safes_yes (by rw [← HBV.out]; exact hsp)]
    have HL0 := Lib.hid hl0
    have HV := Lib.hid hV
    have hn6 := hV.2.2.2.1
    have hcl := Reg.cells_le hV
    have c0 := H1.h0.cell 0
    have c1 := H1.h0.cell 1
    simp at c0 c1
    clear hsp hl0 hV
    go_wp2_with fail
    clear c0 c1
    refine (impl_cells_c (r := r) w1 ⟨_, rfl, (hs.keep (SameIn.of_below H1.below (Nat.le_refl _))).more (Nat.le_refl _) H1.size⟩ HV.out).mono ?_
    rintro e w2 ⟨v2, rfl, o2, b2⟩
    obtain ⟨D, d, rfl, _, hrd⟩ := o2.rd
    have H2 := (H1.oiNew b2 o2).nil 96 2
    clear b2 H1 hrd o2
    obtain ⟨C, hC⟩ : ∃ C, C = r.cells := ⟨_, rfl⟩
    rw [← hC] at H2 hcl HL0 ⊢
    have HC := Lib.hid hC
    clear hC
    go_wp2
    go_loopw [5, 17] (fun o i wr => ∃ k : Nat, k ≤ C.length ∧ i = .int .i64 k ∧ Sep w wr [Res.row o 96 2 ((C.take k).filter SF).length (cc ((C.take k).filter SF)), Res.row (.slice D C.length d) 96 2 C.length (cc C), Res.box w.heap.size 36 #[.int .i64 r.w, .slice A r.rows.length c]]) (fun _ i _ => C.length - (intOf i).toNat)
    case atStart => exact ⟨0, Nat.zero_le _, rfl, H2⟩
    case round =>
      clear H2
      obtain ⟨k, hk, rfl, H⟩ := hrel
      by_cases hlt : k < C.length
      · obtain ⟨cl, hcl2⟩ : ∃ cl, C[k]? = some cl := ⟨C[k], List.getElem?_eq_getElem hlt⟩
        obtain ⟨bs, os, cs, he, _, _, hbs⟩ := own_shape H.h1 (by omega)
        injection he with he1 _ he3
        subst he1 he3
        obtain ⟨q0, q1⟩ := own_cell2 H.h1 hcl2
        have hst := safe_take (p := SF) hcl2
        have hfl := safe_le (p := SF) (l := C) (k := k)
        have HST := Lib.hid hst
        have hx0 : (wr.alloc (.cells #[.int .i64 cl.x, .int .i64 cl.y] 96)).cell? ⟨w.heap.size, 0, none⟩ = some (.int .i64 r.w) := (H.alloc _).h2.cell 0
        have hx1 : (wr.alloc (.cells #[.int .i64 cl.x, .int .i64 cl.y] 96)).cell? ⟨w.heap.size, 1, none⟩ = some (.slice A r.rows.length c) := (H.alloc _).h2.cell 1
        have H3 := H.box 96 #[.int .i64 cl.x, .int .i64 cl.y]
        clear hst H
        go_wp2_with fail
        clear q0 q1 hx0 hx1
        generalize wr.alloc (.cells #[.int .i64 cl.x, .int .i64 cl.y] 96) = wa at *
        refine (impl_remove_c (r := r) cl.x cl.y wa ⟨_, rfl, (hs.keep (SameIn.of_below H3.below (Nat.le_refl _))).more (Nat.le_refl _) H3.size⟩ (by omega)).mono ?_
        rintro e w3 ⟨v3, rfl, ⟨s3, rfl, o3⟩, b3⟩
        obtain ⟨E, f, rfl, _, _⟩ := o3.rd
        obtain ⟨x, hx⟩ : ∃ x, x = r.less cl.x cl.y := ⟨_, rfl⟩
        have hpv : SF cl = findB x ps := by rw [hx, HSF.out]; rfl
        rw [← hx] at o3 ⊢
        have HPV := Lib.hid hpv
        clear hx hpv
        have H4 := (H3.oiNew b3 o3).box 36 #[.int .i64 x.w, .slice E x.rows.length f]
        clear b3 H3 o3
        go_wp2_with fail
        generalize w3.alloc (.cells #[.int .i64 x.w, .slice E x.rows.length f] 36) = wb at *
        refine (HHT.out wb _ x H4.below ⟨_, rfl, (H4.g1.oi.sr).more (Nat.zero_le _) (Nat.le_refl _)⟩).mono ?_
        rintro e w5 ⟨rfl, b5⟩
        have H5 := H4.step b5
        clear b5 H4
        cases hxs : findB x ps
        rotate_left
        · have hst := HST.out
          rw [HPV.out, hxs] at hst
          simp only [if_true] at hst
          have HS := Lib.hid hst
          have k0 := H5.h2.cell 0
          have k1 := H5.h2.cell 1
          simp at k0 k1
          clear hst hxs
          go_wp2_with (at_builtin; refine wpList_app rfl _ _ 24 rfl 96 i0 _ 2 16 Tryz.underlying24 hi hz0 hz1 hz2 rfl (by decide) _ _ _ rfl (H5.alloc _).g3 _ _ _ [.int .i64 cl.x, .int .i64 cl.y] rfl (Rd.fresh w5 _ #[.int .i64 cl.x, .int .i64 cl.y] 2 1 rfl) oc2 (by unfold maxLen; omega) (by omega) ?_; intro v' w6 H6; have H7 := H6.p3.drop.drop.drop; clear H6 H5 k0 k1)
          have H8 : Sep w w6 [Res.row v' 96 2 ((C.take (k + 1)).filter SF).length (cc ((C.take (k + 1)).filter SF)), Res.row (.slice (some ⟨bs, os, none⟩) C.length d) 96 2 C.length (cc C), Res.box w.heap.size 36 #[.int .i64 r.w, .slice A r.rows.length c]] := by
            rw [HS.out, cc_append, List.length_append]; exact H7
          clear H7
          go_wp2
          go_roundw
          case rel => exact ⟨k + 1, by omega, by go_num, H8⟩
          case measure => simp [intOf]; omega
        · have hst := HST.out
          rw [HPV.out, hxs] at hst
          simp only [Bool.false_eq_true, if_false, List.append_nil] at hst
          have HS := Lib.hid hst
          have H7 := H5.drop.drop.drop
          clear hst hxs H5
          go_wp2
          go_roundw
          case rel => exact ⟨k + 1, by omega, by go_num, by rw [HS.out]; exact H7⟩
          case measure => simp [intOf]; omega
      · obtain rfl : k = C.length := by omega
        rw [List.take_length] at H
        go_wp2
        go_ret
        rw [HL0.out]
        exact ⟨_, rfl, CellsIn.mk H.oi.1 rfl rfl, H.below⟩
end Go.Proofs.YtfildenelgbmlaaGreatDoor

namespace Go.Proofs.YtfildenelgbmlaaGreatDoor
open Go.RowKit

set_option maxRecDepth 100000 in
set_option maxHeartbeats 3200000 in
theorem spec_safes_c {v v2 : Value} {r : Reg} {ps : List (List Cell)} (w : World) (h : RegRd w 0 w.heap.size v r) (h2 : CellSSRd w 0 w.heap.size v2 ps) (hn : r.rows.length ≤ 1048576) (hpn : ps.length ≤ 1048576) (hpl : ∀ s ∈ ps, s.length ≤ 1048576) :
    Calls Tryz.prog 55 #[v, v2] w fun en w' => ∃ v', en = .returned v' ∧ CellsIn w' w.heap.size w'.heap.size v' (r.safes ps) ∧ Below w.heap.size w w' := by
  have HPB : Hid (∀ w1, Below w.heap.size w w1 → Calls Tryz.prog 120 #[v2] w1 fun e w' => e = .returned (.bool (arePcs ps)) ∧ Below w1.heap.size w1 w') := Lib.hid fun w1 b1 =>
    spec_arePcs_c w1 ((h2.keep (SameIn.of_below b1 (Nat.le_refl _))).more (Nat.le_refl _) b1.size) hpn hpl
  have HHT : Hid (∀ (w1 : World) (u : Value) (x : Reg), Below w.heap.size w w1 → RegRd w1 0 w1.heap.size u x → Calls Tryz.prog 72 #[u, v2] w1 fun e w' => e = .returned (.bool (findB x ps)) ∧ Below w1.heap.size w1 w') := Lib.hid fun w1 u x b1 hx =>
    spec_hasT_c w1 hx ((h2.keep (SameIn.of_below b1 (Nat.le_refl _))).more (Nat.le_refl _) b1.size) hpn hpl
  obtain ⟨SF, hSF⟩ : ∃ f, f = r.safeC ps := ⟨_, rfl⟩
  have HSF := Lib.hid hSF
  obtain ⟨BV, hBV⟩ : ∃ b, b = arePcs ps := ⟨_, rfl⟩
  rw [← hBV] at HPB
  have HBV := Lib.hid hBV
  clear hSF hBV
  obtain ⟨vs2, ⟨A2, c2, rfl, _, _⟩, _⟩ := h2
  obtain ⟨s, rfl, hs⟩ := h
  obtain ⟨A, c, rfl, hm, hr⟩ := id hs
  obtain ⟨i0, hi, hz0, hz1, hz2⟩ := info_parts infoCell
  have H := ((Sep.start w).box 36 #[.int .i64 r.w, .slice A r.rows.length c]).rowBox 96 #[] 2 0 rfl (by decide)
  simp only [World.size_alloc] at H
  obtain ⟨L, hL⟩ : ∃ L, L = (r.safes ps) := ⟨_, rfl⟩
  rw [← hL]
  have HL := Lib.hid hL
  have c0 : ((w.alloc (.cells #[.int .i64 r.w, .slice A r.rows.length c] 36)).alloc (.cells #[] 96)).cell? ⟨w.heap.size, 0, none⟩ = some (.int .i64 r.w) := H.h1.cell 0
  have c1 : ((w.alloc (.cells #[.int .i64 r.w, .slice A r.rows.length c] 36)).alloc (.cells #[] 96)).cell? ⟨w.heap.size, 1, none⟩ = some (.slice A r.rows.length c) := H.h1.cell 1
  clear hr hL hpn hpl
  go_enter Tryz.func55, Tryz.ntmps55
  go_wp2_with fail
  clear c0 c1
  generalize (w.alloc (.cells #[.int .i64 r.w, .slice A r.rows.length c] 36)).alloc (.cells #[] 96) = W at *
  refine (spec_cells_c (r := r) W ⟨_, rfl, (hs.keep (SameIn.of_below H.below (Nat.le_refl _))).more (Nat.le_refl _) H.size⟩ hn).mono ?_
  rintro e w2 ⟨v2, rfl, o2, b2⟩
  obtain ⟨D, d, rfl, _, hrd⟩ := o2.rd
  obtain ⟨C, hC⟩ : ∃ C, C = if r.valid then r.cells else [] := ⟨_, rfl⟩
  rw [← hC] at o2 ⊢
  have H2 := (H.oiNew b2 o2).g1
  have hcl : C.length ≤ 36 := by
    rw [hC]
    cases hv : r.valid
    · simp
    · simpa using Reg.cells_le (Reg.valid_iff.1 hv)
  have hspan : BV = false → L = [] := fun h => by rw [HL.out, safes_no (by rw [← HBV.out, h, Bool.and_false])]
  have hend : BV = true → L = C.filter SF := fun h => by
    rw [HL.out, hC, HSF.out]
    cases hv : r.valid
    · rw [safes_no (by rw [hv]; rfl)]; rfl
    · rw [safes_yes (by rw [hv, ← HBV.out, h]; rfl)]; rfl
  have hvv : 0 < C.length → r.Valid := fun h => by
    cases hv : r.valid
    · rw [hC, hv] at h; simp at h
    · exact Reg.valid_iff.1 hv
  have HVV := Lib.hid hvv
  have hnil : C = [] → L = [] := fun h => by
    cases hs : BV
    · exact hspan hs
    · rw [hend hs, h]; rfl
  have HSP := Lib.hid hspan
  have HE := Lib.hid hend
  have HN := Lib.hid hnil
  clear b2 H hrd o2 hC hspan hend hnil hvv
  go_wp2
  go_loopw [5, 7] (fun o i wr => ∃ k : Nat, k ≤ C.length ∧ i = .int .i64 k ∧ Hid (k ≠ 0 → BV = true) ∧ Sep w wr [Res.row o 96 2 ((C.take k).filter SF).length (cc ((C.take k).filter SF)), Res.row (.slice D C.length d) 96 2 C.length (cc C), Res.box w.heap.size 36 #[.int .i64 r.w, .slice A r.rows.length c]]) (fun _ i _ => C.length - (intOf i).toNat)
  case atStart => exact ⟨0, Nat.zero_le _, rfl, Lib.hid (fun h => absurd rfl h), H2⟩
  case round =>
    clear H2
    obtain ⟨k, hk, rfl, HK, H⟩ := hrel
    by_cases hlt : k < C.length
    · go_wp2_with fail
      refine (HPB.out wr H.below).mono ?_
      rintro e w1 ⟨rfl, b1⟩
      have H1 := H.step b1
      clear b1 H
      cases hsp : BV
      · have hk0 : k = 0 := by
          rcases Nat.eq_zero_or_pos k with h0 | h0
          · exact h0
          · have := HK.out (by omega); rw [hsp] at this; cases this
        subst hk0
        have hl0 := HSP.out hsp
        subst hl0
        clear hsp
        go_wp2
        go_ret
        exact ⟨_, rfl, CellsIn.mk H1.oi.1 rfl rfl, H1.below⟩
      · have HKS := Lib.hid hsp
        have hV := HVV.out (by omega)
        have hn6 := hV.2.2.2.1
        clear hsp hV
        obtain ⟨cl, hck⟩ : ∃ cl, C[k]? = some cl := ⟨C[k], List.getElem?_eq_getElem hlt⟩
        obtain ⟨bs, os, cs, he, _, _, hbs⟩ := own_shape H1.h1 (by omega)
        injection he with he1 _ he3
        subst he1 he3
        obtain ⟨q0, q1⟩ := own_cell2 H1.h1 hck
        have hst := safe_take (p := SF) hck
        have hfl := safe_le (p := SF) (l := C) (k := k)
        have HST := Lib.hid hst
        have HCK := Lib.hid hck
        have c0 := H1.h2.cell 0
        have c1 := H1.h2.cell 1
        simp at c0 c1
        obtain ⟨x, hx⟩ : ∃ x, x = r.less cl.x cl.y := ⟨_, rfl⟩
        have hpv : SF cl = findB x ps := by rw [hx, HSF.out]; rfl
        have HPV := Lib.hid hpv
        obtain ⟨qi, hqi⟩ : ∃ qi, qi = r.isIn cl.x cl.y := ⟨_, rfl⟩
        have hcall : ∀ W', Below w1.heap.size w1 W' → Calls Tryz.prog 127 #[.agg #[.int .i64 r.w, .slice A r.rows.length c], .int .i64 cl.x, .int .i64 cl.y] W' fun en w' => ∃ E f,
            en = .returned (.tuple #[.agg #[.int .i64 x.w, .slice E x.rows.length f], .bool qi]) ∧ OI w' W'.heap.size w'.heap.size 3 1 (.slice E x.rows.length f) x.rows.length (ic x.rows) ∧ Below W'.heap.size W' w' := by
          intro W' hW'
          have H1' := H1.below.trans (hW'.mono H1.size)
          refine (spec_remove_c (r := r) cl.x cl.y W' ⟨_, rfl, (hs.keep (SameIn.of_below H1' (Nat.le_refl _))).more (Nat.le_refl _) H1'.size⟩ (by omega)).mono ?_
          rintro en w3 ⟨v3, rfl, ⟨s3, rfl, o3⟩, b3⟩
          rw [← hx] at o3 ⊢
          rw [← hqi]
          obtain ⟨E, f, rfl, _, _⟩ := o3.rd
          exact ⟨E, f, rfl, o3, b3⟩
        have HCALL := Lib.hid hcall
        have hb2 := hbs
        clear hst hck hcall hpv hx hqi
        go_wp2_with fail
        go_region_held3 (fun w' => w'.cell? ⟨w.heap.size, 0, none⟩ = some (.int .i64 r.w) ∧ w'.cell? ⟨w.heap.size, 1, none⟩ = some (.slice A r.rows.length c) ∧ w'.cell? ⟨bs, os + k * 2, none⟩ = some (.int .i64 cl.x) ∧ w'.cell? ⟨bs, os + k * 2 + 1, none⟩ = some (.int .i64 cl.y))
          (first | ((try dsimp only); refine ⟨?_, ?_, ?_, ?_⟩ <;> assumption) | go_keep)
          ((first
            | (go_at_call 127; (with_reducible refine (HCALL.out _ (below_drew (Below.refl w1.heap.size w1))).mono ?_); rintro en w3 ⟨E, f, rfl, o3, b3⟩; replace b3 := below_undrew b3; have H3 := H1.oiNew b3 o3; have n1 := H3.h3.lt; obtain ⟨q0', q1'⟩ := own_cell2 H3.h2 HCK.out; have c0' := H3.h3.cell 0; have c1' := H3.h3.cell 1; have n2 : bs < w3.heap.size := Nat.lt_of_lt_of_le hbs b3.size; simp at c0' c1')
            | (go_at_call 127; (with_reducible refine (HCALL.out _ (below_drew ((Below.refl w1.heap.size w1).alloc (Nat.le_refl _) _))).mono ?_); rintro en w3 ⟨E, f, rfl, o3, b3⟩; have H3 := (H1.box 36 #[.int .i64 0, .slice none 0 0]).drew.oiNew b3 o3; obtain ⟨q0', q1'⟩ := own_cell2 H3.h3 HCK.out; have c0' := H3.h4.cell 0; have c1' := H3.h4.cell 1; have g0' := H3.h1.cell 0; have g1' := H3.h1.cell 1; have f0' := H3.h1.frozen 0; have f1' := H3.h1.frozen 1; simp at c0' c1' g0' g1'; have H4 := (H3.g1.set_ 0 (.int .i64 x.w)).set_ 1 (.slice E x.rows.length f); obtain ⟨q0'', q1''⟩ := own_cell2 H4.h3 HCK.out; have c0'' := H4.h4.cell 0; have c1'' := H4.h4.cell 1; simp at c0'' c1'')))
        · have H8 := H3.box 36 #[.int .i64 x.w, .slice E x.rows.length f]
          clear q0' q1' c0' c1' q0 q1 c0 c1 H3 b3 o3 n1 n2 H1
          generalize w3.alloc (.cells #[.int .i64 x.w, .slice E x.rows.length f] 36) = W8 at *
          have hrx : RegRd W8 0 W8.heap.size (.agg #[.int .i64 x.w, .slice E x.rows.length f]) x := ⟨_, rfl, (H8.g1.oi.sr).more (Nat.zero_le _) (Nat.le_refl _)⟩
          have g0 := H8.h0.cell 0
          have g1 := H8.h0.cell 1
          simp at g0 g1
          go_wp2_with fail
          clear g0 g1
          refine (HHT.out W8 _ x H8.below hrx).mono ?_
          rintro e w5 ⟨rfl, b5⟩
          have H5 := H8.step b5
          clear b5 H8 hrx
          cases hxs : findB x ps
          rotate_left
          · have hst := HST.out
            rw [HPV.out, hxs] at hst
            simp only [if_true] at hst
            have HS := Lib.hid hst
            obtain ⟨q0, q1⟩ := own_cell2 H5.h3 HCK.out
            clear hst hxs
            go_wp2_with (at_builtin; refine wpList_app rfl _ _ 24 rfl 96 i0 _ 2 16 Tryz.underlying24 hi hz0 hz1 hz2 rfl (by decide) _ _ _ rfl (H5.alloc _).g2 _ _ _ [.int .i64 cl.x, .int .i64 cl.y] rfl (Rd.fresh w5 _ #[.int .i64 cl.x, .int .i64 cl.y] 2 1 rfl) oc2 (by unfold maxLen; omega) (by omega) ?_; intro v' w6 H6; have H7 := H6.p2.drop.drop; clear H6 H5 q0 q1)
            have H8 : Sep w w6 [Res.row v' 96 2 ((C.take (k + 1)).filter SF).length (cc ((C.take (k + 1)).filter SF)), Res.row (.slice (some ⟨bs, os, none⟩) C.length d) 96 2 C.length (cc C), Res.box w.heap.size 36 #[.int .i64 r.w, .slice A r.rows.length c]] := by
              rw [HS.out, cc_append, List.length_append]; exact H7
            clear H7
            go_wp2
            go_roundw
            case rel => exact ⟨k + 1, by omega, by go_num, Lib.hid (fun _ => HKS.out), H8⟩
            case measure => simp [intOf]; omega
          · have hst := HST.out
            rw [HPV.out, hxs] at hst
            simp only [Bool.false_eq_true, if_false, List.append_nil] at hst
            have HS := Lib.hid hst
            have H7 := H5.drop.drop
            clear hst hxs H5
            go_wp2
            go_roundw
            case rel => exact ⟨k + 1, by omega, by go_num, Lib.hid (fun _ => HKS.out), by rw [HS.out]; exact H7⟩
            case measure => simp [intOf]; omega
        · have H8 := H4
          clear q0' q1' c0' c1' q0 q1 c0 c1 H3 b3 o3 H4 q0'' q1'' c0'' c1'' g0' g1' f0' f1' H1
          generalize (w3.setCell ⟨w1.heap.size, 0, none⟩ (.int .i64 x.w)).setCell ⟨w1.heap.size, 1, none⟩ (.slice E x.rows.length f) = W8 at *
          have hrx : RegRd W8 0 W8.heap.size (.agg #[.int .i64 x.w, .slice E x.rows.length f]) x := ⟨_, rfl, (H8.g1.oi.sr).more (Nat.zero_le _) (Nat.le_refl _)⟩
          have g0 := H8.h0.cell 0
          have g1 := H8.h0.cell 1
          simp at g0 g1
          go_wp2_with fail
          clear g0 g1
          refine (HHT.out W8 _ x H8.below hrx).mono ?_
          rintro e w5 ⟨rfl, b5⟩
          have H5 := H8.step b5
          clear b5 H8 hrx
          cases hxs : findB x ps
          rotate_left
          · have hst := HST.out
            rw [HPV.out, hxs] at hst
            simp only [if_true] at hst
            have HS := Lib.hid hst
            obtain ⟨q0, q1⟩ := own_cell2 H5.h3 HCK.out
            clear hst hxs
            go_wp2_with (at_builtin; refine wpList_app rfl _ _ 24 rfl 96 i0 _ 2 16 Tryz.underlying24 hi hz0 hz1 hz2 rfl (by decide) _ _ _ rfl (H5.alloc _).g2 _ _ _ [.int .i64 cl.x, .int .i64 cl.y] rfl (Rd.fresh w5 _ #[.int .i64 cl.x, .int .i64 cl.y] 2 1 rfl) oc2 (by unfold maxLen; omega) (by omega) ?_; intro v' w6 H6; have H7 := H6.p2.drop.drop; clear H6 H5 q0 q1)
            have H8 : Sep w w6 [Res.row v' 96 2 ((C.take (k + 1)).filter SF).length (cc ((C.take (k + 1)).filter SF)), Res.row (.slice (some ⟨bs, os, none⟩) C.length d) 96 2 C.length (cc C), Res.box w.heap.size 36 #[.int .i64 r.w, .slice A r.rows.length c]] := by
              rw [HS.out, cc_append, List.length_append]; exact H7
            clear H7
            go_wp2
            go_roundw
            case rel => exact ⟨k + 1, by omega, by go_num, Lib.hid (fun _ => HKS.out), H8⟩
            case measure => simp [intOf]; omega
          · have hst := HST.out
            rw [HPV.out, hxs] at hst
            simp only [Bool.false_eq_true, if_false, List.append_nil] at hst
            have HS := Lib.hid hst
            have H7 := H5.drop.drop
            clear hst hxs H5
            go_wp2
            go_roundw
            case rel => exact ⟨k + 1, by omega, by go_num, Lib.hid (fun _ => HKS.out), by rw [HS.out]; exact H7⟩
            case measure => simp [intOf]; omega
    · obtain rfl : k = C.length := by omega
      rw [List.take_length] at H
      have hl0 : L = C.filter SF := by
        rcases Nat.eq_zero_or_pos C.length with h0 | h0
        · have hc := List.eq_nil_of_length_eq_zero h0
          rw [HN.out hc, hc]; rfl
        · exact HE.out (HK.out (by omega))
      have HL0 := Lib.hid hl0
      clear hl0
      go_wp2
      go_ret
      rw [HL0.out]
      exact ⟨_, rfl, CellsIn.mk H.oi.1 rfl rfl, H.below⟩
end Go.Proofs.YtfildenelgbmlaaGreatDoor
