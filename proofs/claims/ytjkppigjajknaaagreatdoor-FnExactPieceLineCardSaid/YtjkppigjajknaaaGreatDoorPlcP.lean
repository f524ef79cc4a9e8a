
/-
  Placements in plain Lean: ascending lists of numbers, the mask of some cells, all placements of a shape, of some shapes. No program in sight.
-/
import Derived.Test.YtjkppigjajknaaaGreatDoorOriP
import Derived.Test.YtjkppigjajknaaaGreatDoorRegData
import Derived.Test.YtjkppigjajknaaaGreatDoorMovI
namespace Go.Proofs.YtjkppigjajknaaaGreatDoor
open Go.RowKit

/-- ascending, each once -/
def Asc (l : List Int) : Prop := l.Pairwise (· < ·)
theorem asc_ext {a b : List Int} (ha : Asc a) (hb : Asc b) (h : ∀ c, c ∈ a ↔ c ∈ b) : a = b := pw_ext (fun a => Int.lt_irrefl a) (fun _ _ h => Int.lt_asymm h) ha hb h
/-- a number goes into an ascending list, once -/
def insN (n : Int) (l : List Int) : List Int := l.filter (fun d => decide (d < n)) ++ n :: l.filter (fun d => decide (n < d))
theorem mem_insN {n d : Int} {l : List Int} : d ∈ insN n l ↔ d = n ∨ d ∈ l := by
  unfold insN
  simp only [List.mem_append, List.mem_filter, List.mem_cons, decide_eq_true_eq]
  constructor
  · rintro (⟨h, _⟩ | h | ⟨h, _⟩)
    · exact .inr h
    · exact .inl h
    · exact .inr h
  · rintro (h | h)
    · exact .inr (.inl h)
    · rcases Int.lt_trichotomy d n with q | q | q
      · exact .inl ⟨h, q⟩
      · exact .inr (.inl q)
      · exact .inr (.inr ⟨h, q⟩)
theorem asc_insN {n : Int} {l : List Int} (h : Asc l) : Asc (insN n l) := by
  unfold insN Asc
  rw [List.pairwise_append, List.pairwise_cons]
  refine ⟨h.filter _, ⟨fun d hd => ?_, h.filter _⟩, fun a ha b hb => ?_⟩
  · simp at hd; exact hd.2
  · simp at ha hb
    rcases hb with rfl | hb
    · exact ha.2
    · omega
theorem insN_len {n : Int} {l : List Int} : (insN n l).length ≤ l.length + 1 := by
  have h1 : ∀ l : List Int, (l.filter (fun d => decide (d < n))).length + (l.filter (fun d => decide (n < d))).length ≤ l.length := by
    intro l
    induction l with
    | nil => simp
    | cons x l ih =>
      simp only [List.filter_cons, List.length_cons]
      by_cases h1 : x < n
      · rw [if_pos (by simpa using h1), if_neg (by simp; omega)]
        simp; omega
      · by_cases h2 : n < x
        · rw [if_neg (by simpa using h1), if_pos (by simpa using h2)]
          simp; omega
        · rw [if_neg (by simpa using h1), if_neg (by simpa using h2)]
          omega
  have := h1 l
  unfold insN
  simp
  omega
theorem insN_has {n : Int} {l : List Int} (h : Asc l) (hn : n ∈ l) : insN n l = l := asc_ext (asc_insN h) h fun d => by
  rw [mem_insN]
  exact ⟨fun hd => by rcases hd with rfl | hd; exact hn; exact hd, .inr⟩
/-- the place found from behind -/
theorem insN_at {n : Int} {l : List Int} {k : Nat} (h : Asc l) (hkl : k ≤ l.length) (h1 : ∀ (j : Nat) (d : Int), k ≤ j → l[j]? = some d → n < d) (h2 : ∀ d : Int, 0 < k → l[k - 1]? = some d → d < n) : insN n l = l.take k ++ n :: l.drop k := by
  have hk : ∀ d ∈ l.take k, d < n := fun d hd => by
    obtain ⟨j, hj, hd⟩ := mem_takeI hd
    by_cases e : j = k - 1
    · exact h2 d (by omega) (by rw [← e]; exact hd)
    · have hl : k - 1 < l.length := by omega
      have h3 : d < l[k - 1] := by
        obtain ⟨hj1, hj2⟩ := (List.getElem?_eq_some_iff.1 hd)
        rw [← hj2]
        exact List.pairwise_iff_getElem.1 h j (k - 1) hj1 hl (by omega)
      have h4 := h2 l[k - 1] (by omega) (List.getElem?_eq_getElem hl)
      omega
  have hk2 : ∀ d ∈ l.drop k, n < d := fun d hd => by
    obtain ⟨j, hj, hd⟩ := mem_dropI hd
    exact h1 j d hj hd
  have e : l = l.take k ++ l.drop k := (List.take_append_drop k l).symm
  unfold insN
  have e1 : l.filter (fun d => decide (d < n)) = l.take k := by
    conv => lhs; rw [e]
    rw [List.filter_append, List.filter_eq_self.2 (fun d hd => by simpa using hk d hd), List.filter_eq_nil_iff.2 (fun d hd => by have := hk2 d hd; simp; omega), List.append_nil]
  have e2 : l.filter (fun d => decide (n < d)) = l.drop k := by
    conv => lhs; rw [e]
    rw [List.filter_append, List.filter_eq_nil_iff.2 (fun d hd => by have := hk d hd; simp; omega), List.filter_eq_self.2 (fun d hd => by simpa using hk2 d hd), List.nil_append]
  rw [e1, e2]

/-- a list's numbers in order, each once -/
def srtU (l : List Int) : List Int := l.foldl (fun a n => insN n a) []
theorem srtU_snoc {l : List Int} {n : Int} : srtU (l ++ [n]) = insN n (srtU l) := by simp [srtU]
theorem asc_fold {l : List Int} : ∀ {a : List Int}, Asc a → Asc (l.foldl (fun a n => insN n a) a) := by
  induction l with
  | nil => intro a h; exact h
  | cons x l ih => intro a h; exact ih (asc_insN h)
theorem mem_fold {l : List Int} {c : Int} : ∀ {a : List Int}, c ∈ l.foldl (fun a n => insN n a) a ↔ c ∈ a ∨ c ∈ l := by
  induction l with
  | nil => intro a; simp
  | cons x l ih =>
    intro a
    rw [List.foldl_cons, ih, mem_insN, List.mem_cons]
    constructor
    · rintro ((h | h) | h)
      · exact .inr (.inl h)
      · exact .inl h
      · exact .inr (.inr h)
    · rintro (h | h | h)
      · exact .inl (.inr h)
      · exact .inl (.inl h)
      · exact .inr h
theorem asc_srtU {l : List Int} : Asc (srtU l) := asc_fold List.Pairwise.nil
theorem mem_srtU {l : List Int} {c : Int} : c ∈ srtU l ↔ c ∈ l := by unfold srtU; rw [mem_fold]; simp
theorem fold_len {l : List Int} : ∀ {a : List Int}, (l.foldl (fun a n => insN n a) a).length ≤ a.length + l.length := by
  induction l with
  | nil => intro a; simp
  | cons x l ih =>
    intro a
    have h1 := ih (a := insN x a)
    have h2 := insN_len (n := x) (l := a)
    simp only [List.foldl_cons, List.length_cons]
    omega
theorem srtU_len {l : List Int} : (srtU l).length ≤ l.length := by have := fold_len (l := l) (a := []); simpa [srtU] using this
/-- of a sorted list, each number once -/
def uniqTo (s : List Int) : Nat → List Int
  | 0 => []
  | k + 1 => if k = 0 ∨ s[k - 1]? ≠ s[k]? then uniqTo s k ++ [s.getD k 0] else uniqTo s k
theorem uniqTo_len {s : List Int} : ∀ k, (uniqTo s k).length ≤ k
  | 0 => Nat.le_refl _
  | k + 1 => by
    have := uniqTo_len (s := s) k
    unfold uniqTo
    split
    · simp; omega
    · omega
theorem uniq_all {s : List Int} (h : s.Pairwise (· ≤ ·)) : ∀ k, k ≤ s.length → Asc (uniqTo s k) ∧ ∀ c, c ∈ uniqTo s k ↔ c ∈ s.take k
  | 0, _ => ⟨List.Pairwise.nil, by simp [uniqTo]⟩
  | k + 1, hk => by
    obtain ⟨h1, h2⟩ := uniq_all h k (by omega)
    have e := List.getElem?_eq_getElem (show k < s.length by omega)
    have ht : s.take (k + 1) = s.take k ++ [s[k]] := by rw [List.take_add_one, e]; rfl
    unfold uniqTo
    rw [ht]
    split
    · rename_i hc
      have hg : s.getD k 0 = s[k] := by simp [List.getD, e]
      rw [hg]
      refine ⟨?_, fun c => by rw [List.mem_append, List.mem_append, h2]⟩
      unfold Asc
      rw [List.pairwise_append]
      refine ⟨h1, List.pairwise_singleton _ _, fun a ha b hb => ?_⟩
      simp at hb
      subst hb
      obtain ⟨j, hj, ha⟩ := mem_takeI ((h2 a).1 ha)
      have hk0 : k ≠ 0 := by omega
      have hc2 : s[k - 1]? ≠ s[k]? := by rcases hc with hc | hc; exact absurd hc hk0; exact hc
      have e1 := List.getElem?_eq_getElem (show k - 1 < s.length by omega)
      rw [e, e1] at hc2
      have h3 : s[k - 1] ≤ s[k] := List.pairwise_iff_getElem.1 h (k - 1) k (by omega) (by omega) (by omega)
      have h4 : s[k - 1] ≠ s[k] := fun q => hc2 (by rw [q])
      obtain ⟨hj1, hj2⟩ := List.getElem?_eq_some_iff.1 ha
      have h5 : a ≤ s[k - 1] := by
        rw [← hj2]
        by_cases q : j = k - 1
        · subst q; exact Int.le_refl _
        · exact List.pairwise_iff_getElem.1 h j (k - 1) hj1 (by omega) (by omega)
      omega
    · rename_i hc
      have hk0 : k ≠ 0 := fun q => hc (.inl q)
      have hc2 : s[k - 1]? = s[k]? := Classical.byContradiction fun q => hc (.inr q)
      refine ⟨h1, fun c => ?_⟩
      rw [h2, List.mem_append, List.mem_singleton]
      constructor
      · exact .inl
      · rintro (q | q)
        · exact q
        · subst q
          have e1 : s[k - 1]? = some s[k] := by rw [hc2, e]
          exact List.mem_of_getElem? (i := k - 1) (by rw [List.getElem?_take_of_lt (by omega)]; exact e1)
theorem uniq_srtU {s l : List Int} (h : s.Pairwise (· ≤ ·)) (hp : ∀ c, c ∈ s ↔ c ∈ l) : uniqTo s s.length = srtU l := by
  obtain ⟨h1, h2⟩ := uniq_all h s.length (Nat.le_refl _)
  refine asc_ext h1 asc_srtU fun c => ?_
  rw [h2, List.take_length, hp, mem_srtU]

/-- the bit of a cell -/
def bitOf (r : Reg) (c : Cell) : Nat := c.y.toNat * r.w.toNat + c.x.toNat
/-- the mask of cells, beside a mask that is there -/
def maskFrom (r : Reg) : Nat → List Cell → Option Nat
  | n, [] => some n
  | n, c :: s => if r.has c.x c.y = true ∧ n.testBit (bitOf r c) = false then maskFrom r (n + 2 ^ bitOf r c) s else none
def maskS (r : Reg) (s : List Cell) : Option Nat := maskFrom r 0 s
theorem has_in {r : Reg} {x y : Int} (h : r.has x y = true) : 0 ≤ x ∧ x < r.w ∧ 0 ≤ y ∧ y < r.rows.length := by
  unfold Reg.has at h
  simp only [Bool.and_eq_true, decide_eq_true_eq] at h
  exact h.1
theorem bitOf_lt {r : Reg} {c : Cell} (hv : r.Valid) (h : r.has c.x c.y = true) : bitOf r c < 36 := by
  obtain ⟨h1, h2, h3, h4⟩ := has_in h
  obtain ⟨v1, v2, v3, v4, _⟩ := hv
  unfold bitOf
  have a1 : c.y.toNat ≤ 5 := by omega
  have a2 : r.w.toNat ≤ 6 := by omega
  have a3 : c.x.toNat + 1 ≤ r.w.toNat := by omega
  have := Nat.mul_le_mul_right r.w.toNat a1
  omega
theorem add_bit {n b : Nat} (h : n.testBit b = false) : n + 2 ^ b = n ||| 2 ^ b := by
  apply Nat.eq_of_testBit_eq
  intro i
  rw [Nat.testBit_or, Nat.testBit_two_pow]
  by_cases e : b = i
  · subst e
    rw [Nat.add_comm, Nat.testBit_two_pow_add_eq, h]; simp
  · rcases Nat.lt_or_ge i b with q | q
    · rw [Nat.add_comm, Nat.testBit_two_pow_add_gt q]; simp; omega
    · have e1 : n = 2 ^ b * (n / 2 ^ b) + n % 2 ^ b := (Nat.div_add_mod n (2 ^ b)).symm
      have hev : n / 2 ^ b % 2 = 0 := by
        rw [Nat.testBit_eq_decide_div_mod_eq] at h
        simp at h
        omega
      have hlt : n % 2 ^ b < 2 ^ b := Nat.mod_lt _ (Nat.pow_pos (by decide))
      have e2 : n + 2 ^ b = 2 ^ b * (n / 2 ^ b + 1) + n % 2 ^ b := by rw [Nat.mul_add]; omega
      have hge : b + (i - b) = i := by omega
      have t1 : n.testBit i = (n / 2 ^ b).testBit (i - b) := by
        rw [← Nat.shiftRight_eq_div_pow, Nat.testBit_shiftRight, hge]
      have t2 : (n + 2 ^ b).testBit i = (n / 2 ^ b + 1).testBit (i - b) := by
        have : (n + 2 ^ b) / 2 ^ b = n / 2 ^ b + 1 := Nat.add_div_right n (Nat.pow_pos (by decide))
        rw [← this, ← Nat.shiftRight_eq_div_pow, Nat.testBit_shiftRight, hge]
      have hib : i - b ≠ 0 := by omega
      obtain ⟨d, hd⟩ : ∃ d, i - b = d + 1 := ⟨i - b - 1, by omega⟩
      rw [t1, t2, hd, Nat.testBit_succ, Nat.testBit_succ]
      have : (n / 2 ^ b + 1) / 2 = n / 2 ^ b / 2 := by omega
      rw [this]
      simp [e]
theorem add_bit_lt {n b : Nat} (h : n.testBit b = false) (hn : n < 2 ^ 36) (hb : b < 36) : n + 2 ^ b < 2 ^ 36 := by
  rw [add_bit h]
  exact Nat.or_lt_two_pow hn (Nat.pow_lt_pow_right (by decide) hb)
theorem maskFrom_lt {r : Reg} (hv : r.Valid) : ∀ {s : List Cell} {n m : Nat}, n < 2 ^ 36 → maskFrom r n s = some m → m < 2 ^ 36
  | [], n, m, hn, h => by injection h with h; omega
  | c :: s, n, m, hn, h => by
    unfold maskFrom at h
    split at h
    · rename_i hc
      exact maskFrom_lt hv (add_bit_lt hc.2 hn (bitOf_lt hv hc.1)) h
    · cases h
theorem maskS_lt {r : Reg} (hv : r.Valid) {s : List Cell} {m : Nat} (h : maskS r s = some m) : m < 2 ^ 36 := maskFrom_lt hv (by decide) h

def optI (o : Option Nat) : List Int := (o.map fun n => (n : Int)).toList
/-- the masks of a shape in row y, at columns below k -/
def rawX (r : Reg) (t : List Cell) (y k : Nat) : List Int := (List.range k).flatMap fun x : Nat => optI (maskS r (moveS t x y))
def rawY (r : Reg) (t : List Cell) (k : Nat) : List Int := (List.range k).flatMap fun y => rawX r t y r.w.toNat
def rawT (r : Reg) (T : List (List Cell)) : List Int := T.flatMap fun t => rawY r t r.rows.length
def plcRaw (r : Reg) (s : List Cell) : List Int := rawT r (orients s)
/-- the placements of a shape -/
def plc (r : Reg) (s : List Cell) : List Int := srtU (plcRaw r s)
def allRaw (r : Reg) (ps : List (List Cell)) : List Int := ps.flatMap (plc r)
/-- the placements of some shapes -/
def allP (r : Reg) (ps : List (List Cell)) : List Int := srtU (allRaw r ps)
theorem rawX_succ {r : Reg} {t : List Cell} {y k : Nat} : rawX r t y (k + 1) = rawX r t y k ++ optI (maskS r (moveS t k y)) := by simp [rawX, List.range_succ]
theorem rawY_succ {r : Reg} {t : List Cell} {k : Nat} : rawY r t (k + 1) = rawY r t k ++ rawX r t k r.w.toNat := by simp [rawY, List.range_succ]
theorem rawT_snoc {r : Reg} {T : List (List Cell)} {t : List Cell} : rawT r (T ++ [t]) = rawT r T ++ rawY r t r.rows.length := by simp [rawT]
theorem rawT_take {r : Reg} {T : List (List Cell)} {t : List Cell} {k : Nat} (h : T[k]? = some t) : rawT r (T.take (k + 1)) = rawT r (T.take k) ++ rawY r t r.rows.length := by
  rw [List.take_add_one, h, ← rawT_snoc]; rfl
theorem allRaw_take {r : Reg} {T : List (List Cell)} {t : List Cell} {k : Nat} (h : T[k]? = some t) : allRaw r (T.take (k + 1)) = allRaw r (T.take k) ++ plc r t := by
  rw [List.take_add_one, h]; simp [allRaw]
theorem optI_len {o : Option Nat} : (optI o).length ≤ 1 := by cases o <;> simp [optI]
theorem rawX_len {r : Reg} {t : List Cell} {y : Nat} : ∀ k, (rawX r t y k).length ≤ k
  | 0 => by simp [rawX]
  | k + 1 => by have := rawX_len (r := r) (t := t) (y := y) k; have := optI_len (o := maskS r (moveS t k y)); rw [rawX_succ, List.length_append]; omega
theorem rawY_len {r : Reg} {t : List Cell} (hv : r.Valid) : ∀ k, (rawY r t k).length ≤ k * 6
  | 0 => by simp [rawY]
  | k + 1 => by have := rawY_len (t := t) hv k; have := rawX_len (r := r) (t := t) (y := k) r.w.toNat; have := hv.2.1; rw [rawY_succ, List.length_append]; omega
theorem rawT_len {r : Reg} (hv : r.Valid) : ∀ T : List (List Cell), (rawT r T).length ≤ T.length * 36
  | [] => by simp [rawT]
  | t :: T => by
    have h1 := rawT_len hv T
    have h2 := rawY_len (t := t) hv r.rows.length
    have := hv.2.2.2.1
    have e : rawT r (t :: T) = rawY r t r.rows.length ++ rawT r T := by simp [rawT]
    rw [e, List.length_append, List.length_cons]
    omega
theorem plcRaw_len {r : Reg} (hv : r.Valid) {s : List Cell} : (plcRaw r s).length ≤ 288 := by
  have h1 := rawT_len hv (orients s)
  have h2 := orients_le (s := s) 8
  unfold plcRaw
  have : (orients s).length ≤ 8 := h2
  omega
theorem plc_len {r : Reg} (hv : r.Valid) {s : List Cell} : (plc r s).length ≤ 288 := Nat.le_trans srtU_len (plcRaw_len hv)
theorem allRaw_len {r : Reg} (hv : r.Valid) : ∀ ps : List (List Cell), (allRaw r ps).length ≤ ps.length * 288
  | [] => by simp [allRaw]
  | s :: ps => by
    have h1 := allRaw_len hv ps
    have h2 := plc_len hv (s := s)
    have e : allRaw r (s :: ps) = plc r s ++ allRaw r ps := by simp [allRaw]
    rw [e, List.length_append, List.length_cons]
    omega
theorem allP_len {r : Reg} (hv : r.Valid) {ps : List (List Cell)} : (allP r ps).length ≤ ps.length * 288 := Nat.le_trans srtU_len (allRaw_len hv ps)
/-- a mask's range -/
def Mk36 (n : Int) : Prop := 0 ≤ n ∧ n < 68719476736
theorem optI_mk {r : Reg} (hv : r.Valid) {s : List Cell} {n : Int} (h : n ∈ optI (maskS r s)) : Mk36 n := by
  unfold optI at h
  cases hm : maskS r s with
  | none => rw [hm] at h; simp at h
  | some m =>
    rw [hm] at h
    simp at h
    have := maskS_lt hv hm
    subst h
    exact ⟨by omega, by omega⟩
theorem plc_mk {r : Reg} (hv : r.Valid) {s : List Cell} {n : Int} (h : n ∈ plc r s) : Mk36 n := by
  unfold plc at h
  rw [mem_srtU] at h
  unfold plcRaw rawT at h
  obtain ⟨t, _, h⟩ := List.mem_flatMap.1 h
  obtain ⟨y, _, h⟩ := List.mem_flatMap.1 h
  obtain ⟨x, _, h⟩ := List.mem_flatMap.1 h
  exact optI_mk hv h
theorem allP_mk {r : Reg} (hv : r.Valid) {ps : List (List Cell)} {n : Int} (h : n ∈ allP r ps) : Mk36 n := by
  unfold allP at h
  rw [mem_srtU] at h
  obtain ⟨t, _, h⟩ := List.mem_flatMap.1 h
  exact plc_mk hv h
/-- the placements as naturals -/
def allN (r : Reg) (ps : List (List Cell)) : List Nat := (allP r ps).map Int.toNat
def nl (A : List Nat) : List Int := A.map fun n : Nat => (n : Int)
theorem nl_allN {r : Reg} (hv : r.Valid) {ps : List (List Cell)} : nl (allN r ps) = allP r ps := by
  unfold nl allN
  rw [List.map_map]
  conv => rhs; rw [← List.map_id (allP r ps)]
  apply List.map_congr_left
  intro n hn
  have := (allP_mk hv hn).1
  simp
  omega
theorem allN_lt {r : Reg} (hv : r.Valid) {ps : List (List Cell)} : ∀ n ∈ allN r ps, n < 2 ^ 36 := by
  intro n hn
  obtain ⟨a, ha, rfl⟩ := List.mem_map.1 hn
  obtain ⟨h1, h2⟩ := allP_mk hv ha
  omega
theorem allN_len {r : Reg} (hv : r.Valid) {ps : List (List Cell)} : (allN r ps).length ≤ ps.length * 288 := by unfold allN; rw [List.length_map]; exact allP_len hv
/-- are these pieces? -/
def arePcs (ps : List (List Cell)) : Bool := ps.all isShape && inR ps.length 1 5
end Go.Proofs.YtjkppigjajknaaaGreatDoor
