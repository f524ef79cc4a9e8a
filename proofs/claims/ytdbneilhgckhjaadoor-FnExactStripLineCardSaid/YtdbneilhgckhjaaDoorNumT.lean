
/-
  Numbers as a text, separated by commas: the reference's and the program's.
-/
import Derived.Test.YtdbneilhgckhjaaDoorStr
import Derived.Lib.Strings
namespace Go.Proofs.YtdbneilhgckhjaaDoor
open Go.RowKit

/-- what 'FormatInt' answers in all worlds behind one -/
def SNumAt (w : World) (n : Int) (b : ByteArray) : Prop := ∀ w', Below w.heap.size w w' → Calls Tryd.prog 29 #[.int .i64 n] w' fun e w'' => e = .returned (.string b) ∧ Below w'.heap.size w' w''
def INumAt (w : World) (n : Int) (b : ByteArray) : Prop := ∀ w', Below w.heap.size w w' → Calls Tryd.prog 39 #[.int .i64 n] w' fun e w'' => e = .returned (.string b) ∧ Below w'.heap.size w' w''
theorem SNumAt.on {w w1 : World} {n : Int} {b : ByteArray} (h : SNumAt w n b) (hb : Below w.heap.size w w1) : SNumAt w1 n b := fun w' hw => h w' (hb.trans (hw.mono hb.size))
theorem INumAt.on {w w1 : World} {n : Int} {b : ByteArray} (h : INumAt w n b) (hb : Below w.heap.size w w1) : INumAt w1 n b := fun w' hw => h w' (hb.trans (hw.mono hb.size))
def commaB : ByteArray := ⟨#[44]⟩
def spaceB : ByteArray := ⟨#[32]⟩
def noneT : ByteArray := ⟨#[110, 111, 110, 101]⟩
def numTo (f : Int → ByteArray) (l : List Int) (k : Nat) : ByteArray := joinB commaB ((l.take k).map f)
def numT (f : Int → ByteArray) (l : List Int) : ByteArray := if l = [] then noneT else joinB commaB (l.map f)
theorem numTo_zero {f : Int → ByteArray} {l : List Int} : numTo f l 0 = ⟨#[]⟩ := rfl
theorem ba_nil (b : ByteArray) : (⟨#[]⟩ : ByteArray) ++ b = b := by apply ba_ext; simp
theorem numTo_succ {f : Int → ByteArray} {l : List Int} {k : Nat} {n : Int} (h : l[k]? = some n) : numTo f l (k + 1) = if 0 < k then numTo f l k ++ commaB ++ f n else numTo f l k ++ f n := by
  have hk : k < l.length := (List.getElem?_eq_some_iff.1 h).1
  have hn : l[k] = n := (List.getElem?_eq_some_iff.1 h).2
  unfold numTo
  rw [List.take_succ_eq_append_getElem hk, hn, List.map_append, List.map_cons, List.map_nil]
  split
  · rename_i h0
    refine joinB_snoc _ _ _ fun e => ?_
    have := congrArg List.length e
    rw [List.length_map, List.length_take] at this
    simp only [List.length_nil] at this
    omega
  · obtain rfl : k = 0 := by omega
    rw [List.take_zero, List.map_nil, List.nil_append, joinB_one, joinB_nil, ba_nil]
theorem numTo_size {f : Int → ByteArray} {l : List Int} (h : ∀ n ∈ l, (f n).size ≤ 30) (k : Nat) (hk : k ≤ l.length) : (numTo f l k).size ≤ k * 31 := by
  have := joinB_size (s := commaB) (b := 30) (l := (l.take k).map f) (by
    intro x hx
    obtain ⟨n, hn, rfl⟩ := List.mem_map.1 hx
    exact h n (List.mem_of_mem_take hn))
  rw [List.length_map, List.length_take, Nat.min_eq_left hk] at this
  exact this
theorem numTo_pos {f : Int → ByteArray} {l : List Int} (h : ∀ n ∈ l, 1 ≤ (f n).size) : ∀ k, 0 < k → k ≤ l.length → 1 ≤ (numTo f l k).size
  | k + 1, _, hk => by
    have h1 : l[k]? = some l[k] := List.getElem?_eq_getElem (by omega)
    rw [numTo_succ h1]
    have := h l[k] (List.getElem_mem _)
    split
    · rw [ByteArray.size_append]; omega
    · rw [ByteArray.size_append]; omega
theorem numT_all {f : Int → ByteArray} {l : List Int} (h : l ≠ []) : numT f l = numTo f l l.length := by
  unfold numT numTo
  rw [if_neg h, List.take_length]
theorem not_empty {b : ByteArray} (h : 1 ≤ b.size) : b.toList.isEmpty = false ∧ ¬ b.toList = [] := by
  have hn : ¬ b.toList = [] := by
    rw [Lib.toList_data]
    intro e
    have := congrArg List.length e
    simp at this
    have h2 : b.size = b.data.size := rfl
    rw [h2, this] at h
    simp at h
  exact ⟨by simpa using hn, hn⟩

set_option maxRecDepth 100000 in
set_option maxHeartbeats 1600000 in
theorem l34Numbers_c {f : Int → ByteArray} {v : Value} {l : List Int} (w : World) (h : IntsRd w 0 w.heap.size v l) (hf : ∀ n ∈ l, SNumAt w n (f n)) (hs1 : ∀ n ∈ l, 1 ≤ (f n).size) (hs : ∀ n ∈ l, (f n).size ≤ 30) (hn : l.length ≤ 1048576) :
    Calls Tryd.prog 18 #[v] w fun e w' => e = .returned (.string (numT f l)) ∧ Below w.heap.size w w' := by
  obtain ⟨A, c, rfl, _, hr⟩ := h
  have HF := Lib.hid hf
  have HS1 := Lib.hid hs1
  have HS := Lib.hid hs
  clear hf hs1 hs
  obtain ⟨R, hR⟩ : ∃ R, R = numT f l := ⟨_, rfl⟩
  rw [← hR]
  have HR := Lib.hid hR
  clear hR
  go_enter Tryd.func18, Tryd.ntmps18
  go_wp2
  go_loopw [3, 4] (fun s i wr => ∃ k : Nat, k ≤ l.length ∧ i = .int .i64 k ∧ s = .string (numTo f l k) ∧ Below w.heap.size w wr) (fun _ i _ => l.length - (intOf i).toNat)
  case atStart => exact ⟨0, Nat.zero_le _, rfl, rfl, Below.refl _ _⟩
  case round =>
    obtain ⟨k, hk, rfl, rfl, hbel⟩ := hrel
    by_cases hlt : k < l.length
    · obtain ⟨b, off, n, rfl, _, hb, hla, q1⟩ := (hr.below hbel (Nat.le_refl _)).at1 hlt
      have hmem := List.mem_of_getElem? hla
      have HN := Lib.hid (HF.out n hmem)
      have HNS := Lib.hid (numTo_succ (f := f) hla)
      have z1 := HS.out n hmem
      have z2 := numTo_size HS.out k hk
      have z3 : (numTo f l k).size ≤ 40000000 := by omega
      have z4 : (numTo f l k ++ (⟨#[44]⟩ : ByteArray)).size ≤ 40000001 := by rw [ByteArray.size_append]; have : (⟨#[44]⟩ : ByteArray).size = 1 := rfl; omega
      clear hr hla hmem z2
      by_cases hk0 : 0 < k
      · have hdk : decide ((0 : Int) < (k : Int)) = true := by simp; omega
        go_wp2_with fail
        refine (HN.out wr hbel).mono ?_
        rintro e w1 ⟨rfl, b1⟩
        have hbel2 := hbel.trans (b1.mono hbel.size)
        have hst : numTo f l k ++ ⟨#[44]⟩ ++ f n = numTo f l (k + 1) := by rw [HNS.out, if_pos hk0]; rfl
        have HST := Lib.hid hst
        clear hbel b1 q1 hst
        go_wp2
        go_roundw
        case rel => exact ⟨k + 1, by omega, by go_num, by rw [HST.out], hbel2⟩
        case measure => simp [intOf]; omega
      · have hdk : decide ((0 : Int) < (k : Int)) = false := by simp; omega
        go_wp2_with fail
        refine (HN.out wr hbel).mono ?_
        rintro e w1 ⟨rfl, b1⟩
        have hbel2 := hbel.trans (b1.mono hbel.size)
        have hst : numTo f l k ++ f n = numTo f l (k + 1) := by rw [HNS.out, if_neg hk0]
        have HST := Lib.hid hst
        clear hbel b1 q1 hst
        go_wp2
        go_roundw
        case rel => exact ⟨k + 1, by omega, by go_num, by rw [HST.out], hbel2⟩
        case measure => simp [intOf]; omega
    · obtain rfl : k = l.length := by omega
      by_cases hl0 : l = []
      · subst hl0
        obtain rfl : R = noneT := by rw [HR.out]; rfl
        rw [show numTo f [] ([] : List Int).length = ⟨#[]⟩ from rfl]
        go_wp2
        go_ret
        exact ⟨rfl, hbel⟩
      · obtain rfl : R = numTo f l l.length := by rw [HR.out, numT_all hl0]
        obtain ⟨n1, n2⟩ := not_empty (numTo_pos HS1.out l.length (List.length_pos_iff.2 hl0) (Nat.le_refl _))
        have HL0 := Lib.hid hl0
        clear hl0
        go_wp2
        go_ret
        exact ⟨rfl, hbel⟩

set_option maxRecDepth 100000 in
set_option maxHeartbeats 1600000 in
theorem numbersText_c {f : Int → ByteArray} {v : Value} {l : List Int} (w : World) (h : IntsRd w 0 w.heap.size v l) (hf : ∀ n ∈ l, INumAt w n (f n)) (hs : ∀ n ∈ l, (f n).size ≤ 30) (hn : l.length ≤ 1048576) :
    Calls Tryd.prog 22 #[v] w fun e w' => e = .returned (.string (numT f l)) ∧ Below w.heap.size w w' := by
  obtain ⟨i0, hi, hz0, hz1, hz2⟩ := info_parts infoStr
  obtain ⟨A, c, rfl, _, hr⟩ := h
  have HF := Lib.hid hf
  have HS := Lib.hid hs
  clear hf hs
  obtain ⟨R, hR⟩ : ∃ R, R = numT f l := ⟨_, rfl⟩
  rw [← hR]
  by_cases hl0 : l = []
  · subst hl0
    obtain rfl : R = noneT := by rw [hR]; rfl
    clear hR hr
    go_enter Tryd.func22, Tryd.ntmps22
    go_wp2
    go_ret
    exact ⟨rfl, Below.refl _ _⟩
  · have hlp : 0 < l.length := List.length_pos_iff.2 hl0
    have hz : ((l.length : Int) == 0) = false := by simp; omega
    have HR := Lib.hid (hR.trans (by unfold numT; rw [if_neg hl0] : numT f l = joinB commaB (l.map f)))
    have H0 := (Sep.start w).nil 9 1
    clear hR hl0
    go_enter Tryd.func22, Tryd.ntmps22
    go_wp2
    clear hz
    go_loopw [3, 11] (fun p i wr => ∃ k : Nat, k ≤ l.length ∧ i = .int .i64 k ∧ Sep w wr [Res.row p 9 1 k (sc ((l.take k).map f))]) (fun _ i _ => l.length - (intOf i).toNat)
    case atStart => exact ⟨0, Nat.zero_le _, rfl, H0⟩
    case round =>
      clear H0
      obtain ⟨k, hk, rfl, H⟩ := hrel
      by_cases hlt : k < l.length
      · obtain ⟨b, off, n, rfl, _, hb, hla, q1⟩ := (hr.below H.below (Nat.le_refl _)).at1 hlt
        have hmem := List.mem_of_getElem? hla
        have HN := Lib.hid (HF.out n hmem)
        have hx : sc ((l.take k).map f) ++ [Value.string (f n)] = sc ((l.take (k + 1)).map f) := by
          rw [List.take_succ_eq_append_getElem hlt, List.map_append, sc_append, (List.getElem?_eq_some_iff.1 hla).2]
          rfl
        have HX := Lib.hid hx
        clear hr hla hmem hx
        go_wp2_with fail
        refine (HN.out wr H.below).mono ?_
        rintro e w1 ⟨rfl, b1⟩
        have H1 := H.step b1
        clear H b1 q1
        go_wp2_with (at_builtin; refine wpList_app rfl _ _ 41 rfl 9 i0 _ 1 16 Tryd.underlying41 hi hz0 hz1 hz2 rfl (by decide) _ _ _ rfl (H1.alloc _) _ _ _ [.string (f n)] rfl (Rd.fresh w1 _ #[.string (f n)] 1 1 rfl) ocs (by unfold maxLen; omega) (by omega) ?_; intro v2 w2 H2; clear H1)
        rw [HX.out] at H2
        go_roundw
        case rel => exact ⟨k + 1, by omega, by go_num, H2⟩
        case measure => simp [intOf]; omega
      · obtain rfl : k = l.length := by omega
        rw [List.take_length] at H
        have HJ := Lib.hid (join_own (b := 30) ⟨#[44]⟩ H (by rw [List.length_map]) (by
          intro x hx
          obtain ⟨n, hn, rfl⟩ := List.mem_map.1 hx
          exact HS.out n hn) (by rw [List.length_map]; exact hn) (by decide))
        obtain ⟨Ap, cp, rfl, _, _, _⟩ := Res.row_at H.h0
        have hbel := H.below
        clear H
        go_wp2_with fail
        refine (HJ.out).mono ?_
        rintro e w1 ⟨rfl, b1⟩
        have hb2 := hbel.trans (b1.mono hbel.size)
        obtain rfl : R = joinB ⟨#[44]⟩ (l.map f) := HR.out
        go_wp2
        go_ret
        exact ⟨rfl, hb2⟩
end Go.Proofs.YtdbneilhgckhjaaDoor
