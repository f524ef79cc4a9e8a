
/-
  Numbers as a text, separated by commas: the reference's and the program's.
-/
import Derived.Test.YtjoglffhdoneoaaGreatDoorStr
import Derived.Lib.Strings
namespace Go.Proofs.YtjoglffhdoneoaaGreatDoor
open Go.RowKit

/-- what 'FormatInt' answers in all worlds behind one -/
def SNumAt (w : World) (n : Int) (b : ByteArray) : Prop := ∀ w', Below w.heap.size w w' → Calls Tryz.prog 47 #[.int .i64 n] w' fun e w'' => e = .returned (.string b) ∧ Below w'.heap.size w' w''
def INumAt (w : World) (n : Int) (b : ByteArray) : Prop := ∀ w', Below w.heap.size w w' → Calls Tryz.prog 59 #[.int .i64 n] w' fun e w'' => e = .returned (.string b) ∧ Below w'.heap.size w' w''
theorem SNumAt.on {w w1 : World} {n : Int} {b : ByteArray} (h : SNumAt w n b) (hb : Below w.heap.size w w1) : SNumAt w1 n b := fun w' hw => h w' (hb.trans (hw.mono hb.size))
theorem INumAt.on {w w1 : World} {n : Int} {b : ByteArray} (h : INumAt w n b) (hb : Below w.heap.size w w1) : INumAt w1 n b := fun w' hw => h w' (hb.trans (hw.mono hb.size))
def commaB : ByteArray := ⟨#[44]⟩
def spaceB : ByteArray := ⟨#[32]⟩
def noneT : ByteArray := ⟨#[110, 111, 110, 101]⟩
def numTo (f : Int → ByteArray) (l : List Int) (k : Nat) : ByteArray := joinB commaB ((l.take k).map f)
def numT (f : Int → ByteArray) (l : List Int) : ByteArray := if l = [] then noneT else joinB commaB (l.map f)
theorem numTo_zero {f : Int → ByteArray} {l : List Int} : numTo f l 0 = ⟨#[]⟩ := rfl
theorem ba_nil (b : ByteArray) : (⟨#[]⟩ : ByteArray) ++ b = b := by apply ba_ext; simp
theorem numTo_succ {f : Int → ByteArray} {l : List Int} {k : Nat} {n : Int} (h : l[k]? = some n) : numTo f l (k + 1) = if 0 < k then numTo f l k ++ commaB ++ f n else numTo f l k ++ f n := by
  have hk : k < l.length := (List.getElem?_eq_some_iff.1 h).1
  have hn : l[k] = n := (List.getElem?_eq_some_iff.1 h).2
  unfold numTo
  rw [List.take_succ_eq_append_getElem hk, hn, List.map_append, List.map_cons, List.map_nil]
  split
  · rename_i h0
    refine joinB_snoc _ _ _ fun e => ?_
    have := congrArg List.length e
    rw [List.length_map, List.length_take] at this
    simp only [List.length_nil] at this
    omega
  · obtain rfl : k = 0 := by omega
    rw [List.take_zero, List.map_nil, List.nil_append, joinB_one, joinB_nil, ba_nil]
theorem numTo_size {f : Int → ByteArray} {l : List Int} (h : ∀ n ∈ l, (f n).size ≤ 30) (k : Nat) (hk : k ≤ l.length) : (numTo f l k).size ≤ k * 31 := by
  have := joinB_size (s := commaB) (b := 30) (l := (l.take k).map f) (by
    intro x hx
    obtain ⟨n, hn, rfl⟩ := List.mem_map.1 hx
    exact h n (List.mem_of_mem_take hn))
  rw [List.length_map, List.length_take, Nat.min_eq_left hk] at this
  exact this
theorem numTo_pos {f : Int → ByteArray} {l : List Int} (h : ∀ n ∈ l, 1 ≤ (f n).size) : ∀ k, 0 < k → k ≤ l.length → 1 ≤ (numTo f l k).size
  | k + 1, _, hk => by
    have h1 : l[k]? = some l[k] := List.getElem?_eq_getElem (by omega)
    rw [numTo_succ h1]
    have := h l[k] (List.getElem_mem _)
    split
    · rw [ByteArray.size_append]; omega
    · rw [ByteArray.size_append]; omega
theorem numT_all {f : Int → ByteArray} {l : List Int} (h : l ≠ []) : numT f l = numTo f l l.length := by
  unfold numT numTo
  rw [if_neg h, List.take_length]
theorem not_empty {b : ByteArray} (h : 1 ≤ b.size) : b.toList.isEmpty = false ∧ ¬ b.toList = [] := by
  have hn : ¬ b.toList = [] := by
    rw [Lib.toList_data]
    intro e
    have := congrArg List.length e
    simp at this
    have h2 : b.size = b.data.size := rfl
    rw [h2, this] at h
    simp at h
  exact ⟨by simpa using hn, hn⟩

end Go.Proofs.YtjoglffhdoneoaaGreatDoor
