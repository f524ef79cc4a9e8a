
/-
  Rows of strings; strings.Join; texts joined. Numbers as a text, separated by commas: the reference's and the program's. The program's 'line': texts joined by blanks.
-/
import Derived.Test.YtfmkmjebkmimkaaGreatDoorShelf
import Derived.Test.YtfmkmjebkmimkaaGreatDoorSepX
import Derived.Lib.Join
import Derived.Lib.Strings
namespace Go.Proofs.YtfmkmjebkmimkaaGreatDoor
open Go.RowKit

def sc (l : List ByteArray) : List Value := l.map .string
theorem sc_at {l : List ByteArray} {k : Nat} {a : ByteArray} (h : l[k]? = some a) : (sc l)[k]? = some (.string a) := by simp [sc, h]
theorem sc_length {l : List ByteArray} : (sc l).length = l.length := by simp [sc]
theorem sc_append (l m : List ByteArray) : sc (l ++ m) = sc l ++ sc m := by simp [sc]
theorem sc_one {l : List ByteArray} : ∀ u ∈ sc l, u.oneCell' = true := by
  intro u hu
  obtain ⟨a, _, rfl⟩ := List.mem_map.1 hu
  rfl
theorem ocs {a : ByteArray} : ∀ u ∈ [Value.string a], u.oneCell' = true := by intro u hu; simp at hu; subst hu; rfl
set_option maxRecDepth 100000 in
theorem infoStr : (Tryz.prog.info? 9).map (fun i => (i.zero, i.size, i.bytes)) = some (some (.string ⟨#[]⟩), 1, 16) := by kernel_rfl
def StrsRd (w : World) (lo hi : Nat) (v : Value) (l : List ByteArray) : Prop := SR w lo hi 1 v l.length (sc l)
def StrsIn (w : World) (lo hi : Nat) (v : Value) (l : List ByteArray) : Prop := OI w lo hi 9 1 v l.length (sc l)
section
variable {w w' : World} {lo hi lo' hi' : Nat} {v : Value} {l : List ByteArray}
theorem StrsRd.keep (h : StrsRd w lo hi v l) (hs : SameIn lo hi w w') : StrsRd w' lo hi v l := SR.keep h hs
theorem StrsRd.more (h : StrsRd w lo hi v l) (h1 : lo' ≤ lo) (h2 : hi ≤ hi') : StrsRd w lo' hi' v l := SR.more h h1 h2
theorem StrsIn.keep (h : StrsIn w lo hi v l) (hs : SameIn lo hi w w') : StrsIn w' lo hi v l := OI.keep h hs
theorem StrsIn.rd (h : StrsIn w lo hi v l) : StrsRd w lo hi v l := OI.sr h
theorem StrsIn.mk {n : Nat} {xs : List Value} (h : w.ownsRow lo 9 1 v n xs) (hn : n = l.length) (hx : xs = sc l) : StrsIn w lo w.heap.size v l := by
  subst hn
  subst hx
  exact OI.mk h
theorem StrsIn.nil : StrsIn w lo hi (.slice none 0 0) [] := OI.nil
end

/-- texts, a text between any two -/
def joinB (sep : ByteArray) (l : List ByteArray) : ByteArray := ⟨(Lib.join (l.map (·.data.toList)) sep.data.toList).toArray⟩
theorem joinB_nil (s : ByteArray) : joinB s [] = ⟨#[]⟩ := rfl
theorem joinB_one (s x : ByteArray) : joinB s [x] = x := by
  apply ba_ext
  simp [joinB, Lib.join_one]
theorem join_two (x y s : List UInt8) (r : List (List UInt8)) : Lib.join (x :: y :: r) s = x ++ s ++ Lib.join (y :: r) s := by
  rw [Lib.join_cons, Lib.join_cons]
  simp [Lib.joinTail, List.append_assoc]
theorem joinB_cons (s x y : ByteArray) (r : List ByteArray) : joinB s (x :: y :: r) = x ++ s ++ joinB s (y :: r) := by
  apply ba_ext
  simp only [joinB, List.map_cons, ba_app]
  exact join_two _ _ _ _
theorem join_snoc (s x : List UInt8) : ∀ (l : List (List UInt8)), l ≠ [] → Lib.join (l ++ [x]) s = Lib.join l s ++ s ++ x
  | [], h => absurd rfl h
  | [a], _ => by rw [List.singleton_append, join_two, Lib.join_one, Lib.join_one]
  | a :: b :: r, _ => by
    rw [List.cons_append, List.cons_append, join_two, join_two, ← List.cons_append, join_snoc s x (b :: r) (by simp)]
    simp [List.append_assoc]
theorem joinB_snoc (s x : ByteArray) (l : List ByteArray) (h : l ≠ []) : joinB s (l ++ [x]) = joinB s l ++ s ++ x := by
  apply ba_ext
  simp only [joinB, List.map_append, List.map_cons, List.map_nil, ba_app]
  exact join_snoc _ _ _ (by simpa using h)
theorem join_len {s : List UInt8} {b : Nat} : ∀ {l : List (List UInt8)}, (∀ x ∈ l, x.length ≤ b) → (Lib.join l s).length ≤ l.length * (b + s.length)
  | [], _ => by simp [Lib.join_nil]
  | [a], h => by
    have := h a (by simp)
    rw [Lib.join_one]
    simp
    omega
  | a :: c :: r, h => by
    have h1 := h a (by simp)
    have h2 := join_len (s := s) (l := c :: r) (fun x hx => h x (List.mem_cons_of_mem _ hx))
    rw [join_two, List.length_append, List.length_append]
    rw [List.length_cons, Nat.succ_mul]
    omega
theorem joinB_len (s : ByteArray) (l : List ByteArray) : (joinB s l).size = (Lib.join (l.map (·.data.toList)) s.data.toList).length := List.size_toArray
theorem joinB_size {s : ByteArray} {b : Nat} {l : List ByteArray} (h : ∀ x ∈ l, x.size ≤ b) : (joinB s l).size ≤ l.length * (b + s.size) := by
  have := join_len (s := s.data.toList) (b := b) (l := l.map (·.data.toList)) (by
    intro x hx
    obtain ⟨a, ha, rfl⟩ := List.mem_map.1 hx
    exact h a ha)
  rw [joinB_len]
  rw [List.length_map] at this
  exact this

set_option maxRecDepth 100000 in
/-- strings.Join -/
theorem join_c {v : Value} {l : List ByteArray} {b : Nat} (sep : ByteArray) (w : World) (h : StrsRd w 0 w.heap.size v l) (hc : ∃ A c, v = .slice A l.length c ∧ l.length ≤ c) (hb : ∀ x ∈ l, x.size ≤ b) (hn : l.length * (b + sep.size) ≤ 140737488355328) (hn2 : l.length ≤ 140737488355328) :
    Calls Tryz.prog 136 #[v, .string sep] w fun e w' => e = .returned (.string (joinB sep l)) ∧ Below w.heap.size w w' := by
  obtain ⟨A, c, rfl, hm, hr⟩ := h
  obtain ⟨A', c', he, hc⟩ := hc
  injection he with h1 h2 h3
  subst h1 h3
  rcases l with _ | ⟨x, r⟩
  · exact (Tryz.strings_Join_none A c sep w).mono fun e w' ⟨he, hw⟩ => ⟨he, hw ▸ Below.refl _ _⟩
  · obtain ⟨bk, o, rfl, _, hbk, hcell⟩ := hr.2 (by simp)
    exact Tryz.strings_Join bk o c (x :: r) sep w (fun j u hu => hcell j _ (sc_at hu)) hbk hn2 hc (by
      have := joinB_size (s := sep) hb
      rw [← joinB_len]
      omega)
set_option maxRecDepth 100000 in
/-- strings.Join of an owned row -/
theorem join_own {w0 w : World} {L : List Res} {v : Value} {l : List ByteArray} {n b : Nat} (sep : ByteArray) (H : Sep w0 w (Res.row v 9 1 n (sc l) :: L)) (hn : n = l.length) (hb : ∀ x ∈ l, x.size ≤ b) (hl : l.length ≤ 1048576) (hb2 : b + sep.size ≤ 100000000) :
    Calls Tryz.prog 136 #[v, .string sep] w fun e w' => e = .returned (.string (joinB sep l)) ∧ Below w.heap.size w w' := by
  subst hn
  obtain ⟨A, c, rfl, h1, h2, hr⟩ := Res.row_at H.h0
  refine join_c sep w ⟨A, c, rfl, by omega, hr⟩ ⟨A, c, rfl, h1⟩ hb ?_ (by omega)
  calc l.length * (b + sep.size) ≤ 1048576 * 100000000 := Nat.mul_le_mul hl hb2
    _ ≤ 140737488355328 := by decide
end Go.Proofs.YtfmkmjebkmimkaaGreatDoor

namespace Go.Proofs.YtfmkmjebkmimkaaGreatDoor
open Go.RowKit

/-- what 'FormatInt' answers in all worlds behind one -/
def SNumAt (w : World) (n : Int) (b : ByteArray) : Prop := ∀ w', Below w.heap.size w w' → Calls Tryz.prog 54 #[.int .i64 n] w' fun e w'' => e = .returned (.string b) ∧ Below w'.heap.size w' w''
def INumAt (w : World) (n : Int) (b : ByteArray) : Prop := ∀ w', Below w.heap.size w w' → Calls Tryz.prog 63 #[.int .i64 n] w' fun e w'' => e = .returned (.string b) ∧ Below w'.heap.size w' w''
theorem SNumAt.on {w w1 : World} {n : Int} {b : ByteArray} (h : SNumAt w n b) (hb : Below w.heap.size w w1) : SNumAt w1 n b := fun w' hw => h w' (hb.trans (hw.mono hb.size))
theorem INumAt.on {w w1 : World} {n : Int} {b : ByteArray} (h : INumAt w n b) (hb : Below w.heap.size w w1) : INumAt w1 n b := fun w' hw => h w' (hb.trans (hw.mono hb.size))
def commaB : ByteArray := ⟨#[44]⟩
def spaceB : ByteArray := ⟨#[32]⟩
def noneT : ByteArray := ⟨#[110, 111, 110, 101]⟩
def numTo (f : Int → ByteArray) (l : List Int) (k : Nat) : ByteArray := joinB commaB ((l.take k).map f)
def numT (f : Int → ByteArray) (l : List Int) : ByteArray := if l = [] then noneT else joinB commaB (l.map f)
theorem numTo_zero {f : Int → ByteArray} {l : List Int} : numTo f l 0 = ⟨#[]⟩ := rfl
theorem ba_nil (b : ByteArray) : (⟨#[]⟩ : ByteArray) ++ b = b := by apply ba_ext; simp
theorem numTo_succ {f : Int → ByteArray} {l : List Int} {k : Nat} {n : Int} (h : l[k]? = some n) : numTo f l (k + 1) = if 0 < k then numTo f l k ++ commaB ++ f n else numTo f l k ++ f n := by
  have hk : k < l.length := (List.getElem?_eq_some_iff.1 h).1
  have hn : l[k] = n := (List.getElem?_eq_some_iff.1 h).2
  unfold numTo
  rw [List.take_succ_eq_append_getElem hk, hn, List.map_append, List.map_cons, List.map_nil]
  split
  · rename_i h0
    refine joinB_snoc _ _ _ fun e => ?_
    have := congrArg List.length e
    rw [List.length_map, List.length_take] at this
    simp only [List.length_nil] at this
    omega
  · obtain rfl : k = 0 := by omega
    rw [List.take_zero, List.map_nil, List.nil_append, joinB_one, joinB_nil, ba_nil]
theorem numTo_size {f : Int → ByteArray} {l : List Int} (h : ∀ n ∈ l, (f n).size ≤ 30) (k : Nat) (hk : k ≤ l.length) : (numTo f l k).size ≤ k * 31 := by
  have := joinB_size (s := commaB) (b := 30) (l := (l.take k).map f) (by
    intro x hx
    obtain ⟨n, hn, rfl⟩ := List.mem_map.1 hx
    exact h n (List.mem_of_mem_take hn))
  rw [List.length_map, List.length_take, Nat.min_eq_left hk] at this
  exact this
theorem numTo_pos {f : Int → ByteArray} {l : List Int} (h : ∀ n ∈ l, 1 ≤ (f n).size) : ∀ k, 0 < k → k ≤ l.length → 1 ≤ (numTo f l k).size
  | k + 1, _, hk => by
    have h1 : l[k]? = some l[k] := List.getElem?_eq_getElem (by omega)
    rw [numTo_succ h1]
    have := h l[k] (List.getElem_mem _)
    split
    · rw [ByteArray.size_append]; omega
    · rw [ByteArray.size_append]; omega
theorem numT_all {f : Int → ByteArray} {l : List Int} (h : l ≠ []) : numT f l = numTo f l l.length := by
  unfold numT numTo
  rw [if_neg h, List.take_length]
theorem not_empty {b : ByteArray} (h : 1 ≤ b.size) : b.toList.isEmpty = false ∧ ¬ b.toList = [] := by
  have hn : ¬ b.toList = [] := by
    rw [Lib.toList_data]
    intro e
    have := congrArg List.length e
    simp at this
    have h2 : b.size = b.data.size := rfl
    rw [h2, this] at h
    simp at h
  exact ⟨by simpa using hn, hn⟩

end Go.Proofs.YtfmkmjebkmimkaaGreatDoor

namespace Go.Proofs.YtfmkmjebkmimkaaGreatDoor
open Go.RowKit

set_option maxRecDepth 100000 in
theorem line_own {w0 w : World} {L : List Res} {v : Value} {l : List ByteArray} {n b : Nat} (H : Sep w0 w (Res.row v 9 1 n (sc l) :: L)) (hn : n = l.length) (hb : ∀ x ∈ l, x.size ≤ b) (hl : l.length ≤ 1048576) (hb2 : b + 1 ≤ 100000000) :
    Calls Tryz.prog 62 #[v] w fun e w' => e = .returned (.string (joinB spaceB l)) ∧ Below w.heap.size w w' := by
  subst hn
  rw [show spaceB = ⟨#[32]⟩ from rfl]
  have HJ := Lib.hid (join_own (b := b) ⟨#[32]⟩ H rfl hb hl (by have : (⟨#[32]⟩ : ByteArray).size = 1 := rfl; omega))
  obtain ⟨A, c, rfl, _, _, _⟩ := Res.row_at H.h0
  clear H
  go_enter Tryz.func62, Tryz.ntmps62
  go_wp2_with fail
  refine (HJ.out).mono ?_
  rintro e w1 ⟨rfl, b1⟩
  go_wp2
  go_ret
  exact ⟨rfl, b1⟩
end Go.Proofs.YtfmkmjebkmimkaaGreatDoor
