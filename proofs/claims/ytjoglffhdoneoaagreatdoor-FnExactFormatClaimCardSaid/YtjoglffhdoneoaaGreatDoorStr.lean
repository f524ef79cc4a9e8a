
/-
  Rows of strings; strings.Join; texts joined.
-/
import Derived.Test.YtjoglffhdoneoaaGreatDoorShelf
import Derived.Test.YtjoglffhdoneoaaGreatDoorSepX
import Derived.Lib.Join
namespace Go.Proofs.YtjoglffhdoneoaaGreatDoor
open Go.RowKit

def sc (l : List ByteArray) : List Value := l.map .string
theorem sc_at {l : List ByteArray} {k : Nat} {a : ByteArray} (h : l[k]? = some a) : (sc l)[k]? = some (.string a) := by simp [sc, h]
theorem sc_length {l : List ByteArray} : (sc l).length = l.length := by simp [sc]
theorem sc_append (l m : List ByteArray) : sc (l ++ m) = sc l ++ sc m := by simp [sc]
theorem sc_one {l : List ByteArray} : ∀ u ∈ sc l, u.oneCell' = true := by
  intro u hu
  obtain ⟨a, _, rfl⟩ := List.mem_map.1 hu
  rfl
theorem ocs {a : ByteArray} : ∀ u ∈ [Value.string a], u.oneCell' = true := by intro u hu; simp at hu; subst hu; rfl
set_option maxRecDepth 100000 in
theorem infoStr : (Tryz.prog.info? 9).map (fun i => (i.zero, i.size, i.bytes)) = some (some (.string ⟨#[]⟩), 1, 16) := by kernel_rfl
def StrsRd (w : World) (lo hi : Nat) (v : Value) (l : List ByteArray) : Prop := SR w lo hi 1 v l.length (sc l)
def StrsIn (w : World) (lo hi : Nat) (v : Value) (l : List ByteArray) : Prop := OI w lo hi 9 1 v l.length (sc l)
section
variable {w w' : World} {lo hi lo' hi' : Nat} {v : Value} {l : List ByteArray}
theorem StrsRd.keep (h : StrsRd w lo hi v l) (hs : SameIn lo hi w w') : StrsRd w' lo hi v l := SR.keep h hs
theorem StrsRd.more (h : StrsRd w lo hi v l) (h1 : lo' ≤ lo) (h2 : hi ≤ hi') : StrsRd w lo' hi' v l := SR.more h h1 h2
theorem StrsIn.keep (h : StrsIn w lo hi v l) (hs : SameIn lo hi w w') : StrsIn w' lo hi v l := OI.keep h hs
theorem StrsIn.rd (h : StrsIn w lo hi v l) : StrsRd w lo hi v l := OI.sr h
theorem StrsIn.mk {n : Nat} {xs : List Value} (h : w.ownsRow lo 9 1 v n xs) (hn : n = l.length) (hx : xs = sc l) : StrsIn w lo w.heap.size v l := by
  subst hn
  subst hx
  exact OI.mk h
theorem StrsIn.nil : StrsIn w lo hi (.slice none 0 0) [] := OI.nil
end

/-- texts, a text between any two -/
def joinB (sep : ByteArray) (l : List ByteArray) : ByteArray := ⟨(Lib.join (l.map (·.data.toList)) sep.data.toList).toArray⟩
theorem joinB_nil (s : ByteArray) : joinB s [] = ⟨#[]⟩ := rfl
theorem joinB_one (s x : ByteArray) : joinB s [x] = x := by
  apply ba_ext
  simp [joinB, Lib.join_one]
theorem join_two (x y s : List UInt8) (r : List (List UInt8)) : Lib.join (x :: y :: r) s = x ++ s ++ Lib.join (y :: r) s := by
  rw [Lib.join_cons, Lib.join_cons]
  simp [Lib.joinTail, List.append_assoc]
theorem joinB_cons (s x y : ByteArray) (r : List ByteArray) : joinB s (x :: y :: r) = x ++ s ++ joinB s (y :: r) := by
  apply ba_ext
  simp only [joinB, List.map_cons, ba_app]
  exact join_two _ _ _ _
theorem join_snoc (s x : List UInt8) : ∀ (l : List (List UInt8)), l ≠ [] → Lib.join (l ++ [x]) s = Lib.join l s ++ s ++ x
  | [], h => absurd rfl h
  | [a], _ => by rw [List.singleton_append, join_two, Lib.join_one, Lib.join_one]
  | a :: b :: r, _ => by
    rw [List.cons_append, List.cons_append, join_two, join_two, ← List.cons_append, join_snoc s x (b :: r) (by simp)]
    simp [List.append_assoc]
theorem joinB_snoc (s x : ByteArray) (l : List ByteArray) (h : l ≠ []) : joinB s (l ++ [x]) = joinB s l ++ s ++ x := by
  apply ba_ext
  simp only [joinB, List.map_append, List.map_cons, List.map_nil, ba_app]
  exact join_snoc _ _ _ (by simpa using h)
theorem join_len {s : List UInt8} {b : Nat} : ∀ {l : List (List UInt8)}, (∀ x ∈ l, x.length ≤ b) → (Lib.join l s).length ≤ l.length * (b + s.length)
  | [], _ => by simp [Lib.join_nil]
  | [a], h => by
    have := h a (by simp)
    rw [Lib.join_one]
    simp
    omega
  | a :: c :: r, h => by
    have h1 := h a (by simp)
    have h2 := join_len (s := s) (l := c :: r) (fun x hx => h x (List.mem_cons_of_mem _ hx))
    rw [join_two, List.length_append, List.length_append]
    rw [List.length_cons, Nat.succ_mul]
    omega
theorem joinB_len (s : ByteArray) (l : List ByteArray) : (joinB s l).size = (Lib.join (l.map (·.data.toList)) s.data.toList).length := List.size_toArray
theorem joinB_size {s : ByteArray} {b : Nat} {l : List ByteArray} (h : ∀ x ∈ l, x.size ≤ b) : (joinB s l).size ≤ l.length * (b + s.size) := by
  have := join_len (s := s.data.toList) (b := b) (l := l.map (·.data.toList)) (by
    intro x hx
    obtain ⟨a, ha, rfl⟩ := List.mem_map.1 hx
    exact h a ha)
  rw [joinB_len]
  rw [List.length_map] at this
  exact this

set_option maxRecDepth 100000 in
/-- strings.Join -/
theorem join_c {v : Value} {l : List ByteArray} {b : Nat} (sep : ByteArray) (w : World) (h : StrsRd w 0 w.heap.size v l) (hc : ∃ A c, v = .slice A l.length c ∧ l.length ≤ c) (hb : ∀ x ∈ l, x.size ≤ b) (hn : l.length * (b + sep.size) ≤ 140737488355328) (hn2 : l.length ≤ 140737488355328) :
    Calls Tryz.prog 57 #[v, .string sep] w fun e w' => e = .returned (.string (joinB sep l)) ∧ Below w.heap.size w w' := by
  obtain ⟨A, c, rfl, hm, hr⟩ := h
  obtain ⟨A', c', he, hc⟩ := hc
  injection he with h1 h2 h3
  subst h1 h3
  rcases l with _ | ⟨x, r⟩
  · exact (Tryz.strings_Join_none A c sep w).mono fun e w' ⟨he, hw⟩ => ⟨he, hw ▸ Below.refl _ _⟩
  · obtain ⟨bk, o, rfl, _, hbk, hcell⟩ := hr.2 (by simp)
    exact Tryz.strings_Join bk o c (x :: r) sep w (fun j u hu => hcell j _ (sc_at hu)) hbk hn2 hc (by
      have := joinB_size (s := sep) hb
      rw [← joinB_len]
      omega)
set_option maxRecDepth 100000 in
/-- strings.Join of an owned row -/
theorem join_own {w0 w : World} {L : List Res} {v : Value} {l : List ByteArray} {n b : Nat} (sep : ByteArray) (H : Sep w0 w (Res.row v 9 1 n (sc l) :: L)) (hn : n = l.length) (hb : ∀ x ∈ l, x.size ≤ b) (hl : l.length ≤ 1048576) (hb2 : b + sep.size ≤ 100000000) :
    Calls Tryz.prog 57 #[v, .string sep] w fun e w' => e = .returned (.string (joinB sep l)) ∧ Below w.heap.size w w' := by
  subst hn
  obtain ⟨A, c, rfl, h1, h2, hr⟩ := Res.row_at H.h0
  refine join_c sep w ⟨A, c, rfl, by omega, hr⟩ ⟨A, c, rfl, h1⟩ hb ?_ (by omega)
  calc l.length * (b + sep.size) ≤ 1048576 * 100000000 := Nat.mul_le_mul hl hb2
    _ ≤ 140737488355328 := by decide
end Go.Proofs.YtjoglffhdoneoaaGreatDoor
