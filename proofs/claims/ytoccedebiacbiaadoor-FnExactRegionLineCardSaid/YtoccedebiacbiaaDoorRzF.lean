
/-
  The walks of both number writers at a single digit. Rows of strings; strings.Join; texts joined. Numbers as a text, separated by commas: the reference's and the program's. The program's 'line': texts joined by blanks. The reference's FormatInt at every int. The program's FormatInt at every int, under the library's table. A region's text: both walks.
-/
import Derived.Test.YtoccedebiacbiaaDoorProg
import Derived.Test.YtoccedebiacbiaaDoorCwWalks
import Derived.Laws.IdiomStrings
import Derived.Test.YtoccedebiacbiaaDoorShelf
import Derived.Test.YtoccedebiacbiaaDoorSepX
import Derived.Lib.Join
import Derived.Lib.Strings
import Derived.Lib.ItoaMem
import Derived.Deep.DeepCutAuto
import Derived.Lib.SmallJoins
import Derived.Lib.AppendIntMem
import Derived.Test.YtoccedebiacbiaaDoorArX
import Derived.Test.YtoccedebiacbiaaDoorCellX
import Derived.Test.YtoccedebiacbiaaDoorCommon
namespace Go.Proofs.YtoccedebiacbiaaDoor
open Go.RowKit

/-- a digit's text -/
def dgt (n : Int) : ByteArray := ⟨#[(48 + n.toNat).toUInt8]⟩
theorem dgt_size (n : Int) : (dgt n).size = 1 := rfl

set_option maxRecDepth 100000 in
set_option maxHeartbeats 1600000 in
theorem impl_dig_c (n : Int) (w : World) (h0 : 0 ≤ n) (h5 : n ≤ 9) :
    Calls Tryd.prog 24 #[.int .i64 n] w fun e w' => e = .returned (.string (dgt n)) ∧ w = w' := by
  have hn : n = 0 ∨ n = 1 ∨ n = 2 ∨ n = 3 ∨ n = 4 ∨ n = 5 ∨ n = 6 ∨ n = 7 ∨ n = 8 ∨ n = 9 := by omega
  clear h0 h5
  rcases hn with rfl | rfl | rfl | rfl | rfl | rfl | rfl | rfl | rfl | rfl
  all_goals
    go_enter Tryd.func24, Tryd.ntmps24
    go_wp2
    go_ret
    exact ⟨rfl, rfl⟩

set_option maxRecDepth 100000 in
/-- a new slice of one byte, as a string -/
theorem run_byte_string (w : World) (g : Nat) (b : UInt8) (u : Int) (hu : u = (b.toNat : Int)) (hg : w.cell? ⟨g, 0, none⟩ = some (.int .u8 u)) :
    (convert 48 9 (.slice (some ⟨g, 0, none⟩) 1 1)).run Tryd.prog w = .ok (.string ⟨#[b]⟩) w := by
  subst hu
  refine run_convert_bytes_back w _ _ _ ⟨g, 0, none⟩ 1 [b] Tryd.underlying48 Tryd.underlying5 Tryd.underlying9 ?_
  intro j hj
  obtain rfl : j = 0 := by simpa using hj
  simpa [Addr.add] using hg

set_option maxRecDepth 100000 in
set_option maxHeartbeats 1600000 in
theorem spec_dig_c (n : Int) (w : World) (h0 : 0 ≤ n) (h5 : n ≤ 9) :
    Calls Tryd.prog 12 #[.int .i64 n] w fun e w' => e = .returned (.string (dgt n)) ∧ Below w.heap.size w w' := by
  by_cases hz : n = 0
  · subst hz
    go_enter Tryd.func12, Tryd.ntmps12
    go_wp2
    go_ret
    exact ⟨rfl, Below.refl _ _⟩
  · have h1 : 1 ≤ n := by omega
    have hneg : decide (n < 0) = false := by simp; omega
    have hne : (n == 0) = false := by simp; omega
    go_enter Tryd.func12, Tryd.ntmps12
    go_wp2
    go_loopw [0, 3, 5] (fun nv ov _ wr => ((nv = .int .i64 n ∧ ov = .string ⟨#[]⟩) ∨ (nv = .int .i64 0 ∧ ov = .string (dgt n))) ∧ Below w.heap.size w wr) (fun nv _ _ _ => (intOf nv).toNat)
    case atStart => exact ⟨.inl ⟨rfl, rfl⟩, Below.refl _ _⟩
    case round =>
      obtain ⟨h | h, hb⟩ := hrel
      · obtain ⟨rfl, rfl⟩ := h
        have hn : n = 1 ∨ n = 2 ∨ n = 3 ∨ n = 4 ∨ n = 5 ∨ n = 6 ∨ n = 7 ∨ n = 8 ∨ n = 9 := by omega
        clear h0 h5 h1 hz hneg hne
        have hcvn : ∀ u : Int, u = 48 + n → (convert 48 9 (.slice (some ⟨wr.heap.size, 0, none⟩) 1 1)).run Tryd.prog (wr.alloc (.cells #[.int .u8 u] 5)) = .ok (.string (dgt n)) (wr.alloc (.cells #[.int .u8 u] 5)) := fun u hu => by
          refine run_byte_string _ _ _ u ?_ (by rw [(Blk.new wr _ _).cell]; rfl)
          rcases hn with rfl | rfl | rfl | rfl | rfl | rfl | rfl | rfl | rfl <;> subst hu <;> rfl
        rcases hn with rfl | rfl | rfl | rfl | rfl | rfl | rfl | rfl | rfl
        all_goals
          have hcv := hcvn _ rfl
          clear hcvn
          simp at hcv
          go_wp2
          go_roundw
          case rel => exact ⟨.inr ⟨rfl, rfl⟩, hb.trans (((Below.refl _ _).alloc (Nat.le_refl _) _).mono hb.size)⟩
          case measure => simp [intOf]
      · obtain ⟨rfl, rfl⟩ := h
        go_wp2
        go_ret
        exact ⟨rfl, hb⟩
end Go.Proofs.YtoccedebiacbiaaDoor

namespace Go.Proofs.YtoccedebiacbiaaDoor
open Go.RowKit

def sc (l : List ByteArray) : List Value := l.map .string
theorem sc_at {l : List ByteArray} {k : Nat} {a : ByteArray} (h : l[k]? = some a) : (sc l)[k]? = some (.string a) := by simp [sc, h]
theorem sc_length {l : List ByteArray} : (sc l).length = l.length := by simp [sc]
theorem sc_append (l m : List ByteArray) : sc (l ++ m) = sc l ++ sc m := by simp [sc]
theorem sc_one {l : List ByteArray} : ∀ u ∈ sc l, u.oneCell' = true := by
  intro u hu
  obtain ⟨a, _, rfl⟩ := List.mem_map.1 hu
  rfl
theorem ocs {a : ByteArray} : ∀ u ∈ [Value.string a], u.oneCell' = true := by intro u hu; simp at hu; subst hu; rfl
set_option maxRecDepth 100000 in
theorem infoStr : (Tryd.prog.info? 9).map (fun i => (i.zero, i.size, i.bytes)) = some (some (.string ⟨#[]⟩), 1, 16) := by kernel_rfl
def StrsRd (w : World) (lo hi : Nat) (v : Value) (l : List ByteArray) : Prop := SR w lo hi 1 v l.length (sc l)
def StrsIn (w : World) (lo hi : Nat) (v : Value) (l : List ByteArray) : Prop := OI w lo hi 9 1 v l.length (sc l)
section
variable {w w' : World} {lo hi lo' hi' : Nat} {v : Value} {l : List ByteArray}
theorem StrsRd.keep (h : StrsRd w lo hi v l) (hs : SameIn lo hi w w') : StrsRd w' lo hi v l := SR.keep h hs
theorem StrsRd.more (h : StrsRd w lo hi v l) (h1 : lo' ≤ lo) (h2 : hi ≤ hi') : StrsRd w lo' hi' v l := SR.more h h1 h2
theorem StrsIn.keep (h : StrsIn w lo hi v l) (hs : SameIn lo hi w w') : StrsIn w' lo hi v l := OI.keep h hs
theorem StrsIn.rd (h : StrsIn w lo hi v l) : StrsRd w lo hi v l := OI.sr h
theorem StrsIn.mk {n : Nat} {xs : List Value} (h : w.ownsRow lo 9 1 v n xs) (hn : n = l.length) (hx : xs = sc l) : StrsIn w lo w.heap.size v l := by
  subst hn
  subst hx
  exact OI.mk h
theorem StrsIn.nil : StrsIn w lo hi (.slice none 0 0) [] := OI.nil
end

/-- texts, a text between any two -/
def joinB (sep : ByteArray) (l : List ByteArray) : ByteArray := ⟨(Lib.join (l.map (·.data.toList)) sep.data.toList).toArray⟩
theorem joinB_nil (s : ByteArray) : joinB s [] = ⟨#[]⟩ := rfl
theorem joinB_one (s x : ByteArray) : joinB s [x] = x := by
  apply ba_ext
  simp [joinB, Lib.join_one]
theorem join_two (x y s : List UInt8) (r : List (List UInt8)) : Lib.join (x :: y :: r) s = x ++ s ++ Lib.join (y :: r) s := by
  rw [Lib.join_cons, Lib.join_cons]
  simp [Lib.joinTail, List.append_assoc]
theorem joinB_cons (s x y : ByteArray) (r : List ByteArray) : joinB s (x :: y :: r) = x ++ s ++ joinB s (y :: r) := by
  apply ba_ext
  simp only [joinB, List.map_cons, ba_app]
  exact join_two _ _ _ _
theorem join_snoc (s x : List UInt8) : ∀ (l : List (List UInt8)), l ≠ [] → Lib.join (l ++ [x]) s = Lib.join l s ++ s ++ x
  | [], h => absurd rfl h
  | [a], _ => by rw [List.singleton_append, join_two, Lib.join_one, Lib.join_one]
  | a :: b :: r, _ => by
    rw [List.cons_append, List.cons_append, join_two, join_two, ← List.cons_append, join_snoc s x (b :: r) (by simp)]
    simp [List.append_assoc]
theorem joinB_snoc (s x : ByteArray) (l : List ByteArray) (h : l ≠ []) : joinB s (l ++ [x]) = joinB s l ++ s ++ x := by
  apply ba_ext
  simp only [joinB, List.map_append, List.map_cons, List.map_nil, ba_app]
  exact join_snoc _ _ _ (by simpa using h)
theorem join_len {s : List UInt8} {b : Nat} : ∀ {l : List (List UInt8)}, (∀ x ∈ l, x.length ≤ b) → (Lib.join l s).length ≤ l.length * (b + s.length)
  | [], _ => by simp [Lib.join_nil]
  | [a], h => by
    have := h a (by simp)
    rw [Lib.join_one]
    simp
    omega
  | a :: c :: r, h => by
    have h1 := h a (by simp)
    have h2 := join_len (s := s) (l := c :: r) (fun x hx => h x (List.mem_cons_of_mem _ hx))
    rw [join_two, List.length_append, List.length_append]
    rw [List.length_cons, Nat.succ_mul]
    omega
theorem joinB_len (s : ByteArray) (l : List ByteArray) : (joinB s l).size = (Lib.join (l.map (·.data.toList)) s.data.toList).length := List.size_toArray
theorem joinB_size {s : ByteArray} {b : Nat} {l : List ByteArray} (h : ∀ x ∈ l, x.size ≤ b) : (joinB s l).size ≤ l.length * (b + s.size) := by
  have := join_len (s := s.data.toList) (b := b) (l := l.map (·.data.toList)) (by
    intro x hx
    obtain ⟨a, ha, rfl⟩ := List.mem_map.1 hx
    exact h a ha)
  rw [joinB_len]
  rw [List.length_map] at this
  exact this

set_option maxRecDepth 100000 in
/-- strings.Join -/
theorem join_c {v : Value} {l : List ByteArray} {b : Nat} (sep : ByteArray) (w : World) (h : StrsRd w 0 w.heap.size v l) (hc : ∃ A c, v = .slice A l.length c ∧ l.length ≤ c) (hb : ∀ x ∈ l, x.size ≤ b) (hn : l.length * (b + sep.size) ≤ 140737488355328) (hn2 : l.length ≤ 140737488355328) :
    Calls Tryd.prog 46 #[v, .string sep] w fun e w' => e = .returned (.string (joinB sep l)) ∧ Below w.heap.size w w' := by
  obtain ⟨A, c, rfl, hm, hr⟩ := h
  obtain ⟨A', c', he, hc⟩ := hc
  injection he with h1 h2 h3
  subst h1 h3
  rcases l with _ | ⟨x, r⟩
  · exact (Tryd.strings_Join_none A c sep w).mono fun e w' ⟨he, hw⟩ => ⟨he, hw ▸ Below.refl _ _⟩
  · obtain ⟨bk, o, rfl, _, hbk, hcell⟩ := hr.2 (by simp)
    exact Tryd.strings_Join bk o c (x :: r) sep w (fun j u hu => hcell j _ (sc_at hu)) hbk hn2 hc (by
      have := joinB_size (s := sep) hb
      rw [← joinB_len]
      omega)
set_option maxRecDepth 100000 in
/-- strings.Join of an owned row -/
theorem join_own {w0 w : World} {L : List Res} {v : Value} {l : List ByteArray} {n b : Nat} (sep : ByteArray) (H : Sep w0 w (Res.row v 9 1 n (sc l) :: L)) (hn : n = l.length) (hb : ∀ x ∈ l, x.size ≤ b) (hl : l.length ≤ 1048576) (hb2 : b + sep.size ≤ 100000000) :
    Calls Tryd.prog 46 #[v, .string sep] w fun e w' => e = .returned (.string (joinB sep l)) ∧ Below w.heap.size w w' := by
  subst hn
  obtain ⟨A, c, rfl, h1, h2, hr⟩ := Res.row_at H.h0
  refine join_c sep w ⟨A, c, rfl, by omega, hr⟩ ⟨A, c, rfl, h1⟩ hb ?_ (by omega)
  calc l.length * (b + sep.size) ≤ 1048576 * 100000000 := Nat.mul_le_mul hl hb2
    _ ≤ 140737488355328 := by decide
end Go.Proofs.YtoccedebiacbiaaDoor

namespace Go.Proofs.YtoccedebiacbiaaDoor
open Go.RowKit

/-- what 'FormatInt' answers in all worlds behind one -/
def SNumAt (w : World) (n : Int) (b : ByteArray) : Prop := ∀ w', Below w.heap.size w w' → Calls Tryd.prog 12 #[.int .i64 n] w' fun e w'' => e = .returned (.string b) ∧ Below w'.heap.size w' w''
def INumAt (w : World) (n : Int) (b : ByteArray) : Prop := ∀ w', Below w.heap.size w w' → Calls Tryd.prog 24 #[.int .i64 n] w' fun e w'' => e = .returned (.string b) ∧ Below w'.heap.size w' w''
theorem SNumAt.on {w w1 : World} {n : Int} {b : ByteArray} (h : SNumAt w n b) (hb : Below w.heap.size w w1) : SNumAt w1 n b := fun w' hw => h w' (hb.trans (hw.mono hb.size))
theorem INumAt.on {w w1 : World} {n : Int} {b : ByteArray} (h : INumAt w n b) (hb : Below w.heap.size w w1) : INumAt w1 n b := fun w' hw => h w' (hb.trans (hw.mono hb.size))
def commaB : ByteArray := ⟨#[44]⟩
def spaceB : ByteArray := ⟨#[32]⟩
def noneT : ByteArray := ⟨#[110, 111, 110, 101]⟩
def numTo (f : Int → ByteArray) (l : List Int) (k : Nat) : ByteArray := joinB commaB ((l.take k).map f)
def numT (f : Int → ByteArray) (l : List Int) : ByteArray := if l = [] then noneT else joinB commaB (l.map f)
theorem numTo_zero {f : Int → ByteArray} {l : List Int} : numTo f l 0 = ⟨#[]⟩ := rfl
theorem ba_nil (b : ByteArray) : (⟨#[]⟩ : ByteArray) ++ b = b := by apply ba_ext; simp
theorem numTo_succ {f : Int → ByteArray} {l : List Int} {k : Nat} {n : Int} (h : l[k]? = some n) : numTo f l (k + 1) = if 0 < k then numTo f l k ++ commaB ++ f n else numTo f l k ++ f n := by
  have hk : k < l.length := (List.getElem?_eq_some_iff.1 h).1
  have hn : l[k] = n := (List.getElem?_eq_some_iff.1 h).2
  unfold numTo
  rw [List.take_succ_eq_append_getElem hk, hn, List.map_append, List.map_cons, List.map_nil]
  split
  · rename_i h0
    refine joinB_snoc _ _ _ fun e => ?_
    have := congrArg List.length e
    rw [List.length_map, List.length_take] at this
    simp only [List.length_nil] at this
    omega
  · obtain rfl : k = 0 := by omega
    rw [List.take_zero, List.map_nil, List.nil_append, joinB_one, joinB_nil, ba_nil]
theorem numTo_size {f : Int → ByteArray} {l : List Int} (h : ∀ n ∈ l, (f n).size ≤ 30) (k : Nat) (hk : k ≤ l.length) : (numTo f l k).size ≤ k * 31 := by
  have := joinB_size (s := commaB) (b := 30) (l := (l.take k).map f) (by
    intro x hx
    obtain ⟨n, hn, rfl⟩ := List.mem_map.1 hx
    exact h n (List.mem_of_mem_take hn))
  rw [List.length_map, List.length_take, Nat.min_eq_left hk] at this
  exact this
theorem numTo_pos {f : Int → ByteArray} {l : List Int} (h : ∀ n ∈ l, 1 ≤ (f n).size) : ∀ k, 0 < k → k ≤ l.length → 1 ≤ (numTo f l k).size
  | k + 1, _, hk => by
    have h1 : l[k]? = some l[k] := List.getElem?_eq_getElem (by omega)
    rw [numTo_succ h1]
    have := h l[k] (List.getElem_mem _)
    split
    · rw [ByteArray.size_append]; omega
    · rw [ByteArray.size_append]; omega
theorem numT_all {f : Int → ByteArray} {l : List Int} (h : l ≠ []) : numT f l = numTo f l l.length := by
  unfold numT numTo
  rw [if_neg h, List.take_length]
theorem not_empty {b : ByteArray} (h : 1 ≤ b.size) : b.toList.isEmpty = false ∧ ¬ b.toList = [] := by
  have hn : ¬ b.toList = [] := by
    rw [Lib.toList_data]
    intro e
    have := congrArg List.length e
    simp at this
    have h2 : b.size = b.data.size := rfl
    rw [h2, this] at h
    simp at h
  exact ⟨by simpa using hn, hn⟩

set_option maxRecDepth 100000 in
set_option maxHeartbeats 1600000 in
theorem l34Numbers_c {f : Int → ByteArray} {v : Value} {l : List Int} (w : World) (h : IntsRd w 0 w.heap.size v l) (hf : ∀ n ∈ l, SNumAt w n (f n)) (hs1 : ∀ n ∈ l, 1 ≤ (f n).size) (hs : ∀ n ∈ l, (f n).size ≤ 30) (hn : l.length ≤ 1048576) :
    Calls Tryd.prog 15 #[v] w fun e w' => e = .returned (.string (numT f l)) ∧ Below w.heap.size w w' := by
  obtain ⟨A, c, rfl, _, hr⟩ := h
  have HF := Lib.hid hf
  have HS1 := Lib.hid hs1
  have HS := Lib.hid hs
  clear hf hs1 hs
  obtain ⟨R, hR⟩ : ∃ R, R = numT f l := ⟨_, rfl⟩
  rw [← hR]
  have HR := Lib.hid hR
  clear hR
  go_enter Tryd.func15, Tryd.ntmps15
  go_wp2
  go_loopw [3, 4] (fun s i wr => ∃ k : Nat, k ≤ l.length ∧ i = .int .i64 k ∧ s = .string (numTo f l k) ∧ Below w.heap.size w wr) (fun _ i _ => l.length - (intOf i).toNat)
  case atStart => exact ⟨0, Nat.zero_le _, rfl, rfl, Below.refl _ _⟩
  case round =>
    obtain ⟨k, hk, rfl, rfl, hbel⟩ := hrel
    by_cases hlt : k < l.length
    · obtain ⟨b, off, n, rfl, _, hb, hla, q1⟩ := (hr.below hbel (Nat.le_refl _)).at1 hlt
      have hmem := List.mem_of_getElem? hla
      have HN := Lib.hid (HF.out n hmem)
      have HNS := Lib.hid (numTo_succ (f := f) hla)
      have z1 := HS.out n hmem
      have z2 := numTo_size HS.out k hk
      have z3 : (numTo f l k).size ≤ 40000000 := by omega
      have z4 : (numTo f l k ++ (⟨#[44]⟩ : ByteArray)).size ≤ 40000001 := by rw [ByteArray.size_append]; have : (⟨#[44]⟩ : ByteArray).size = 1 := rfl; omega
      clear hr hla hmem z2
      by_cases hk0 : 0 < k
      · have hdk : decide ((0 : Int) < (k : Int)) = true := by simp; omega
        go_wp2_with fail
        refine (HN.out wr hbel).mono ?_
        rintro e w1 ⟨rfl, b1⟩
        have hbel2 := hbel.trans (b1.mono hbel.size)
        have hst : numTo f l k ++ ⟨#[44]⟩ ++ f n = numTo f l (k + 1) := by rw [HNS.out, if_pos hk0]; rfl
        have HST := Lib.hid hst
        clear hbel b1 q1 hst
        go_wp2
        go_roundw
        case rel => exact ⟨k + 1, by omega, by go_num, by rw [HST.out], hbel2⟩
        case measure => simp [intOf]; omega
      · have hdk : decide ((0 : Int) < (k : Int)) = false := by simp; omega
        go_wp2_with fail
        refine (HN.out wr hbel).mono ?_
        rintro e w1 ⟨rfl, b1⟩
        have hbel2 := hbel.trans (b1.mono hbel.size)
        have hst : numTo f l k ++ f n = numTo f l (k + 1) := by rw [HNS.out, if_neg hk0]
        have HST := Lib.hid hst
        clear hbel b1 q1 hst
        go_wp2
        go_roundw
        case rel => exact ⟨k + 1, by omega, by go_num, by rw [HST.out], hbel2⟩
        case measure => simp [intOf]; omega
    · obtain rfl : k = l.length := by omega
      by_cases hl0 : l = []
      · subst hl0
        obtain rfl : R = noneT := by rw [HR.out]; rfl
        rw [show numTo f [] ([] : List Int).length = ⟨#[]⟩ from rfl]
        go_wp2
        go_ret
        exact ⟨rfl, hbel⟩
      · obtain rfl : R = numTo f l l.length := by rw [HR.out, numT_all hl0]
        obtain ⟨n1, n2⟩ := not_empty (numTo_pos HS1.out l.length (List.length_pos_iff.2 hl0) (Nat.le_refl _))
        have HL0 := Lib.hid hl0
        clear hl0
        go_wp2
        go_ret
        exact ⟨rfl, hbel⟩

set_option maxRecDepth 100000 in
set_option maxHeartbeats 1600000 in
theorem numbersText_c {f : Int → ByteArray} {v : Value} {l : List Int} (w : World) (h : IntsRd w 0 w.heap.size v l) (hf : ∀ n ∈ l, INumAt w n (f n)) (hs : ∀ n ∈ l, (f n).size ≤ 30) (hn : l.length ≤ 1048576) :
    Calls Tryd.prog 27 #[v] w fun e w' => e = .returned (.string (numT f l)) ∧ Below w.heap.size w w' := by
  obtain ⟨i0, hi, hz0, hz1, hz2⟩ := info_parts infoStr
  obtain ⟨A, c, rfl, _, hr⟩ := h
  have HF := Lib.hid hf
  have HS := Lib.hid hs
  clear hf hs
  obtain ⟨R, hR⟩ : ∃ R, R = numT f l := ⟨_, rfl⟩
  rw [← hR]
  by_cases hl0 : l = []
  · subst hl0
    obtain rfl : R = noneT := by rw [hR]; rfl
    clear hR hr
    go_enter Tryd.func27, Tryd.ntmps27
    go_wp2
    go_ret
    exact ⟨rfl, Below.refl _ _⟩
  · have hlp : 0 < l.length := List.length_pos_iff.2 hl0
    have hz : ((l.length : Int) == 0) = false := by simp; omega
    have HR := Lib.hid (hR.trans (by unfold numT; rw [if_neg hl0] : numT f l = joinB commaB (l.map f)))
    have H0 := (Sep.start w).nil 9 1
    clear hR hl0
    go_enter Tryd.func27, Tryd.ntmps27
    go_wp2
    clear hz
    go_loopw [3, 11] (fun p i wr => ∃ k : Nat, k ≤ l.length ∧ i = .int .i64 k ∧ Sep w wr [Res.row p 9 1 k (sc ((l.take k).map f))]) (fun _ i _ => l.length - (intOf i).toNat)
    case atStart => exact ⟨0, Nat.zero_le _, rfl, H0⟩
    case round =>
      clear H0
      obtain ⟨k, hk, rfl, H⟩ := hrel
      by_cases hlt : k < l.length
      · obtain ⟨b, off, n, rfl, _, hb, hla, q1⟩ := (hr.below H.below (Nat.le_refl _)).at1 hlt
        have hmem := List.mem_of_getElem? hla
        have HN := Lib.hid (HF.out n hmem)
        have hx : sc ((l.take k).map f) ++ [Value.string (f n)] = sc ((l.take (k + 1)).map f) := by
          rw [List.take_succ_eq_append_getElem hlt, List.map_append, sc_append, (List.getElem?_eq_some_iff.1 hla).2]
          rfl
        have HX := Lib.hid hx
        clear hr hla hmem hx
        go_wp2_with fail
        refine (HN.out wr H.below).mono ?_
        rintro e w1 ⟨rfl, b1⟩
        have H1 := H.step b1
        clear H b1 q1
        go_wp2_with (at_builtin; refine wpList_app rfl _ _ 42 rfl 9 i0 _ 1 16 Tryd.underlying42 hi hz0 hz1 hz2 rfl (by decide) _ _ _ rfl (H1.alloc _) _ _ _ [.string (f n)] rfl (Rd.fresh w1 _ #[.string (f n)] 1 1 rfl) ocs (by unfold maxLen; omega) (by omega) ?_; intro v2 w2 H2; clear H1)
        rw [HX.out] at H2
        go_roundw
        case rel => exact ⟨k + 1, by omega, by go_num, H2⟩
        case measure => simp [intOf]; omega
      · obtain rfl : k = l.length := by omega
        rw [List.take_length] at H
        have HJ := Lib.hid (join_own (b := 30) ⟨#[44]⟩ H (by rw [List.length_map]) (by
          intro x hx
          obtain ⟨n, hn, rfl⟩ := List.mem_map.1 hx
          exact HS.out n hn) (by rw [List.length_map]; exact hn) (by decide))
        obtain ⟨Ap, cp, rfl, _, _, _⟩ := Res.row_at H.h0
        have hbel := H.below
        clear H
        go_wp2_with fail
        refine (HJ.out).mono ?_
        rintro e w1 ⟨rfl, b1⟩
        have hb2 := hbel.trans (b1.mono hbel.size)
        obtain rfl : R = joinB ⟨#[44]⟩ (l.map f) := HR.out
        go_wp2
        go_ret
        exact ⟨rfl, hb2⟩
end Go.Proofs.YtoccedebiacbiaaDoor

namespace Go.Proofs.YtoccedebiacbiaaDoor
open Go.RowKit

set_option maxRecDepth 100000 in
theorem line_own {w0 w : World} {L : List Res} {v : Value} {l : List ByteArray} {n b : Nat} (H : Sep w0 w (Res.row v 9 1 n (sc l) :: L)) (hn : n = l.length) (hb : ∀ x ∈ l, x.size ≤ b) (hl : l.length ≤ 1048576) (hb2 : b + 1 ≤ 100000000) :
    Calls Tryd.prog 31 #[v] w fun e w' => e = .returned (.string (joinB spaceB l)) ∧ Below w.heap.size w w' := by
  subst hn
  rw [show spaceB = ⟨#[32]⟩ from rfl]
  have HJ := Lib.hid (join_own (b := b) ⟨#[32]⟩ H rfl hb hl (by have : (⟨#[32]⟩ : ByteArray).size = 1 := rfl; omega))
  obtain ⟨A, c, rfl, _, _, _⟩ := Res.row_at H.h0
  clear H
  go_enter Tryd.func31, Tryd.ntmps31
  go_wp2_with fail
  refine (HJ.out).mono ?_
  rintro e w1 ⟨rfl, b1⟩
  go_wp2
  go_ret
  exact ⟨rfl, b1⟩
end Go.Proofs.YtoccedebiacbiaaDoor

namespace Go.Proofs.YtoccedebiacbiaaDoor
open Go.RowKit

/-- the digits that are still to be written -/
def dd (m : Nat) : List UInt8 := if m = 0 then [] else Lib.decDigits m
theorem dd_step {m : Nat} (h : m ≠ 0) : dd m = dd (m / 10) ++ [UInt8.ofNat (48 + m % 10)] := by
  unfold dd
  rw [if_neg h]
  by_cases hs : m < 10
  · rw [Lib.decDigits, dif_pos hs, if_pos (by omega), Nat.mod_eq_of_lt hs]
    rfl
  · rw [Lib.decDigits, dif_neg hs, if_neg (by omega)]
theorem dd_len (m : Nat) : (dd m).length ≤ m := by
  induction m using Nat.strongRecOn with
  | _ m ih =>
    by_cases h : m = 0
    · subst h; simp [dd]
    · rw [dd_step h, List.length_append, List.length_singleton]
      have := ih (m / 10) (by omega)
      omega
abbrev ustr (l : List UInt8) : ByteArray := ⟨l.toArray⟩
theorem ustr_size {l : List UInt8} : (ustr l).size = l.length := List.size_toArray
theorem ustr_app {l m : List UInt8} : ustr l ++ ustr m = ustr (l ++ m) := by
  unfold ustr
  apply ByteArray.ext
  simp
set_option maxRecDepth 100000 in
set_option maxHeartbeats 3200000 in
theorem spec_fmtInt_c (n : Int) (w : World) (h0 : -4611686018427387904 ≤ n) (h1 : n ≤ 4611686018427387904) :
    Calls Tryd.prog 12 #[.int .i64 n] w fun e w' => e = .returned (.string (ustr (Lib.itoa n))) ∧ Below w.heap.size w w' := by
  by_cases hz : n = 0
  · subst hz
    go_enter Tryd.func12, Tryd.ntmps12
    go_wp2
    go_ret
    refine ⟨?_, Below.refl _ _⟩
    rw [show Lib.itoa 0 = [48] from by
      rw [show (0 : Int) = ((0 : Nat) : Int) from rfl, Lib.itoa_nonneg, Lib.decDigits_one (by decide)]
      rfl]
    rfl
  have hne : (n == 0) = false := by simp; omega
  by_cases hs : 0 < n
  · obtain ⟨N, rfl⟩ : ∃ N : Nat, n = (N : Int) := ⟨n.toNat, by omega⟩
    have hneg : decide ((N : Int) < 0) = false := by simp
    obtain ⟨R, hR⟩ : ∃ R, R = Lib.itoa (N : Int) := ⟨_, rfl⟩
    rw [← hR]
    have HR : Hid (R = dd N) := Lib.hid (by rw [hR, Lib.itoa_nonneg]; unfold dd; rw [if_neg (by omega)])
    clear hR
    go_enter Tryd.func12, Tryd.ntmps12
    go_wp2
    go_loopw [0, 3, 5] (fun nv ov _ wr => ∃ (m : Nat) (T : List UInt8), nv = .int .i64 (m : Int) ∧ ov = .string (ustr T) ∧ m ≤ N ∧ T.length ≤ N ∧ Hid (R = dd m ++ T) ∧ Below w.heap.size w wr) (fun nv _ _ _ => (intOf nv).toNat)
    case atStart => exact ⟨N, [], rfl, rfl, Nat.le_refl _, Nat.zero_le _, Lib.hid (by rw [HR.out, List.append_nil]), Below.refl _ _⟩
    case round =>
      clear hneg hne hs hz
      obtain ⟨m, T, rfl, rfl, hm, hT, HT, hb⟩ := hrel
      by_cases hm0 : m = 0
      · subst hm0
        have HT2 : Hid (R = T) := Lib.hid (by rw [HT.out]; rfl)
        go_wp2
        go_ret
        exact ⟨by rw [HT2.out]; rfl, hb⟩
      · obtain ⟨e, he⟩ : ∃ e, e = m % 10 := ⟨_, rfl⟩
        obtain ⟨q, hq⟩ : ∃ q, q = m / 10 := ⟨_, rfl⟩
        have he10 : e < 10 := by omega
        have hqm : q < m := by omega
        have m1 : (m : Int) % 10 = (e : Int) := by omega
        have m2 : (m : Int) / 10 = (q : Int) := by omega
        have m3 : ((m : Int) == 0) = false := by simp; omega
        obtain ⟨B, hB⟩ : ∃ B, B = UInt8.ofNat (48 + e) := ⟨_, rfl⟩
        have HT2 : Hid (R = dd q ++ (B :: T)) := Lib.hid (by rw [HT.out, dd_step hm0, ← he, ← hq, ← hB, List.append_assoc]; rfl)
        have hT2 : (B :: T).length ≤ N := by
          have h1 : (dd q ++ (B :: T)).length ≤ N := by rw [← HT2.out, HR.out]; exact dd_len N
          rw [List.length_append] at h1
          omega
        have hcv : (convert 48 9 (.slice (some ⟨wr.heap.size, 0, none⟩) 1 1)).run Tryd.prog (wr.alloc (.cells #[.int .u8 (48 + (e : Int))] 5)) = .ok (.string (ustr [B])) (wr.alloc (.cells #[.int .u8 (48 + (e : Int))] 5)) := by
          refine run_byte_string _ _ _ (48 + (e : Int)) ?_ (by rw [(Blk.new wr _ _).cell]; rfl)
          rw [hB, UInt8.toNat_ofNat']
          omega
        have y1 : ¬ 9223372036854775807 < (ustr [B]).size + (ustr T).size := by
          rw [ustr_size, ustr_size]
          simp only [List.length_cons, List.length_nil]
          omega
        have hm0' : 1 ≤ m := by omega
        have hb2 := hb.alloc (by exact hb.size) (.cells #[.int .u8 (48 + (e : Int))] 5)
        clear he hq hm0 hB
        go_wp2
        go_roundw
        case rel => exact ⟨q, B :: T, by go_num, by rw [ustr_app]; rfl, by omega, hT2, HT2, hb2⟩
        case measure => simp [intOf]; omega
  · obtain ⟨N, rfl⟩ : ∃ N : Nat, n = -(N : Int) := ⟨(-n).toNat, by omega⟩
    have hN : 1 ≤ N := by omega
    have hneg : decide (-(N : Int) < 0) = true := decide_eq_true (by omega)
    obtain ⟨R, hR⟩ : ∃ R, R = Lib.itoa (-(N : Int)) := ⟨_, rfl⟩
    rw [← hR]
    have HR : Hid (R = 45 :: dd N) := Lib.hid (by rw [hR, Lib.itoa_neg N hN]; unfold dd; rw [if_neg (by omega)])
    clear hR
    go_enter Tryd.func12, Tryd.ntmps12
    go_wp2
    go_loopw [0, 3, 5] (fun nv ov _ wr => ∃ (m : Nat) (T : List UInt8), nv = .int .i64 (-(m : Int)) ∧ ov = .string (ustr T) ∧ m ≤ N ∧ T.length ≤ N ∧ Hid (R = 45 :: (dd m ++ T)) ∧ Below w.heap.size w wr) (fun nv _ _ _ => (-(intOf nv)).toNat)
    case atStart => exact ⟨N, [], rfl, rfl, Nat.le_refl _, Nat.zero_le _, Lib.hid (by rw [HR.out, List.append_nil]), Below.refl _ _⟩
    case round =>
      clear hneg hne hs hz
      obtain ⟨m, T, rfl, rfl, hm, hT, HT, hb⟩ := hrel
      by_cases hm0 : m = 0
      · subst hm0
        have HT2 : Hid (R = 45 :: T) := Lib.hid (by rw [HT.out]; rfl)
        have y1 : ¬ 9223372036854775807 < 1 + (ustr T).size := by
          rw [ustr_size]
          omega
        go_wp2
        go_ret
        refine ⟨?_, hb⟩
        show Ending.returned (.string (ustr [45] ++ ustr T)) = _
        rw [ustr_app, HT2.out]
        rfl
      · obtain ⟨e, he⟩ : ∃ e, e = m % 10 := ⟨_, rfl⟩
        obtain ⟨q, hq⟩ : ∃ q, q = m / 10 := ⟨_, rfl⟩
        have he10 : e < 10 := by omega
        have hqm : q < m := by omega
        have m1 : (m : Int) % 10 = (e : Int) := by omega
        have m2 : (m : Int) / 10 = (q : Int) := by omega
        have m3 : (-(m : Int) == 0) = false := by simp; omega
        obtain ⟨B, hB⟩ : ∃ B, B = UInt8.ofNat (48 + e) := ⟨_, rfl⟩
        have HT2 : Hid (R = 45 :: (dd q ++ (B :: T))) := Lib.hid (by rw [HT.out, dd_step hm0, ← he, ← hq, ← hB, List.append_assoc]; rfl)
        have hT2 : (B :: T).length ≤ N := by
          have h1 : (45 :: (dd q ++ (B :: T))).length ≤ N + 1 := by rw [← HT2.out, HR.out]; simp [dd_len N]
          rw [List.length_cons, List.length_append] at h1
          omega
        have hcv : (convert 48 9 (.slice (some ⟨wr.heap.size, 0, none⟩) 1 1)).run Tryd.prog (wr.alloc (.cells #[.int .u8 (48 + (e : Int))] 5)) = .ok (.string (ustr [B])) (wr.alloc (.cells #[.int .u8 (48 + (e : Int))] 5)) := by
          refine run_byte_string _ _ _ (48 + (e : Int)) ?_ (by rw [(Blk.new wr _ _).cell]; rfl)
          rw [hB, UInt8.toNat_ofNat']
          omega
        have y1 : ¬ 9223372036854775807 < (ustr [B]).size + (ustr T).size := by
          rw [ustr_size, ustr_size]
          simp only [List.length_cons, List.length_nil]
          omega
        have hm0' : 1 ≤ m := by omega
        have hb2 := hb.alloc (by exact hb.size) (.cells #[.int .u8 (48 + (e : Int))] 5)
        clear he hq hm0 hB
        by_cases e0 : e = 0
        · subst e0
          have hcv0 : (convert 48 9 (.slice (some ⟨wr.heap.size, 0, none⟩) 1 1)).run Tryd.prog (wr.alloc (.cells #[.int .u8 48] 5)) = .ok (.string (ustr [B])) (wr.alloc (.cells #[.int .u8 48] 5)) := hcv
          have hb3 : Below w.heap.size w (wr.alloc (.cells #[.int .u8 48] 5)) := hb2
          have m1' : (m : Int) % 10 = 0 := m1
          clear hcv hb2 m1
          go_wp2
          go_roundw
          case rel => exact ⟨q, B :: T, by go_num, by rw [ustr_app]; rfl, by omega, hT2, HT2, hb3⟩
          case measure => simp [intOf]; omega
        · have e1 : decide (-(e : Int) < 0) = true := decide_eq_true (by omega)
          go_wp2
          go_roundw
          case rel => exact ⟨q, B :: T, by go_num, by rw [ustr_app]; rfl, by omega, hT2, HT2, hb2⟩
          case measure => simp [intOf]; omega
end Go.Proofs.YtoccedebiacbiaaDoor

namespace Go.Proofs.YtoccedebiacbiaaDoor
open Go.RowKit

abbrev Tab10 (w : World) : Prop := Lib.TabIs Tryd.prog w "internal/strconv.uint64pow10" .u64 Lib.pow10Tab
set_option maxRecDepth 100000 in
theorem impl_fmtInt_c (n : Int) (w : World) (h0 : -4611686018427387904 ≤ n) (h1 : n ≤ 4611686018427387904) (ht : Tab10 w) :
    Calls Tryd.prog 24 #[.int .i64 n] w fun e w' => e = .returned (.string (ustr (Lib.itoa n))) ∧ Below w.heap.size w w' := by
  have HI := Lib.hid (Tryd.strconv_Itoa n (by omega) (by omega) w ht)
  clear ht
  go_enter Tryd.func24, Tryd.ntmps24
  go_wp2_with fail
  refine (HI.out).mono ?_
  rintro e w' ⟨rfl, k, os, rfl⟩
  have hb := Go.Lib.below_grow w.heap.size w (Nat.le_refl _) k os
  go_wp2
  go_ret
  exact ⟨rfl, hb⟩
/-- the text of an int -/
abbrev itoaB (n : Int) : ByteArray := ustr (Lib.itoa n)
theorem itoa_S (w : World) (n : Int) (h0 : -4611686018427387904 ≤ n) (h1 : n ≤ 4611686018427387904) : SNumAt w n (itoaB n) := fun w' _ => spec_fmtInt_c n w' h0 h1
set_option maxRecDepth 100000 in
theorem itoa_I (w : World) (ht : Tab10 w) (n : Int) (h0 : -4611686018427387904 ≤ n) (h1 : n ≤ 4611686018427387904) : INumAt w n (itoaB n) := fun w' hb => impl_fmtInt_c n w' h0 h1 (by
  have hs : (Tryd.prog.globalNamed "internal/strconv.uint64pow10").isSome = true := by kernel_rfl
  obtain ⟨g, hg⟩ := Option.isSome_iff_exists.1 hs
  exact Go.Joins.tab_stays hg ht hb (Nat.le_refl _))
end Go.Proofs.YtoccedebiacbiaaDoor

namespace Go.Proofs.YtoccedebiacbiaaDoor
open Go.RowKit
def chR (b : Bool) : ByteArray := if b then ⟨#[35]⟩ else ⟨#[46]⟩
/-- a row's first k signs -/
def rowS (r : Reg) (y : Nat) : Nat → ByteArray
  | 0 => ⟨#[]⟩
  | k + 1 => rowS r y k ++ chR (r.has k y)
/-- the first k rows -/
def fmtS (r : Reg) : Nat → ByteArray
  | 0 => ⟨#[]⟩
  | k + 1 => (if k = 0 then fmtS r k else fmtS r k ++ ⟨#[47]⟩) ++ rowS r k r.w.toNat
theorem rowS_size {r : Reg} {y : Nat} : ∀ k, (rowS r y k).size = k
  | 0 => rfl
  | k + 1 => by
    rw [rowS, ByteArray.size_append, rowS_size k]
    unfold chR
    split <;> rfl
theorem fmtS_size {r : Reg} (hw : r.w.toNat ≤ 6) : ∀ y, (fmtS r y).size ≤ 7 * y
  | 0 => Nat.le_refl _
  | y + 1 => by
    have h := fmtS_size hw y
    rw [fmtS, ByteArray.size_append, rowS_size]
    split
    · omega
    · rw [ByteArray.size_append, show (⟨#[47]⟩ : ByteArray).size = 1 from rfl]; omega
def fmtR (r : Reg) : ByteArray := if r.valid then fmtS r r.rows.length else ⟨#[]⟩
theorem ba_empty (a : ByteArray) : a ++ ⟨#[]⟩ = a := by apply ByteArray.ext; simp [ByteArray.data_append]
theorem ba_assoc (a b c : ByteArray) : a ++ b ++ c = a ++ (b ++ c) := ByteArray.append_assoc
set_option maxRecDepth 100000 in
set_option maxHeartbeats 1600000 in
theorem spec_fmtReg_c {v : Value} {r : Reg} (w : World) (h : RegRd w 0 w.heap.size v r) (hn : r.rows.length ≤ 1048576) :
    Calls Tryd.prog 11 #[v] w fun e w' => e = .returned (.string (fmtR r)) ∧ Below w.heap.size w w' := by
  have HRD : Hid (∀ w1, Below w.heap.size w w1 → RegRd w1 0 w1.heap.size v r) := Lib.hid fun w1 b1 => (h.keep (SameIn.of_below b1 (Nat.le_refl _))).more (Nat.le_refl _) b1.size
  obtain ⟨s, rfl, hs⟩ := h
  obtain ⟨A, c, rfl, hm, hr⟩ := id hs
  have H0 := (Sep.start w).box 27 #[.int .i64 r.w, .slice A r.rows.length c]
  obtain ⟨bR, hbR⟩ : ∃ bR, bR = w.heap.size := ⟨_, rfl⟩
  rw [← hbR] at H0
  obtain ⟨R, hR⟩ : ∃ R, R = fmtR r := ⟨_, rfl⟩
  rw [← hR]
  have HR := Lib.hid hR
  clear hr hs hR
  go_enter Tryd.func11, Tryd.ntmps11
  go_upto_region 1 with fail
  rw [← hbR]
  generalize (w.alloc (.cells #[.int .i64 r.w, .slice A r.rows.length c] 27)) = W at *
  clear hbR
  go_wp2
  go_loopw [3, 4] (fun sv yv wx => ∃ y : Nat, y ≤ r.rows.length ∧ yv = .int .i64 y ∧ sv = .string (fmtS r y) ∧ Hid (y ≠ 0 → r.valid = true) ∧ Sep w wx [Res.box bR 27 #[.int .i64 r.w, .slice A r.rows.length c]]) (fun _ yv _ => r.rows.length - (intOf yv).toNat)
  case atStart => exact ⟨0, Nat.zero_le _, rfl, rfl, Lib.hid (fun h => absurd rfl h), H0⟩
  case round =>
    clear H0
    obtain ⟨y, hy, rfl, rfl, HY, H⟩ := hrel
    have c0 : wr.cell? ⟨bR, 0, none⟩ = some (.int .i64 r.w) := H.h0.cell 0
    have c1 : wr.cell? ⟨bR, 1, none⟩ = some (.slice A r.rows.length c) := H.h0.cell 1
    by_cases hlt : y < r.rows.length
    · have HI := Lib.hid (spec_IsRegion_c wr (HRD.out wr H.below))
      go_wp2_with fail
      refine (HI.out).mono ?_
      rintro e w1 ⟨rfl, b1⟩
      have H1 := H.step b1
      clear H HI b1 c0 c1
      cases hv : r.valid
      · have HE : Hid (R = fmtS r y) := Lib.hid (by
          have h0 : y = 0 := by
            rcases Nat.eq_zero_or_pos y with h | h
            · exact h
            · have := HY.out (by omega); rw [hv] at this; cases this
          rw [HR.out, h0]; unfold fmtR; rw [hv]; rfl)
        clear hv
        go_wp2
        go_ret
        exact ⟨by rw [HE.out]; rfl, H1.below⟩
      · have HV := Lib.hid (Reg.valid_iff.1 hv)
        have HVV := Lib.hid hv
        clear hv
        have hv1 := HV.out.1
        obtain ⟨wn, hwn⟩ : ∃ wn : Nat, wn = r.w.toNat := ⟨_, rfl⟩
        have hwr : r.w = (wn : Int) := by omega
        have HWN := Lib.hid hwn
        have HWR := Lib.hid hwr
        rw [hwr] at H1
        clear hwn hwr
        have HWL : Hid (wn ≤ 6) := Lib.hid (by have := HV.out.2.1; have := HWR.out; omega)
        have hw6 : wn ≤ 6 := HWL.out
        have hfs : (fmtS r y).size ≤ 42 := by
          have := fmtS_size (r := r) (by have := HV.out.2.1; omega) y
          have := HV.out.2.2.2.1
          omega
        have hs3 : ¬ (fmtS r y).size + 1 > 9223372036854775807 := by omega
        have hs4 : ¬ 9223372036854775807 < (fmtS r y).size + 1 := by omega
        by_cases hy0 : y = 0
        · have HPS : Hid ((fmtS r y).size ≤ 43) := Lib.hid (by omega)
          have hdi : decide ((0 : Int) < (y : Int)) = false := by simp; omega
          have hdi2 : decide ((y : Int) > 0) = false := by simp; omega
          have hdn : decide (0 < y) = false := by simp; omega
          have HP : Hid (fmtS r (y + 1) = fmtS r y ++ rowS r y wn) := Lib.hid (by rw [fmtS, if_pos hy0, HWN.out])
          clear hy0 hv1
          go_wp2
          obtain ⟨w2, hw2⟩ : ∃ w2 : World, w2 = w1 := ⟨_, rfl⟩
          subst hw2
          go_loopw [3, 5] (fun sv xv wx => ∃ k : Nat, k ≤ wn ∧ xv = .int .i64 k ∧ sv = .string ((fmtS r y) ++ rowS r y k) ∧ Sep w wx [Res.box bR 27 #[.int .i64 wn, .slice A r.rows.length c]]) (fun _ xv _ => wn - (intOf xv).toNat)
          case atStart => exact ⟨0, Nat.zero_le _, rfl, by rw [rowS]; exact congrArg Value.string (ba_empty _).symm, H1⟩
          case round =>
            clear H1
            obtain ⟨k, hk, rfl, rfl, H⟩ := hrel
            have c0 : wr.cell? ⟨bR, 0, none⟩ = some (.int .i64 wn) := H.h0.cell 0
            have c1 : wr.cell? ⟨bR, 1, none⟩ = some (.slice A r.rows.length c) := H.h0.cell 1
            obtain ⟨T, hT⟩ : ∃ T, T = (fmtS r y) ++ rowS r y k := ⟨_, rfl⟩
            have HT := Lib.hid hT
            have hsz : T.size ≤ 100 := by rw [hT, ByteArray.size_append, rowS_size]; have := HPS.out; have := HWL.out; omega
            have hs1 : ¬ T.size + 1 > 9223372036854775807 := by omega
            have hs2 : ¬ 9223372036854775807 < T.size + 1 := by omega
            rw [← hT]
            clear hT
            by_cases hkl : k < wn
            · have HI := Lib.hid (spec_has_c (r := r) k y wr (HRD.out wr H.below) HV.out)
              rw [HWR.out] at HI
              go_wp2_with fail
              refine (HI.out).mono ?_
              rintro e w3 ⟨rfl, b3⟩
              have H3 := H.step b3
              clear H HI b3 c0 c1
              cases hh : r.has k y
              · have HC : Hid (T ++ ⟨#[46]⟩ = (fmtS r y) ++ rowS r y (k + 1)) := Lib.hid (by rw [HT.out, rowS, hh, ba_assoc ((fmtS r y))]; rfl)
                clear hh
                go_wp2
                rw [HC.out]
                go_roundw
                case rel => exact ⟨k + 1, by omega, by go_num, rfl, H3⟩
                case measure => simp [intOf]; omega
              · have HC : Hid (T ++ ⟨#[35]⟩ = (fmtS r y) ++ rowS r y (k + 1)) := Lib.hid (by rw [HT.out, rowS, hh, ba_assoc ((fmtS r y))]; rfl)
                clear hh
                go_wp2
                rw [HC.out]
                go_roundw
                case rel => exact ⟨k + 1, by omega, by go_num, rfl, H3⟩
                case measure => simp [intOf]; omega
            · obtain rfl : k = wn := by omega
              rw [HT.out, ← HP.out]
              rw [← HWR.out] at H
              go_wp2
              go_roundw
              case rel => exact ⟨y + 1, by omega, by go_num, rfl, Lib.hid (fun _ => HVV.out), H⟩
              case measure => simp [intOf]; omega
        · have HPS : Hid ((fmtS r y ++ ⟨#[47]⟩).size ≤ 43) := Lib.hid (by rw [ByteArray.size_append, show (⟨#[47]⟩ : ByteArray).size = 1 from rfl]; omega)
          have hdi : decide ((0 : Int) < (y : Int)) = true := by simp; omega
          have hdi2 : decide ((y : Int) > 0) = true := by simp; omega
          have hdn : decide (0 < y) = true := by simp; omega
          have HP : Hid (fmtS r (y + 1) = fmtS r y ++ ⟨#[47]⟩ ++ rowS r y wn) := Lib.hid (by rw [fmtS, if_neg hy0, HWN.out])
          clear hy0 hv1
          go_wp2
          obtain ⟨w2, hw2⟩ : ∃ w2 : World, w2 = w1 := ⟨_, rfl⟩
          subst hw2
          go_loopw [3, 5] (fun sv xv wx => ∃ k : Nat, k ≤ wn ∧ xv = .int .i64 k ∧ sv = .string ((fmtS r y ++ ⟨#[47]⟩) ++ rowS r y k) ∧ Sep w wx [Res.box bR 27 #[.int .i64 wn, .slice A r.rows.length c]]) (fun _ xv _ => wn - (intOf xv).toNat)
          case atStart => exact ⟨0, Nat.zero_le _, rfl, by rw [rowS]; exact congrArg Value.string (ba_empty _).symm, H1⟩
          case round =>
            clear H1
            obtain ⟨k, hk, rfl, rfl, H⟩ := hrel
            have c0 : wr.cell? ⟨bR, 0, none⟩ = some (.int .i64 wn) := H.h0.cell 0
            have c1 : wr.cell? ⟨bR, 1, none⟩ = some (.slice A r.rows.length c) := H.h0.cell 1
            obtain ⟨T, hT⟩ : ∃ T, T = (fmtS r y ++ ⟨#[47]⟩) ++ rowS r y k := ⟨_, rfl⟩
            have HT := Lib.hid hT
            have hsz : T.size ≤ 100 := by rw [hT, ByteArray.size_append, rowS_size]; have := HPS.out; have := HWL.out; omega
            have hs1 : ¬ T.size + 1 > 9223372036854775807 := by omega
            have hs2 : ¬ 9223372036854775807 < T.size + 1 := by omega
            rw [← hT]
            clear hT
            by_cases hkl : k < wn
            · have HI := Lib.hid (spec_has_c (r := r) k y wr (HRD.out wr H.below) HV.out)
              rw [HWR.out] at HI
              go_wp2_with fail
              refine (HI.out).mono ?_
              rintro e w3 ⟨rfl, b3⟩
              have H3 := H.step b3
              clear H HI b3 c0 c1
              cases hh : r.has k y
              · have HC : Hid (T ++ ⟨#[46]⟩ = (fmtS r y ++ ⟨#[47]⟩) ++ rowS r y (k + 1)) := Lib.hid (by rw [HT.out, rowS, hh, ba_assoc ((fmtS r y ++ ⟨#[47]⟩))]; rfl)
                clear hh
                go_wp2
                rw [HC.out]
                go_roundw
                case rel => exact ⟨k + 1, by omega, by go_num, rfl, H3⟩
                case measure => simp [intOf]; omega
              · have HC : Hid (T ++ ⟨#[35]⟩ = (fmtS r y ++ ⟨#[47]⟩) ++ rowS r y (k + 1)) := Lib.hid (by rw [HT.out, rowS, hh, ba_assoc ((fmtS r y ++ ⟨#[47]⟩))]; rfl)
                clear hh
                go_wp2
                rw [HC.out]
                go_roundw
                case rel => exact ⟨k + 1, by omega, by go_num, rfl, H3⟩
                case measure => simp [intOf]; omega
            · obtain rfl : k = wn := by omega
              rw [HT.out, ← HP.out]
              rw [← HWR.out] at H
              go_wp2
              go_roundw
              case rel => exact ⟨y + 1, by omega, by go_num, rfl, Lib.hid (fun _ => HVV.out), H⟩
              case measure => simp [intOf]; omega
    · obtain rfl : y = r.rows.length := by omega
      have HE : Hid (R = fmtS r r.rows.length) := Lib.hid (by
        rw [HR.out]
        unfold fmtR
        cases hv : r.valid
        · have h0 : r.rows.length = 0 := by
            rcases Nat.eq_zero_or_pos r.rows.length with h | h
            · exact h
            · have := HY.out (by omega); rw [hv] at this; cases this
          rw [h0]; rfl
        · rfl)
      go_wp2
      go_ret
      exact ⟨by rw [HE.out]; rfl, H.below⟩
end Go.Proofs.YtoccedebiacbiaaDoor

namespace Go.Proofs.YtoccedebiacbiaaDoor
open Go.RowKit

def rowsB (r : Reg) (k : Nat) : List ByteArray := (List.range k).map fun y => rowS r y r.w.toNat
theorem rowsB_succ (r : Reg) (k : Nat) : rowsB r (k + 1) = rowsB r k ++ [rowS r k r.w.toNat] := by unfold rowsB; rw [List.range_succ, List.map_append]; rfl
theorem rowsB_len (r : Reg) (k : Nat) : (rowsB r k).length = k := by simp [rowsB]
theorem fmtS_join (r : Reg) : ∀ k, fmtS r k = joinB ⟨#[47]⟩ (rowsB r k)
  | 0 => rfl
  | k + 1 => by
    rw [rowsB_succ, fmtS]
    by_cases h : k = 0
    · subst h
      rw [if_pos rfl]
      show fmtS r 0 ++ _ = joinB _ ([] ++ [_])
      rw [List.nil_append, joinB_one, fmtS]
      apply ByteArray.ext; simp [ByteArray.data_append]
    · rw [if_neg h, joinB_snoc _ _ _ (fun e => h (by have := rowsB_len r k; rw [e] at this; simpa using this.symm)), fmtS_join r k]
set_option maxRecDepth 100000 in
set_option maxHeartbeats 1600000 in
theorem impl_fmtReg_c {v : Value} {r : Reg} (w : World) (h : RegRd w 0 w.heap.size v r) (hn : r.rows.length ≤ 1048576) :
    Calls Tryd.prog 23 #[v] w fun e w' => e = .returned (.string (fmtR r)) ∧ Below w.heap.size w w' := by
  obtain ⟨i0, hi, hz0, hz1, hz2⟩ := info_parts infoStr
  have HRD : Hid (∀ w1, Below w.heap.size w w1 → RegRd w1 0 w1.heap.size v r) := Lib.hid fun w1 b1 => (h.keep (SameIn.of_below b1 (Nat.le_refl _))).more (Nat.le_refl _) b1.size
  obtain ⟨s, rfl, hs⟩ := h
  obtain ⟨A, c, rfl, hm, hr⟩ := id hs
  have H0 := (Sep.start w).box 27 #[.int .i64 r.w, .slice A r.rows.length c]
  obtain ⟨bR, hbR⟩ : ∃ bR, bR = w.heap.size := ⟨_, rfl⟩
  rw [← hbR] at H0
  obtain ⟨R, hR⟩ : ∃ R, R = fmtR r := ⟨_, rfl⟩
  rw [← hR]
  have HR := Lib.hid hR
  clear hr hs hR
  go_enter Tryd.func23, Tryd.ntmps23
  go_upto_region 1 with fail
  rw [← hbR]
  generalize (w.alloc (.cells #[.int .i64 r.w, .slice A r.rows.length c] 27)) = W at *
  clear hbR
  have c0 : W.cell? ⟨bR, 0, none⟩ = some (.int .i64 r.w) := H0.h0.cell 0
  have c1 : W.cell? ⟨bR, 1, none⟩ = some (.slice A r.rows.length c) := H0.h0.cell 1
  have HI := Lib.hid (impl_IsRegion_c W (HRD.out W H0.below))
  go_wp2_with fail
  refine (HI.out).mono ?_
  rintro e w1 ⟨rfl, b1⟩
  have H1 := H0.step b1
  clear H0 HI b1 c0 c1
  cases hv : r.valid
  · obtain rfl : R = ⟨#[]⟩ := by rw [HR.out]; unfold fmtR; rw [hv]; rfl
    clear hv
    go_wp2
    go_ret
    exact ⟨rfl, H1.below⟩
  have HE : Hid (R = joinB ⟨#[47]⟩ (rowsB r r.rows.length)) := Lib.hid (by rw [HR.out, ← fmtS_join]; unfold fmtR; rw [hv]; rfl)
  have HV := Lib.hid (Reg.valid_iff.1 hv)
  clear hv
  have hv1 := HV.out.1
  have hv2 := HV.out.2.1
  have hv4 := HV.out.2.2.2.1
  obtain ⟨wn, hwn⟩ : ∃ wn : Nat, wn = r.w.toNat := ⟨_, rfl⟩
  have hwr : r.w = (wn : Int) := by omega
  have hw6 : wn ≤ 6 := by omega
  have HWN := Lib.hid hwn
  have HWR := Lib.hid hwr
  rw [hwr] at H1
  clear hwn hwr hv1 hv2
  have c0 : w1.cell? ⟨bR, 0, none⟩ = some (.int .i64 wn) := H1.h0.cell 0
  have c1 : w1.cell? ⟨bR, 1, none⟩ = some (.slice A r.rows.length c) := H1.h0.cell 1
  have H2 := H1.nil 9 1
  clear H1
  go_wp2
  clear c0 c1
  go_loopw [3, 13] (fun ov yv wx => ∃ y : Nat, y ≤ r.rows.length ∧ yv = .int .i64 y ∧ Sep w wx [Res.row ov 9 1 y (sc (rowsB r y)), Res.box bR 27 #[.int .i64 wn, .slice A r.rows.length c]]) (fun _ yv _ => r.rows.length - (intOf yv).toNat)
  case atStart => exact ⟨0, Nat.zero_le _, rfl, H2⟩
  case round =>
    clear H2
    obtain ⟨y, hy, rfl, H⟩ := hrel
    by_cases hlt : y < r.rows.length
    · have c0 : wr.cell? ⟨bR, 0, none⟩ = some (.int .i64 wn) := H.h1.cell 0
      obtain ⟨w2, hw2⟩ : ∃ w2 : World, w2 = wr := ⟨_, rfl⟩
      subst hw2
      go_wp2
      clear c0
      go_loopw [5, 18] (fun sv xv wx => ∃ k : Nat, k ≤ wn ∧ xv = .int .i64 k ∧ sv = .string (rowS r y k) ∧ Below w2.heap.size w2 wx) (fun _ xv _ => wn - (intOf xv).toNat)
      case atStart => exact ⟨0, Nat.zero_le _, rfl, rfl, Below.refl _ _⟩
      case round =>
        obtain ⟨k, hk, rfl, rfl, hbel⟩ := hrel
        have H3 := H.step hbel
        have hs1 : (rowS r y k).size = k := rowS_size k
        have hs2 : ¬ 9223372036854775807 < (rowS r y k).size + 1 := by omega
        have hs3 : ¬ (rowS r y k).size + 1 > 9223372036854775807 := by omega
        clear hs1
        by_cases hkl : k < wn
        · have c0 : wr.cell? ⟨bR, 0, none⟩ = some (.int .i64 wn) := H3.h1.cell 0
          have c1 : wr.cell? ⟨bR, 1, none⟩ = some (.slice A r.rows.length c) := H3.h1.cell 1
          have HI := Lib.hid (impl_has_c (r := r) k y wr (HRD.out wr H3.below) HV.out)
          rw [HWR.out] at HI
          go_wp2_with fail
          refine (HI.out).mono ?_
          rintro e w3 ⟨rfl, b3⟩
          have hb3 := hbel.trans (b3.mono hbel.size)
          clear H3 HI b3 c0 c1 hbel
          cases hh : r.has k y
          · have HC : Hid (rowS r y k ++ ⟨#[46]⟩ = rowS r y (k + 1)) := Lib.hid (by rw [rowS, hh]; rfl)
            clear hh
            go_wp2
            rw [HC.out]
            go_roundw
            case rel => exact ⟨k + 1, by omega, by go_num, rfl, hb3⟩
            case measure => simp [intOf]; omega
          · have HC : Hid (rowS r y k ++ ⟨#[35]⟩ = rowS r y (k + 1)) := Lib.hid (by rw [rowS, hh]; rfl)
            clear hh
            go_wp2
            rw [HC.out]
            go_roundw
            case rel => exact ⟨k + 1, by omega, by go_num, rfl, hb3⟩
            case measure => simp [intOf]; omega
        · obtain rfl : k = wn := by omega
          have HRW : Hid (rowsB r (y + 1) = rowsB r y ++ [rowS r y k]) := Lib.hid (by rw [rowsB_succ, ← HWN.out])
          clear hs2 hs3 hbel
          generalize rowS r y k = T at *
          go_wp2_with (at_builtin; refine wpList_app rfl _ _ 42 rfl 9 i0 _ 1 16 Tryd.underlying42 hi hz0 hz1 hz2 rfl (by decide) _ _ _ rfl (H3.alloc _) _ _ _ [.string T] rfl (Rd.fresh wr _ #[.string T] 1 1 rfl) ocs (by unfold maxLen; omega) (by omega) ?_; intro v5 w5 H5; clear H3)
          have H6 : Sep w w5 [Res.row v5 9 1 (y + 1) (sc (rowsB r (y + 1))), Res.box bR 27 #[.int .i64 k, .slice A r.rows.length c]] := by rw [HRW.out, sc_append]; exact H5
          clear H5
          go_roundw
          case rel => exact ⟨y + 1, by omega, by go_num, H6⟩
          case measure => simp [intOf]; omega
    · obtain rfl : y = r.rows.length := by omega
      have HJ := Lib.hid (join_own (b := 6) ⟨#[47]⟩ H (rowsB_len r _).symm (fun x hx => by
        obtain ⟨j, _, rfl⟩ := List.mem_map.1 hx
        rw [rowS_size]; have := HWN.out; omega) (by rw [rowsB_len]; exact hn) (by decide))
      obtain ⟨A5, c5, rfl, _, _, _⟩ := Res.row_at H.h0
      have hb := H.below
      clear H
      go_wp2_with fail
      refine (HJ.out).mono ?_
      rintro e w6 ⟨rfl, b6⟩
      go_wp2
      go_ret
      exact ⟨by rw [HE.out]; rfl, hb.trans (b6.mono hb.size)⟩
end Go.Proofs.YtoccedebiacbiaaDoor
