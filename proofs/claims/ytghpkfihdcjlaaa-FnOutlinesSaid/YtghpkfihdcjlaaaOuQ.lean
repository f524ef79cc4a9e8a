
/-
  The free places around a shape, each once: plain. Maps from cells to numbers; what a look-up, a store and 'len' do. Holes: the walk of the program's 'HolesOf'. Places around a shape: both walks.
-/
import Derived.Test.YtghpkfihdcjlaaaOuH
import Derived.Test.YtghpkfihdcjlaaaMapCell
import Derived.Test.YtghpkfihdcjlaaaSepX
import Derived.MapKept
import Derived.Maps.RangeRun
import Derived.Test.YtghpkfihdcjlaaaShpFG
import Derived.Test.YtghpkfihdcjlaaaPutX
import Derived.Deep.DeepCutAuto
namespace Go.Proofs.Ytghpkfihdcjlaaa

/-- d lies beside one of the first i cells, or is among the first k places beside number i -/
def nqD (f : Cell → Nat → Cell) (s : List Cell) (i k : Nat) (d : Cell) : Prop := (∃ (j : Nat) (c : Cell) (e : Nat), j < i ∧ s[j]? = some c ∧ e < 4 ∧ d = f c e) ∨ ∃ (c : Cell) (e : Nat), s[i]? = some c ∧ e < k ∧ d = f c e
structure NqL (f : Cell → Nat → Cell) (s L : List Cell) (i k : Nat) : Prop where
  nodup : L.Nodup
  mem : ∀ d, d ∈ L ↔ ¬ d ∈ s ∧ nqD f s i k d
  len : L.length ≤ 4 * i + k
theorem NqL.start {f : Cell → Nat → Cell} {s : List Cell} : NqL f s [] 0 0 := ⟨List.nodup_nil, fun d => by
  constructor
  · intro h; cases h
  · rintro ⟨_, ⟨j, c, e, h, _⟩ | ⟨c, e, _, h, _⟩⟩ <;> omega, by simp⟩
theorem nqD_succ {f : Cell → Nat → Cell} {s : List Cell} {i k : Nat} {c d : Cell} (hc : s[i]? = some c) : nqD f s i (k + 1) d ↔ nqD f s i k d ∨ d = f c k := by
  unfold nqD
  constructor
  · rintro (h | ⟨c', e, h1, h2, h3⟩)
    · exact .inl (.inl h)
    · rw [hc] at h1
      injection h1 with h1
      subst h1
      by_cases he : e = k
      · subst he; exact .inr h3
      · exact .inl (.inr ⟨c, e, hc, by omega, h3⟩)
  · rintro ((h | ⟨c', e, h1, h2, h3⟩) | h)
    · exact .inl h
    · exact .inr ⟨c', e, h1, by omega, h3⟩
    · exact .inr ⟨c, k, hc, by omega, h⟩
theorem NqL.add {f : Cell → Nat → Cell} {s L : List Cell} {i k : Nat} {c d : Cell} (h : NqL f s L i k) (hc : s[i]? = some c) (hd : d = f c k) (hs : ¬ d ∈ s) (hL : ¬ d ∈ L) : NqL f s (L ++ [d]) i (k + 1) := ⟨by
  rw [List.nodup_append]
  refine ⟨h.nodup, List.nodup_cons.2 ⟨by simp, List.nodup_nil⟩, fun a ha b hb e => ?_⟩
  rw [List.mem_singleton] at hb
  subst e; subst hb
  exact hL ha, fun x => by
  rw [List.mem_append, List.mem_singleton, h.mem, nqD_succ hc, ← hd]
  constructor
  · rintro (⟨h1, h2⟩ | rfl)
    · exact ⟨h1, .inl h2⟩
    · exact ⟨hs, .inr rfl⟩
  · rintro ⟨h1, h2 | h2⟩
    · exact .inl ⟨h1, h2⟩
    · exact .inr h2, by have := h.len; rw [List.length_append, List.length_singleton]; omega⟩
theorem NqL.skip {f : Cell → Nat → Cell} {s L : List Cell} {i k : Nat} {c d : Cell} (h : NqL f s L i k) (hc : s[i]? = some c) (hd : d = f c k) (hs : d ∈ s ∨ d ∈ L) : NqL f s L i (k + 1) := ⟨h.nodup, fun x => by
  rw [h.mem, nqD_succ hc, ← hd]
  constructor
  · rintro ⟨h1, h2⟩
    exact ⟨h1, .inl h2⟩
  · rintro ⟨h1, h2 | h2⟩
    · exact ⟨h1, h2⟩
    · subst h2
      rcases hs with hs | hs
      · exact absurd hs h1
      · exact (h.mem _).1 hs, by have := h.len; omega⟩
theorem NqL.next {f : Cell → Nat → Cell} {s L : List Cell} {i : Nat} {c : Cell} (h : NqL f s L i 4) (hc : s[i]? = some c) : NqL f s L (i + 1) 0 := ⟨h.nodup, fun x => by
  rw [h.mem]
  unfold nqD
  constructor
  · rintro ⟨h1, ⟨j, c', e, h2, h3, h4, h5⟩ | ⟨c', e, h2, h3, h4⟩⟩
    · exact ⟨h1, .inl ⟨j, c', e, by omega, h3, h4, h5⟩⟩
    · exact ⟨h1, .inl ⟨i, c', e, by omega, h2, h3, h4⟩⟩
  · rintro ⟨h1, ⟨j, c', e, h2, h3, h4, h5⟩ | ⟨c', e, h2, h3, h4⟩⟩
    · by_cases hj : j = i
      · subst hj; exact ⟨h1, .inr ⟨c', e, h3, h4, h5⟩⟩
      · exact ⟨h1, .inl ⟨j, c', e, by omega, h3, h4, h5⟩⟩
    · omega, by have := h.len; omega⟩
/-- how many free places lie beside a shape -/
noncomputable def nqN (s : List Cell) : Nat := Classical.epsilon fun n : Nat => ∃ L : List Cell, L.Nodup ∧ (∀ d, d ∈ L ↔ ¬ d ∈ s ∧ ∃ c ∈ s, Adj c d) ∧ n = L.length
theorem NqL.done {f : Cell → Nat → Cell} {s L : List Cell} (h : NqL f s L s.length 0) (hf : ∀ c d : Cell, Adj c d ↔ ∃ e, e < 4 ∧ d = f c e) : nqN s = L.length := by
  have key : ∀ d, d ∈ L ↔ ¬ d ∈ s ∧ ∃ c ∈ s, Adj c d := fun d => by
    rw [h.mem]
    unfold nqD
    constructor
    · rintro ⟨h1, ⟨j, c', e, h2, h3, h4, h5⟩ | ⟨c', e, h2, h3, h4⟩⟩
      · exact ⟨h1, c', List.mem_of_getElem? h3, (hf _ _).2 ⟨e, h4, h5⟩⟩
      · omega
    · rintro ⟨h1, c, hc, ha⟩
      obtain ⟨e, he, hd⟩ := (hf _ _).1 ha
      obtain ⟨j, hj, rfl⟩ := List.getElem_of_mem hc
      exact ⟨h1, .inl ⟨j, s[j], e, hj, List.getElem?_eq_getElem hj, he, hd⟩⟩
  obtain ⟨L', h1, h2, h3⟩ : ∃ L' : List Cell, L'.Nodup ∧ (∀ d, d ∈ L' ↔ ¬ d ∈ s ∧ ∃ c ∈ s, Adj c d) ∧ nqN s = L'.length := Classical.epsilon_spec (p := fun n : Nat => ∃ L : List Cell, L.Nodup ∧ (∀ d, d ∈ L ↔ ¬ d ∈ s ∧ ∃ c ∈ s, Adj c d) ∧ n = L.length) ⟨L.length, L, h.nodup, key, rfl⟩
  rw [h3]
  exact ((List.perm_ext_iff_of_nodup h1 h.nodup).2 fun d => by rw [h2, key]).length_eq
theorem nbr_all (c d : Cell) : Adj c d ↔ ∃ e, e < 4 ∧ d = nbr c e := Iff.rfl
theorem nbi_all (c d : Cell) : Adj c d ↔ ∃ e, e < 4 ∧ d = nbi c e := ⟨adj_nbi, fun ⟨_, he, hd⟩ => hd ▸ nbi_adj he⟩
/-- what 'NeighbourCells' answers -/
noncomputable def nbZ (s : List Cell) : Int := if isShape s then (nqN s : Int) else -1
end Go.Proofs.Ytghpkfihdcjlaaa

namespace Go.Proofs.Ytghpkfihdcjlaaa
open Go.RowKit

theorem cv_inj {a b : Cell} (h : cv a = cv b) : a = b := by
  obtain ⟨x, y⟩ := a
  obtain ⟨u, v⟩ := b
  simp [cv] at h
  rw [h.1, h.2]
set_option maxRecDepth 100000 in
theorem cfindA (w : World) (c : Cell) : ∀ (es : List MapEntry) (i : Nat), (∀ e ∈ es, ∃ d, e.key = cv d) →
    ((Instr.findAsking 41 (cv c) es i).run Try.prog w = .ok none w ∧ ∀ e ∈ es, e.key ≠ cv c) ∨ ∃ j e, (Instr.findAsking 41 (cv c) es i).run Try.prog w = .ok (some (i + j, e.val)) w ∧ es[j]? = some e ∧ e.key = cv c
  | [], i, _ => .inl ⟨by simp [Instr.findAsking], by simp⟩
  | e :: es, i, h => by
    obtain ⟨d, hd⟩ := h e (by simp)
    by_cases hc : c = d
    · refine .inr ⟨0, e, ?_, rfl, by rw [hd, hc]⟩
      simp only [Instr.findAsking, Sem.run_bind]
      rw [hd, run_equal_cell]
      simp [hc, Result.andThen]
    · have key : (Instr.findAsking 41 (cv c) (e :: es) i).run Try.prog w = (Instr.findAsking 41 (cv c) es (i + 1)).run Try.prog w := by
        rw [Instr.findAsking]
        simp only [Sem.run_bind]
        rw [hd, run_equal_cell]
        simp [hc, Result.andThen]
      rcases cfindA w c es (i + 1) (fun x hx => h x (by simp [hx])) with ⟨h1, h2⟩ | ⟨j, x, h1, h2, h3⟩
      · left
        refine ⟨key.trans h1, fun x hx => ?_⟩
        rcases List.mem_cons.1 hx with rfl | hx
        · intro hk
          exact hc (cv_inj (hk.symm.trans hd))
        · exact h2 x hx
      · right
        refine ⟨j + 1, x, ?_, by simpa using h2, h3⟩
        rw [key, h1, show i + 1 + j = i + (j + 1) by omega]
set_option maxRecDepth 100000 in
theorem cfind (w : World) (c : Cell) (es : List MapEntry) (h : ∀ e ∈ es, ∃ d, e.key = cv d) :
    ((Instr.findKey 41 (cv c) es).run Try.prog w = .ok none w ∧ ∀ e ∈ es, e.key ≠ cv c) ∨ ∃ j e, (Instr.findKey 41 (cv c) es).run Try.prog w = .ok (some (j, e.val)) w ∧ es[j]? = some e ∧ e.key = cv c := by
  cases es with
  | nil => exact .inl ⟨by simp [Instr.findKey, run_underlying cellUnder, Instr.findNow], by simp⟩
  | cons e es =>
    have key : (Instr.findKey 41 (cv c) (e :: es)).run Try.prog w = (Instr.findAsking 41 (cv c) (e :: es) 0).run Try.prog w := by
      unfold cv
      simp only [Instr.findKey, Sem.run_bind, run_underlying cellUnder, Result.andThen_ok, Instr.findNow, Instr.sameNow]
    rcases cfindA w c (e :: es) 0 h with ⟨h1, h2⟩ | ⟨j, x, h1, h2, h3⟩
    · exact .inl ⟨key.trans h1, h2⟩
    · exact .inr ⟨j, x, by rw [key, h1, Nat.zero_add], h2, h3⟩
set_option maxRecDepth 100000 in
theorem cstays (w : World) (c : Cell) : (Instr.keyThatStays (cv c) (cv c)).run Try.prog w = .ok (cv c) w := by
  simp [Instr.keyThatStays, Instr.sameBits, cv]
set_option maxRecDepth 100000 in
theorem cmUnder : Try.prog.underlying 49 = some (.map 41 3) := by kernel_rfl
/-- the keys in the order in which they came, and their numbers -/
structure CMd (es : Array MapEntry) (cl : Nat) (K : List Cell) (f : Cell → Int) : Prop where
  st : MapKept.Stamped es cl
  keys : es.toList.map (·.key) = K.map cv
  vals : ∀ e ∈ es.toList, ∀ c, e.key = cv c → e.val = .int .i64 (f c)
  no : ∀ c, ¬ c ∈ K → f c = 0
theorem CMd.nil : CMd #[] 0 [] (fun _ => 0) := ⟨MapKept.stamped_empty 0, rfl, by simp, fun _ _ => rfl⟩
theorem CMd.isKey {es : Array MapEntry} {cl : Nat} {K : List Cell} {f : Cell → Int} (h : CMd es cl K f) : ∀ e ∈ es.toList, ∃ d, d ∈ K ∧ e.key = cv d := fun e he => by
  have : e.key ∈ K.map cv := by rw [← h.keys]; exact List.mem_map.2 ⟨e, he, rfl⟩
  obtain ⟨d, hd, h2⟩ := List.mem_map.1 this
  exact ⟨d, hd, h2.symm⟩
theorem CMd.nodup {es : Array MapEntry} {cl : Nat} {K : List Cell} {f : Cell → Int} (h : CMd es cl K f) : K.Nodup := by
  have h1 := h.st.2.2
  rw [h.keys] at h1
  rw [List.Nodup, List.pairwise_map] at h1
  exact h1.imp fun hab e => hab (by rw [e])
theorem CMd.not_mem {es : Array MapEntry} {cl : Nat} {K : List Cell} {f : Cell → Int} (h : CMd es cl K f) {c : Cell} (hn : ∀ e ∈ es.toList, e.key ≠ cv c) : ¬ c ∈ K := fun hc => by
  have : cv c ∈ es.toList.map (·.key) := by rw [h.keys]; exact List.mem_map.2 ⟨c, hc, rfl⟩
  obtain ⟨e, he, h2⟩ := List.mem_map.1 this
  exact hn e he h2
def CM (w : World) (b : Nat) (K : List Cell) (f : Cell → Int) : Prop := ∃ es cl, w.heap[b]? = some (.map es cl) ∧ CMd es cl K f
set_option maxRecDepth 100000 in
theorem CM.lookup {w : World} {b : Nat} {K : List Cell} {f : Cell → Int} (h : CM w b K f) (c : Cell) :
    (Instr.lookup 49 (.map (some b)) (cv c) false).run Try.prog w = .ok (.int .i64 (f c)) w := by
  obtain ⟨es, cl, hb, hd⟩ := h
  rcases cfind w c es.toList (fun e he => (hd.isKey e he).imp fun _ h => h.2) with ⟨h1, h2⟩ | ⟨j, e, h1, h2, h3⟩
  · have hz := hd.no c (hd.not_mem h2)
    simp [Instr.lookup, run_underlying cmUnder, MapKept.run_getObj_map hb, run_checkKey_cell, h1, Result.andThen, hz]
  · have hv := hd.vals e (List.mem_of_getElem? h2) c h3
    simp [Instr.lookup, run_underlying cmUnder, MapKept.run_getObj_map hb, run_checkKey_cell, h1, Result.andThen, hv]
def addK (K : List Cell) (c : Cell) : List Cell := if c ∈ K then K else K ++ [c]
set_option maxRecDepth 100000 in
theorem CM.update {w : World} {b : Nat} {K : List Cell} {f g : Cell → Int} (c : Cell) (h : CM w b K f) (hg : ∀ d, d ≠ c → g d = f d) :
    ∃ w', (Instr.mapUpdate 49 (.map (some b)) (cv c) (.int .i64 (g c))).run Try.prog w = .ok () w' ∧ CM w' b (addK K c) g ∧ Only (fun x => x = b) w w' := by
  obtain ⟨es, cl, hb, hd⟩ := h
  have ho : ∀ o, Only (fun x => x = b) w { w with heap := w.heap.setIfInBounds b o } := fun o => ⟨rfl, rfl, rfl, by simp, fun j hj hne => by
    have : b ≠ j := fun e => hne e.symm
    simp [this]⟩
  rcases cfind w c es.toList (fun e he => (hd.isKey e he).imp fun _ h => h.2) with ⟨h1, h2⟩ | ⟨j, e, h1, h2, h3⟩
  · have hc := hd.not_mem h2
    refine ⟨_, by simp [Instr.mapUpdate, run_underlying cmUnder, MapKept.run_getObj_map hb, run_checkKey_cell, h1, MapKept.run_setObj_map _ hb, Result.andThen]; rfl, ⟨_, _, (MapKept.heap_set hb).1, ⟨MapKept.stamped_push hd.st h2, ?_, ?_, ?_⟩⟩, ho _⟩
    · rw [addK, if_neg hc, Array.toList_push, List.map_append, List.map_append, hd.keys]
      rfl
    · intro x hx d hxd
      simp only [Array.toList_push, List.mem_append, List.mem_singleton] at hx
      rcases hx with hx | rfl
      · rw [hd.vals x hx d hxd, hg d (fun e => h2 x hx (by rw [hxd, e]))]
      · have := cv_inj hxd
        subst this
        rfl
    · intro d hd2
      rw [addK, if_neg hc, List.mem_append, List.mem_singleton] at hd2
      rw [hg d (fun e => hd2 (.inr e))]
      exact hd.no d fun h => hd2 (.inl h)
  · have hj : es[j]? = some e := by simpa using h2
    have hkey : ∀ e', es[j]? = some e' → ({ e' with key := cv c, val := .int .i64 (g c) } : MapEntry).key = e'.key := fun e' he' => by rw [hj] at he'; cases he'; exact h3.symm
    have hst := MapKept.stamped_modify hd.st j (fun e' => { e' with key := cv c, val := .int .i64 (g c) }) (fun _ _ => rfl) (fun e' _ he' => hkey e' he')
    have hkm := MapKept.modify_keys (es := es) j (fun e' => { e' with key := cv c, val := .int .i64 (g c) }) hkey
    have hcK : c ∈ K := by
      obtain ⟨d, h4, h5⟩ := hd.isKey e (List.mem_of_getElem? h2)
      rwa [cv_inj (h3.symm.trans h5)]
    refine ⟨_, by simp [Instr.mapUpdate, run_underlying cmUnder, MapKept.run_getObj_map hb, run_checkKey_cell, h1, hj, h3, cstays, MapKept.run_setObj_map _ hb, Result.andThen], ⟨_, _, (MapKept.heap_set hb).1, ⟨hst, ?_, ?_, ?_⟩⟩, ho _⟩
    · rw [hkm, hd.keys, addK, if_pos hcK]
    · intro x hx d hxd
      obtain ⟨i, hi⟩ := List.getElem?_of_mem hx
      rw [Array.getElem?_toList, Array.getElem?_modify] at hi
      by_cases ei : j = i
      · subst ei
        rw [if_pos rfl, hj] at hi
        injection hi with hi
        subst hi
        have := cv_inj hxd
        subst this
        rfl
      · rw [if_neg ei] at hi
        have hi2 : es.toList[i]? = some x := by rw [Array.getElem?_toList]; exact hi
        have hx2 : x ∈ es.toList := List.mem_of_getElem? hi2
        have hne : d ≠ c := by
          rintro rfl
          have hp := ((MapKept.stamped_iff es cl).1 hd.st).2.2
          obtain ⟨a1, a2⟩ := List.getElem?_eq_some_iff.1 hi2
          obtain ⟨b1, b2⟩ := List.getElem?_eq_some_iff.1 h2
          rcases Nat.lt_or_gt_of_ne ei with hl | hl
          · exact (List.pairwise_iff_getElem.1 hp j i b1 a1 hl) (by rw [a2, b2, hxd, h3])
          · exact (List.pairwise_iff_getElem.1 hp i j a1 b1 hl) (by rw [a2, b2, hxd, h3])
        rw [hd.vals x hx2 d hxd, hg d hne]
    · intro d hd2
      rw [addK, if_pos hcK] at hd2
      rw [hg d (fun e => hd2 (by rw [e]; exact hcK))]
      exact hd.no d hd2
set_option maxRecDepth 100000 in
theorem CM.len {w : World} {b : Nat} {K : List Cell} {f : Cell → Int} (h : CM w b K f) (ty : TypeId) : (Builtin.len_ #[49] ty #[.map (some b)]).run Try.prog w = .ok (.int .i64 K.length) w := by
  obtain ⟨es, cl, hb, hd⟩ := h
  have e1 : es.size = K.length := by
    have := congrArg List.length hd.keys
    simpa using this
  simp [Builtin.len_, run_underlying cmUnder, MapKept.run_getObj_map hb, goInt, Result.andThen, e1]
def Res.cmap (b : Nat) (K : List Cell) (f : Cell → Int) : Res := ⟨fun x => x = b, fun w => CM w b K f, fun hs h => by
  obtain ⟨es, cl, h1, h2⟩ := h
  exact ⟨es, cl, (hs b rfl).trans h1, h2⟩, fun h hb => by
  subst hb
  obtain ⟨es, cl, h1, h2⟩ := h
  exact (Array.getElem?_eq_some_iff.1 h1).1⟩
set_option maxRecDepth 100000 in
theorem Sep.cput {w0 w : World} {b : Nat} {K : List Cell} {f g : Cell → Int} {L : List Res} (c : Cell) (H : Sep w0 w (Res.cmap b K f :: L)) (hg : ∀ d, d ≠ c → g d = f d) :
    ∃ w', (Instr.mapUpdate 49 (.map (some b)) (cv c) (.int .i64 (g c))).run Try.prog w = .ok () w' ∧ Sep w0 w' (Res.cmap b (addK K c) g :: L) := by
  obtain ⟨w', h1, h2, h3⟩ := CM.update c (show CM w b K f from H.h0) hg
  exact ⟨w', h1, H.turn h3 h2 (fun _ hx => .inl hx)⟩
theorem Sep.cmade {w0 w : World} {L : List Res} (H : Sep w0 w L) : Sep w0 (w.alloc (.map #[] 0)) (Res.cmap w.heap.size [] (fun _ => 0) :: L) :=
  H.new (r := Res.cmap w.heap.size [] (fun _ => 0)) ((Below.refl _ _).alloc (Nat.le_refl _) _) ⟨#[], 0, heap_alloc_new w _, CMd.nil⟩ (fun x hx => by have hx : x = w.heap.size := hx; omega)
end Go.Proofs.Ytghpkfihdcjlaaa

namespace Go.Proofs.Ytghpkfihdcjlaaa
open Go.RowKit

/-- the marks of a grid of ten by ten -/
def gix (c : Cell) : Nat := (c.y * 10 + c.x).toNat
structure GInv (V : Cell → Prop) (G : List Bool) : Prop where
  len : G.length = 100
  val : ∀ c : Cell, 0 ≤ c.x ∧ c.x ≤ 9 → 0 ≤ c.y ∧ c.y ≤ 9 → ∃ f, G[gix c]? = some f ∧ (f = true ↔ V c)
theorem GInv.start : GInv (fun _ => False) (List.replicate 100 false) := ⟨by simp, fun c h1 h2 => ⟨false, by
  unfold gix
  rw [List.getElem?_replicate, if_pos (by omega)], by simp⟩⟩
theorem GInv.imp {V V' : Cell → Prop} {G : List Bool} (h : GInv V G) (hi : ∀ c, V c ↔ V' c) : GInv V' G := ⟨h.len, fun c h1 h2 => by
  obtain ⟨f, h3, h4⟩ := h.val c h1 h2
  exact ⟨f, h3, h4.trans (hi c)⟩⟩
theorem GInv.set {V : Cell → Prop} {G : List Bool} (h : GInv V G) {d : Cell} (d1 : 0 ≤ d.x ∧ d.x ≤ 9) (d2 : 0 ≤ d.y ∧ d.y ≤ 9) : GInv (fun c => V c ∨ c = d) (G.set (gix d) true) := ⟨by simpa using h.len, fun c h1 h2 => by
  obtain ⟨f, h3, h4⟩ := h.val c h1 h2
  have hl := h.len
  by_cases e : c = d
  · subst e
    refine ⟨true, ?_, by simp⟩
    rw [List.getElem?_set_self (by unfold gix; omega)]
  · refine ⟨f, ?_, by rw [h4]; exact ⟨.inl, fun hh => hh.resolve_right e⟩⟩
    rw [List.getElem?_set_ne, h3]
    intro he
    apply e
    obtain ⟨x, y⟩ := c
    obtain ⟨u, v⟩ := d
    unfold gix at he
    simp only at *
    rw [Cell.mk.injEq]
    omega⟩
abbrev gridA (G : List Bool) : Array Value := (bc G).toArray
theorem gridA_at {w : World} {g : Nat} {t : TypeId} {G : List Bool} (h : Blk w g t (gridA G)) {i : Nat} {f : Bool} (hi : G[i]? = some f) : w.cell? ⟨g, i, none⟩ = some (.bool f) := by
  rw [h.cell, List.getElem?_toArray]
  exact bc_at hi
theorem gridA_set {G : List Bool} {i : Nat} {f : Bool} : (gridA G).setIfInBounds i (.bool f) = gridA (G.set i f) := by
  simp only [gridA, ← bc_set]
  exact List.setIfInBounds_toArray _ _ _

set_option maxRecDepth 100000 in
set_option maxHeartbeats 800000 in
theorem sides_c (c : Cell) (w : World) (h1 : -100 ≤ c.x ∧ c.x ≤ 100) (h2 : -100 ≤ c.y ∧ c.y ≤ 100) :
    Calls Try.prog 33 #[.agg #[.int .i64 c.x, .int .i64 c.y]] w fun e w' => ∃ v', e = .returned v' ∧ CellsIn w' w.heap.size w'.heap.size v' [nbi c 0, nbi c 1, nbi c 2, nbi c 3] ∧ (∃ g, v' = .slice (some ⟨g, 0, none⟩) 4 4) ∧ Below w.heap.size w w' := by
  have H0 := (Sep.start w).step ((Below.refl _ _).alloc (Nat.le_refl _) (.cells #[.int .i64 c.x, .int .i64 c.y] 41))
  have H := H0.rowBox 41 #[.int .i64 c.x, .int .i64 (c.y - 1), .int .i64 (c.x - 1), .int .i64 c.y, .int .i64 (c.x + 1), .int .i64 c.y, .int .i64 c.x, .int .i64 (c.y + 1)] 2 4 rfl (by decide)
  simp only [World.size_alloc] at H
  clear H0
  go_enter Try.func33, Try.ntmps33
  go_wp2
  go_ret
  exact ⟨_, rfl, CellsIn.mk H.oi.1 rfl rfl, ⟨_, rfl⟩, H.below⟩

theorem QI.of_row1 {w : World} {lo sz n g0 c0 : Nat} {e : TypeId} {xs : List Value} (h : w.ownsRow lo e sz (.slice (some ⟨g0, 0, none⟩) n c0) n xs) : QI w lo e sz (.slice (some ⟨g0, 0, none⟩) n c0) n xs := by
  refine ⟨h.1, ?_⟩
  rcases h.2 with ⟨h0, _⟩ | ⟨g, cap, cur, he, hbg, hgg, h1, h2, h3, h4⟩
  · cases h0
  · right
    refine ⟨g, 0, cap, cur, he, hbg, hgg, h1, h2, by omega, fun j u hu => ?_⟩
    rw [← h4, List.getElem?_take] at hu
    split at hu
    · rw [Nat.zero_add, ← Array.getElem?_toList]; exact hu
    · cases hu
theorem gix_nat {u v : Nat} : gix ⟨(u : Int), (v : Int)⟩ = v * 10 + u := by unfold gix; simp only; omega
theorem shp_take {s : List Cell} {k : Nat} {d c : Cell} (h : s[k]? = some d) : shpAt (s.take (k + 1)) c ↔ shpAt (s.take k) c ∨ c = ⟨d.x + 1, d.y + 1⟩ := by
  obtain ⟨hk, rfl⟩ := List.getElem?_eq_some_iff.1 h
  unfold shpAt
  rw [List.take_succ_eq_append_getElem hk, List.mem_append, List.mem_singleton]
  obtain ⟨x, y⟩ := c
  simp only [Cell.mk.injEq]
  generalize s[k] = q
  obtain ⟨a, b⟩ := q
  simp only [Cell.mk.injEq]
  constructor
  · rintro (h | h)
    · exact .inl h
    · exact .inr (by omega)
  · rintro (h | h)
    · exact .inl h
    · exact .inr (by omega)
set_option maxRecDepth 100000 in
set_option maxHeartbeats 6400000 in
theorem impl_holes_c {v : Value} {s : List Cell} (w : World) (h : CellsRd w 0 w.heap.size v s) (hn : s.length ≤ 1048576) :
    Calls Try.prog 8 #[v] w fun e w' => e = .returned (.int .i64 (holesZ s)) ∧ Below w.heap.size w w' := by
  obtain ⟨i0, hi, hz0, hz1, hz2⟩ := info_parts infoCellS
  have HS0 := Lib.hid (impl_isShape_c w h hn)
  obtain ⟨A, c, rfl, hm, hr⟩ := id h
  obtain ⟨R, hR⟩ : ∃ R : Int, R = holesZ s := ⟨_, rfl⟩
  rw [← hR]
  have HR := Lib.hid hR
  have HRS := Lib.hid hr
  clear h hR hr hm
  go_enter Try.func8, Try.ntmps8
  go_wp2_with fail
  refine (HS0.out).mono ?_
  rintro e w1 ⟨rfl, b1⟩
  clear HS0
  cases hsh : isShape s
  · obtain rfl : R = -1 := by rw [HR.out, holesZ, hsh]; rfl
    clear hsh
    go_wp2
    go_ret
    exact ⟨rfl, b1⟩
  obtain ⟨hl1, hl8⟩ := shp_len hsh
  have HSH := Lib.hid hsh
  have HR2 : Hid (R = (holesN s : Nat)) := Lib.hid (by rw [HR.out, holesZ, hsh]; rfl)
  have HON : Hid (∀ c ∈ s, On c) := Lib.hid fun c hc => shp_on hsh hc
  obtain ⟨b, off, hA, _, hb, hc⟩ := HRS.out.2 (by omega)
  subst hA
  have HCE := Lib.hid hc
  have hz : gridA (List.replicate 100 false) = Try.zeroCells39 := by kernel_rfl
  have H0 := ((Sep.start w).step b1).box 39 Try.zeroCells39
  rw [← hz] at H0
  obtain ⟨g, hg⟩ : ∃ g, g = w1.heap.size := ⟨_, rfl⟩
  have HZ := Lib.hid hz
  clear hsh hc b1 hz
  go_wp2
  rw [← HZ.out, ← hg]
  rw [← hg] at H0
  generalize hW : w1.alloc (.cells (gridA (List.replicate 100 false)) 39) = W at *
  clear hW hg HZ
  go_loopw [18] (fun i wr => ∃ (k : Nat) (G : List Bool), k ≤ s.length ∧ i = .int .i64 k ∧ Hid (GInv (shpAt (s.take k)) G) ∧ Sep w wr [Res.box g 39 (gridA G)]) (fun i _ => s.length - (intOf i).toNat)
  case atStart => exact ⟨0, _, Nat.zero_le _, rfl, Lib.hid (GInv.start.imp fun c => by simp [shpAt]), H0⟩
  case round =>
    clear H0
    obtain ⟨k, G, hk, rfl, HG, H⟩ := hrel
    by_cases hlt : k < s.length
    · obtain ⟨d, hla⟩ : ∃ d, s[k]? = some d := ⟨s[k], List.getElem?_eq_getElem hlt⟩
      obtain ⟨⟨o1, o2⟩, o3, o4⟩ := HON.out d (List.mem_of_getElem? hla)
      have hbw := H.below
      have q1 : wr.cell? ⟨b, off + k * 2, none⟩ = some (.int .i64 d.x) := (hbw.cell (p := ⟨b, off + k * 2, none⟩) hb).trans (HCE.out _ _ (cc_at hla).1)
      have q2 : wr.cell? ⟨b, off + k * 2 + 1, none⟩ = some (.int .i64 d.y) := (hbw.cell (p := ⟨b, off + k * 2 + 1, none⟩) hb).trans (by rw [Nat.add_assoc]; exact HCE.out _ _ (cc_at hla).2)
      obtain ⟨u, hu⟩ : ∃ u : Nat, d.x + 1 = (u : Int) := ⟨(d.x + 1).toNat, by omega⟩
      obtain ⟨v, hv⟩ : ∃ v : Nat, d.y + 1 = (v : Int) := ⟨(d.y + 1).toNat, by omega⟩
      have hu10 : u < 10 := by omega
      have hv10 : v < 10 := by omega
      have HL := Lib.hid hla
      obtain ⟨f, hf, _⟩ := HG.out.val ⟨(u : Int), (v : Int)⟩ (by simp only; omega) (by simp only; omega)
      rw [gix_nat] at hf
      have hset := HG.out.set (d := ⟨(u : Int), (v : Int)⟩) (by simp only; omega) (by simp only; omega)
      rw [gix_nat] at hset
      have HG2 : Hid (GInv (shpAt (s.take (k + 1))) (G.set (v * 10 + u) true)) := Lib.hid (hset.imp fun c => by rw [shp_take HL.out, hu, hv])
      have H1 := (H.box 41 #[.int .i64 d.x, .int .i64 d.y])
      obtain ⟨gc, hgc⟩ : ∃ gc, gc = wr.heap.size := ⟨_, rfl⟩
      rw [← hgc] at H1
      clear hla hbw H hset
      go_upto_region 7 with fail
      generalize wr.alloc (.cells #[.int .i64 d.x, .int .i64 d.y] 41) = wb at *
      rw [← hgc]
      clear q1 q2 hgc
      have k0 : wb.cell? ⟨gc, 0, none⟩ = some (.int .i64 d.x) := H1.h0.cell 0
      have k1 : wb.cell? ⟨gc, 1, none⟩ = some (.int .i64 d.y) := H1.h0.cell 1
      refine wp_region_stq 8 (by kernel_rfl) (by kernel_rfl) ?_
      simp only [List.take_succ_cons, List.take_zero, List.drop_succ_cons, List.drop_zero]
      repeat (first | go_big_quiet_skip | (go_big_quiet_want; go_big_quiet_op; first | go_big_quiet_on | (apply Exists.intro; refine ⟨?_, ?_⟩; focus (fail); go_big_quiet_on)))
      refine wpQuiet_nil ?_
      have kf := H1.drew.h1.frozen (v * 10 + u)
      have kc := gridA_at H1.drew.h1 hf
      have H2 := (H1.g1.drew.set_ (v * 10 + u) (.bool true)).drop2
      rw [gridA_set] at H2
      clear H1 k0 k1
      go_wp2
      clear kf kc
      go_roundw
      case rel => exact ⟨k + 1, _, by omega, by go_num, HG2, H2⟩
      case measure => simp [intOf]; omega
    · obtain rfl : k = s.length := by omega
      have HG0 : Hid (GInv (fun c => shpAt s c ∨ c ∈ ([] : List Cell)) G) := Lib.hid (HG.out.imp fun c => by rw [List.take_length]; simp)
      go_wp2
      go_loopw [6, 31] (fun pv yv wr => ∃ (S L : List Cell) (G : List Bool) (y m : Nat), y ≤ 10 ∧ yv = .int .i64 y ∧ pv = .int .i64 m ∧ m ≤ 100 ∧ Hid (m = L.length) ∧ Hid (KInv s S L ⟨0, (y : Int)⟩) ∧ Hid (GInv (fun c => shpAt s c ∨ c ∈ S) G) ∧ Sep w wr [Res.box g 39 (gridA G)]) (fun _ yv _ => 10 - (intOf yv).toNat)
      case atStart => exact ⟨[], [], G, 0, 0, by omega, rfl, rfl, by omega, Lib.hid rfl, Lib.hid KInv.start, HG0, H⟩
      case round =>
        clear H HG HG0 hk hlt
        obtain ⟨S, L, G, y, m, hy10, rfl, rfl, hm, HM, HK, HG, H⟩ := hrel
        by_cases hy : y < 10
        · obtain ⟨wo, hwo⟩ : ∃ wo : World, wo = wr := ⟨_, rfl⟩
          subst hwo
          go_wp2
          go_loopw [6, 34] (fun pv xv wr => ∃ (S L : List Cell) (G : List Bool) (x m : Nat), x ≤ 10 ∧ xv = .int .i64 x ∧ pv = .int .i64 m ∧ m ≤ 100 ∧ Hid (m = L.length) ∧ Hid (KInv s S L ⟨(x : Int), (y : Int)⟩) ∧ Hid (GInv (fun c => shpAt s c ∨ c ∈ S) G) ∧ Sep w wr [Res.box g 39 (gridA G)]) (fun _ xv _ => 10 - (intOf xv).toNat)
          case atStart => exact ⟨S, L, G, 0, m, by omega, rfl, rfl, hm, HM, HK, HG, H⟩
          case round =>
            clear H hm HM HK HG
            obtain ⟨S, L, G, x, m, hx10, rfl, rfl, hm, HM, HK, HG, H⟩ := hrel
            by_cases hx : x < 10
            · obtain ⟨f, hf, hfV⟩ := HG.out.val ⟨(x : Int), (y : Int)⟩ (by simp only; omega) (by simp only; omega)
              rw [gix_nat] at hf
              have q1 := gridA_at H.h0 hf
              have HF := Lib.hid hf
              have HFV := Lib.hid hfV
              clear hf hfV
              cases f
              rotate_left
              · have hk2 : KInv s S L ⟨(x : Int) + 1, (y : Int)⟩ := HK.out.skip fun hfr => (HFV.out.1 rfl).resolve_left (frG_iff.1 hfr).2.2
                have HK2 : Hid (KInv s S L ⟨((x + 1 : Nat) : Int), (y : Int)⟩) := Lib.hid hk2
                clear hk2
                go_wp2
                clear q1
                go_roundw
                case rel => exact ⟨S, L, G, x + 1, m, by omega, by go_num, rfl, hm, HM, HK2, HG, H⟩
                case measure => simp [intOf]; omega
              have hnv : ¬ (shpAt s ⟨(x : Int), (y : Int)⟩ ∨ (⟨(x : Int), (y : Int)⟩ : Cell) ∈ S) := fun h => by have := HFV.out.2 h; cases this
              have HFR : Hid (frG s ⟨(x : Int), (y : Int)⟩ = true) := Lib.hid (frG_iff.2 ⟨by simp only; omega, by simp only; omega, fun h => hnv (.inl h)⟩)
              have HNS : Hid (¬ (⟨(x : Int), (y : Int)⟩ : Cell) ∈ S) := Lib.hid fun h => hnv (.inr h)
              have HF0 := Lib.hid (Fle.start (B := (· ∈ S)) HFR.out HNS.out)
              have kf := H.h0.frozen (y * 10 + x)
              have hset := HG.out.set (d := ⟨(x : Int), (y : Int)⟩) (by simp only; omega) (by simp only; omega)
              rw [gix_nat] at hset
              have HG2 : Hid (GInv (fun c => shpAt s c ∨ c ∈ S ∨ c ∈ [(⟨(x : Int), (y : Int)⟩ : Cell)]) (G.set (y * 10 + x) true)) := Lib.hid (hset.imp fun c => by rw [List.mem_singleton, or_assoc])
              have H1 := H.set_ (y * 10 + x) (.bool true)
              rw [gridA_set] at H1
              have H2 := H1.rowBox 41 #[.int .i64 (x : Int), .int .i64 (y : Int)] 2 1 rfl (by decide)
              clear hnv hset H1 H
              go_wp2
              clear q1 kf
              have hsz : (wr.setCell ⟨g, y * 10 + x, none⟩ (.bool true)).heap.size = wr.heap.size := by simp
              rw [hsz] at H2
              have H3 := H2.say (r' := Res.que (.slice (some ⟨wr.heap.size, 0, none⟩) 1 1) 41 2 1 (cc [(⟨(x : Int), (y : Int)⟩ : Cell)])) (fun h => QI.of_row1 h) (fun _ h => h)
              clear H2 hsz
              generalize (wr.setCell ⟨g, y * 10 + x, none⟩ (.bool true)).alloc (.cells #[.int .i64 (x : Int), .int .i64 (y : Int)] 41) = W1 at *
              go_loopg [9] 101 (fun gk qv wr => ∃ (n : Nat) (T Q : List Cell) (G : List Bool), gk + n = 101 ∧ n ≤ T.length ∧ T.length ≤ 100 ∧ Hid (Q = T.drop n) ∧ Hid (Fle (frG s) (· ∈ S) ⟨(x : Int), (y : Int)⟩ T n 0) ∧ Hid (GInv (fun c => shpAt s c ∨ c ∈ S ∨ c ∈ T) G) ∧ Sep w wr [Res.que qv 41 2 Q.length (cc Q), Res.box g 39 (gridA G)])
              case atStart => exact ⟨0, [⟨(x : Int), (y : Int)⟩], [⟨(x : Int), (y : Int)⟩], _, rfl, by simp, by simp, Lib.hid rfl, HF0, HG2, H3⟩
              case round =>
                clear H3 HG2 HF0
                obtain ⟨n, T, Q, G, hgk, hnT, hT, HQ, HFl, HG2, H⟩ := hrel
                cases Q with
                | nil =>
                  have hTn : T.length ≤ n := by
                    have := congrArg List.length HQ.out
                    rw [List.length_drop] at this
                    simp at this
                    omega
                  have hk2 := HK.out.add HFR.out HNS.out HFl.out hTn
                  have HK2 : Hid (KInv s (S ++ T) (L ++ [(⟨(x : Int), (y : Int)⟩ : Cell)]) ⟨((x + 1 : Nat) : Int), (y : Int)⟩) := Lib.hid hk2
                  have hm2 : m + 1 ≤ 100 := by
                    have := hk2.llen
                    rw [List.length_append, ← HM.out] at this
                    exact this
                  have HM2 : Hid (m + 1 = (L ++ [(⟨(x : Int), (y : Int)⟩ : Cell)]).length) := Lib.hid (by rw [List.length_append, HM.out]; rfl)
                  have HG3 : Hid (GInv (fun c => shpAt s c ∨ c ∈ S ++ T) G) := Lib.hid (HG2.out.imp fun c => by rw [List.mem_append])
                  obtain ⟨Aq, cq, rfl⟩ := QI.shape H.h0
                  have H2 := H.drop
                  have hyd : decide ((y : Int) < 10) = true := decide_eq_true (by omega)
                  clear hk2 H
                  go_wp2
                  go_roundw
                  case rel =>
                    rw [hyd]
                    (repeat apply Exists.intro)
                    exact ⟨⟨S ++ T, L ++ [⟨(x : Int), (y : Int)⟩], G, x + 1, m + 1, by omega, by go_num, by go_num, hm2, HM2, HK2, HG3, H2⟩, rfl⟩
                  case measure => simp [intOf]; omega
                | cons c Q =>
                  have hTc : T[n]? = some c := by
                    have := congrArg (fun l => l[0]?) HQ.out
                    simp only [List.getElem?_cons_zero, List.getElem?_drop, Nat.add_zero] at this
                    exact this.symm
                  have HTC := Lib.hid hTc
                  have hnT2 : n < T.length := (List.getElem?_eq_some_iff.1 hTc).1
                  have HQ2 : Hid (Q = T.drop (n + 1)) := Lib.hid (by
                    have := congrArg List.tail HQ.out
                    rw [List.tail_cons, List.tail_drop] at this
                    exact this)
                  have hcf := frG_iff.1 (HFl.out.reach c (List.mem_of_getElem? hTc)).2.2
                  obtain ⟨⟨c1, c2'⟩, ⟨c3, c4⟩, _⟩ := hcf
                  have hql : (c :: Q).length = Q.length + 1 := rfl
                  rw [hql] at H
                  have hQ100 : Q.length ≤ 100 := by rw [HQ2.out, List.length_drop]; omega
                  obtain ⟨gq, oq, capq, csq, hqv, _, hbq, hnc, hcm, _, hcells⟩ := QI.at_ H.h0 (by omega)
                  subst hqv
                  have k0 : wr.cell? ⟨gq, oq, none⟩ = some (.int .i64 c.x) := hcells 0 _ rfl
                  have k1 : wr.cell? ⟨gq, oq + 1, none⟩ = some (.int .i64 c.y) := hcells 1 _ rfl
                  have H1 := H.box 41 #[.int .i64 c.x, .int .i64 c.y]
                  obtain ⟨gc, hgc⟩ : ∃ gc, gc = wr.heap.size := ⟨_, rfl⟩
                  rw [← hgc] at H1
                  have HQX : Hid (QI (wr.alloc (.cells #[.int .i64 c.x, .int .i64 c.y] 41)) 0 41 2 (.slice (some ⟨gq, oq, none⟩) (Q.length + 1) capq) (Q.length + 1) (cc (c :: Q))) := Lib.hid H1.h1
                  have hd0 : decide ((0 : Int) < ((Q.length + 1 : Nat) : Int)) = true := decide_eq_true (by omega)
                  have hd1 : decide ((0 : Int) < (Q.length : Int) + 1) = true := decide_eq_true (by omega)
                  clear hTc hql hcells hbq H
                  go_wp2_with (refine wpList_tail_q _ rfl _ 24 rfl 0 41 i0 2 Try.underlying24 hi hz1 (by decide) gq oq Q.length capq _ rfl hnc HQX.out ?_; clear HQX; intro tv hq2 htv)
                  clear k0 k1 hd0 hd1
                  have H2 := H1.g1.say (r' := Res.que tv 41 2 Q.length (cc Q)) (fun _ => hq2) (fun b hb => by
                    have hb : tv.ownBlock = some b := hb
                    rw [htv] at hb
                    exact hb)
                  clear H1 hq2 htv
                  generalize wr.alloc (.cells #[.int .i64 c.x, .int .i64 c.y] 41) = W2 at *
                  rw [← hgc]
                  clear hgc
                  refine (sides_c c W2 (by omega) (by omega)).mono ?_
                  rintro e W3 ⟨v3, rfl, o3, ⟨gs, rfl⟩, b3⟩
                  have H3 := (H2.oiNew b3 o3).p3
                  clear H2 o3 b3
                  go_wp2
                  obtain ⟨wp, hwp⟩ : ∃ wp : World, wp = W3 := ⟨_, rfl⟩
                  subst hwp
                  go_loopw [9, 63] (fun qv ev wr => ∃ (e : Nat) (T Q : List Cell) (G : List Bool), e ≤ 4 ∧ ev = .int .i64 e ∧ n < T.length ∧ T.length ≤ 100 ∧ Hid (T[n]? = some c) ∧ Hid (Q = T.drop (n + 1)) ∧ Q.length ≤ 100 ∧ Hid (Fle (frG s) (· ∈ S) ⟨(x : Int), (y : Int)⟩ T n e) ∧ Hid (GInv (fun c => shpAt s c ∨ c ∈ S ∨ c ∈ T) G) ∧ Sep w wr [Res.que qv 41 2 Q.length (cc Q), Res.box gc 41 #[.int .i64 c.x, .int .i64 c.y], Res.box g 39 (gridA G), Res.row (.slice (some ⟨gs, 0, none⟩) 4 4) 41 2 4 (cc [nbi c 0, nbi c 1, nbi c 2, nbi c 3])]) (fun _ ev _ => 4 - (intOf ev).toNat)
                  case atStart => exact ⟨0, T, Q, G, by omega, rfl, hnT2, hT, HTC, HQ2, hQ100, HFl, HG2, H3⟩
                  case round =>
                    clear H3 hnT2 hT HTC HQ2 hQ100 HFl HG2 hnT HQ
                    obtain ⟨e, T, Q, G, he4, rfl, hnT, hT, HTC, HQ, hQ100, HFl, HG2, H⟩ := hrel
                    by_cases hlt : e < 4
                    · obtain ⟨⟨X, Y⟩, hnb⟩ : ∃ nb, nb = nbi c e := ⟨_, rfl⟩
                      have hat : [nbi c 0, nbi c 1, nbi c 2, nbi c 3][e]? = some (⟨X, Y⟩ : Cell) := by
                        rw [hnb]
                        have h4 : e = 0 ∨ e = 1 ∨ e = 2 ∨ e = 3 := by omega
                        rcases h4 with rfl | rfl | rfl | rfl <;> rfl
                      have hadj := (nbi_adj (c := c) hlt).near
                      rw [← hnb] at hadj
                      simp only at hadj
                      have HNB := Lib.hid hnb
                      obtain ⟨q1, q2⟩ := row_at2 H.h3 hat
                      rw [Nat.zero_add] at q1 q2
                      have H1 := H.box 41 #[.int .i64 X, .int .i64 Y]
                      obtain ⟨gd, hgd⟩ : ∃ gd, gd = wr.heap.size := ⟨_, rfl⟩
                      rw [← hgd] at H1
                      obtain ⟨Aq, cq, rfl⟩ := QI.shape H.h0
                      have n1 : -1 ≤ X := by omega
                      have n2 : X ≤ 10 := by omega
                      have n3 : -1 ≤ Y := by omega
                      have n4 : Y ≤ 10 := by omega
                      clear hnb hat hadj H
                      go_upto_region 26 with fail
                      generalize wr.alloc (.cells #[.int .i64 X, .int .i64 Y] 41) = W4 at *
                      rw [← hgd]
                      clear q1 q2 hgd
                      have l0 := Later.cell (W := W4) (p := ⟨gd, 0, none⟩) (v := .int .i64 X) (H1.h0.cell 0) H1.h0.lt
                      have l1 := Later.cell (W := W4) (p := ⟨gd, 1, none⟩) (v := .int .i64 Y) (H1.h0.cell 1) H1.h0.lt
                      cases hnx : inR X 0 9
                      · have HFs : Hid (Fle (frG s) (· ∈ S) ⟨(x : Int), (y : Int)⟩ T n (e + 1)) := Lib.hid (HFl.out.skip HTC.out fun hf => by
                          rw [← HNB.out] at hf
                          have := (frG_iff.1 hf).1
                          unfold inR at hnx
                          simp at hnx
                          simp only at this
                          omega)
                        have HNX : Hid (∀ w : World, Calls Try.prog 34 #[.int .i64 X, .int .i64 0, .int .i64 9] w fun e w' => e = .returned (.bool false) ∧ w = w') := Lib.hid fun w => by
                          have := between_r X 0 9 w
                          rw [hnx] at this
                          exact this
                        clear hnx
                        refine wp_region_later (by kernel_rfl) (by kernel_rfl) ?_
                        repeat (go_big_quiet_step ((go_at_call 34; exact Later.same (HNX.out _))))
                        refine wpQuiet_nil ?_
                        intro w5 hw5
                        obtain ⟨u5, hu5⟩ := hw5
                        subst hu5
                        have H2 := H1.later u5
                        clear l0 l1 H1
                        generalize u5.w = w5 at *
                        have H3 := H2.drop
                        clear H2
                        go_wp2
                        go_roundw
                        case rel => exact ⟨e + 1, T, Q, G, by omega, by go_num, hnT, hT, HTC, HQ, hQ100, HFs, HG2, H3⟩
                        case measure => simp [intOf]; omega
                      cases hny : inR Y 0 9
                      · have HFs : Hid (Fle (frG s) (· ∈ S) ⟨(x : Int), (y : Int)⟩ T n (e + 1)) := Lib.hid (HFl.out.skip HTC.out fun hf => by
                          rw [← HNB.out] at hf
                          have := (frG_iff.1 hf).2.1
                          unfold inR at hny
                          simp at hny
                          simp only at this
                          omega)
                        have HNX : Hid (∀ w : World, Calls Try.prog 34 #[.int .i64 X, .int .i64 0, .int .i64 9] w fun e w' => e = .returned (.bool true) ∧ w = w') := Lib.hid fun w => by
                          have := between_r X 0 9 w
                          rw [hnx] at this
                          exact this
                        have HNY : Hid (∀ w : World, Calls Try.prog 34 #[.int .i64 Y, .int .i64 0, .int .i64 9] w fun e w' => e = .returned (.bool false) ∧ w = w') := Lib.hid fun w => by
                          have := between_r Y 0 9 w
                          rw [hny] at this
                          exact this
                        clear hnx hny
                        refine wp_region_later (by kernel_rfl) (by kernel_rfl) ?_
                        repeat (go_big_quiet_step ((go_at_call 34; first | with_reducible exact Later.same (HNX.out _) | with_reducible exact Later.same (HNY.out _))))
                        refine wpQuiet_nil ?_
                        intro w5 hw5
                        obtain ⟨u5, hu5⟩ := hw5
                        subst hu5
                        have H2 := H1.later u5
                        clear l0 l1 H1
                        generalize u5.w = w5 at *
                        have H3 := H2.drop
                        clear H2
                        go_wp2
                        go_roundw
                        case rel => exact ⟨e + 1, T, Q, G, by omega, by go_num, hnT, hT, HTC, HQ, hQ100, HFs, HG2, H3⟩
                        case measure => simp [intOf]; omega
                      obtain ⟨u, rfl⟩ : ∃ u : Nat, X = (u : Int) := ⟨X.toNat, by unfold inR at hnx; simp at hnx; omega⟩
                      obtain ⟨v, rfl⟩ : ∃ v : Nat, Y = (v : Int) := ⟨Y.toNat, by unfold inR at hny; simp at hny; omega⟩
                      have hu10 : u < 10 := by unfold inR at hnx; simp at hnx; omega
                      have hv10 : v < 10 := by unfold inR at hny; simp at hny; omega
                      obtain ⟨X, hX⟩ : ∃ X : Int, X = (u : Int) := ⟨_, rfl⟩
                      obtain ⟨Y, hY⟩ : ∃ Y : Int, Y = (v : Int) := ⟨_, rfl⟩
                      obtain ⟨f, hf, hfV⟩ := HG2.out.val ⟨(u : Int), (v : Int)⟩ (by simp only; omega) (by simp only; omega)
                      rw [gix_nat] at hf
                      have l2 := Later.cell (gridA_at H1.h3 hf) H1.h3.lt
                      have HF := Lib.hid hf
                      have HFV := Lib.hid hfV
                      have HNX : Hid (∀ w : World, Calls Try.prog 34 #[.int .i64 (u : Int), .int .i64 0, .int .i64 9] w fun e w' => e = .returned (.bool true) ∧ w = w') := Lib.hid fun w => by
                        have := between_r (u : Int) 0 9 w
                        rw [hnx] at this
                        exact this
                      have HNY : Hid (∀ w : World, Calls Try.prog 34 #[.int .i64 (v : Int), .int .i64 0, .int .i64 9] w fun e w' => e = .returned (.bool true) ∧ w = w') := Lib.hid fun w => by
                        have := between_r (v : Int) 0 9 w
                        rw [hny] at this
                        exact this
                      clear hf hfV hnx hny hX hY X Y
                      cases f
                      rotate_left
                      · have HFs : Hid (Fle (frG s) (· ∈ S) ⟨(x : Int), (y : Int)⟩ T n (e + 1)) := Lib.hid (HFl.out.skip HTC.out fun hf => by
                          rw [← HNB.out] at hf ⊢
                          exact ((HFV.out.1 rfl).resolve_left (frG_iff.1 hf).2.2).symm)
                        refine wp_region_later (by kernel_rfl) (by kernel_rfl) ?_
                        repeat (go_big_quiet_step ((go_at_call 34; first | with_reducible exact Later.same (HNX.out _) | with_reducible exact Later.same (HNY.out _))))
                        refine wpQuiet_nil ?_
                        intro w5 hw5
                        obtain ⟨u5, hu5⟩ := hw5
                        subst hu5
                        have H2 := H1.later u5
                        clear l0 l1 H1
                        generalize u5.w = w5 at *
                        have H3 := H2.drop
                        clear H2
                        go_wp2
                        go_roundw
                        case rel => exact ⟨e + 1, T, Q, G, by omega, by go_num, hnT, hT, HTC, HQ, hQ100, HFs, HG2, H3⟩
                        case measure => simp [intOf]; omega
                      have hnv : ¬ (shpAt s ⟨(u : Int), (v : Int)⟩ ∨ (⟨(u : Int), (v : Int)⟩ : Cell) ∈ S ∨ (⟨(u : Int), (v : Int)⟩ : Cell) ∈ T) := fun h => by have := HFV.out.2 h; cases this
                      have hfu : frG s ⟨(u : Int), (v : Int)⟩ = true := frG_iff.2 ⟨by simp only; omega, by simp only; omega, fun h => hnv (.inl h)⟩
                      have hadd := HFl.out.add HTC.out hlt (by rw [← HNB.out]; exact hfu) (by rw [← HNB.out]; exact fun h => hnv (.inr (.inr h))) (by rw [← HNB.out]; exact fun h => hnv (.inr (.inl h)))
                      rw [← HNB.out] at hadd
                      obtain ⟨T2, hT2⟩ : ∃ T2, T2 = T ++ [(⟨(u : Int), (v : Int)⟩ : Cell)] := ⟨_, rfl⟩
                      obtain ⟨Q2, hQ2⟩ : ∃ Q2, Q2 = Q ++ [(⟨(u : Int), (v : Int)⟩ : Cell)] := ⟨_, rfl⟩
                      rw [← hT2] at hadd
                      have hset := HG2.out.set (d := ⟨(u : Int), (v : Int)⟩) (by simp only; omega) (by simp only; omega)
                      rw [gix_nat] at hset
                      have HG3 : Hid (GInv (fun c => shpAt s c ∨ c ∈ S ∨ c ∈ T2) (G.set (v * 10 + u) true)) := Lib.hid (hset.imp fun c => by rw [hT2, List.mem_append, List.mem_singleton, or_assoc, or_assoc])
                      have hT100 : T2.length ≤ 100 := Nat.le_trans (hadd.len frG_grid) (by rw [gridL_len]; exact Nat.le_refl _)
                      have hlen : T2.length = T.length + 1 := by rw [hT2]; simp
                      have HTC2 : Hid (T2[n]? = some c) := Lib.hid (by rw [hT2, List.getElem?_append_left hnT]; exact HTC.out)
                      have HQQ : Hid (Q2 = T2.drop (n + 1)) := Lib.hid (by rw [hQ2, hT2, HQ.out, List.drop_append_of_le_length (by omega)])
                      have hQ2100 : Q2.length ≤ 100 := by rw [HQQ.out, List.length_drop]; omega
                      have HT2 := Lib.hid hT2
                      have HQ2 := Lib.hid hQ2
                      have HADD := Lib.hid hadd
                      clear hnv hfu hset hT2 hQ2 hadd
                      refine wp_region_later (by kernel_rfl) (by kernel_rfl) ?_
                      repeat (go_big_quiet_step ((go_at_call 34; first | with_reducible exact Later.same (HNX.out _) | with_reducible exact Later.same (HNY.out _))))
                      refine wpQuiet_nil ?_
                      intro w5 hw5
                      obtain ⟨u5, hu5⟩ := hw5
                      subst hu5
                      have H2 := H1.later u5
                      clear l0 l1 H1
                      generalize u5.w = w5 at *
                      have k0 : w5.cell? ⟨gd, 0, none⟩ = some (.int .i64 (u : Int)) := H2.h0.cell 0
                      have k1 : w5.cell? ⟨gd, 1, none⟩ = some (.int .i64 (v : Int)) := H2.h0.cell 1
                      clear l2 HNX HNY
                      go_wp2_with fail
                      refine wp_region_stq 6 (by kernel_rfl) (by kernel_rfl) ?_
                      simp only [List.take_succ_cons, List.take_zero, List.drop_succ_cons, List.drop_zero]
                      repeat (first | go_big_quiet_skip | (go_big_quiet_want; go_big_quiet_op; first | go_big_quiet_on | (apply Exists.intro; refine ⟨?_, ?_⟩; focus (fail); go_big_quiet_on)))
                      refine wpQuiet_nil ?_
                      have kf := H2.drew.h3.frozen (v * 10 + u)
                      have kc := gridA_at H2.drew.h3 HF.out
                      have H3 := (H2.g3.drew.set_ (v * 10 + u) (.bool true)).p3
                      rw [gridA_set] at H3
                      clear H2 k0 k1
                      go_upto_region 28 with fail
                      clear kf kc
                      replace H3 : Sep w ((w5.setCell ⟨g, v * 10 + u, none⟩ (.bool true)).drew) [Res.box gd 41 #[.int .i64 (u : Int), .int .i64 (v : Int)], Res.que (.slice Aq Q.length cq) 41 2 Q.length (cc Q), Res.box gc 41 #[.int .i64 c.x, .int .i64 c.y], Res.box g 39 (gridA (G.set (v * 10 + u) true)), Res.row (.slice (some ⟨gs, 0, none⟩) 4 4) 41 2 4 (cc [nbi c 0, nbi c 1, nbi c 2, nbi c 3])] := H3
                      generalize (w5.setCell ⟨g, v * 10 + u, none⟩ (.bool true)).drew = w6 at *
                      have k0 : w6.cell? ⟨gd, 0, none⟩ = some (.int .i64 (u : Int)) := H3.h0.cell 0
                      have k1 : w6.cell? ⟨gd, 1, none⟩ = some (.int .i64 (v : Int)) := H3.h0.cell 1
                      have H4 := H3.drop
                      have hq4 : QI w6 0 41 2 (.slice Aq Q.length cq) Q.length (cc Q) := H4.h0
                      clear H3
                      go_wp2_with (at_builtin; refine wpList_append_q _ rfl _ _ 24 rfl 0 41 i0 _ 2 16 Try.underlying24 hi hz0 hz1 hz2 rfl (by decide) _ _ _ rfl (hq4.alloc _) ⟨w6.heap.size, 0, none⟩ 1 [.int .i64 (u : Int), .int .i64 (v : Int)] rfl rfl (news_alloc w6 #[.int .i64 (u : Int), .int .i64 (v : Int)] _) (by intro u hu; simp at hu; rcases hu with rfl | rfl <;> rfl) (by unfold maxLen; omega) (by omega) (Nat.zero_le _) ?_; intro v' w7 hq7 hgrow hat)
                      have H5 := (H4.alloc (.cells #[.int .i64 (u : Int), .int .i64 (v : Int)] 41)).appQ hq7 hgrow hat
                      clear H4 hq4 hq7 hgrow hat k0 k1
                      have hcq : cc Q ++ [.int .i64 (u : Int), .int .i64 (v : Int)] = cc Q2 := by rw [HQ2.out, cc_append]; rfl
                      have hlq : Q.length + 1 = Q2.length := by rw [HQ2.out, List.length_append]; rfl
                      rw [hcq, hlq] at H5
                      clear hcq hlq
                      go_wp2
                      go_roundw
                      case rel => exact ⟨e + 1, T2, Q2, _, by omega, by go_num, by omega, hT100, HTC2, HQQ, hQ2100, HADD, HG3, H5⟩
                      case measure => simp [intOf]; omega
                    · obtain rfl : e = 4 := by omega
                      have HF2 := Lib.hid (HFl.out.next (Nat.le_refl _))
                      obtain ⟨Aq, cq, rfl⟩ := QI.shape H.h0
                      have H2 := H.drop2.g2.drop
                      clear H
                      go_wp2
                      go_roundg (gk - 1)
                      case rel => exact ⟨n + 1, T, Q, G, by omega, by omega, hT, HQ, HF2, HG2, H2⟩
                      case measure => omega
            · obtain rfl : x = 10 := by omega
              have HK2 : Hid (KInv s S L ⟨0, ((y + 1 : Nat) : Int)⟩) := Lib.hid (HK.out.row (by omega))
              go_wp2
              go_roundw
              case rel => exact ⟨S, L, G, y + 1, m, by omega, by go_num, rfl, hm, HM, HK2, HG, H⟩
              case measure => simp [intOf]; omega
        · obtain rfl : y = 10 := by omega
          have hcnt := count_eq HSH.out HK.out.lnodup (HK.out.last (by omega))
          have hRe : R = (m : Int) - 1 := by rw [HR2.out, HM.out, hcnt]; omega
          have HRE := Lib.hid hRe
          have hbel := H.below
          clear hcnt hRe
          go_wp2
          go_ret
          exact ⟨by rw [HRE.out]; rfl, hbel⟩
end Go.Proofs.Ytghpkfihdcjlaaa

namespace Go.Proofs.Ytghpkfihdcjlaaa
open Go.RowKit

theorem NqL.put {f : Cell → Nat → Cell} {s L : List Cell} {i k : Nat} {c d : Cell} (h : NqL f s L i k) (hc : s[i]? = some c) (hd : d = f c k) (hs : ¬ d ∈ s) : NqL f s (addK L d) i (k + 1) := by
  unfold addK
  split
  · rename_i hm
    exact h.skip hc hd (.inr hm)
  · rename_i hm
    exact h.add hc hd hs hm
/-- each key stands for 1 -/
def indK (K : List Cell) (c : Cell) : Int := if c ∈ K then 1 else 0
theorem indK_put (K : List Cell) (d : Cell) : ∀ e, e ≠ d → indK (addK K d) e = indK K e := fun e he => by
  by_cases h : d ∈ K
  · simp [indK, addK, h]
  · simp [indK, addK, h, he]
theorem indK_at (K : List Cell) (d : Cell) : indK (addK K d) d = 1 := by
  by_cases h : d ∈ K
  · simp [indK, addK, h]
  · simp [indK, addK, h]
theorem indK_nil : indK [] = fun _ => 0 := by funext c; simp [indK]
set_option maxRecDepth 100000 in
set_option maxHeartbeats 3200000 in
theorem spec_nq_c {v : Value} {s : List Cell} (w : World) (h : CellsRd w 0 w.heap.size v s) (hn : s.length ≤ 1000000) :
    Calls Try.prog 16 #[v] w fun e w' => e = .returned (.int .i64 (nbZ s)) ∧ Below w.heap.size w w' := by
  obtain ⟨i0, hi, hz0, hz1, hz2⟩ := info_parts infoCellS
  have HS0 := Lib.hid (spec_isShape_c w h (by omega))
  have HHC : Hid (∀ (x y : Int) (g : Bool) w1, g = decide ((⟨x, y⟩ : Cell) ∈ s) → Below w.heap.size w w1 → Calls Try.prog 40 #[v, .int .i64 x, .int .i64 y] w1 fun e w' => e = .returned (.bool g) ∧ w1 = w') := Lib.hid fun x y g w1 hg b1 => by rw [hg]; exact spec_has2_c x y w1 ((h.keep (SameIn.of_below b1 (Nat.le_refl _))).more (Nat.le_refl _) b1.size) (by omega)
  obtain ⟨R, hR⟩ : ∃ R, R = nbZ s := ⟨_, rfl⟩
  rw [← hR]
  have HR := Lib.hid hR
  obtain ⟨A, c, rfl, hm, hr⟩ := h
  have HRS := Lib.hid hr
  clear hr hm hR
  go_enter Try.func16, Try.ntmps16
  go_wp2_with fail
  refine (HS0.out).mono ?_
  rintro e w1 ⟨rfl, b1⟩
  clear HS0
  cases hsh : isShape s
  · obtain rfl : R = -1 := by rw [HR.out, nbZ, hsh]; rfl
    clear hsh
    go_wp2
    go_ret
    exact ⟨rfl, b1⟩
  obtain ⟨hl1, hl8⟩ := shp_len hsh
  have HSH := Lib.hid hsh
  have HRT : Hid (R = (nqN s : Nat)) := Lib.hid (by rw [HR.out, nbZ, if_pos hsh])
  obtain ⟨b, off, hA, _, hb, hc⟩ := HRS.out.2 (by omega)
  subst hA
  have HCE := Lib.hid hc
  have H0 := ((Sep.start w).step b1).rowBox 41 #[] 2 0 rfl (by decide)
  clear hc hsh b1
  go_wp2
  generalize w1.alloc (.cells #[] 41) = W at *
  go_loopw [3, 4] (fun sv iv wr => ∃ (i : Nat) (L : List Cell), i ≤ s.length ∧ iv = .int .i64 i ∧ Hid (NqL nbr s L i 0) ∧ Sep w wr [Res.row sv 41 2 L.length (cc L)]) (fun _ iv _ => s.length - (intOf iv).toNat)
  case atStart => exact ⟨0, [], Nat.zero_le _, rfl, Lib.hid NqL.start, H0⟩
  case round =>
    clear H0
    obtain ⟨i, L, hi', rfl, HN, H⟩ := hrel
    by_cases hlt : i < s.length
    · have hlti : (i : Int) < (s.length : Int) := by omega
      obtain ⟨bi, hbi⟩ : ∃ d, s[i]? = some d := ⟨s[i], List.getElem?_eq_getElem hlt⟩
      have HBI := Lib.hid hbi
      have HON := Lib.hid (shp_on HSH.out (List.mem_of_getElem? hbi))
      clear hbi
      obtain ⟨wo, hwo⟩ : ∃ wo : World, wo = wr := ⟨_, rfl⟩
      subst hwo
      go_wp2
      go_loopw [3, 5] (fun sv dv wr => ∃ (d : Nat) (L : List Cell), d ≤ 4 ∧ dv = .int .i64 d ∧ Hid (NqL nbr s L i d) ∧ Sep w wr [Res.row sv 41 2 L.length (cc L)]) (fun _ dv _ => 4 - (intOf dv).toNat)
      case atStart => exact ⟨0, L, by omega, rfl, HN, H⟩
      case round =>
        clear H HN
        obtain ⟨d, L, hd, rfl, HN, H⟩ := hrel
        have hL := HN.out.len
        obtain ⟨hn1, hn2⟩ := HON.out
        by_cases hd4 : d < 4
        ·
          obtain ⟨dx, dy, m1, m2, ⟨x1, x2⟩, ⟨y1, y2⟩, s1, s2⟩ := nbr_step (b := bi) (d := d) hd4
          obtain ⟨nb, hnb⟩ : ∃ nb, nb = nbr bi d := ⟨_, rfl⟩
          rw [← hnb] at s1 s2
          have m3 : IntKind.i64.wrap (Int.tmod (1 - (d : Int)) 2) = dx := by rw [m1]; exact IntWalk.i64_in _ (by omega)
          have m4 : IntKind.i64.wrap (Int.tmod (2 - (d : Int)) 2) = dy := by rw [m2]; exact IntWalk.i64_in _ (by omega)
          have HNB := Lib.hid hnb
          clear hnb
          obtain ⟨bs, os, rfl, hsn, hsm⟩ := Res.row_at H.h0
          have hbw := H.below
          have q1 : wr.cell? ⟨b, off + i * 2, none⟩ = some (.int .i64 bi.x) := (hbw.cell (p := ⟨b, off + i * 2, none⟩) hb).trans (HCE.out _ _ (cc_at HBI.out).1)
          have q2 : wr.cell? ⟨b, off + i * 2 + 1, none⟩ = some (.int .i64 bi.y) := (hbw.cell (p := ⟨b, off + i * 2 + 1, none⟩) hb).trans (by rw [Nat.add_assoc]; exact HCE.out _ _ (cc_at HBI.out).2)
          clear hsn hsm
          have x3 : -2 ≤ nb.x := by omega
          have x4 : nb.x ≤ 9 := by omega
          have y3 : -2 ≤ nb.y := by omega
          have y4 : nb.y ≤ 9 := by omega
          obtain ⟨g1, hg1⟩ : ∃ g, g = decide ((⟨nb.x, nb.y⟩ : Cell) ∈ s) := ⟨_, rfl⟩
          obtain ⟨g2, hg2⟩ : ∃ g, g = decide ((⟨nb.x, nb.y⟩ : Cell) ∈ L) := ⟨_, rfl⟩
          have HQ1 := Lib.hid (HHC.out nb.x nb.y g1 wr hg1 hbw)
          have hLR : CellsRd wr 0 wr.heap.size (.slice bs L.length os) L := H.cellsRd (by omega)
          have HQ2 : Hid (Calls Try.prog 40 #[.slice bs L.length os, .int .i64 nb.x, .int .i64 nb.y] wr fun e w' => e = .returned (.bool g2) ∧ wr = w') := Lib.hid (by rw [hg2]; exact spec_has2_c _ _ _ hLR (by omega))
          have HG1 := Lib.hid hg1
          have HG2 := Lib.hid hg2
          clear hLR hg1 hg2 hbw
          cases g1
          rotate_left
          · have HN2 := Lib.hid (HN.out.skip (d := nb) HBI.out HNB.out (.inl (of_decide_eq_true HG1.out.symm)))
            go_wp2_with fail
            refine (HQ1.out).mono ?_
            rintro e w' ⟨rfl, rfl⟩
            go_wp2
            clear m1 m2 m3 m4 s1 s2 q1 q2
            go_roundw
            case rel => exact ⟨d + 1, L, by omega, by go_num, HN2, H⟩
            case measure => simp [intOf]; omega
          cases g2
          rotate_left
          · have HN2 := Lib.hid (HN.out.skip (d := nb) HBI.out HNB.out (.inr (of_decide_eq_true HG2.out.symm)))
            go_wp2_with fail
            refine (HQ1.out).mono ?_
            rintro e w' ⟨rfl, rfl⟩
            (go_wp2_with fail; refine (HQ2.out).mono ?_; rintro e w' ⟨rfl, rfl⟩; go_wp2)
            clear m1 m2 m3 m4 s1 s2 q1 q2
            go_roundw
            case rel => exact ⟨d + 1, L, by omega, by go_num, HN2, H⟩
            case measure => simp [intOf]; omega
          · have HN2 := Lib.hid (HN.out.add (d := nb) HBI.out HNB.out (of_decide_eq_false HG1.out.symm) (of_decide_eq_false HG2.out.symm))
            go_wp2_with fail
            refine (HQ1.out).mono ?_
            rintro e w' ⟨rfl, rfl⟩
            go_wp2_with fail
            refine (HQ2.out).mono ?_
            rintro e w' ⟨rfl, rfl⟩
            go_wp2_with (at_builtin; refine wpList_app rfl _ _ 24 rfl 41 i0 _ 2 16 Try.underlying24 hi hz0 hz1 hz2 rfl (by decide) _ _ _ rfl (H.alloc _) _ _ _ [.int .i64 nb.x, .int .i64 nb.y] rfl (Rd.fresh wr _ #[.int .i64 nb.x, .int .i64 nb.y] 2 1 rfl) oc2 (by unfold maxLen; omega) (by omega) ?_; intro v3 w3 H3; clear H)
            clear m1 m2 m3 m4 s1 s2 q1 q2
            have H4 : Sep w w3 [Res.row v3 41 2 (L ++ [nb]).length (cc (L ++ [nb]))] := by rw [cc_append, List.length_append]; exact H3
            clear H3
            go_roundw
            case rel => exact ⟨d + 1, L ++ [nb], by omega, by go_num, HN2, H4⟩
            case measure => simp [intOf]; omega
        · obtain rfl : d = 4 := by omega
          have HN2 := Lib.hid (HN.out.next HBI.out)
          go_wp2
          go_roundw
          case rel => exact ⟨i + 1, L, by omega, by go_num, HN2, H⟩
          case measure => simp [intOf]; omega
    · obtain rfl : i = s.length := by omega
      obtain ⟨As, cs', rfl, hsn, hsm⟩ := Res.row_at H.h0
      have HRF : Hid (R = (L.length : Nat)) := Lib.hid (by rw [HRT.out, HN.out.done nbr_all])
      obtain rfl := HRF.out
      have hbe := H.below
      clear HRF
      go_wp2
      go_ret
      exact ⟨rfl, hbe⟩
set_option maxRecDepth 100000 in
set_option maxHeartbeats 3200000 in
theorem impl_nq_c {v : Value} {s : List Cell} (w : World) (h : CellsRd w 0 w.heap.size v s) (hn : s.length ≤ 1000000) :
    Calls Try.prog 15 #[v] w fun e w' => e = .returned (.int .i64 (nbZ s)) ∧ Below w.heap.size w w' := by
  have HS0 := Lib.hid (impl_isShape_c w h (by omega))
  have HHC : Hid (∀ (x y : Int) (g : Bool) w1, g = decide ((⟨x, y⟩ : Cell) ∈ s) → Below w.heap.size w w1 → Calls Try.prog 36 #[v, .int .i64 x, .int .i64 y] w1 fun e w' => e = .returned (.bool g) ∧ Below w1.heap.size w1 w') := Lib.hid fun x y g w1 hg b1 => by rw [hg]; exact impl_has2_c x y w1 ((h.keep (SameIn.of_below b1 (Nat.le_refl _))).more (Nat.le_refl _) b1.size) (by omega)
  obtain ⟨R, hR⟩ : ∃ R, R = nbZ s := ⟨_, rfl⟩
  rw [← hR]
  have HR := Lib.hid hR
  obtain ⟨A, c, rfl, hm, hr⟩ := h
  have HRS := Lib.hid hr
  have hmm := @run_makeMap Try.prog
  clear hr hm hR
  go_enter Try.func15, Try.ntmps15
  go_wp2_with fail
  refine (HS0.out).mono ?_
  rintro e w1 ⟨rfl, b1⟩
  clear HS0
  cases hsh : isShape s
  · obtain rfl : R = -1 := by rw [HR.out, nbZ, hsh]; rfl
    clear hsh
    go_wp2
    go_ret
    exact ⟨rfl, b1⟩
  obtain ⟨hl1, hl8⟩ := shp_len hsh
  have HSH := Lib.hid hsh
  have HRT : Hid (R = (nqN s : Nat)) := Lib.hid (by rw [HR.out, nbZ, if_pos hsh])
  obtain ⟨b, off, hA, _, hb, hc⟩ := HRS.out.2 (by omega)
  subst hA
  have HCE := Lib.hid hc
  have H0 := ((Sep.start w).step b1).cmade
  rw [← indK_nil] at H0
  obtain ⟨mb, hmb⟩ : ∃ g, g = w1.heap.size := ⟨_, rfl⟩
  rw [← hmb] at H0
  clear hc hsh b1
  go_wp2
  rw [← hmb]
  generalize w1.alloc (.map #[] 0) = W at *
  clear hmb
  go_loopw [14] (fun iv wr => ∃ (i : Nat) (L : List Cell), i ≤ s.length ∧ iv = .int .i64 i ∧ Hid (NqL nbi s L i 0) ∧ Sep w wr [Res.cmap mb L (indK L)]) (fun iv _ => s.length - (intOf iv).toNat)
  case atStart => exact ⟨0, [], Nat.zero_le _, rfl, Lib.hid NqL.start, H0⟩
  case round =>
    clear H0
    obtain ⟨i, L, hi', rfl, HN, H⟩ := hrel
    by_cases hlt : i < s.length
    · have hlti : (i : Int) < (s.length : Int) := by omega
      obtain ⟨bi, hbi⟩ : ∃ d, s[i]? = some d := ⟨s[i], List.getElem?_eq_getElem hlt⟩
      have HBI := Lib.hid hbi
      have HON := Lib.hid (shp_on HSH.out (List.mem_of_getElem? hbi))
      have hbw := H.below
      have q1 : wr.cell? ⟨b, off + i * 2, none⟩ = some (.int .i64 bi.x) := (hbw.cell (p := ⟨b, off + i * 2, none⟩) hb).trans (HCE.out _ _ (cc_at hbi).1)
      have q2 : wr.cell? ⟨b, off + i * 2 + 1, none⟩ = some (.int .i64 bi.y) := (hbw.cell (p := ⟨b, off + i * 2 + 1, none⟩) hb).trans (by rw [Nat.add_assoc]; exact HCE.out _ _ (cc_at hbi).2)
      have H1 := H.box 41 #[.int .i64 bi.x, .int .i64 bi.y]
      clear hbi H hbw
      go_upto_region 7 with fail
      obtain ⟨gc, hgc⟩ : ∃ k, k = wr.heap.size := ⟨_, rfl⟩
      rw [← hgc] at H1 ⊢
      generalize wr.alloc (.cells #[.int .i64 bi.x, .int .i64 bi.y] 41) = W7 at *
      clear hgc q1 q2
      obtain ⟨hn1, hn2⟩ := HON.out
      have k0 : W7.cell? ⟨gc, 0, none⟩ = some (.int .i64 bi.x) := H1.h0.cell 0
      have k1 : W7.cell? ⟨gc, 1, none⟩ = some (.int .i64 bi.y) := H1.h0.cell 1
      go_wp2_with fail
      refine (sides_c bi W7 (by omega) (by omega)).mono ?_
      rintro e W3 ⟨v3, rfl, o3, ⟨gs, rfl⟩, b3⟩
      have H3 := (H1.oiNew b3 o3).g2
      clear H1 o3 b3 k0 k1
      go_wp2
      go_loopw [21] (fun ev wr => ∃ (e : Nat) (L : List Cell), e ≤ 4 ∧ ev = .int .i64 e ∧ Hid (NqL nbi s L i e) ∧ Sep w wr [Res.cmap mb L (indK L), Res.row (.slice (some ⟨gs, 0, none⟩) 4 4) 41 2 4 (cc [nbi bi 0, nbi bi 1, nbi bi 2, nbi bi 3])]) (fun ev _ => 4 - (intOf ev).toNat)
      case atStart => exact ⟨0, L, by omega, rfl, HN, H3.g2.drop⟩
      case round =>
        clear H3 HN
        obtain ⟨e, L, he4, rfl, HN, H⟩ := hrel
        by_cases hlt4 : e < 4
        · obtain ⟨⟨X, Y⟩, hnb⟩ : ∃ nb, nb = nbi bi e := ⟨_, rfl⟩
          have hat : [nbi bi 0, nbi bi 1, nbi bi 2, nbi bi 3][e]? = some (⟨X, Y⟩ : Cell) := by
            rw [hnb]
            have h4 : e = 0 ∨ e = 1 ∨ e = 2 ∨ e = 3 := by omega
            rcases h4 with rfl | rfl | rfl | rfl <;> rfl
          have HNB := Lib.hid hnb
          obtain ⟨q1, q2⟩ := row_at2 H.h1 hat
          rw [Nat.zero_add] at q1 q2
          have H1 := H.box 41 #[.int .i64 X, .int .i64 Y]
          obtain ⟨gd, hgd⟩ : ∃ gd, gd = wr.heap.size := ⟨_, rfl⟩
          rw [← hgd] at H1
          clear hnb hat H
          go_upto_region 10 with fail
          generalize wr.alloc (.cells #[.int .i64 X, .int .i64 Y] 41) = W4 at *
          rw [← hgd]
          clear q1 q2 hgd
          have k0 : W4.cell? ⟨gd, 0, none⟩ = some (.int .i64 X) := H1.h0.cell 0
          have k1 : W4.cell? ⟨gd, 1, none⟩ = some (.int .i64 Y) := H1.h0.cell 1
          obtain ⟨g1, hg1⟩ : ∃ g, g = decide ((⟨X, Y⟩ : Cell) ∈ s) := ⟨_, rfl⟩
          have HQ1 := Lib.hid (HHC.out X Y g1 W4 hg1 H1.below)
          have HG1 := Lib.hid hg1
          clear hg1
          go_wp2_with fail
          refine (HQ1.out).mono ?_
          rintro e w8 ⟨rfl, b8⟩
          have H2 := H1.step b8
          clear HQ1 b8 k0 k1 H1
          cases g1
          rotate_left
          · have HN2 := Lib.hid (HN.out.skip (d := ⟨X, Y⟩) HBI.out HNB.out (.inl (of_decide_eq_true HG1.out.symm)))
            have H3 := H2.drop
            clear H2
            go_wp2
            go_roundw
            case rel => exact ⟨e + 1, L, by omega, by go_num, HN2, H3⟩
            case measure => simp [intOf]; omega
          · have HN2 := Lib.hid (HN.out.put (d := ⟨X, Y⟩) HBI.out HNB.out (of_decide_eq_false HG1.out.symm))
            have k0 : w8.cell? ⟨gd, 0, none⟩ = some (.int .i64 X) := H2.h0.cell 0
            have k1 : w8.cell? ⟨gd, 1, none⟩ = some (.int .i64 Y) := H2.h0.cell 1
            obtain ⟨w9, hup, H3⟩ := H2.drop.cput ⟨X, Y⟩ (indK_put L ⟨X, Y⟩)
            rw [indK_at] at hup
            unfold cv at hup
            clear H2
            go_wp2
            clear hup k0 k1
            go_roundw
            case rel => exact ⟨e + 1, _, by omega, by go_num, HN2, H3⟩
            case measure => simp [intOf]; omega
        · obtain rfl : e = 4 := by omega
          have HN2 := Lib.hid (HN.out.next HBI.out)
          have H3 := H.g1.drop
          clear H
          go_wp2
          go_roundw
          case rel => exact ⟨i + 1, L, by omega, by go_num, HN2, H3⟩
          case measure => simp [intOf]; omega
    · obtain rfl : i = s.length := by omega
      have hlen := fun ty => CM.len (show CM wr mb L (indK L) from H.h0) ty
      have HRF : Hid (R = (L.length : Nat)) := Lib.hid (by rw [HRT.out, HN.out.done nbi_all])
      obtain rfl := HRF.out
      have hbe := H.below
      clear HRF
      go_wp2
      go_ret
      exact ⟨rfl, hbe⟩
end Go.Proofs.Ytghpkfihdcjlaaa
