
/-
  Sorting by insertion, swap by swap. Plain. The library's sort.Slice at a short slice of cells, under the program's closure, which lays boxes. The library's insertion sort over a short slice of cells. Cells put in order: the program's walk.
-/
import Derived.Test.YtghpkfihdcjlaaaGreatDoorMotAB
import Derived.Test.YtghpkfihdcjlaaaGreatDoorSepX
import Derived.Test.YtghpkfihdcjlaaaGreatDoorShelf
import Derived.Shelf.GgSortFunc.Tiny
import Derived.Lib.ReflectliteSwap
import Derived.Lib.AppendIntMem
import Derived.Deep.DeepCutAuto
import Derived.Test.YtghpkfihdcjlaaaGreatDoorMovI
import Derived.Test.YtghpkfihdcjlaaaGreatDoorEqW
namespace Go.Proofs.YtghpkfihdcjlaaaGreatDoor
open Go.RowKit

theorem le_trans' {a b c : Cell} (h1 : befB b a = false) (h2 : befB c b = false) : befB c a = false := by
  cases h : befB c a
  · rfl
  · rcases bef_tri a b with e | e | e
    · rw [bef_trans h e] at h2; cases h2
    · subst e; rw [h] at h2; cases h2
    · rw [e] at h1; cases h1
/-- the first i cells are in order -/
def WS (d : List Cell) (i : Nat) : Prop := ∀ (p q : Nat) (a b : Cell), p < q → q < i → d[p]? = some a → d[q]? = some b → befB b a = false
/-- .. all but the one at j, which comes from behind -/
def WJ (d : List Cell) (i j : Nat) : Prop := ∀ (p q : Nat) (a b : Cell), p < q → q ≤ i → q ≠ j → d[p]? = some a → d[q]? = some b → befB b a = false
theorem WS.one {d : List Cell} : WS d 1 := fun p q _ _ h1 h2 => by omega
theorem WS.start {d : List Cell} {i : Nat} (h : WS d i) : WJ d i i := fun p q a b h1 h2 h3 => h p q a b h1 (by omega)
theorem WJ.zero {d : List Cell} {i : Nat} (h : WJ d i 0) : WS d (i + 1) := fun p q a b h1 h2 => h p q a b h1 (by omega) (by omega)
theorem WJ.stop {d : List Cell} {i j : Nat} {x y : Cell} (h : WJ d i j) (hj : 0 < j) (hx : d[j]? = some x) (hy : d[j - 1]? = some y) (hb : befB x y = false) : WS d (i + 1) := fun p q a b h1 h2 h3 h4 => by
  by_cases e : q = j
  · subst e
    rw [hx] at h4
    injection h4 with h4
    subst h4
    by_cases e2 : p = q - 1
    · subst e2
      rw [hy] at h3
      injection h3 with h3
      subst h3
      exact hb
    · exact le_trans' (h p (q - 1) a y (by omega) (by omega) (by omega) h3 hy) hb
  · exact h p q a b h1 (by omega) e h3 h4
def swapC (d : List Cell) (i j : Nat) (x y : Cell) : List Cell := (d.set i y).set j x
theorem WJ.swap {d : List Cell} {i j : Nat} {x y : Cell} (h : WJ d i j) (hj : 0 < j) (hji : j ≤ i) (hx : d[j]? = some x) (hy : d[j - 1]? = some y) (hb : befB x y = true) : WJ (swapC d j (j - 1) x y) i (j - 1) := fun p q a b h1 h2 h3 h4 h5 => by
  have hjl : j < d.length := (List.getElem?_eq_some_iff.1 hx).1
  have g1 : ∀ m, m ≠ j → m ≠ j - 1 → (swapC d j (j - 1) x y)[m]? = d[m]? := fun m e1 e2 => by
    unfold swapC
    rw [List.getElem?_set_ne (fun e => e2 e.symm), List.getElem?_set_ne (fun e => e1 e.symm)]
  have g2 : (swapC d j (j - 1) x y)[j - 1]? = some x := by
    unfold swapC
    rw [List.getElem?_set_self (by rw [List.length_set]; omega)]
  have g3 : (swapC d j (j - 1) x y)[j]? = some y := by
    unfold swapC
    rw [List.getElem?_set_ne (by omega), List.getElem?_set_self hjl]
  by_cases e1 : q = j
  · subst e1
    rw [g3] at h5
    injection h5 with h5
    subst h5
    by_cases e2 : p = q - 1
    · subst e2
      rw [g2] at h4
      injection h4 with h4
      subst h4
      exact bef_asym hb
    · rw [g1 p (by omega) e2] at h4
      exact h p (q - 1) a y (by omega) (by omega) (by omega) h4 hy
  · rw [g1 q e1 h3] at h5
    by_cases e2 : p = j - 1
    · subst e2
      rw [g2] at h4
      injection h4 with h4
      subst h4
      exact h j q x b (by omega) h2 e1 hx h5
    · by_cases e3 : p = j
      · subst e3
        rw [g3] at h4
        injection h4 with h4
        subst h4
        exact h (p - 1) q y b (by omega) h2 e1 hy h5
      · rw [g1 p e3 e2] at h4
        exact h p q a b h1 h2 e1 h4 h5
theorem swapC_len {d : List Cell} {i j : Nat} {x y : Cell} : (swapC d i j x y).length = d.length := by simp [swapC]
theorem mem_swapC {d : List Cell} {i j : Nat} {x y : Cell} (hij : i ≠ j) (hx : d[i]? = some x) (hy : d[j]? = some y) (c : Cell) : c ∈ swapC d i j x y ↔ c ∈ d := by
  have hi : i < d.length := (List.getElem?_eq_some_iff.1 hx).1
  have hj : j < d.length := (List.getElem?_eq_some_iff.1 hy).1
  have g1 : ∀ m, m ≠ i → m ≠ j → (swapC d i j x y)[m]? = d[m]? := fun m e1 e2 => by
    unfold swapC
    rw [List.getElem?_set_ne (fun e => e2 e.symm), List.getElem?_set_ne (fun e => e1 e.symm)]
  have g2 : (swapC d i j x y)[j]? = some x := by
    unfold swapC
    rw [List.getElem?_set_self (by rw [List.length_set]; exact hj)]
  have g3 : (swapC d i j x y)[i]? = some y := by
    unfold swapC
    rw [List.getElem?_set_ne (fun e => hij e.symm), List.getElem?_set_self hi]
  constructor
  · intro h
    obtain ⟨m, hm⟩ := List.getElem?_of_mem h
    by_cases e1 : m = i
    · subst e1; rw [g3] at hm; injection hm with hm; subst hm; exact List.mem_of_getElem? hy
    · by_cases e2 : m = j
      · subst e2; rw [g2] at hm; injection hm with hm; subst hm; exact List.mem_of_getElem? hx
      · rw [g1 m e1 e2] at hm; exact List.mem_of_getElem? hm
  · intro h
    obtain ⟨m, hm⟩ := List.getElem?_of_mem h
    by_cases e1 : m = i
    · subst e1; rw [hx] at hm; injection hm with hm; subst hm; exact List.mem_of_getElem? g2
    · by_cases e2 : m = j
      · subst e2; rw [hy] at hm; injection hm with hm; subst hm; exact List.mem_of_getElem? g3
      · rw [← g1 m e1 e2] at hm; exact List.mem_of_getElem? hm
/-- what the program's second pass keeps of the first k: each that is not as the one ahead of it -/
def dedupT (d : List Cell) : Nat → List Cell
  | 0 => []
  | k + 1 => match d[k]? with
    | none => dedupT d k
    | some c => if 0 < k ∧ d[k - 1]? = some c then dedupT d k else dedupT d k ++ [c]
theorem dedup_all {d : List Cell} (h : WS d d.length) : ∀ k, k ≤ d.length → Srt (dedupT d k) ∧ (∀ c, c ∈ dedupT d k ↔ c ∈ d.take k)
  | 0, _ => ⟨List.Pairwise.nil, fun c => by simp [dedupT]⟩
  | k + 1, hk => by
    obtain ⟨h1, h2⟩ := dedup_all h k (by omega)
    obtain ⟨c, hc⟩ : ∃ c, d[k]? = some c := ⟨d[k], List.getElem?_eq_getElem (by omega)⟩
    have ht : ∀ e, e ∈ d.take (k + 1) ↔ e ∈ d.take k ∨ e = c := fun e => by rw [List.take_add_one, hc]; simp
    simp only [dedupT, hc]
    by_cases hp : 0 < k ∧ d[k - 1]? = some c
    · rw [if_pos hp]
      refine ⟨h1, fun e => (h2 e).trans ?_⟩
      rw [ht]
      constructor
      · exact .inl
      · rintro (he | rfl)
        · exact he
        · refine List.mem_of_getElem? (i := k - 1) ?_
          rw [List.getElem?_take, if_pos (by omega)]
          exact hp.2
    · rw [if_neg hp]
      refine ⟨?_, fun e => ?_⟩
      · unfold Srt
        rw [List.pairwise_append]
        refine ⟨h1, List.pairwise_singleton _ _, fun a ha b hb => ?_⟩
        simp at hb
        subst hb
        obtain ⟨j, hj⟩ := List.getElem?_of_mem ((h2 a).1 ha)
        rw [List.getElem?_take] at hj
        split at hj
        · rename_i hjk
          rcases bef_tri a b with e | e | e
          · exact e
          · subst e
            exfalso
            apply hp
            refine ⟨by omega, ?_⟩
            by_cases e : j = k - 1
            · subst e; exact hj
            · obtain ⟨m, hm⟩ : ∃ m, d[k - 1]? = some m := ⟨d[k - 1], List.getElem?_eq_getElem (by omega)⟩
              have x1 := h j (k - 1) a m (by omega) (by omega) hj hm
              have x2 := h (k - 1) k m a (by omega) (by omega) hm hc
              rcases bef_tri a m with y | y | y
              · rw [y] at x2; cases x2
              · rw [hm, y]
              · rw [y] at x1; cases x1
          · have := h j k a b hjk (by omega) hj hc
            rw [e] at this; cases this
        · cases hj
      · rw [List.mem_append, ht, h2 e, List.mem_singleton]
theorem dedup_sort {d s : List Cell} (h : WS d d.length) (hm : ∀ c, c ∈ d ↔ c ∈ s) : dedupT d d.length = sortC s := by
  obtain ⟨h1, h2⟩ := dedup_all h d.length (Nat.le_refl _)
  refine (sortC_is h1 fun c => ?_).symm
  rw [h2, List.take_length, hm]
end Go.Proofs.YtghpkfihdcjlaaaGreatDoor

namespace Go.Proofs.YtghpkfihdcjlaaaGreatDoor
open Go.RowKit

abbrev lessFn (Bs : Nat) : Value := .func (.func 74) #[] #[.pointer (some ⟨Bs, 0, none⟩)]
abbrev cellsBox (Bs g n c : Nat) : Res := Res.box Bs 24 #[.slice (some ⟨g, 0, none⟩) n c]
abbrev cellsRow (g n c : Nat) (d : List Cell) : Res := Res.row (.slice (some ⟨g, 0, none⟩) n c) 46 2 n (cc d)
theorem cc_set : ∀ {l : List Cell} {i : Nat} {y : Cell}, ((cc l).set (i * 2) (.int .i64 y.x)).set (i * 2 + 1) (.int .i64 y.y) = cc (l.set i y)
  | [], i, y => by simp [cc, fl2]
  | a :: l, 0, y => rfl
  | a :: l, i + 1, y => by
    have h := cc_set (l := l) (i := i) (y := y)
    have e1 : (i + 1) * 2 = i * 2 + 1 + 1 := by omega
    have e2 : (i + 1) * 2 + 1 = i * 2 + 1 + 1 + 1 := by omega
    have e3 : cc (a :: l) = .int .i64 a.x :: .int .i64 a.y :: cc l := rfl
    have e4 : cc (a :: l.set i y) = .int .i64 a.x :: .int .i64 a.y :: cc (l.set i y) := rfl
    rw [List.set_cons_succ, e4, e3, e2, e1, List.set_cons_succ, List.set_cons_succ, List.set_cons_succ, List.set_cons_succ, h]
set_option maxRecDepth 100000 in
set_option maxHeartbeats 1600000 in
theorem less_c {Bs g n c : Nat} {d : List Cell} {w0 w : World} {L : List Res} {x y : Cell} (i j : Nat) (H : Sep w0 w (cellsRow g n c d :: cellsBox Bs g n c :: L)) (hn : n = d.length) (hx : d[i]? = some x) (hy : d[j]? = some y) :
    Calls Tryz.prog 74 #[.int .i64 i, .int .i64 j, .pointer (some ⟨Bs, 0, none⟩)] w fun e w' => e = .returned (.bool (befB x y)) ∧ Below w.heap.size w w' := by
  have hi : i < n := by rw [hn]; exact (List.getElem?_eq_some_iff.1 hx).1
  have hj : j < n := by rw [hn]; exact (List.getElem?_eq_some_iff.1 hy).1
  have hgl : g < w.heap.size := by obtain ⟨_, _, hB, _⟩ := own_blk H.h0; exact hB.lt
  have hbl : Bs < w.heap.size := Blk.lt H.h1
  have z0 : w.cell? ⟨Bs, 0, none⟩ = some (.slice (some ⟨g, 0, none⟩) n c) := H.h1.cell 0
  have l0 := Later.cell z0 hbl
  obtain ⟨x1, x2⟩ := own_cell2 H.h0 hx
  obtain ⟨y1, y2⟩ := own_cell2 H.h0 hy
  rw [Nat.zero_add] at x1 x2 y1 y2
  have l1 := Later.cell x1 hgl
  have l2 := Later.cell x2 hgl
  have l3 := Later.cell y1 hgl
  have l4 := Later.cell y2 hgl
  have HC : Hid (∀ w', Calls Tryz.prog 71 #[.agg #[.int .i64 x.x, .int .i64 x.y], .agg #[.int .i64 y.x, .int .i64 y.y]] w' fun e w'' => e = .returned (.bool (befB x y)) ∧ Below w'.heap.size w' w'') := Lib.hid fun w' => impl_bef_c x y w'
  have e1 : (i : Int) < (n : Int) := by omega
  have e2 : (j : Int) < (n : Int) := by omega
  clear H hn hx hy
  go_enter Tryz.func74, Tryz.ntmps74
  go_wp2_with fail
  refine wp_region_later (by kernel_rfl) (by kernel_rfl) ?_
  repeat (go_big_quiet_step ((go_at_call 71; exact Later.call (HC.out _))))
  refine wpQuiet_nil ?_
  intro w3 hw3
  obtain ⟨u3, hu3⟩ := hw3
  subst hu3
  have hb3 := u3.h
  generalize u3.w = w3 at *
  clear l0 l1 l2 l3 l4 z0 x1 x2 y1 y2
  go_wp2
  go_ret
  exact ⟨rfl, hb3⟩
set_option maxRecDepth 100000 in
theorem swap_cells_c {g n c i j : Nat} {d : List Cell} {x y : Cell} {w : World} (hR : w.ownsRow 0 46 2 (.slice (some ⟨g, 0, none⟩) n c) n (cc d)) (hn : n = d.length) (hx : d[i]? = some x) (hy : d[j]? = some y) :
    (callFunc 91 #[.int .i64 i, .int .i64 j, .slice (some ⟨g, 0, none⟩) n c, typeHandle Tryz.prog 46]).run Tryz.prog w = .ok (.value (.tuple #[]))
      ((((w.setCell ⟨g, i * 2, none⟩ (.int .i64 y.x)).setCell ⟨g, i * 2 + 1, none⟩ (.int .i64 y.y)).setCell ⟨g, j * 2, none⟩ (.int .i64 x.x)).setCell ⟨g, j * 2 + 1, none⟩ (.int .i64 x.y)) := by
  obtain ⟨ie, hie⟩ : ∃ ie, Tryz.prog.info? 46 = some ie := by obtain ⟨ie, h, _⟩ := info_parts infoCellS; exact ⟨ie, h⟩
  have hsz : ie.size = 2 := by
    obtain ⟨i0, hi, _, hz1, _⟩ := info_parts infoCellS
    rw [hie] at hi; injection hi with hi; rw [hi]; exact hz1
  have hi : i < n := by rw [hn]; exact (List.getElem?_eq_some_iff.1 hx).1
  have hj : j < n := by rw [hn]; exact (List.getElem?_eq_some_iff.1 hy).1
  obtain ⟨x1, x2⟩ := own_cell2 hR hx
  obtain ⟨y1, y2⟩ := own_cell2 hR hy
  have h := Lib.run_swap_cells (P := Tryz.prog) false 46 ie hie (fun _ => by kernel_rfl) g 0 n c i j hi hj [.int .i64 x.x, .int .i64 x.y] [.int .i64 y.x, .int .i64 y.y] (by rw [hsz]; rfl) (by rw [hsz]; rfl) oc2 oc2 w
    (fun k v hv => by
      rw [hsz]
      match k, hv with
      | 0, hv => simp at hv; subst hv; exact x1
      | 1, hv => simp at hv; subst hv; exact x2
      | k + 2, hv => simp at hv)
    (fun k v hv => by
      rw [hsz]
      match k, hv with
      | 0, hv => simp at hv; subst hv; exact y1
      | 1, hv => simp at hv; subst hv; exact y2
      | k + 2, hv => simp at hv)
    (fun k _ => by rw [Nat.zero_add]; have := own_free hR (i * ie.size + k); rwa [Nat.zero_add] at this)
    (fun k _ => by rw [Nat.zero_add]; have := own_free hR (j * ie.size + k); rwa [Nat.zero_add] at this)
  rw [run_callFunc_extern Tryz.func91 (by kernel_rfl) (by kernel_rfl) (by kernel_rfl) (e := Extern.ReflectliteSwapper.swap false) (by kernel_rfl)]
  rw [h, hsz]
  simp [World.setCells, Result.andThen]
end Go.Proofs.YtghpkfihdcjlaaaGreatDoor

namespace Go.Proofs.YtghpkfihdcjlaaaGreatDoor
open Go.RowKit

noncomputable abbrev swapFn (g n c : Nat) : Value := .func (.func 91) #[] #[.slice (some ⟨g, 0, none⟩) n c, typeHandle Tryz.prog 46]
set_option maxRecDepth 100000 in
set_option maxHeartbeats 3200000 in
theorem insertion_c {Bs g n c : Nat} {d : List Cell} {w0 w : World} (H : Sep w0 w [cellsRow g n c d, cellsBox Bs g n c]) (hn : n = d.length) (h1 : 1 ≤ n) (h12 : n ≤ 12) :
    Calls Tryz.prog 94 #[.agg #[lessFn Bs, swapFn g n c], .int .i64 0, .int .i64 n] w fun e w' => e = .returned (.tuple #[]) ∧ ∃ d', d'.length = n ∧ (∀ x, x ∈ d' ↔ x ∈ d) ∧ WS d' n ∧ Sep w0 w' [cellsRow g n c d', cellsBox Bs g n c] := by
  have H0 := H.box 91 #[lessFn Bs, swapFn g n c]
  obtain ⟨gd, hgd⟩ : ∃ gd, gd = w.heap.size := ⟨_, rfl⟩
  rw [← hgd] at H0
  have HN := Lib.hid hn
  clear H hn
  go_enter Tryz.func94, Tryz.ntmps94
  go_upto_region 1 with fail
  rw [← hgd]
  generalize w.alloc (.cells #[lessFn Bs, swapFn g n c] 91) = W at *
  clear hgd
  go_wp2
  go_loopw [6] (fun iv wx => ∃ (i : Nat) (d' : List Cell), 1 ≤ i ∧ i ≤ n ∧ iv = .int .i64 i ∧ Hid (d'.length = n) ∧ Hid (∀ x, x ∈ d' ↔ x ∈ d) ∧ Hid (WS d' i) ∧ Sep w0 wx [Res.box gd 91 #[lessFn Bs, swapFn g n c], cellsRow g n c d', cellsBox Bs g n c]) (fun iv _ => n - (intOf iv).toNat)
  case atStart => exact ⟨1, d, Nat.le_refl _, h1, rfl, Lib.hid HN.out.symm, Lib.hid (fun _ => Iff.rfl), Lib.hid WS.one, H0⟩
  case round =>
    clear H0
    obtain ⟨i, d1, hi1, hin, rfl, HL, HM, HW, H⟩ := hrel
    by_cases hlt : i < n
    · go_wp2
      go_loopw [7] (fun jv wx => ∃ (j : Nat) (d' : List Cell), j ≤ i ∧ jv = .int .i64 j ∧ Hid (d'.length = n) ∧ Hid (∀ x, x ∈ d' ↔ x ∈ d) ∧ Hid (WJ d' i j) ∧ Sep w0 wx [Res.box gd 91 #[lessFn Bs, swapFn g n c], cellsRow g n c d', cellsBox Bs g n c]) (fun jv _ => (intOf jv).toNat)
      case atStart => exact ⟨i, d1, Nat.le_refl _, rfl, HL, HM, Lib.hid HW.out.start, H⟩
      case round =>
        clear H HL HM HW
        obtain ⟨j, d2, hji, rfl, HL, HM, HW, H⟩ := hrel
        by_cases hj0 : 0 < j
        · have hdj : decide ((0 : Int) < (j : Int)) = true := by simp; omega
          obtain ⟨p, hp⟩ : ∃ p, p = j - 1 := ⟨_, rfl⟩
          have HP := Lib.hid hp
          have e1 : (j : Int) - 1 = (p : Int) := by omega
          have e2 : IntKind.i64.wrap ((j : Int) - 1) = (p : Int) := by rw [e1]; exact IntWalk.i64_in _ (by omega)
          obtain ⟨x, hx⟩ : ∃ x, d2[j]? = some x := ⟨d2[j]'(by rw [HL.out]; omega), List.getElem?_eq_getElem _⟩
          obtain ⟨y, hy⟩ : ∃ y, d2[p]? = some y := ⟨d2[p]'(by rw [HL.out]; omega), List.getElem?_eq_getElem _⟩
          have k0 : wr.cell? ⟨gd, 0, none⟩ = some (lessFn Bs) := H.h0.cell 0
          have HC := Lib.hid (less_c j p H.drop HL.out.symm hx hy)
          have HX := Lib.hid hx
          have HY := Lib.hid hy
          clear hp hx hy
          go_wp2_with fail
          refine (HC.out).mono ?_
          rintro e w2 ⟨rfl, b2⟩
          have H2 := H.step b2
          clear H HC b2 k0
          cases hb : befB x y
          · have HS : Hid (WS d2 (i + 1)) := Lib.hid (HW.out.stop hj0 HX.out (by rw [← HP.out]; exact HY.out) hb)
            clear hb
            go_wp2
            go_roundw
            case rel => exact ⟨i + 1, d2, by omega, by omega, by go_num, HL, HM, HS, H2⟩
            case measure => simp [intOf]; omega
          · have HS : Hid (WJ (swapC d2 j p x y) i p) := Lib.hid (by
              have := HW.out.swap hj0 hji HX.out (by rw [← HP.out]; exact HY.out) hb
              rwa [← HP.out] at this)
            have HM2 : Hid (∀ z, z ∈ swapC d2 j p x y ↔ z ∈ d) := Lib.hid fun z => (mem_swapC (by have := HP.out; omega) HX.out HY.out z).trans (HM.out z)
            have HL2 : Hid ((swapC d2 j p x y).length = n) := Lib.hid (swapC_len.trans HL.out)
            have HSW := Lib.hid (swap_cells_c H2.h1 HL.out.symm HX.out HY.out)
            have k1 : w2.cell? ⟨gd, 1, none⟩ = some (swapFn g n c) := H2.h0.cell 1
            have hcl : (cc d2).length = n * 2 := by rw [cc_length, HL.out]
            have H3 := (((H2.g1.setRow (j := j * 2) (by omega) (.int .i64 y.x)).setRow (j := j * 2 + 1) (by rw [List.length_set]; omega) (.int .i64 y.y)).setRow (j := p * 2) (by rw [List.length_set, List.length_set]; have := HP.out; omega) (.int .i64 x.x)).setRow (j := p * 2 + 1) (by rw [List.length_set, List.length_set, List.length_set]; have := HP.out; omega) (.int .i64 x.y)
            rw [cc_set, cc_set] at H3
            simp only [Nat.zero_add] at H3
            have H4 := H3.p1
            clear hb H2 H3 hcl HM HL HW
            go_wp2_with fail
            rw [HSW.out, Oper.upon_value]
            clear k1 HSW
            have hs : swapC d2 j p x y = (d2.set j y).set p x := rfl
            rw [← hs] at H4
            generalize (((w2.setCell ⟨g, j * 2, none⟩ (.int .i64 y.x)).setCell ⟨g, j * 2 + 1, none⟩ (.int .i64 y.y)).setCell ⟨g, p * 2, none⟩ (.int .i64 x.x)).setCell ⟨g, p * 2 + 1, none⟩ (.int .i64 x.y) = w5 at *
            generalize swapC d2 j p x y = d5 at *
            clear hs
            go_wp2
            go_roundw
            case rel => exact ⟨p, d5, by omega, by go_num, HL2, HM2, HS, H4⟩
            case measure => simp [intOf]; omega
        · have hdj : decide ((0 : Int) < (j : Int)) = false := by simp; omega
          obtain rfl : j = 0 := by omega
          have HS : Hid (WS d2 (i + 1)) := Lib.hid HW.out.zero
          go_wp2
          go_roundw
          case rel => exact ⟨i + 1, d2, by omega, by omega, by go_num, HL, HM, HS, H⟩
          case measure => simp [intOf]; omega
    · obtain rfl : i = n := by omega
      have H2 := H.drop
      clear H
      go_wp2
      refine bodyPost_end (results_none rfl _ _ _) rfl ?_
      exact ⟨rfl, d1, HL.out, HM.out, HW.out, H2⟩
set_option maxRecDepth 100000 in
set_option maxHeartbeats 3200000 in
theorem pdq_c {Bs g n c : Nat} {d : List Cell} {w0 w : World} (lim : Int) (H : Sep w0 w [cellsRow g n c d, cellsBox Bs g n c]) (hn : n = d.length) (h1 : 1 ≤ n) (h12 : n ≤ 12) :
    Calls Tryz.prog 81 #[.agg #[lessFn Bs, swapFn g n c], .int .i64 0, .int .i64 n, .int .i64 lim] w fun e w' => e = .returned (.tuple #[]) ∧ ∃ d', d'.length = n ∧ (∀ x, x ∈ d' ↔ x ∈ d) ∧ WS d' n ∧ Sep w0 w' [cellsRow g n c d', cellsBox Bs g n c] := by
  have H0 := (H.box 91 #[lessFn Bs, swapFn g n c])
  have HI := Lib.hid (insertion_c H0.drop hn h1 h12)
  have k0 : (w.alloc (.cells #[lessFn Bs, swapFn g n c] 91)).cell? ⟨w.heap.size, 0, none⟩ = some (lessFn Bs) := H0.h0.cell 0
  have k1 : (w.alloc (.cells #[lessFn Bs, swapFn g n c] 91)).cell? ⟨w.heap.size, 1, none⟩ = some (swapFn g n c) := H0.h0.cell 1
  have hd : decide ((n : Int) ≤ 12) = true := decide_eq_true (by omega)
  clear H H0 hn
  go_enter Tryz.func81, Tryz.ntmps81
  go_wp2
  refine wp_loop_rounds 1 ?_
  rw [rounds_succ]
  go_wp2_with fail
  refine (HI.out).mono ?_
  rintro e w2 ⟨rfl, hR⟩
  go_wp2
  (try simp only [Exit.inBlock, Exit.then])
  refine bodyPost_ret (results_none rfl _ _ _) rfl ?_
  exact ⟨rfl, hR⟩
set_option maxRecDepth 100000 in
/-- sort.Slice over a short slice of cells, under the program's closure -/
theorem sortSlice_c {Bs g n c : Nat} {d : List Cell} {w0 w : World} (H : Sep w0 w [cellsRow g n c d, cellsBox Bs g n c]) (hn : n = d.length) (h1 : 1 ≤ n) (h12 : n ≤ 12) :
    Calls Tryz.prog 73 #[.iface 24 (.slice (some ⟨g, 0, none⟩) n c), lessFn Bs] w fun e w' => e = .returned (.tuple #[]) ∧ ∃ d', d'.length = n ∧ (∀ x, x ∈ d' ↔ x ∈ d) ∧ WS d' n ∧ Sep w0 w' [cellsRow g n c d', cellsBox Bs g n c] := by
  obtain ⟨ie, hie⟩ : ∃ ie, Tryz.prog.info? 46 = some ie := by obtain ⟨ie, h, _⟩ := info_parts infoCellS; exact ⟨ie, h⟩
  have hd : (Tryz.prog.info? 24).map (·.desc) = some (.slice 46) := by kernel_rfl
  obtain ⟨it, hit, hdt⟩ := Option.map_eq_some_iff.1 hd
  have hp : (Tryz.prog.info? 46).map (fun i => (i.hasPointers, i.bytes)) = some (false, 16) := by kernel_rfl
  rw [hie] at hp
  simp only [Option.map_some, Option.some.injEq, Prod.mk.injEq] at hp
  obtain ⟨hp1, hp2⟩ := hp
  by_cases hn1 : n = 1
  · have hk : Lib.swapperK n ie 25 = 2 := by subst hn1; rfl
    have hS := Any.sort_Slice_tiny Tryz.laysGg6 24 46 it ie hit hdt (by kernel_rfl) hie 25 (fun _ => by kernel_rfl) (some ⟨g, 0, none⟩) n c (by omega) 84 (by rw [hk]; kernel_rfl) (.func 74) #[] #[.pointer (some ⟨Bs, 0, none⟩)] w
    refine Calls.mono (show Calls Tryz.prog 73 _ _ _ from hS) ?_
    rintro e w' ⟨rfl, os, rfl⟩
    exact ⟨rfl, d, hn.symm, fun _ => Iff.rfl, by subst hn1; exact WS.one, H.step (Go.Lib.below_grow w.heap.size w (Nat.le_refl _) 0 os)⟩
  · have hk : Lib.swapperK n ie 25 = 9 := by
      have a : (n == 0) = false := by simp; omega
      have b : (n == 1) = false := by simp; omega
      simp [Lib.swapperK, hp1, hp2, a, b]
    have hsb : sliceBound Tryz.prog 46 ie 25 (some ⟨g, 0, none⟩) n c = #[.slice (some ⟨g, 0, none⟩) n c, typeHandle Tryz.prog 46] := by
      unfold sliceBound; rw [hk]; rfl
    refine Calls.mono (show Calls Tryz.prog 73 _ _ _ from Any.sort_Slice_of_pdq Tryz.laysGg6 24 46 it ie hit hdt (by kernel_rfl) hie 25 (fun _ => by kernel_rfl) (some ⟨g, 0, none⟩) n c (by omega) 91 (by rw [hk]; kernel_rfl) (.func 74) #[] #[.pointer (some ⟨Bs, 0, none⟩)] w (fun w' => ∃ d', d'.length = n ∧ (∀ x, x ∈ d' ↔ x ∈ d) ∧ WS d' n ∧ Sep w0 w' [cellsRow g n c d', cellsBox Bs g n c]) ?_) (fun _ _ h => h)
    rw [hsb]
    exact pdq_c _ ((H.alloc _).alloc _) hn h1 h12
end Go.Proofs.YtghpkfihdcjlaaaGreatDoor

namespace Go.Proofs.YtghpkfihdcjlaaaGreatDoor
open Go.RowKit

theorem dedup_keep {d : List Cell} {i : Nat} {c : Cell} (hc : d[i]? = some c) (hp : 0 < i ∧ d[i - 1]? = some c) : dedupT d (i + 1) = dedupT d i := by simp only [dedupT, hc, if_pos hp]
theorem dedup_new {d : List Cell} {i : Nat} {c : Cell} (hc : d[i]? = some c) (hp : ¬ (0 < i ∧ d[i - 1]? = some c)) : dedupT d (i + 1) = dedupT d i ++ [c] := by simp only [dedupT, hc, if_neg hp]
set_option maxRecDepth 100000 in
set_option maxHeartbeats 3200000 in
theorem impl_sort_c {v : Value} {s : List Cell} (w : World) (h : CellsRd w 0 w.heap.size v s) (h1 : 1 ≤ s.length) (h12 : s.length ≤ 12) :
    Calls Tryz.prog 61 #[v] w fun e w' => ∃ v', e = .returned v' ∧ CellsIn w' w.heap.size w'.heap.size v' (sortC s) ∧ Below w.heap.size w w' := by
  obtain ⟨i0, hi, hz0, hz1, hz2⟩ := info_parts infoCellI
  obtain ⟨A, c, rfl, hm, hr⟩ := h
  have hmf : ∀ (fn : Fn) (first cap : Array Value) (w : World), (Instr.makeFunc fn first cap).run Tryz.prog w = .ok (.func fn first cap) w := fun _ _ _ _ => rfl
  have H0 := (Sep.start w).nil 46 2
  obtain ⟨n, hn⟩ : ∃ n, n = s.length := ⟨_, rfl⟩
  have HN := Lib.hid hn
  rw [← hn] at hr h1 h12 hm ⊢
  clear hn
  go_enter Tryz.func61, Tryz.ntmps61
  go_wp2_with (at_builtin; refine wpList_app rfl _ _ 24 rfl 46 i0 _ 2 16 Tryz.underlying24 hi hz0 hz1 hz2 rfl (by decide) _ _ _ rfl H0 _ _ _ (cc s) rfl hr cc_onec (by unfold maxLen; omega) (by omega) ?_; intro v1 w1 H1; rw [List.nil_append, Nat.zero_add] at H1; obtain ⟨g, o, cp, rfl, _, _, _⟩ := own_shape H1.h0 h1; obtain ⟨rfl, _⟩ := own_blk H1.h0; clear H0 hr)
  have H2 := (H1.box 24 #[.slice (some ⟨g, 0, none⟩) n cp]).g1
  have z0 : (w1.alloc (.cells #[.slice (some ⟨g, 0, none⟩) n cp] 24)).cell? ⟨w1.heap.size, 0, none⟩ = some (.slice (some ⟨g, 0, none⟩) n cp) := H2.h1.cell 0
  have HSS := Lib.hid (sortSlice_c H2 HN.out h1 h12)
  clear H1 H2
  go_wp2_with fail
  refine (HSS.out).mono ?_
  rintro e w2 ⟨rfl, d, hdl, hdm, hdw, H3⟩
  obtain ⟨Bs, hBs⟩ : ∃ Bs, Bs = w1.heap.size := ⟨_, rfl⟩
  rw [← hBs] at H3 ⊢
  have HDL := Lib.hid hdl
  have HE : Hid (dedupT d n = sortC s) := Lib.hid (by
    have := dedup_sort (d := d) (s := s) (by rw [hdl]; exact hdw) hdm
    rwa [hdl] at this)
  have z1 : w2.cell? ⟨Bs, 0, none⟩ = some (.slice (some ⟨g, 0, none⟩) n cp) := H3.h1.cell 0
  have H4 := H3.nil 46 2
  clear HSS z0 hdl hdm hdw H3 hBs
  go_wp2
  clear z1
  go_loopw [4, 15] (fun ov iv wx => ∃ (i m : Nat), i ≤ n ∧ iv = .int .i64 i ∧ m ≤ i ∧ Hid (m = (dedupT d i).length) ∧ Sep w wx [Res.row ov 46 2 m (cc (dedupT d i)), cellsRow g n cp d, cellsBox Bs g n cp]) (fun _ iv _ => n - (intOf iv).toNat)
  case atStart => exact ⟨0, 0, Nat.zero_le _, rfl, Nat.le_refl _, Lib.hid rfl, H4⟩
  case round =>
    clear H4
    obtain ⟨i, m, hin, rfl, hmi, HM, H⟩ := hrel
    by_cases hlt : i < n
    · obtain ⟨x, hx⟩ : ∃ x, d[i]? = some x := ⟨d[i]'(by rw [HDL.out]; exact hlt), List.getElem?_eq_getElem _⟩
      obtain ⟨x1, x2⟩ := own_cell2 H.h1 hx
      rw [Nat.zero_add] at x1 x2
      have H1 := H.box 46 #[.int .i64 x.x, .int .i64 x.y]
      obtain ⟨gc, hgc⟩ : ∃ gc, gc = wr.heap.size := ⟨_, rfl⟩
      have HX := Lib.hid hx
      clear H hx
      go_upto_region 7 with fail
      rw [← hgc] at H1 ⊢
      generalize wr.alloc (.cells #[.int .i64 x.x, .int .i64 x.y] 46) = W at *
      clear hgc x1 x2
      have c0 : W.cell? ⟨gc, 0, none⟩ = some (.int .i64 x.x) := H1.h0.cell 0
      have c1 : W.cell? ⟨gc, 1, none⟩ = some (.int .i64 x.y) := H1.h0.cell 1
      have b0 : W.cell? ⟨Bs, 0, none⟩ = some (.slice (some ⟨g, 0, none⟩) n cp) := H1.h3.cell 0
      by_cases hi0 : i = 0
      · have e0 : ((i : Int) == 0) = true := by simp; omega
        have HD : Hid (dedupT d (i + 1) = dedupT d i ++ [x]) := Lib.hid (dedup_new HX.out (fun h => by omega))
        go_wp2_with fail
        refine wp_region_quiet_lit (by kernel_rfl) (by kernel_rfl) ?_
        repeat (go_big_quiet_step (fail))
        refine wpQuiet_nil ?_
        intro _ hwq'
        obtain ⟨nq, hwq''⟩ := hwq'
        subst hwq''
        have H2 := H1.drewN nq
        clear H1 c0 c1 b0
        generalize W.drewN nq = W4 at *
        have c0 : W4.cell? ⟨gc, 0, none⟩ = some (.int .i64 x.x) := H2.h0.cell 0
        have c1 : W4.cell? ⟨gc, 1, none⟩ = some (.int .i64 x.y) := H2.h0.cell 1
        have H3 := H2.drop
        clear H2
        go_wp2_with (at_builtin; refine wpList_app rfl _ _ 24 rfl 46 i0 _ 2 16 Tryz.underlying24 hi hz0 hz1 hz2 rfl (by decide) _ _ _ rfl (H3.alloc _) _ _ _ [.int .i64 x.x, .int .i64 x.y] rfl (Rd.fresh W4 _ #[.int .i64 x.x, .int .i64 x.y] 2 1 rfl) oc2 (by unfold maxLen; omega) (by omega) ?_; intro v5 w5 H5; clear H3 c0 c1)
        have hcc : cc (dedupT d i) ++ [Value.int .i64 x.x, .int .i64 x.y] = cc (dedupT d (i + 1)) := by rw [HD.out, cc_append]; rfl
        have HM2 : Hid (m + 1 = (dedupT d (i + 1)).length) := Lib.hid (by rw [HD.out, List.length_append, HM.out]; rfl)
        rw [hcc] at H5
        clear hcc
        go_roundw
        case rel => exact ⟨i + 1, m + 1, by omega, by go_num, by omega, HM2, H5⟩
        case measure => simp [intOf]; omega
      · have e0 : ((i : Int) == 0) = false := by simp; omega
        obtain ⟨p, hp⟩ : ∃ p, p = i - 1 := ⟨_, rfl⟩
        have HP := Lib.hid hp
        have e1 : (i : Int) - 1 = (p : Int) := by omega
        have e2 : IntKind.i64.wrap ((i : Int) - 1) = (p : Int) := by rw [e1]; exact IntWalk.i64_in _ (by omega)
        have e3 : (p : Int) < (n : Int) := by omega
        have e4 : IntKind.i64.wrap (p : Int) = (p : Int) := IntWalk.i64_in _ (by omega)
        obtain ⟨y, hy⟩ : ∃ y, d[p]? = some y := ⟨d[p]'(by rw [HDL.out]; omega), List.getElem?_eq_getElem _⟩
        obtain ⟨y1, y2⟩ := own_cell2 H1.h2 hy
        rw [Nat.zero_add] at y1 y2
        have HY := Lib.hid hy
        clear hp hy
        by_cases hyx : y = x
        · have HD : Hid (dedupT d (i + 1) = dedupT d i) := Lib.hid (dedup_keep HX.out ⟨by omega, by rw [← HP.out, HY.out, hyx]⟩)
          subst hyx
          go_wp2_with fail
          refine wp_region_quiet_lit (by kernel_rfl) (by kernel_rfl) ?_
          repeat (go_big_quiet_step (fail))
          refine wpQuiet_nil ?_
          intro _ hwq'
          obtain ⟨nq, hwq''⟩ := hwq'
          subst hwq''
          have H2 := H1.drewN nq
          clear H1 c0 c1 b0
          generalize W.drewN nq = W4 at *
          have H3 := H2.drop
          clear H2 y1 y2
          rw [← HD.out] at H3
          have HM2 : Hid (m = (dedupT d (i + 1)).length) := Lib.hid (by rw [HD.out]; exact HM.out)
          go_wp2
          go_roundw
          case rel => exact ⟨i + 1, m, by omega, by go_num, by omega, HM2, H3⟩
          case measure => simp [intOf]; omega
        · have HD : Hid (dedupT d (i + 1) = dedupT d i ++ [x]) := Lib.hid (dedup_new HX.out (fun h => by
            have := h.2
            rw [← HP.out, HY.out] at this
            injection this with this
            exact hyx this))
          have HYX := Lib.hid hyx
          clear hyx
          go_wp2_with fail
          refine wp_region_quiet_lit (by kernel_rfl) (by kernel_rfl) ?_
          repeat (go_big_quiet_step (fail))
          go_big_quiet_want
          go_big_quiet_op
          refine ⟨.bool true, fun aa => ?_, ?_⟩
          · by_cases hx : y.x = x.x
            · have hy : ¬ y.y = x.y := fun hy => HYX.out (by cases x; cases y; simp at hx hy; subst hx; subst hy; rfl)
              simp [hx, hy]
            · simp [hx]
          go_big_quiet_on
          repeat (go_big_quiet_step (fail))
          refine wpQuiet_nil ?_
          intro _ hwq'
          obtain ⟨nq, hwq''⟩ := hwq'
          subst hwq''
          have H2 := H1.drewN nq
          clear H1 c0 c1 b0
          generalize W.drewN nq = W4 at *
          clear y1 y2
          have c0 : W4.cell? ⟨gc, 0, none⟩ = some (.int .i64 x.x) := H2.h0.cell 0
          have c1 : W4.cell? ⟨gc, 1, none⟩ = some (.int .i64 x.y) := H2.h0.cell 1
          have H3 := H2.drop
          clear H2
          go_wp2_with (at_builtin; refine wpList_app rfl _ _ 24 rfl 46 i0 _ 2 16 Tryz.underlying24 hi hz0 hz1 hz2 rfl (by decide) _ _ _ rfl (H3.alloc _) _ _ _ [.int .i64 x.x, .int .i64 x.y] rfl (Rd.fresh W4 _ #[.int .i64 x.x, .int .i64 x.y] 2 1 rfl) oc2 (by unfold maxLen; omega) (by omega) ?_; intro v5 w5 H5; clear H3 c0 c1)
          have hcc : cc (dedupT d i) ++ [Value.int .i64 x.x, .int .i64 x.y] = cc (dedupT d (i + 1)) := by rw [HD.out, cc_append]; rfl
          have HM2 : Hid (m + 1 = (dedupT d (i + 1)).length) := Lib.hid (by rw [HD.out, List.length_append, HM.out]; rfl)
          rw [hcc] at H5
          clear hcc
          go_roundw
          case rel => exact ⟨i + 1, m + 1, by omega, by go_num, by omega, HM2, H5⟩
          case measure => simp [intOf]; omega
    · obtain rfl : i = n := by omega
      have HO : Hid (CellsIn wr w.heap.size wr.heap.size u4 (sortC s)) := Lib.hid (by rw [← HE.out]; unfold CellsIn; rw [← HM.out]; exact H.oi)
      have hb := H.below
      clear H
      go_wp2
      go_ret
      exact ⟨_, rfl, HO.out, hb⟩
end Go.Proofs.YtghpkfihdcjlaaaGreatDoor
