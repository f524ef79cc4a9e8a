
/-
  The library's sort.Slice at a short slice of cells, under the program's closure, which lays boxes.
-/
import Derived.Test.YtdbneilhgckhjaaDoorSortP
import Derived.Test.YtdbneilhgckhjaaDoorLater
import Derived.Test.YtdbneilhgckhjaaDoorShelf
import Derived.Shelf.GgSortFunc.Tiny
import Derived.Lib.ReflectliteSwap
import Derived.Lib.AppendIntMem
import Derived.Deep.DeepCutAuto
namespace Go.Proofs.YtdbneilhgckhjaaDoor
open Go.RowKit

abbrev lessFn (Bs : Nat) : Value := .func (.func 152) #[] #[.pointer (some ⟨Bs, 0, none⟩)]
abbrev cellsBox (Bs g n c : Nat) : Res := Res.box Bs 53 #[.slice (some ⟨g, 0, none⟩) n c]
abbrev cellsRow (g n c : Nat) (d : List Cell) : Res := Res.row (.slice (some ⟨g, 0, none⟩) n c) 73 2 n (cc d)
theorem cc_set : ∀ {l : List Cell} {i : Nat} {y : Cell}, ((cc l).set (i * 2) (.int .i64 y.x)).set (i * 2 + 1) (.int .i64 y.y) = cc (l.set i y)
  | [], i, y => by simp [cc, fl2]
  | a :: l, 0, y => rfl
  | a :: l, i + 1, y => by
    have h := cc_set (l := l) (i := i) (y := y)
    have e1 : (i + 1) * 2 = i * 2 + 1 + 1 := by omega
    have e2 : (i + 1) * 2 + 1 = i * 2 + 1 + 1 + 1 := by omega
    have e3 : cc (a :: l) = .int .i64 a.x :: .int .i64 a.y :: cc l := rfl
    have e4 : cc (a :: l.set i y) = .int .i64 a.x :: .int .i64 a.y :: cc (l.set i y) := rfl
    rw [List.set_cons_succ, e4, e3, e2, e1, List.set_cons_succ, List.set_cons_succ, List.set_cons_succ, List.set_cons_succ, h]
set_option maxRecDepth 100000 in
set_option maxHeartbeats 1600000 in
theorem less_c {Bs g n c : Nat} {d : List Cell} {w0 w : World} {L : List Res} {x y : Cell} (i j : Nat) (H : Sep w0 w (cellsRow g n c d :: cellsBox Bs g n c :: L)) (hn : n = d.length) (hx : d[i]? = some x) (hy : d[j]? = some y) :
    Calls Tryd.prog 152 #[.int .i64 i, .int .i64 j, .pointer (some ⟨Bs, 0, none⟩)] w fun e w' => e = .returned (.bool (befB x y)) ∧ Below w.heap.size w w' := by
  have hi : i < n := by rw [hn]; exact (List.getElem?_eq_some_iff.1 hx).1
  have hj : j < n := by rw [hn]; exact (List.getElem?_eq_some_iff.1 hy).1
  have hgl : g < w.heap.size := by obtain ⟨_, _, hB, _⟩ := own_blk H.h0; exact hB.lt
  have hbl : Bs < w.heap.size := Blk.lt H.h1
  have z0 : w.cell? ⟨Bs, 0, none⟩ = some (.slice (some ⟨g, 0, none⟩) n c) := H.h1.cell 0
  have l0 := Later.cell z0 hbl
  obtain ⟨x1, x2⟩ := own_cell2 H.h0 hx
  obtain ⟨y1, y2⟩ := own_cell2 H.h0 hy
  rw [Nat.zero_add] at x1 x2 y1 y2
  have l1 := Later.cell x1 hgl
  have l2 := Later.cell x2 hgl
  have l3 := Later.cell y1 hgl
  have l4 := Later.cell y2 hgl
  have HC : Hid (∀ w', Calls Tryd.prog 121 #[.agg #[.int .i64 x.x, .int .i64 x.y], .agg #[.int .i64 y.x, .int .i64 y.y]] w' fun e w'' => e = .returned (.bool (befB x y)) ∧ Below w'.heap.size w' w'') := Lib.hid fun w' => impl_bef_c x y w'
  have e1 : (i : Int) < (n : Int) := by omega
  have e2 : (j : Int) < (n : Int) := by omega
  clear H hn hx hy
  go_enter Tryd.func152, Tryd.ntmps152
  go_wp2_with fail
  refine wp_region_later (by kernel_rfl) (by kernel_rfl) ?_
  repeat (go_big_quiet_step ((go_at_call 121; exact Later.call (HC.out _))))
  refine wpQuiet_nil ?_
  intro w3 hw3
  obtain ⟨u3, hu3⟩ := hw3
  subst hu3
  have hb3 := u3.h
  generalize u3.w = w3 at *
  clear l0 l1 l2 l3 l4 z0 x1 x2 y1 y2
  go_wp2
  go_ret
  exact ⟨rfl, hb3⟩
set_option maxRecDepth 100000 in
theorem swap_cells_c {g n c i j : Nat} {d : List Cell} {x y : Cell} {w : World} (hR : w.ownsRow 0 73 2 (.slice (some ⟨g, 0, none⟩) n c) n (cc d)) (hn : n = d.length) (hx : d[i]? = some x) (hy : d[j]? = some y) :
    (callFunc 166 #[.int .i64 i, .int .i64 j, .slice (some ⟨g, 0, none⟩) n c, typeHandle Tryd.prog 73]).run Tryd.prog w = .ok (.value (.tuple #[]))
      ((((w.setCell ⟨g, i * 2, none⟩ (.int .i64 y.x)).setCell ⟨g, i * 2 + 1, none⟩ (.int .i64 y.y)).setCell ⟨g, j * 2, none⟩ (.int .i64 x.x)).setCell ⟨g, j * 2 + 1, none⟩ (.int .i64 x.y)) := by
  obtain ⟨ie, hie⟩ : ∃ ie, Tryd.prog.info? 73 = some ie := by obtain ⟨ie, h, _⟩ := info_parts infoCellS; exact ⟨ie, h⟩
  have hsz : ie.size = 2 := by
    obtain ⟨i0, hi, _, hz1, _⟩ := info_parts infoCellS
    rw [hie] at hi; injection hi with hi; rw [hi]; exact hz1
  have hi : i < n := by rw [hn]; exact (List.getElem?_eq_some_iff.1 hx).1
  have hj : j < n := by rw [hn]; exact (List.getElem?_eq_some_iff.1 hy).1
  obtain ⟨x1, x2⟩ := own_cell2 hR hx
  obtain ⟨y1, y2⟩ := own_cell2 hR hy
  have h := Lib.run_swap_cells (P := Tryd.prog) false 73 ie hie (fun _ => by kernel_rfl) g 0 n c i j hi hj [.int .i64 x.x, .int .i64 x.y] [.int .i64 y.x, .int .i64 y.y] (by rw [hsz]; rfl) (by rw [hsz]; rfl) oc2 oc2 w
    (fun k v hv => by
      rw [hsz]
      match k, hv with
      | 0, hv => simp at hv; subst hv; exact x1
      | 1, hv => simp at hv; subst hv; exact x2
      | k + 2, hv => simp at hv)
    (fun k v hv => by
      rw [hsz]
      match k, hv with
      | 0, hv => simp at hv; subst hv; exact y1
      | 1, hv => simp at hv; subst hv; exact y2
      | k + 2, hv => simp at hv)
    (fun k _ => by rw [Nat.zero_add]; have := own_free hR (i * ie.size + k); rwa [Nat.zero_add] at this)
    (fun k _ => by rw [Nat.zero_add]; have := own_free hR (j * ie.size + k); rwa [Nat.zero_add] at this)
  rw [run_callFunc_extern Tryd.func166 (by kernel_rfl) (by kernel_rfl) (by kernel_rfl) (e := Extern.ReflectliteSwapper.swap false) (by kernel_rfl)]
  rw [h, hsz]
  simp [World.setCells, Result.andThen]
end Go.Proofs.YtdbneilhgckhjaaDoor
