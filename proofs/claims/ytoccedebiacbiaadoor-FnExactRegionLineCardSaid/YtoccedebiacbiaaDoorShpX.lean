
/-
  Shapes: the order of cells, the test of a shape: the walks of both sides. Shapes: the test of a shape: the walk of the program; whether a cell is there: both sides. Shapes: cells side by side: the walks of both sides; what hangs together, in plain Lean. Shapes: what hangs together: plain Lean, and the walk of the reference's 'IsConnectedShape'. Shapes: the walk of the reference's 'IsConnectedShape'. Shapes in their corner: plain Lean; the walks of the reference's 'CornerShape' and 'SizeOf'.
-/
import Derived.Test.YtoccedebiacbiaaDoorCwWalks
import Derived.Test.YtoccedebiacbiaaDoorSepX
import Derived.Deep.DeepCutAuto
namespace Go.Proofs.YtoccedebiacbiaaDoor
open Go.RowKit

def inR (a b c : Int) : Bool := decide (b ≤ a) && decide (a ≤ c)
theorem inR_t {a b c : Int} (h1 : b ≤ a) (h2 : a ≤ c) : inR a b c = true := by simp [inR, h1, h2]
theorem inR_f {a b c : Int} (h : ¬ (b ≤ a ∧ a ≤ c)) : inR a b c = false := by simp [inR]; omega
theorem inR_iff {a b c : Int} : inR a b c = true ↔ b ≤ a ∧ a ≤ c := by simp [inR]
set_option maxRecDepth 100000 in
theorem between_r (a b c : Int) (w : World) : Calls Tryd.prog 53 #[.int .i64 a, .int .i64 b, .int .i64 c] w fun e w' => e = .returned (.bool (inR a b c)) ∧ w = w' := between_any a b c w
set_option maxRecDepth 100000 in
theorem l1In_r (a b c : Int) (w : World) : Calls Tryd.prog 35 #[.int .i64 a, .int .i64 b, .int .i64 c] w fun e w' => e = .returned (.bool (inR a b c)) ∧ w = w' := l1In_any a b c w

/-- the order of cells -/
def befB (a b : Cell) : Bool := decide (a.y < b.y) || (decide (a.y = b.y) && decide (a.x < b.x))
def okC (c : Cell) : Bool := inR c.x 0 7 && inR c.y 0 7
def okAt (s : List Cell) (i : Nat) : Bool := match s[i]? with
  | none => true
  | some c => okC c && (decide (i = 0) || match s[i - 1]? with | some b => befB b c | none => true)
def isShape (s : List Cell) : Bool := (List.range s.length).all (okAt s) && inR s.length 1 8
theorem okAt_out {s : List Cell} {k : Nat} {d : Cell} (h : s[k]? = some d) (ho : okC d = false) : okAt s k = false := by simp [okAt, h, ho]
theorem okAt_first {s : List Cell} {d : Cell} (h : s[0]? = some d) (ho : okC d = true) : okAt s 0 = true := by simp [okAt, h, ho]
theorem okAt_next {s : List Cell} {j : Nat} {b d : Cell} (hb : s[j]? = some b) (h : s[j + 1]? = some d) (ho : okC d = true) : okAt s (j + 1) = befB b d := by simp [okAt, h, hb, ho]
theorem isShape_no {s : List Cell} {i : Nat} (hi : i < s.length) (h : okAt s i = false) : isShape s = false := by
  unfold isShape
  rw [Bool.and_eq_false_iff]
  left
  rw [List.all_eq_false]
  exact ⟨i, List.mem_range.2 hi, by rw [h]; exact Bool.false_ne_true⟩
theorem isShape_end {s : List Cell} (h : ∀ i, i < s.length → okAt s i = true) : isShape s = inR s.length 1 8 := by
  unfold isShape
  rw [show (List.range s.length).all (okAt s) = true from List.all_eq_true.2 fun i hi => h i (List.mem_range.1 hi), Bool.true_and]

end Go.Proofs.YtoccedebiacbiaaDoor

namespace Go.Proofs.YtoccedebiacbiaaDoor
open Go.RowKit

set_option maxRecDepth 100000 in
set_option maxHeartbeats 1600000 in
theorem spec_has2_c {v : Value} {l : List Cell} (x y : Int) (w : World) (h : CellsRd w 0 w.heap.size v l) (hl : l.length ≤ 1000000) :
    Calls Tryd.prog 39 #[v, .int .i64 x, .int .i64 y] w fun e w' => e = .returned (.bool (decide ((⟨x, y⟩ : Cell) ∈ l))) ∧ w = w' := by
  obtain ⟨A, c, rfl, hm, hr⟩ := h
  obtain ⟨R, hR⟩ : ∃ R, R = decide ((⟨x, y⟩ : Cell) ∈ l) := ⟨_, rfl⟩
  rw [← hR]
  have hyes : ∀ (k : Nat) (d : Cell), l[k]? = some d → d.x = x → d.y = y → R = true := fun k d hd h1 h2 => by
    rw [hR]
    exact decide_eq_true (by rw [← h1, ← h2]; exact List.mem_of_getElem? hd)
  have hno : (∀ (k : Nat) (d : Cell), k < l.length → l[k]? = some d → ¬ (d.x = x ∧ d.y = y)) → R = false := fun h => by
    rw [hR]
    refine decide_eq_false fun hm => ?_
    obtain ⟨k, hk, e⟩ := List.getElem_of_mem hm
    exact h k ⟨x, y⟩ hk (by rw [List.getElem?_eq_getElem hk, e]) ⟨rfl, rfl⟩
  have HY := Lib.hid hyes
  have HN := Lib.hid hno
  clear hR hyes hno
  go_enter Tryd.func39, Tryd.ntmps39
  go_wp2
  go_loopw [7] (fun i wr => ∃ k : Nat, k ≤ l.length ∧ i = .int .i64 k ∧ wr = w ∧ Hid (∀ (j : Nat) (d : Cell), j < k → l[j]? = some d → ¬ (d.x = x ∧ d.y = y))) (fun i _ => l.length - (intOf i).toNat)
  case atStart => exact ⟨0, Nat.zero_le _, rfl, rfl, Lib.hid fun j d h => absurd h (by omega)⟩
  case round =>
    obtain ⟨k, hk, rfl, rfl, HA⟩ := hrel
    by_cases hlt : k < l.length
    · obtain ⟨b, off, d, rfl, _, hb, hd, q1, q2⟩ := hr.at2 hlt
      have HD := Lib.hid hd
      clear hr hd
      by_cases hx : d.x = x
      · by_cases hy : d.y = y
        · have := HY.out k d HD.out hx hy
          subst this
          subst hx
          subst hy
          go_wp2
          go_ret
          exact ⟨rfl, rfl⟩
        · subst hx
          go_wp2
          go_roundw
          case rel => exact ⟨k + 1, by omega, by go_num, trivial, Lib.hid fun j d' hj hd' => by
            by_cases e : j = k
            · subst e; rw [HD.out] at hd'; injection hd' with hd'; subst hd'; exact fun h => hy h.2
            · exact HA.out j d' (by omega) hd'⟩
          case measure => simp [intOf]; omega
      · go_wp2
        go_roundw
        case rel => exact ⟨k + 1, by omega, by go_num, trivial, Lib.hid fun j d' hj hd' => by
          by_cases e : j = k
          · subst e; rw [HD.out] at hd'; injection hd' with hd'; subst hd'; exact fun h => hx h.1
          · exact HA.out j d' (by omega) hd'⟩
        case measure => simp [intOf]; omega
    · have hkn : k = l.length := by omega
      subst hkn
      have := HN.out HA.out
      subst this
      go_wp2
      go_ret
      exact ⟨rfl, rfl⟩

end Go.Proofs.YtoccedebiacbiaaDoor

namespace Go.Proofs.YtoccedebiacbiaaDoor
open Go.RowKit

def sideB (a b : Cell) : Bool := decide ((a.x - b.x) * (a.x - b.x) + (a.y - b.y) * (a.y - b.y) = 1)
def On (c : Cell) : Prop := (0 ≤ c.x ∧ c.x ≤ 7) ∧ (0 ≤ c.y ∧ c.y ≤ 7)
def mx2 (a b : Int) : Int := if a < b then b else a
theorem sq_table : ∀ i j : Fin 15, (((i.val : Int) - 7) * ((i.val : Int) - 7) + ((j.val : Int) - 7) * ((j.val : Int) - 7) = 1 ↔ mx2 ((i.val : Int) - 7) (7 - (i.val : Int)) + mx2 ((j.val : Int) - 7) (7 - (j.val : Int)) = 1) ∧
    0 ≤ ((i.val : Int) - 7) * ((i.val : Int) - 7) ∧ ((i.val : Int) - 7) * ((i.val : Int) - 7) ≤ 49 := by decide
theorem sq_one {x y : Int} (h1 : -7 ≤ x) (h2 : x ≤ 7) (h3 : -7 ≤ y) (h4 : y ≤ 7) : (x * x + y * y = 1 ↔ mx2 x (-x) + mx2 y (-y) = 1) ∧ 0 ≤ x * x ∧ x * x ≤ 49 := by
  have h := sq_table ⟨(x + 7).toNat, by omega⟩ ⟨(y + 7).toNat, by omega⟩
  have e1 : (((x + 7).toNat : Nat) : Int) - 7 = x := by omega
  have e2 : (((y + 7).toNat : Nat) : Int) - 7 = y := by omega
  have e3 : 7 - (((x + 7).toNat : Nat) : Int) = -x := by omega
  have e4 : 7 - (((y + 7).toNat : Nat) : Int) = -y := by omega
  simp only [e1, e2, e3, e4] at h
  exact h

set_option maxRecDepth 100000 in
set_option maxHeartbeats 800000 in
theorem near_sq_c (a b : Cell) (w : World) (ha : On a) (hb : On b) :
    Calls Tryd.prog 38 #[.agg #[.int .i64 a.x, .int .i64 a.y], .agg #[.int .i64 b.x, .int .i64 b.y]] w fun e w' => e = .returned (.bool (sideB a b)) ∧ Below w.heap.size w w' := by
  obtain ⟨⟨a1, a2⟩, a3, a4⟩ := ha
  obtain ⟨⟨b1, b2⟩, b3, b4⟩ := hb
  obtain ⟨dx, hx⟩ : ∃ dx, a.x - b.x = dx := ⟨_, rfl⟩
  obtain ⟨dy, hy⟩ : ∃ dy, a.y - b.y = dy := ⟨_, rfl⟩
  obtain ⟨_, x0, x1⟩ := sq_one (x := dx) (y := dy) (by omega) (by omega) (by omega) (by omega)
  obtain ⟨_, y0, y1⟩ := sq_one (x := dy) (y := dx) (by omega) (by omega) (by omega) (by omega)
  obtain ⟨R, hR⟩ : ∃ R, R = sideB a b := ⟨_, rfl⟩
  rw [← hR]
  unfold sideB at hR
  rw [hx, hy] at hR
  obtain ⟨mx, hmx⟩ : ∃ mx, dx * dx = mx := ⟨_, rfl⟩
  obtain ⟨my, hmy⟩ : ∃ my, dy * dy = my := ⟨_, rfl⟩
  rw [hmx] at x0 x1
  rw [hmy] at y0 y1
  rw [hmx, hmy] at hR
  have HR := Lib.hid hR
  have d1 : -7 ≤ dx := by omega
  have d2 : dx ≤ 7 := by omega
  have d3 : -7 ≤ dy := by omega
  have d4 : dy ≤ 7 := by omega
  clear hR
  by_cases h1 : mx + my = 1
  · obtain rfl : R = true := by rw [HR.out]; exact decide_eq_true h1
    have e1 : (mx + my == 1) = true := by simpa using h1
    clear h1
    go_enter Tryd.func38, Tryd.ntmps38
    go_wp2
    go_ret
    exact ⟨rfl, (((Below.refl _ _).alloc (Nat.le_refl _) _).alloc (by simp) _)⟩
  · obtain rfl : R = false := by rw [HR.out]; exact decide_eq_false h1
    have e1 : (mx + my == 1) = false := by simpa using h1
    clear h1
    go_enter Tryd.func38, Tryd.ntmps38
    go_wp2
    go_ret
    exact ⟨rfl, (((Below.refl _ _).alloc (Nat.le_refl _) _).alloc (by simp) _)⟩

end Go.Proofs.YtoccedebiacbiaaDoor

namespace Go.Proofs.YtoccedebiacbiaaDoor
open Go.RowKit

noncomputable def cdec (p : Prop) : Bool := @decide p (Classical.propDecidable p)
theorem cdec_t {p : Prop} (h : p) : cdec p = true := @decide_eq_true _ (Classical.propDecidable _) h
theorem cdec_f {p : Prop} (h : ¬ p) : cdec p = false := @decide_eq_false _ (Classical.propDecidable _) h
theorem cdec_eq {p : Prop} {b : Bool} (h : p ↔ b = true) : cdec p = b := by
  cases b
  · exact cdec_f fun hp => by have := h.1 hp; cases this
  · exact cdec_t (h.2 rfl)
/-- reached from a within s, side by side -/
inductive Hang (s : List Cell) (a : Cell) : Cell → Prop where
  | base : Hang s a a
  | step {b c : Cell} : Hang s a b → c ∈ s → sideB b c = true → Hang s a c
noncomputable def hangs (s : List Cell) : Bool := match s[0]? with
  | some a => cdec (∀ c ∈ s, Hang s a c)
  | none => false
theorem hangs_eq {s : List Cell} {a : Cell} {b : Bool} (ha : s[0]? = some a) (h : (∀ c ∈ s, Hang s a c) ↔ b = true) : hangs s = b := by
  unfold hangs
  rw [ha]
  exact cdec_eq h
theorem nodup_len {α : Type} [DecidableEq α] {l G : List α} (h : l.Nodup) (hs : ∀ a ∈ l, a ∈ G) : l.length ≤ G.length := by
  induction l generalizing G with
  | nil => simp
  | cons a l ih =>
    rw [List.nodup_cons] at h
    have hm := hs a (by simp)
    have := ih (G := G.erase a) h.2 (fun b hb => (List.mem_erase_of_ne (fun e => h.1 (by rw [← e]; exact hb))).2 (hs b (by simp [hb])))
    rw [List.length_erase_of_mem hm] at this
    have hp : 0 < G.length := List.length_pos_of_mem hm
    simp
    omega
theorem nodup_all {α : Type} [DecidableEq α] {l G : List α} (h : l.Nodup) (hs : ∀ a ∈ l, a ∈ G) (he : G.length ≤ l.length) : ∀ a ∈ G, a ∈ l := by
  intro a ha
  rcases Classical.em (a ∈ l) with hm | hm
  · exact hm
  · have := nodup_len (l := a :: l) (G := G) (List.nodup_cons.2 ⟨hm, h⟩) (fun b hb => by
      rcases List.mem_cons.1 hb with rfl | hb
      · exact ha
      · exact hs b hb)
    simp at this
    omega
theorem bef_trans {a b c : Cell} (h1 : befB a b = true) (h2 : befB b c = true) : befB a c = true := by
  simp only [befB, Bool.or_eq_true, Bool.and_eq_true, decide_eq_true_eq] at *
  omega
theorem bef_irr {a : Cell} : befB a a = false := by simp [befB]
theorem shp_at {s : List Cell} (h : isShape s = true) {i : Nat} (hi : i < s.length) : okAt s i = true := by
  unfold isShape at h
  rw [Bool.and_eq_true, List.all_eq_true] at h
  exact h.1 i (List.mem_range.2 hi)
theorem shp_len {s : List Cell} (h : isShape s = true) : 1 ≤ s.length ∧ s.length ≤ 8 := by
  unfold isShape at h
  rw [Bool.and_eq_true] at h
  have := inR_iff.1 h.2
  omega
theorem shp_on {s : List Cell} (h : isShape s = true) {c : Cell} (hc : c ∈ s) : On c := by
  obtain ⟨i, hi, rfl⟩ := List.getElem_of_mem hc
  have := shp_at h hi
  unfold okAt at this
  rw [List.getElem?_eq_getElem hi] at this
  simp only [Bool.and_eq_true] at this
  have h2 := this.1
  unfold okC at h2
  rw [Bool.and_eq_true] at h2
  exact ⟨inR_iff.1 h2.1, inR_iff.1 h2.2⟩
theorem shp_next {s : List Cell} (h : isShape s = true) {i : Nat} {b c : Cell} (hb : s[i]? = some b) (hc : s[i + 1]? = some c) : befB b c = true := by
  have hi : i + 1 < s.length := (List.getElem?_eq_some_iff.1 hc).1
  have h1 := shp_at h hi
  have ho : okC c = true := by
    have := h1
    unfold okAt at this
    rw [hc] at this
    simp only [Bool.and_eq_true] at this
    exact this.1
  rw [okAt_next hb hc ho] at h1
  exact h1
theorem shp_pair {s : List Cell} (h : isShape s = true) {i : Nat} {b : Cell} (hb : s[i]? = some b) : ∀ (j : Nat) {c : Cell}, i < j → s[j]? = some c → befB b c = true
  | 0, _, hj, _ => absurd hj (by omega)
  | j + 1, c, hj, hc => by
    have hlt : j + 1 < s.length := (List.getElem?_eq_some_iff.1 hc).1
    have hd : s[j]? = some s[j] := List.getElem?_eq_getElem (by omega)
    have hn := shp_next h hd hc
    by_cases e : i = j
    · subst e
      rw [hd] at hb
      injection hb with hb
      rw [← hb]
      exact hn
    · exact bef_trans (shp_pair h hb j (by omega) hd) hn
theorem shp_nodup {s : List Cell} (h : isShape s = true) : s.Nodup := by
  rw [List.nodup_iff_pairwise_ne, List.pairwise_iff_getElem]
  intro i j hi hj hij e
  have := shp_pair h (List.getElem?_eq_getElem hi) j hij (List.getElem?_eq_getElem hj)
  rw [e, bef_irr] at this
  cases this

/-- a search from a: all different, all reached -/
structure Sees (s : List Cell) (a : Cell) (S : List Cell) : Prop where
  nodup : S.Nodup
  sub : ∀ b ∈ S, b ∈ s
  reach : ∀ b ∈ S, Hang s a b
  mem : a ∈ S
theorem Sees.start {s : List Cell} {a : Cell} (ha : s[0]? = some a) : Sees s a [a] :=
  ⟨by simp, fun b hb => by simp at hb; subst hb; exact List.mem_of_getElem? ha, fun b hb => by simp at hb; subst hb; exact .base, by simp⟩
theorem Sees.add {s S : List Cell} {a b c : Cell} (h : Sees s a S) (hb : b ∈ S) (hc : c ∈ s) (hn : sideB b c = true) (hm : ¬ c ∈ S) : Sees s a (S ++ [c]) :=
  ⟨List.nodup_append.2 ⟨h.nodup, by simp, fun x hx y hy => by simp at hy; subst hy; exact fun e => hm (e ▸ hx)⟩,
   fun x hx => by
    rcases List.mem_append.1 hx with hx | hx
    · exact h.sub x hx
    · simp at hx; subst hx; exact hc,
   fun x hx => by
    rcases List.mem_append.1 hx with hx | hx
    · exact h.reach x hx
    · simp at hx; subst hx; exact .step (h.reach b hb) hc hn,
   List.mem_append.2 (.inl h.mem)⟩
theorem Sees.len {s S : List Cell} {a : Cell} (h : Sees s a S) : S.length ≤ s.length := nodup_len h.nodup h.sub
theorem Sees.end_ {s S : List Cell} {a : Cell} (h : Sees s a S) (hs : s.Nodup) (ha : s[0]? = some a) (hcl : ∀ (j : Nat) (b : Cell), S[j]? = some b → ∀ c ∈ s, sideB b c = true → c ∈ S) : hangs s = decide (S.length = s.length) := by
  refine hangs_eq ha ?_
  rw [decide_eq_true_eq]
  constructor
  · intro hall
    have hin : ∀ c, Hang s a c → c ∈ S := by
      intro c hc
      induction hc with
      | base => exact h.mem
      | step _ hcs hn ih =>
        obtain ⟨j, hj, e⟩ := List.getElem_of_mem ih
        exact hcl j _ (by rw [List.getElem?_eq_getElem hj, e]) _ hcs hn
    have h1 := h.len
    have h2 := nodup_len hs (fun c hc => hin c (hall c hc))
    omega
  · intro he c hc
    exact h.reach c (nodup_all h.nodup h.sub (by omega) c hc)
end Go.Proofs.YtoccedebiacbiaaDoor

namespace Go.Proofs.YtoccedebiacbiaaDoor
open Go.RowKit

noncomputable def connS (s : List Cell) : Bool := isShape s && hangs s
set_option maxRecDepth 100000 in
theorem infoCellS : (Tryd.prog.info? 52).map (fun i => (i.zero, i.size, i.bytes)) = some (some (.agg #[.int .i64 0, .int .i64 0]), 2, 16) := by kernel_rfl
theorem row_at2 {w : World} {e : TypeId} {b off c n : Nat} {l : List Cell} (h : w.ownsRow 0 e 2 (.slice (some ⟨b, off, none⟩) n c) n (cc l)) {k : Nat} {u : Cell} (hk : l[k]? = some u) :
    w.cell? ⟨b, off + k * 2, none⟩ = some (.int .i64 u.x) ∧ w.cell? ⟨b, off + k * 2 + 1, none⟩ = some (.int .i64 u.y) := own_cell2 h hk
theorem Sep.cellsRd {w0 w : World} {L : List Res} {v : Value} {e : TypeId} {l : List Cell} (h : Sep w0 w (Res.row v e 2 l.length (cc l) :: L)) (hm : l.length ≤ 1000000) : CellsRd w 0 w.heap.size v l := by
  obtain ⟨A, c, rfl, h1, h2, hr⟩ := h.oi.rd
  exact ⟨A, c, rfl, by unfold maxLen; omega, hr.more (Nat.zero_le _) (Nat.le_refl _)⟩

end Go.Proofs.YtoccedebiacbiaaDoor

namespace Go.Proofs.YtoccedebiacbiaaDoor
open Go.RowKit

/-- the least of the first k -/
def mnTo (f : Cell → Int) (l : List Cell) : Nat → Int
  | 0 => 0
  | k + 1 => match l[k]? with
    | some c => if k = 0 then f c else if f c < mnTo f l k then f c else mnTo f l k
    | none => mnTo f l k
theorem mnTo_first {f : Cell → Int} {l : List Cell} {c : Cell} (h : l[0]? = some c) : mnTo f l 1 = f c := by simp [mnTo, h]
theorem mnTo_one {f : Cell → Int} {l : List Cell} {k : Nat} {c : Cell} (h : l[k]? = some c) (hk : k = 0) : mnTo f l (k + 1) = f c := by subst hk; exact mnTo_first h
theorem mnTo_next {f : Cell → Int} {l : List Cell} {k : Nat} {c : Cell} (h : l[k]? = some c) (hk : k ≠ 0) : mnTo f l (k + 1) = if f c < mnTo f l k then f c else mnTo f l k := by simp [mnTo, h, hk]
theorem mnTo_le {f : Cell → Int} {l : List Cell} : ∀ (k : Nat), k ≤ l.length → ∀ (j : Nat) (c : Cell), j < k → l[j]? = some c → mnTo f l k ≤ f c
  | 0, _, j, _, hj, _ => absurd hj (by omega)
  | k + 1, hk, j, c, hj, hc => by
    have hd : l[k]? = some l[k] := List.getElem?_eq_getElem (by omega)
    by_cases e0 : k = 0
    · subst e0
      obtain rfl : j = 0 := by omega
      rw [mnTo_first hc]; exact Int.le_refl _
    · rw [mnTo_next hd e0]
      by_cases e : j = k
      · subst e
        rw [hd] at hc
        injection hc with hc
        subst hc
        split <;> omega
      · have := mnTo_le (f := f) k (by omega) j c (by omega) hc
        split <;> omega
theorem mnTo_mem {f : Cell → Int} {l : List Cell} : ∀ (k : Nat), 0 < k → k ≤ l.length → ∃ c ∈ l, mnTo f l k = f c
  | k + 1, _, hk => by
    have hd : l[k]? = some l[k] := List.getElem?_eq_getElem (by omega)
    by_cases e0 : k = 0
    · subst e0
      exact ⟨_, List.mem_of_getElem? hd, mnTo_first hd⟩
    · rw [mnTo_next hd e0]
      split
      · exact ⟨_, List.mem_of_getElem? hd, rfl⟩
      · exact mnTo_mem k (by omega) (by omega)
def minX (l : List Cell) : Int := mnTo (·.x) l l.length
def minY (l : List Cell) : Int := mnTo (·.y) l l.length
def shift (l : List Cell) (x y : Int) : List Cell := l.map fun c => ⟨c.x - x, c.y - y⟩
def corner (l : List Cell) : List Cell := shift l (minX l) (minY l)
theorem shift_length {l : List Cell} {x y : Int} : (shift l x y).length = l.length := by simp [shift]
theorem shift_take {l : List Cell} {x y : Int} {k : Nat} {c : Cell} (h : l[k]? = some c) : shift (l.take (k + 1)) x y = shift (l.take k) x y ++ [⟨c.x - x, c.y - y⟩] := by
  obtain ⟨hk, rfl⟩ := List.getElem?_eq_some_iff.1 h
  unfold shift
  rw [List.take_succ_eq_append_getElem hk, List.map_append]
  rfl
theorem mem_shift {l : List Cell} {x y : Int} {c : Cell} : c ∈ shift l x y ↔ (⟨c.x + x, c.y + y⟩ : Cell) ∈ l := by
  unfold shift
  rw [List.mem_map]
  constructor
  · rintro ⟨d, hd, rfl⟩
    have e : (⟨d.x - x + x, d.y - y + y⟩ : Cell) = d := by cases d; simp
    rw [e]; exact hd
  · intro h
    exact ⟨_, h, by cases c; simp⟩
/-- the greatest of the first k, and 0 -/
def mxTo (f : Cell → Int) (l : List Cell) : Nat → Int
  | 0 => 0
  | k + 1 => match l[k]? with
    | some c => if mxTo f l k < f c + 1 then f c + 1 else mxTo f l k
    | none => mxTo f l k
theorem mxTo_next {f : Cell → Int} {l : List Cell} {k : Nat} {c : Cell} (h : l[k]? = some c) : mxTo f l (k + 1) = if mxTo f l k < f c + 1 then f c + 1 else mxTo f l k := by simp [mxTo, h]
theorem mxTo_ge {f : Cell → Int} {l : List Cell} : ∀ (k : Nat), k ≤ l.length → ∀ (j : Nat) (c : Cell), j < k → l[j]? = some c → f c + 1 ≤ mxTo f l k
  | 0, _, j, _, hj, _ => absurd hj (by omega)
  | k + 1, hk, j, c, hj, hc => by
    have hd : l[k]? = some l[k] := List.getElem?_eq_getElem (by omega)
    rw [mxTo_next hd]
    by_cases e : j = k
    · subst e
      rw [hd] at hc
      injection hc with hc
      subst hc
      split <;> omega
    · have := mxTo_ge (f := f) k (by omega) j c (by omega) hc
      split <;> omega
theorem mxTo_le {f : Cell → Int} {l : List Cell} {m : Int} (h : ∀ c ∈ l, f c + 1 ≤ m) (h0 : 0 ≤ m) : ∀ (k : Nat), k ≤ l.length → 0 ≤ mxTo f l k ∧ mxTo f l k ≤ m
  | 0, _ => ⟨Int.le_refl _, h0⟩
  | k + 1, hk => by
    have hd : l[k]? = some l[k] := List.getElem?_eq_getElem (by omega)
    have := mxTo_le h h0 k (by omega)
    have h1 := h _ (List.mem_of_getElem? hd)
    rw [mxTo_next hd]
    split <;> omega
def wdOf (l : List Cell) : Int := mxTo (·.x) (corner l) (corner l).length
def htOf (l : List Cell) : Int := mxTo (·.y) (corner l) (corner l).length
theorem minX_le {s : List Cell} {c : Cell} (h : c ∈ s) : minX s ≤ c.x := by
  obtain ⟨j, hj, e⟩ := List.getElem_of_mem h
  exact mnTo_le (f := (·.x)) s.length (Nat.le_refl _) j c hj (by rw [List.getElem?_eq_getElem hj, e])
theorem minY_le {s : List Cell} {c : Cell} (h : c ∈ s) : minY s ≤ c.y := by
  obtain ⟨j, hj, e⟩ := List.getElem_of_mem h
  exact mnTo_le (f := (·.y)) s.length (Nat.le_refl _) j c hj (by rw [List.getElem?_eq_getElem hj, e])
theorem corner_ge {s : List Cell} {c : Cell} (h : c ∈ corner s) : 0 ≤ c.x ∧ 0 ≤ c.y := by
  have := mem_shift.1 h
  have h1 := minX_le this
  have h2 := minY_le this
  simp only at h1 h2
  omega
theorem corner_lt {s : List Cell} {c : Cell} (h : c ∈ corner s) : c.x < wdOf s ∧ c.y < htOf s := by
  obtain ⟨j, hj, e⟩ := List.getElem_of_mem h
  have h1 := mxTo_ge (f := (·.x)) (l := corner s) _ (Nat.le_refl _) j c hj (by rw [List.getElem?_eq_getElem hj, e])
  have h2 := mxTo_ge (f := (·.y)) (l := corner s) _ (Nat.le_refl _) j c hj (by rw [List.getElem?_eq_getElem hj, e])
  unfold wdOf htOf
  omega
theorem shp_min {s : List Cell} (h : isShape s = true) : (0 ≤ minX s ∧ minX s ≤ 7) ∧ (0 ≤ minY s ∧ minY s ≤ 7) := by
  obtain ⟨hl, _⟩ := shp_len h
  obtain ⟨c, hc, e⟩ := mnTo_mem (f := (·.x)) (l := s) s.length (by omega) (Nat.le_refl _)
  obtain ⟨d, hd, e'⟩ := mnTo_mem (f := (·.y)) (l := s) s.length (by omega) (Nat.le_refl _)
  have h1 := (shp_on h hc).1
  have h2 := (shp_on h hd).2
  unfold minX minY
  rw [e, e']
  exact ⟨h1, h2⟩
theorem shp_size {s : List Cell} (h : isShape s = true) : (1 ≤ wdOf s ∧ minX s + wdOf s ≤ 8) ∧ (1 ≤ htOf s ∧ minY s + htOf s ≤ 8) := by
  obtain ⟨hl, _⟩ := shp_len h
  obtain ⟨⟨m1, m2⟩, m3, m4⟩ := shp_min h
  have hin : ∀ c ∈ corner s, c.x + 1 ≤ 8 - minX s ∧ c.y + 1 ≤ 8 - minY s := fun c hc => by
    have h1 := shp_on h (mem_shift.1 hc)
    unfold On at h1
    simp only at h1
    omega
  have h1 := (mxTo_le (f := (·.x)) (fun c hc => (hin c hc).1) (by omega) (corner s).length (Nat.le_refl _)).2
  have h2 := (mxTo_le (f := (·.y)) (fun c hc => (hin c hc).2) (by omega) (corner s).length (Nat.le_refl _)).2
  have hc0 : (corner s)[0]'(by unfold corner; rw [shift_length]; omega) ∈ corner s := List.getElem_mem _
  have h3 := corner_ge hc0
  have h4 := corner_lt hc0
  unfold wdOf htOf at *
  omega
theorem corner_on {s : List Cell} (h : isShape s = true) {c : Cell} (hc : c ∈ corner s) : On c := by
  have h1 := corner_ge hc
  have h2 := corner_lt hc
  have h3 := shp_size h
  have h4 := shp_min h
  unfold On
  omega

def Sml (b : Int) (c : Cell) : Prop := (-b ≤ c.x ∧ c.x ≤ b) ∧ (-b ≤ c.y ∧ c.y ≤ b)
theorem sml_min {s : List Cell} {b : Int} (h : ∀ c ∈ s, Sml b c) (h1 : 1 ≤ s.length) : (-b ≤ minX s ∧ minX s ≤ b) ∧ (-b ≤ minY s ∧ minY s ≤ b) := by
  obtain ⟨c, hc, hx⟩ := mnTo_mem (f := (·.x)) (l := s) s.length h1 (Nat.le_refl _)
  obtain ⟨d, hd, hy⟩ := mnTo_mem (f := (·.y)) (l := s) s.length h1 (Nat.le_refl _)
  have h2 := h c hc
  have h3 := h d hd
  unfold minX minY
  rw [hx, hy]
  exact ⟨h2.1, h3.2⟩
end Go.Proofs.YtoccedebiacbiaaDoor
