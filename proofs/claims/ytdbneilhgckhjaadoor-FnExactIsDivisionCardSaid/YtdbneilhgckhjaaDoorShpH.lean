
/-
  Shapes in their corner: plain Lean; the walks of the reference's 'CornerShape' and 'SizeOf'.
-/
import Derived.Test.YtdbneilhgckhjaaDoorShpE
import Derived.Deep.DeepCutAuto
namespace Go.Proofs.YtdbneilhgckhjaaDoor
open Go.RowKit

/-- the least of the first k -/
def mnTo (f : Cell → Int) (l : List Cell) : Nat → Int
  | 0 => 0
  | k + 1 => match l[k]? with
    | some c => if k = 0 then f c else if f c < mnTo f l k then f c else mnTo f l k
    | none => mnTo f l k
theorem mnTo_first {f : Cell → Int} {l : List Cell} {c : Cell} (h : l[0]? = some c) : mnTo f l 1 = f c := by simp [mnTo, h]
theorem mnTo_one {f : Cell → Int} {l : List Cell} {k : Nat} {c : Cell} (h : l[k]? = some c) (hk : k = 0) : mnTo f l (k + 1) = f c := by subst hk; exact mnTo_first h
theorem mnTo_next {f : Cell → Int} {l : List Cell} {k : Nat} {c : Cell} (h : l[k]? = some c) (hk : k ≠ 0) : mnTo f l (k + 1) = if f c < mnTo f l k then f c else mnTo f l k := by simp [mnTo, h, hk]
theorem mnTo_le {f : Cell → Int} {l : List Cell} : ∀ (k : Nat), k ≤ l.length → ∀ (j : Nat) (c : Cell), j < k → l[j]? = some c → mnTo f l k ≤ f c
  | 0, _, j, _, hj, _ => absurd hj (by omega)
  | k + 1, hk, j, c, hj, hc => by
    have hd : l[k]? = some l[k] := List.getElem?_eq_getElem (by omega)
    by_cases e0 : k = 0
    · subst e0
      obtain rfl : j = 0 := by omega
      rw [mnTo_first hc]; exact Int.le_refl _
    · rw [mnTo_next hd e0]
      by_cases e : j = k
      · subst e
        rw [hd] at hc
        injection hc with hc
        subst hc
        split <;> omega
      · have := mnTo_le (f := f) k (by omega) j c (by omega) hc
        split <;> omega
theorem mnTo_mem {f : Cell → Int} {l : List Cell} : ∀ (k : Nat), 0 < k → k ≤ l.length → ∃ c ∈ l, mnTo f l k = f c
  | k + 1, _, hk => by
    have hd : l[k]? = some l[k] := List.getElem?_eq_getElem (by omega)
    by_cases e0 : k = 0
    · subst e0
      exact ⟨_, List.mem_of_getElem? hd, mnTo_first hd⟩
    · rw [mnTo_next hd e0]
      split
      · exact ⟨_, List.mem_of_getElem? hd, rfl⟩
      · exact mnTo_mem k (by omega) (by omega)
def minX (l : List Cell) : Int := mnTo (·.x) l l.length
def minY (l : List Cell) : Int := mnTo (·.y) l l.length
def shift (l : List Cell) (x y : Int) : List Cell := l.map fun c => ⟨c.x - x, c.y - y⟩
def corner (l : List Cell) : List Cell := shift l (minX l) (minY l)
theorem shift_length {l : List Cell} {x y : Int} : (shift l x y).length = l.length := by simp [shift]
theorem shift_take {l : List Cell} {x y : Int} {k : Nat} {c : Cell} (h : l[k]? = some c) : shift (l.take (k + 1)) x y = shift (l.take k) x y ++ [⟨c.x - x, c.y - y⟩] := by
  obtain ⟨hk, rfl⟩ := List.getElem?_eq_some_iff.1 h
  unfold shift
  rw [List.take_succ_eq_append_getElem hk, List.map_append]
  rfl
theorem mem_shift {l : List Cell} {x y : Int} {c : Cell} : c ∈ shift l x y ↔ (⟨c.x + x, c.y + y⟩ : Cell) ∈ l := by
  unfold shift
  rw [List.mem_map]
  constructor
  · rintro ⟨d, hd, rfl⟩
    have e : (⟨d.x - x + x, d.y - y + y⟩ : Cell) = d := by cases d; simp
    rw [e]; exact hd
  · intro h
    exact ⟨_, h, by cases c; simp⟩
/-- the greatest of the first k, and 0 -/
def mxTo (f : Cell → Int) (l : List Cell) : Nat → Int
  | 0 => 0
  | k + 1 => match l[k]? with
    | some c => if mxTo f l k < f c + 1 then f c + 1 else mxTo f l k
    | none => mxTo f l k
theorem mxTo_next {f : Cell → Int} {l : List Cell} {k : Nat} {c : Cell} (h : l[k]? = some c) : mxTo f l (k + 1) = if mxTo f l k < f c + 1 then f c + 1 else mxTo f l k := by simp [mxTo, h]
theorem mxTo_ge {f : Cell → Int} {l : List Cell} : ∀ (k : Nat), k ≤ l.length → ∀ (j : Nat) (c : Cell), j < k → l[j]? = some c → f c + 1 ≤ mxTo f l k
  | 0, _, j, _, hj, _ => absurd hj (by omega)
  | k + 1, hk, j, c, hj, hc => by
    have hd : l[k]? = some l[k] := List.getElem?_eq_getElem (by omega)
    rw [mxTo_next hd]
    by_cases e : j = k
    · subst e
      rw [hd] at hc
      injection hc with hc
      subst hc
      split <;> omega
    · have := mxTo_ge (f := f) k (by omega) j c (by omega) hc
      split <;> omega
theorem mxTo_le {f : Cell → Int} {l : List Cell} {m : Int} (h : ∀ c ∈ l, f c + 1 ≤ m) (h0 : 0 ≤ m) : ∀ (k : Nat), k ≤ l.length → 0 ≤ mxTo f l k ∧ mxTo f l k ≤ m
  | 0, _ => ⟨Int.le_refl _, h0⟩
  | k + 1, hk => by
    have hd : l[k]? = some l[k] := List.getElem?_eq_getElem (by omega)
    have := mxTo_le h h0 k (by omega)
    have h1 := h _ (List.mem_of_getElem? hd)
    rw [mxTo_next hd]
    split <;> omega
def wdOf (l : List Cell) : Int := mxTo (·.x) (corner l) (corner l).length
def htOf (l : List Cell) : Int := mxTo (·.y) (corner l) (corner l).length
theorem minX_le {s : List Cell} {c : Cell} (h : c ∈ s) : minX s ≤ c.x := by
  obtain ⟨j, hj, e⟩ := List.getElem_of_mem h
  exact mnTo_le (f := (·.x)) s.length (Nat.le_refl _) j c hj (by rw [List.getElem?_eq_getElem hj, e])
theorem minY_le {s : List Cell} {c : Cell} (h : c ∈ s) : minY s ≤ c.y := by
  obtain ⟨j, hj, e⟩ := List.getElem_of_mem h
  exact mnTo_le (f := (·.y)) s.length (Nat.le_refl _) j c hj (by rw [List.getElem?_eq_getElem hj, e])
theorem corner_ge {s : List Cell} {c : Cell} (h : c ∈ corner s) : 0 ≤ c.x ∧ 0 ≤ c.y := by
  have := mem_shift.1 h
  have h1 := minX_le this
  have h2 := minY_le this
  simp only at h1 h2
  omega
theorem corner_lt {s : List Cell} {c : Cell} (h : c ∈ corner s) : c.x < wdOf s ∧ c.y < htOf s := by
  obtain ⟨j, hj, e⟩ := List.getElem_of_mem h
  have h1 := mxTo_ge (f := (·.x)) (l := corner s) _ (Nat.le_refl _) j c hj (by rw [List.getElem?_eq_getElem hj, e])
  have h2 := mxTo_ge (f := (·.y)) (l := corner s) _ (Nat.le_refl _) j c hj (by rw [List.getElem?_eq_getElem hj, e])
  unfold wdOf htOf
  omega
theorem shp_min {s : List Cell} (h : isShape s = true) : (0 ≤ minX s ∧ minX s ≤ 7) ∧ (0 ≤ minY s ∧ minY s ≤ 7) := by
  obtain ⟨hl, _⟩ := shp_len h
  obtain ⟨c, hc, e⟩ := mnTo_mem (f := (·.x)) (l := s) s.length (by omega) (Nat.le_refl _)
  obtain ⟨d, hd, e'⟩ := mnTo_mem (f := (·.y)) (l := s) s.length (by omega) (Nat.le_refl _)
  have h1 := (shp_on h hc).1
  have h2 := (shp_on h hd).2
  unfold minX minY
  rw [e, e']
  exact ⟨h1, h2⟩
theorem shp_size {s : List Cell} (h : isShape s = true) : (1 ≤ wdOf s ∧ minX s + wdOf s ≤ 8) ∧ (1 ≤ htOf s ∧ minY s + htOf s ≤ 8) := by
  obtain ⟨hl, _⟩ := shp_len h
  obtain ⟨⟨m1, m2⟩, m3, m4⟩ := shp_min h
  have hin : ∀ c ∈ corner s, c.x + 1 ≤ 8 - minX s ∧ c.y + 1 ≤ 8 - minY s := fun c hc => by
    have h1 := shp_on h (mem_shift.1 hc)
    unfold On at h1
    simp only at h1
    omega
  have h1 := (mxTo_le (f := (·.x)) (fun c hc => (hin c hc).1) (by omega) (corner s).length (Nat.le_refl _)).2
  have h2 := (mxTo_le (f := (·.y)) (fun c hc => (hin c hc).2) (by omega) (corner s).length (Nat.le_refl _)).2
  have hc0 : (corner s)[0]'(by unfold corner; rw [shift_length]; omega) ∈ corner s := List.getElem_mem _
  have h3 := corner_ge hc0
  have h4 := corner_lt hc0
  unfold wdOf htOf at *
  omega
theorem corner_on {s : List Cell} (h : isShape s = true) {c : Cell} (hc : c ∈ corner s) : On c := by
  have h1 := corner_ge hc
  have h2 := corner_lt hc
  have h3 := shp_size h
  have h4 := shp_min h
  unfold On
  omega

def Sml (b : Int) (c : Cell) : Prop := (-b ≤ c.x ∧ c.x ≤ b) ∧ (-b ≤ c.y ∧ c.y ≤ b)
theorem sml_min {s : List Cell} {b : Int} (h : ∀ c ∈ s, Sml b c) (h1 : 1 ≤ s.length) : (-b ≤ minX s ∧ minX s ≤ b) ∧ (-b ≤ minY s ∧ minY s ≤ b) := by
  obtain ⟨c, hc, hx⟩ := mnTo_mem (f := (·.x)) (l := s) s.length h1 (Nat.le_refl _)
  obtain ⟨d, hd, hy⟩ := mnTo_mem (f := (·.y)) (l := s) s.length h1 (Nat.le_refl _)
  have h2 := h c hc
  have h3 := h d hd
  unfold minX minY
  rw [hx, hy]
  exact ⟨h2.1, h3.2⟩
set_option maxRecDepth 100000 in
set_option maxHeartbeats 3200000 in
theorem l2CornerB_c {v : Value} {l : List Cell} (w : World) (h : CellsRd w 0 w.heap.size v l) (hl1 : 1 ≤ l.length) (hl8 : l.length ≤ 64) (hsm : ∀ c ∈ l, Sml 100 c) :
    Calls Tryd.prog 138 #[v] w fun e w' => ∃ v', e = .returned v' ∧ CellsIn w' w.heap.size w'.heap.size v' (corner l) ∧ Below w.heap.size w w' := by
  obtain ⟨i0, hi, hz0, hz1, hz2⟩ := info_parts infoCellS
  obtain ⟨A, c, rfl, hm, hr⟩ := h
  have HON := Lib.hid hsm
  obtain ⟨b, off, hA, _, hb, hc⟩ := hr.2 (by omega)
  subst hA
  have HCE := Lib.hid hc
  have H0 := (Sep.start w).rowBox 73 #[] 2 0 rfl (by decide)
  clear hr hm hc hsm
  go_enter Tryd.func138, Tryd.ntmps138
  go_wp2
  generalize hW : w.alloc (.cells #[] 73) = W at *
  clear hW
  go_loopw [4, 5, 6] (fun xv yv i wr => ∃ k : Nat, k ≤ l.length ∧ i = .int .i64 k ∧ xv = .int .i64 (mnTo (·.x) l k) ∧ yv = .int .i64 (mnTo (·.y) l k) ∧ W = wr) (fun _ _ i _ => l.length - (intOf i).toNat)
  case atStart => exact ⟨0, Nat.zero_le _, rfl, rfl, rfl, rfl⟩
  case round =>
    obtain ⟨k, hk, rfl, rfl, rfl, rfl⟩ := hrel
    by_cases hlt : k < l.length
    · obtain ⟨d, hla⟩ : ∃ d, l[k]? = some d := ⟨l[k], List.getElem?_eq_getElem hlt⟩
      have HL := Lib.hid hla
      have hbw : Below w.heap.size w W := H0.below
      have q1 := (hbw.cell (p := ⟨b, off + k * 2, none⟩) hb).trans (HCE.out _ _ (cc_at hla).1)
      have q2 : W.cell? ⟨b, off + k * 2 + 1, none⟩ = some (.int .i64 d.y) := (hbw.cell (p := ⟨b, off + k * 2 + 1, none⟩) hb).trans (by rw [Nat.add_assoc]; exact HCE.out _ _ (cc_at hla).2)
      clear hla
      by_cases hk0 : k = 0
      · have HK0 := Lib.hid hk0
        have e1 : ((k : Int) == 0) = true := by simp; omega
        have e2 : (k == 0) = true := by simp; omega
        clear hk0
        have EX := Lib.hid (show mnTo (·.x) l (k + 1) = d.x by exact mnTo_one HL.out HK0.out)
        have EY := Lib.hid (show mnTo (·.y) l (k + 1) = d.y by exact mnTo_one HL.out HK0.out)
        clear hbw
        go_wp2
        go_roundw
        case rel => exact ⟨k + 1, by omega, by go_num, by rw [EX.out], by rw [EY.out], trivial⟩
        case measure => simp [intOf]; omega
      · have HK0 := Lib.hid hk0
        have e1 : ((k : Int) == 0) = false := by simp; omega
        have e2 : (k == 0) = false := by simp; omega
        clear hk0
        by_cases hx : d.x < mnTo (·.x) l k <;> by_cases hy : d.y < mnTo (·.y) l k
        · have HX := Lib.hid hx
          have HY := Lib.hid hy
          have d1 : decide (d.x < mnTo (·.x) l k) = true := by simpa using hx
          have d2 : decide (d.y < mnTo (·.y) l k) = true := by simpa using hy
          have EX := Lib.hid (show mnTo (·.x) l (k + 1) = d.x by rw [mnTo_next HL.out HK0.out, if_pos HX.out])
          have EY := Lib.hid (show mnTo (·.y) l (k + 1) = d.y by rw [mnTo_next HL.out HK0.out, if_pos HY.out])
          clear hx hy hbw
          go_wp2
          go_roundw
          case rel => exact ⟨k + 1, by omega, by go_num, by rw [EX.out], by rw [EY.out], trivial⟩
          case measure => simp [intOf]; omega
        · have HX := Lib.hid hx
          have HY := Lib.hid hy
          have d1 : decide (d.x < mnTo (·.x) l k) = true := by simpa using hx
          have d2 : decide (d.y < mnTo (·.y) l k) = false := by simpa using hy
          have EX := Lib.hid (show mnTo (·.x) l (k + 1) = d.x by rw [mnTo_next HL.out HK0.out, if_pos HX.out])
          have EY := Lib.hid (show mnTo (·.y) l (k + 1) = mnTo (·.y) l k by rw [mnTo_next HL.out HK0.out, if_neg HY.out])
          clear hx hy hbw
          go_wp2
          go_roundw
          case rel => exact ⟨k + 1, by omega, by go_num, by rw [EX.out], by rw [EY.out], trivial⟩
          case measure => simp [intOf]; omega
        · have HX := Lib.hid hx
          have HY := Lib.hid hy
          have d1 : decide (d.x < mnTo (·.x) l k) = false := by simpa using hx
          have d2 : decide (d.y < mnTo (·.y) l k) = true := by simpa using hy
          have EX := Lib.hid (show mnTo (·.x) l (k + 1) = mnTo (·.x) l k by rw [mnTo_next HL.out HK0.out, if_neg HX.out])
          have EY := Lib.hid (show mnTo (·.y) l (k + 1) = d.y by rw [mnTo_next HL.out HK0.out, if_pos HY.out])
          clear hx hy hbw
          go_wp2
          go_roundw
          case rel => exact ⟨k + 1, by omega, by go_num, by rw [EX.out], by rw [EY.out], trivial⟩
          case measure => simp [intOf]; omega
        · have HX := Lib.hid hx
          have HY := Lib.hid hy
          have d1 : decide (d.x < mnTo (·.x) l k) = false := by simpa using hx
          have d2 : decide (d.y < mnTo (·.y) l k) = false := by simpa using hy
          have EX := Lib.hid (show mnTo (·.x) l (k + 1) = mnTo (·.x) l k by rw [mnTo_next HL.out HK0.out, if_neg HX.out])
          have EY := Lib.hid (show mnTo (·.y) l (k + 1) = mnTo (·.y) l k by rw [mnTo_next HL.out HK0.out, if_neg HY.out])
          clear hx hy hbw
          go_wp2
          go_roundw
          case rel => exact ⟨k + 1, by omega, by go_num, by rw [EX.out], by rw [EY.out], trivial⟩
          case measure => simp [intOf]; omega
    · obtain rfl : k = l.length := by omega
      obtain ⟨⟨m1, m2⟩, m3, m4⟩ := sml_min HON.out hl1
      have hmx : mnTo (·.x) l l.length = minX l := rfl
      have hmy : mnTo (·.y) l l.length = minY l := rfl
      rw [hmx, hmy]
      clear hmx hmy
      go_wp2
      go_loopw [3, 7] (fun s i wr => ∃ k : Nat, k ≤ l.length ∧ i = .int .i64 k ∧ Sep w wr [Res.row s 73 2 k (cc (shift (l.take k) (minX l) (minY l)))]) (fun _ i _ => l.length - (intOf i).toNat)
      case atStart => exact ⟨0, Nat.zero_le _, rfl, H0⟩
      case round =>
        clear H0
        obtain ⟨k, hk, rfl, H⟩ := hrel
        by_cases hlt2 : k < l.length
        · obtain ⟨d, hla⟩ : ∃ d, l[k]? = some d := ⟨l[k], List.getElem?_eq_getElem hlt2⟩
          have hon := HON.out d (List.mem_of_getElem? hla)
          obtain ⟨⟨o1, o2⟩, o3, o4⟩ := hon
          have hbw := H.below
          have hbr : b < wr.heap.size := by have := hbw.size; omega
          have q1 := (hbw.cell (p := ⟨b, off + k * 2, none⟩) hb).trans (HCE.out _ _ (cc_at hla).1)
          have q2 : wr.cell? ⟨b, off + k * 2 + 1, none⟩ = some (.int .i64 d.y) := (hbw.cell (p := ⟨b, off + k * 2 + 1, none⟩) hb).trans (by rw [Nat.add_assoc]; exact HCE.out _ _ (cc_at hla).2)
          have HX := Lib.hid (shift_take (x := minX l) (y := minY l) hla)
          have y1 : IntKind.i64.wrap (d.x - minX l) = d.x - minX l := IntWalk.i64_in _ (by omega)
          have y2 : IntKind.i64.wrap (d.y - minY l) = d.y - minY l := IntWalk.i64_in _ (by omega)
          have H1 := H.drew
          have HB := Lib.hid hbw
          clear hla hbw H
          go_wp2_with fail
          go_region_held3 (fun w' => w'.cell? ⟨b, off + k * 2, none⟩ = some (.int .i64 d.x) ∧ w'.cell? ⟨b, off + k * 2 + 1, none⟩ = some (.int .i64 d.y))
            (first
              | go_keep
              | exact ⟨(H4.below.cell (p := ⟨b, off + k * 2, none⟩) hb).trans (((HB.out.cell (p := ⟨b, off + k * 2, none⟩) hb).symm).trans q1), (H4.below.cell (p := ⟨b, off + k * 2 + 1, none⟩) hb).trans (((HB.out.cell (p := ⟨b, off + k * 2 + 1, none⟩) hb).symm).trans q2)⟩)
            ((refine step_app rfl (.tmp 53) (.tmp 69) 53 rfl 73 i0 _ 2 16 Tryd.underlying53 hi hz0 hz1 hz2 rfl (by decide) _ _ _ (by rfl) (H1.alloc _) _ _ _ [.int .i64 (d.x - minX l), .int .i64 (d.y - minY l)] (by rfl) (Rd.fresh wr.drew _ #[.int .i64 (d.x - minX l), .int .i64 (d.y - minY l)] 2 1 rfl) oc2 (by unfold maxLen; omega) (by omega) ?_; intro v2 w2 H4))
          clear y1 y2 q1 q2
          have H5 : Sep w w2 [Res.row v2 73 2 (k + 1) (cc (shift (l.take (k + 1)) (minX l) (minY l)))] := by rw [HX.out, cc_append]; exact H4
          clear H4
          go_wp2
          go_roundw
          case rel => exact ⟨k + 1, by omega, by go_num, H5⟩
          case measure => simp [intOf]; omega
        · obtain rfl : k = l.length := by omega
          rw [List.take_length] at H
          obtain ⟨As, cs, rfl, _, _, _⟩ := Res.row_at H.h0
          go_wp2
          go_ret
          exact ⟨_, rfl, CellsIn.mk H.oi.1 (by unfold corner; rw [shift_length]) rfl, H.below⟩

set_option maxRecDepth 100000 in
theorem l2Corner_c {v : Value} {l : List Cell} (w : World) (h : CellsRd w 0 w.heap.size v l) (hsh : isShape l = true) :
    Calls Tryd.prog 138 #[v] w fun e w' => ∃ v', e = .returned v' ∧ CellsIn w' w.heap.size w'.heap.size v' (corner l) ∧ Below w.heap.size w w' :=
  l2CornerB_c w h (shp_len hsh).1 (by have := shp_len hsh; omega) fun c hc => by
    obtain ⟨⟨h1, h2⟩, h3, h4⟩ := shp_on hsh hc
    exact ⟨⟨by omega, by omega⟩, ⟨by omega, by omega⟩⟩

end Go.Proofs.YtdbneilhgckhjaaDoor
