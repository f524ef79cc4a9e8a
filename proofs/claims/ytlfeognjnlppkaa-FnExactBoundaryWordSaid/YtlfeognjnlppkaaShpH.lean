
/-
  Shapes in their corner: plain Lean; the walks of the reference's 'CornerShape' and 'SizeOf'.
-/
import Derived.Test.YtlfeognjnlppkaaShpE
import Derived.Deep.DeepCutAuto
namespace Go.Proofs.Ytlfeognjnlppkaa
open Go.RowKit

/-- the least of the first k -/
def mnTo (f : Cell → Int) (l : List Cell) : Nat → Int
  | 0 => 0
  | k + 1 => match l[k]? with
    | some c => if k = 0 then f c else if f c < mnTo f l k then f c else mnTo f l k
    | none => mnTo f l k
theorem mnTo_first {f : Cell → Int} {l : List Cell} {c : Cell} (h : l[0]? = some c) : mnTo f l 1 = f c := by simp [mnTo, h]
theorem mnTo_one {f : Cell → Int} {l : List Cell} {k : Nat} {c : Cell} (h : l[k]? = some c) (hk : k = 0) : mnTo f l (k + 1) = f c := by subst hk; exact mnTo_first h
theorem mnTo_next {f : Cell → Int} {l : List Cell} {k : Nat} {c : Cell} (h : l[k]? = some c) (hk : k ≠ 0) : mnTo f l (k + 1) = if f c < mnTo f l k then f c else mnTo f l k := by simp [mnTo, h, hk]
theorem mnTo_le {f : Cell → Int} {l : List Cell} : ∀ (k : Nat), k ≤ l.length → ∀ (j : Nat) (c : Cell), j < k → l[j]? = some c → mnTo f l k ≤ f c
  | 0, _, j, _, hj, _ => absurd hj (by omega)
  | k + 1, hk, j, c, hj, hc => by
    have hd : l[k]? = some l[k] := List.getElem?_eq_getElem (by omega)
    by_cases e0 : k = 0
    · subst e0
      obtain rfl : j = 0 := by omega
      rw [mnTo_first hc]; exact Int.le_refl _
    · rw [mnTo_next hd e0]
      by_cases e : j = k
      · subst e
        rw [hd] at hc
        injection hc with hc
        subst hc
        split <;> omega
      · have := mnTo_le (f := f) k (by omega) j c (by omega) hc
        split <;> omega
theorem mnTo_mem {f : Cell → Int} {l : List Cell} : ∀ (k : Nat), 0 < k → k ≤ l.length → ∃ c ∈ l, mnTo f l k = f c
  | k + 1, _, hk => by
    have hd : l[k]? = some l[k] := List.getElem?_eq_getElem (by omega)
    by_cases e0 : k = 0
    · subst e0
      exact ⟨_, List.mem_of_getElem? hd, mnTo_first hd⟩
    · rw [mnTo_next hd e0]
      split
      · exact ⟨_, List.mem_of_getElem? hd, rfl⟩
      · exact mnTo_mem k (by omega) (by omega)
def minX (l : List Cell) : Int := mnTo (·.x) l l.length
def minY (l : List Cell) : Int := mnTo (·.y) l l.length
def shift (l : List Cell) (x y : Int) : List Cell := l.map fun c => ⟨c.x - x, c.y - y⟩
def corner (l : List Cell) : List Cell := shift l (minX l) (minY l)
theorem shift_length {l : List Cell} {x y : Int} : (shift l x y).length = l.length := by simp [shift]
theorem shift_take {l : List Cell} {x y : Int} {k : Nat} {c : Cell} (h : l[k]? = some c) : shift (l.take (k + 1)) x y = shift (l.take k) x y ++ [⟨c.x - x, c.y - y⟩] := by
  obtain ⟨hk, rfl⟩ := List.getElem?_eq_some_iff.1 h
  unfold shift
  rw [List.take_succ_eq_append_getElem hk, List.map_append]
  rfl
theorem mem_shift {l : List Cell} {x y : Int} {c : Cell} : c ∈ shift l x y ↔ (⟨c.x + x, c.y + y⟩ : Cell) ∈ l := by
  unfold shift
  rw [List.mem_map]
  constructor
  · rintro ⟨d, hd, rfl⟩
    have e : (⟨d.x - x + x, d.y - y + y⟩ : Cell) = d := by cases d; simp
    rw [e]; exact hd
  · intro h
    exact ⟨_, h, by cases c; simp⟩
/-- the greatest of the first k, and 0 -/
def mxTo (f : Cell → Int) (l : List Cell) : Nat → Int
  | 0 => 0
  | k + 1 => match l[k]? with
    | some c => if mxTo f l k < f c + 1 then f c + 1 else mxTo f l k
    | none => mxTo f l k
theorem mxTo_next {f : Cell → Int} {l : List Cell} {k : Nat} {c : Cell} (h : l[k]? = some c) : mxTo f l (k + 1) = if mxTo f l k < f c + 1 then f c + 1 else mxTo f l k := by simp [mxTo, h]
theorem mxTo_ge {f : Cell → Int} {l : List Cell} : ∀ (k : Nat), k ≤ l.length → ∀ (j : Nat) (c : Cell), j < k → l[j]? = some c → f c + 1 ≤ mxTo f l k
  | 0, _, j, _, hj, _ => absurd hj (by omega)
  | k + 1, hk, j, c, hj, hc => by
    have hd : l[k]? = some l[k] := List.getElem?_eq_getElem (by omega)
    rw [mxTo_next hd]
    by_cases e : j = k
    · subst e
      rw [hd] at hc
      injection hc with hc
      subst hc
      split <;> omega
    · have := mxTo_ge (f := f) k (by omega) j c (by omega) hc
      split <;> omega
theorem mxTo_le {f : Cell → Int} {l : List Cell} {m : Int} (h : ∀ c ∈ l, f c + 1 ≤ m) (h0 : 0 ≤ m) : ∀ (k : Nat), k ≤ l.length → 0 ≤ mxTo f l k ∧ mxTo f l k ≤ m
  | 0, _ => ⟨Int.le_refl _, h0⟩
  | k + 1, hk => by
    have hd : l[k]? = some l[k] := List.getElem?_eq_getElem (by omega)
    have := mxTo_le h h0 k (by omega)
    have h1 := h _ (List.mem_of_getElem? hd)
    rw [mxTo_next hd]
    split <;> omega
def wdOf (l : List Cell) : Int := mxTo (·.x) (corner l) (corner l).length
def htOf (l : List Cell) : Int := mxTo (·.y) (corner l) (corner l).length
theorem minX_le {s : List Cell} {c : Cell} (h : c ∈ s) : minX s ≤ c.x := by
  obtain ⟨j, hj, e⟩ := List.getElem_of_mem h
  exact mnTo_le (f := (·.x)) s.length (Nat.le_refl _) j c hj (by rw [List.getElem?_eq_getElem hj, e])
theorem minY_le {s : List Cell} {c : Cell} (h : c ∈ s) : minY s ≤ c.y := by
  obtain ⟨j, hj, e⟩ := List.getElem_of_mem h
  exact mnTo_le (f := (·.y)) s.length (Nat.le_refl _) j c hj (by rw [List.getElem?_eq_getElem hj, e])
theorem corner_ge {s : List Cell} {c : Cell} (h : c ∈ corner s) : 0 ≤ c.x ∧ 0 ≤ c.y := by
  have := mem_shift.1 h
  have h1 := minX_le this
  have h2 := minY_le this
  simp only at h1 h2
  omega
theorem corner_lt {s : List Cell} {c : Cell} (h : c ∈ corner s) : c.x < wdOf s ∧ c.y < htOf s := by
  obtain ⟨j, hj, e⟩ := List.getElem_of_mem h
  have h1 := mxTo_ge (f := (·.x)) (l := corner s) _ (Nat.le_refl _) j c hj (by rw [List.getElem?_eq_getElem hj, e])
  have h2 := mxTo_ge (f := (·.y)) (l := corner s) _ (Nat.le_refl _) j c hj (by rw [List.getElem?_eq_getElem hj, e])
  unfold wdOf htOf
  omega
theorem shp_min {s : List Cell} (h : isShape s = true) : (0 ≤ minX s ∧ minX s ≤ 7) ∧ (0 ≤ minY s ∧ minY s ≤ 7) := by
  obtain ⟨hl, _⟩ := shp_len h
  obtain ⟨c, hc, e⟩ := mnTo_mem (f := (·.x)) (l := s) s.length (by omega) (Nat.le_refl _)
  obtain ⟨d, hd, e'⟩ := mnTo_mem (f := (·.y)) (l := s) s.length (by omega) (Nat.le_refl _)
  have h1 := (shp_on h hc).1
  have h2 := (shp_on h hd).2
  unfold minX minY
  rw [e, e']
  exact ⟨h1, h2⟩
theorem shp_size {s : List Cell} (h : isShape s = true) : (1 ≤ wdOf s ∧ minX s + wdOf s ≤ 8) ∧ (1 ≤ htOf s ∧ minY s + htOf s ≤ 8) := by
  obtain ⟨hl, _⟩ := shp_len h
  obtain ⟨⟨m1, m2⟩, m3, m4⟩ := shp_min h
  have hin : ∀ c ∈ corner s, c.x + 1 ≤ 8 - minX s ∧ c.y + 1 ≤ 8 - minY s := fun c hc => by
    have h1 := shp_on h (mem_shift.1 hc)
    unfold On at h1
    simp only at h1
    omega
  have h1 := (mxTo_le (f := (·.x)) (fun c hc => (hin c hc).1) (by omega) (corner s).length (Nat.le_refl _)).2
  have h2 := (mxTo_le (f := (·.y)) (fun c hc => (hin c hc).2) (by omega) (corner s).length (Nat.le_refl _)).2
  have hc0 : (corner s)[0]'(by unfold corner; rw [shift_length]; omega) ∈ corner s := List.getElem_mem _
  have h3 := corner_ge hc0
  have h4 := corner_lt hc0
  unfold wdOf htOf at *
  omega
theorem corner_on {s : List Cell} (h : isShape s = true) {c : Cell} (hc : c ∈ corner s) : On c := by
  have h1 := corner_ge hc
  have h2 := corner_lt hc
  have h3 := shp_size h
  have h4 := shp_min h
  unfold On
  omega

set_option maxRecDepth 100000 in
set_option maxHeartbeats 3200000 in
theorem l2Corner_c {v : Value} {l : List Cell} (w : World) (h : CellsRd w 0 w.heap.size v l) (hsh : isShape l = true) :
    Calls Try.prog 67 #[v] w fun e w' => ∃ v', e = .returned v' ∧ CellsIn w' w.heap.size w'.heap.size v' (corner l) ∧ Below w.heap.size w w' := by
  obtain ⟨i0, hi, hz0, hz1, hz2⟩ := info_parts infoCellS
  obtain ⟨A, c, rfl, hm, hr⟩ := h
  obtain ⟨hl1, hl8⟩ := shp_len hsh
  have HON : Hid (∀ c ∈ l, On c) := Lib.hid fun c hc => shp_on hsh hc
  have HSH := Lib.hid hsh
  obtain ⟨b, off, hA, _, hb, hc⟩ := hr.2 (by omega)
  subst hA
  have HCE := Lib.hid hc
  have H0 := (Sep.start w).rowBox 50 #[] 2 0 rfl (by decide)
  clear hr hm hc hsh
  go_enter Try.func67, Try.ntmps67
  go_wp2
  generalize hW : w.alloc (.cells #[] 50) = W at *
  clear hW
  go_loopw [4, 5, 6] (fun xv yv i wr => ∃ k : Nat, k ≤ l.length ∧ i = .int .i64 k ∧ xv = .int .i64 (mnTo (·.x) l k) ∧ yv = .int .i64 (mnTo (·.y) l k) ∧ W = wr) (fun _ _ i _ => l.length - (intOf i).toNat)
  case atStart => exact ⟨0, Nat.zero_le _, rfl, rfl, rfl, rfl⟩
  case round =>
    obtain ⟨k, hk, rfl, rfl, rfl, rfl⟩ := hrel
    by_cases hlt : k < l.length
    · obtain ⟨d, hla⟩ : ∃ d, l[k]? = some d := ⟨l[k], List.getElem?_eq_getElem hlt⟩
      have HL := Lib.hid hla
      have hbw : Below w.heap.size w W := H0.below
      have q1 := (hbw.cell (p := ⟨b, off + k * 2, none⟩) hb).trans (HCE.out _ _ (cc_at hla).1)
      have q2 : W.cell? ⟨b, off + k * 2 + 1, none⟩ = some (.int .i64 d.y) := (hbw.cell (p := ⟨b, off + k * 2 + 1, none⟩) hb).trans (by rw [Nat.add_assoc]; exact HCE.out _ _ (cc_at hla).2)
      clear hla
      by_cases hk0 : k = 0
      · have HK0 := Lib.hid hk0
        have e1 : ((k : Int) == 0) = true := by simp; omega
        have e2 : (k == 0) = true := by simp; omega
        clear hk0
        have EX := Lib.hid (show mnTo (·.x) l (k + 1) = d.x by exact mnTo_one HL.out HK0.out)
        have EY := Lib.hid (show mnTo (·.y) l (k + 1) = d.y by exact mnTo_one HL.out HK0.out)
        clear hbw
        go_wp2
        go_roundw
        case rel => exact ⟨k + 1, by omega, by go_num, by rw [EX.out], by rw [EY.out], trivial⟩
        case measure => simp [intOf]; omega
      · have HK0 := Lib.hid hk0
        have e1 : ((k : Int) == 0) = false := by simp; omega
        have e2 : (k == 0) = false := by simp; omega
        clear hk0
        by_cases hx : d.x < mnTo (·.x) l k <;> by_cases hy : d.y < mnTo (·.y) l k
        · have HX := Lib.hid hx
          have HY := Lib.hid hy
          have d1 : decide (d.x < mnTo (·.x) l k) = true := by simpa using hx
          have d2 : decide (d.y < mnTo (·.y) l k) = true := by simpa using hy
          have EX := Lib.hid (show mnTo (·.x) l (k + 1) = d.x by rw [mnTo_next HL.out HK0.out, if_pos HX.out])
          have EY := Lib.hid (show mnTo (·.y) l (k + 1) = d.y by rw [mnTo_next HL.out HK0.out, if_pos HY.out])
          clear hx hy hbw
          go_wp2
          go_roundw
          case rel => exact ⟨k + 1, by omega, by go_num, by rw [EX.out], by rw [EY.out], trivial⟩
          case measure => simp [intOf]; omega
        · have HX := Lib.hid hx
          have HY := Lib.hid hy
          have d1 : decide (d.x < mnTo (·.x) l k) = true := by simpa using hx
          have d2 : decide (d.y < mnTo (·.y) l k) = false := by simpa using hy
          have EX := Lib.hid (show mnTo (·.x) l (k + 1) = d.x by rw [mnTo_next HL.out HK0.out, if_pos HX.out])
          have EY := Lib.hid (show mnTo (·.y) l (k + 1) = mnTo (·.y) l k by rw [mnTo_next HL.out HK0.out, if_neg HY.out])
          clear hx hy hbw
          go_wp2
          go_roundw
          case rel => exact ⟨k + 1, by omega, by go_num, by rw [EX.out], by rw [EY.out], trivial⟩
          case measure => simp [intOf]; omega
        · have HX := Lib.hid hx
          have HY := Lib.hid hy
          have d1 : decide (d.x < mnTo (·.x) l k) = false := by simpa using hx
          have d2 : decide (d.y < mnTo (·.y) l k) = true := by simpa using hy
          have EX := Lib.hid (show mnTo (·.x) l (k + 1) = mnTo (·.x) l k by rw [mnTo_next HL.out HK0.out, if_neg HX.out])
          have EY := Lib.hid (show mnTo (·.y) l (k + 1) = d.y by rw [mnTo_next HL.out HK0.out, if_pos HY.out])
          clear hx hy hbw
          go_wp2
          go_roundw
          case rel => exact ⟨k + 1, by omega, by go_num, by rw [EX.out], by rw [EY.out], trivial⟩
          case measure => simp [intOf]; omega
        · have HX := Lib.hid hx
          have HY := Lib.hid hy
          have d1 : decide (d.x < mnTo (·.x) l k) = false := by simpa using hx
          have d2 : decide (d.y < mnTo (·.y) l k) = false := by simpa using hy
          have EX := Lib.hid (show mnTo (·.x) l (k + 1) = mnTo (·.x) l k by rw [mnTo_next HL.out HK0.out, if_neg HX.out])
          have EY := Lib.hid (show mnTo (·.y) l (k + 1) = mnTo (·.y) l k by rw [mnTo_next HL.out HK0.out, if_neg HY.out])
          clear hx hy hbw
          go_wp2
          go_roundw
          case rel => exact ⟨k + 1, by omega, by go_num, by rw [EX.out], by rw [EY.out], trivial⟩
          case measure => simp [intOf]; omega
    · obtain rfl : k = l.length := by omega
      obtain ⟨⟨m1, m2⟩, m3, m4⟩ := shp_min HSH.out
      have hmx : mnTo (·.x) l l.length = minX l := rfl
      have hmy : mnTo (·.y) l l.length = minY l := rfl
      rw [hmx, hmy]
      clear hmx hmy
      go_wp2
      go_loopw [3, 7] (fun s i wr => ∃ k : Nat, k ≤ l.length ∧ i = .int .i64 k ∧ Sep w wr [Res.row s 50 2 k (cc (shift (l.take k) (minX l) (minY l)))]) (fun _ i _ => l.length - (intOf i).toNat)
      case atStart => exact ⟨0, Nat.zero_le _, rfl, H0⟩
      case round =>
        clear H0
        obtain ⟨k, hk, rfl, H⟩ := hrel
        by_cases hlt2 : k < l.length
        · obtain ⟨d, hla⟩ : ∃ d, l[k]? = some d := ⟨l[k], List.getElem?_eq_getElem hlt2⟩
          have hon := HON.out d (List.mem_of_getElem? hla)
          obtain ⟨⟨o1, o2⟩, o3, o4⟩ := hon
          have hbw := H.below
          have hbr : b < wr.heap.size := by have := hbw.size; omega
          have q1 := (hbw.cell (p := ⟨b, off + k * 2, none⟩) hb).trans (HCE.out _ _ (cc_at hla).1)
          have q2 : wr.cell? ⟨b, off + k * 2 + 1, none⟩ = some (.int .i64 d.y) := (hbw.cell (p := ⟨b, off + k * 2 + 1, none⟩) hb).trans (by rw [Nat.add_assoc]; exact HCE.out _ _ (cc_at hla).2)
          have HX := Lib.hid (shift_take (x := minX l) (y := minY l) hla)
          have y1 : IntKind.i64.wrap (d.x - minX l) = d.x - minX l := IntWalk.i64_in _ (by omega)
          have y2 : IntKind.i64.wrap (d.y - minY l) = d.y - minY l := IntWalk.i64_in _ (by omega)
          have H1 := H.drew
          have HB := Lib.hid hbw
          clear hla hbw H
          go_wp2_with fail
          go_region_held3 (fun w' => w'.cell? ⟨b, off + k * 2, none⟩ = some (.int .i64 d.x) ∧ w'.cell? ⟨b, off + k * 2 + 1, none⟩ = some (.int .i64 d.y))
            (first
              | go_keep
              | exact ⟨(H4.below.cell (p := ⟨b, off + k * 2, none⟩) hb).trans (((HB.out.cell (p := ⟨b, off + k * 2, none⟩) hb).symm).trans q1), (H4.below.cell (p := ⟨b, off + k * 2 + 1, none⟩) hb).trans (((HB.out.cell (p := ⟨b, off + k * 2 + 1, none⟩) hb).symm).trans q2)⟩)
            ((refine step_app rfl (.tmp 53) (.tmp 69) 26 rfl 50 i0 _ 2 16 Try.underlying26 hi hz0 hz1 hz2 rfl (by decide) _ _ _ (by rfl) (H1.alloc _) _ _ _ [.int .i64 (d.x - minX l), .int .i64 (d.y - minY l)] (by rfl) (Rd.fresh wr.drew _ #[.int .i64 (d.x - minX l), .int .i64 (d.y - minY l)] 2 1 rfl) oc2 (by unfold maxLen; omega) (by omega) ?_; intro v2 w2 H4))
          clear y1 y2 q1 q2
          have H5 : Sep w w2 [Res.row v2 50 2 (k + 1) (cc (shift (l.take (k + 1)) (minX l) (minY l)))] := by rw [HX.out, cc_append]; exact H4
          clear H4
          go_wp2
          go_roundw
          case rel => exact ⟨k + 1, by omega, by go_num, H5⟩
          case measure => simp [intOf]; omega
        · obtain rfl : k = l.length := by omega
          rw [List.take_length] at H
          obtain ⟨As, cs, rfl, _, _, _⟩ := Res.row_at H.h0
          go_wp2
          go_ret
          exact ⟨_, rfl, CellsIn.mk H.oi.1 (by unfold corner; rw [shift_length]) rfl, H.below⟩

set_option maxRecDepth 100000 in
set_option maxHeartbeats 800000 in
theorem cornerShape_c {v : Value} {l : List Cell} (w : World) (h : CellsRd w 0 w.heap.size v l) (hsh : isShape l = true) :
    Calls Try.prog 50 #[v] w fun e w' => ∃ v', e = .returned v' ∧ CellsIn w' w.heap.size w'.heap.size v' (corner l) ∧ Below w.heap.size w w' := by
  have hl := shp_len hsh
  have HS0 := Lib.hid (spec_isShape_c w h (by omega))
  have HC : Hid (∀ w1, Below w.heap.size w w1 → Calls Try.prog 67 #[v] w1 fun e w' => ∃ v', e = .returned v' ∧ CellsIn w' w1.heap.size w'.heap.size v' (corner l) ∧ Below w1.heap.size w1 w') := Lib.hid fun w1 hb =>
    l2Corner_c w1 ((h.keep (SameIn.of_below hb (Nat.le_refl _))).more (Nat.le_refl _) hb.size) hsh
  obtain ⟨A, c, rfl, _, _⟩ := id h
  rw [hsh] at HS0
  clear h hl hsh
  go_enter Try.func50, Try.ntmps50
  go_wp2_with fail
  refine (HS0.out).mono ?_
  rintro e w1 ⟨rfl, b1⟩
  have HC1 := Lib.hid (HC.out w1 b1)
  clear HC HS0
  go_wp2_with fail
  refine (HC1.out).mono ?_
  rintro e w2 ⟨v', rfl, o2, b2⟩
  obtain ⟨A2, c2, rfl, _, _⟩ := o2.rd
  have hb2 := b1.trans (b2.mono b1.size)
  have O2 := Lib.hid (OI.base o2 b1.size (Nat.le_refl _))
  clear o2
  go_wp2
  go_ret
  exact ⟨_, rfl, O2.out, hb2⟩

set_option maxRecDepth 100000 in
set_option maxHeartbeats 3200000 in
theorem sizeOf_c {v : Value} {s : List Cell} (w : World) (h : CellsRd w 0 w.heap.size v s) (hsh : isShape s = true) :
    Calls Try.prog 49 #[v] w fun e w' => e = .returned (.tuple #[.int .i64 (wdOf s), .int .i64 (htOf s)]) ∧ Below w.heap.size w w' := by
  have HS0 := Lib.hid (cornerShape_c w h hsh)
  obtain ⟨A, c, rfl, _, _⟩ := id h
  have hl := shp_len hsh
  have HON : Hid (∀ c ∈ corner s, On c) := Lib.hid fun c hc => corner_on hsh hc
  obtain ⟨l, hll⟩ : ∃ l, l = corner s := ⟨_, rfl⟩
  have hw : wdOf s = mxTo (·.x) l l.length := by rw [hll]; rfl
  have hh : htOf s = mxTo (·.y) l l.length := by rw [hll]; rfl
  have hl2 : l.length = s.length := by rw [hll]; unfold corner; rw [shift_length]
  rw [← hll] at HS0 HON
  rw [hw, hh]
  have hle : Hid (∀ k, k ≤ l.length → (0 ≤ mxTo (·.x) l k ∧ mxTo (·.x) l k ≤ 8) ∧ (0 ≤ mxTo (·.y) l k ∧ mxTo (·.y) l k ≤ 8)) := Lib.hid fun k hk =>
    ⟨mxTo_le (f := (·.x)) (fun c hc => by have := (HON.out c hc).1; omega) (by omega) k hk, mxTo_le (f := (·.y)) (fun c hc => by have := (HON.out c hc).2; omega) (by omega) k hk⟩
  have hl8 : l.length ≤ 8 := by omega
  clear h hsh hl hll hw hh hl2
  go_enter Try.func49, Try.ntmps49
  go_wp2_with fail
  refine (HS0.out).mono ?_
  rintro e W ⟨v', rfl, o2, b1⟩
  obtain ⟨A2, c2, rfl, _, hr⟩ := o2.rd
  have HRS := Lib.hid hr
  clear HS0 o2 hr
  go_wp2
  go_loopw [5, 6, 7] (fun xv yv i wr => ∃ k : Nat, k ≤ l.length ∧ i = .int .i64 k ∧ xv = .int .i64 (mxTo (·.x) l k) ∧ yv = .int .i64 (mxTo (·.y) l k) ∧ W = wr) (fun _ _ i _ => l.length - (intOf i).toNat)
  case atStart => exact ⟨0, Nat.zero_le _, rfl, rfl, rfl, rfl⟩
  case round =>
    obtain ⟨k, hk, rfl, rfl, rfl, rfl⟩ := hrel
    by_cases hlt : k < l.length
    · obtain ⟨b, off, d, rfl, _, hb, hla, q1, q2⟩ := HRS.out.at2 hlt
      have HL := Lib.hid hla
      obtain ⟨⟨o1, o2⟩, o3, o4⟩ := HON.out d (List.mem_of_getElem? hla)
      obtain ⟨⟨m1, m2⟩, m3, m4⟩ := hle.out k hk
      clear hla
      have EX := Lib.hid (mxTo_next (f := (·.x)) HL.out)
      have EY := Lib.hid (mxTo_next (f := (·.y)) HL.out)
      go_wp2
      go_roundw
      case rel => exact ⟨k + 1, by omega, by go_num, by rw [EX.out], by rw [EY.out], trivial⟩
      case measure => simp [intOf]; omega
    · obtain rfl : k = l.length := by omega
      go_wp2
      go_ret2
      exact ⟨rfl, b1⟩
end Go.Proofs.Ytlfeognjnlppkaa
