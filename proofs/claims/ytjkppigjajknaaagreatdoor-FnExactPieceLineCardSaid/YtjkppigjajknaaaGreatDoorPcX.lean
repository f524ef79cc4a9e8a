
/-
  Scaled shapes, plain: a square of places for each cell. The program's walk of 'ScaledRegion'. The reference's walk of 'ScaledRegion'. Rep-tilings: both walks. The least scale at which a shape tiles itself: both walks.
-/
import Derived.Test.YtjkppigjajknaaaGreatDoorPcY
import Derived.Test.YtjkppigjajknaaaGreatDoorPlcP
import Derived.Test.YtjkppigjajknaaaGreatDoorRowX
import Derived.Test.YtjkppigjajknaaaGreatDoorPutX
import Derived.Test.YtjkppigjajknaaaGreatDoorFlipX
import Derived.Test.YtjkppigjajknaaaGreatDoorOriX
import Derived.Test.YtjkppigjajknaaaGreatDoorFtS
import Derived.Test.YtjkppigjajknaaaGreatDoorComW
namespace Go.Proofs.YtjkppigjajknaaaGreatDoor
open Go.RowKit

/-- the number whose bits below n are those that f has -/
def rowN (f : Nat → Bool) : Nat → Nat
  | 0 => 0
  | n + 1 => rowN f n ||| (if f n = true then 2 ^ n else 0)
theorem rowN_bit {f : Nat → Bool} {i : Nat} : ∀ n, (rowN f n).testBit i = (decide (i < n) && f i)
  | 0 => by simp [rowN]
  | n + 1 => by
    rw [rowN, Nat.testBit_or, rowN_bit n]
    by_cases h : i = n
    · subst h
      cases hf : f i <;> simp
    · have h1 : (if f n = true then 2 ^ n else 0).testBit i = false := by
        split
        · rw [Nat.testBit_two_pow]; simp; omega
        · simp
      rw [h1, Bool.or_false]
      congr 1
      simp
      omega
theorem rowN_lt {f : Nat → Bool} {n : Nat} : rowN f n < 2 ^ n := Nat.lt_pow_two_of_testBit _ fun i hi => by
  rw [rowN_bit, decide_eq_false (by omega)]
  rfl
theorem rowN_is {f : Nat → Bool} {n m : Nat} (h : ∀ i, m.testBit i = (decide (i < n) && f i)) : m = rowN f n := Nat.eq_of_testBit_eq fun i => by rw [h, rowN_bit]
/-- is a place in the square of a cell? -/
def scIn (C : List Cell) (k i j : Nat) : Bool := decide ((⟨((i / k : Nat) : Int), ((j / k : Nat) : Int)⟩ : Cell) ∈ C)
def scR (s : List Cell) (k : Nat) : Reg := ⟨wdOf s * k, (List.range (htOf s * k).toNat).map fun j => ((rowN (fun i => scIn (corner s) k i j) (wdOf s * k).toNat : Nat) : Int)⟩
def scB (s : List Cell) (k : Int) : Bool := isShape s && (inR k 1 6 && (decide (wdOf s * k ≤ 6) && decide (htOf s * k ≤ 6)))
def scX (s : List Cell) (k : Int) : Reg := if scB s k = true then scR s k.toNat else ⟨0, []⟩
theorem scR_len {s : List Cell} {k : Nat} : (scR s k).rows.length = (htOf s * k).toNat := by simp [scR]
/-- the sizes as naturals -/
theorem shp_nat {s : List Cell} (h : isShape s = true) : ∃ W H : Nat, wdOf s = (W : Int) ∧ htOf s = (H : Int) ∧ 1 ≤ W ∧ 1 ≤ H ∧ W ≤ 8 ∧ H ≤ 8 ∧ ∀ c ∈ corner s, ∃ x y : Nat, c = ⟨(x : Int), (y : Int)⟩ ∧ x < W ∧ y < H := by
  obtain ⟨⟨w1, w2⟩, h1, h2⟩ := shp_size h
  obtain ⟨⟨m1, m2⟩, m3, m4⟩ := shp_min h
  refine ⟨(wdOf s).toNat, (htOf s).toNat, by omega, by omega, by omega, by omega, by omega, by omega, fun c hc => ?_⟩
  have g1 := corner_ge hc
  have g2 := corner_lt hc
  refine ⟨c.x.toNat, c.y.toNat, ?_, by omega, by omega⟩
  rw [Int.toNat_of_nonneg g1.1, Int.toNat_of_nonneg g1.2]
theorem scIn_lt {s : List Cell} {k W H i j : Nat} (hk : 1 ≤ k) (hC : ∀ c ∈ corner s, ∃ x y : Nat, c = ⟨(x : Int), (y : Int)⟩ ∧ x < W ∧ y < H) (h : scIn (corner s) k i j = true) : i < W * k ∧ j < H * k := by
  obtain ⟨x, y, e, hx, hy⟩ := hC _ (of_decide_eq_true h)
  injection e with e1 e2
  have e1 : i / k = x := by omega
  have e2 : j / k = y := by omega
  rw [← e1] at hx
  rw [← e2] at hy
  exact ⟨(Nat.div_lt_iff_lt_mul hk).1 hx, (Nat.div_lt_iff_lt_mul hk).1 hy⟩
theorem scB_is {s : List Cell} {k : Int} (h : scB s k = true) : isShape s = true ∧ (1 ≤ k ∧ k ≤ 6) ∧ wdOf s * k ≤ 6 ∧ htOf s * k ≤ 6 := by
  unfold scB at h
  simp only [Bool.and_eq_true, decide_eq_true_eq] at h
  exact ⟨h.1, inR_iff.1 h.2.1, h.2.2.1, h.2.2.2⟩
theorem scR_valid {s : List Cell} {k : Nat} (hs : isShape s = true) (hk : 1 ≤ k) (hw : wdOf s * k ≤ 6) (hh : htOf s * k ≤ 6) : (scR s k).Valid := by
  obtain ⟨W, H, eW, eH, hW, hH, _, _, _⟩ := shp_nat hs
  have pw : 1 ≤ W * k := Nat.mul_pos hW hk
  have ph : 1 ≤ H * k := Nat.mul_pos hH hk
  have cw : wdOf s * (k : Int) = ((W * k : Nat) : Int) := by rw [eW]; simp
  have ch : htOf s * (k : Int) = ((H * k : Nat) : Int) := by rw [eH]; simp
  refine ⟨?_, ?_, ?_, ?_, fun a ha => ?_⟩
  · show 1 ≤ wdOf s * (k : Int); rw [cw]; omega
  · show wdOf s * (k : Int) ≤ 6; exact hw
  · rw [scR_len, ch]; omega
  · rw [scR_len, ch]; rw [ch] at hh; omega
  · obtain ⟨j, _, rfl⟩ := List.mem_map.1 ha
    refine ⟨Int.natCast_nonneg _, ?_⟩
    have h1 : rowN (fun i => scIn (corner s) k i j) (wdOf s * k).toNat < 2 ^ (wdOf s * k).toNat := rowN_lt
    show ((rowN (fun i => scIn (corner s) k i j) (wdOf s * (k : Int)).toNat : Nat) : Int) < 2 ^ (wdOf s * (k : Int)).toNat
    have : ((rowN (fun i => scIn (corner s) k i j) (wdOf s * (k : Int)).toNat : Nat) : Int) < ((2 ^ (wdOf s * (k : Int)).toNat : Nat) : Int) := by exact_mod_cast h1
    simpa using this
theorem scX_len {s : List Cell} {k : Int} : (scX s k).rows.length ≤ 6 := by
  unfold scX
  split
  · rename_i h
    obtain ⟨h1, ⟨h2, h3⟩, h4, h5⟩ := scB_is h
    have e : ((k.toNat : Nat) : Int) = k := by omega
    exact (scR_valid h1 (by omega) (by rw [e]; exact h4) (by rw [e]; exact h5)).2.2.2.1
  · simp
/-- the rows, once their bits are known -/
theorem rows_end {l : List Nat} {H W : Nat} {f : Nat → Nat → Bool} (hl : l.length = H) (hb : ∀ j, j < H → ∀ i, (l.getD j 0).testBit i = f i j) (hw : ∀ i j, f i j = true → i < W) : nl l = (List.range H).map fun j => ((rowN (fun i => f i j) W : Nat) : Int) := by
  refine List.ext_getElem (by simp [nl, hl]) fun j h1 h2 => ?_
  have hj : j < l.length := by simpa [nl] using h1
  simp only [nl, List.getElem_map, List.getElem_range]
  congr 1
  refine rowN_is fun i => ?_
  have := hb j (by omega) i
  rw [List.getD_eq_getElem?_getD, List.getElem?_eq_getElem hj] at this
  rw [show l[j] = (some l[j]).getD 0 from rfl, this]
  cases hf : f i j
  · simp
  · simp [hw i j hf]
/-! the program's progress: the first cells, and some rows of the next one's square -/
def pI (C : List Cell) (k n x y b i j : Nat) : Bool := scIn (C.take n) k i j || (decide (i / k = x) && (decide (y * k ≤ j) && decide (j < y * k + b)))
/-- the reference's: some columns of the square, and some places of the next column -/
def pS (C : List Cell) (k n x y a b i j : Nat) : Bool := scIn (C.take n) k i j || (decide (i / k = x) && (decide (j / k = y) && (decide (i % k < a) || (decide (i % k = a) && decide (j % k < b)))))
theorem scIn_next {C : List Cell} {k n x y i j : Nat} (h : C[n]? = some ⟨(x : Int), (y : Int)⟩) : scIn (C.take (n + 1)) k i j = (scIn (C.take n) k i j || (decide (i / k = x) && decide (j / k = y))) := by
  unfold scIn
  rw [List.take_add_one, h, Bool.eq_iff_iff]
  simp only [Option.toList_some, List.mem_append, List.mem_singleton, decide_eq_true_eq, Bool.or_eq_true, Bool.and_eq_true, Cell.mk.injEq]
  constructor
  · rintro (h | ⟨h1, h2⟩)
    · exact .inl h
    · exact .inr ⟨by omega, by omega⟩
  · rintro (h | ⟨h1, h2⟩)
    · exact .inl h
    · exact .inr ⟨by omega, by omega⟩
theorem pI_start {C : List Cell} {k n x y i j : Nat} : pI C k n x y 0 i j = scIn (C.take n) k i j := by
  unfold pI
  have : (decide (y * k ≤ j) && decide (j < y * k + 0)) = false := by rw [Bool.and_eq_false_iff]; by_cases h : y * k ≤ j <;> simp <;> omega
  rw [this]
  simp
theorem div_row {k y j : Nat} (hk : 1 ≤ k) : (y * k ≤ j ∧ j < y * k + k) ↔ j / k = y := by
  constructor
  · rintro ⟨h1, h2⟩
    refine Nat.div_eq_of_lt_le h1 ?_
    rw [Nat.add_mul]; omega
  · intro h
    subst h
    have := Nat.div_mul_le_self j k
    have := Nat.lt_div_mul_add (a := j) (b := k) hk
    omega
theorem pI_end {C : List Cell} {k n x y i j : Nat} (hk : 1 ≤ k) (h : C[n]? = some ⟨(x : Int), (y : Int)⟩) : pI C k n x y k i j = scIn (C.take (n + 1)) k i j := by
  unfold pI
  rw [scIn_next h]
  congr 2
  rw [Bool.eq_iff_iff, Bool.and_eq_true, decide_eq_true_eq, decide_eq_true_eq, decide_eq_true_eq]
  exact div_row hk
theorem pI_next {C : List Cell} {k n x y b i j : Nat} : pI C k n x y (b + 1) i j = (pI C k n x y b i j || (decide (i / k = x) && decide (j = y * k + b))) := by
  unfold pI
  rw [Bool.or_assoc]
  congr 1
  rw [Bool.eq_iff_iff]
  simp only [Bool.or_eq_true, Bool.and_eq_true, decide_eq_true_eq]
  constructor
  · rintro ⟨h1, h2, h3⟩
    by_cases e : j = y * k + b
    · exact .inr ⟨h1, e⟩
    · exact .inl ⟨h1, h2, by omega⟩
  · rintro (⟨h1, h2, h3⟩ | ⟨h1, h2⟩)
    · exact ⟨h1, h2, by omega⟩
    · exact ⟨h1, by omega, by omega⟩
/-- the bits of a block of k ones -/
theorem blk_bit {k x i : Nat} (hk : 1 ≤ k) : ((2 ^ k - 1) * 2 ^ (x * k)).testBit i = decide (i / k = x) := by
  rw [Nat.testBit_mul_two_pow, Nat.testBit_two_pow_sub_one, Bool.eq_iff_iff, Bool.and_eq_true, decide_eq_true_eq, decide_eq_true_eq, decide_eq_true_eq, ← div_row hk]
  omega
theorem pS_start {C : List Cell} {k n x y i j : Nat} : pS C k n x y 0 0 i j = scIn (C.take n) k i j := by simp [pS]
theorem pS_col {C : List Cell} {k n x y a i j : Nat} (hk : 1 ≤ k) : pS C k n x y a k i j = pS C k n x y (a + 1) 0 i j := by
  unfold pS
  congr 3
  have hj := Nat.mod_lt j hk
  rw [Bool.eq_iff_iff]
  simp
  omega
theorem pS_end {C : List Cell} {k n x y i j : Nat} (hk : 1 ≤ k) (h : C[n]? = some ⟨(x : Int), (y : Int)⟩) : pS C k n x y k 0 i j = scIn (C.take (n + 1)) k i j := by
  unfold pS
  rw [scIn_next h]
  congr 2
  have hi := Nat.mod_lt i hk
  simp [hi]
theorem at_place {k x a i : Nat} (ha : a < k) : (i / k = x ∧ i % k = a) ↔ i = x * k + a := by
  constructor
  · rintro ⟨h1, h2⟩
    have := Nat.div_add_mod i k
    rw [h1, h2, Nat.mul_comm] at this
    omega
  · rintro rfl
    have hk : 0 < k := by omega
    rw [Nat.mul_comm, Nat.mul_add_div hk, Nat.mul_add_mod, Nat.div_eq_of_lt ha, Nat.mod_eq_of_lt ha]
    exact ⟨rfl, rfl⟩
theorem pS_next {C : List Cell} {k n x y a b i j : Nat} (ha : a < k) (hb : b < k) : pS C k n x y a (b + 1) i j = (pS C k n x y a b i j || (decide (i = x * k + a) && decide (j = y * k + b))) := by
  unfold pS
  rw [Bool.or_assoc]
  congr 1
  rw [Bool.eq_iff_iff]
  simp only [Bool.or_eq_true, Bool.and_eq_true, decide_eq_true_eq, ← at_place ha, ← at_place hb]
  constructor
  · rintro ⟨h1, h2, h3 | ⟨h3, h4⟩⟩
    · exact .inl ⟨h1, h2, .inl h3⟩
    · by_cases e : j % k = b
      · exact .inr ⟨⟨h1, h3⟩, h2, e⟩
      · exact .inl ⟨h1, h2, .inr ⟨h3, by omega⟩⟩
  · rintro (⟨h1, h2, h3 | ⟨h3, h4⟩⟩ | ⟨⟨h1, h3⟩, h2, h4⟩)
    · exact ⟨h1, h2, .inl h3⟩
    · exact ⟨h1, h2, .inr ⟨h3, by omega⟩⟩
    · exact ⟨h1, h2, .inr ⟨h3, by omega⟩⟩
theorem pS_free {C : List Cell} {k n x y a b : Nat} (ha : a < k) (hb : b < k) (hn : C.Nodup) (h : C[n]? = some ⟨(x : Int), (y : Int)⟩) : pS C k n x y a b (x * k + a) (y * k + b) = false := by
  obtain ⟨e1, e2⟩ := (at_place (i := x * k + a) ha).2 rfl
  obtain ⟨e3, e4⟩ := (at_place (i := y * k + b) hb).2 rfl
  unfold pS scIn
  rw [e1, e2, e3, e4]
  have h1 : (⟨(x : Int), (y : Int)⟩ : Cell) ∉ C.take n := fun hm => by
    obtain ⟨i, hi, e⟩ := List.getElem_of_mem hm
    rw [List.length_take] at hi
    rw [List.getElem_take] at e
    obtain ⟨hn', e'⟩ := List.getElem?_eq_some_iff.1 h
    have := List.pairwise_iff_getElem.1 hn i n (by omega) hn' (by omega)
    exact this (e.trans e'.symm)
  rw [decide_eq_false h1]
  simp
end Go.Proofs.YtjkppigjajknaaaGreatDoor

namespace Go.Proofs.YtjkppigjajknaaaGreatDoor
open Go.RowKit

theorem made_intsZ {n : Nat} : (madeCells (#[.int .i64 0] : Array Value) n).toList = ic (List.replicate n 0) := by rw [toList_madeCells_one]; simp [ic]
set_option maxRecDepth 100000 in
set_option maxHeartbeats 800000 in
theorem impl_emptyGrid_c (a : Int) (n : Nat) (w : World) (hn : n ≤ 1000) :
    Calls Tryz.prog 192 #[.int .i64 a, .int .i64 n] w fun e w' => ∃ g, e = .returned (.agg #[.int .i64 a, .slice (some ⟨g, 0, none⟩) n n]) ∧ Sep w w' [Res.row (.slice (some ⟨g, 0, none⟩) n n) 3 1 n (ic (List.replicate n 0))] := by
  obtain ⟨i0, hi, hz0, hz1, hz2⟩ := info_parts infoIntC
  have hmk := fun W => run_make_rowN (P := Tryz.prog) 29 3 i0 _ Tryz.underlying29 hi hz0 .i64 .i64 n n (Nat.le_refl _) (by rw [hz2]; omega) (by omega) W
  rw [hz1, Nat.mul_one] at hmk
  change ∀ W : World, _ = Result.ok _ (W.alloc (.cells (madeCells #[.int .i64 0] n) 3)) at hmk
  have H := ((Sep.start w).box 36 #[.int .i64 a, .slice (some ⟨w.heap.size + 1, 0, none⟩) n n]).rowBox 3 (madeCells #[.int .i64 0] n) 1 n (by rw [size_madeCells, Nat.mul_one]) (by unfold maxLen; omega)
  rw [made_intsZ] at H
  simp only [World.size_alloc] at H
  go_enter Tryz.func192, Tryz.ntmps192
  go_wp2
  exact bodyPost_ret (v := .agg #[.int .i64 a, .slice (some ⟨w.heap.size + 1, 0, none⟩) n n]) (by simp [results, Tryz.results192, go_sem]) rfl ⟨_, rfl, H.drop2⟩
/-! numbers of the loops -/
theorem wrapN {a : Nat} (h : a < 9223372036854775808) : wrap64 (a : Int) = (a : Int) := IntWalk.wrap64_in _ ⟨by omega, by omega⟩
theorem small_row {l : List Nat} {n j W : Nat} {f : Nat → Nat → Bool} (hb : ∀ j, j < n → ∀ q, (l.getD j 0).testBit q = f q j) (hw : ∀ q j, f q j = true → q < W) (hW : W ≤ 6) (hj : j < n) : l.getD j 0 < 64 := by
  have h1 : l.getD j 0 < 2 ^ W := Nat.lt_pow_two_of_testBit _ fun i hi => by
    rw [hb j hj]
    cases hf : f i j
    · rfl
    · have := hw i j hf; omega
  have h2 : 2 ^ W ≤ 2 ^ 6 := Nat.pow_le_pow_right (by decide) hW
  omega
theorem nl_set {l : List Nat} {j m : Nat} : (ic (nl l)).set j (.int .i64 (m : Int)) = ic (nl (l.set j m)) := by simp [ic, nl, List.map_set]
theorem nl_at {l : List Nat} {j : Nat} (h : j < l.length) : (nl l)[j]? = some ((l.getD j 0 : Nat) : Int) := by
  simp [nl, List.getD_eq_getElem?_getD, List.getElem?_eq_getElem h]
theorem getD_set {l : List Nat} {j i m : Nat} (h : j < l.length) : (l.set j m).getD i 0 = if i = j then m else l.getD i 0 := by
  simp only [List.getD_eq_getElem?_getD]
  split
  · rename_i e
    subst e
    rw [List.getElem?_set_self h]
    rfl
  · rename_i e
    rw [List.getElem?_set_ne (fun h => e h.symm)]
theorem scB_nat {s : List Cell} {k : Int} {a n : Nat} (hs : isShape s = true) (hk : inR k 1 6 = true) (h1 : wdOf s * k = (a : Int)) (h2 : htOf s * k = (n : Int)) : scB s k = (decide (a ≤ 6) && decide (n ≤ 6)) := by
  unfold scB
  rw [hs, hk, h1, h2]
  by_cases ha : a ≤ 6
  · by_cases hn : n ≤ 6
    · rw [decide_eq_true ha, decide_eq_true hn, decide_eq_true (show (a : Int) ≤ 6 by omega), decide_eq_true (show (n : Int) ≤ 6 by omega)]; rfl
    · rw [decide_eq_true ha, decide_eq_false hn, decide_eq_true (show (a : Int) ≤ 6 by omega), decide_eq_false (show ¬ (n : Int) ≤ 6 by omega)]; rfl
  · rw [decide_eq_false ha, decide_eq_false (show ¬ (a : Int) ≤ 6 by omega)]; rfl
/-- the numbers of one step -/
structure ScN (x y kn b x0 y0 j0 : Nat) : Prop where
  y2 : wrap64 ((y : Int) * (kn : Int)) = (y0 : Int)
  y3 : IntKind.i64.wrap ((y : Int) * (kn : Int)) = (y0 : Int)
  y4 : wrap64 ((y0 : Int) + (b : Int)) = (j0 : Int)
  y5 : IntKind.i64.wrap ((y0 : Int) + (b : Int)) = (j0 : Int)
  x3 : wrap64 ((x : Int) * (kn : Int)) = (x0 : Int)
  x4 : IntKind.i64.wrap ((x : Int) * (kn : Int)) = (x0 : Int)
theorem scN {x y kn b x0 y0 j0 : Nat} (hx : x0 = x * kn) (hy : y0 = y * kn) (hj : j0 = y0 + b) (h1 : x0 ≤ 64) (h2 : j0 ≤ 64) : ScN x y kn b x0 y0 j0 := by
  have y1 : (y : Int) * (kn : Int) = (y0 : Int) := by rw [hy]; simp
  have x1 : (x : Int) * (kn : Int) = (x0 : Int) := by rw [hx]; simp
  have y2 : wrap64 ((y : Int) * (kn : Int)) = (y0 : Int) := by rw [y1]; exact wrapN (by omega)
  have y4 : wrap64 ((y0 : Int) + (b : Int)) = (j0 : Int) := by rw [show (y0 : Int) + (b : Int) = (j0 : Int) by omega]; exact wrapN (by omega)
  have x3 : wrap64 ((x : Int) * (kn : Int)) = (x0 : Int) := by rw [x1]; exact wrapN (by omega)
  exact ⟨y2, by rw [y1]; exact IntWalk.i64_in _ (by omega), y4, by rw [show (y0 : Int) + (b : Int) = (j0 : Int) by omega]; exact IntWalk.i64_in _ (by omega), x3, by rw [x1]; exact IntWalk.i64_in _ (by omega)⟩
theorem scPow : ∀ kn : Fin 7, ∀ x0 : Fin 7, x0.val + kn.val ≤ 6 → wrap64 ((2 : Int) ^ kn.val) = ((2 ^ kn.val : Nat) : Int) ∧ wrap64 (((2 ^ kn.val : Nat) : Int) - 1) = ((2 ^ kn.val - 1 : Nat) : Int) ∧ wrap64 (((2 ^ kn.val - 1 : Nat) : Int) * 2 ^ x0.val) = (((2 ^ kn.val - 1) * 2 ^ x0.val : Nat) : Int) ∧ (2 ^ kn.val - 1) * 2 ^ x0.val < 64 := by decide +kernel
/-- the block's number, step by step -/
structure ScB (kn x0 : Nat) (p q t : Nat) : Prop where
  z1 : wrap64 ((2 : Int) ^ kn) = (p : Int)
  z2 : wrap64 ((p : Int) - 1) = (q : Int)
  z3 : min x0 64 = x0
  z4 : wrap64 ((q : Int) * 2 ^ x0) = (t : Int)
  z5 : t < 64
theorem scBk {kn x0 : Nat} (h : x0 + kn ≤ 6) : ScB kn x0 (2 ^ kn) (2 ^ kn - 1) ((2 ^ kn - 1) * 2 ^ x0) := by
  obtain ⟨h1, h2, h3, h4⟩ := scPow ⟨kn, by omega⟩ ⟨x0, by omega⟩ h
  exact ⟨h1, h2, by omega, h3, h4⟩
theorem pI_lt {C : List Cell} {k n x y b q j W H : Nat} (hk : 1 ≤ k) (hC : ∀ c ∈ C, ∃ x y : Nat, c = ⟨(x : Int), (y : Int)⟩ ∧ x < W ∧ y < H) (hx : x < W) (h : pI C k n x y b q j = true) : q < W * k := by
  unfold pI at h
  rw [Bool.or_eq_true] at h
  rcases h with h | h
  · obtain ⟨x', y', e, h1, _⟩ := hC _ (List.mem_of_mem_take (of_decide_eq_true h))
    injection e with e1 e2
    have e1 : q / k = x' := by omega
    rw [← e1] at h1
    exact (Nat.div_lt_iff_lt_mul hk).1 h1
  · rw [Bool.and_eq_true, decide_eq_true_eq] at h
    rw [← h.1] at hx
    exact (Nat.div_lt_iff_lt_mul hk).1 hx
/-- one more row of a cell's square -/
theorem pI_put {D : List Cell} {l2 : List Nat} {n kn i x y b x0 y0 j0 r t u : Nat} (hk : 1 ≤ kn) (hl : l2.length = n) (hjn : j0 < n) (hx : x0 = x * kn) (hy : y0 = y * kn) (hj : j0 = y0 + b) (hr : r = l2.getD j0 0) (ht : t = (2 ^ kn - 1) * 2 ^ x0) (hu : u = r ||| t)
    (hb : ∀ j, j < n → ∀ q, (l2.getD j 0).testBit q = pI D kn i x y b q j) : ∀ j, j < n → ∀ q, ((l2.set j0 u).getD j 0).testBit q = pI D kn i x y (b + 1) q j := fun j hjj q => by
  rw [getD_set (by omega), pI_next]
  split
  · rename_i e
    subst e
    rw [hu, Nat.testBit_or, hr, hb j hjj q, ht, hx, blk_bit hk, decide_eq_true (show j = y * kn + b by omega), Bool.and_true]
  · rename_i e
    rw [hb j hjj q, decide_eq_false (show ¬ j = y * kn + b by omega), Bool.and_false, Bool.or_false]
set_option maxRecDepth 100000 in
set_option maxHeartbeats 6400000 in
theorem impl_scaled_c {v : Value} {s : List Cell} (k : Int) (w : World) (h : CellsRd w 0 w.heap.size v s) (hl : s.length ≤ 1048576) (hk : -100 ≤ k ∧ k ≤ 100) :
    Calls Tryz.prog 163 #[v, .int .i64 k] w fun e w' => ∃ v', e = .returned (.tuple #[v', .bool (scB s k)]) ∧ RegIn w' w.heap.size w'.heap.size v' (scX s k) ∧ Below w.heap.size w w' := by
  have H0 := (Sep.start w).box 36 #[.int .i64 0, .slice none 0 0]
  have HCR : Hid (∀ w', Below w.heap.size w w' → CellsRd w' 0 w'.heap.size v s) := Lib.hid fun w' b => (h.keep (SameIn.of_below b (Nat.le_refl _))).more (Nat.le_refl _) b.size
  obtain ⟨B, hB⟩ : ∃ B, B = scB s k := ⟨_, rfl⟩
  obtain ⟨X, hX⟩ : ∃ X, X = scX s k := ⟨_, rfl⟩
  have HNO : Hid (B = false → X = ⟨0, []⟩) := Lib.hid fun hb => by rw [hX, scX, ← hB, hb]; rfl
  rw [← hB, ← hX]
  obtain ⟨A, c, rfl, _, _⟩ := id h
  have HSZ : Hid (∀ w', Below w.heap.size w w' → Calls Tryz.prog 191 #[.slice A s.length c] w' fun e w'' => e = .returned (.tuple #[.int .i64 (szW s), .int .i64 (szH s)]) ∧ Below w'.heap.size w' w'') := Lib.hid fun w' b => impl_size_c w' (HCR.out w' b) hl
  have HSH : Hid (∀ w', Below w.heap.size w w' → Calls Tryz.prog 27 #[.slice A s.length c] w' fun e w'' => e = .returned (.bool (isShape s)) ∧ Below w'.heap.size w' w'') := Lib.hid fun w' b => impl_isShape_c w' (HCR.out w' b) hl
  have HBD := Lib.hid hB
  have HXD := Lib.hid hX
  clear hB hX h
  go_enter Tryz.func163, Tryz.ntmps163
  go_wp2_with fail
  obtain ⟨gz, hgz⟩ : ∃ gz : World, gz = w := ⟨_, rfl⟩
  subst hgz
  generalize gz.alloc (.cells #[.int .i64 0, .slice none 0 0] 36) = W0 at *
  refine (HSZ.out _ H0.below).mono ?_
  rintro e w1 ⟨rfl, b1⟩
  have H1 := H0.step b1
  clear H0 b1 HSZ
  go_wp2_with fail
  refine (HSH.out _ H1.below).mono ?_
  rintro e w2 ⟨rfl, b2⟩
  have H := H1.step b2
  clear H1 b2 HSH
  cases hsh : isShape s
  · obtain rfl : B = false := by rw [HBD.out, scB, hsh]; rfl
    clear hsh
    have z0 := H.h0.cell 0
    have z1 := H.h0.cell 1
    have f0 := H.h0.frozen 0
    have f1 := H.h0.frozen 1
    have Hf := (H.set_ 0 (.int .i64 0)).set_ 1 (.slice none 0 0)
    have u0 := Hf.h0.cell 0
    have u1 := Hf.h0.cell 1
    simp at u0 u1
    have e0 := HNO.out (by first | rfl | trivial)
    clear H
    go_wp2
    exact bodyPost_ret (v := .tuple #[.agg #[.int .i64 0, .slice none 0 0], .bool false]) (by simp [results, Tryz.results163, go_sem, u0, u1]) rfl ⟨_, rfl, by rw [e0]; exact ⟨_, rfl, IntsIn.nil⟩, Hf.below⟩
  · obtain ⟨Wn, Hn, eW, eH, hW1, hH1, hW8, hH8, hC⟩ := shp_nat hsh
    have eW2 : szW s = (Wn : Int) := by rw [szW, if_pos hsh, eW]
    have eH2 : szH s = (Hn : Int) := by rw [szH, if_pos hsh, eH]
    rw [eW2, eH2]
    by_cases hk6 : 1 ≤ k ∧ k ≤ 6
    rotate_left
    · have hkB : inR k 1 6 = false := inR_f hk6
      have hs1 : (decide (1 ≤ k) && decide (k ≤ 6)) = false := hkB
      obtain rfl : B = false := by rw [HBD.out, scB, hsh, hkB]; rfl
      clear hsh hkB hk6 eW eH eW2 eH2 hC
      go_wp2_with fail
      refine (isSide_c k _).mono ?_
      rintro e w3 ⟨rfl, rfl⟩
      rw [hs1]
      clear hs1
      have z0 := H.h0.cell 0
      have z1 := H.h0.cell 1
      have f0 := H.h0.frozen 0
      have f1 := H.h0.frozen 1
      have Hf := (H.set_ 0 (.int .i64 0)).set_ 1 (.slice none 0 0)
      have u0 := Hf.h0.cell 0
      have u1 := Hf.h0.cell 1
      simp at u0 u1
      have e0 := HNO.out (by first | rfl | trivial)
      clear H
      go_wp2
      exact bodyPost_ret (v := .tuple #[.agg #[.int .i64 0, .slice none 0 0], .bool false]) (by simp [results, Tryz.results163, go_sem, u0, u1]) rfl ⟨_, rfl, by rw [e0]; exact ⟨_, rfl, IntsIn.nil⟩, Hf.below⟩
    obtain ⟨kn, rfl⟩ : ∃ kn : Nat, k = (kn : Int) := ⟨k.toNat, by omega⟩
    have hs1 : (decide ((1 : Int) ≤ (kn : Int)) && decide ((kn : Int) ≤ 6)) = true := by simp; omega
    have hkB : inR (kn : Int) 1 6 = true := hs1
    obtain ⟨a, ha⟩ : ∃ a, a = Wn * kn := ⟨_, rfl⟩
    obtain ⟨n, hn⟩ : ∃ n, n = Hn * kn := ⟨_, rfl⟩
    have ha48 : a ≤ 48 := by rw [ha]; exact Nat.mul_le_mul hW8 (show kn ≤ 6 by omega)
    have hn48 : n ≤ 48 := by rw [hn]; exact Nat.mul_le_mul hH8 (show kn ≤ 6 by omega)
    have ea : (Wn : Int) * (kn : Int) = (a : Int) := by rw [ha]; simp
    have en : (Hn : Int) * (kn : Int) = (n : Int) := by rw [hn]; simp
    have e1 : wrap64 ((Wn : Int) * (kn : Int)) = (a : Int) := by rw [ea]; exact wrapN (by omega)
    have e2 : wrap64 ((Hn : Int) * (kn : Int)) = (n : Int) := by rw [en]; exact wrapN (by omega)
    have hBe : B = (decide (a ≤ 6) && decide (n ≤ 6)) := HBD.out.trans (scB_nat hsh hkB (by rw [eW]; exact ea) (by rw [eH]; exact en))
    have HA := Lib.hid ha
    have HN := Lib.hid hn
    have HBE := Lib.hid hBe
    have HSHP := Lib.hid hsh
    have HCX := Lib.hid hC
    have HEW := Lib.hid eW
    have HEH := Lib.hid eH
    clear ha hn ea en hBe hsh hC eW eH eW2 eH2 hkB
    go_wp2_with fail
    refine (isSide_c (kn : Int) _).mono ?_
    rintro e w3 ⟨rfl, rfl⟩
    rw [hs1]
    clear hs1
    by_cases ha6 : a ≤ 6
    rotate_left
    · obtain rfl : B = false := by rw [HBE.out, decide_eq_false ha6]; rfl
      have hd : decide ((6 : Int) < (a : Int)) = true := by simp; omega
      have z0 := H.h0.cell 0
      have z1 := H.h0.cell 1
      have f0 := H.h0.frozen 0
      have f1 := H.h0.frozen 1
      have Hf := (H.set_ 0 (.int .i64 0)).set_ 1 (.slice none 0 0)
      have u0 := Hf.h0.cell 0
      have u1 := Hf.h0.cell 1
      simp at u0 u1
      have e0 := HNO.out (by first | rfl | trivial)
      clear H
      go_wp2
      exact bodyPost_ret (v := .tuple #[.agg #[.int .i64 0, .slice none 0 0], .bool false]) (by simp [results, Tryz.results163, go_sem, u0, u1]) rfl ⟨_, rfl, by rw [e0]; exact ⟨_, rfl, IntsIn.nil⟩, Hf.below⟩
    by_cases hn6 : n ≤ 6
    rotate_left
    · obtain rfl : B = false := by rw [HBE.out, decide_eq_false hn6, Bool.and_false]
      have hd : decide ((6 : Int) < (a : Int)) = false := by simp; omega
      have hd2 : decide ((6 : Int) < (n : Int)) = true := by simp; omega
      have z0 := H.h0.cell 0
      have z1 := H.h0.cell 1
      have f0 := H.h0.frozen 0
      have f1 := H.h0.frozen 1
      have Hf := (H.set_ 0 (.int .i64 0)).set_ 1 (.slice none 0 0)
      have u0 := Hf.h0.cell 0
      have u1 := Hf.h0.cell 1
      simp at u0 u1
      have e0 := HNO.out (by first | rfl | trivial)
      clear H
      go_wp2
      exact bodyPost_ret (v := .tuple #[.agg #[.int .i64 0, .slice none 0 0], .bool false]) (by simp [results, Tryz.results163, go_sem, u0, u1]) rfl ⟨_, rfl, by rw [e0]; exact ⟨_, rfl, IntsIn.nil⟩, Hf.below⟩
    obtain rfl : B = true := by rw [HBE.out, decide_eq_true ha6, decide_eq_true hn6]; rfl
    have hd : decide ((6 : Int) < (a : Int)) = false := by simp; omega
    have hd2 : decide ((6 : Int) < (n : Int)) = false := by simp; omega
    go_wp2_with fail
    refine (impl_emptyGrid_c (a : Int) n _ (by omega)).mono ?_
    rintro e w4 ⟨g, rfl, H4⟩
    have H5 := (H4.join H).box 36 #[.int .i64 (a : Int), .slice (some ⟨g, 0, none⟩) n n]
    simp only [List.cons_append, List.nil_append] at H5
    clear H4 H HNO hd hd2 e1 e2
    go_upto_region 5 with fail
    obtain ⟨g8, hg8⟩ : ∃ k, k = w4.heap.size := ⟨_, rfl⟩
    rw [← hg8] at H5 ⊢
    generalize w4.alloc (.cells #[.int .i64 (a : Int), .slice (some ⟨g, 0, none⟩) n n] 36) = w5 at *
    clear hg8
    have hls := shp_len HSHP.out
    have HCO : Hid (Calls Tryz.prog 115 #[.slice A s.length c] w5 fun e w' => ∃ v', e = .returned v' ∧ CellsIn w' w5.heap.size w'.heap.size v' (corner s) ∧ Below w5.heap.size w5 w') := Lib.hid (by
      have := impl_corner_c w5 (HCR.out _ H5.below) hls.1 (by omega) (shp_sml5 HSHP.out)
      rw [sort_shp HSHP.out] at this
      exact this)
    have hDl : (corner s).length = s.length := by unfold corner; rw [shift_length]
    have HXE : Hid (∀ l : List Nat, l.length = n → (∀ j, j < n → ∀ q, (l.getD j 0).testBit q = scIn (corner s) kn q j) → X = ⟨(a : Int), nl l⟩) := Lib.hid (fun l hl2 hb2 => by
      rw [HXD.out, scX, ← HBD.out, if_pos rfl, Int.toNat_natCast, scR, HEW.out, HEH.out]
      have ea : (Wn : Int) * (kn : Int) = (a : Int) := by rw [HA.out]; simp
      have en : (Hn : Int) * (kn : Int) = (n : Int) := by rw [HN.out]; simp
      rw [ea, en, Int.toNat_natCast, Int.toNat_natCast, rows_end hl2 hb2 (W := a) (fun i j h => by rw [HA.out]; exact (scIn_lt (by omega) HCX.out h).1)])
    obtain ⟨D, hD⟩ : ∃ D, D = corner s := ⟨_, rfl⟩
    rw [← hD] at HCO hDl HXE HCX
    obtain ⟨m, hm⟩ : ∃ m, m = D.length := ⟨_, rfl⟩
    have hm8 : 1 ≤ m ∧ m ≤ 8 := by omega
    have HM := Lib.hid hm
    clear hD hDl hm hls
    go_wp2_with fail
    refine (HCO.out).mono ?_
    rintro e w6 ⟨vD, rfl, oD, bD⟩
    have H6 := H5.oiNew bD oD
    have H6 : Sep gz w6 [Res.row vD 49 2 m (cc D), Res.box g8 36 #[.int .i64 (a : Int), .slice (some ⟨g, 0, none⟩) n n], Res.row (.slice (some ⟨g, 0, none⟩) n n) 3 1 n (ic (List.replicate n 0)), Res.box gz.heap.size 36 #[.int .i64 0, .slice none 0 0]] := by rw [HM.out]; exact H6
    obtain ⟨gD, oD', cD, rfl, _, _, _⟩ := own_shape H6.h0 (by omega)
    obtain ⟨rfl, _⟩ := own_blk H6.h0
    have H7 : Sep gz w6 [Res.row (.slice (some ⟨g, 0, none⟩) n n) 3 1 n (ic (nl (List.replicate n 0))), Res.row (.slice (some ⟨gD, 0, none⟩) m cD) 49 2 m (cc D), Res.box g8 36 #[.int .i64 (a : Int), .slice (some ⟨g, 0, none⟩) n n], Res.box gz.heap.size 36 #[.int .i64 0, .slice none 0 0]] := by
      have := H6.g2
      simpa [nl] using this
    clear H5 H6 HCO oD bD
    go_wp2
    go_loopw [48] (fun iv wx => ∃ (i : Nat) (l : List Nat), i ≤ m ∧ iv = .int .i64 i ∧ Hid (l.length = n) ∧ Hid (∀ j, j < n → ∀ q, (l.getD j 0).testBit q = scIn (D.take i) kn q j) ∧
      Sep gz wx [Res.row (.slice (some ⟨g, 0, none⟩) n n) 3 1 n (ic (nl l)), Res.row (.slice (some ⟨gD, 0, none⟩) m cD) 49 2 m (cc D), Res.box g8 36 #[.int .i64 (a : Int), .slice (some ⟨g, 0, none⟩) n n], Res.box gz.heap.size 36 #[.int .i64 0, .slice none 0 0]]) (fun iv _ => m - (intOf iv).toNat)
    case atStart => exact ⟨0, List.replicate n 0, Nat.zero_le _, rfl, Lib.hid (by simp), Lib.hid (fun j hj q => by simp [scIn, List.getD_eq_getElem?_getD, hj]), H7⟩
    case round =>
      clear H7
      obtain ⟨i, l, hi, rfl, HL, HBT, H⟩ := hrel
      by_cases hlt : i < m
      · obtain ⟨d, hd⟩ : ∃ d, D[i]? = some d := ⟨D[i]'(by rw [← HM.out]; exact hlt), List.getElem?_eq_getElem _⟩
        obtain ⟨x, y, rfl, hx, hy⟩ := HCX.out d (List.mem_of_getElem? hd)
        obtain ⟨q1, q2⟩ := own_cell2 H.h1 hd
        simp only [Nat.zero_add] at q1 q2
        have HDI := Lib.hid hd
        have H1 := (H.box 49 #[.int .i64 (x : Int), .int .i64 (y : Int)]).g1
        clear H hd
        go_upto_region 8 with fail
        clear q1 q2
        obtain ⟨g10, hg10⟩ : ∃ k, k = wr.heap.size := ⟨_, rfl⟩
        rw [← hg10] at H1 ⊢
        generalize wr.alloc (.cells #[.int .i64 (x : Int), .int .i64 (y : Int)] 49) = w7 at *
        clear hg10
        go_wp2
        go_loopw [53] (fun jv wx => ∃ (b : Nat) (l : List Nat), b ≤ kn ∧ jv = .int .i64 b ∧ Hid (l.length = n) ∧ Hid (∀ j, j < n → ∀ q, (l.getD j 0).testBit q = pI D kn i x y b q j) ∧
          Sep gz wx [Res.row (.slice (some ⟨g, 0, none⟩) n n) 3 1 n (ic (nl l)), Res.box g10 49 #[.int .i64 (x : Int), .int .i64 (y : Int)], Res.row (.slice (some ⟨gD, 0, none⟩) m cD) 49 2 m (cc D), Res.box g8 36 #[.int .i64 (a : Int), .slice (some ⟨g, 0, none⟩) n n], Res.box gz.heap.size 36 #[.int .i64 0, .slice none 0 0]]) (fun jv _ => kn - (intOf jv).toNat)
        case atStart => exact ⟨0, l, Nat.zero_le _, rfl, HL, Lib.hid (fun j hj q => by rw [pI_start]; exact HBT.out j hj q), H1⟩
        case round =>
          clear H1 HL HBT
          obtain ⟨b, l2, hb, rfl, HL, HBT, H⟩ := hrel
          by_cases hbk : b < kn
          · obtain ⟨j0, hj0⟩ : ∃ j0, j0 = y * kn + b := ⟨_, rfl⟩
            have hjn : j0 < n := by
              rw [hj0, HN.out]
              have : (y + 1) * kn ≤ Hn * kn := Nat.mul_le_mul_right _ hy
              rw [Nat.add_mul] at this
              omega
            obtain ⟨x0, hx0⟩ : ∃ x0, x0 = x * kn := ⟨_, rfl⟩
            have hxa : x0 + kn ≤ a := by
              rw [hx0, HA.out]
              have : (x + 1) * kn ≤ Wn * kn := Nat.mul_le_mul_right _ hx
              rw [Nat.add_mul] at this
              omega
            obtain ⟨r, hr⟩ : ∃ r, r = l2.getD j0 0 := ⟨_, rfl⟩
            have r1 := own_cell1 H.h0 (nl_at (l := l2) (j := j0) (by rw [HL.out]; exact hjn))
            rw [← hr] at r1
            simp only [Nat.zero_add] at r1
            have x1 := H.h3.cell 1
            have p0 := H.h1.cell 0
            have p1 := H.h1.cell 1
            have fr := own_free H.drew.h0 j0
            simp at x1 p0 p1
            rw [Nat.zero_add] at fr
            have hr64 : r < 64 := by
              rw [hr]
              exact small_row HBT.out (W := a) (fun q j hf => by rw [HA.out]; exact pI_lt (Int.ofNat_le.1 hk6.1) HCX.out hx hf) ha6 hjn
            obtain ⟨y0, hy0⟩ : ∃ y0, y0 = y * kn := ⟨_, rfl⟩
            have hyj : j0 = y0 + b := by rw [hj0, hy0]
            obtain ⟨y2, y3, y4, y5, x3, x4⟩ := scN (b := b) hx0 hy0 hyj (Nat.le_trans (Nat.le_add_right _ kn) (Nat.le_trans hxa (Nat.le_trans ha6 (by decide)))) (Nat.le_trans (Nat.le_of_lt hjn) (Nat.le_trans hn6 (by decide)))
            have hjn2 : (j0 : Int) < (n : Int) := Int.ofNat_lt.2 hjn
            have hjn3 : (0 : Int) ≤ (j0 : Int) := Int.natCast_nonneg _
            have HX0 := Lib.hid hx0
            have HY0 := Lib.hid hy0
            have HJ0 := Lib.hid hyj
            have HR := Lib.hid hr
            clear hj0 hx0 hr hy0 hyj
            obtain ⟨p, hp⟩ : ∃ p, p = 2 ^ kn := ⟨_, rfl⟩
            obtain ⟨q, hq⟩ : ∃ q, q = 2 ^ kn - 1 := ⟨_, rfl⟩
            obtain ⟨t, ht⟩ : ∃ t, t = (2 ^ kn - 1) * 2 ^ x0 := ⟨_, rfl⟩
            have hsb := scBk (kn := kn) (x0 := x0) (Nat.le_trans hxa ha6)
            rw [← ht, ← hq, ← hp] at hsb
            obtain ⟨z1, z2, z3, z4, z5⟩ := hsb
            have z6 : bits .or .i64 (r : Int) (t : Int) = ((r ||| t : Nat) : Int) := i64_or_nat r t (Nat.lt_trans hr64 (by decide)) (Nat.lt_trans z5 (by decide))
            obtain ⟨u, hu⟩ : ∃ u, u = r ||| t := ⟨_, rfl⟩
            rw [← hu] at z6
            have HT := Lib.hid ht
            have HU := Lib.hid hu
            have H1 := H.drew.setRow (j := j0) (by rw [ic_length, nl, List.length_map, HL.out]; exact hjn) (.int .i64 (u : Int))
            rw [nl_set, Nat.zero_add] at H1
            clear hp hq ht hu H
            go_wp2_with fail
            refine wp_region_stq 20 (by kernel_rfl) (by kernel_rfl) ?_
            simp only [List.take_succ_cons, List.take_zero, List.drop_succ_cons, List.drop_zero]
            repeat (first | go_big_quiet_skip | (go_big_quiet_want; go_big_quiet_op; first | go_big_quiet_on | (apply Exists.intro; refine ⟨?_, ?_⟩; focus (fail); go_big_quiet_on)))
            refine wpQuiet_nil ?_
            have HPUT := Lib.hid (pI_put (Int.ofNat_le.1 hk6.1) HL.out hjn HX0.out HY0.out HJ0.out HR.out HT.out HU.out HBT.out)
            have HLEN := Lib.hid (show (l2.set j0 u).length = n by rw [List.length_set]; exact HL.out)
            clear y2 y3 y4 y5 x3 x4 z1 z2 z3 z4 z5
            go_wp2
            clear x1 p0 p1 fr z6 r1
            go_roundw
            case rel => exact ⟨b + 1, l2.set j0 u, by omega, by go_num, HLEN, HPUT, H1⟩
            case measure => simp [intOf]; omega
          · obtain rfl : b = kn := by omega
            have HB2 : Hid (∀ j, j < n → ∀ q, (l2.getD j 0).testBit q = scIn (D.take (i + 1)) b q j) := Lib.hid (fun j hj q => by rw [HBT.out j hj q, pI_end (Int.ofNat_le.1 hk6.1) HDI.out])
            have H2 := H.drop2
            clear H HBT
            go_wp2
            go_roundw
            case rel => exact ⟨i + 1, l2, by omega, by go_num, HL, HB2, H2⟩
            case measure => simp [intOf]; omega
      · obtain rfl : i = m := by omega
        have HXF : Hid (X = ⟨(a : Int), nl l⟩) := Lib.hid (HXE.out l HL.out (fun j hj q => by rw [HBT.out j hj q, HM.out, List.take_length]))
        have x0 := H.h2.cell 0
        have x1 := H.h2.cell 1
        have z0 := H.h3.cell 0
        have z1 := H.h3.cell 1
        have f0 := H.h3.frozen 0
        have f1 := H.h3.frozen 1
        simp at x0 x1 z0 z1
        have Hf := (H.g3.set_ 0 (.int .i64 (a : Int))).set_ 1 (.slice (some ⟨g, 0, none⟩) n n)
        have u0 := Hf.h0.cell 0
        have u1 := Hf.h0.cell 1
        simp at u0 u1
        clear H
        go_wp2
        exact bodyPost_ret (v := .tuple #[.agg #[.int .i64 (a : Int), .slice (some ⟨g, 0, none⟩) n n], .bool true]) (by simp [results, Tryz.results163, go_sem, u0, u1]) rfl ⟨_, rfl, by rw [HXF.out]; exact ⟨_, rfl, IntsIn.mk Hf.g1.oi.1 (by simp [nl, HL.out]) rfl⟩, Hf.below⟩
end Go.Proofs.YtjkppigjajknaaaGreatDoor

namespace Go.Proofs.YtjkppigjajknaaaGreatDoor
open Go.RowKit

theorem pS_lt {C : List Cell} {k n x y a b q j W H : Nat} (hk : 1 ≤ k) (hC : ∀ c ∈ C, ∃ x y : Nat, c = ⟨(x : Int), (y : Int)⟩ ∧ x < W ∧ y < H) (hx : x < W) (h : pS C k n x y a b q j = true) : q < W * k := by
  unfold pS at h
  rw [Bool.or_eq_true] at h
  rcases h with h | h
  · obtain ⟨x', y', e, h1, _⟩ := hC _ (List.mem_of_mem_take (of_decide_eq_true h))
    injection e with e1 e2
    have e1 : q / k = x' := by omega
    rw [← e1] at h1
    exact (Nat.div_lt_iff_lt_mul hk).1 h1
  · rw [Bool.and_eq_true, decide_eq_true_eq] at h
    rw [← h.1] at hx
    exact (Nat.div_lt_iff_lt_mul hk).1 hx
/-- one more place of a cell's square -/
theorem pS_put {D : List Cell} {l2 : List Nat} {n kn i x y a b x0 y0 i1 j0 r u : Nat} (ha : a < kn) (hb : b < kn) (hN : D.Nodup) (hd : D[i]? = some ⟨(x : Int), (y : Int)⟩) (hl : l2.length = n) (hjn : j0 < n) (hx : x0 = x * kn) (hi : i1 = x0 + a) (hy : y0 = y * kn) (hj : j0 = y0 + b) (hr : r = l2.getD j0 0) (hu : u = r + 2 ^ i1)
    (hbt : ∀ j, j < n → ∀ q, (l2.getD j 0).testBit q = pS D kn i x y a b q j) : ∀ j, j < n → ∀ q, ((l2.set j0 u).getD j 0).testBit q = pS D kn i x y a (b + 1) q j := fun j hjj q => by
  have hfree : r.testBit i1 = false := by
    rw [hr, hbt j0 hjn, hi, hx, hj, hy]
    exact pS_free ha hb hN hd
  rw [getD_set (by omega), pS_next ha hb]
  split
  · rename_i e
    subst e
    rw [hu, add_bit hfree, Nat.testBit_or, hr, hbt j hjj q, Nat.testBit_two_pow, decide_eq_true (show j = y * kn + b by omega), Bool.and_true, decide_eq_decide.2 (show i1 = q ↔ q = x * kn + a by omega)]
  · rename_i e
    rw [hbt j hjj q, decide_eq_false (show ¬ j = y * kn + b by omega), Bool.and_false, Bool.or_false]
/-- the numbers of one step -/
structure ScM (x y kn a b x0 y0 i1 j0 r p u : Nat) : Prop where
  y2 : wrap64 ((y : Int) * (kn : Int)) = (y0 : Int)
  y4 : wrap64 ((y0 : Int) + (b : Int)) = (j0 : Int)
  x3 : wrap64 ((x : Int) * (kn : Int)) = (x0 : Int)
  x5 : wrap64 ((x0 : Int) + (a : Int)) = (i1 : Int)
  z1 : wrap64 ((2 : Int) ^ i1) = (p : Int)
  z3 : min i1 64 = i1
  z4 : wrap64 ((r : Int) + (p : Int)) = (u : Int)
theorem scPow2 : ∀ i : Fin 7, wrap64 ((2 : Int) ^ i.val) = ((2 ^ i.val : Nat) : Int) ∧ 2 ^ i.val ≤ 64 := by decide +kernel
theorem scPw {i1 p : Nat} (h : i1 ≤ 6) (hp : p = 2 ^ i1) : wrap64 ((2 : Int) ^ i1) = (p : Int) ∧ p ≤ 64 := by
  rw [hp]
  exact scPow2 ⟨i1, Nat.lt_succ_of_le h⟩
theorem wrapA {x a i : Nat} (hi : i = x + a) (h : i < 9223372036854775808) : wrap64 ((x : Int) + (a : Int)) = (i : Int) := by rw [show (x : Int) + (a : Int) = (i : Int) by omega]; exact wrapN h
theorem scM {x y kn a b x0 y0 i1 j0 r p u : Nat} (hx : x0 = x * kn) (hy : y0 = y * kn) (hi : i1 = x0 + a) (hj : j0 = y0 + b) (h1 : i1 ≤ 6) (h2 : j0 ≤ 64) (hr : r < 64) (hz : wrap64 ((2 : Int) ^ i1) = (p : Int)) (hp : p ≤ 64) (hu : u = r + p) : ScM x y kn a b x0 y0 i1 j0 r p u := by
  have HZ := Lib.hid hz
  clear hz
  have q1 : x0 ≤ 64 := by omega
  have q2 : i1 < 9223372036854775808 := by omega
  have q3 : u < 9223372036854775808 := by omega
  have q4 : min i1 64 = i1 := by omega
  have hn := scN (b := b) hx hy hj q1 h2
  exact ⟨hn.y2, hn.y4, hn.x3, wrapA hi q2, HZ.out, q4, wrapA hu q3⟩
theorem scMul48 {a b c : Nat} (h : c = a * b) (h2 : c ≤ 48) : wrap64 ((a : Int) * (b : Int)) = (c : Int) := by
  rw [← Int.natCast_mul, ← h]
  exact wrapN (Nat.lt_of_le_of_lt h2 (by decide))
theorem sc6_t {a : Nat} (h : ¬ a ≤ 6) : decide ((6 : Int) < (a : Int)) = true := decide_eq_true (by omega)
theorem sc6_f {a : Nat} (h : a ≤ 6) : decide ((6 : Int) < (a : Int)) = false := decide_eq_false (by omega)
set_option maxRecDepth 100000 in
set_option maxHeartbeats 6400000 in
theorem spec_scaled_c {v : Value} {s : List Cell} (k : Int) (w : World) (h : CellsRd w 0 w.heap.size v s) (hl : s.length ≤ 1048576) (hk : -100 ≤ k ∧ k ≤ 100) :
    Calls Tryz.prog 150 #[v, .int .i64 k] w fun e w' => ∃ v', e = .returned (.tuple #[v', .bool (scB s k)]) ∧ RegIn w' w.heap.size w'.heap.size v' (scX s k) ∧ Below w.heap.size w w' := by
  obtain ⟨i0, hi0, hz0, hz1, hz2⟩ := info_parts infoIntC
  have H0 := (Sep.start w).box 36 #[.int .i64 0, .slice none 0 0]
  have HCR : Hid (∀ w', Below w.heap.size w w' → CellsRd w' 0 w'.heap.size v s) := Lib.hid fun w' b => (h.keep (SameIn.of_below b (Nat.le_refl _))).more (Nat.le_refl _) b.size
  obtain ⟨B, hB⟩ : ∃ B, B = scB s k := ⟨_, rfl⟩
  obtain ⟨X, hX⟩ : ∃ X, X = scX s k := ⟨_, rfl⟩
  have HNO : Hid (B = false → X = ⟨0, []⟩) := Lib.hid fun hb => by rw [hX, scX, ← hB, hb]; rfl
  rw [← hB, ← hX]
  obtain ⟨A, c, rfl, _, _⟩ := id h
  have HSZ : Hid (∀ w', Below w.heap.size w w' → Calls Tryz.prog 182 #[.slice A s.length c] w' fun e w'' => e = .returned (.tuple #[.int .i64 (szW s), .int .i64 (szH s)]) ∧ Below w'.heap.size w' w'') := Lib.hid fun w' b => spec_size_c w' (HCR.out w' b) hl
  have HSH : Hid (∀ w', Below w.heap.size w w' → Calls Tryz.prog 18 #[.slice A s.length c] w' fun e w'' => e = .returned (.bool (isShape s)) ∧ Below w'.heap.size w' w'') := Lib.hid fun w' b => spec_isShape_c w' (HCR.out w' b) hl
  have HBD := Lib.hid hB
  have HXD := Lib.hid hX
  clear hB hX h
  go_enter Tryz.func150, Tryz.ntmps150
  go_wp2_with fail
  obtain ⟨gz, hgz⟩ : ∃ gz : World, gz = w := ⟨_, rfl⟩
  subst hgz
  generalize gz.alloc (.cells #[.int .i64 0, .slice none 0 0] 36) = W0 at *
  refine (HSZ.out _ H0.below).mono ?_
  rintro e w1 ⟨rfl, b1⟩
  have H1 := H0.step b1
  clear H0 b1 HSZ
  go_wp2_with fail
  refine (HSH.out _ H1.below).mono ?_
  rintro e w2 ⟨rfl, b2⟩
  have H := H1.step b2
  clear H1 b2 HSH
  cases hsh : isShape s
  · obtain rfl : B = false := by rw [HBD.out, scB, hsh]; rfl
    clear hsh
    have z0 := H.h0.cell 0
    have z1 := H.h0.cell 1
    have f0 := H.h0.frozen 0
    have f1 := H.h0.frozen 1
    have Hf := (H.set_ 0 (.int .i64 0)).set_ 1 (.slice none 0 0)
    have u0 := Hf.h0.cell 0
    have u1 := Hf.h0.cell 1
    simp at u0 u1
    have e0 := HNO.out (by first | rfl | trivial)
    clear H
    go_wp2
    exact bodyPost_ret (v := .tuple #[.agg #[.int .i64 0, .slice none 0 0], .bool false]) (by simp [results, Tryz.results150, go_sem, u0, u1]) rfl ⟨_, rfl, by rw [e0]; exact ⟨_, rfl, IntsIn.nil⟩, Hf.below⟩
  · obtain ⟨Wn, Hn, eW, eH, hW1, hH1, hW8, hH8, hC⟩ := shp_nat hsh
    have eW2 : szW s = (Wn : Int) := by rw [szW, if_pos hsh, eW]
    have eH2 : szH s = (Hn : Int) := by rw [szH, if_pos hsh, eH]
    rw [eW2, eH2]
    by_cases hk6 : 1 ≤ k ∧ k ≤ 6
    rotate_left
    · have hkB : inR k 1 6 = false := inR_f hk6
      have hs1 : (decide (1 ≤ k) && decide (k ≤ 6)) = false := hkB
      obtain rfl : B = false := by rw [HBD.out, scB, hsh, hkB]; rfl
      clear hsh hkB hk6 eW eH eW2 eH2 hC
      go_wp2_with fail
      refine (l1In_r k 1 6 _).mono ?_
      rintro e w3 ⟨rfl, rfl⟩
      rw [show inR k 1 6 = false from hs1]
      clear hs1
      have z0 := H.h0.cell 0
      have z1 := H.h0.cell 1
      have f0 := H.h0.frozen 0
      have f1 := H.h0.frozen 1
      have Hf := (H.set_ 0 (.int .i64 0)).set_ 1 (.slice none 0 0)
      have u0 := Hf.h0.cell 0
      have u1 := Hf.h0.cell 1
      simp at u0 u1
      have e0 := HNO.out (by first | rfl | trivial)
      clear H
      go_wp2
      exact bodyPost_ret (v := .tuple #[.agg #[.int .i64 0, .slice none 0 0], .bool false]) (by simp [results, Tryz.results150, go_sem, u0, u1]) rfl ⟨_, rfl, by rw [e0]; exact ⟨_, rfl, IntsIn.nil⟩, Hf.below⟩
    obtain ⟨kn, rfl⟩ : ∃ kn : Nat, k = (kn : Int) := ⟨k.toNat, by omega⟩
    have hs1 : (decide ((1 : Int) ≤ (kn : Int)) && decide ((kn : Int) ≤ 6)) = true := by simp; omega
    have hkB : inR (kn : Int) 1 6 = true := hs1
    obtain ⟨a, ha⟩ : ∃ a, a = Wn * kn := ⟨_, rfl⟩
    obtain ⟨n, hn⟩ : ∃ n, n = Hn * kn := ⟨_, rfl⟩
    have ha48 : a ≤ 48 := by rw [ha]; exact Nat.mul_le_mul hW8 (show kn ≤ 6 by omega)
    have hn48 : n ≤ 48 := by rw [hn]; exact Nat.mul_le_mul hH8 (show kn ≤ 6 by omega)
    have ea : (Wn : Int) * (kn : Int) = (a : Int) := by rw [ha]; simp
    have en : (Hn : Int) * (kn : Int) = (n : Int) := by rw [hn]; simp
    have E1 := Lib.hid (scMul48 ha ha48)
    have E2 := Lib.hid (scMul48 hn hn48)
    have hBe : B = (decide (a ≤ 6) && decide (n ≤ 6)) := HBD.out.trans (scB_nat hsh hkB (by rw [eW]; exact ea) (by rw [eH]; exact en))
    have HA := Lib.hid ha
    have HN := Lib.hid hn
    have HBE := Lib.hid hBe
    have HSHP := Lib.hid hsh
    have HCX := Lib.hid hC
    have HEW := Lib.hid eW
    have HEH := Lib.hid eH
    clear ha hn ea en hBe hsh hC eW eH eW2 eH2 hkB
    go_wp2_with fail
    refine (l1In_r (kn : Int) 1 6 _).mono ?_
    rintro e w3 ⟨rfl, rfl⟩
    rw [show inR (kn : Int) 1 6 = true from hs1]
    clear hs1
    by_cases ha6 : a ≤ 6
    rotate_left
    · obtain rfl : B = false := by rw [HBE.out, decide_eq_false ha6]; rfl
      have hd : decide ((6 : Int) < (a : Int)) = true := sc6_t ha6
      have e1 := E1.out
      have e2 := E2.out
      clear E1 E2
      have z0 := H.h0.cell 0
      have z1 := H.h0.cell 1
      have f0 := H.h0.frozen 0
      have f1 := H.h0.frozen 1
      have Hf := (H.set_ 0 (.int .i64 0)).set_ 1 (.slice none 0 0)
      have u0 := Hf.h0.cell 0
      have u1 := Hf.h0.cell 1
      simp at u0 u1
      have e0 := HNO.out (by first | rfl | trivial)
      clear H
      go_wp2
      exact bodyPost_ret (v := .tuple #[.agg #[.int .i64 0, .slice none 0 0], .bool false]) (by simp [results, Tryz.results150, go_sem, u0, u1]) rfl ⟨_, rfl, by rw [e0]; exact ⟨_, rfl, IntsIn.nil⟩, Hf.below⟩
    by_cases hn6 : n ≤ 6
    rotate_left
    · obtain rfl : B = false := by rw [HBE.out, decide_eq_false hn6, Bool.and_false]
      have hd : decide ((6 : Int) < (a : Int)) = false := sc6_f ha6
      have hd2 : decide ((6 : Int) < (n : Int)) = true := sc6_t hn6
      have e1 := E1.out
      have e2 := E2.out
      clear E1 E2
      have z0 := H.h0.cell 0
      have z1 := H.h0.cell 1
      have f0 := H.h0.frozen 0
      have f1 := H.h0.frozen 1
      have Hf := (H.set_ 0 (.int .i64 0)).set_ 1 (.slice none 0 0)
      have u0 := Hf.h0.cell 0
      have u1 := Hf.h0.cell 1
      simp at u0 u1
      have e0 := HNO.out (by first | rfl | trivial)
      clear H
      go_wp2
      exact bodyPost_ret (v := .tuple #[.agg #[.int .i64 0, .slice none 0 0], .bool false]) (by simp [results, Tryz.results150, go_sem, u0, u1]) rfl ⟨_, rfl, by rw [e0]; exact ⟨_, rfl, IntsIn.nil⟩, Hf.below⟩
    obtain rfl : B = true := by rw [HBE.out, decide_eq_true ha6, decide_eq_true hn6]; rfl
    have hd : decide ((6 : Int) < (a : Int)) = false := sc6_f ha6
    have hd2 : decide ((6 : Int) < (n : Int)) = false := sc6_f hn6
    have hmk := fun W => run_make_rowN (P := Tryz.prog) 29 3 i0 _ Tryz.underlying29 hi0 hz0 .i64 .i64 n n (Nat.le_refl _) (by rw [hz2]; omega) (by omega) W
    rw [hz1, Nat.mul_one] at hmk
    change ∀ W : World, _ = Result.ok _ (W.alloc (.cells (madeCells #[.int .i64 0] n) 3)) at hmk
    have H5 := (H.rowBox 3 (madeCells #[.int .i64 0] n) 1 n (by rw [size_madeCells, Nat.mul_one]) (by unfold maxLen; omega)).box 36 #[.int .i64 (a : Int), .slice (some ⟨w2.heap.size, 0, none⟩) n n]
    rw [made_intsZ] at H5
    simp only [World.size_alloc] at H5
    clear H HNO
    have e1 := E1.out
    have e2 := E2.out
    clear E1 E2
    go_upto_region 5 with fail
    clear hmk e1 e2
    obtain ⟨g, hg⟩ : ∃ k, k = w2.heap.size := ⟨_, rfl⟩
    rw [← hg] at H5 ⊢
    generalize (w2.alloc (.cells (madeCells (#[.int .i64 0] : Array Value) n) 3)).alloc (.cells #[.int .i64 (a : Int), .slice (some ⟨g, 0, none⟩) n n] 36) = w5 at *
    clear hg
    have hls := shp_len HSHP.out
    have HCO := Lib.hid (cornerShape_c w5 (HCR.out _ H5.below) HSHP.out)
    have HDN : Hid (corner s).Nodup := Lib.hid (srt_nodup (srt_corner (shp_srt HSHP.out)))
    have hDl : (corner s).length = s.length := by unfold corner; rw [shift_length]
    have HXE : Hid (∀ l : List Nat, l.length = n → (∀ j, j < n → ∀ q, (l.getD j 0).testBit q = scIn (corner s) kn q j) → X = ⟨(a : Int), nl l⟩) := Lib.hid (fun l hl2 hb2 => by
      rw [HXD.out, scX, ← HBD.out, if_pos rfl, Int.toNat_natCast, scR, HEW.out, HEH.out]
      have ea : (Wn : Int) * (kn : Int) = (a : Int) := by rw [HA.out]; simp
      have en : (Hn : Int) * (kn : Int) = (n : Int) := by rw [HN.out]; simp
      rw [ea, en, Int.toNat_natCast, Int.toNat_natCast, rows_end hl2 hb2 (W := a) (fun i j h => by rw [HA.out]; exact (scIn_lt (by omega) HCX.out h).1)])
    obtain ⟨D, hD⟩ : ∃ D, D = corner s := ⟨_, rfl⟩
    rw [← hD] at HCO hDl HXE HCX HDN
    obtain ⟨m, hm⟩ : ∃ m, m = D.length := ⟨_, rfl⟩
    have hm8 : 1 ≤ m ∧ m ≤ 8 := by omega
    have HM := Lib.hid hm
    clear hD hDl hm hls
    go_wp2_with fail
    refine (HCO.out).mono ?_
    rintro e w6 ⟨vD, rfl, oD, bD⟩
    have H6 := H5.oiNew bD oD
    have H6 : Sep gz w6 [Res.row vD 49 2 m (cc D), Res.box (g + 1) 36 #[.int .i64 (a : Int), .slice (some ⟨g, 0, none⟩) n n], Res.row (.slice (some ⟨g, 0, none⟩) n n) 3 1 n (ic (List.replicate n 0)), Res.box gz.heap.size 36 #[.int .i64 0, .slice none 0 0]] := by rw [HM.out]; exact H6
    obtain ⟨gD, oD', cD, rfl, _, _, _⟩ := own_shape H6.h0 (by omega)
    obtain ⟨rfl, _⟩ := own_blk H6.h0
    have H7 : Sep gz w6 [Res.row (.slice (some ⟨g, 0, none⟩) n n) 3 1 n (ic (nl (List.replicate n 0))), Res.row (.slice (some ⟨gD, 0, none⟩) m cD) 49 2 m (cc D), Res.box (g + 1) 36 #[.int .i64 (a : Int), .slice (some ⟨g, 0, none⟩) n n], Res.box gz.heap.size 36 #[.int .i64 0, .slice none 0 0]] := by
      have := H6.g2
      simpa [nl] using this
    clear H5 H6 HCO oD bD
    go_wp2
    go_loopw [10] (fun iv wx => ∃ (i : Nat) (l : List Nat), i ≤ m ∧ iv = .int .i64 i ∧ Hid (l.length = n) ∧ Hid (∀ j, j < n → ∀ q, (l.getD j 0).testBit q = scIn (D.take i) kn q j) ∧
      Sep gz wx [Res.row (.slice (some ⟨g, 0, none⟩) n n) 3 1 n (ic (nl l)), Res.row (.slice (some ⟨gD, 0, none⟩) m cD) 49 2 m (cc D), Res.box (g + 1) 36 #[.int .i64 (a : Int), .slice (some ⟨g, 0, none⟩) n n], Res.box gz.heap.size 36 #[.int .i64 0, .slice none 0 0]]) (fun iv _ => m - (intOf iv).toNat)
    case atStart => exact ⟨0, List.replicate n 0, Nat.zero_le _, rfl, Lib.hid (by simp), Lib.hid (fun j hj q => by simp [scIn, List.getD_eq_getElem?_getD, hj]), H7⟩
    case round =>
      clear H7
      obtain ⟨i, l, hi, rfl, HL, HBT, H⟩ := hrel
      by_cases hlt : i < m
      · obtain ⟨d, hd⟩ : ∃ d, D[i]? = some d := ⟨D[i]'(by rw [← HM.out]; exact hlt), List.getElem?_eq_getElem _⟩
        obtain ⟨x, y, rfl, hx, hy⟩ := HCX.out d (List.mem_of_getElem? hd)
        have HDI := Lib.hid hd
        clear hd
        go_wp2
        go_loopw [11] (fun av wx => ∃ (a' : Nat) (l : List Nat), a' ≤ kn ∧ av = .int .i64 a' ∧ Hid (l.length = n) ∧ Hid (∀ j, j < n → ∀ q, (l.getD j 0).testBit q = pS D kn i x y a' 0 q j) ∧
          Sep gz wx [Res.row (.slice (some ⟨g, 0, none⟩) n n) 3 1 n (ic (nl l)), Res.row (.slice (some ⟨gD, 0, none⟩) m cD) 49 2 m (cc D), Res.box (g + 1) 36 #[.int .i64 (a : Int), .slice (some ⟨g, 0, none⟩) n n], Res.box gz.heap.size 36 #[.int .i64 0, .slice none 0 0]]) (fun av _ => kn - (intOf av).toNat)
        case atStart => exact ⟨0, l, Nat.zero_le _, rfl, HL, Lib.hid (fun j hj q => by rw [pS_start]; exact HBT.out j hj q), H⟩
        case round =>
          clear H HL HBT
          obtain ⟨a', l1, ha', rfl, HL, HBT, H⟩ := hrel
          by_cases hak : a' < kn
          · go_wp2
            go_loopw [12] (fun bv wx => ∃ (b : Nat) (l : List Nat), b ≤ kn ∧ bv = .int .i64 b ∧ Hid (l.length = n) ∧ Hid (∀ j, j < n → ∀ q, (l.getD j 0).testBit q = pS D kn i x y a' b q j) ∧
              Sep gz wx [Res.row (.slice (some ⟨g, 0, none⟩) n n) 3 1 n (ic (nl l)), Res.row (.slice (some ⟨gD, 0, none⟩) m cD) 49 2 m (cc D), Res.box (g + 1) 36 #[.int .i64 (a : Int), .slice (some ⟨g, 0, none⟩) n n], Res.box gz.heap.size 36 #[.int .i64 0, .slice none 0 0]]) (fun bv _ => kn - (intOf bv).toNat)
            case atStart => exact ⟨0, l1, Nat.zero_le _, rfl, HL, HBT, H⟩
            case round =>
              clear H HL HBT
              obtain ⟨b, l2, hb, rfl, HL, HBT, H⟩ := hrel
              by_cases hbk : b < kn
              · obtain ⟨x0, hx0⟩ : ∃ x0, x0 = x * kn := ⟨_, rfl⟩
                obtain ⟨y0, hy0⟩ : ∃ y0, y0 = y * kn := ⟨_, rfl⟩
                obtain ⟨i1, hi1⟩ : ∃ i1, i1 = x0 + a' := ⟨_, rfl⟩
                obtain ⟨j0, hj0⟩ : ∃ j0, j0 = y0 + b := ⟨_, rfl⟩
                have hjn : j0 < n := by
                  rw [hj0, hy0, HN.out]
                  have : (y + 1) * kn ≤ Hn * kn := Nat.mul_le_mul_right _ hy
                  rw [Nat.add_mul] at this
                  omega
                have hxa : i1 < a := by
                  rw [hi1, hx0, HA.out]
                  have : (x + 1) * kn ≤ Wn * kn := Nat.mul_le_mul_right _ hx
                  rw [Nat.add_mul] at this
                  omega
                obtain ⟨r, hr⟩ : ∃ r, r = l2.getD j0 0 := ⟨_, rfl⟩
                obtain ⟨q1, q2⟩ := own_cell2 H.h1 HDI.out
                have r1 := own_cell1 H.h0 (nl_at (l := l2) (j := j0) (by rw [HL.out]; exact hjn))
                rw [← hr] at r1
                simp only [Nat.zero_add] at r1 q1 q2
                have x1 := H.h2.cell 1
                have fr := own_free H.drew.h0 j0
                simp at x1
                rw [Nat.zero_add] at fr
                have hr64 : r < 64 := by
                  rw [hr]
                  exact small_row HBT.out (W := a) (fun q j hf => by rw [HA.out]; exact pS_lt (Int.ofNat_le.1 hk6.1) HCX.out hx hf) ha6 hjn
                obtain ⟨p, hp⟩ : ∃ p, p = 2 ^ i1 := ⟨_, rfl⟩
                obtain ⟨u, hu⟩ : ∃ u, u = r + p := ⟨_, rfl⟩
                obtain ⟨y2, y4, x3, x5, z1, z3, z4⟩ := scM (a := a') (b := b) hx0 hy0 hi1 hj0 (Nat.le_trans (Nat.le_of_lt hxa) ha6) (Nat.le_trans (Nat.le_of_lt hjn) (Nat.le_trans hn6 (by decide))) hr64 (scPw (Nat.le_trans (Nat.le_of_lt hxa) ha6) hp).1 (scPw (Nat.le_trans (Nat.le_of_lt hxa) ha6) hp).2 hu
                have HPUT := Lib.hid (pS_put (u := u) hak hbk HDN.out HDI.out HL.out hjn hx0 hi1 hy0 hj0 hr (hp ▸ hu) HBT.out)
                have HLEN := Lib.hid (show (l2.set j0 u).length = n by rw [List.length_set]; exact HL.out)
                have hjn2 : (j0 : Int) < (n : Int) := Int.ofNat_lt.2 hjn
                have hjn3 : (0 : Int) ≤ (j0 : Int) := Int.natCast_nonneg _
                have H1 := H.drew.setRow (j := j0) (by rw [ic_length, nl, List.length_map, HL.out]; exact hjn) (.int .i64 (u : Int))
                rw [nl_set, Nat.zero_add] at H1
                clear hx0 hy0 hi1 hj0 hr hp hu H
                go_wp2_with fail
                have Z1 := Lib.hid z1
                have Z4 := Lib.hid z4
                clear z1 z4
                refine wp_region_stq 36 (by kernel_rfl) (by kernel_rfl) ?_
                simp only [List.take_succ_cons, List.take_zero, List.drop_succ_cons, List.drop_zero]
                iterate 33 (first | go_big_quiet_skip | (go_big_quiet_want; go_big_quiet_op; first | go_big_quiet_on | (apply Exists.intro; refine ⟨?_, ?_⟩; focus (fail); go_big_quiet_on)))
                rw [x5, y4]
                clear y2 y4 x3 x5 q1 q2
                go_big_quiet_want
                go_big_quiet_op
                go_big_quiet_on
                have z1 := Z1.out
                rw [z1]
                clear z1 Z1
                have z4 := Z4.out
                iterate 2 (first | go_big_quiet_skip | (go_big_quiet_want; go_big_quiet_op; first | go_big_quiet_on | (apply Exists.intro; refine ⟨?_, ?_⟩; focus (fail); go_big_quiet_on)))
                refine wpQuiet_nil ?_
                clear z3 Z4
                go_wp2
                clear x1 fr z4 r1
                go_roundw
                case rel => exact ⟨b + 1, l2.set j0 u, by omega, by go_num, HLEN, HPUT, H1⟩
                case measure => simp [intOf]; omega
              · obtain rfl : b = kn := by omega
                have HB2 : Hid (∀ j, j < n → ∀ q, (l2.getD j 0).testBit q = pS D b i x y (a' + 1) 0 q j) := Lib.hid (fun j hj q => by rw [HBT.out j hj q, pS_col (Int.ofNat_le.1 hk6.1)])
                clear HBT
                go_wp2
                go_roundw
                case rel => exact ⟨a' + 1, l2, by omega, by go_num, HL, HB2, H⟩
                case measure => simp [intOf]; omega
          · obtain rfl : a' = kn := by omega
            have HB2 : Hid (∀ j, j < n → ∀ q, (l1.getD j 0).testBit q = scIn (D.take (i + 1)) a' q j) := Lib.hid (fun j hj q => by rw [HBT.out j hj q, pS_end (Int.ofNat_le.1 hk6.1) HDI.out])
            clear HBT
            go_wp2
            go_roundw
            case rel => exact ⟨i + 1, l1, by omega, by go_num, HL, HB2, H⟩
            case measure => simp [intOf]; omega
      · obtain rfl : i = m := by omega
        have HXF : Hid (X = ⟨(a : Int), nl l⟩) := Lib.hid (HXE.out l HL.out (fun j hj q => by rw [HBT.out j hj q, HM.out, List.take_length]))
        have x0 := H.h2.cell 0
        have x1 := H.h2.cell 1
        have z0 := H.h3.cell 0
        have z1 := H.h3.cell 1
        have f0 := H.h3.frozen 0
        have f1 := H.h3.frozen 1
        simp at x0 x1 z0 z1
        have Hf := (H.g3.set_ 0 (.int .i64 (a : Int))).set_ 1 (.slice (some ⟨g, 0, none⟩) n n)
        have u0 := Hf.h0.cell 0
        have u1 := Hf.h0.cell 1
        simp at u0 u1
        clear H
        go_wp2
        exact bodyPost_ret (v := .tuple #[.agg #[.int .i64 (a : Int), .slice (some ⟨g, 0, none⟩) n n], .bool true]) (by simp [results, Tryz.results150, go_sem, u0, u1]) rfl ⟨_, rfl, by rw [HXF.out]; exact ⟨_, rfl, IntsIn.mk Hf.g1.oi.1 (by simp [nl, HL.out]) rfl⟩, Hf.below⟩
end Go.Proofs.YtjkppigjajknaaaGreatDoor

namespace Go.Proofs.YtjkppigjajknaaaGreatDoor
open Go.RowKit

/-- a shape tiles itself, scaled -/
def rtB (s : List Cell) (k : Int) : Bool := scB s k && findB (scX s k) [s]
def rtL (s : List Cell) (k : Int) : List Int := if scB s k = true then nl (findL (scX s k) [s]) else []
/-- a result of a rep-tiling -/
def RtPost (s : List Cell) (k : Int) (w : World) : Ending → World → Prop := fun e w' => ∃ v', e = .returned (.tuple #[v', .bool (rtB s k)]) ∧ IntsIn w' w.heap.size w'.heap.size v' (rtL s k) ∧ Below w.heap.size w w'
theorem rowIntsR {w : World} {e : TypeId} {v : Value} {l : List Int} (h : w.ownsRow 0 e 1 v l.length (ic l)) : IntsRd w 0 w.heap.size v l := by
  obtain ⟨A, c, rfl, h1, h2, hr⟩ := own_rd h
  exact ⟨A, c, rfl, by omega, hr⟩
set_option maxRecDepth 100000 in
set_option maxHeartbeats 1600000 in
theorem impl_rt_c {v : Value} {s : List Cell} (k : Int) (w : World) (h : CellsRd w 0 w.heap.size v s) (hl : s.length ≤ 1048576) (hk : -100 ≤ k ∧ k ≤ 100) (ht : Tab64 w) :
    Calls Tryz.prog 125 #[v, .int .i64 k] w (RtPost s k w) := by
  have HSC := Lib.hid (impl_scaled_c k w h hl hk)
  have HCR : Hid (∀ w', Below w.heap.size w w' → CellsRd w' 0 w'.heap.size v s) := Lib.hid fun w' b => (h.keep (SameIn.of_below b (Nat.le_refl _))).more (Nat.le_refl _) b.size
  have HXL := scX_len (s := s) (k := k)
  have HRB : rtB s k = (scB s k && findB (scX s k) [s]) := rfl
  have HRL : rtL s k = if scB s k = true then nl (findL (scX s k) [s]) else [] := rfl
  unfold RtPost
  rw [HRB, HRL]
  clear HRB HRL
  have HFT : Hid (∀ w1 vr g, Below w.heap.size w w1 → RegRd w1 0 w1.heap.size vr (scX s k) → Blk w1 g 25 #[v] → Calls Tryz.prog 52 #[vr, .slice (some ⟨g, 0, none⟩) 1 1] w1 fun e w' => ∃ v', e = .returned (.tuple #[v', .bool (findB (scX s k) [s])]) ∧ IntsIn w' w1.heap.size w'.heap.size v' (nl (findL (scX s k) [s])) ∧ Below w1.heap.size w1 w') := Lib.hid fun w1 vr g b1 hr hb =>
    impl_find_c w1 hr (one_ssRd hb (HCR.out w1 b1)) (by show 1 ≤ 1048576; omega) (fun t ht => by rw [List.mem_singleton.1 ht]; exact hl) (tab64_on ht b1)
  obtain ⟨B, hB⟩ : ∃ B, B = scB s k := ⟨_, rfl⟩
  obtain ⟨X, hX⟩ : ∃ X, X = scX s k := ⟨_, rfl⟩
  obtain ⟨FB, hFB⟩ : ∃ B, B = findB (scX s k) [s] := ⟨_, rfl⟩
  obtain ⟨FL, hFL⟩ : ∃ B, B = nl (findL (scX s k) [s]) := ⟨_, rfl⟩
  rw [← hFB, ← hFL] at HFT ⊢
  rw [← hX] at HSC HFT HXL
  rw [← hB] at HSC ⊢
  clear hB hX hFB hFL
  obtain ⟨A, c, rfl, _, _⟩ := id h
  clear h ht
  go_enter Tryz.func125, Tryz.ntmps125
  go_wp2_with fail
  refine (HSC.out).mono ?_
  rintro e w1 ⟨vr, rfl, ⟨sr, rfl, o1⟩, b1⟩
  have H1 := (Sep.start w).oiNew b1 o1
  obtain ⟨A1, c1, rfl, _, _, _⟩ := Res.row_at H1.h0
  have H2 := H1.box 36 #[.int .i64 X.w, .slice A1 X.rows.length c1]
  clear o1 b1 H1 HSC
  go_upto_region 2 with fail
  obtain ⟨g6, hg6⟩ : ∃ k, k = w1.heap.size := ⟨_, rfl⟩
  rw [← hg6] at H2 ⊢
  generalize w1.alloc (.cells #[.int .i64 X.w, .slice A1 X.rows.length c1] 36) = w2 at *
  clear hg6
  cases B
  · have hb := H2.below
    go_wp2
    exact bodyPost_ret (results_tmp2 rfl _ _ _) rfl ⟨_, rfl, IntsIn.nil, hb⟩
  · have x0 := H2.h0.cell 0
    have x1 := H2.h0.cell 1
    simp at x0 x1
    have H3 := H2.box 25 #[.slice A s.length c]
    have HCF := Lib.hid (HFT.out _ (.agg #[.int .i64 X.w, .slice A1 X.rows.length c1]) _ H3.below ⟨_, rfl, rowIntsR H3.h2⟩ H3.h0)
    clear HFT H2
    go_wp2_with fail
    refine (HCF.out).mono ?_
    rintro e w3 ⟨v3, rfl, o3, b3⟩
    have O3 := Lib.hid (OI.base o3 H3.below.size (Nat.le_refl _))
    have hb := (H3.step b3).below
    obtain ⟨A3, c3, rfl, _, _⟩ := o3.rd
    clear o3 b3 H3 HCF x0 x1
    go_wp2
    exact bodyPost_ret (results_tmp2 rfl _ _ _) rfl ⟨_, rfl, O3.out, hb⟩
set_option maxRecDepth 100000 in
set_option maxHeartbeats 1600000 in
theorem spec_rt_c {v : Value} {s : List Cell} (k : Int) (w : World) (h : CellsRd w 0 w.heap.size v s) (hl : s.length ≤ 1048576) (hk : -100 ≤ k ∧ k ≤ 100)  :
    Calls Tryz.prog 114 #[v, .int .i64 k] w (RtPost s k w) := by
  have HSC := Lib.hid (spec_scaled_c k w h hl hk)
  have HCR : Hid (∀ w', Below w.heap.size w w' → CellsRd w' 0 w'.heap.size v s) := Lib.hid fun w' b => (h.keep (SameIn.of_below b (Nat.le_refl _))).more (Nat.le_refl _) b.size
  have HXL := scX_len (s := s) (k := k)
  have HRB : rtB s k = (scB s k && findB (scX s k) [s]) := rfl
  have HRL : rtL s k = if scB s k = true then nl (findL (scX s k) [s]) else [] := rfl
  unfold RtPost
  rw [HRB, HRL]
  clear HRB HRL
  have HFT : Hid (∀ w1 vr g, Below w.heap.size w w1 → RegRd w1 0 w1.heap.size vr (scX s k) → Blk w1 g 25 #[v] → Calls Tryz.prog 43 #[vr, .slice (some ⟨g, 0, none⟩) 1 1] w1 fun e w' => ∃ v', e = .returned (.tuple #[v', .bool (findB (scX s k) [s])]) ∧ IntsIn w' w1.heap.size w'.heap.size v' (nl (findL (scX s k) [s])) ∧ Below w1.heap.size w1 w') := Lib.hid fun w1 vr g b1 hr hb =>
    spec_find_c w1 hr (one_ssRd hb (HCR.out w1 b1)) (by show 1 ≤ 1048576; omega) (fun t ht => by rw [List.mem_singleton.1 ht]; exact hl) 
  obtain ⟨B, hB⟩ : ∃ B, B = scB s k := ⟨_, rfl⟩
  obtain ⟨X, hX⟩ : ∃ X, X = scX s k := ⟨_, rfl⟩
  obtain ⟨FB, hFB⟩ : ∃ B, B = findB (scX s k) [s] := ⟨_, rfl⟩
  obtain ⟨FL, hFL⟩ : ∃ B, B = nl (findL (scX s k) [s]) := ⟨_, rfl⟩
  rw [← hFB, ← hFL] at HFT ⊢
  rw [← hX] at HSC HFT HXL
  rw [← hB] at HSC ⊢
  clear hB hX hFB hFL
  obtain ⟨A, c, rfl, _, _⟩ := id h
  clear h 
  go_enter Tryz.func114, Tryz.ntmps114
  go_wp2_with fail
  refine (HSC.out).mono ?_
  rintro e w1 ⟨vr, rfl, ⟨sr, rfl, o1⟩, b1⟩
  have H1 := (Sep.start w).oiNew b1 o1
  obtain ⟨A1, c1, rfl, _, _, _⟩ := Res.row_at H1.h0
  have H2 := H1.box 36 #[.int .i64 X.w, .slice A1 X.rows.length c1]
  clear o1 b1 H1 HSC
  go_upto_region 2 with fail
  obtain ⟨g6, hg6⟩ : ∃ k, k = w1.heap.size := ⟨_, rfl⟩
  rw [← hg6] at H2 ⊢
  generalize w1.alloc (.cells #[.int .i64 X.w, .slice A1 X.rows.length c1] 36) = w2 at *
  clear hg6
  cases B
  · have hb := H2.below
    have H3 := H2.rowBox 3 #[] 1 0 rfl (by decide)
    go_wp2
    exact bodyPost_ret (results_tmp2 rfl _ _ _) rfl ⟨_, rfl, H3.oi, H3.below⟩
  · have x0 := H2.h0.cell 0
    have x1 := H2.h0.cell 1
    simp at x0 x1
    have H3 := H2.box 25 #[.slice A s.length c]
    have HCF := Lib.hid (HFT.out _ (.agg #[.int .i64 X.w, .slice A1 X.rows.length c1]) _ H3.below ⟨_, rfl, rowIntsR H3.h2⟩ H3.h0)
    clear HFT H2
    go_wp2_with fail
    refine (HCF.out).mono ?_
    rintro e w3 ⟨v3, rfl, o3, b3⟩
    have O3 := Lib.hid (OI.base o3 H3.below.size (Nat.le_refl _))
    have hb := (H3.step b3).below
    obtain ⟨A3, c3, rfl, _, _⟩ := o3.rd
    clear o3 b3 H3 HCF x0 x1
    go_wp2
    exact bodyPost_ret (results_tmp2 rfl _ _ _) rfl ⟨_, rfl, O3.out, hb⟩
set_option maxRecDepth 100000 in
set_option maxHeartbeats 800000 in
theorem impl_isRt_c {v : Value} {s : List Cell} (k : Int) (w : World) (h : CellsRd w 0 w.heap.size v s) (hl : s.length ≤ 1048576) (hk : -100 ≤ k ∧ k ≤ 100) (ht : Tab64 w) :
    Calls Tryz.prog 76 #[v, .int .i64 k] w fun e w' => e = .returned (.bool (rtB s k)) ∧ Below w.heap.size w w' := by
  have HC := Lib.hid (impl_rt_c k w h hl hk ht)
  obtain ⟨A, c, rfl, _, _⟩ := id h
  clear h
  go_enter Tryz.func76, Tryz.ntmps76
  go_wp2_with fail
  refine (HC.out).mono ?_
  rintro e w1 ⟨v1, e1, o1, b1⟩
  subst e1
  go_wp2
  go_ret
  exact ⟨rfl, b1⟩
set_option maxRecDepth 100000 in
set_option maxHeartbeats 800000 in
theorem spec_isRt_c {v : Value} {s : List Cell} (k : Int) (w : World) (h : CellsRd w 0 w.heap.size v s) (hl : s.length ≤ 1048576) (hk : -100 ≤ k ∧ k ≤ 100)  :
    Calls Tryz.prog 64 #[v, .int .i64 k] w fun e w' => e = .returned (.bool (rtB s k)) ∧ Below w.heap.size w w' := by
  have HC := Lib.hid (spec_rt_c k w h hl hk )
  obtain ⟨A, c, rfl, _, _⟩ := id h
  clear h
  go_enter Tryz.func64, Tryz.ntmps64
  go_wp2_with fail
  refine (HC.out).mono ?_
  rintro e w1 ⟨v1, e1, o1, b1⟩
  subst e1
  go_wp2
  go_ret
  exact ⟨rfl, b1⟩
end Go.Proofs.YtjkppigjajknaaaGreatDoor

namespace Go.Proofs.YtjkppigjajknaaaGreatDoor
open Go.RowKit

/-- is k the least scale? -/
structure LeastIs (s : List Cell) (k : Nat) : Prop where
  two : 2 ≤ k
  six : k ≤ 6
  is : rtB s k = true
  lt : ∀ i : Nat, 2 ≤ i → i < k → rtB s i = false
/-- the least scale, or -1 -/
def LrIs (s : List Cell) (n : Int) : Prop := (∃ k : Nat, n = (k : Int) ∧ LeastIs s k) ∨ (n = -1 ∧ ∀ i : Nat, 2 ≤ i → i ≤ 6 → rtB s i = false)
theorem LrIs.one {s : List Cell} {m n : Int} (h : LrIs s m) (h' : LrIs s n) : m = n := by
  rcases h with ⟨k, rfl, h⟩ | ⟨rfl, h⟩ <;> rcases h' with ⟨k', rfl, h'⟩ | ⟨rfl, h'⟩
  · rcases Nat.lt_trichotomy k k' with q | q | q
    · have := h'.lt k h.two q; rw [h.is] at this; cases this
    · rw [q]
    · have := h.lt k' h'.two q; rw [h'.is] at this; cases this
  · have := h' k h.two h.six; rw [h.is] at this; cases this
  · have := h k' h'.two h'.six; rw [h'.is] at this; cases this
  · rfl
theorem rtB_no {s : List Cell} {k : Int} (h : isShape s = false) : rtB s k = false := by unfold rtB scB; rw [h]; rfl
set_option maxRecDepth 100000 in
set_option maxHeartbeats 1600000 in
theorem impl_least_rep_c {v : Value} {s : List Cell} (w : World) (h : CellsRd w 0 w.heap.size v s) (hl : s.length ≤ 1048576) (ht : Tab64 w) :
    Calls Tryz.prog 34 #[v] w fun e w' => ∃ n : Int, e = .returned (.int .i64 n) ∧ LrIs s n ∧ Below w.heap.size w w' := by
  have HC : Hid (∀ (k : Nat) w', k ≤ 6 → Below w.heap.size w w' → Calls Tryz.prog 76 #[v, .int .i64 (k : Int)] w' fun e w'' => e = .returned (.bool (rtB s k)) ∧ Below w'.heap.size w' w'') := Lib.hid fun k w' hk b =>
    impl_isRt_c (k : Int) w' ((h.keep (SameIn.of_below b (Nat.le_refl _))).more (Nat.le_refl _) b.size) hl (by omega) (tab64_on ht b)
  obtain ⟨A, c, rfl, _, _⟩ := id h
  clear h ht
  go_enter Tryz.func34, Tryz.ntmps34
  go_wp2
  go_loopw [3] (fun kv wx => ∃ k : Nat, 2 ≤ k ∧ k ≤ 7 ∧ kv = .int .i64 k ∧ Hid (∀ i : Nat, 2 ≤ i → i < k → rtB s i = false) ∧ Below w.heap.size w wx) (fun kv _ => 7 - (intOf kv).toNat)
  case atStart => exact ⟨2, Nat.le_refl _, by omega, rfl, Lib.hid (fun i h1 h2 => by omega), Below.refl _ _⟩
  case round =>
    obtain ⟨k, hk2, hk7, rfl, HK, hbel⟩ := hrel
    by_cases hk : k ≤ 6
    · have hki : (k : Int) ≤ 6 := by omega
      have HC1 := Lib.hid (HC.out k wr hk hbel)
      obtain ⟨B, hB⟩ : ∃ B, B = rtB s k := ⟨_, rfl⟩
      rw [← hB] at HC1
      have HB := Lib.hid hB
      clear hB
      go_wp2_with fail
      refine (HC1.out).mono ?_
      rintro e w2 ⟨rfl, b2⟩
      have hb := hbel.trans (b2.mono hbel.size)
      clear b2 hbel HC1
      cases B
      · have HK2 : Hid (∀ i : Nat, 2 ≤ i → i < k + 1 → rtB s i = false) := Lib.hid (fun i h1 h2 => by
          by_cases e : i = k
          · rw [e]; exact HB.out.symm
          · exact HK.out i h1 (by omega))
        go_wp2
        go_roundw
        case rel => exact ⟨k + 1, by omega, by omega, by go_num, HK2, hb⟩
        case measure => simp [intOf]; omega
      · go_wp2
        go_ret
        exact ⟨_, rfl, .inl ⟨k, rfl, hk2, hk, HB.out.symm, HK.out⟩, hb⟩
    · obtain rfl : k = 7 := by omega
      have HN : Hid (∀ i : Nat, 2 ≤ i → i ≤ 6 → rtB s i = false) := Lib.hid (fun i h1 h2 => HK.out i h1 (by omega))
      clear HK
      go_wp2
      go_ret
      exact ⟨-1, rfl, .inr ⟨rfl, HN.out⟩, hbel⟩
set_option maxRecDepth 100000 in
set_option maxHeartbeats 1600000 in
theorem spec_least_rep_c {v : Value} {s : List Cell} (w : World) (h : CellsRd w 0 w.heap.size v s) (hl : s.length ≤ 1048576) :
    Calls Tryz.prog 24 #[v] w fun e w' => ∃ n : Int, e = .returned (.int .i64 n) ∧ LrIs s n ∧ Below w.heap.size w w' := by
  have HC : Hid (∀ (k : Nat) w', k ≤ 6 → Below w.heap.size w w' → Calls Tryz.prog 64 #[v, .int .i64 (k : Int)] w' fun e w'' => e = .returned (.bool (rtB s k)) ∧ Below w'.heap.size w' w'') := Lib.hid fun k w' hk b =>
    spec_isRt_c (k : Int) w' ((h.keep (SameIn.of_below b (Nat.le_refl _))).more (Nat.le_refl _) b.size) hl (by omega)
  have HS : Hid (∀ w', Below w.heap.size w w' → Calls Tryz.prog 18 #[v] w' fun e w'' => e = .returned (.bool (isShape s)) ∧ Below w'.heap.size w' w'') := Lib.hid fun w' b => spec_isShape_c w' ((h.keep (SameIn.of_below b (Nat.le_refl _))).more (Nat.le_refl _) b.size) hl
  have HNO : Hid (isShape s = false → ∀ i : Nat, 2 ≤ i → i ≤ 6 → rtB s i = false) := Lib.hid fun h i _ _ => rtB_no h
  obtain ⟨A, c, rfl, _, _⟩ := id h
  obtain ⟨S, hS⟩ : ∃ S, S = isShape s := ⟨_, rfl⟩
  rw [← hS] at HS HNO
  clear h hS
  go_enter Tryz.func24, Tryz.ntmps24
  go_wp2
  go_loopw [3] (fun kv wx => ∃ k : Nat, 2 ≤ k ∧ k ≤ 7 ∧ kv = .int .i64 k ∧ Hid (∀ i : Nat, 2 ≤ i → i < k → rtB s i = false) ∧ Below w.heap.size w wx) (fun kv _ => 7 - (intOf kv).toNat)
  case atStart => exact ⟨2, Nat.le_refl _, by omega, rfl, Lib.hid (fun i h1 h2 => by omega), Below.refl _ _⟩
  case round =>
    obtain ⟨k, hk2, hk7, rfl, HK, hbel⟩ := hrel
    by_cases hk : k ≤ 6
    · have hki : (k : Int) ≤ 6 := by omega
      have HS1 := Lib.hid (HS.out wr hbel)
      go_wp2_with fail
      refine (HS1.out).mono ?_
      rintro e w1 ⟨rfl, b1⟩
      replace hbel := hbel.trans (b1.mono hbel.size)
      clear b1 HS1
      cases S
      · have HN := Lib.hid (HNO.out (by first | rfl | trivial))
        clear HK
        go_wp2
        go_ret
        exact ⟨-1, rfl, .inr ⟨rfl, HN.out⟩, hbel⟩
      · have HC1 := Lib.hid (HC.out k w1 hk hbel)
        obtain ⟨B, hB⟩ : ∃ B, B = rtB s k := ⟨_, rfl⟩
        rw [← hB] at HC1
        have HB := Lib.hid hB
        clear hB
        go_wp2_with fail
        refine (HC1.out).mono ?_
        rintro e w2 ⟨rfl, b2⟩
        have hb := hbel.trans (b2.mono hbel.size)
        clear b2 hbel HC1
        cases B
        · have HK2 : Hid (∀ i : Nat, 2 ≤ i → i < k + 1 → rtB s i = false) := Lib.hid (fun i h1 h2 => by
            by_cases e : i = k
            · rw [e]; exact HB.out.symm
            · exact HK.out i h1 (by omega))
          go_wp2
          go_roundw
          case rel => exact ⟨k + 1, by omega, by omega, by go_num, HK2, hb⟩
          case measure => simp [intOf]; omega
        · go_wp2
          go_ret
          exact ⟨_, rfl, .inl ⟨k, rfl, hk2, hk, HB.out.symm, HK.out⟩, hb⟩
    · obtain rfl : k = 7 := by omega
      have HN : Hid (∀ i : Nat, 2 ≤ i → i ≤ 6 → rtB s i = false) := Lib.hid (fun i h1 h2 => HK.out i h1 (by omega))
      clear HK
      go_wp2
      go_ret
      exact ⟨-1, rfl, .inr ⟨rfl, HN.out⟩, hbel⟩
end Go.Proofs.YtjkppigjajknaaaGreatDoor
