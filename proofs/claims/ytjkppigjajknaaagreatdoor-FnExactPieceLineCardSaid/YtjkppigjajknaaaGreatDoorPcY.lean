
/-
  Rows of bytes, and the text of one. A region that draws its order, whose first operations are quiet in a class of worlds and whose last ones come one after the other: one walk. No program in sight. A shape's text: plain, and the reference's walk. The program's corner of a shape and its size; the sizes where there is no shape. Rows of strings; strings.Join; texts joined. Numbers as a text, separated by commas: the reference's and the program's. The program's 'line': texts joined by blanks. The program's walk over a shape's text. The walks of both number writers at a single digit. The reference's FormatInt at every int. The program's FormatInt at every int, under the library's table.
-/
import Derived.Test.YtjkppigjajknaaaGreatDoorProg
import Derived.Test.YtjkppigjajknaaaGreatDoorSepX
import Derived.Laws.IdiomStrings
import Derived.Laws.BytesArg
import Derived.StillTail
import Derived.Test.YtjkppigjajknaaaGreatDoorCellX
import Derived.Test.YtjkppigjajknaaaGreatDoorOriP
import Derived.Test.YtjkppigjajknaaaGreatDoorShpX
import Derived.Lib.Join
import Derived.Lib.Strings
import Derived.Deep.DeepCutAuto
import Derived.Test.YtjkppigjajknaaaGreatDoorOriX
import Derived.Test.YtjkppigjajknaaaGreatDoorShelf
import Derived.Test.YtjkppigjajknaaaGreatDoorCwWalks
import Derived.Lib.ItoaMem
import Derived.Lib.SmallJoins
import Derived.Lib.AppendIntMem
namespace Go.Proofs.YtjkppigjajknaaaGreatDoor
open Go.RowKit

set_option maxRecDepth 100000 in
theorem infoU8 : (Tryz.prog.info? 5).map (fun i => (i.zero, i.size, i.bytes)) = some (some (.int .u8 0), 1, 1) := by kernel_rfl
def uc (l : List UInt8) : List Value := l.map fun b => .int .u8 (b.toNat : Int)
theorem uc_append {l m : List UInt8} : uc (l ++ m) = uc l ++ uc m := by simp [uc]
theorem uc_length {l : List UInt8} : (uc l).length = l.length := by simp [uc]
def tb (l : List UInt8) : ByteArray := ⟨l.toArray⟩
theorem tb_size {l : List UInt8} : (tb l).size = l.length := List.size_toArray
theorem tb_nil : (⟨#[]⟩ : ByteArray) = tb [] := rfl
theorem tb_app {a b : List UInt8} : tb a ++ tb b = tb (a ++ b) := by apply ba_ext; rw [ba_app]; simp [tb]
theorem ocu {a : Int} : ∀ u ∈ [Value.int .u8 a], u.oneCell' = true := by intro u hu; simp at hu; subst hu; rfl
set_option maxRecDepth 100000 in
/-- the text of a row of bytes -/
theorem row_text {w : World} {v : Value} {n : Nat} {l : List UInt8} (hn : n = l.length) (h : w.ownsRow 0 5 1 v n (uc l)) : (convert 72 9 v).run Tryz.prog w = .ok (.string (tb l)) w := by
  subst hn
  by_cases h0 : l.length = 0
  · obtain rfl : l = [] := List.eq_nil_of_length_eq_zero h0
    obtain ⟨A, c, rfl, _⟩ := Res.row_at h
    show (convert 72 9 (.slice A 0 c)).run Tryz.prog w = _
    rw [run_convert_bytes_string w _ _ _ _ 0 c Tryz.underlying72 Tryz.underlying5 Tryz.underlying9]
    cases A <;> simp [Conv.bytesToString, loadCells]
    all_goals rfl
  · obtain ⟨b, off, c, rfl, _, _, _⟩ := own_shape h (by omega)
    exact run_convert_bytes_back (P := Tryz.prog) w _ _ _ ⟨b, off, none⟩ c l Tryz.underlying72 Tryz.underlying5 Tryz.underlying9 (fun j hj => by
      have := own_cell h (j := j) (u := .int .u8 (l[j].toNat : Int)) (by simp [uc, List.getElem?_eq_getElem hj])
      unfold Addr.add
      split
      · rename_i e
        subst e
        simpa using this
      · exact this)
end Go.Proofs.YtjkppigjajknaaaGreatDoor

namespace Go.Proofs.YtjkppigjajknaaaGreatDoor
open Go.RowKit

section
variable {P : Program} {ops : Array Oper} {md : Region.Mode} {C : World → Prop}
/-- the first n operations in whatever order, then L -/
def headQ (P : Program) (md : Region.Mode) (ops : Array Oper) (C : World → Prop) (n : Nat) (L : Array Bool → Act → Prop) : Nat → Array Bool → Act → Prop
  | 0, d, a => L d a
  | f + 1, d, a => Region.ready md ops d ≠ [] ∧ ∀ i ∈ Region.ready md ops d, i < n ∧ qOp P ops C i (headQ P md ops C n L f (d.setIfInBounds i true)) a
theorem any_of_headQ {n g : Nat} {L : Array Bool → Act → Prop} {Q' : Exit → Act → World → Prop} (hL : ∀ d a w, C w → L d a → wpAny P md ops Q' g d a w) : ∀ (f : Nat) (d : Array Bool) (a : Act) (w : World), C w → headQ P md ops C n L f d a → wpAny P md ops Q' (f + g) d a w
  | 0, d, a, w, hw, h => by rw [Nat.zero_add]; exact hL _ _ _ hw h
  | f + 1, d, a, w, hw, h => by
    rw [Nat.add_right_comm]
    exact ⟨fun h0 => absurd h0 h.1, fun i hi => wpOp_of_qOp hw (fun a' w' hw' h' => any_of_headQ hL f _ a' w' hw' h') (h.2 i hi).2⟩
theorem headQ_first {n i : Nat} {oi : Oper} {v : Value} {L : Array Bool → Act → Prop} (hi : ops[i]? = some oi) (hsel : ∀ (j : Nat) (o : Oper) cs b, ops[j]? = some o → o.op ≠ .select cs b)
    (hs : Region.sinkB md ops n = true) (hc : Region.chainB md ops n = true) (hn : n < ops.size) (hin : i < n) (hdone : ∀ d a, L d a → ∀ j ∈ Region.ready md ops d, n ≤ j) :
    ∀ (f : Nat) (d : Array Bool) (a : Act), HeadInv md ops n d →
      (∀ j oj, ops[j]? = some oj → j ≠ i → d.getD j true = false → (∀ e ∈ oj.after, Region.binds md e = true → e.on ≠ i) → oi.apart ops oj = true) →
      i ∈ Region.ready md ops d → YieldsIn P ops C oi v a → headQ P md ops C n L f (d.setIfInBounds i true) (a.put oi.dst v) → headQ P md ops C n L (f + 1) d a := by
  intro f
  induction f with
  | zero =>
    intro d a inv _ hr hy H
    refine ⟨fun h => (by rw [h] at hr; cases hr), fun j hj => ?_⟩
    have hjn : j < n := Nat.lt_of_not_le fun h => tail_waits hs hc hn inv _ i rfl hin (mem_ready.1 hr).1 j h hj
    refine ⟨hjn, ?_⟩
    by_cases hji : j = i
    · subst hji; exact hy.qOp hi H
    · have := hdone _ _ H j (ready_mono hj hji)
      omega
  | succ f ih =>
    intro d a inv hfree hr hy H
    refine ⟨fun h => (by rw [h] at hr; cases hr), fun j hj => ?_⟩
    have hjn : j < n := Nat.lt_of_not_le fun h => tail_waits hs hc hn inv _ i rfl hin (mem_ready.1 hr).1 j h hj
    refine ⟨hjn, ?_⟩
    by_cases hji : j = i
    · subst hji; exact hy.qOp hi H
    · obtain ⟨hjun, oj, hoj, hall⟩ := mem_ready.1 hj
      have hnot : ∀ e ∈ oj.after, Region.binds md e = true → e.on ≠ i := fun e he hb heq => by
        have h1 := hall e he hb
        rw [heq, getD_both (mem_ready.1 hr).1] at h1
        cases h1
      have h2 := qOp_put hoj (hfree j oj hoj hji hjun hnot) (fun cs b => hsel i oi cs b hi) (fun cs b => hsel j oj cs b hoj) hy (H.2 j (ready_mono hj hji)).2
      refine qOp_mono (fun a' h3 => ih (d.setIfInBounds j true) a' (inv.set hj hjn) (fun k ok hk hki hun hno => ?_) (ready_mono hr (Ne.symm hji)) h3.1 ?_) h2
      · refine hfree k ok hk hki ?_ hno
        by_cases hjk : j = k
        · subst hjk; exact hjun
        · rw [getD_set_ne true hjk] at hun; exact hun
      · rw [Array.setIfInBounds_comm _ _ hji]
        exact h3.2
theorem headQ_lex {n g : Nat} {Lq : Act → Prop} (hsel : Region.noSelect ops = true) (hs : Region.sinkB md ops n = true) (hc : Region.chainB md ops n = true) (hn : n < ops.size) :
    ∀ (l : List Oper) (k : Nat) (d : Array Bool) (a : Act), (∀ j, j < l.length → l[j]? = ops[k + j]?) → k + l.length = n → HeadInv md ops n d → Region.lexHead md ops g l.length k d = true → wpQuiet P ops C Lq l a →
    headQ P md ops C n (fun d' a' => Region.seqB md ops g n d' = true ∧ Lq a') l.length d a
  | [], k, d, a, _, hk, _, hB, h => by
    obtain rfl : k = n := by simpa using hk
    exact ⟨by simpa [Region.lexHead] using hB, h⟩
  | o :: l, k, d, a, hl, hk, inv, hB, h => by
    have h0 : ops[k]? = some o := by simpa using (hl 0 (by simp)).symm
    simp only [List.length_cons, Region.lexHead, Bool.and_eq_true] at hB
    have hkn : k < n := by simp only [List.length_cons] at hk; omega
    have hr' : k ∈ Region.ready md ops d := by simpa using hB.1.1
    have hst : qOp P ops C k (wpQuiet P ops C Lq l) a := by unfold qOp; simp only [h0]; exact h
    obtain ⟨v, hy, hK⟩ := yieldsIn_of_qOp h0 hst
    exact headQ_first h0 (Region.noSelect_spec hsel) hs hc hn hkn (fun d' a' hL => seqB_ready hL.1) l.length d a inv (Region.free_spec h0 hB.1.2) hr' hy
      (headQ_lex hsel hs hc hn l (k + 1) _ _ (fun j hj => by have := hl (j + 1) (by simp; omega); simpa [Nat.add_assoc, Nat.add_comm 1 j] using this) (by simp only [List.length_cons] at hk; omega) (inv.set hr' hkn) hB.2 hK)
/-- quiet in a class of worlds up to operation n, then one after the other -/
theorem wp_region_qtail {id : Nat} {Q : Exit → Act → World → Prop} {a : Act} {w : World} {l : List Oper} (n : Nat) (hm : P.follows .mixedOrders = true) (hB : Region.lexTailB .any l.toArray n = true) (hC : C w.drew)
    (h : wpQuiet P l.toArray C (fun a' => ∀ w', C w' → wpList P l.toArray Q (l.drop n) a' w') (l.take n) a) : (Code.region id l.toArray true).wp P Q a w := by
  simp only [Region.lexTailB, Bool.and_eq_true, decide_eq_true_eq] at hB
  obtain ⟨⟨⟨⟨hsel, hn⟩, hs⟩, hc⟩, hlex⟩ := hB
  have htl : (l.take n).length = n := by simp at hn ⊢; omega
  have hdl : (l.drop n).length = l.toArray.size - n := by simp
  have inv0 : HeadInv .any l.toArray n (Array.replicate l.toArray.size false) :=
    ⟨by simp, fun j oj _ hl => (by rw [getD_replicate_false] at hl; cases hl), fun t _ ht => getD_in (by simpa using ht) (getD_replicate_false _ _)⟩
  have H := headQ_lex (md := .any) (C := C) (g := l.toArray.size - n) hsel hs hc hn (l.take n) 0 _ a (fun j hj => by
    have hj' : j < n := by rw [htl] at hj; exact hj
    simp [hj']) (by simpa using htl) inv0 (by rw [htl]; exact hlex) h
  refine wp_region_any hm ?_
  have := any_of_headQ (Q' := Q) (g := l.toArray.size - n) (fun d a' w' hw' hL => by
    have := wpAny_of_seq (md := .any) (Q' := Q) (l.drop n) n d a' w' (fun j => by simp [List.getElem?_drop]) (by rw [hdl]; exact hL.1) (hL.2 w' hw')
    rwa [hdl] at this) _ _ _ w.drew hC H
  rw [htl, show n + (l.toArray.size - n) = l.toArray.size by omega] at this
  exact this
theorem wp_region_lqtail {W : World} {id : Nat} {Q : Exit → Act → World → Prop} {a : Act} {l : List Oper} (n : Nat) (hm : P.follows .mixedOrders = true) (hB : Region.lexTailB .any l.toArray n = true)
    (h : wpQuiet P l.toArray (fun w' => ∃ u : Later W, w' = u.w) (fun a' => ∀ w', (∃ u : Later W, w' = u.w) → wpList P l.toArray Q (l.drop n) a' w') (l.take n) a) : (Code.region id l.toArray true).wp P Q a W :=
  wp_region_qtail (C := fun w' => ∃ u : Later W, w' = u.w) n hm hB ⟨⟨_, below_drew (Below.refl _ _)⟩, rfl⟩ h
end
end Go.Proofs.YtjkppigjajknaaaGreatDoor

namespace Go.Proofs.YtjkppigjajknaaaGreatDoor
open Go.RowKit

theorem shp_srt {s : List Cell} (h : isShape s = true) : Srt s := List.pairwise_iff_getElem.2 fun _ j hi hj hij => shp_pair h (List.getElem?_eq_getElem hi) j hij (List.getElem?_eq_getElem hj)
theorem srt_corner {s : List Cell} (h : Srt s) : Srt (corner s) := List.pairwise_map.2 (List.Pairwise.imp (fun {a b} hab => by rw [bef_iff] at hab ⊢; simp only; omega) h)
theorem sort_shp {s : List Cell} (h : isShape s = true) : sortC s = s := sortC_is (shp_srt h) fun _ => Iff.rfl
/-- a list that is drawn: in order, on the board -/
structure Grd (D : List Cell) : Prop where
  srt : Srt D
  on : ∀ c ∈ D, On c
  len : 1 ≤ D.length ∧ D.length ≤ 8
theorem grd_corner {s : List Cell} (h : isShape s = true) : Grd (corner s) := ⟨srt_corner (shp_srt h), fun _ hc => corner_on h hc, by unfold corner; rw [shift_length]; exact shp_len h⟩
/-- the text of row k -/
def rowF (D : List Cell) (k : Nat) : List UInt8 := D.foldl (fun t c => if c.y = (k : Int) then t ++ (List.replicate (c.x.toNat - t.length) 46 ++ [35]) else t) []
theorem rowF_take {D : List Cell} {i k : Nat} {c : Cell} (h : D[i]? = some c) : rowF (D.take (i + 1)) k = if c.y = (k : Int) then rowF (D.take i) k ++ (List.replicate (c.x.toNat - (rowF (D.take i) k).length) 46 ++ [35]) else rowF (D.take i) k := by
  have : D.take (i + 1) = D.take i ++ [c] := by rw [List.take_add_one, h]; rfl
  unfold rowF
  rw [this, List.foldl_append]
  rfl
theorem rowF_len {D : List Cell} (hD : Grd D) : ∀ (i k : Nat), i ≤ D.length → (rowF (D.take i) k).length = 0 ∨ ∃ j c, j < i ∧ D[j]? = some c ∧ c.y = (k : Int) ∧ ((rowF (D.take i) k).length : Int) = c.x + 1
  | 0, _, _ => .inl rfl
  | i + 1, k, hi => by
    obtain ⟨c, hc⟩ : ∃ c, D[i]? = some c := ⟨D[i], List.getElem?_eq_getElem (by omega)⟩
    have ih := rowF_len hD i k (by omega)
    have hon := hD.on c (List.mem_of_getElem? hc)
    unfold On at hon
    rw [rowF_take hc]
    split
    · rename_i hy
      refine .inr ⟨i, c, by omega, hc, hy, ?_⟩
      have hle : ((rowF (D.take i) k).length : Int) ≤ c.x := by
        rcases ih with h | ⟨j, d, hj, hd, hdy, hl⟩
        · omega
        · obtain ⟨hj', rfl⟩ := List.getElem?_eq_some_iff.1 hd
          obtain ⟨hi', rfl⟩ := List.getElem?_eq_some_iff.1 hc
          have := bef_iff.1 (List.pairwise_iff_getElem.1 hD.srt j i hj' hi' hj)
          omega
      simp only [List.length_append, List.length_replicate, List.length_cons, List.length_nil]
      omega
    · rcases ih with h | ⟨j, d, hj, hd, hdy, hl⟩
      · exact .inl h
      · exact .inr ⟨j, d, by omega, hd, hdy, hl⟩
/-- the next cell lies behind its row's text -/
theorem rowF_le {D : List Cell} (hD : Grd D) {i k : Nat} {c : Cell} (hc : D[i]? = some c) (hk : c.y = (k : Int)) : (rowF (D.take i) k).length ≤ c.x.toNat := by
  have hi := (List.getElem?_eq_some_iff.1 hc).1
  rcases rowF_len hD i k (by omega) with h | ⟨j, d, hj, hd, hdy, hl⟩
  · omega
  · obtain ⟨hj', rfl⟩ := List.getElem?_eq_some_iff.1 hd
    obtain ⟨hi', rfl⟩ := List.getElem?_eq_some_iff.1 hc
    have := bef_iff.1 (List.pairwise_iff_getElem.1 hD.srt j i hj' hi' hj)
    omega
theorem rowF_8 {D : List Cell} (hD : Grd D) {i k : Nat} (hi : i ≤ D.length) : (rowF (D.take i) k).length ≤ 8 := by
  rcases rowF_len hD i k hi with h | ⟨j, d, hj, hd, hdy, hl⟩
  · omega
  · have := hD.on d (List.mem_of_getElem? hd)
    unfold On at this
    omega
theorem rowF_none {k : Nat} : ∀ {B : List Cell} {t : List UInt8}, (∀ c ∈ B, c.y ≠ (k : Int)) → B.foldl (fun t c => if c.y = (k : Int) then t ++ (List.replicate (c.x.toNat - t.length) 46 ++ [35]) else t) t = t
  | [], _, _ => rfl
  | c :: B, t, h => by
    rw [List.foldl_cons, if_neg (h c (by simp))]
    exact rowF_none fun d hd => h d (by simp [hd])
/-- the rows up to y, with strokes between them -/
def txtF (f : Nat → List UInt8) : Nat → List UInt8
  | 0 => f 0
  | y + 1 => txtF f y ++ 47 :: f (y + 1)
theorem txtF_len {f : Nat → List UInt8} (h : ∀ k, (f k).length ≤ 8) : ∀ y, (txtF f y).length ≤ 9 * y + 8
  | 0 => h 0
  | y + 1 => by
    have := txtF_len h y
    have := h (y + 1)
    rw [txtF, List.length_append, List.length_cons]
    omega
theorem txtF_next {f : Nat → List UInt8} {y : Nat} (h : f (y + 1) = []) : txtF f (y + 1) = txtF f y ++ [47] := by rw [txtF, h]
theorem txtF_same {f g : Nat → List UInt8} : ∀ {y : Nat}, (∀ k, k ≤ y → g k = f k) → txtF g y = txtF f y
  | 0, h => h 0 (Nat.le_refl _)
  | y + 1, h => by rw [txtF, txtF, h _ (Nat.le_refl _), txtF_same fun k hk => h k (by omega)]
theorem txtF_add {f g : Nat → List UInt8} {y : Nat} {e : List UInt8} (h : ∀ k, k < y → g k = f k) (hy : g y = f y ++ e) : txtF g y = txtF f y ++ e := by
  cases y with
  | zero => exact hy
  | succ y => rw [txtF, txtF, hy, txtF_same (f := f) (g := g) fun k hk => h k (by omega)]; simp
/-- a shape's text -/
def fmtSh (s : List Cell) : ByteArray := tb (txtF (rowF (corner s)) (htOf s - 1).toNat)
set_option maxRecDepth 100000 in
set_option maxHeartbeats 3200000 in
theorem spec_fmtSh_c {v : Value} {s : List Cell} (w : World) (h : CellsRd w 0 w.heap.size v s) (hsh : isShape s = true) :
    Calls Tryz.prog 19 #[v] w fun e w' => e = .returned (.string (fmtSh s)) ∧ Below w.heap.size w w' := by
  have HC := Lib.hid (cornerShape_c w h hsh)
  obtain ⟨A, c, rfl, _, _⟩ := id h
  have HG := Lib.hid (grd_corner hsh)
  have HSH := Lib.hid hsh
  obtain ⟨D, hD⟩ : ∃ D, D = corner s := ⟨_, rfl⟩
  rw [← hD] at HC HG
  have HR : Hid (fmtSh s = tb (txtF (rowF D) (htOf s - 1).toNat)) := Lib.hid (by rw [hD]; rfl)
  have HDD := Lib.hid hD
  obtain ⟨R, hR⟩ : ∃ R, R = fmtSh s := ⟨_, rfl⟩
  rw [← hR] at HR ⊢
  clear h hsh hD hR
  go_enter Tryz.func19, Tryz.ntmps19
  go_wp2_with fail
  refine (HC.out).mono ?_
  rintro e w1 ⟨v1, rfl, o1, b1⟩
  obtain ⟨A1, c1, rfl, _, hr⟩ := o1.rd
  obtain ⟨n, hn⟩ : ∃ n, n = D.length := ⟨_, rfl⟩
  rw [← hn] at hr ⊢
  have HN := Lib.hid hn
  obtain ⟨b, off, hA1, _, hb, hc⟩ := hr.2 (by have := HG.out.len; omega)
  subst hA1
  have HCE := Lib.hid hc
  have hn8 : n ≤ 8 := by have := HG.out.len; omega
  have hn1 : 1 ≤ n := by have := HG.out.len; omega
  clear hr hc hn o1 HC
  go_wp2
  go_loopw [4, 5, 6, 7] (fun tv xv yv iv wx => ∃ (i x y : Nat) (T : List UInt8), i ≤ n ∧ iv = .int .i64 i ∧ xv = .int .i64 x ∧ yv = .int .i64 y ∧ tv = .string (tb T) ∧ x ≤ 8 ∧ y ≤ 7 ∧ Hid (T = txtF (rowF (D.take i)) y) ∧ Hid (x = (rowF (D.take i) y).length) ∧ Hid (∀ c ∈ D.take i, c.y ≤ (y : Int)) ∧ Hid (∀ c, D[i]? = some c → (y : Int) ≤ c.y) ∧ Hid (i = n → (y : Int) = htOf s - 1) ∧ w1 = wx) (fun _ _ _ iv _ => n - (intOf iv).toNat)
  case atStart => exact ⟨0, 0, 0, [], Nat.zero_le _, rfl, rfl, rfl, rfl, by omega, by omega, Lib.hid rfl, Lib.hid rfl, Lib.hid (fun c hc => by simp at hc), Lib.hid (fun c hc => by have := HG.out.on c (List.mem_of_getElem? hc); unfold On at this; omega), Lib.hid (fun h => by omega), rfl⟩
  case round =>
    obtain ⟨i, x, y, T, hi, rfl, rfl, rfl, rfl, hx8, hy7, HT, HX, HY, HYN, HE, rfl⟩ := hrel
    by_cases hlt : i < n
    · have hlti : (i : Int) < (n : Int) := by omega
      obtain ⟨d, hd⟩ : ∃ d, D[i]? = some d := ⟨D[i]'(by rw [← HN.out]; exact hlt), List.getElem?_eq_getElem _⟩
      have hon := HG.out.on d (List.mem_of_getElem? hd)
      unfold On at hon
      have hdy := HYN.out d hd
      obtain ⟨cX, hcX⟩ : ∃ m : Nat, d.x = (m : Int) := ⟨d.x.toNat, by omega⟩
      obtain ⟨cY, hcY⟩ : ∃ m : Nat, d.y = (m : Int) := ⟨d.y.toNat, by omega⟩
      have x1 := HCE.out _ _ (cc_at hd).1
      have x2 : w1.cell? ⟨b, off + i * 2 + 1, none⟩ = some (.int .i64 d.y) := by rw [Nat.add_assoc]; exact HCE.out _ _ (cc_at hd).2
      rw [hcX] at x1
      rw [hcY] at x2
      have hyc : y ≤ cY := by omega
      have hcX7 : cX ≤ 7 := by omega
      have hcY7 : cY ≤ 7 := by omega
      have HD := Lib.hid hd
      have HCX := Lib.hid hcX
      have HCY := Lib.hid hcY
      clear hd hon hdy hcX hcY HYN HE
      go_wp2
      go_loopw [4, 5, 6] (fun tv xv yv wx => ∃ (x y : Nat) (T : List UInt8), xv = .int .i64 x ∧ yv = .int .i64 y ∧ tv = .string (tb T) ∧ x ≤ 8 ∧ y ≤ cY ∧ Hid (T = txtF (rowF (D.take i)) y) ∧ Hid (x = (rowF (D.take i) y).length) ∧ Hid (∀ c ∈ D.take i, c.y ≤ (y : Int)) ∧ w1 = wx) (fun _ _ yv _ => cY - (intOf yv).toNat)
      case atStart => exact ⟨x, y, T, rfl, rfl, rfl, hx8, hyc, HT, HX, HY, rfl⟩
      case round =>
        clear HT HX HY hx8 hyc hy7
        obtain ⟨x, y, T, rfl, rfl, rfl, hx8, hyc, HT, HX, HY, rfl⟩ := hrel
        have hTl : (tb T).size ≤ 80 := by
          rw [tb_size, HT.out]
          have := txtF_len (f := rowF (D.take i)) (fun k => rowF_8 HG.out (by rw [← HN.out]; omega)) y
          omega
        have hs1 : ¬ 9223372036854775807 < (tb T).size + 1 := by omega
        by_cases hy : y < cY
        · have hyi : (y : Int) < (cY : Int) := by omega
          have HT2 : Hid (T ++ [47] = txtF (rowF (D.take i)) (y + 1)) := Lib.hid (by
            rw [HT.out, txtF_next (rowF_none fun c hc => by have := HY.out c hc; omega)])
          have HX2 : Hid (0 = (rowF (D.take i) (y + 1)).length) := Lib.hid (by
            have : rowF (D.take i) (y + 1) = [] := rowF_none fun c hc => by have := HY.out c hc; omega
            rw [this]; rfl)
          have HY2 : Hid (∀ c ∈ D.take i, c.y ≤ ((y + 1 : Nat) : Int)) := Lib.hid fun c hc => by have := HY.out c hc; omega
          go_wp2
          go_roundw
          case rel => exact ⟨0, y + 1, T ++ [47], rfl, by go_num, congrArg Value.string (tb_app (a := T) (b := [47])), by omega, by omega, HT2, HX2, HY2, trivial⟩
          case measure => simp [intOf]; omega
        · obtain rfl : y = cY := by omega
          have HXL : Hid (x ≤ cX) := Lib.hid (by
            have := rowF_le HG.out HD.out HCY.out
            rw [← HX.out] at this
            have := HCX.out
            omega)
          have hxl := HXL.out
          clear hs1
          go_wp2
          go_loopw [4, 5] (fun tv xv wx => ∃ (e : Nat), xv = .int .i64 ((x + e : Nat) : Int) ∧ tv = .string (tb (T ++ List.replicate e 46)) ∧ x + e ≤ cX ∧ w1 = wx) (fun _ xv _ => cX - (intOf xv).toNat)
          case atStart => exact ⟨0, rfl, by simp, by omega, rfl⟩
          case round =>
            obtain ⟨e, rfl, rfl, hxe, rfl⟩ := hrel
            have hT2 : (tb (T ++ List.replicate e 46)).size ≤ 90 := by
              rw [tb_size] at hTl ⊢
              rw [List.length_append, List.length_replicate]
              omega
            have hs1 : ¬ 9223372036854775807 < (tb (T ++ List.replicate e 46)).size + 1 := by omega
            by_cases hx : x + e < cX
            · have hxi : ((x + e : Nat) : Int) < (cX : Int) := by omega
              have HS : Hid (tb (T ++ List.replicate e 46) ++ ⟨#[46]⟩ = tb (T ++ List.replicate (e + 1) 46)) := Lib.hid (by
                rw [List.replicate_succ', ← List.append_assoc]
                exact tb_app (b := [46]))
              generalize tb (T ++ List.replicate e 46) = U at *
              obtain ⟨z, hz⟩ : ∃ z : Nat, z = x + e := ⟨_, rfl⟩
              rw [← hz] at hxi hxe hx ⊢
              have HZ := Lib.hid hz
              clear hz
              go_wp2
              go_roundw
              case rel => exact ⟨e + 1, by have := HZ.out; go_num, by rw [HS.out], by have := HZ.out; omega, trivial⟩
              case measure => simp [intOf]; omega
            · have hze : x + e = cX := by omega
              have HNT : Hid (T ++ List.replicate e 46 ++ [35] = txtF (rowF (D.take (i + 1))) y) := Lib.hid (by
                have h1 := rowF_take (k := y) HD.out
                rw [if_pos HCY.out] at h1
                have h2 := txtF_add (f := rowF (D.take i)) (g := rowF (D.take (i + 1))) (y := y) (e := List.replicate (d.x.toNat - (rowF (D.take i) y).length) 46 ++ [35]) (fun k hk => by
                  rw [rowF_take HD.out, if_neg (by have := HCY.out; omega)]) h1
                rw [h2, ← HT.out, ← HX.out]
                have : d.x.toNat - x = e := by have := HCX.out; omega
                rw [this, List.append_assoc])
              have HNX : Hid (cX + 1 = (rowF (D.take (i + 1)) y).length) := Lib.hid (by
                rw [rowF_take HD.out, if_pos HCY.out, List.length_append, List.length_append, List.length_replicate, ← HX.out]
                have := HCX.out
                simp only [List.length_cons, List.length_nil]
                omega)
              have HNY : Hid (∀ c ∈ D.take (i + 1), c.y ≤ (y : Int)) := Lib.hid fun c hc => by
                rw [List.take_add_one, HD.out] at hc
                rcases List.mem_append.1 hc with hc | hc
                · exact HY.out c hc
                · simp at hc
                  subst hc
                  have := HCY.out
                  omega
              have HNN : Hid (∀ c, D[i + 1]? = some c → (y : Int) ≤ c.y) := Lib.hid fun c hc => by
                obtain ⟨hi', rfl⟩ := List.getElem?_eq_some_iff.1 hc
                obtain ⟨hi2, hdd⟩ := List.getElem?_eq_some_iff.1 HD.out
                have := bef_iff.1 (List.pairwise_iff_getElem.1 HG.out.srt i (i + 1) hi2 hi' (by omega))
                rw [hdd] at this
                have := HCY.out
                omega
              have HNE : Hid (i + 1 = n → (y : Int) = htOf s - 1) := Lib.hid fun hin => by
                have hdm : d ∈ corner s := by rw [← HDD.out]; exact List.mem_of_getElem? HD.out
                have h1 := (corner_lt hdm).2
                have h2 := mxTo_le (f := (·.y)) (l := corner s) (m := (y : Int) + 1) (fun c hc => by
                  rw [← HDD.out] at hc
                  have : D.take (i + 1) = D := by rw [hin, HN.out, List.take_length]
                  have := HNY.out c (by rw [this]; exact hc)
                  omega) (by omega) (corner s).length (Nat.le_refl _)
                have := HCY.out
                unfold htOf at *
                omega
              have HS : Hid (tb (T ++ List.replicate e 46) ++ ⟨#[35]⟩ = tb (T ++ List.replicate e 46 ++ [35])) := Lib.hid (tb_app (b := [35]))
              generalize tb (T ++ List.replicate e 46) = U at *
              rw [hze]
              clear hze
              go_wp2
              go_roundw
              case rel => exact ⟨i + 1, cX + 1, y, _, by omega, by go_num, by go_num, rfl, by rw [HS.out], by omega, by omega, HNT, HNX, HNY, HNN, HNE, trivial⟩
              case measure => simp [intOf]; omega
    · obtain rfl : i = n := by omega
      have HRR : Hid (R = tb T) := Lib.hid (by
        have h1 := HE.out rfl
        rw [HR.out, HT.out, HN.out, List.take_length]
        congr 2
        omega)
      go_wp2
      go_ret
      exact ⟨by rw [HRR.out]; rfl, b1⟩
end Go.Proofs.YtjkppigjajknaaaGreatDoor

namespace Go.Proofs.YtjkppigjajknaaaGreatDoor
open Go.RowKit

end Go.Proofs.YtjkppigjajknaaaGreatDoor

namespace Go.Proofs.YtjkppigjajknaaaGreatDoor
open Go.RowKit

set_option maxRecDepth 100000 in
set_option maxHeartbeats 800000 in
theorem impl_cornerShape_c {v : Value} {s : List Cell} (w : World) (h : CellsRd w 0 w.heap.size v s) (hsh : isShape s = true) :
    Calls Tryz.prog 68 #[v] w fun e w' => ∃ v', e = .returned v' ∧ CellsIn w' w.heap.size w'.heap.size v' (corner s) ∧ Below w.heap.size w w' := by
  have hl := shp_len hsh
  have HI := Lib.hid (impl_isShape_c w h (by omega))
  rw [hsh] at HI
  have HC : Hid (∀ w1, Below w.heap.size w w1 → Calls Tryz.prog 115 #[v] w1 fun e w' => ∃ v', e = .returned v' ∧ CellsIn w' w1.heap.size w'.heap.size v' (corner s) ∧ Below w1.heap.size w1 w') := Lib.hid fun w1 b1 => by
    have := impl_corner_c w1 ((h.keep (SameIn.of_below b1 (Nat.le_refl _))).more (Nat.le_refl _) b1.size) hl.1 (by omega) (shp_sml5 hsh)
    rw [sort_shp hsh] at this
    exact this
  obtain ⟨A, c, rfl, _, _⟩ := id h
  clear h hsh
  go_enter Tryz.func68, Tryz.ntmps68
  go_wp2_with fail
  refine (HI.out).mono ?_
  rintro e w1 ⟨rfl, b1⟩
  have HC2 := Lib.hid (HC.out w1 b1)
  clear HC HI
  go_wp2_with fail
  refine (HC2.out).mono ?_
  rintro e w2 ⟨v2, rfl, o2, b2⟩
  obtain ⟨A2, c2, rfl, _, _⟩ := o2.rd
  have HO := Lib.hid o2
  have hb := b1.trans (b2.mono b1.size)
  have hb1 := b1.size
  clear b1 b2 HC2 o2
  go_wp2
  go_ret
  exact ⟨_, rfl, HO.out.base hb1 (Nat.le_refl _), hb⟩
set_option maxRecDepth 100000 in
set_option maxHeartbeats 1600000 in
theorem extent_c {v : Value} {D : List Cell} (w : World) (h : CellsRd w 0 w.heap.size v D) (hG : Grd D) :
    Calls Tryz.prog 69 #[v] w fun e w' => e = .returned (.tuple #[.int .i64 (mxTo (·.x) D D.length), .int .i64 (mxTo (·.y) D D.length)]) ∧ Below w.heap.size w w' := by
  obtain ⟨A, c, rfl, hm, hr⟩ := h
  obtain ⟨n, hn⟩ : ∃ n, n = D.length := ⟨_, rfl⟩
  rw [← hn] at hr ⊢
  have HN := Lib.hid hn
  obtain ⟨b, off, hA, _, hb, hc⟩ := hr.2 (by have := hG.len; omega)
  subst hA
  have HCE := Lib.hid hc
  have HG := Lib.hid hG
  have hn8 : n ≤ 8 := by have := hG.len; omega
  clear hr hc hn hG hm
  go_enter Tryz.func69, Tryz.ntmps69
  go_wp2
  go_loopw [4, 5, 10] (fun xv yv kv wx => ∃ (k : Nat) (X Y : Int), k ≤ n ∧ kv = .int .i64 k ∧ xv = .int .i64 X ∧ yv = .int .i64 Y ∧ Hid (X = mxTo (·.x) D k) ∧ Hid (Y = mxTo (·.y) D k) ∧ Below w.heap.size w wx) (fun _ _ kv _ => n - (intOf kv).toNat)
  case atStart => exact ⟨0, 0, 0, Nat.zero_le _, rfl, rfl, rfl, Lib.hid rfl, Lib.hid rfl, Below.refl _ _⟩
  case round =>
    obtain ⟨k, X, Y, hk, rfl, rfl, rfl, HX, HY, hbel⟩ := hrel
    by_cases hlt : k < n
    · obtain ⟨d, hd⟩ : ∃ d, D[k]? = some d := ⟨D[k]'(by rw [← HN.out]; exact hlt), List.getElem?_eq_getElem _⟩
      have hon := HG.out.on d (List.mem_of_getElem? hd)
      unfold On at hon
      obtain ⟨⟨n1, n2⟩, n3, n4⟩ := hon
      have x1 := (hbel.cell (p := ⟨b, off + k * 2, none⟩) hb).trans (HCE.out _ _ (cc_at hd).1)
      have x2 : wr.cell? ⟨b, off + k * 2 + 1, none⟩ = some (.int .i64 d.y) := (hbel.cell (p := ⟨b, off + k * 2 + 1, none⟩) hb).trans (by rw [Nat.add_assoc]; exact HCE.out _ _ (cc_at hd).2)
      have HLA := Lib.hid hd
      have H1 := (Sep.start w).step hbel |>.box 49 #[.int .i64 d.x, .int .i64 d.y]
      obtain ⟨g, hg⟩ : ∃ g, g = wr.heap.size := ⟨_, rfl⟩
      clear hd
      go_upto_region 5 with fail
      rw [← hg] at H1 ⊢
      generalize wr.alloc (.cells #[.int .i64 d.x, .int .i64 d.y] 49) = W at *
      clear hg x1 x2
      have c0 : W.cell? ⟨g, 0, none⟩ = some (.int .i64 d.x) := H1.h0.cell 0
      have c1 : W.cell? ⟨g, 1, none⟩ = some (.int .i64 d.y) := H1.h0.cell 1
      have HB2 := H1.below
      clear H1 hbel
      have e1 : IntKind.i64.wrap (d.x + 1) = d.x + 1 := IntWalk.i64_in _ (by omega)
      have e2 : IntKind.i64.wrap (d.y + 1) = d.y + 1 := IntWalk.i64_in _ (by omega)
      have EX : Hid (mxTo (·.x) D (k + 1) = max X (d.x + 1)) := Lib.hid (by rw [mxTo_next HLA.out, ← HX.out]; split <;> omega)
      have EY : Hid (mxTo (·.y) D (k + 1) = max Y (d.y + 1)) := Lib.hid (by rw [mxTo_next HLA.out, ← HY.out]; split <;> omega)
      clear HX HY
      go_wp2_with fail
      go_quiet (fail)
      clear c0 c1 e1 e2
      have HB3 := below_drewN HB2 nq
      generalize W.drewN nq = w5 at *
      go_wp2
      go_roundw
      case rel => exact ⟨k + 1, _, _, by omega, by go_num, rfl, rfl, Lib.hid EX.out.symm, Lib.hid EY.out.symm, HB3⟩
      case measure => simp [intOf]; omega
    · obtain rfl : k = n := by omega
      go_wp2
      refine bodyPost_ret (results_tmp2 rfl _ _ _) rfl ?_
      exact ⟨by rw [← HX.out, ← HY.out]; rfl, hbel⟩
set_option maxRecDepth 100000 in
set_option maxHeartbeats 800000 in
theorem impl_cornerNo_c {v : Value} {s : List Cell} (w : World) (h : CellsRd w 0 w.heap.size v s) (hl : s.length ≤ 1048576) (hsh : isShape s = false) :
    Calls Tryz.prog 68 #[v] w fun e w' => e = .returned (.slice none 0 0) ∧ Below w.heap.size w w' := by
  have HI := Lib.hid (impl_isShape_c w h hl)
  rw [hsh] at HI
  obtain ⟨A, c, rfl, _, _⟩ := id h
  clear h hsh
  go_enter Tryz.func68, Tryz.ntmps68
  go_wp2_with fail
  refine (HI.out).mono ?_
  rintro e w1 ⟨rfl, b1⟩
  go_wp2
  go_ret
  exact ⟨rfl, b1⟩
set_option maxRecDepth 100000 in
set_option maxHeartbeats 800000 in
theorem extent_nil (w : World) : Calls Tryz.prog 69 #[.slice none 0 0] w fun e w' => e = .returned (.tuple #[.int .i64 0, .int .i64 0]) ∧ Below w.heap.size w w' := by
  go_enter Tryz.func69, Tryz.ntmps69
  go_wp2
  go_loopw [4, 5, 10] (fun xv yv kv wx => kv = .int .i64 0 ∧ xv = .int .i64 0 ∧ yv = .int .i64 0 ∧ Below w.heap.size w wx) (fun _ _ _ _ => 0)
  case atStart => exact ⟨rfl, rfl, rfl, Below.refl _ _⟩
  case round =>
    obtain ⟨rfl, rfl, rfl, hbel⟩ := hrel
    go_wp2
    exact bodyPost_ret (results_tmp2 rfl _ _ _) rfl ⟨rfl, hbel⟩
/-- the size of a shape; nothing for what is none -/
def szW (s : List Cell) : Int := if isShape s then wdOf s else 0
def szH (s : List Cell) : Int := if isShape s then htOf s else 0
set_option maxRecDepth 100000 in
set_option maxHeartbeats 800000 in
theorem impl_size_c {v : Value} {s : List Cell} (w : World) (h : CellsRd w 0 w.heap.size v s) (hl : s.length ≤ 1048576) :
    Calls Tryz.prog 191 #[v] w fun e w' => e = .returned (.tuple #[.int .i64 (szW s), .int .i64 (szH s)]) ∧ Below w.heap.size w w' := by
  unfold szW szH
  cases hsh : isShape s
  · have HC := Lib.hid (impl_cornerNo_c w h hl hsh)
    obtain ⟨A, c, rfl, _, _⟩ := id h
    clear h hsh
    go_enter Tryz.func191, Tryz.ntmps191
    go_wp2_with fail
    refine (HC.out).mono ?_
    rintro e w1 ⟨rfl, b1⟩
    go_wp2_with fail
    refine (extent_nil w1).mono ?_
    rintro e w2 ⟨rfl, b2⟩
    have hb := b1.trans (b2.mono b1.size)
    clear b1 b2 HC
    go_wp2
    exact bodyPost_ret (results_tmp2 rfl _ _ _) rfl ⟨rfl, hb⟩
  · have HC := Lib.hid (impl_cornerShape_c w h hsh)
    have HG := Lib.hid (grd_corner hsh)
    obtain ⟨X, hX⟩ : ∃ X, X = wdOf s := ⟨_, rfl⟩
    obtain ⟨Y, hY⟩ : ∃ Y, Y = htOf s := ⟨_, rfl⟩
    have hX2 : X = mxTo (·.x) (corner s) (corner s).length := hX
    have hY2 : Y = mxTo (·.y) (corner s) (corner s).length := hY
    simp only [if_true, ← hX, ← hY]
    obtain ⟨D, hD⟩ : ∃ D, D = corner s := ⟨_, rfl⟩
    rw [← hD] at HC HG hX2 hY2
    have HX := Lib.hid hX2
    have HY := Lib.hid hY2
    obtain ⟨A, c, rfl, _, _⟩ := id h
    clear h hsh hX hY hX2 hY2 hD
    go_enter Tryz.func191, Tryz.ntmps191
    go_wp2_with fail
    refine (HC.out).mono ?_
    rintro e w1 ⟨v1, rfl, o1, b1⟩
    have HEX := Lib.hid (extent_c w1 (o1.rd.more (Nat.zero_le _) (Nat.le_refl _)) HG.out)
    rw [← HX.out, ← HY.out] at HEX
    obtain ⟨A1, c1, rfl, _, _⟩ := o1.rd
    clear HC
    go_wp2_with fail
    refine (HEX.out).mono ?_
    rintro e w2 ⟨rfl, b2⟩
    have hb := b1.trans (b2.mono b1.size)
    clear b1 b2 o1 HEX
    go_wp2
    exact bodyPost_ret (results_tmp2 rfl _ _ _) rfl ⟨rfl, hb⟩
set_option maxRecDepth 100000 in
set_option maxHeartbeats 800000 in
theorem spec_cornerNo_c {v : Value} {s : List Cell} (w : World) (h : CellsRd w 0 w.heap.size v s) (hl : s.length ≤ 1048576) (hsh : isShape s = false) :
    Calls Tryz.prog 61 #[v] w fun e w' => ∃ A c, e = .returned (.slice A 0 c) ∧ Below w.heap.size w w' := by
  have HI := Lib.hid (spec_isShape_c w h hl)
  rw [hsh] at HI
  obtain ⟨A, c, rfl, _, _⟩ := id h
  clear h hsh
  go_enter Tryz.func61, Tryz.ntmps61
  go_wp2_with fail
  refine (HI.out).mono ?_
  rintro e w1 ⟨rfl, b1⟩
  have H1 := (Sep.start w).step b1 |>.rowBox 49 #[] 2 0 rfl (by decide)
  have hb := H1.below
  clear H1
  go_wp2
  go_ret
  exact ⟨_, _, rfl, hb⟩
set_option maxRecDepth 100000 in
set_option maxHeartbeats 800000 in
theorem spec_size_c {v : Value} {s : List Cell} (w : World) (h : CellsRd w 0 w.heap.size v s) (hl : s.length ≤ 1048576) :
    Calls Tryz.prog 182 #[v] w fun e w' => e = .returned (.tuple #[.int .i64 (szW s), .int .i64 (szH s)]) ∧ Below w.heap.size w w' := by
  unfold szW szH
  cases hsh : isShape s
  · have HC := Lib.hid (spec_cornerNo_c w h hl hsh)
    obtain ⟨A, c, rfl, _, _⟩ := id h
    clear h hsh
    go_enter Tryz.func182, Tryz.ntmps182
    go_wp2_with fail
    refine (HC.out).mono ?_
    rintro e w1 ⟨A1, c1, rfl, b1⟩
    clear HC
    go_wp2
    go_loopw [5, 6, 7] (fun xv yv kv wx => kv = .int .i64 0 ∧ xv = .int .i64 0 ∧ yv = .int .i64 0 ∧ Below w.heap.size w wx) (fun _ _ _ _ => 0)
    case atStart => exact ⟨rfl, rfl, rfl, b1⟩
    case round =>
      obtain ⟨rfl, rfl, rfl, hbel⟩ := hrel
      go_wp2
      exact bodyPost_ret (results_tmp2 rfl _ _ _) rfl ⟨rfl, hbel⟩
  · exact sizeOf_c w h hsh
end Go.Proofs.YtjkppigjajknaaaGreatDoor

namespace Go.Proofs.YtjkppigjajknaaaGreatDoor
open Go.RowKit

def sc (l : List ByteArray) : List Value := l.map .string
theorem sc_at {l : List ByteArray} {k : Nat} {a : ByteArray} (h : l[k]? = some a) : (sc l)[k]? = some (.string a) := by simp [sc, h]
theorem sc_length {l : List ByteArray} : (sc l).length = l.length := by simp [sc]
theorem sc_append (l m : List ByteArray) : sc (l ++ m) = sc l ++ sc m := by simp [sc]
theorem sc_one {l : List ByteArray} : ∀ u ∈ sc l, u.oneCell' = true := by
  intro u hu
  obtain ⟨a, _, rfl⟩ := List.mem_map.1 hu
  rfl
theorem ocs {a : ByteArray} : ∀ u ∈ [Value.string a], u.oneCell' = true := by intro u hu; simp at hu; subst hu; rfl
set_option maxRecDepth 100000 in
theorem infoStr : (Tryz.prog.info? 9).map (fun i => (i.zero, i.size, i.bytes)) = some (some (.string ⟨#[]⟩), 1, 16) := by kernel_rfl
def StrsRd (w : World) (lo hi : Nat) (v : Value) (l : List ByteArray) : Prop := SR w lo hi 1 v l.length (sc l)
def StrsIn (w : World) (lo hi : Nat) (v : Value) (l : List ByteArray) : Prop := OI w lo hi 9 1 v l.length (sc l)
section
variable {w w' : World} {lo hi lo' hi' : Nat} {v : Value} {l : List ByteArray}
theorem StrsRd.keep (h : StrsRd w lo hi v l) (hs : SameIn lo hi w w') : StrsRd w' lo hi v l := SR.keep h hs
theorem StrsRd.more (h : StrsRd w lo hi v l) (h1 : lo' ≤ lo) (h2 : hi ≤ hi') : StrsRd w lo' hi' v l := SR.more h h1 h2
theorem StrsIn.keep (h : StrsIn w lo hi v l) (hs : SameIn lo hi w w') : StrsIn w' lo hi v l := OI.keep h hs
theorem StrsIn.rd (h : StrsIn w lo hi v l) : StrsRd w lo hi v l := OI.sr h
theorem StrsIn.mk {n : Nat} {xs : List Value} (h : w.ownsRow lo 9 1 v n xs) (hn : n = l.length) (hx : xs = sc l) : StrsIn w lo w.heap.size v l := by
  subst hn
  subst hx
  exact OI.mk h
theorem StrsIn.nil : StrsIn w lo hi (.slice none 0 0) [] := OI.nil
end

/-- texts, a text between any two -/
def joinB (sep : ByteArray) (l : List ByteArray) : ByteArray := ⟨(Lib.join (l.map (·.data.toList)) sep.data.toList).toArray⟩
theorem joinB_nil (s : ByteArray) : joinB s [] = ⟨#[]⟩ := rfl
theorem joinB_one (s x : ByteArray) : joinB s [x] = x := by
  apply ba_ext
  simp [joinB, Lib.join_one]
theorem join_two (x y s : List UInt8) (r : List (List UInt8)) : Lib.join (x :: y :: r) s = x ++ s ++ Lib.join (y :: r) s := by
  rw [Lib.join_cons, Lib.join_cons]
  simp [Lib.joinTail, List.append_assoc]
theorem joinB_cons (s x y : ByteArray) (r : List ByteArray) : joinB s (x :: y :: r) = x ++ s ++ joinB s (y :: r) := by
  apply ba_ext
  simp only [joinB, List.map_cons, ba_app]
  exact join_two _ _ _ _
theorem join_snoc (s x : List UInt8) : ∀ (l : List (List UInt8)), l ≠ [] → Lib.join (l ++ [x]) s = Lib.join l s ++ s ++ x
  | [], h => absurd rfl h
  | [a], _ => by rw [List.singleton_append, join_two, Lib.join_one, Lib.join_one]
  | a :: b :: r, _ => by
    rw [List.cons_append, List.cons_append, join_two, join_two, ← List.cons_append, join_snoc s x (b :: r) (by simp)]
    simp [List.append_assoc]
theorem joinB_snoc (s x : ByteArray) (l : List ByteArray) (h : l ≠ []) : joinB s (l ++ [x]) = joinB s l ++ s ++ x := by
  apply ba_ext
  simp only [joinB, List.map_append, List.map_cons, List.map_nil, ba_app]
  exact join_snoc _ _ _ (by simpa using h)
theorem join_len {s : List UInt8} {b : Nat} : ∀ {l : List (List UInt8)}, (∀ x ∈ l, x.length ≤ b) → (Lib.join l s).length ≤ l.length * (b + s.length)
  | [], _ => by simp [Lib.join_nil]
  | [a], h => by
    have := h a (by simp)
    rw [Lib.join_one]
    simp
    omega
  | a :: c :: r, h => by
    have h1 := h a (by simp)
    have h2 := join_len (s := s) (l := c :: r) (fun x hx => h x (List.mem_cons_of_mem _ hx))
    rw [join_two, List.length_append, List.length_append]
    rw [List.length_cons, Nat.succ_mul]
    omega
theorem joinB_len (s : ByteArray) (l : List ByteArray) : (joinB s l).size = (Lib.join (l.map (·.data.toList)) s.data.toList).length := List.size_toArray
theorem joinB_size {s : ByteArray} {b : Nat} {l : List ByteArray} (h : ∀ x ∈ l, x.size ≤ b) : (joinB s l).size ≤ l.length * (b + s.size) := by
  have := join_len (s := s.data.toList) (b := b) (l := l.map (·.data.toList)) (by
    intro x hx
    obtain ⟨a, ha, rfl⟩ := List.mem_map.1 hx
    exact h a ha)
  rw [joinB_len]
  rw [List.length_map] at this
  exact this

set_option maxRecDepth 100000 in
/-- strings.Join -/
theorem join_c {v : Value} {l : List ByteArray} {b : Nat} (sep : ByteArray) (w : World) (h : StrsRd w 0 w.heap.size v l) (hc : ∃ A c, v = .slice A l.length c ∧ l.length ≤ c) (hb : ∀ x ∈ l, x.size ≤ b) (hn : l.length * (b + sep.size) ≤ 140737488355328) (hn2 : l.length ≤ 140737488355328) :
    Calls Tryz.prog 71 #[v, .string sep] w fun e w' => e = .returned (.string (joinB sep l)) ∧ Below w.heap.size w w' := by
  obtain ⟨A, c, rfl, hm, hr⟩ := h
  obtain ⟨A', c', he, hc⟩ := hc
  injection he with h1 h2 h3
  subst h1 h3
  rcases l with _ | ⟨x, r⟩
  · exact (Tryz.strings_Join_none A c sep w).mono fun e w' ⟨he, hw⟩ => ⟨he, hw ▸ Below.refl _ _⟩
  · obtain ⟨bk, o, rfl, _, hbk, hcell⟩ := hr.2 (by simp)
    exact Tryz.strings_Join bk o c (x :: r) sep w (fun j u hu => hcell j _ (sc_at hu)) hbk hn2 hc (by
      have := joinB_size (s := sep) hb
      rw [← joinB_len]
      omega)
set_option maxRecDepth 100000 in
/-- strings.Join of an owned row -/
theorem join_own {w0 w : World} {L : List Res} {v : Value} {l : List ByteArray} {n b : Nat} (sep : ByteArray) (H : Sep w0 w (Res.row v 9 1 n (sc l) :: L)) (hn : n = l.length) (hb : ∀ x ∈ l, x.size ≤ b) (hl : l.length ≤ 1048576) (hb2 : b + sep.size ≤ 100000000) :
    Calls Tryz.prog 71 #[v, .string sep] w fun e w' => e = .returned (.string (joinB sep l)) ∧ Below w.heap.size w w' := by
  subst hn
  obtain ⟨A, c, rfl, h1, h2, hr⟩ := Res.row_at H.h0
  refine join_c sep w ⟨A, c, rfl, by omega, hr⟩ ⟨A, c, rfl, h1⟩ hb ?_ (by omega)
  calc l.length * (b + sep.size) ≤ 1048576 * 100000000 := Nat.mul_le_mul hl hb2
    _ ≤ 140737488355328 := by decide
end Go.Proofs.YtjkppigjajknaaaGreatDoor

namespace Go.Proofs.YtjkppigjajknaaaGreatDoor
open Go.RowKit

/-- what 'FormatInt' answers in all worlds behind one -/
def SNumAt (w : World) (n : Int) (b : ByteArray) : Prop := ∀ w', Below w.heap.size w w' → Calls Tryz.prog 21 #[.int .i64 n] w' fun e w'' => e = .returned (.string b) ∧ Below w'.heap.size w' w''
def INumAt (w : World) (n : Int) (b : ByteArray) : Prop := ∀ w', Below w.heap.size w w' → Calls Tryz.prog 31 #[.int .i64 n] w' fun e w'' => e = .returned (.string b) ∧ Below w'.heap.size w' w''
theorem SNumAt.on {w w1 : World} {n : Int} {b : ByteArray} (h : SNumAt w n b) (hb : Below w.heap.size w w1) : SNumAt w1 n b := fun w' hw => h w' (hb.trans (hw.mono hb.size))
theorem INumAt.on {w w1 : World} {n : Int} {b : ByteArray} (h : INumAt w n b) (hb : Below w.heap.size w w1) : INumAt w1 n b := fun w' hw => h w' (hb.trans (hw.mono hb.size))
def commaB : ByteArray := ⟨#[44]⟩
def spaceB : ByteArray := ⟨#[32]⟩
def noneT : ByteArray := ⟨#[110, 111, 110, 101]⟩
def numTo (f : Int → ByteArray) (l : List Int) (k : Nat) : ByteArray := joinB commaB ((l.take k).map f)
def numT (f : Int → ByteArray) (l : List Int) : ByteArray := if l = [] then noneT else joinB commaB (l.map f)
theorem numTo_zero {f : Int → ByteArray} {l : List Int} : numTo f l 0 = ⟨#[]⟩ := rfl
theorem ba_nil (b : ByteArray) : (⟨#[]⟩ : ByteArray) ++ b = b := by apply ba_ext; simp
theorem numTo_succ {f : Int → ByteArray} {l : List Int} {k : Nat} {n : Int} (h : l[k]? = some n) : numTo f l (k + 1) = if 0 < k then numTo f l k ++ commaB ++ f n else numTo f l k ++ f n := by
  have hk : k < l.length := (List.getElem?_eq_some_iff.1 h).1
  have hn : l[k] = n := (List.getElem?_eq_some_iff.1 h).2
  unfold numTo
  rw [List.take_succ_eq_append_getElem hk, hn, List.map_append, List.map_cons, List.map_nil]
  split
  · rename_i h0
    refine joinB_snoc _ _ _ fun e => ?_
    have := congrArg List.length e
    rw [List.length_map, List.length_take] at this
    simp only [List.length_nil] at this
    omega
  · obtain rfl : k = 0 := by omega
    rw [List.take_zero, List.map_nil, List.nil_append, joinB_one, joinB_nil, ba_nil]
theorem numTo_size {f : Int → ByteArray} {l : List Int} (h : ∀ n ∈ l, (f n).size ≤ 30) (k : Nat) (hk : k ≤ l.length) : (numTo f l k).size ≤ k * 31 := by
  have := joinB_size (s := commaB) (b := 30) (l := (l.take k).map f) (by
    intro x hx
    obtain ⟨n, hn, rfl⟩ := List.mem_map.1 hx
    exact h n (List.mem_of_mem_take hn))
  rw [List.length_map, List.length_take, Nat.min_eq_left hk] at this
  exact this
theorem numTo_pos {f : Int → ByteArray} {l : List Int} (h : ∀ n ∈ l, 1 ≤ (f n).size) : ∀ k, 0 < k → k ≤ l.length → 1 ≤ (numTo f l k).size
  | k + 1, _, hk => by
    have h1 : l[k]? = some l[k] := List.getElem?_eq_getElem (by omega)
    rw [numTo_succ h1]
    have := h l[k] (List.getElem_mem _)
    split
    · rw [ByteArray.size_append]; omega
    · rw [ByteArray.size_append]; omega
theorem numT_all {f : Int → ByteArray} {l : List Int} (h : l ≠ []) : numT f l = numTo f l l.length := by
  unfold numT numTo
  rw [if_neg h, List.take_length]
theorem not_empty {b : ByteArray} (h : 1 ≤ b.size) : b.toList.isEmpty = false ∧ ¬ b.toList = [] := by
  have hn : ¬ b.toList = [] := by
    rw [Lib.toList_data]
    intro e
    have := congrArg List.length e
    simp at this
    have h2 : b.size = b.data.size := rfl
    rw [h2, this] at h
    simp at h
  exact ⟨by simpa using hn, hn⟩

end Go.Proofs.YtjkppigjajknaaaGreatDoor

namespace Go.Proofs.YtjkppigjajknaaaGreatDoor
open Go.RowKit

set_option maxRecDepth 100000 in
theorem line_own {w0 w : World} {L : List Res} {v : Value} {l : List ByteArray} {n b : Nat} (H : Sep w0 w (Res.row v 9 1 n (sc l) :: L)) (hn : n = l.length) (hb : ∀ x ∈ l, x.size ≤ b) (hl : l.length ≤ 1048576) (hb2 : b + 1 ≤ 100000000) :
    Calls Tryz.prog 35 #[v] w fun e w' => e = .returned (.string (joinB spaceB l)) ∧ Below w.heap.size w w' := by
  subst hn
  rw [show spaceB = ⟨#[32]⟩ from rfl]
  have HJ := Lib.hid (join_own (b := b) ⟨#[32]⟩ H rfl hb hl (by have : (⟨#[32]⟩ : ByteArray).size = 1 := rfl; omega))
  obtain ⟨A, c, rfl, _, _, _⟩ := Res.row_at H.h0
  clear H
  go_enter Tryz.func35, Tryz.ntmps35
  go_wp2_with fail
  refine (HJ.out).mono ?_
  rintro e w1 ⟨rfl, b1⟩
  go_wp2
  go_ret
  exact ⟨rfl, b1⟩
end Go.Proofs.YtjkppigjajknaaaGreatDoor

namespace Go.Proofs.YtjkppigjajknaaaGreatDoor
open Go.RowKit

theorem txtF_join {f : Nat → List UInt8} : ∀ y, txtF f y = Lib.join ((List.range (y + 1)).map f) [47]
  | 0 => by simp [txtF, Lib.join_one]
  | y + 1 => by
    rw [List.range_succ, List.map_append, List.map_cons, List.map_nil, join_snoc _ _ _ (by simp), ← txtF_join y, txtF]
    simp

/-- the rows behind i cells -/
def rowsF (D : List Cell) (i h : Nat) : List ByteArray := (List.range h).map fun k => tb (rowF (D.take i) k)
theorem rowsF_len {D : List Cell} {i h : Nat} : (rowsF D i h).length = h := by simp [rowsF]
theorem rowsF_at {D : List Cell} {i h k : Nat} (hk : k < h) : (rowsF D i h)[k]? = some (tb (rowF (D.take i) k)) := by simp [rowsF, hk]
theorem rowsF_set {D : List Cell} {i h k : Nat} {c : Cell} (hk : k < h) (hc : D[i]? = some c) (hy : c.y = (k : Int)) : (rowsF D i h).set k (tb (rowF (D.take (i + 1)) k)) = rowsF D (i + 1) h := by
  apply List.ext_getElem?
  intro j
  by_cases hj : j < h
  · rw [rowsF_at hj]
    by_cases e : j = k
    · subst e
      rw [List.getElem?_set_self (by rw [rowsF_len]; exact hj)]
    · rw [List.getElem?_set_ne (fun q => e q.symm), rowsF_at hj, rowF_take hc, if_neg (by omega)]
  · rw [List.getElem?_eq_none (by rw [List.length_set, rowsF_len]; omega), List.getElem?_eq_none (by rw [rowsF_len]; omega)]
theorem sc_set {l : List ByteArray} {j : Nat} {a : ByteArray} : (sc l).set j (.string a) = sc (l.set j a) := by simp [sc, List.map_set]
theorem rep_dots (k : Nat) : (⟨(Lib.repeatL (⟨#[46]⟩ : ByteArray).data.toList k).toArray⟩ : ByteArray) = tb (List.replicate k 46) := by
  have := Lib.repeatL_replicate 46 1 k
  rw [Nat.mul_one] at this
  show (⟨(Lib.repeatL (List.replicate 1 46) k).toArray⟩ : ByteArray) = _
  rw [this]; rfl
set_option maxRecDepth 100000 in
set_option maxHeartbeats 3200000 in
theorem impl_fmtSh_c {v : Value} {s : List Cell} (w : World) (h : CellsRd w 0 w.heap.size v s) (hsh : isShape s = true) :
    Calls Tryz.prog 28 #[v] w fun e w' => e = .returned (.string (fmtSh s)) ∧ Below w.heap.size w w' := by
  obtain ⟨i0, hi, hz0, hz1, hz2⟩ := info_parts infoStr
  have HC := Lib.hid (impl_cornerShape_c w h hsh)
  obtain ⟨A, c, rfl, _, _⟩ := id h
  have HG := Lib.hid (grd_corner hsh)
  obtain ⟨D, hD⟩ : ∃ D, D = corner s := ⟨_, rfl⟩
  rw [← hD] at HC HG
  have hht := shp_size hsh
  obtain ⟨ht, hh⟩ : ∃ ht : Nat, htOf s = (ht : Int) := ⟨(htOf s).toNat, by omega⟩
  have hht1 : 1 ≤ ht := by omega
  have hht8 : ht ≤ 8 := by have := shp_min hsh; omega
  have HMX : Hid (mxTo (·.y) D D.length = (ht : Int)) := Lib.hid (by rw [hD, ← hh]; rfl)
  have HDH : Hid (∀ c ∈ D, c.y < (ht : Int)) := Lib.hid fun c hc => by rw [← hh]; exact (corner_lt (by rw [← hD]; exact hc)).2
  have HR : Hid (fmtSh s = joinB ⟨#[47]⟩ (rowsF D D.length ht)) := Lib.hid (by
    unfold fmtSh
    rw [← hD, txtF_join, hh, show ((ht : Int) - 1).toNat + 1 = ht by omega]
    unfold joinB rowsF
    rw [List.take_length, List.map_map]
    rfl)
  obtain ⟨R, hR⟩ : ∃ R, R = fmtSh s := ⟨_, rfl⟩
  rw [← hR] at HR ⊢
  have HREP : Hid (∀ (k : Nat) w1, k ≤ 8 → Calls Tryz.prog 70 #[.string ⟨#[46]⟩, .int .i64 k] w1 fun e w' => e = .returned (.string (tb (List.replicate k 46))) ∧ Below w1.heap.size w1 w') := Lib.hid fun k w1 hk => by
    have := Tryz.strings_Repeat ⟨#[46]⟩ k w1 (by omega) (by show 1 * k ≤ _; omega)
    rw [rep_dots] at this
    exact this
  clear h hsh hD hR hht hh
  go_enter Tryz.func28, Tryz.ntmps28
  go_wp2_with fail
  refine (HC.out).mono ?_
  rintro e w1 ⟨v1, rfl, o1, b1⟩
  have HEX := Lib.hid (extent_c w1 (o1.rd.more (Nat.zero_le _) (Nat.le_refl _)) HG.out)
  rw [HMX.out] at HEX
  obtain ⟨A1, c1, rfl, _, hr⟩ := o1.rd
  obtain ⟨n, hn⟩ : ∃ n, n = D.length := ⟨_, rfl⟩
  rw [← hn] at hr HEX HR ⊢
  have HN := Lib.hid hn
  obtain ⟨b, off, hA1, _, hb, hc⟩ := hr.2 (by have := HG.out.len; omega)
  subst hA1
  have HCE := Lib.hid hc
  have hn8 : n ≤ 8 := by have := HG.out.len; omega
  clear hr hc hn o1 HC
  obtain ⟨mx, hmx⟩ : ∃ mx, mx = mxTo (·.x) D n := ⟨_, rfl⟩
  rw [← hmx] at HEX
  clear hmx
  go_wp2_with fail
  refine (HEX.out).mono ?_
  rintro e w2 ⟨rfl, b2⟩
  have hmk := fun W => run_make_rowN (P := Tryz.prog) 52 9 i0 _ Tryz.underlying52 hi hz0 .i64 .i64 ht ht (Nat.le_refl _) (by rw [hz2]; omega) (by omega) W
  rw [hz1, Nat.mul_one] at hmk
  have H0 := ((Sep.start w1).step b2).rowBox 9 (madeCells #[Value.string ⟨#[]⟩] ht) 1 ht (by simp [size_madeCells]) (by unfold maxLen; omega)
  have e0 : (madeCells #[Value.string ⟨#[]⟩] ht).toList = sc (rowsF D 0 ht) := by
    show (madeCells #[Value.string ⟨#[]⟩] ht).toList = _
    rw [toList_madeCells_one]
    unfold rowsF sc rowF
    rw [List.map_map]
    exact (List.eq_replicate_iff.2 ⟨by simp, fun b hb => by
      obtain ⟨k, _, rfl⟩ := List.mem_map.1 hb
      rfl⟩).symm
  rw [e0] at H0
  clear e0 HEX
  obtain ⟨g, hg⟩ : ∃ g, g = w2.heap.size := ⟨_, rfl⟩
  rw [← hg] at H0
  go_wp2
  rw [← hg]
  generalize (w2.alloc (.cells (madeCells #[Value.string ⟨#[]⟩] ht) 9)) = W0 at *
  clear hg hmk b2
  go_loopw [20] (fun iv wx => ∃ (i : Nat), i ≤ n ∧ iv = .int .i64 i ∧ Sep w1 wx [Res.row (.slice (some ⟨g, 0, none⟩) ht ht) 9 1 ht (sc (rowsF D i ht))]) (fun iv _ => n - (intOf iv).toNat)
  case atStart => exact ⟨0, Nat.zero_le _, rfl, H0⟩
  case round =>
    clear H0
    obtain ⟨i, hin, rfl, H⟩ := hrel
    by_cases hlt : i < n
    · have hlti : (i : Int) < (n : Int) := by omega
      obtain ⟨d, hd⟩ : ∃ d, D[i]? = some d := ⟨D[i]'(by rw [← HN.out]; exact hlt), List.getElem?_eq_getElem _⟩
      have hon := HG.out.on d (List.mem_of_getElem? hd)
      have hdh := HDH.out d (List.mem_of_getElem? hd)
      unfold On at hon
      obtain ⟨cX, hcX⟩ : ∃ m : Nat, d.x = (m : Int) := ⟨d.x.toNat, by omega⟩
      obtain ⟨cY, hcY⟩ : ∃ m : Nat, d.y = (m : Int) := ⟨d.y.toNat, by omega⟩
      have x1 := (H.below.cell (p := ⟨b, off + i * 2, none⟩) hb).trans (HCE.out _ _ (cc_at hd).1)
      have x2 : wr.cell? ⟨b, off + i * 2 + 1, none⟩ = some (.int .i64 d.y) := (H.below.cell (p := ⟨b, off + i * 2 + 1, none⟩) hb).trans (by rw [Nat.add_assoc]; exact HCE.out _ _ (cc_at hd).2)
      rw [hcX] at x1
      rw [hcY] at x2
      have hcYh : cY < ht := by omega
      have hcYi : (cY : Int) < (ht : Int) := by omega
      have hcX7 : cX ≤ 7 := by omega
      have H1 := H.box 49 #[.int .i64 cX, .int .i64 cY]
      obtain ⟨gc, hgc⟩ : ∃ gc, gc = wr.heap.size := ⟨_, rfl⟩
      have hrl := rowF_le HG.out hd hcY
      have HD := Lib.hid hd
      have HCX := Lib.hid hcX
      have HCY := Lib.hid hcY
      obtain ⟨r, hr⟩ : ∃ r, r = tb (rowF (D.take i) cY) := ⟨_, rfl⟩
      have hrs : r.size ≤ cX := by rw [hr, tb_size]; omega
      obtain ⟨k, hk⟩ : ∃ k, k = cX - r.size := ⟨_, rfl⟩
      have e1 : IntKind.i64.wrap ((cX : Int) - (r.size : Int)) = (k : Int) := by
        have : (cX : Int) - (r.size : Int) = (k : Int) := by omega
        rw [this]; exact IntWalk.i64_in _ (by omega)
      have hk8 : k ≤ 8 := by omega
      have HRR := Lib.hid hr
      have HK := Lib.hid hk
      have hrow : (sc (rowsF D i ht))[cY]? = some (.string r) := by rw [hr]; exact sc_at (rowsF_at hcYh)
      have HROW := Lib.hid hrow
      clear hd hon hdh hcX hcY hr hk hrl hrow
      go_upto_region 7 with fail
      rw [← hgc] at H1 ⊢
      generalize wr.alloc (.cells #[.int .i64 (cX : Int), .int .i64 (cY : Int)] 49) = W at *
      clear hgc x1 x2 H
      have t0 := Later.cell (W := W) (p := ⟨gc, 0, none⟩) (v := .int .i64 cX) (H1.h0.cell 0) (Blk.lt H1.h0)
      have t1 := Later.cell (W := W) (p := ⟨gc, 1, none⟩) (v := .int .i64 cY) (H1.h0.cell 1) (Blk.lt H1.h0)
      have t2 := Later.cell (W := W) (p := ⟨g, cY, none⟩) (v := .string r) (by have := own_cell H1.h1 HROW.out; rwa [Nat.zero_add] at this) (own_lt H1.h1 g rfl)
      obtain ⟨q, hq⟩ : ∃ q, q = tb (List.replicate k 46) := ⟨_, rfl⟩
      have hqs : q.size ≤ 8 := by rw [hq, tb_size, List.length_replicate]; exact hk8
      have HQ := Lib.hid hq
      have HREP2 : Hid (∀ w1, Calls Tryz.prog 70 #[.string ⟨#[46]⟩, .int .i64 k] w1 fun e w' => e = .returned (.string q) ∧ Below w1.heap.size w1 w') := Lib.hid fun w1 => by
        rw [HQ.out]
        exact HREP.out k w1 hk8
      have y1 : ¬ 9223372036854775807 < q.size + 1 := by omega
      have y2 : ¬ 9223372036854775807 < r.size + (q.size + 1) := by omega
      have HH := Lib.hid H1
      clear hq H1
      go_wp2_with fail
      refine wp_region_lqtail 18 (by kernel_rfl) (by kernel_rfl) ?_
      simp only [List.take_succ_cons, List.take_zero, List.drop_succ_cons, List.drop_zero]
      repeat (go_big_quiet_step ((go_at_call 70; with_reducible exact Later.call (HREP2.out _))))
      refine wpQuiet_nil ?_
      intro w3 hw3
      obtain ⟨u3, hu3⟩ := hw3
      subst hu3
      have H3 := HH.out.later u3
      clear t0 t1 t2 HH HREP2 y1 y2 e1
      generalize u3.w = w3 at *
      have t2 : w3.cell? ⟨g, cY, none⟩ = some (.string r) := by have := own_cell H3.h1 HROW.out; rwa [Nat.zero_add] at this
      have f2 : w3.frozen? ⟨g, cY, none⟩ = false := by have := own_free H3.h1 cY; rwa [Nat.zero_add] at this
      have HX : Hid (tb (rowF (D.take (i + 1)) cY) = r ++ (q ++ ⟨#[35]⟩)) := Lib.hid (by
        rw [rowF_take HD.out, if_pos HCY.out, HRR.out, HQ.out]
        have h1 : d.x.toNat - (rowF (D.take i) cY).length = k := by
          rw [HK.out, HRR.out, tb_size]
          have := HCX.out
          omega
        rw [h1, ← tb_app, ← tb_app]; rfl)
      have H4 := H3.g1.setRow (j := cY) (by rw [sc_length, rowsF_len]; exact hcYh) (.string (r ++ (q ++ ⟨#[35]⟩)))
      rw [Nat.zero_add, sc_set, ← HX.out, rowsF_set hcYh HD.out HCY.out, HX.out] at H4
      clear H3
      go_wp2
      go_roundw
      case rel => exact ⟨i + 1, by omega, by go_num, H4.drop2⟩
      case measure => simp [intOf]; omega
    · obtain rfl : i = n := by omega
      have HJ := Lib.hid (join_own (b := 8) ⟨#[47]⟩ H rowsF_len.symm (fun x hx => by
        obtain ⟨j, _, rfl⟩ := List.mem_map.1 hx
        rw [tb_size]
        exact rowF_8 HG.out (by rw [HN.out]; exact Nat.le_refl _)) (by rw [rowsF_len]; omega) (by decide))
      have hb2 := H.below
      clear H
      go_wp2_with fail
      refine (HJ.out).mono ?_
      rintro e w6 ⟨rfl, b6⟩
      go_wp2
      go_ret
      exact ⟨by rw [HR.out]; rfl, b1.trans ((hb2.trans (b6.mono hb2.size)).mono b1.size)⟩
end Go.Proofs.YtjkppigjajknaaaGreatDoor

namespace Go.Proofs.YtjkppigjajknaaaGreatDoor
open Go.RowKit

/-- a digit's text -/
def dgt (n : Int) : ByteArray := ⟨#[(48 + n.toNat).toUInt8]⟩
theorem dgt_size (n : Int) : (dgt n).size = 1 := rfl

set_option maxRecDepth 100000 in
set_option maxHeartbeats 1600000 in
theorem impl_dig_c (n : Int) (w : World) (h0 : 0 ≤ n) (h5 : n ≤ 9) :
    Calls Tryz.prog 31 #[.int .i64 n] w fun e w' => e = .returned (.string (dgt n)) ∧ w = w' := by
  have hn : n = 0 ∨ n = 1 ∨ n = 2 ∨ n = 3 ∨ n = 4 ∨ n = 5 ∨ n = 6 ∨ n = 7 ∨ n = 8 ∨ n = 9 := by omega
  clear h0 h5
  rcases hn with rfl | rfl | rfl | rfl | rfl | rfl | rfl | rfl | rfl | rfl
  all_goals
    go_enter Tryz.func31, Tryz.ntmps31
    go_wp2
    go_ret
    exact ⟨rfl, rfl⟩

set_option maxRecDepth 100000 in
/-- a new slice of one byte, as a string -/
theorem run_byte_string (w : World) (g : Nat) (b : UInt8) (u : Int) (hu : u = (b.toNat : Int)) (hg : w.cell? ⟨g, 0, none⟩ = some (.int .u8 u)) :
    (convert 72 9 (.slice (some ⟨g, 0, none⟩) 1 1)).run Tryz.prog w = .ok (.string ⟨#[b]⟩) w := by
  subst hu
  refine run_convert_bytes_back w _ _ _ ⟨g, 0, none⟩ 1 [b] Tryz.underlying72 Tryz.underlying5 Tryz.underlying9 ?_
  intro j hj
  obtain rfl : j = 0 := by simpa using hj
  simpa [Addr.add] using hg

set_option maxRecDepth 100000 in
set_option maxHeartbeats 1600000 in
theorem spec_dig_c (n : Int) (w : World) (h0 : 0 ≤ n) (h5 : n ≤ 9) :
    Calls Tryz.prog 21 #[.int .i64 n] w fun e w' => e = .returned (.string (dgt n)) ∧ Below w.heap.size w w' := by
  by_cases hz : n = 0
  · subst hz
    go_enter Tryz.func21, Tryz.ntmps21
    go_wp2
    go_ret
    exact ⟨rfl, Below.refl _ _⟩
  · have h1 : 1 ≤ n := by omega
    have hneg : decide (n < 0) = false := by simp; omega
    have hne : (n == 0) = false := by simp; omega
    go_enter Tryz.func21, Tryz.ntmps21
    go_wp2
    go_loopw [0, 3, 5] (fun nv ov _ wr => ((nv = .int .i64 n ∧ ov = .string ⟨#[]⟩) ∨ (nv = .int .i64 0 ∧ ov = .string (dgt n))) ∧ Below w.heap.size w wr) (fun nv _ _ _ => (intOf nv).toNat)
    case atStart => exact ⟨.inl ⟨rfl, rfl⟩, Below.refl _ _⟩
    case round =>
      obtain ⟨h | h, hb⟩ := hrel
      · obtain ⟨rfl, rfl⟩ := h
        have hn : n = 1 ∨ n = 2 ∨ n = 3 ∨ n = 4 ∨ n = 5 ∨ n = 6 ∨ n = 7 ∨ n = 8 ∨ n = 9 := by omega
        clear h0 h5 h1 hz hneg hne
        have hcvn : ∀ u : Int, u = 48 + n → (convert 72 9 (.slice (some ⟨wr.heap.size, 0, none⟩) 1 1)).run Tryz.prog (wr.alloc (.cells #[.int .u8 u] 5)) = .ok (.string (dgt n)) (wr.alloc (.cells #[.int .u8 u] 5)) := fun u hu => by
          refine run_byte_string _ _ _ u ?_ (by rw [(Blk.new wr _ _).cell]; rfl)
          rcases hn with rfl | rfl | rfl | rfl | rfl | rfl | rfl | rfl | rfl <;> subst hu <;> rfl
        rcases hn with rfl | rfl | rfl | rfl | rfl | rfl | rfl | rfl | rfl
        all_goals
          have hcv := hcvn _ rfl
          clear hcvn
          simp at hcv
          go_wp2
          go_roundw
          case rel => exact ⟨.inr ⟨rfl, rfl⟩, hb.trans (((Below.refl _ _).alloc (Nat.le_refl _) _).mono hb.size)⟩
          case measure => simp [intOf]
      · obtain ⟨rfl, rfl⟩ := h
        go_wp2
        go_ret
        exact ⟨rfl, hb⟩
end Go.Proofs.YtjkppigjajknaaaGreatDoor

namespace Go.Proofs.YtjkppigjajknaaaGreatDoor
open Go.RowKit

/-- the digits that are still to be written -/
def dd (m : Nat) : List UInt8 := if m = 0 then [] else Lib.decDigits m
theorem dd_step {m : Nat} (h : m ≠ 0) : dd m = dd (m / 10) ++ [UInt8.ofNat (48 + m % 10)] := by
  unfold dd
  rw [if_neg h]
  by_cases hs : m < 10
  · rw [Lib.decDigits, dif_pos hs, if_pos (by omega), Nat.mod_eq_of_lt hs]
    rfl
  · rw [Lib.decDigits, dif_neg hs, if_neg (by omega)]
theorem dd_len (m : Nat) : (dd m).length ≤ m := by
  induction m using Nat.strongRecOn with
  | _ m ih =>
    by_cases h : m = 0
    · subst h; simp [dd]
    · rw [dd_step h, List.length_append, List.length_singleton]
      have := ih (m / 10) (by omega)
      omega
abbrev ustr (l : List UInt8) : ByteArray := ⟨l.toArray⟩
theorem ustr_size {l : List UInt8} : (ustr l).size = l.length := List.size_toArray
theorem ustr_app {l m : List UInt8} : ustr l ++ ustr m = ustr (l ++ m) := by
  unfold ustr
  apply ByteArray.ext
  simp
set_option maxRecDepth 100000 in
set_option maxHeartbeats 3200000 in
theorem spec_fmtInt_c (n : Int) (w : World) (h0 : -4611686018427387904 ≤ n) (h1 : n ≤ 4611686018427387904) :
    Calls Tryz.prog 21 #[.int .i64 n] w fun e w' => e = .returned (.string (ustr (Lib.itoa n))) ∧ Below w.heap.size w w' := by
  by_cases hz : n = 0
  · subst hz
    go_enter Tryz.func21, Tryz.ntmps21
    go_wp2
    go_ret
    refine ⟨?_, Below.refl _ _⟩
    rw [show Lib.itoa 0 = [48] from by
      rw [show (0 : Int) = ((0 : Nat) : Int) from rfl, Lib.itoa_nonneg, Lib.decDigits_one (by decide)]
      rfl]
    rfl
  have hne : (n == 0) = false := by simp; omega
  by_cases hs : 0 < n
  · obtain ⟨N, rfl⟩ : ∃ N : Nat, n = (N : Int) := ⟨n.toNat, by omega⟩
    have hneg : decide ((N : Int) < 0) = false := by simp
    obtain ⟨R, hR⟩ : ∃ R, R = Lib.itoa (N : Int) := ⟨_, rfl⟩
    rw [← hR]
    have HR : Hid (R = dd N) := Lib.hid (by rw [hR, Lib.itoa_nonneg]; unfold dd; rw [if_neg (by omega)])
    clear hR
    go_enter Tryz.func21, Tryz.ntmps21
    go_wp2
    go_loopw [0, 3, 5] (fun nv ov _ wr => ∃ (m : Nat) (T : List UInt8), nv = .int .i64 (m : Int) ∧ ov = .string (ustr T) ∧ m ≤ N ∧ T.length ≤ N ∧ Hid (R = dd m ++ T) ∧ Below w.heap.size w wr) (fun nv _ _ _ => (intOf nv).toNat)
    case atStart => exact ⟨N, [], rfl, rfl, Nat.le_refl _, Nat.zero_le _, Lib.hid (by rw [HR.out, List.append_nil]), Below.refl _ _⟩
    case round =>
      clear hneg hne hs hz
      obtain ⟨m, T, rfl, rfl, hm, hT, HT, hb⟩ := hrel
      by_cases hm0 : m = 0
      · subst hm0
        have HT2 : Hid (R = T) := Lib.hid (by rw [HT.out]; rfl)
        go_wp2
        go_ret
        exact ⟨by rw [HT2.out]; rfl, hb⟩
      · obtain ⟨e, he⟩ : ∃ e, e = m % 10 := ⟨_, rfl⟩
        obtain ⟨q, hq⟩ : ∃ q, q = m / 10 := ⟨_, rfl⟩
        have he10 : e < 10 := by omega
        have hqm : q < m := by omega
        have m1 : (m : Int) % 10 = (e : Int) := by omega
        have m2 : (m : Int) / 10 = (q : Int) := by omega
        have m3 : ((m : Int) == 0) = false := by simp; omega
        obtain ⟨B, hB⟩ : ∃ B, B = UInt8.ofNat (48 + e) := ⟨_, rfl⟩
        have HT2 : Hid (R = dd q ++ (B :: T)) := Lib.hid (by rw [HT.out, dd_step hm0, ← he, ← hq, ← hB, List.append_assoc]; rfl)
        have hT2 : (B :: T).length ≤ N := by
          have h1 : (dd q ++ (B :: T)).length ≤ N := by rw [← HT2.out, HR.out]; exact dd_len N
          rw [List.length_append] at h1
          omega
        have hcv : (convert 72 9 (.slice (some ⟨wr.heap.size, 0, none⟩) 1 1)).run Tryz.prog (wr.alloc (.cells #[.int .u8 (48 + (e : Int))] 5)) = .ok (.string (ustr [B])) (wr.alloc (.cells #[.int .u8 (48 + (e : Int))] 5)) := by
          refine run_byte_string _ _ _ (48 + (e : Int)) ?_ (by rw [(Blk.new wr _ _).cell]; rfl)
          rw [hB, UInt8.toNat_ofNat']
          omega
        have y1 : ¬ 9223372036854775807 < (ustr [B]).size + (ustr T).size := by
          rw [ustr_size, ustr_size]
          simp only [List.length_cons, List.length_nil]
          omega
        have hm0' : 1 ≤ m := by omega
        have hb2 := hb.alloc (by exact hb.size) (.cells #[.int .u8 (48 + (e : Int))] 5)
        clear he hq hm0 hB
        go_wp2
        go_roundw
        case rel => exact ⟨q, B :: T, by go_num, by rw [ustr_app]; rfl, by omega, hT2, HT2, hb2⟩
        case measure => simp [intOf]; omega
  · obtain ⟨N, rfl⟩ : ∃ N : Nat, n = -(N : Int) := ⟨(-n).toNat, by omega⟩
    have hN : 1 ≤ N := by omega
    have hneg : decide (-(N : Int) < 0) = true := decide_eq_true (by omega)
    obtain ⟨R, hR⟩ : ∃ R, R = Lib.itoa (-(N : Int)) := ⟨_, rfl⟩
    rw [← hR]
    have HR : Hid (R = 45 :: dd N) := Lib.hid (by rw [hR, Lib.itoa_neg N hN]; unfold dd; rw [if_neg (by omega)])
    clear hR
    go_enter Tryz.func21, Tryz.ntmps21
    go_wp2
    go_loopw [0, 3, 5] (fun nv ov _ wr => ∃ (m : Nat) (T : List UInt8), nv = .int .i64 (-(m : Int)) ∧ ov = .string (ustr T) ∧ m ≤ N ∧ T.length ≤ N ∧ Hid (R = 45 :: (dd m ++ T)) ∧ Below w.heap.size w wr) (fun nv _ _ _ => (-(intOf nv)).toNat)
    case atStart => exact ⟨N, [], rfl, rfl, Nat.le_refl _, Nat.zero_le _, Lib.hid (by rw [HR.out, List.append_nil]), Below.refl _ _⟩
    case round =>
      clear hneg hne hs hz
      obtain ⟨m, T, rfl, rfl, hm, hT, HT, hb⟩ := hrel
      by_cases hm0 : m = 0
      · subst hm0
        have HT2 : Hid (R = 45 :: T) := Lib.hid (by rw [HT.out]; rfl)
        have y1 : ¬ 9223372036854775807 < 1 + (ustr T).size := by
          rw [ustr_size]
          omega
        go_wp2
        go_ret
        refine ⟨?_, hb⟩
        show Ending.returned (.string (ustr [45] ++ ustr T)) = _
        rw [ustr_app, HT2.out]
        rfl
      · obtain ⟨e, he⟩ : ∃ e, e = m % 10 := ⟨_, rfl⟩
        obtain ⟨q, hq⟩ : ∃ q, q = m / 10 := ⟨_, rfl⟩
        have he10 : e < 10 := by omega
        have hqm : q < m := by omega
        have m1 : (m : Int) % 10 = (e : Int) := by omega
        have m2 : (m : Int) / 10 = (q : Int) := by omega
        have m3 : (-(m : Int) == 0) = false := by simp; omega
        obtain ⟨B, hB⟩ : ∃ B, B = UInt8.ofNat (48 + e) := ⟨_, rfl⟩
        have HT2 : Hid (R = 45 :: (dd q ++ (B :: T))) := Lib.hid (by rw [HT.out, dd_step hm0, ← he, ← hq, ← hB, List.append_assoc]; rfl)
        have hT2 : (B :: T).length ≤ N := by
          have h1 : (45 :: (dd q ++ (B :: T))).length ≤ N + 1 := by rw [← HT2.out, HR.out]; simp [dd_len N]
          rw [List.length_cons, List.length_append] at h1
          omega
        have hcv : (convert 72 9 (.slice (some ⟨wr.heap.size, 0, none⟩) 1 1)).run Tryz.prog (wr.alloc (.cells #[.int .u8 (48 + (e : Int))] 5)) = .ok (.string (ustr [B])) (wr.alloc (.cells #[.int .u8 (48 + (e : Int))] 5)) := by
          refine run_byte_string _ _ _ (48 + (e : Int)) ?_ (by rw [(Blk.new wr _ _).cell]; rfl)
          rw [hB, UInt8.toNat_ofNat']
          omega
        have y1 : ¬ 9223372036854775807 < (ustr [B]).size + (ustr T).size := by
          rw [ustr_size, ustr_size]
          simp only [List.length_cons, List.length_nil]
          omega
        have hm0' : 1 ≤ m := by omega
        have hb2 := hb.alloc (by exact hb.size) (.cells #[.int .u8 (48 + (e : Int))] 5)
        clear he hq hm0 hB
        by_cases e0 : e = 0
        · subst e0
          have hcv0 : (convert 72 9 (.slice (some ⟨wr.heap.size, 0, none⟩) 1 1)).run Tryz.prog (wr.alloc (.cells #[.int .u8 48] 5)) = .ok (.string (ustr [B])) (wr.alloc (.cells #[.int .u8 48] 5)) := hcv
          have hb3 : Below w.heap.size w (wr.alloc (.cells #[.int .u8 48] 5)) := hb2
          have m1' : (m : Int) % 10 = 0 := m1
          clear hcv hb2 m1
          go_wp2
          go_roundw
          case rel => exact ⟨q, B :: T, by go_num, by rw [ustr_app]; rfl, by omega, hT2, HT2, hb3⟩
          case measure => simp [intOf]; omega
        · have e1 : decide (-(e : Int) < 0) = true := decide_eq_true (by omega)
          go_wp2
          go_roundw
          case rel => exact ⟨q, B :: T, by go_num, by rw [ustr_app]; rfl, by omega, hT2, HT2, hb2⟩
          case measure => simp [intOf]; omega
end Go.Proofs.YtjkppigjajknaaaGreatDoor

namespace Go.Proofs.YtjkppigjajknaaaGreatDoor
open Go.RowKit

abbrev Tab10 (w : World) : Prop := Lib.TabIs Tryz.prog w "internal/strconv.uint64pow10" .u64 Lib.pow10Tab
set_option maxRecDepth 100000 in
theorem impl_fmtInt_c (n : Int) (w : World) (h0 : -4611686018427387904 ≤ n) (h1 : n ≤ 4611686018427387904) (ht : Tab10 w) :
    Calls Tryz.prog 31 #[.int .i64 n] w fun e w' => e = .returned (.string (ustr (Lib.itoa n))) ∧ Below w.heap.size w w' := by
  have HI := Lib.hid (Tryz.strconv_Itoa n (by omega) (by omega) w ht)
  clear ht
  go_enter Tryz.func31, Tryz.ntmps31
  go_wp2_with fail
  refine (HI.out).mono ?_
  rintro e w' ⟨rfl, k, os, rfl⟩
  have hb := Go.Lib.below_grow w.heap.size w (Nat.le_refl _) k os
  go_wp2
  go_ret
  exact ⟨rfl, hb⟩
/-- the text of an int -/
abbrev itoaB (n : Int) : ByteArray := ustr (Lib.itoa n)
theorem itoa_S (w : World) (n : Int) (h0 : -4611686018427387904 ≤ n) (h1 : n ≤ 4611686018427387904) : SNumAt w n (itoaB n) := fun w' _ => spec_fmtInt_c n w' h0 h1
set_option maxRecDepth 100000 in
theorem itoa_I (w : World) (ht : Tab10 w) (n : Int) (h0 : -4611686018427387904 ≤ n) (h1 : n ≤ 4611686018427387904) : INumAt w n (itoaB n) := fun w' hb => impl_fmtInt_c n w' h0 h1 (by
  have hs : (Tryz.prog.globalNamed "internal/strconv.uint64pow10").isSome = true := by kernel_rfl
  obtain ⟨g, hg⟩ := Option.isSome_iff_exists.1 hs
  exact Go.Joins.tab_stays hg ht hb (Nat.le_refl _))
end Go.Proofs.YtjkppigjajknaaaGreatDoor
