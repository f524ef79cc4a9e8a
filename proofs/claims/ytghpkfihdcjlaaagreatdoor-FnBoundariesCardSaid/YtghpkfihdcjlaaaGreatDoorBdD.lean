
/-
  Rows of bytes, and the text of one. A region that draws its order, whose first operations are quiet in a class of worlds and whose last ones come one after the other: one walk. No program in sight. A shape's text: plain, and the reference's walk. The reference's 'ParseShape' at texts of right shapes, and the names of the pieces. The reference's 'PieceNamed' at the names of the pieces. The drawing of the law FnOutlines.
-/
import Derived.Test.YtghpkfihdcjlaaaGreatDoorProg
import Derived.Test.YtghpkfihdcjlaaaGreatDoorSepX
import Derived.Laws.IdiomStrings
import Derived.Laws.BytesArg
import Derived.StillTail
import Derived.Test.YtghpkfihdcjlaaaGreatDoorCellX
import Derived.Test.YtghpkfihdcjlaaaGreatDoorOriP
import Derived.Test.YtghpkfihdcjlaaaGreatDoorShpX
import Derived.Lib.Join
import Derived.Lib.Strings
import Derived.Deep.DeepCutAuto
import Derived.Test.YtghpkfihdcjlaaaGreatDoorDrawReg
import Derived.Test.YtghpkfihdcjlaaaGreatDoorDrawGrow
namespace Go.Proofs.YtghpkfihdcjlaaaGreatDoor
open Go.RowKit

set_option maxRecDepth 100000 in
theorem infoU8 : (Tryz.prog.info? 5).map (fun i => (i.zero, i.size, i.bytes)) = some (some (.int .u8 0), 1, 1) := by kernel_rfl
def uc (l : List UInt8) : List Value := l.map fun b => .int .u8 (b.toNat : Int)
theorem uc_append {l m : List UInt8} : uc (l ++ m) = uc l ++ uc m := by simp [uc]
theorem uc_length {l : List UInt8} : (uc l).length = l.length := by simp [uc]
def tb (l : List UInt8) : ByteArray := ⟨l.toArray⟩
theorem tb_size {l : List UInt8} : (tb l).size = l.length := List.size_toArray
theorem tb_nil : (⟨#[]⟩ : ByteArray) = tb [] := rfl
theorem tb_app {a b : List UInt8} : tb a ++ tb b = tb (a ++ b) := by apply ba_ext; rw [ba_app]; simp [tb]
theorem ocu {a : Int} : ∀ u ∈ [Value.int .u8 a], u.oneCell' = true := by intro u hu; simp at hu; subst hu; rfl
set_option maxRecDepth 100000 in
/-- the text of a row of bytes -/
theorem row_text {w : World} {v : Value} {n : Nat} {l : List UInt8} (hn : n = l.length) (h : w.ownsRow 0 5 1 v n (uc l)) : (convert 22 9 v).run Tryz.prog w = .ok (.string (tb l)) w := by
  subst hn
  by_cases h0 : l.length = 0
  · obtain rfl : l = [] := List.eq_nil_of_length_eq_zero h0
    obtain ⟨A, c, rfl, _⟩ := Res.row_at h
    show (convert 22 9 (.slice A 0 c)).run Tryz.prog w = _
    rw [run_convert_bytes_string w _ _ _ _ 0 c Tryz.underlying22 Tryz.underlying5 Tryz.underlying9]
    cases A <;> simp [Conv.bytesToString, loadCells]
    all_goals rfl
  · obtain ⟨b, off, c, rfl, _, _, _⟩ := own_shape h (by omega)
    exact run_convert_bytes_back (P := Tryz.prog) w _ _ _ ⟨b, off, none⟩ c l Tryz.underlying22 Tryz.underlying5 Tryz.underlying9 (fun j hj => by
      have := own_cell h (j := j) (u := .int .u8 (l[j].toNat : Int)) (by simp [uc, List.getElem?_eq_getElem hj])
      unfold Addr.add
      split
      · rename_i e
        subst e
        simpa using this
      · exact this)
end Go.Proofs.YtghpkfihdcjlaaaGreatDoor

namespace Go.Proofs.YtghpkfihdcjlaaaGreatDoor
open Go.RowKit

section
variable {P : Program} {ops : Array Oper} {md : Region.Mode} {C : World → Prop}
/-- the first n operations in whatever order, then L -/
def headQ (P : Program) (md : Region.Mode) (ops : Array Oper) (C : World → Prop) (n : Nat) (L : Array Bool → Act → Prop) : Nat → Array Bool → Act → Prop
  | 0, d, a => L d a
  | f + 1, d, a => Region.ready md ops d ≠ [] ∧ ∀ i ∈ Region.ready md ops d, i < n ∧ qOp P ops C i (headQ P md ops C n L f (d.setIfInBounds i true)) a
theorem any_of_headQ {n g : Nat} {L : Array Bool → Act → Prop} {Q' : Exit → Act → World → Prop} (hL : ∀ d a w, C w → L d a → wpAny P md ops Q' g d a w) : ∀ (f : Nat) (d : Array Bool) (a : Act) (w : World), C w → headQ P md ops C n L f d a → wpAny P md ops Q' (f + g) d a w
  | 0, d, a, w, hw, h => by rw [Nat.zero_add]; exact hL _ _ _ hw h
  | f + 1, d, a, w, hw, h => by
    rw [Nat.add_right_comm]
    exact ⟨fun h0 => absurd h0 h.1, fun i hi => wpOp_of_qOp hw (fun a' w' hw' h' => any_of_headQ hL f _ a' w' hw' h') (h.2 i hi).2⟩
theorem headQ_first {n i : Nat} {oi : Oper} {v : Value} {L : Array Bool → Act → Prop} (hi : ops[i]? = some oi) (hsel : ∀ (j : Nat) (o : Oper) cs b, ops[j]? = some o → o.op ≠ .select cs b)
    (hs : Region.sinkB md ops n = true) (hc : Region.chainB md ops n = true) (hn : n < ops.size) (hin : i < n) (hdone : ∀ d a, L d a → ∀ j ∈ Region.ready md ops d, n ≤ j) :
    ∀ (f : Nat) (d : Array Bool) (a : Act), HeadInv md ops n d →
      (∀ j oj, ops[j]? = some oj → j ≠ i → d.getD j true = false → (∀ e ∈ oj.after, Region.binds md e = true → e.on ≠ i) → oi.apart ops oj = true) →
      i ∈ Region.ready md ops d → YieldsIn P ops C oi v a → headQ P md ops C n L f (d.setIfInBounds i true) (a.put oi.dst v) → headQ P md ops C n L (f + 1) d a := by
  intro f
  induction f with
  | zero =>
    intro d a inv _ hr hy H
    refine ⟨fun h => (by rw [h] at hr; cases hr), fun j hj => ?_⟩
    have hjn : j < n := Nat.lt_of_not_le fun h => tail_waits hs hc hn inv _ i rfl hin (mem_ready.1 hr).1 j h hj
    refine ⟨hjn, ?_⟩
    by_cases hji : j = i
    · subst hji; exact hy.qOp hi H
    · have := hdone _ _ H j (ready_mono hj hji)
      omega
  | succ f ih =>
    intro d a inv hfree hr hy H
    refine ⟨fun h => (by rw [h] at hr; cases hr), fun j hj => ?_⟩
    have hjn : j < n := Nat.lt_of_not_le fun h => tail_waits hs hc hn inv _ i rfl hin (mem_ready.1 hr).1 j h hj
    refine ⟨hjn, ?_⟩
    by_cases hji : j = i
    · subst hji; exact hy.qOp hi H
    · obtain ⟨hjun, oj, hoj, hall⟩ := mem_ready.1 hj
      have hnot : ∀ e ∈ oj.after, Region.binds md e = true → e.on ≠ i := fun e he hb heq => by
        have h1 := hall e he hb
        rw [heq, getD_both (mem_ready.1 hr).1] at h1
        cases h1
      have h2 := qOp_put hoj (hfree j oj hoj hji hjun hnot) (fun cs b => hsel i oi cs b hi) (fun cs b => hsel j oj cs b hoj) hy (H.2 j (ready_mono hj hji)).2
      refine qOp_mono (fun a' h3 => ih (d.setIfInBounds j true) a' (inv.set hj hjn) (fun k ok hk hki hun hno => ?_) (ready_mono hr (Ne.symm hji)) h3.1 ?_) h2
      · refine hfree k ok hk hki ?_ hno
        by_cases hjk : j = k
        · subst hjk; exact hjun
        · rw [getD_set_ne true hjk] at hun; exact hun
      · rw [Array.setIfInBounds_comm _ _ hji]
        exact h3.2
theorem headQ_lex {n g : Nat} {Lq : Act → Prop} (hsel : Region.noSelect ops = true) (hs : Region.sinkB md ops n = true) (hc : Region.chainB md ops n = true) (hn : n < ops.size) :
    ∀ (l : List Oper) (k : Nat) (d : Array Bool) (a : Act), (∀ j, j < l.length → l[j]? = ops[k + j]?) → k + l.length = n → HeadInv md ops n d → Region.lexHead md ops g l.length k d = true → wpQuiet P ops C Lq l a →
    headQ P md ops C n (fun d' a' => Region.seqB md ops g n d' = true ∧ Lq a') l.length d a
  | [], k, d, a, _, hk, _, hB, h => by
    obtain rfl : k = n := by simpa using hk
    exact ⟨by simpa [Region.lexHead] using hB, h⟩
  | o :: l, k, d, a, hl, hk, inv, hB, h => by
    have h0 : ops[k]? = some o := by simpa using (hl 0 (by simp)).symm
    simp only [List.length_cons, Region.lexHead, Bool.and_eq_true] at hB
    have hkn : k < n := by simp only [List.length_cons] at hk; omega
    have hr' : k ∈ Region.ready md ops d := by simpa using hB.1.1
    have hst : qOp P ops C k (wpQuiet P ops C Lq l) a := by unfold qOp; simp only [h0]; exact h
    obtain ⟨v, hy, hK⟩ := yieldsIn_of_qOp h0 hst
    exact headQ_first h0 (Region.noSelect_spec hsel) hs hc hn hkn (fun d' a' hL => seqB_ready hL.1) l.length d a inv (Region.free_spec h0 hB.1.2) hr' hy
      (headQ_lex hsel hs hc hn l (k + 1) _ _ (fun j hj => by have := hl (j + 1) (by simp; omega); simpa [Nat.add_assoc, Nat.add_comm 1 j] using this) (by simp only [List.length_cons] at hk; omega) (inv.set hr' hkn) hB.2 hK)
/-- quiet in a class of worlds up to operation n, then one after the other -/
theorem wp_region_qtail {id : Nat} {Q : Exit → Act → World → Prop} {a : Act} {w : World} {l : List Oper} (n : Nat) (hm : P.follows .mixedOrders = true) (hB : Region.lexTailB .any l.toArray n = true) (hC : C w.drew)
    (h : wpQuiet P l.toArray C (fun a' => ∀ w', C w' → wpList P l.toArray Q (l.drop n) a' w') (l.take n) a) : (Code.region id l.toArray true).wp P Q a w := by
  simp only [Region.lexTailB, Bool.and_eq_true, decide_eq_true_eq] at hB
  obtain ⟨⟨⟨⟨hsel, hn⟩, hs⟩, hc⟩, hlex⟩ := hB
  have htl : (l.take n).length = n := by simp at hn ⊢; omega
  have hdl : (l.drop n).length = l.toArray.size - n := by simp
  have inv0 : HeadInv .any l.toArray n (Array.replicate l.toArray.size false) :=
    ⟨by simp, fun j oj _ hl => (by rw [getD_replicate_false] at hl; cases hl), fun t _ ht => getD_in (by simpa using ht) (getD_replicate_false _ _)⟩
  have H := headQ_lex (md := .any) (C := C) (g := l.toArray.size - n) hsel hs hc hn (l.take n) 0 _ a (fun j hj => by
    have hj' : j < n := by rw [htl] at hj; exact hj
    simp [hj']) (by simpa using htl) inv0 (by rw [htl]; exact hlex) h
  refine wp_region_any hm ?_
  have := any_of_headQ (Q' := Q) (g := l.toArray.size - n) (fun d a' w' hw' hL => by
    have := wpAny_of_seq (md := .any) (Q' := Q) (l.drop n) n d a' w' (fun j => by simp [List.getElem?_drop]) (by rw [hdl]; exact hL.1) (hL.2 w' hw')
    rwa [hdl] at this) _ _ _ w.drew hC H
  rw [htl, show n + (l.toArray.size - n) = l.toArray.size by omega] at this
  exact this
theorem wp_region_lqtail {W : World} {id : Nat} {Q : Exit → Act → World → Prop} {a : Act} {l : List Oper} (n : Nat) (hm : P.follows .mixedOrders = true) (hB : Region.lexTailB .any l.toArray n = true)
    (h : wpQuiet P l.toArray (fun w' => ∃ u : Later W, w' = u.w) (fun a' => ∀ w', (∃ u : Later W, w' = u.w) → wpList P l.toArray Q (l.drop n) a' w') (l.take n) a) : (Code.region id l.toArray true).wp P Q a W :=
  wp_region_qtail (C := fun w' => ∃ u : Later W, w' = u.w) n hm hB ⟨⟨_, below_drew (Below.refl _ _)⟩, rfl⟩ h
end
end Go.Proofs.YtghpkfihdcjlaaaGreatDoor

namespace Go.Proofs.YtghpkfihdcjlaaaGreatDoor
open Go.RowKit

theorem shp_srt {s : List Cell} (h : isShape s = true) : Srt s := List.pairwise_iff_getElem.2 fun _ j hi hj hij => shp_pair h (List.getElem?_eq_getElem hi) j hij (List.getElem?_eq_getElem hj)
theorem srt_corner {s : List Cell} (h : Srt s) : Srt (corner s) := List.pairwise_map.2 (List.Pairwise.imp (fun {a b} hab => by rw [bef_iff] at hab ⊢; simp only; omega) h)
theorem sort_shp {s : List Cell} (h : isShape s = true) : sortC s = s := sortC_is (shp_srt h) fun _ => Iff.rfl
/-- a list that is drawn: in order, on the board -/
structure Grd (D : List Cell) : Prop where
  srt : Srt D
  on : ∀ c ∈ D, On c
  len : 1 ≤ D.length ∧ D.length ≤ 8
theorem grd_corner {s : List Cell} (h : isShape s = true) : Grd (corner s) := ⟨srt_corner (shp_srt h), fun _ hc => corner_on h hc, by unfold corner; rw [shift_length]; exact shp_len h⟩
/-- the text of row k -/
def rowF (D : List Cell) (k : Nat) : List UInt8 := D.foldl (fun t c => if c.y = (k : Int) then t ++ (List.replicate (c.x.toNat - t.length) 46 ++ [35]) else t) []
theorem rowF_take {D : List Cell} {i k : Nat} {c : Cell} (h : D[i]? = some c) : rowF (D.take (i + 1)) k = if c.y = (k : Int) then rowF (D.take i) k ++ (List.replicate (c.x.toNat - (rowF (D.take i) k).length) 46 ++ [35]) else rowF (D.take i) k := by
  have : D.take (i + 1) = D.take i ++ [c] := by rw [List.take_add_one, h]; rfl
  unfold rowF
  rw [this, List.foldl_append]
  rfl
theorem rowF_len {D : List Cell} (hD : Grd D) : ∀ (i k : Nat), i ≤ D.length → (rowF (D.take i) k).length = 0 ∨ ∃ j c, j < i ∧ D[j]? = some c ∧ c.y = (k : Int) ∧ ((rowF (D.take i) k).length : Int) = c.x + 1
  | 0, _, _ => .inl rfl
  | i + 1, k, hi => by
    obtain ⟨c, hc⟩ : ∃ c, D[i]? = some c := ⟨D[i], List.getElem?_eq_getElem (by omega)⟩
    have ih := rowF_len hD i k (by omega)
    have hon := hD.on c (List.mem_of_getElem? hc)
    unfold On at hon
    rw [rowF_take hc]
    split
    · rename_i hy
      refine .inr ⟨i, c, by omega, hc, hy, ?_⟩
      have hle : ((rowF (D.take i) k).length : Int) ≤ c.x := by
        rcases ih with h | ⟨j, d, hj, hd, hdy, hl⟩
        · omega
        · obtain ⟨hj', rfl⟩ := List.getElem?_eq_some_iff.1 hd
          obtain ⟨hi', rfl⟩ := List.getElem?_eq_some_iff.1 hc
          have := bef_iff.1 (List.pairwise_iff_getElem.1 hD.srt j i hj' hi' hj)
          omega
      simp only [List.length_append, List.length_replicate, List.length_cons, List.length_nil]
      omega
    · rcases ih with h | ⟨j, d, hj, hd, hdy, hl⟩
      · exact .inl h
      · exact .inr ⟨j, d, by omega, hd, hdy, hl⟩
/-- the next cell lies behind its row's text -/
theorem rowF_le {D : List Cell} (hD : Grd D) {i k : Nat} {c : Cell} (hc : D[i]? = some c) (hk : c.y = (k : Int)) : (rowF (D.take i) k).length ≤ c.x.toNat := by
  have hi := (List.getElem?_eq_some_iff.1 hc).1
  rcases rowF_len hD i k (by omega) with h | ⟨j, d, hj, hd, hdy, hl⟩
  · omega
  · obtain ⟨hj', rfl⟩ := List.getElem?_eq_some_iff.1 hd
    obtain ⟨hi', rfl⟩ := List.getElem?_eq_some_iff.1 hc
    have := bef_iff.1 (List.pairwise_iff_getElem.1 hD.srt j i hj' hi' hj)
    omega
theorem rowF_8 {D : List Cell} (hD : Grd D) {i k : Nat} (hi : i ≤ D.length) : (rowF (D.take i) k).length ≤ 8 := by
  rcases rowF_len hD i k hi with h | ⟨j, d, hj, hd, hdy, hl⟩
  · omega
  · have := hD.on d (List.mem_of_getElem? hd)
    unfold On at this
    omega
theorem rowF_none {k : Nat} : ∀ {B : List Cell} {t : List UInt8}, (∀ c ∈ B, c.y ≠ (k : Int)) → B.foldl (fun t c => if c.y = (k : Int) then t ++ (List.replicate (c.x.toNat - t.length) 46 ++ [35]) else t) t = t
  | [], _, _ => rfl
  | c :: B, t, h => by
    rw [List.foldl_cons, if_neg (h c (by simp))]
    exact rowF_none fun d hd => h d (by simp [hd])
/-- the rows up to y, with strokes between them -/
def txtF (f : Nat → List UInt8) : Nat → List UInt8
  | 0 => f 0
  | y + 1 => txtF f y ++ 47 :: f (y + 1)
theorem txtF_len {f : Nat → List UInt8} (h : ∀ k, (f k).length ≤ 8) : ∀ y, (txtF f y).length ≤ 9 * y + 8
  | 0 => h 0
  | y + 1 => by
    have := txtF_len h y
    have := h (y + 1)
    rw [txtF, List.length_append, List.length_cons]
    omega
theorem txtF_next {f : Nat → List UInt8} {y : Nat} (h : f (y + 1) = []) : txtF f (y + 1) = txtF f y ++ [47] := by rw [txtF, h]
theorem txtF_same {f g : Nat → List UInt8} : ∀ {y : Nat}, (∀ k, k ≤ y → g k = f k) → txtF g y = txtF f y
  | 0, h => h 0 (Nat.le_refl _)
  | y + 1, h => by rw [txtF, txtF, h _ (Nat.le_refl _), txtF_same fun k hk => h k (by omega)]
theorem txtF_add {f g : Nat → List UInt8} {y : Nat} {e : List UInt8} (h : ∀ k, k < y → g k = f k) (hy : g y = f y ++ e) : txtF g y = txtF f y ++ e := by
  cases y with
  | zero => exact hy
  | succ y => rw [txtF, txtF, hy, txtF_same (f := f) (g := g) fun k hk => h k (by omega)]; simp
/-- a shape's text -/
def fmtSh (s : List Cell) : ByteArray := tb (txtF (rowF (corner s)) (htOf s - 1).toNat)
set_option maxRecDepth 100000 in
set_option maxHeartbeats 3200000 in
theorem spec_fmtSh_c {v : Value} {s : List Cell} (w : World) (h : CellsRd w 0 w.heap.size v s) (hsh : isShape s = true) :
    Calls Tryz.prog 66 #[v] w fun e w' => e = .returned (.string (fmtSh s)) ∧ Below w.heap.size w w' := by
  have HC := Lib.hid (cornerShape_c w h hsh)
  obtain ⟨A, c, rfl, _, _⟩ := id h
  have HG := Lib.hid (grd_corner hsh)
  have HSH := Lib.hid hsh
  obtain ⟨D, hD⟩ : ∃ D, D = corner s := ⟨_, rfl⟩
  rw [← hD] at HC HG
  have HR : Hid (fmtSh s = tb (txtF (rowF D) (htOf s - 1).toNat)) := Lib.hid (by rw [hD]; rfl)
  have HDD := Lib.hid hD
  obtain ⟨R, hR⟩ : ∃ R, R = fmtSh s := ⟨_, rfl⟩
  rw [← hR] at HR ⊢
  clear h hsh hD hR
  go_enter Tryz.func66, Tryz.ntmps66
  go_wp2_with fail
  refine (HC.out).mono ?_
  rintro e w1 ⟨v1, rfl, o1, b1⟩
  obtain ⟨A1, c1, rfl, _, hr⟩ := o1.rd
  obtain ⟨n, hn⟩ : ∃ n, n = D.length := ⟨_, rfl⟩
  rw [← hn] at hr ⊢
  have HN := Lib.hid hn
  obtain ⟨b, off, hA1, _, hb, hc⟩ := hr.2 (by have := HG.out.len; omega)
  subst hA1
  have HCE := Lib.hid hc
  have hn8 : n ≤ 8 := by have := HG.out.len; omega
  have hn1 : 1 ≤ n := by have := HG.out.len; omega
  clear hr hc hn o1 HC
  go_wp2
  go_loopw [4, 5, 6, 7] (fun tv xv yv iv wx => ∃ (i x y : Nat) (T : List UInt8), i ≤ n ∧ iv = .int .i64 i ∧ xv = .int .i64 x ∧ yv = .int .i64 y ∧ tv = .string (tb T) ∧ x ≤ 8 ∧ y ≤ 7 ∧ Hid (T = txtF (rowF (D.take i)) y) ∧ Hid (x = (rowF (D.take i) y).length) ∧ Hid (∀ c ∈ D.take i, c.y ≤ (y : Int)) ∧ Hid (∀ c, D[i]? = some c → (y : Int) ≤ c.y) ∧ Hid (i = n → (y : Int) = htOf s - 1) ∧ w1 = wx) (fun _ _ _ iv _ => n - (intOf iv).toNat)
  case atStart => exact ⟨0, 0, 0, [], Nat.zero_le _, rfl, rfl, rfl, rfl, by omega, by omega, Lib.hid rfl, Lib.hid rfl, Lib.hid (fun c hc => by simp at hc), Lib.hid (fun c hc => by have := HG.out.on c (List.mem_of_getElem? hc); unfold On at this; omega), Lib.hid (fun h => by omega), rfl⟩
  case round =>
    obtain ⟨i, x, y, T, hi, rfl, rfl, rfl, rfl, hx8, hy7, HT, HX, HY, HYN, HE, rfl⟩ := hrel
    by_cases hlt : i < n
    · have hlti : (i : Int) < (n : Int) := by omega
      obtain ⟨d, hd⟩ : ∃ d, D[i]? = some d := ⟨D[i]'(by rw [← HN.out]; exact hlt), List.getElem?_eq_getElem _⟩
      have hon := HG.out.on d (List.mem_of_getElem? hd)
      unfold On at hon
      have hdy := HYN.out d hd
      obtain ⟨cX, hcX⟩ : ∃ m : Nat, d.x = (m : Int) := ⟨d.x.toNat, by omega⟩
      obtain ⟨cY, hcY⟩ : ∃ m : Nat, d.y = (m : Int) := ⟨d.y.toNat, by omega⟩
      have x1 := HCE.out _ _ (cc_at hd).1
      have x2 : w1.cell? ⟨b, off + i * 2 + 1, none⟩ = some (.int .i64 d.y) := by rw [Nat.add_assoc]; exact HCE.out _ _ (cc_at hd).2
      rw [hcX] at x1
      rw [hcY] at x2
      have hyc : y ≤ cY := by omega
      have hcX7 : cX ≤ 7 := by omega
      have hcY7 : cY ≤ 7 := by omega
      have HD := Lib.hid hd
      have HCX := Lib.hid hcX
      have HCY := Lib.hid hcY
      clear hd hon hdy hcX hcY HYN HE
      go_wp2
      go_loopw [4, 5, 6] (fun tv xv yv wx => ∃ (x y : Nat) (T : List UInt8), xv = .int .i64 x ∧ yv = .int .i64 y ∧ tv = .string (tb T) ∧ x ≤ 8 ∧ y ≤ cY ∧ Hid (T = txtF (rowF (D.take i)) y) ∧ Hid (x = (rowF (D.take i) y).length) ∧ Hid (∀ c ∈ D.take i, c.y ≤ (y : Int)) ∧ w1 = wx) (fun _ _ yv _ => cY - (intOf yv).toNat)
      case atStart => exact ⟨x, y, T, rfl, rfl, rfl, hx8, hyc, HT, HX, HY, rfl⟩
      case round =>
        clear HT HX HY hx8 hyc hy7
        obtain ⟨x, y, T, rfl, rfl, rfl, hx8, hyc, HT, HX, HY, rfl⟩ := hrel
        have hTl : (tb T).size ≤ 80 := by
          rw [tb_size, HT.out]
          have := txtF_len (f := rowF (D.take i)) (fun k => rowF_8 HG.out (by rw [← HN.out]; omega)) y
          omega
        have hs1 : ¬ 9223372036854775807 < (tb T).size + 1 := by omega
        by_cases hy : y < cY
        · have hyi : (y : Int) < (cY : Int) := by omega
          have HT2 : Hid (T ++ [47] = txtF (rowF (D.take i)) (y + 1)) := Lib.hid (by
            rw [HT.out, txtF_next (rowF_none fun c hc => by have := HY.out c hc; omega)])
          have HX2 : Hid (0 = (rowF (D.take i) (y + 1)).length) := Lib.hid (by
            have : rowF (D.take i) (y + 1) = [] := rowF_none fun c hc => by have := HY.out c hc; omega
            rw [this]; rfl)
          have HY2 : Hid (∀ c ∈ D.take i, c.y ≤ ((y + 1 : Nat) : Int)) := Lib.hid fun c hc => by have := HY.out c hc; omega
          go_wp2
          go_roundw
          case rel => exact ⟨0, y + 1, T ++ [47], rfl, by go_num, congrArg Value.string (tb_app (a := T) (b := [47])), by omega, by omega, HT2, HX2, HY2, trivial⟩
          case measure => simp [intOf]; omega
        · obtain rfl : y = cY := by omega
          have HXL : Hid (x ≤ cX) := Lib.hid (by
            have := rowF_le HG.out HD.out HCY.out
            rw [← HX.out] at this
            have := HCX.out
            omega)
          have hxl := HXL.out
          clear hs1
          go_wp2
          go_loopw [4, 5] (fun tv xv wx => ∃ (e : Nat), xv = .int .i64 ((x + e : Nat) : Int) ∧ tv = .string (tb (T ++ List.replicate e 46)) ∧ x + e ≤ cX ∧ w1 = wx) (fun _ xv _ => cX - (intOf xv).toNat)
          case atStart => exact ⟨0, rfl, by simp, by omega, rfl⟩
          case round =>
            obtain ⟨e, rfl, rfl, hxe, rfl⟩ := hrel
            have hT2 : (tb (T ++ List.replicate e 46)).size ≤ 90 := by
              rw [tb_size] at hTl ⊢
              rw [List.length_append, List.length_replicate]
              omega
            have hs1 : ¬ 9223372036854775807 < (tb (T ++ List.replicate e 46)).size + 1 := by omega
            by_cases hx : x + e < cX
            · have hxi : ((x + e : Nat) : Int) < (cX : Int) := by omega
              have HS : Hid (tb (T ++ List.replicate e 46) ++ ⟨#[46]⟩ = tb (T ++ List.replicate (e + 1) 46)) := Lib.hid (by
                rw [List.replicate_succ', ← List.append_assoc]
                exact tb_app (b := [46]))
              generalize tb (T ++ List.replicate e 46) = U at *
              obtain ⟨z, hz⟩ : ∃ z : Nat, z = x + e := ⟨_, rfl⟩
              rw [← hz] at hxi hxe hx ⊢
              have HZ := Lib.hid hz
              clear hz
              go_wp2
              go_roundw
              case rel => exact ⟨e + 1, by have := HZ.out; go_num, by rw [HS.out], by have := HZ.out; omega, trivial⟩
              case measure => simp [intOf]; omega
            · have hze : x + e = cX := by omega
              have HNT : Hid (T ++ List.replicate e 46 ++ [35] = txtF (rowF (D.take (i + 1))) y) := Lib.hid (by
                have h1 := rowF_take (k := y) HD.out
                rw [if_pos HCY.out] at h1
                have h2 := txtF_add (f := rowF (D.take i)) (g := rowF (D.take (i + 1))) (y := y) (e := List.replicate (d.x.toNat - (rowF (D.take i) y).length) 46 ++ [35]) (fun k hk => by
                  rw [rowF_take HD.out, if_neg (by have := HCY.out; omega)]) h1
                rw [h2, ← HT.out, ← HX.out]
                have : d.x.toNat - x = e := by have := HCX.out; omega
                rw [this, List.append_assoc])
              have HNX : Hid (cX + 1 = (rowF (D.take (i + 1)) y).length) := Lib.hid (by
                rw [rowF_take HD.out, if_pos HCY.out, List.length_append, List.length_append, List.length_replicate, ← HX.out]
                have := HCX.out
                simp only [List.length_cons, List.length_nil]
                omega)
              have HNY : Hid (∀ c ∈ D.take (i + 1), c.y ≤ (y : Int)) := Lib.hid fun c hc => by
                rw [List.take_add_one, HD.out] at hc
                rcases List.mem_append.1 hc with hc | hc
                · exact HY.out c hc
                · simp at hc
                  subst hc
                  have := HCY.out
                  omega
              have HNN : Hid (∀ c, D[i + 1]? = some c → (y : Int) ≤ c.y) := Lib.hid fun c hc => by
                obtain ⟨hi', rfl⟩ := List.getElem?_eq_some_iff.1 hc
                obtain ⟨hi2, hdd⟩ := List.getElem?_eq_some_iff.1 HD.out
                have := bef_iff.1 (List.pairwise_iff_getElem.1 HG.out.srt i (i + 1) hi2 hi' (by omega))
                rw [hdd] at this
                have := HCY.out
                omega
              have HNE : Hid (i + 1 = n → (y : Int) = htOf s - 1) := Lib.hid fun hin => by
                have hdm : d ∈ corner s := by rw [← HDD.out]; exact List.mem_of_getElem? HD.out
                have h1 := (corner_lt hdm).2
                have h2 := mxTo_le (f := (·.y)) (l := corner s) (m := (y : Int) + 1) (fun c hc => by
                  rw [← HDD.out] at hc
                  have : D.take (i + 1) = D := by rw [hin, HN.out, List.take_length]
                  have := HNY.out c (by rw [this]; exact hc)
                  omega) (by omega) (corner s).length (Nat.le_refl _)
                have := HCY.out
                unfold htOf at *
                omega
              have HS : Hid (tb (T ++ List.replicate e 46) ++ ⟨#[35]⟩ = tb (T ++ List.replicate e 46 ++ [35])) := Lib.hid (tb_app (b := [35]))
              generalize tb (T ++ List.replicate e 46) = U at *
              rw [hze]
              clear hze
              go_wp2
              go_roundw
              case rel => exact ⟨i + 1, cX + 1, y, _, by omega, by go_num, by go_num, rfl, by rw [HS.out], by omega, by omega, HNT, HNX, HNY, HNN, HNE, trivial⟩
              case measure => simp [intOf]; omega
    · obtain rfl : i = n := by omega
      have HRR : Hid (R = tb T) := Lib.hid (by
        have h1 := HE.out rfl
        rw [HR.out, HT.out, HN.out, List.take_length]
        congr 2
        omega)
      go_wp2
      go_ret
      exact ⟨by rw [HRR.out]; rfl, b1⟩
end Go.Proofs.YtghpkfihdcjlaaaGreatDoor

namespace Go.Proofs.YtghpkfihdcjlaaaGreatDoor
open Go.RowKit

end Go.Proofs.YtghpkfihdcjlaaaGreatDoor

namespace Go.Proofs.YtghpkfihdcjlaaaGreatDoor
open Go.RowKit

/-! plain: a shape's text is read -/
def psStep (s : List Cell × Nat × Nat) (c : UInt8) : List Cell × Nat × Nat :=
  if c = 35 then (s.1 ++ [⟨(s.2.1 : Int), (s.2.2 : Int)⟩], s.2.1 + 1, s.2.2) else if c = 46 then (s.1, s.2.1 + 1, s.2.2) else (s.1, 0, s.2.2 + 1)
def psTo (t : List UInt8) (k : Nat) : List Cell × Nat × Nat := (t.take k).foldl psStep ([], 0, 0)
def psS (t : List UInt8) : List Cell := (psTo t t.length).1
def psC (c : UInt8) : Prop := c = 35 ∨ c = 46 ∨ c = 47
instance (c : UInt8) : Decidable (psC c) := by unfold psC; infer_instance
theorem psTo_succ {t : List UInt8} {k : Nat} {c : UInt8} (h : t[k]? = some c) : psTo t (k + 1) = psStep (psTo t k) c := by
  unfold psTo
  rw [List.take_add_one, h, List.foldl_append]
  rfl
theorem psTo_bd {t : List UInt8} : ∀ k, k ≤ t.length → (psTo t k).1.length ≤ k ∧ (psTo t k).2.1 ≤ k ∧ (psTo t k).2.2 ≤ k
  | 0, _ => by simp [psTo]
  | k + 1, h => by
    have ih := psTo_bd (t := t) k (by omega)
    rw [psTo_succ (List.getElem?_eq_getElem (show k < t.length by omega))]
    unfold psStep
    split
    · simp only [List.length_append, List.length_singleton]; omega
    · split
      · simp only []; omega
      · simp only []; omega
/-- the twelve names and their texts -/
def names12 : List (ByteArray × ByteArray) := [(⟨#[73, 50]⟩, ⟨#[35, 35]⟩), (⟨#[73, 51]⟩, ⟨#[35, 35, 35]⟩), (⟨#[86, 51]⟩, ⟨#[35, 35, 47, 35]⟩), (⟨#[73, 52]⟩, ⟨#[35, 35, 35, 35]⟩), (⟨#[76, 52]⟩, ⟨#[35, 35, 35, 47, 35]⟩), (⟨#[84, 52]⟩, ⟨#[35, 35, 35, 47, 46, 35]⟩),
  (⟨#[83, 52]⟩, ⟨#[46, 35, 35, 47, 35, 35]⟩), (⟨#[79, 52]⟩, ⟨#[35, 35, 47, 35, 35]⟩), (⟨#[88, 53]⟩, ⟨#[46, 35, 47, 35, 35, 35, 47, 46, 35]⟩), (⟨#[80, 53]⟩, ⟨#[35, 35, 47, 35, 35, 47, 35]⟩), (⟨#[87, 53]⟩, ⟨#[35, 47, 35, 35, 47, 46, 35, 35]⟩), (⟨#[85, 53]⟩, ⟨#[35, 46, 35, 47, 35, 35, 35]⟩)]
theorem names_ok : ∀ p ∈ names12, (∀ c ∈ p.2.data.toList, psC c) ∧ isShape (psS p.2.data.toList) = true ∧ fmtSh (psS p.2.data.toList) = p.2 ∧ 1 ≤ p.2.data.size ∧ p.2.data.size ≤ 70 := by
  intro p hp
  simp only [names12, List.mem_cons, List.not_mem_nil, or_false] at hp
  rcases hp with rfl | rfl | rfl | rfl | rfl | rfl | rfl | rfl | rfl | rfl | rfl | rfl <;> exact ⟨by decide +kernel, by decide +kernel, by decide +kernel, by decide, by decide⟩
set_option maxRecDepth 100000 in
theorem l4Names_c (w : World) : Calls Tryz.prog 46 #[] w fun e w' => ∃ v, e = .returned v ∧ Sep w w' [Res.row v 9 1 12 (names12.map fun p => .string p.1)] := by
  go_enter Tryz.func46, Tryz.ntmps46
  go_wp2
  go_ret
  exact ⟨_, rfl, (Sep.start w).rowBox 9 #[.string ⟨#[73, 50]⟩, .string ⟨#[73, 51]⟩, .string ⟨#[86, 51]⟩, .string ⟨#[73, 52]⟩, .string ⟨#[76, 52]⟩, .string ⟨#[84, 52]⟩, .string ⟨#[83, 52]⟩, .string ⟨#[79, 52]⟩, .string ⟨#[88, 53]⟩, .string ⟨#[80, 53]⟩, .string ⟨#[87, 53]⟩, .string ⟨#[85, 53]⟩] 1 12 rfl (by decide)⟩
set_option maxRecDepth 100000 in
set_option maxHeartbeats 1600000 in
theorem spec_parse_c {T : List UInt8} (w : World) (hc : ∀ c ∈ T, psC c) (hs : isShape (psS T) = true) (hf : fmtSh (psS T) = tb T) (h1 : 1 ≤ T.length) (h70 : T.length ≤ 70) :
    Calls Tryz.prog 48 #[.string (tb T)] w fun e w' => ∃ v, e = .returned (.tuple #[v, .bool true]) ∧ CellsIn w' w.heap.size w'.heap.size v (psS T) ∧ Below w.heap.size w w' := by
  obtain ⟨i0, hi, hz0, hz1, hz2⟩ := info_parts infoCell
  have H := (Sep.start w).rowBox 46 #[] 2 0 rfl (by decide)
  have hsz : (tb T).size = T.length := tb_size
  obtain ⟨B, hB⟩ : ∃ B, B = tb T := ⟨_, rfl⟩
  rw [← hB] at hsz hf ⊢
  have HB := Lib.hid hB
  clear hB
  go_enter Tryz.func48, Tryz.ntmps48
  go_wp2
  go_loopw [4, 5, 6, 7] (fun ov xv yv iv wr => ∃ k : Nat, k ≤ T.length ∧ iv = .int .i64 k ∧ xv = .int .i64 ((psTo T k).2.1 : Nat) ∧ yv = .int .i64 ((psTo T k).2.2 : Nat) ∧ Sep w wr [Res.row ov 46 2 (psTo T k).1.length (cc (psTo T k).1)]) (fun _ _ _ iv _ => T.length - (intOf iv).toNat)
  case atStart => exact ⟨0, Nat.zero_le _, rfl, rfl, rfl, H⟩
  case round =>
    clear H
    obtain ⟨k, hk, rfl, rfl, rfl, H⟩ := hrel
    by_cases hlt : k < T.length
    · have hbd := psTo_bd k hk
      have hst := psTo_succ (List.getElem?_eq_getElem hlt)
      have hcc := hc _ (List.getElem_mem hlt)
      have hk2 : k < B.size := by omega
      have hBk : B[k]'hk2 = T[k] := by
        have hb := HB.out
        subst hb
        rfl
      generalize T[k] = c at *
      unfold psStep at hst
      generalize (psTo T k).1 = L at *
      generalize (psTo T k).2.1 = x at *
      generalize (psTo T k).2.2 = y at *
      have hL71 : L.length ≤ 70 := by omega
      have hx71 : x ≤ 70 := by omega
      have hy71 : y ≤ 70 := by omega
      have HST := Lib.hid hst
      clear hst hbd
      obtain ⟨A, ca, rfl, hrl, hrm, _⟩ := Res.row_at H.h0
      rcases hcc with rfl | rfl | rfl
      · have hbn : ((B[k]'hk2).toNat : Int) = 35 := by rw [hBk]; rfl
        have e : Hid (psTo T (k + 1) = (L ++ [⟨(x : Int), (y : Int)⟩], x + 1, y)) := Lib.hid (by rw [HST.out]; rfl)
        clear hBk
        go_wp2_with (at_builtin; refine wpList_app rfl _ _ 24 rfl 46 i0 _ 2 16 Tryz.underlying24 hi hz0 hz1 hz2 rfl (by decide) _ _ _ rfl (H.alloc _) _ _ _ [.int .i64 (x : Int), .int .i64 (y : Int)] rfl (Rd.fresh wr _ #[.int .i64 (x : Int), .int .i64 (y : Int)] 2 1 rfl) oc2 (by unfold maxLen; omega) (by omega) ?_; intro v' w4 H4)
        have H5 : Sep w w4 [Res.row v' 46 2 (psTo T (k + 1)).1.length (cc (psTo T (k + 1)).1)] := by
          rw [e.out]
          simp only [cc_append, List.length_append]
          exact H4
        clear H4 H
        go_wp2
        go_roundw
        case rel => exact ⟨k + 1, by omega, by go_num, by rw [e.out]; go_num, by rw [e.out], H5⟩
        case measure => simp [intOf]; omega
      · have hbn : ((B[k]'hk2).toNat : Int) = 46 := by rw [hBk]; rfl
        have e : Hid (psTo T (k + 1) = (L, x + 1, y)) := Lib.hid (by rw [HST.out]; rfl)
        clear hBk
        go_wp2
        go_roundw
        case rel => exact ⟨k + 1, by omega, by go_num, by rw [e.out]; go_num, by rw [e.out], by rw [e.out]; exact H⟩
        case measure => simp [intOf]; omega
      · have hbn : ((B[k]'hk2).toNat : Int) = 47 := by rw [hBk]; rfl
        have e : Hid (psTo T (k + 1) = (L, 0, y + 1)) := Lib.hid (by rw [HST.out]; rfl)
        clear hBk
        go_wp2
        go_roundw
        case rel => exact ⟨k + 1, by omega, by go_num, by rw [e.out]; go_num, by rw [e.out]; go_num, by rw [e.out]; exact H⟩
        case measure => simp [intOf]; omega
    · obtain rfl : k = T.length := by omega
      have hS : (psTo T T.length).1 = psS T := rfl
      rw [hS] at H
      have hB0 : ¬ B = ⟨#[]⟩ := fun e => by rw [e] at hsz; have : (0 : Nat) = T.length := hsz; omega
      have hB4 : ¬ B.toList = [] := fun e => by
        rw [Lib.toList_data] at e
        have h0 : B.data.toList.length = 0 := by rw [e]; rfl
        rw [Array.length_toList] at h0
        have h2 : B.data.size = T.length := hsz
        omega
      have hB5 : B.toList.isEmpty = false := by
        cases hb : B.toList with
        | nil => exact absurd hb hB4
        | cons _ _ => rfl
      have HF := Lib.hid hf
      obtain ⟨A, ca, rfl, hrl, hrm, _⟩ := Res.row_at H.h0
      clear hS hf
      go_wp2_with fail
      refine (spec_fmtSh_c wr (H.oi.sr.more (Nat.zero_le _) (Nat.le_refl _)) hs).mono ?_
      rintro e w3 ⟨rfl, b3⟩
      rw [HF.out]
      have H3 := H.step b3
      clear b3 H
      go_wp2
      exact bodyPost_ret (v := .tuple #[.slice A (psS T).length ca, .bool true]) (by simp [results, Tryz.results48, go_sem]) rfl ⟨_, rfl, H3.oi, H3.below⟩
end Go.Proofs.YtghpkfihdcjlaaaGreatDoor

namespace Go.Proofs.YtghpkfihdcjlaaaGreatDoor
open Go.RowKit

set_option maxRecDepth 100000 in
set_option maxHeartbeats 1600000 in
theorem pieceNamed_c (w : World) (p : ByteArray × ByteArray) (hp : p ∈ names12) :
    Calls Tryz.prog 47 #[.string p.1] w fun e w' => ∃ v, e = .returned (.tuple #[v, .bool true]) ∧ CellsIn w' w.heap.size w'.heap.size v (psS p.2.data.toList) ∧ Below w.heap.size w w' := by
  have HP : Hid (Calls Tryz.prog 48 #[.string p.2] w fun e w' => ∃ v, e = .returned (.tuple #[v, .bool true]) ∧ CellsIn w' w.heap.size w'.heap.size v (psS p.2.data.toList) ∧ Below w.heap.size w w') := Lib.hid (by
    obtain ⟨h1, h2, h3, h4, h5⟩ := names_ok p hp
    have e : tb p.2.data.toList = p.2 := rfl
    have := spec_parse_c (T := p.2.data.toList) w h1 h2 (by rw [e]; exact h3) (by rw [Array.length_toList]; exact h4) (by rw [Array.length_toList]; exact h5)
    rw [e] at this
    exact this)
  obtain ⟨S, hS⟩ : ∃ S, S = psS p.2.data.toList := ⟨_, rfl⟩
  rw [← hS] at HP ⊢
  clear hS
  simp only [names12, List.mem_cons, List.not_mem_nil, or_false] at hp
  rcases hp with rfl | rfl | rfl | rfl | rfl | rfl | rfl | rfl | rfl | rfl | rfl | rfl
  all_goals
    dsimp only at HP ⊢
    go_enter Tryz.func47, Tryz.ntmps47
    go_wp2_with fail
    refine (HP.out).mono ?_
    rintro e w3 ⟨v, rfl, o, b⟩
    go_wp2
    exact bodyPost_ret (v := .tuple #[v, .bool true]) (by simp [results, Tryz.results47, go_sem]) rfl ⟨_, rfl, o, b⟩
set_option maxRecDepth 100000 in
set_option maxHeartbeats 1600000 in
theorem l4Piece_c {g : Nat} {l : List UInt8} {w0 w : World} {L : List Res} (H : Cur w0 w g l L) :
    Calls Tryz.prog 23 #[.pointer (some ⟨g, 0, none⟩)] w fun e w' => ∃ v s, e = .returned v ∧ isShape s = true ∧ s.length ≤ 8 ∧ Cur w0 w' g l (Res.row v 46 2 s.length (cc s) :: L) := by
  go_enter Tryz.func23, Tryz.ntmps23
  go_wp2_with fail
  refine (l4Names_c w).mono ?_
  rintro e w1 ⟨v, rfl, h1⟩
  have H1 := H.map (fun X h => (h.oiNew h1.below h1.oi).g1)
  clear H
  obtain ⟨A, c, rfl, hrl, hrm, _⟩ := Res.row_at h1.h0
  clear h1
  go_wp2_with fail
  refine (l1Below_c 12 H1 (by omega)).mono ?_
  rintro e w2 ⟨x, rfl, hx0, hx1, _, H2⟩
  obtain ⟨k, rfl⟩ : ∃ k : Nat, x = (k : Int) := ⟨x.toNat, by omega⟩
  have hk : k < 12 := by have := hx1 (by omega); omega
  clear hx0 hx1 H1
  obtain ⟨A', c', e5, _, _, hrd⟩ := Res.row_at H2.sep.h0
  injection e5 with e5 e6 e7
  subst e5
  obtain ⟨b, off, p, rfl, _, hb, hla, q1⟩ := Rd.at1 (l := names12) (f := fun p : ByteArray × ByteArray => .string p.1) hrd hk
  have hp := List.mem_of_getElem? hla
  have HOK := Lib.hid (names_ok p hp)
  have HP := Lib.hid (pieceNamed_c w2 p hp)
  clear hla hrd
  obtain ⟨S, hS⟩ : ∃ S, S = psS p.2.data.toList := ⟨_, rfl⟩
  rw [← hS] at HP HOK
  clear hS hp
  go_wp2_with fail
  refine (HP.out).mono ?_
  rintro e w3 ⟨v, rfl, o3, b3⟩
  have H3 := H2.map (fun X h => (h.oiNew b3 o3).g1)
  clear H2 o3 b3 q1
  go_wp2
  go_ret
  exact ⟨_, S, rfl, HOK.out.2.1, (shp_len HOK.out.2.1).2, H3.map (fun X h => h.g2.drop)⟩
end Go.Proofs.YtghpkfihdcjlaaaGreatDoor

namespace Go.Proofs.YtghpkfihdcjlaaaGreatDoor
open Go.RowKit

set_option maxRecDepth 100000 in
set_option maxHeartbeats 800000 in
theorem l1PickS_c {g b n : Nat} {l : List UInt8} {w0 w : World} {L : List Res} {xs : List ByteArray} (hn : xs.length = n) (h1 : 1 ≤ n) (h2 : n ≤ 1000) (H : Cur w0 w g l (Res.row (.slice (some ⟨b, 0, none⟩) n n) 9 1 n (xs.map Value.string) :: L)) :
    Calls Tryz.prog 49 #[.pointer (some ⟨g, 0, none⟩), .slice (some ⟨b, 0, none⟩) n n] w fun e w' => ∃ x : ByteArray, e = .returned (.string x) ∧ x ∈ xs ∧ Cur w0 w' g l (Res.row (.slice (some ⟨b, 0, none⟩) n n) 9 1 n (xs.map Value.string) :: L) := by
  go_enter Tryz.func49, Tryz.ntmps49
  go_wp2_with fail
  refine (l1Below_c (n : Int) H (by omega)).mono ?_
  rintro e w1 ⟨x, rfl, hx1, hx2, hx3, H1⟩
  have hxn := hx2 (by omega)
  obtain ⟨k, rfl⟩ := Int.eq_ofNat_of_zero_le hx1
  have hk : k < xs.length := by omega
  obtain ⟨A, c, e5, _, _, hrd⟩ := Res.row_at H1.sep.h0
  injection e5 with e5 e6 e7
  subst e5
  obtain ⟨b', off, p, eb, _, hb, hla, r0⟩ := Rd.at1 (l := xs) (f := Value.string) hrd (show k < n by omega)
  injection eb with eb
  injection eb with eb1 eb2
  subst eb1; subst eb2
  have hmem := List.mem_of_getElem? hla
  simp only [Nat.zero_add] at r0
  clear hx2 hx3 H hrd hla hb
  go_wp2
  go_ret
  exact ⟨p, rfl, hmem, H1⟩
/-- the five texts of the drawing -/
def texts5 : List ByteArray := [⟨#[35, 35, 35, 47, 35, 46, 35, 47, 35, 35, 35]⟩, ⟨#[35, 35, 35, 47, 35, 46, 35, 47, 35, 35]⟩, ⟨#[46, 35, 35, 47, 35, 46, 35, 47, 35, 35, 35]⟩, ⟨#[35, 35, 47, 35, 46, 35, 47, 46, 35, 35]⟩, ⟨#[35, 46, 35]⟩]
theorem texts_ok : ∀ p ∈ texts5, (∀ c ∈ p.data.toList, psC c) ∧ isShape (psS p.data.toList) = true ∧ fmtSh (psS p.data.toList) = p ∧ 1 ≤ p.data.size ∧ p.data.size ≤ 70 := by
  intro p hp
  simp only [texts5, List.mem_cons, List.not_mem_nil, or_false] at hp
  rcases hp with rfl | rfl | rfl | rfl | rfl <;> exact ⟨by decide +kernel, by decide +kernel, by decide +kernel, by decide, by decide⟩
set_option maxRecDepth 100000 in
set_option maxHeartbeats 1600000 in
theorem l5Holey_c {g : Nat} {l : List UInt8} {w0 w : World} {L : List Res} (H : Cur w0 w g l L) :
    Calls Tryz.prog 24 #[.pointer (some ⟨g, 0, none⟩)] w fun e w' => ∃ v s R L', e = .returned v ∧ s.length ≤ 8 ∧ CellsBy R v s ∧ Cur w0 w' g l (R :: L') := by
  go_enter Tryz.func24, Tryz.ntmps24
  go_wp2_with fail
  refine (l1Once_c 3 H (by omega)).mono ?_
  rintro e w1 ⟨q, rfl, H1⟩
  clear H
  cases q
  · go_wp2_with fail
    refine (l2Any_c H1).mono ?_
    rintro e w4 ⟨v, s, R, rfl, h8, hR, H6⟩
    clear H1
    go_wp2
    go_ret
    exact ⟨_, s, R, L, rfl, h8, hR, H6⟩
  · have H2 := H1.map (fun X h => (h.rowBox 9 #[.string ⟨#[35, 35, 35, 47, 35, 46, 35, 47, 35, 35, 35]⟩, .string ⟨#[35, 35, 35, 47, 35, 46, 35, 47, 35, 35]⟩, .string ⟨#[46, 35, 35, 47, 35, 46, 35, 47, 35, 35, 35]⟩, .string ⟨#[35, 35, 47, 35, 46, 35, 47, 46, 35, 35]⟩, .string ⟨#[35, 46, 35]⟩] 1 5 rfl (by decide)).g1)
    clear H1
    go_wp2_with fail
    refine (l1PickS_c (n := 5) (b := w1.heap.size) (xs := texts5) rfl (by omega) (by omega) H2).mono ?_
    rintro e w2 ⟨x, rfl, hx, H3⟩
    clear H2
    have HOK := Lib.hid (texts_ok x hx)
    have HP : Hid (Calls Tryz.prog 48 #[.string x] w2 fun e w' => ∃ v, e = .returned (.tuple #[v, .bool true]) ∧ CellsIn w' w2.heap.size w'.heap.size v (psS x.data.toList) ∧ Below w2.heap.size w2 w') := Lib.hid (by
      obtain ⟨h1, h2, h3, h4, h5⟩ := HOK.out
      have e : tb x.data.toList = x := rfl
      have := spec_parse_c (T := x.data.toList) w2 h1 h2 (by rw [e]; exact h3) (by rw [Array.length_toList]; exact h4) (by rw [Array.length_toList]; exact h5)
      rw [e] at this
      exact this)
    obtain ⟨S, hS⟩ : ∃ S, S = psS x.data.toList := ⟨_, rfl⟩
    rw [← hS] at HP HOK
    clear hS hx
    go_wp2_with fail
    refine (HP.out).mono ?_
    rintro e w3 ⟨v, rfl, o3, b3⟩
    have H4 := H3.map (fun X h => (h.oiNew b3 o3).g1)
    clear H3 HP o3 b3
    go_wp2
    go_ret
    exact ⟨_, S, _, _, rfl, (shp_len HOK.out.2.1).2, CellsBy.row (by have := (shp_len HOK.out.2.1).2; omega), H4⟩
/-- a drawn shape -/
def ShD5 (w : World) : Ending → World → Prop := fun e w' => ∃ (v : Value) (s : List Cell), e = .returned v ∧ CellsRd w' 0 w'.heap.size v s ∧ s.length ≤ 8 ∧ Below w.heap.size w w'
set_option maxRecDepth 100000 in
set_option maxHeartbeats 1600000 in
theorem drawBord_c {v : Value} {l : List UInt8} (w : World) (h : BytesRd w 0 w.heap.size v l) (hn : l.length ≤ 1048576) :
   Calls Tryz.prog 5 #[v] w (ShD5 w) := by
 go_enter Tryz.func5, Tryz.ntmps5
 go_wp2_with fail
 refine (l1New_c h hn (Sep.start w)).mono ?_
 rintro e w1 ⟨g, rfl, H1⟩
 clear h
 go_wp2_with fail
 refine (l1Once_c 2 H1 (by omega)).mono ?_
 rintro e w2 ⟨q, rfl, H2⟩
 clear H1
 cases q
 · go_wp2_with fail
   refine (l5Holey_c H2).mono ?_
   rintro e w3 ⟨va, s, R, L', rfl, h8, hR, H3⟩
   have HC := Lib.hid (hR w3 0 H3.sep.h0 (fun _ _ => Nat.zero_le _))
   have hb := H3.sep.below
   clear H2 H3 hR
   go_wp2
   go_ret
   exact ⟨_, s, rfl, HC.out, h8, hb⟩
 · go_wp2_with fail
   refine (l4Piece_c H2).mono ?_
   rintro e w3 ⟨va, s, rfl, hs, h8, H3⟩
   have HC := Lib.hid (CellsBy.row (by omega) w3 0 H3.sep.h0 (fun _ _ => Nat.zero_le _))
   have hb := H3.sep.below
   clear H2 H3 hs
   go_wp2
   go_ret
   exact ⟨_, s, rfl, HC.out, h8, hb⟩
end Go.Proofs.YtghpkfihdcjlaaaGreatDoor
