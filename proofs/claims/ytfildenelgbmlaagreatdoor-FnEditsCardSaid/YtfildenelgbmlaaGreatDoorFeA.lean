
/-
  Rows of bytes, and the text of one. A region that draws its order, whose first operations are quiet in a class of worlds and whose last ones come one after the other: one walk. No program in sight. A shape's text: plain, and the reference's walk. The reference's 'ParseShape' at texts of right shapes, and the names of the pieces. The law's drawing of regions. The reference's 'PieceNamed' at the names of the pieces. The law's drawing of regions, right or not. The laws' draws of regions for coverings, common regions, packings. The law's draw of a shape that is grown cell by cell, right or not. The laws' draws of pieces, and of regions with pieces. The walk of the reference's 'ApplyEdits': one edit. The walk of the reference's 'ApplyEdits'. The law's draw of edits of a region. The drawings of the law FnEdits: edits applied to a region.
-/
import Derived.Test.YtfildenelgbmlaaGreatDoorProg
import Derived.Test.YtfildenelgbmlaaGreatDoorSepX
import Derived.Laws.IdiomStrings
import Derived.Laws.BytesArg
import Derived.StillTail
import Derived.Test.YtfildenelgbmlaaGreatDoorCellX
import Derived.Test.YtfildenelgbmlaaGreatDoorOriP
import Derived.Test.YtfildenelgbmlaaGreatDoorShpX
import Derived.Lib.Join
import Derived.Lib.Strings
import Derived.Deep.DeepCutAuto
import Derived.Test.YtfildenelgbmlaaGreatDoorDraw
import Derived.Test.YtfildenelgbmlaaGreatDoorRect
import Derived.Test.YtfildenelgbmlaaGreatDoorFlipX
import Derived.Test.YtfildenelgbmlaaGreatDoorMotC
import Derived.Test.YtfildenelgbmlaaGreatDoorEqV
import Derived.Test.YtfildenelgbmlaaGreatDoorPutSD
import Derived.Test.YtfildenelgbmlaaGreatDoorCwWalks
import Derived.IntWalk
import Derived.Test.YtfildenelgbmlaaGreatDoorPlcX
namespace Go.Proofs.YtfildenelgbmlaaGreatDoor
open Go.RowKit

set_option maxRecDepth 100000 in
theorem infoU8 : (Tryz.prog.info? 5).map (fun i => (i.zero, i.size, i.bytes)) = some (some (.int .u8 0), 1, 1) := by kernel_rfl
def uc (l : List UInt8) : List Value := l.map fun b => .int .u8 (b.toNat : Int)
theorem uc_append {l m : List UInt8} : uc (l ++ m) = uc l ++ uc m := by simp [uc]
theorem uc_length {l : List UInt8} : (uc l).length = l.length := by simp [uc]
def tb (l : List UInt8) : ByteArray := ⟨l.toArray⟩
theorem tb_size {l : List UInt8} : (tb l).size = l.length := List.size_toArray
theorem tb_nil : (⟨#[]⟩ : ByteArray) = tb [] := rfl
theorem tb_app {a b : List UInt8} : tb a ++ tb b = tb (a ++ b) := by apply ba_ext; rw [ba_app]; simp [tb]
theorem ocu {a : Int} : ∀ u ∈ [Value.int .u8 a], u.oneCell' = true := by intro u hu; simp at hu; subst hu; rfl
set_option maxRecDepth 100000 in
/-- the text of a row of bytes -/
theorem row_text {w : World} {v : Value} {n : Nat} {l : List UInt8} (hn : n = l.length) (h : w.ownsRow 0 5 1 v n (uc l)) : (convert 22 9 v).run Tryz.prog w = .ok (.string (tb l)) w := by
  subst hn
  by_cases h0 : l.length = 0
  · obtain rfl : l = [] := List.eq_nil_of_length_eq_zero h0
    obtain ⟨A, c, rfl, _⟩ := Res.row_at h
    show (convert 22 9 (.slice A 0 c)).run Tryz.prog w = _
    rw [run_convert_bytes_string w _ _ _ _ 0 c Tryz.underlying22 Tryz.underlying5 Tryz.underlying9]
    cases A <;> simp [Conv.bytesToString, loadCells]
    all_goals rfl
  · obtain ⟨b, off, c, rfl, _, _, _⟩ := own_shape h (by omega)
    exact run_convert_bytes_back (P := Tryz.prog) w _ _ _ ⟨b, off, none⟩ c l Tryz.underlying22 Tryz.underlying5 Tryz.underlying9 (fun j hj => by
      have := own_cell h (j := j) (u := .int .u8 (l[j].toNat : Int)) (by simp [uc, List.getElem?_eq_getElem hj])
      unfold Addr.add
      split
      · rename_i e
        subst e
        simpa using this
      · exact this)
end Go.Proofs.YtfildenelgbmlaaGreatDoor

namespace Go.Proofs.YtfildenelgbmlaaGreatDoor
open Go.RowKit

section
variable {P : Program} {ops : Array Oper} {md : Region.Mode} {C : World → Prop}
/-- the first n operations in whatever order, then L -/
def headQ (P : Program) (md : Region.Mode) (ops : Array Oper) (C : World → Prop) (n : Nat) (L : Array Bool → Act → Prop) : Nat → Array Bool → Act → Prop
  | 0, d, a => L d a
  | f + 1, d, a => Region.ready md ops d ≠ [] ∧ ∀ i ∈ Region.ready md ops d, i < n ∧ qOp P ops C i (headQ P md ops C n L f (d.setIfInBounds i true)) a
theorem any_of_headQ {n g : Nat} {L : Array Bool → Act → Prop} {Q' : Exit → Act → World → Prop} (hL : ∀ d a w, C w → L d a → wpAny P md ops Q' g d a w) : ∀ (f : Nat) (d : Array Bool) (a : Act) (w : World), C w → headQ P md ops C n L f d a → wpAny P md ops Q' (f + g) d a w
  | 0, d, a, w, hw, h => by rw [Nat.zero_add]; exact hL _ _ _ hw h
  | f + 1, d, a, w, hw, h => by
    rw [Nat.add_right_comm]
    exact ⟨fun h0 => absurd h0 h.1, fun i hi => wpOp_of_qOp hw (fun a' w' hw' h' => any_of_headQ hL f _ a' w' hw' h') (h.2 i hi).2⟩
theorem headQ_first {n i : Nat} {oi : Oper} {v : Value} {L : Array Bool → Act → Prop} (hi : ops[i]? = some oi) (hsel : ∀ (j : Nat) (o : Oper) cs b, ops[j]? = some o → o.op ≠ .select cs b)
    (hs : Region.sinkB md ops n = true) (hc : Region.chainB md ops n = true) (hn : n < ops.size) (hin : i < n) (hdone : ∀ d a, L d a → ∀ j ∈ Region.ready md ops d, n ≤ j) :
    ∀ (f : Nat) (d : Array Bool) (a : Act), HeadInv md ops n d →
      (∀ j oj, ops[j]? = some oj → j ≠ i → d.getD j true = false → (∀ e ∈ oj.after, Region.binds md e = true → e.on ≠ i) → oi.apart ops oj = true) →
      i ∈ Region.ready md ops d → YieldsIn P ops C oi v a → headQ P md ops C n L f (d.setIfInBounds i true) (a.put oi.dst v) → headQ P md ops C n L (f + 1) d a := by
  intro f
  induction f with
  | zero =>
    intro d a inv _ hr hy H
    refine ⟨fun h => (by rw [h] at hr; cases hr), fun j hj => ?_⟩
    have hjn : j < n := Nat.lt_of_not_le fun h => tail_waits hs hc hn inv _ i rfl hin (mem_ready.1 hr).1 j h hj
    refine ⟨hjn, ?_⟩
    by_cases hji : j = i
    · subst hji; exact hy.qOp hi H
    · have := hdone _ _ H j (ready_mono hj hji)
      omega
  | succ f ih =>
    intro d a inv hfree hr hy H
    refine ⟨fun h => (by rw [h] at hr; cases hr), fun j hj => ?_⟩
    have hjn : j < n := Nat.lt_of_not_le fun h => tail_waits hs hc hn inv _ i rfl hin (mem_ready.1 hr).1 j h hj
    refine ⟨hjn, ?_⟩
    by_cases hji : j = i
    · subst hji; exact hy.qOp hi H
    · obtain ⟨hjun, oj, hoj, hall⟩ := mem_ready.1 hj
      have hnot : ∀ e ∈ oj.after, Region.binds md e = true → e.on ≠ i := fun e he hb heq => by
        have h1 := hall e he hb
        rw [heq, getD_both (mem_ready.1 hr).1] at h1
        cases h1
      have h2 := qOp_put hoj (hfree j oj hoj hji hjun hnot) (fun cs b => hsel i oi cs b hi) (fun cs b => hsel j oj cs b hoj) hy (H.2 j (ready_mono hj hji)).2
      refine qOp_mono (fun a' h3 => ih (d.setIfInBounds j true) a' (inv.set hj hjn) (fun k ok hk hki hun hno => ?_) (ready_mono hr (Ne.symm hji)) h3.1 ?_) h2
      · refine hfree k ok hk hki ?_ hno
        by_cases hjk : j = k
        · subst hjk; exact hjun
        · rw [getD_set_ne true hjk] at hun; exact hun
      · rw [Array.setIfInBounds_comm _ _ hji]
        exact h3.2
theorem headQ_lex {n g : Nat} {Lq : Act → Prop} (hsel : Region.noSelect ops = true) (hs : Region.sinkB md ops n = true) (hc : Region.chainB md ops n = true) (hn : n < ops.size) :
    ∀ (l : List Oper) (k : Nat) (d : Array Bool) (a : Act), (∀ j, j < l.length → l[j]? = ops[k + j]?) → k + l.length = n → HeadInv md ops n d → Region.lexHead md ops g l.length k d = true → wpQuiet P ops C Lq l a →
    headQ P md ops C n (fun d' a' => Region.seqB md ops g n d' = true ∧ Lq a') l.length d a
  | [], k, d, a, _, hk, _, hB, h => by
    obtain rfl : k = n := by simpa using hk
    exact ⟨by simpa [Region.lexHead] using hB, h⟩
  | o :: l, k, d, a, hl, hk, inv, hB, h => by
    have h0 : ops[k]? = some o := by simpa using (hl 0 (by simp)).symm
    simp only [List.length_cons, Region.lexHead, Bool.and_eq_true] at hB
    have hkn : k < n := by simp only [List.length_cons] at hk; omega
    have hr' : k ∈ Region.ready md ops d := by simpa using hB.1.1
    have hst : qOp P ops C k (wpQuiet P ops C Lq l) a := by unfold qOp; simp only [h0]; exact h
    obtain ⟨v, hy, hK⟩ := yieldsIn_of_qOp h0 hst
    exact headQ_first h0 (Region.noSelect_spec hsel) hs hc hn hkn (fun d' a' hL => seqB_ready hL.1) l.length d a inv (Region.free_spec h0 hB.1.2) hr' hy
      (headQ_lex hsel hs hc hn l (k + 1) _ _ (fun j hj => by have := hl (j + 1) (by simp; omega); simpa [Nat.add_assoc, Nat.add_comm 1 j] using this) (by simp only [List.length_cons] at hk; omega) (inv.set hr' hkn) hB.2 hK)
/-- quiet in a class of worlds up to operation n, then one after the other -/
theorem wp_region_qtail {id : Nat} {Q : Exit → Act → World → Prop} {a : Act} {w : World} {l : List Oper} (n : Nat) (hm : P.follows .mixedOrders = true) (hB : Region.lexTailB .any l.toArray n = true) (hC : C w.drew)
    (h : wpQuiet P l.toArray C (fun a' => ∀ w', C w' → wpList P l.toArray Q (l.drop n) a' w') (l.take n) a) : (Code.region id l.toArray true).wp P Q a w := by
  simp only [Region.lexTailB, Bool.and_eq_true, decide_eq_true_eq] at hB
  obtain ⟨⟨⟨⟨hsel, hn⟩, hs⟩, hc⟩, hlex⟩ := hB
  have htl : (l.take n).length = n := by simp at hn ⊢; omega
  have hdl : (l.drop n).length = l.toArray.size - n := by simp
  have inv0 : HeadInv .any l.toArray n (Array.replicate l.toArray.size false) :=
    ⟨by simp, fun j oj _ hl => (by rw [getD_replicate_false] at hl; cases hl), fun t _ ht => getD_in (by simpa using ht) (getD_replicate_false _ _)⟩
  have H := headQ_lex (md := .any) (C := C) (g := l.toArray.size - n) hsel hs hc hn (l.take n) 0 _ a (fun j hj => by
    have hj' : j < n := by rw [htl] at hj; exact hj
    simp [hj']) (by simpa using htl) inv0 (by rw [htl]; exact hlex) h
  refine wp_region_any hm ?_
  have := any_of_headQ (Q' := Q) (g := l.toArray.size - n) (fun d a' w' hw' hL => by
    have := wpAny_of_seq (md := .any) (Q' := Q) (l.drop n) n d a' w' (fun j => by simp [List.getElem?_drop]) (by rw [hdl]; exact hL.1) (hL.2 w' hw')
    rwa [hdl] at this) _ _ _ w.drew hC H
  rw [htl, show n + (l.toArray.size - n) = l.toArray.size by omega] at this
  exact this
theorem wp_region_lqtail {W : World} {id : Nat} {Q : Exit → Act → World → Prop} {a : Act} {l : List Oper} (n : Nat) (hm : P.follows .mixedOrders = true) (hB : Region.lexTailB .any l.toArray n = true)
    (h : wpQuiet P l.toArray (fun w' => ∃ u : Later W, w' = u.w) (fun a' => ∀ w', (∃ u : Later W, w' = u.w) → wpList P l.toArray Q (l.drop n) a' w') (l.take n) a) : (Code.region id l.toArray true).wp P Q a W :=
  wp_region_qtail (C := fun w' => ∃ u : Later W, w' = u.w) n hm hB ⟨⟨_, below_drew (Below.refl _ _)⟩, rfl⟩ h
end
end Go.Proofs.YtfildenelgbmlaaGreatDoor

namespace Go.Proofs.YtfildenelgbmlaaGreatDoor
open Go.RowKit

theorem shp_srt {s : List Cell} (h : isShape s = true) : Srt s := List.pairwise_iff_getElem.2 fun _ j hi hj hij => shp_pair h (List.getElem?_eq_getElem hi) j hij (List.getElem?_eq_getElem hj)
theorem srt_corner {s : List Cell} (h : Srt s) : Srt (corner s) := List.pairwise_map.2 (List.Pairwise.imp (fun {a b} hab => by rw [bef_iff] at hab ⊢; simp only; omega) h)
theorem sort_shp {s : List Cell} (h : isShape s = true) : sortC s = s := sortC_is (shp_srt h) fun _ => Iff.rfl
/-- a list that is drawn: in order, on the board -/
structure Grd (D : List Cell) : Prop where
  srt : Srt D
  on : ∀ c ∈ D, On c
  len : 1 ≤ D.length ∧ D.length ≤ 8
theorem grd_corner {s : List Cell} (h : isShape s = true) : Grd (corner s) := ⟨srt_corner (shp_srt h), fun _ hc => corner_on h hc, by unfold corner; rw [shift_length]; exact shp_len h⟩
/-- the text of row k -/
def rowF (D : List Cell) (k : Nat) : List UInt8 := D.foldl (fun t c => if c.y = (k : Int) then t ++ (List.replicate (c.x.toNat - t.length) 46 ++ [35]) else t) []
theorem rowF_take {D : List Cell} {i k : Nat} {c : Cell} (h : D[i]? = some c) : rowF (D.take (i + 1)) k = if c.y = (k : Int) then rowF (D.take i) k ++ (List.replicate (c.x.toNat - (rowF (D.take i) k).length) 46 ++ [35]) else rowF (D.take i) k := by
  have : D.take (i + 1) = D.take i ++ [c] := by rw [List.take_add_one, h]; rfl
  unfold rowF
  rw [this, List.foldl_append]
  rfl
theorem rowF_len {D : List Cell} (hD : Grd D) : ∀ (i k : Nat), i ≤ D.length → (rowF (D.take i) k).length = 0 ∨ ∃ j c, j < i ∧ D[j]? = some c ∧ c.y = (k : Int) ∧ ((rowF (D.take i) k).length : Int) = c.x + 1
  | 0, _, _ => .inl rfl
  | i + 1, k, hi => by
    obtain ⟨c, hc⟩ : ∃ c, D[i]? = some c := ⟨D[i], List.getElem?_eq_getElem (by omega)⟩
    have ih := rowF_len hD i k (by omega)
    have hon := hD.on c (List.mem_of_getElem? hc)
    unfold On at hon
    rw [rowF_take hc]
    split
    · rename_i hy
      refine .inr ⟨i, c, by omega, hc, hy, ?_⟩
      have hle : ((rowF (D.take i) k).length : Int) ≤ c.x := by
        rcases ih with h | ⟨j, d, hj, hd, hdy, hl⟩
        · omega
        · obtain ⟨hj', rfl⟩ := List.getElem?_eq_some_iff.1 hd
          obtain ⟨hi', rfl⟩ := List.getElem?_eq_some_iff.1 hc
          have := bef_iff.1 (List.pairwise_iff_getElem.1 hD.srt j i hj' hi' hj)
          omega
      simp only [List.length_append, List.length_replicate, List.length_cons, List.length_nil]
      omega
    · rcases ih with h | ⟨j, d, hj, hd, hdy, hl⟩
      · exact .inl h
      · exact .inr ⟨j, d, by omega, hd, hdy, hl⟩
/-- the next cell lies behind its row's text -/
theorem rowF_le {D : List Cell} (hD : Grd D) {i k : Nat} {c : Cell} (hc : D[i]? = some c) (hk : c.y = (k : Int)) : (rowF (D.take i) k).length ≤ c.x.toNat := by
  have hi := (List.getElem?_eq_some_iff.1 hc).1
  rcases rowF_len hD i k (by omega) with h | ⟨j, d, hj, hd, hdy, hl⟩
  · omega
  · obtain ⟨hj', rfl⟩ := List.getElem?_eq_some_iff.1 hd
    obtain ⟨hi', rfl⟩ := List.getElem?_eq_some_iff.1 hc
    have := bef_iff.1 (List.pairwise_iff_getElem.1 hD.srt j i hj' hi' hj)
    omega
theorem rowF_8 {D : List Cell} (hD : Grd D) {i k : Nat} (hi : i ≤ D.length) : (rowF (D.take i) k).length ≤ 8 := by
  rcases rowF_len hD i k hi with h | ⟨j, d, hj, hd, hdy, hl⟩
  · omega
  · have := hD.on d (List.mem_of_getElem? hd)
    unfold On at this
    omega
theorem rowF_none {k : Nat} : ∀ {B : List Cell} {t : List UInt8}, (∀ c ∈ B, c.y ≠ (k : Int)) → B.foldl (fun t c => if c.y = (k : Int) then t ++ (List.replicate (c.x.toNat - t.length) 46 ++ [35]) else t) t = t
  | [], _, _ => rfl
  | c :: B, t, h => by
    rw [List.foldl_cons, if_neg (h c (by simp))]
    exact rowF_none fun d hd => h d (by simp [hd])
/-- the rows up to y, with strokes between them -/
def txtF (f : Nat → List UInt8) : Nat → List UInt8
  | 0 => f 0
  | y + 1 => txtF f y ++ 47 :: f (y + 1)
theorem txtF_len {f : Nat → List UInt8} (h : ∀ k, (f k).length ≤ 8) : ∀ y, (txtF f y).length ≤ 9 * y + 8
  | 0 => h 0
  | y + 1 => by
    have := txtF_len h y
    have := h (y + 1)
    rw [txtF, List.length_append, List.length_cons]
    omega
theorem txtF_next {f : Nat → List UInt8} {y : Nat} (h : f (y + 1) = []) : txtF f (y + 1) = txtF f y ++ [47] := by rw [txtF, h]
theorem txtF_same {f g : Nat → List UInt8} : ∀ {y : Nat}, (∀ k, k ≤ y → g k = f k) → txtF g y = txtF f y
  | 0, h => h 0 (Nat.le_refl _)
  | y + 1, h => by rw [txtF, txtF, h _ (Nat.le_refl _), txtF_same fun k hk => h k (by omega)]
theorem txtF_add {f g : Nat → List UInt8} {y : Nat} {e : List UInt8} (h : ∀ k, k < y → g k = f k) (hy : g y = f y ++ e) : txtF g y = txtF f y ++ e := by
  cases y with
  | zero => exact hy
  | succ y => rw [txtF, txtF, hy, txtF_same (f := f) (g := g) fun k hk => h k (by omega)]; simp
/-- a shape's text -/
def fmtSh (s : List Cell) : ByteArray := tb (txtF (rowF (corner s)) (htOf s - 1).toNat)
set_option maxRecDepth 100000 in
set_option maxHeartbeats 3200000 in
theorem spec_fmtSh_c {v : Value} {s : List Cell} (w : World) (h : CellsRd w 0 w.heap.size v s) (hsh : isShape s = true) :
    Calls Tryz.prog 216 #[v] w fun e w' => e = .returned (.string (fmtSh s)) ∧ Below w.heap.size w w' := by
  have HC := Lib.hid (cornerShape_c w h hsh)
  obtain ⟨A, c, rfl, _, _⟩ := id h
  have HG := Lib.hid (grd_corner hsh)
  have HSH := Lib.hid hsh
  obtain ⟨D, hD⟩ : ∃ D, D = corner s := ⟨_, rfl⟩
  rw [← hD] at HC HG
  have HR : Hid (fmtSh s = tb (txtF (rowF D) (htOf s - 1).toNat)) := Lib.hid (by rw [hD]; rfl)
  have HDD := Lib.hid hD
  obtain ⟨R, hR⟩ : ∃ R, R = fmtSh s := ⟨_, rfl⟩
  rw [← hR] at HR ⊢
  clear h hsh hD hR
  go_enter Tryz.func216, Tryz.ntmps216
  go_wp2_with fail
  refine (HC.out).mono ?_
  rintro e w1 ⟨v1, rfl, o1, b1⟩
  obtain ⟨A1, c1, rfl, _, hr⟩ := o1.rd
  obtain ⟨n, hn⟩ : ∃ n, n = D.length := ⟨_, rfl⟩
  rw [← hn] at hr ⊢
  have HN := Lib.hid hn
  obtain ⟨b, off, hA1, _, hb, hc⟩ := hr.2 (by have := HG.out.len; omega)
  subst hA1
  have HCE := Lib.hid hc
  have hn8 : n ≤ 8 := by have := HG.out.len; omega
  have hn1 : 1 ≤ n := by have := HG.out.len; omega
  clear hr hc hn o1 HC
  go_wp2
  go_loopw [4, 5, 6, 7] (fun tv xv yv iv wx => ∃ (i x y : Nat) (T : List UInt8), i ≤ n ∧ iv = .int .i64 i ∧ xv = .int .i64 x ∧ yv = .int .i64 y ∧ tv = .string (tb T) ∧ x ≤ 8 ∧ y ≤ 7 ∧ Hid (T = txtF (rowF (D.take i)) y) ∧ Hid (x = (rowF (D.take i) y).length) ∧ Hid (∀ c ∈ D.take i, c.y ≤ (y : Int)) ∧ Hid (∀ c, D[i]? = some c → (y : Int) ≤ c.y) ∧ Hid (i = n → (y : Int) = htOf s - 1) ∧ w1 = wx) (fun _ _ _ iv _ => n - (intOf iv).toNat)
  case atStart => exact ⟨0, 0, 0, [], Nat.zero_le _, rfl, rfl, rfl, rfl, by omega, by omega, Lib.hid rfl, Lib.hid rfl, Lib.hid (fun c hc => by simp at hc), Lib.hid (fun c hc => by have := HG.out.on c (List.mem_of_getElem? hc); unfold On at this; omega), Lib.hid (fun h => by omega), rfl⟩
  case round =>
    obtain ⟨i, x, y, T, hi, rfl, rfl, rfl, rfl, hx8, hy7, HT, HX, HY, HYN, HE, rfl⟩ := hrel
    by_cases hlt : i < n
    · have hlti : (i : Int) < (n : Int) := by omega
      obtain ⟨d, hd⟩ : ∃ d, D[i]? = some d := ⟨D[i]'(by rw [← HN.out]; exact hlt), List.getElem?_eq_getElem _⟩
      have hon := HG.out.on d (List.mem_of_getElem? hd)
      unfold On at hon
      have hdy := HYN.out d hd
      obtain ⟨cX, hcX⟩ : ∃ m : Nat, d.x = (m : Int) := ⟨d.x.toNat, by omega⟩
      obtain ⟨cY, hcY⟩ : ∃ m : Nat, d.y = (m : Int) := ⟨d.y.toNat, by omega⟩
      have x1 := HCE.out _ _ (cc_at hd).1
      have x2 : w1.cell? ⟨b, off + i * 2 + 1, none⟩ = some (.int .i64 d.y) := by rw [Nat.add_assoc]; exact HCE.out _ _ (cc_at hd).2
      rw [hcX] at x1
      rw [hcY] at x2
      have hyc : y ≤ cY := by omega
      have hcX7 : cX ≤ 7 := by omega
      have hcY7 : cY ≤ 7 := by omega
      have HD := Lib.hid hd
      have HCX := Lib.hid hcX
      have HCY := Lib.hid hcY
      clear hd hon hdy hcX hcY HYN HE
      go_wp2
      go_loopw [4, 5, 6] (fun tv xv yv wx => ∃ (x y : Nat) (T : List UInt8), xv = .int .i64 x ∧ yv = .int .i64 y ∧ tv = .string (tb T) ∧ x ≤ 8 ∧ y ≤ cY ∧ Hid (T = txtF (rowF (D.take i)) y) ∧ Hid (x = (rowF (D.take i) y).length) ∧ Hid (∀ c ∈ D.take i, c.y ≤ (y : Int)) ∧ w1 = wx) (fun _ _ yv _ => cY - (intOf yv).toNat)
      case atStart => exact ⟨x, y, T, rfl, rfl, rfl, hx8, hyc, HT, HX, HY, rfl⟩
      case round =>
        clear HT HX HY hx8 hyc hy7
        obtain ⟨x, y, T, rfl, rfl, rfl, hx8, hyc, HT, HX, HY, rfl⟩ := hrel
        have hTl : (tb T).size ≤ 80 := by
          rw [tb_size, HT.out]
          have := txtF_len (f := rowF (D.take i)) (fun k => rowF_8 HG.out (by rw [← HN.out]; omega)) y
          omega
        have hs1 : ¬ 9223372036854775807 < (tb T).size + 1 := by omega
        by_cases hy : y < cY
        · have hyi : (y : Int) < (cY : Int) := by omega
          have HT2 : Hid (T ++ [47] = txtF (rowF (D.take i)) (y + 1)) := Lib.hid (by
            rw [HT.out, txtF_next (rowF_none fun c hc => by have := HY.out c hc; omega)])
          have HX2 : Hid (0 = (rowF (D.take i) (y + 1)).length) := Lib.hid (by
            have : rowF (D.take i) (y + 1) = [] := rowF_none fun c hc => by have := HY.out c hc; omega
            rw [this]; rfl)
          have HY2 : Hid (∀ c ∈ D.take i, c.y ≤ ((y + 1 : Nat) : Int)) := Lib.hid fun c hc => by have := HY.out c hc; omega
          go_wp2
          go_roundw
          case rel => exact ⟨0, y + 1, T ++ [47], rfl, by go_num, congrArg Value.string (tb_app (a := T) (b := [47])), by omega, by omega, HT2, HX2, HY2, trivial⟩
          case measure => simp [intOf]; omega
        · obtain rfl : y = cY := by omega
          have HXL : Hid (x ≤ cX) := Lib.hid (by
            have := rowF_le HG.out HD.out HCY.out
            rw [← HX.out] at this
            have := HCX.out
            omega)
          have hxl := HXL.out
          clear hs1
          go_wp2
          go_loopw [4, 5] (fun tv xv wx => ∃ (e : Nat), xv = .int .i64 ((x + e : Nat) : Int) ∧ tv = .string (tb (T ++ List.replicate e 46)) ∧ x + e ≤ cX ∧ w1 = wx) (fun _ xv _ => cX - (intOf xv).toNat)
          case atStart => exact ⟨0, rfl, by simp, by omega, rfl⟩
          case round =>
            obtain ⟨e, rfl, rfl, hxe, rfl⟩ := hrel
            have hT2 : (tb (T ++ List.replicate e 46)).size ≤ 90 := by
              rw [tb_size] at hTl ⊢
              rw [List.length_append, List.length_replicate]
              omega
            have hs1 : ¬ 9223372036854775807 < (tb (T ++ List.replicate e 46)).size + 1 := by omega
            by_cases hx : x + e < cX
            · have hxi : ((x + e : Nat) : Int) < (cX : Int) := by omega
              have HS : Hid (tb (T ++ List.replicate e 46) ++ ⟨#[46]⟩ = tb (T ++ List.replicate (e + 1) 46)) := Lib.hid (by
                rw [List.replicate_succ', ← List.append_assoc]
                exact tb_app (b := [46]))
              generalize tb (T ++ List.replicate e 46) = U at *
              obtain ⟨z, hz⟩ : ∃ z : Nat, z = x + e := ⟨_, rfl⟩
              rw [← hz] at hxi hxe hx ⊢
              have HZ := Lib.hid hz
              clear hz
              go_wp2
              go_roundw
              case rel => exact ⟨e + 1, by have := HZ.out; go_num, by rw [HS.out], by have := HZ.out; omega, trivial⟩
              case measure => simp [intOf]; omega
            · have hze : x + e = cX := by omega
              have HNT : Hid (T ++ List.replicate e 46 ++ [35] = txtF (rowF (D.take (i + 1))) y) := Lib.hid (by
                have h1 := rowF_take (k := y) HD.out
                rw [if_pos HCY.out] at h1
                have h2 := txtF_add (f := rowF (D.take i)) (g := rowF (D.take (i + 1))) (y := y) (e := List.replicate (d.x.toNat - (rowF (D.take i) y).length) 46 ++ [35]) (fun k hk => by
                  rw [rowF_take HD.out, if_neg (by have := HCY.out; omega)]) h1
                rw [h2, ← HT.out, ← HX.out]
                have : d.x.toNat - x = e := by have := HCX.out; omega
                rw [this, List.append_assoc])
              have HNX : Hid (cX + 1 = (rowF (D.take (i + 1)) y).length) := Lib.hid (by
                rw [rowF_take HD.out, if_pos HCY.out, List.length_append, List.length_append, List.length_replicate, ← HX.out]
                have := HCX.out
                simp only [List.length_cons, List.length_nil]
                omega)
              have HNY : Hid (∀ c ∈ D.take (i + 1), c.y ≤ (y : Int)) := Lib.hid fun c hc => by
                rw [List.take_add_one, HD.out] at hc
                rcases List.mem_append.1 hc with hc | hc
                · exact HY.out c hc
                · simp at hc
                  subst hc
                  have := HCY.out
                  omega
              have HNN : Hid (∀ c, D[i + 1]? = some c → (y : Int) ≤ c.y) := Lib.hid fun c hc => by
                obtain ⟨hi', rfl⟩ := List.getElem?_eq_some_iff.1 hc
                obtain ⟨hi2, hdd⟩ := List.getElem?_eq_some_iff.1 HD.out
                have := bef_iff.1 (List.pairwise_iff_getElem.1 HG.out.srt i (i + 1) hi2 hi' (by omega))
                rw [hdd] at this
                have := HCY.out
                omega
              have HNE : Hid (i + 1 = n → (y : Int) = htOf s - 1) := Lib.hid fun hin => by
                have hdm : d ∈ corner s := by rw [← HDD.out]; exact List.mem_of_getElem? HD.out
                have h1 := (corner_lt hdm).2
                have h2 := mxTo_le (f := (·.y)) (l := corner s) (m := (y : Int) + 1) (fun c hc => by
                  rw [← HDD.out] at hc
                  have : D.take (i + 1) = D := by rw [hin, HN.out, List.take_length]
                  have := HNY.out c (by rw [this]; exact hc)
                  omega) (by omega) (corner s).length (Nat.le_refl _)
                have := HCY.out
                unfold htOf at *
                omega
              have HS : Hid (tb (T ++ List.replicate e 46) ++ ⟨#[35]⟩ = tb (T ++ List.replicate e 46 ++ [35])) := Lib.hid (tb_app (b := [35]))
              generalize tb (T ++ List.replicate e 46) = U at *
              rw [hze]
              clear hze
              go_wp2
              go_roundw
              case rel => exact ⟨i + 1, cX + 1, y, _, by omega, by go_num, by go_num, rfl, by rw [HS.out], by omega, by omega, HNT, HNX, HNY, HNN, HNE, trivial⟩
              case measure => simp [intOf]; omega
    · obtain rfl : i = n := by omega
      have HRR : Hid (R = tb T) := Lib.hid (by
        have h1 := HE.out rfl
        rw [HR.out, HT.out, HN.out, List.take_length]
        congr 2
        omega)
      go_wp2
      go_ret
      exact ⟨by rw [HRR.out]; rfl, b1⟩
end Go.Proofs.YtfildenelgbmlaaGreatDoor

namespace Go.Proofs.YtfildenelgbmlaaGreatDoor
open Go.RowKit

end Go.Proofs.YtfildenelgbmlaaGreatDoor

namespace Go.Proofs.YtfildenelgbmlaaGreatDoor
open Go.RowKit

/-! plain: a shape's text is read -/
def psStep (s : List Cell × Nat × Nat) (c : UInt8) : List Cell × Nat × Nat :=
  if c = 35 then (s.1 ++ [⟨(s.2.1 : Int), (s.2.2 : Int)⟩], s.2.1 + 1, s.2.2) else if c = 46 then (s.1, s.2.1 + 1, s.2.2) else (s.1, 0, s.2.2 + 1)
def psTo (t : List UInt8) (k : Nat) : List Cell × Nat × Nat := (t.take k).foldl psStep ([], 0, 0)
def psS (t : List UInt8) : List Cell := (psTo t t.length).1
def psC (c : UInt8) : Prop := c = 35 ∨ c = 46 ∨ c = 47
instance (c : UInt8) : Decidable (psC c) := by unfold psC; infer_instance
theorem psTo_succ {t : List UInt8} {k : Nat} {c : UInt8} (h : t[k]? = some c) : psTo t (k + 1) = psStep (psTo t k) c := by
  unfold psTo
  rw [List.take_add_one, h, List.foldl_append]
  rfl
theorem psTo_bd {t : List UInt8} : ∀ k, k ≤ t.length → (psTo t k).1.length ≤ k ∧ (psTo t k).2.1 ≤ k ∧ (psTo t k).2.2 ≤ k
  | 0, _ => by simp [psTo]
  | k + 1, h => by
    have ih := psTo_bd (t := t) k (by omega)
    rw [psTo_succ (List.getElem?_eq_getElem (show k < t.length by omega))]
    unfold psStep
    split
    · simp only [List.length_append, List.length_singleton]; omega
    · split
      · simp only []; omega
      · simp only []; omega
/-- the twelve names and their texts -/
def names12 : List (ByteArray × ByteArray) := [(⟨#[73, 50]⟩, ⟨#[35, 35]⟩), (⟨#[73, 51]⟩, ⟨#[35, 35, 35]⟩), (⟨#[86, 51]⟩, ⟨#[35, 35, 47, 35]⟩), (⟨#[73, 52]⟩, ⟨#[35, 35, 35, 35]⟩), (⟨#[76, 52]⟩, ⟨#[35, 35, 35, 47, 35]⟩), (⟨#[84, 52]⟩, ⟨#[35, 35, 35, 47, 46, 35]⟩),
  (⟨#[83, 52]⟩, ⟨#[46, 35, 35, 47, 35, 35]⟩), (⟨#[79, 52]⟩, ⟨#[35, 35, 47, 35, 35]⟩), (⟨#[88, 53]⟩, ⟨#[46, 35, 47, 35, 35, 35, 47, 46, 35]⟩), (⟨#[80, 53]⟩, ⟨#[35, 35, 47, 35, 35, 47, 35]⟩), (⟨#[87, 53]⟩, ⟨#[35, 47, 35, 35, 47, 46, 35, 35]⟩), (⟨#[85, 53]⟩, ⟨#[35, 46, 35, 47, 35, 35, 35]⟩)]
theorem names_ok : ∀ p ∈ names12, (∀ c ∈ p.2.data.toList, psC c) ∧ isShape (psS p.2.data.toList) = true ∧ fmtSh (psS p.2.data.toList) = p.2 ∧ 1 ≤ p.2.data.size ∧ p.2.data.size ≤ 70 := by
  intro p hp
  simp only [names12, List.mem_cons, List.not_mem_nil, or_false] at hp
  rcases hp with rfl | rfl | rfl | rfl | rfl | rfl | rfl | rfl | rfl | rfl | rfl | rfl <;> exact ⟨by decide +kernel, by decide +kernel, by decide +kernel, by decide, by decide⟩
set_option maxRecDepth 100000 in
theorem l4Names_c (w : World) : Calls Tryz.prog 171 #[] w fun e w' => ∃ v, e = .returned v ∧ Sep w w' [Res.row v 9 1 12 (names12.map fun p => .string p.1)] := by
  go_enter Tryz.func171, Tryz.ntmps171
  go_wp2
  go_ret
  exact ⟨_, rfl, (Sep.start w).rowBox 9 #[.string ⟨#[73, 50]⟩, .string ⟨#[73, 51]⟩, .string ⟨#[86, 51]⟩, .string ⟨#[73, 52]⟩, .string ⟨#[76, 52]⟩, .string ⟨#[84, 52]⟩, .string ⟨#[83, 52]⟩, .string ⟨#[79, 52]⟩, .string ⟨#[88, 53]⟩, .string ⟨#[80, 53]⟩, .string ⟨#[87, 53]⟩, .string ⟨#[85, 53]⟩] 1 12 rfl (by decide)⟩
set_option maxRecDepth 100000 in
set_option maxHeartbeats 1600000 in
theorem spec_parse_c {T : List UInt8} (w : World) (hc : ∀ c ∈ T, psC c) (hs : isShape (psS T) = true) (hf : fmtSh (psS T) = tb T) (h1 : 1 ≤ T.length) (h70 : T.length ≤ 70) :
    Calls Tryz.prog 203 #[.string (tb T)] w fun e w' => ∃ v, e = .returned (.tuple #[v, .bool true]) ∧ CellsIn w' w.heap.size w'.heap.size v (psS T) ∧ Below w.heap.size w w' := by
  obtain ⟨i0, hi, hz0, hz1, hz2⟩ := info_parts infoCell
  have H := (Sep.start w).rowBox 96 #[] 2 0 rfl (by decide)
  have hsz : (tb T).size = T.length := tb_size
  obtain ⟨B, hB⟩ : ∃ B, B = tb T := ⟨_, rfl⟩
  rw [← hB] at hsz hf ⊢
  have HB := Lib.hid hB
  clear hB
  go_enter Tryz.func203, Tryz.ntmps203
  go_wp2
  go_loopw [4, 5, 6, 7] (fun ov xv yv iv wr => ∃ k : Nat, k ≤ T.length ∧ iv = .int .i64 k ∧ xv = .int .i64 ((psTo T k).2.1 : Nat) ∧ yv = .int .i64 ((psTo T k).2.2 : Nat) ∧ Sep w wr [Res.row ov 96 2 (psTo T k).1.length (cc (psTo T k).1)]) (fun _ _ _ iv _ => T.length - (intOf iv).toNat)
  case atStart => exact ⟨0, Nat.zero_le _, rfl, rfl, rfl, H⟩
  case round =>
    clear H
    obtain ⟨k, hk, rfl, rfl, rfl, H⟩ := hrel
    by_cases hlt : k < T.length
    · have hbd := psTo_bd k hk
      have hst := psTo_succ (List.getElem?_eq_getElem hlt)
      have hcc := hc _ (List.getElem_mem hlt)
      have hk2 : k < B.size := by omega
      have hBk : B[k]'hk2 = T[k] := by
        have hb := HB.out
        subst hb
        rfl
      generalize T[k] = c at *
      unfold psStep at hst
      generalize (psTo T k).1 = L at *
      generalize (psTo T k).2.1 = x at *
      generalize (psTo T k).2.2 = y at *
      have hL71 : L.length ≤ 70 := by omega
      have hx71 : x ≤ 70 := by omega
      have hy71 : y ≤ 70 := by omega
      have HST := Lib.hid hst
      clear hst hbd
      obtain ⟨A, ca, rfl, hrl, hrm, _⟩ := Res.row_at H.h0
      rcases hcc with rfl | rfl | rfl
      · have hbn : ((B[k]'hk2).toNat : Int) = 35 := by rw [hBk]; rfl
        have e : Hid (psTo T (k + 1) = (L ++ [⟨(x : Int), (y : Int)⟩], x + 1, y)) := Lib.hid (by rw [HST.out]; rfl)
        clear hBk
        go_wp2_with (at_builtin; refine wpList_app rfl _ _ 24 rfl 96 i0 _ 2 16 Tryz.underlying24 hi hz0 hz1 hz2 rfl (by decide) _ _ _ rfl (H.alloc _) _ _ _ [.int .i64 (x : Int), .int .i64 (y : Int)] rfl (Rd.fresh wr _ #[.int .i64 (x : Int), .int .i64 (y : Int)] 2 1 rfl) oc2 (by unfold maxLen; omega) (by omega) ?_; intro v' w4 H4)
        have H5 : Sep w w4 [Res.row v' 96 2 (psTo T (k + 1)).1.length (cc (psTo T (k + 1)).1)] := by
          rw [e.out]
          simp only [cc_append, List.length_append]
          exact H4
        clear H4 H
        go_wp2
        go_roundw
        case rel => exact ⟨k + 1, by omega, by go_num, by rw [e.out]; go_num, by rw [e.out], H5⟩
        case measure => simp [intOf]; omega
      · have hbn : ((B[k]'hk2).toNat : Int) = 46 := by rw [hBk]; rfl
        have e : Hid (psTo T (k + 1) = (L, x + 1, y)) := Lib.hid (by rw [HST.out]; rfl)
        clear hBk
        go_wp2
        go_roundw
        case rel => exact ⟨k + 1, by omega, by go_num, by rw [e.out]; go_num, by rw [e.out], by rw [e.out]; exact H⟩
        case measure => simp [intOf]; omega
      · have hbn : ((B[k]'hk2).toNat : Int) = 47 := by rw [hBk]; rfl
        have e : Hid (psTo T (k + 1) = (L, 0, y + 1)) := Lib.hid (by rw [HST.out]; rfl)
        clear hBk
        go_wp2
        go_roundw
        case rel => exact ⟨k + 1, by omega, by go_num, by rw [e.out]; go_num, by rw [e.out]; go_num, by rw [e.out]; exact H⟩
        case measure => simp [intOf]; omega
    · obtain rfl : k = T.length := by omega
      have hS : (psTo T T.length).1 = psS T := rfl
      rw [hS] at H
      have hB0 : ¬ B = ⟨#[]⟩ := fun e => by rw [e] at hsz; have : (0 : Nat) = T.length := hsz; omega
      have hB4 : ¬ B.toList = [] := fun e => by
        rw [Lib.toList_data] at e
        have h0 : B.data.toList.length = 0 := by rw [e]; rfl
        rw [Array.length_toList] at h0
        have h2 : B.data.size = T.length := hsz
        omega
      have hB5 : B.toList.isEmpty = false := by
        cases hb : B.toList with
        | nil => exact absurd hb hB4
        | cons _ _ => rfl
      have HF := Lib.hid hf
      obtain ⟨A, ca, rfl, hrl, hrm, _⟩ := Res.row_at H.h0
      clear hS hf
      go_wp2_with fail
      refine (spec_fmtSh_c wr (H.oi.sr.more (Nat.zero_le _) (Nat.le_refl _)) hs).mono ?_
      rintro e w3 ⟨rfl, b3⟩
      rw [HF.out]
      have H3 := H.step b3
      clear b3 H
      go_wp2
      exact bodyPost_ret (v := .tuple #[.slice A (psS T).length ca, .bool true]) (by simp [results, Tryz.results203, go_sem]) rfl ⟨_, rfl, H3.oi, H3.below⟩
end Go.Proofs.YtfildenelgbmlaaGreatDoor

namespace Go.Proofs.YtfildenelgbmlaaGreatDoor
open Go.RowKit

theorem Cur.map {w0 w w' : World} {g : Nat} {l : List UInt8} {L L' : List Res} (h : Cur w0 w g l L) (f : ∀ X, Sep w0 w (X :: L) → Sep w0 w' (X :: L')) : Cur w0 w' g l L' := by
  obtain ⟨A, c, i, hh, h1, h2, h3, h4, h5, H⟩ := h
  exact ⟨A, c, i, hh, h1, h2, h3, h4, h5, f _ H⟩
theorem Reg.less_valid {r : Reg} (hv : r.Valid) {x y : Int} : (r.less x y).Valid ∧ (r.less x y).w = r.w := by
  unfold Reg.less
  split
  · rename_i h
    simp only [Reg.isIn, Bool.and_eq_true] at h
    by_cases hc : 0 ≤ x ∧ x < r.w ∧ 0 ≤ y ∧ y < r.rows.length
    · exact ⟨Reg.flip_valid hv (by omega), rfl⟩
    · rw [Reg.has_out hc] at h; cases h.2
  · exact ⟨hv, rfl⟩

set_option maxRecDepth 100000 in
set_option maxHeartbeats 800000 in
theorem l1Pick_c {g b n : Nat} {l : List UInt8} {w0 w : World} {L : List Res} {xs : List Int} (hn : xs.length = n) (h1 : 1 ≤ n) (h2 : n ≤ 1000) (H : Cur w0 w g l (Res.row (.slice (some ⟨b, 0, none⟩) n n) 3 1 n (ic xs) :: L)) :
    Calls Tryz.prog 135 #[.pointer (some ⟨g, 0, none⟩), .slice (some ⟨b, 0, none⟩) n n] w fun e w' => ∃ x : Int, e = .returned (.int .i64 x) ∧ x ∈ xs ∧ Cur w0 w' g l (Res.row (.slice (some ⟨b, 0, none⟩) n n) 3 1 n (ic xs) :: L) := by
  go_enter Tryz.func135, Tryz.ntmps135
  go_wp2_with fail
  refine (l1Below_c (n : Int) H (by omega)).mono ?_
  rintro e w1 ⟨x, rfl, hx1, hx2, hx3, H1⟩
  have hxn := hx2 (by omega)
  obtain ⟨k, rfl⟩ := Int.eq_ofNat_of_zero_le hx1
  have hk : k < xs.length := by omega
  have r0 := own_cell1 H1.sep.h0 (List.getElem?_eq_getElem hk)
  simp only [Nat.zero_add] at r0
  have hmem := List.getElem_mem hk
  generalize xs[k] = a at *
  clear hx2 hx3 H
  go_wp2
  go_ret
  exact ⟨a, rfl, hmem, H1⟩

set_option maxRecDepth 100000 in
set_option maxHeartbeats 1600000 in
theorem l6DrawM_c (mo : Int) (hm1 : 1 ≤ mo) (hm5 : mo ≤ 5) {g : Nat} {l : List UInt8} {w0 w : World} {L : List Res} (H : Cur w0 w g l L) :
    Calls Tryz.prog 88 #[.pointer (some ⟨g, 0, none⟩), .int .i64 mo] w fun e w' => ∃ (r : Reg) (A : Option Addr) (c : Nat), e = .returned (.agg #[.int .i64 r.w, .slice A r.rows.length c]) ∧ r.Valid ∧
      Cur w0 w' g l (Res.row (.slice A r.rows.length c) 3 1 r.rows.length (ic r.rows) :: L) := by
  have H0 := H.map (fun X h => (h.box 36 #[.int .i64 0, .slice none 0 0]).g1)
  clear H
  go_enter Tryz.func88, Tryz.ntmps88
  go_wp2_with fail
  obtain ⟨gz, hgz⟩ : ∃ gz : World, gz = w := ⟨_, rfl⟩
  subst hgz
  generalize gz.alloc (.cells #[.int .i64 0, .slice none 0 0] 36) = W at *
  refine (l1Below_c mo H0 (by omega)).mono ?_
  rintro e w1 ⟨x, rfl, hx1, hx2, hx3, H1⟩
  have hx5 := hx2 (by omega)
  clear hx2 hx3 H0
  go_wp2_with fail
  refine (l1Below_c mo H1 (by omega)).mono ?_
  rintro e w2 ⟨y, rfl, hy1, hy2, hy3, H2⟩
  have hy5 := hy2 (by omega)
  clear hy2 hy3 H1
  obtain ⟨a, ha⟩ : ∃ a : Nat, (a : Int) = 1 + x := ⟨(1 + x).toNat, by omega⟩
  obtain ⟨b, hb⟩ : ∃ b : Nat, (b : Int) = 1 + y := ⟨(1 + y).toNat, by omega⟩
  go_wp2_with fail
  rw [← ha, ← hb]
  have HA := Lib.hid ha
  have HB := Lib.hid hb
  have hab : 1 ≤ a ∧ a ≤ 5 ∧ 1 ≤ b ∧ b ≤ 5 := by omega
  clear ha hb
  refine (rect_c a b w2 ⟨hab.1, by omega⟩ ⟨hab.2.2.1, by omega⟩).mono ?_
  rintro e w3 ⟨A, c, rfl, o3, b3⟩
  obtain ⟨r, hr⟩ : ∃ r : Reg, r = ⟨(a : Int), List.replicate b (2 ^ a - 1)⟩ := ⟨_, rfl⟩
  have hv : r.Valid := by
    rw [hr]
    refine ⟨by simp only; omega, by simp only; omega, by simp; omega, by simp; omega, fun q hq => ?_⟩
    simp only [List.mem_replicate] at hq
    rw [hq.2]
    have := pow_le_64 (wn := a) (by omega)
    simp only [Int.toNat_natCast]
    omega
  have hl : r.rows.length = b := by rw [hr]; simp
  have hw : (a : Int) = r.w := by rw [hr]
  have hrows : List.replicate b ((2 : Int) ^ a - 1) = r.rows := by rw [hr]
  rw [hrows] at o3
  rw [← hl] at o3 ⊢
  rw [hw]
  have H3 := H2.map (fun X h => ((h.oiNew b3 o3).box 36 #[.int .i64 r.w, .slice A r.rows.length c]).g2)
  clear H2 b3 o3 hrows hl hw hr
  go_wp2_with fail
  generalize w3.alloc (.cells #[.int .i64 r.w, .slice A r.rows.length c] 36) = w4 at *
  refine (l1Below_c 3 H3 (by omega)).mono ?_
  rintro e w5 ⟨n, rfl, hn1, hn2, hn3, H5⟩
  have hn5 := hn2 (by omega)
  have hv2 := hv.2.1
  have hv4 := hv.2.2.2.1
  clear hn2 hn3 H3
  go_wp2
  go_loopw [8] (fun nv wr => ∃ (k : Int) (r : Reg) (A : Option Addr) (c : Nat), nv = .int .i64 k ∧ 0 ≤ k ∧ k ≤ 2 ∧ r.Valid ∧ Cur w0 wr g l (Res.box w3.heap.size 36 #[.int .i64 r.w, .slice A r.rows.length c] :: Res.row (.slice A r.rows.length c) 3 1 r.rows.length (ic r.rows) :: Res.box gz.heap.size 36 #[.int .i64 0, .slice none 0 0] :: L)) (fun nv _ => (intOf nv).toNat)
  case atStart => exact ⟨n, r, A, c, rfl, hn1, by omega, hv, H5⟩
  case round =>
    clear H5 hv hv2 hv4
    obtain ⟨k, r, A, c, rfl, hk0, hk2, hv, H⟩ := hrel
    have hv1 := hv.1
    have hv2 := hv.2.1
    have hv4 := hv.2.2.2.1
    have x0 := H.sep.h0.cell 0
    have x1 := H.sep.h0.cell 1
    simp at x0 x1
    by_cases hk : 0 < k
    · have HV := Lib.hid hv
      clear hv
      go_wp2_with fail
      clear x0 x1
      refine (l1Below_c r.w H (by omega)).mono ?_
      rintro e w6 ⟨x, rfl, hx1, hx2, hx3, H6⟩
      have x0 := H6.sep.h0.cell 0
      have x1 := H6.sep.h0.cell 1
      simp at x0 x1
      have hx5 := hx2 (by omega)
      clear hx2 hx3 H
      go_wp2_with fail
      go_region_with ((first
        | (go_at_call 146; refine (l1Below_c (r.rows.length : Int) (by exact H6.map (fun X h => h.drew)) (by omega)).mono ?_; rintro e w7 ⟨y, rfl, hy1, hy2, hy3, H7⟩; have z0 := H7.sep.h0.cell 0; have z1 := H7.sep.h0.cell 1; have f0 := H7.sep.h0.frozen 0; have f1 := H7.sep.h0.frozen 1; simp at z0 z1; clear hy2 hy3)
        | (go_at_call 127; refine (spec_remove_c (r := r) x y w7 ⟨_, rfl, (H7.sep.g1.oi.sr).more (Nat.zero_le _) (Nat.le_refl _)⟩ (by omega)).mono ?_; rintro e w8 ⟨v8, rfl, ⟨s8, rfl, o8⟩, b8⟩; obtain ⟨A8, c8, rfl, _, _⟩ := o8.rd; have H8 := H7.map (fun X h => (h.oiNew b8 o8).g1); have q0 := H8.sep.h1.cell 0; have q1 := H8.sep.h1.cell 1; have p0 := H8.sep.h1.frozen 0; have p1 := H8.sep.h1.frozen 1; simp at q0 q1)))
      all_goals
        have H9 := H8.map (fun X h => (((h.g2.set_ 0 (.int .i64 (r.less x y).w)).set_ 1 (.slice A8 (r.less x y).rows.length c8)).g3.drop).g1)
        have hlv := Reg.less_valid HV.out (x := x) (y := y)
        obtain ⟨r', hr'⟩ : ∃ r', r' = r.less x y := ⟨_, rfl⟩
        rw [← hr'] at H9 hlv ⊢
        have HLV := Lib.hid hlv.1
        clear hr' hlv x0 x1 z0 z1 f0 f1 q0 q1 p0 p1 H8 H7 H6 o8 b8
        go_wp2
        go_roundw
        case rel => exact ⟨k - 1, r', A8, c8, rfl, by omega, by omega, HLV.out, H9⟩
        case measure => simp [intOf]; omega
    · have z0 := H.sep.h2.cell 0
      have z1 := H.sep.h2.cell 1
      have f0 := H.sep.h2.frozen 0
      have f1 := H.sep.h2.frozen 1
      simp at z0 z1
      have H6 := H.sep.g2.set_ 0 (.int .i64 r.w) |>.set_ 1 (.slice A r.rows.length c)
      have u0 := H6.h0.cell 0
      have u1 := H6.h0.cell 1
      simp at u0 u1
      have H7 := H.map (fun X h => ((h.g3.set_ 0 (.int .i64 r.w)).set_ 1 (.slice A r.rows.length c)).drop.g1.drop)
      have HV := Lib.hid hv
      clear hv H6
      go_wp2
      exact bodyPost_ret (v := .agg #[.int .i64 r.w, .slice A r.rows.length c]) (by simp [results, Tryz.results88, go_sem, u0, u1]) rfl ⟨r, A, c, rfl, HV.out, H7⟩
set_option maxRecDepth 100000 in
theorem l6Draw_c {g : Nat} {l : List UInt8} {w0 w : World} {L : List Res} (H : Cur w0 w g l L) :
    Calls Tryz.prog 88 #[.pointer (some ⟨g, 0, none⟩), .int .i64 5] w fun e w' => ∃ (r : Reg) (A : Option Addr) (c : Nat), e = .returned (.agg #[.int .i64 r.w, .slice A r.rows.length c]) ∧ r.Valid ∧
      Cur w0 w' g l (Res.row (.slice A r.rows.length c) 3 1 r.rows.length (ic r.rows) :: L) := l6DrawM_c 5 (by omega) (by omega) H
end Go.Proofs.YtfildenelgbmlaaGreatDoor

namespace Go.Proofs.YtfildenelgbmlaaGreatDoor
open Go.RowKit

set_option maxRecDepth 100000 in
set_option maxHeartbeats 1600000 in
theorem pieceNamed_c (w : World) (p : ByteArray × ByteArray) (hp : p ∈ names12) :
    Calls Tryz.prog 172 #[.string p.1] w fun e w' => ∃ v, e = .returned (.tuple #[v, .bool true]) ∧ CellsIn w' w.heap.size w'.heap.size v (psS p.2.data.toList) ∧ Below w.heap.size w w' := by
  have HP : Hid (Calls Tryz.prog 203 #[.string p.2] w fun e w' => ∃ v, e = .returned (.tuple #[v, .bool true]) ∧ CellsIn w' w.heap.size w'.heap.size v (psS p.2.data.toList) ∧ Below w.heap.size w w') := Lib.hid (by
    obtain ⟨h1, h2, h3, h4, h5⟩ := names_ok p hp
    have e : tb p.2.data.toList = p.2 := rfl
    have := spec_parse_c (T := p.2.data.toList) w h1 h2 (by rw [e]; exact h3) (by rw [Array.length_toList]; exact h4) (by rw [Array.length_toList]; exact h5)
    rw [e] at this
    exact this)
  obtain ⟨S, hS⟩ : ∃ S, S = psS p.2.data.toList := ⟨_, rfl⟩
  rw [← hS] at HP ⊢
  clear hS
  simp only [names12, List.mem_cons, List.not_mem_nil, or_false] at hp
  rcases hp with rfl | rfl | rfl | rfl | rfl | rfl | rfl | rfl | rfl | rfl | rfl | rfl
  all_goals
    dsimp only at HP ⊢
    go_enter Tryz.func172, Tryz.ntmps172
    go_wp2_with fail
    refine (HP.out).mono ?_
    rintro e w3 ⟨v, rfl, o, b⟩
    go_wp2
    exact bodyPost_ret (v := .tuple #[v, .bool true]) (by simp [results, Tryz.results172, go_sem]) rfl ⟨_, rfl, o, b⟩
set_option maxRecDepth 100000 in
set_option maxHeartbeats 1600000 in
theorem l4Piece_c {g : Nat} {l : List UInt8} {w0 w : World} {L : List Res} (H : Cur w0 w g l L) :
    Calls Tryz.prog 128 #[.pointer (some ⟨g, 0, none⟩)] w fun e w' => ∃ v s, e = .returned v ∧ isShape s = true ∧ s.length ≤ 8 ∧ Cur w0 w' g l (Res.row v 96 2 s.length (cc s) :: L) := by
  go_enter Tryz.func128, Tryz.ntmps128
  go_wp2_with fail
  refine (l4Names_c w).mono ?_
  rintro e w1 ⟨v, rfl, h1⟩
  have H1 := H.map (fun X h => (h.oiNew h1.below h1.oi).g1)
  clear H
  obtain ⟨A, c, rfl, hrl, hrm, _⟩ := Res.row_at h1.h0
  clear h1
  go_wp2_with fail
  refine (l1Below_c 12 H1 (by omega)).mono ?_
  rintro e w2 ⟨x, rfl, hx0, hx1, _, H2⟩
  obtain ⟨k, rfl⟩ : ∃ k : Nat, x = (k : Int) := ⟨x.toNat, by omega⟩
  have hk : k < 12 := by have := hx1 (by omega); omega
  clear hx0 hx1 H1
  obtain ⟨A', c', e5, _, _, hrd⟩ := Res.row_at H2.sep.h0
  injection e5 with e5 e6 e7
  subst e5
  obtain ⟨b, off, p, rfl, _, hb, hla, q1⟩ := Rd.at1 (l := names12) (f := fun p : ByteArray × ByteArray => .string p.1) hrd hk
  have hp := List.mem_of_getElem? hla
  have HOK := Lib.hid (names_ok p hp)
  have HP := Lib.hid (pieceNamed_c w2 p hp)
  clear hla hrd
  obtain ⟨S, hS⟩ : ∃ S, S = psS p.2.data.toList := ⟨_, rfl⟩
  rw [← hS] at HP HOK
  clear hS hp
  go_wp2_with fail
  refine (HP.out).mono ?_
  rintro e w3 ⟨v, rfl, o3, b3⟩
  have H3 := H2.map (fun X h => (h.oiNew b3 o3).g1)
  clear H2 o3 b3 q1
  go_wp2
  go_ret
  exact ⟨_, S, rfl, HOK.out.2.1, (shp_len HOK.out.2.1).2, H3.map (fun X h => h.g2.drop)⟩
end Go.Proofs.YtfildenelgbmlaaGreatDoor

namespace Go.Proofs.YtfildenelgbmlaaGreatDoor
open Go.RowKit

/-- a drawn region: its box, its rows -/
def DrawnR (r : Reg) : Prop := 1 ≤ r.rows.length ∧ r.rows.length ≤ 20
set_option maxRecDepth 100000 in
set_option maxHeartbeats 3200000 in
theorem l6Any_c {g : Nat} {l : List UInt8} {w0 w : World} {L : List Res} (H : Cur w0 w g l L) :
    Calls Tryz.prog 87 #[.pointer (some ⟨g, 0, none⟩)] w fun e w' => ∃ (r : Reg) (A : Option Addr) (c : Nat), e = .returned (.agg #[.int .i64 r.w, .slice A r.rows.length c]) ∧ DrawnR r ∧
      Cur w0 w' g l (Res.row (.slice A r.rows.length c) 3 1 r.rows.length (ic r.rows) :: L) := by
  obtain ⟨j0, hj0, hy0, hy1, hy2⟩ := info_parts infoIntC
  have H0 := H.map (fun X h => (h.box 36 #[.int .i64 0, .slice none 0 0]).g1)
  clear H
  go_enter Tryz.func87, Tryz.ntmps87
  go_wp2_with fail
  obtain ⟨gz, hgz⟩ : ∃ gz : World, gz = w := ⟨_, rfl⟩
  subst hgz
  generalize gz.alloc (.cells #[.int .i64 0, .slice none 0 0] 36) = W at *
  refine (l6Draw_c H0).mono ?_
  rintro e w1 ⟨r, A, c, rfl, hv, H1⟩
  have H2 := H1.map (fun X h => (h.box 36 #[.int .i64 r.w, .slice A r.rows.length c]).g1)
  have hv3 := hv.2.2.1
  have hv4 := hv.2.2.2.1
  clear H0 H1
  go_wp2_with fail
  generalize w1.alloc (.cells #[.int .i64 r.w, .slice A r.rows.length c] 36) = w2 at *
  refine (l1Below_c 14 H2 (by omega)).mono ?_
  rintro e w3 ⟨q, rfl, hq1, hq2, _, H3⟩
  clear H2 hq2
  have HV := Lib.hid hv
  clear hv
  by_cases h0 : q = 0
  · subst h0
    have H4 := H3.map (fun X h => (h.rowBox 3 #[.int .i64 0, .int .i64 7, .int .i64 (-1), .int .i64 2] 1 4 rfl (by decide)).g1)
    go_wp2_with fail
    generalize w3.alloc (.cells #[.int .i64 0, .int .i64 7, .int .i64 (-1), .int .i64 2] 3) = w4 at *
    refine (l1Pick_c (n := 4) (xs := [0, 7, -1, 2]) rfl (by omega) (by omega) H4).mono ?_
    rintro e w5 ⟨x, rfl, hx, H5⟩
    have H6 := H5.map (fun X h => h.g1.drop)
    have x0 := H6.sep.h0.cell 0
    have f0 := H6.sep.h0.frozen 0
    simp at x0
    have H7 := H6.map (fun X h => (h.g1.set_ 0 (.int .i64 x)).p1)
    clear H3 H4 H5 H6 hx
    have z0 : (w5.setCell ⟨w1.heap.size, 0, none⟩ (.int .i64 x)).cell? ⟨gz.heap.size, 0, none⟩ = some (.int .i64 0) := H7.sep.h2.cell 0
    have z1 : (w5.setCell ⟨w1.heap.size, 0, none⟩ (.int .i64 x)).cell? ⟨gz.heap.size, 1, none⟩ = some (.slice none 0 0) := H7.sep.h2.cell 1
    have f0' := H7.sep.h2.frozen 0
    have f1' := H7.sep.h2.frozen 1
    have x0' : (w5.setCell ⟨w1.heap.size, 0, none⟩ (.int .i64 x)).cell? ⟨w1.heap.size, 0, none⟩ = some (.int .i64 (x)) := H7.sep.h0.cell 0
    have x1' : (w5.setCell ⟨w1.heap.size, 0, none⟩ (.int .i64 x)).cell? ⟨w1.heap.size, 1, none⟩ = some (.slice A r.rows.length c) := H7.sep.h0.cell 1
    have He := (H7.sep.g2.set_ 0 (.int .i64 (x))).set_ 1 (.slice A r.rows.length c)
    have u0 := He.h0.cell 0
    have u1 := He.h0.cell 1
    simp at u0 u1
    have Hf := H7.map (fun X h => ((h.g3.set_ 0 (.int .i64 (x))).set_ 1 (.slice A r.rows.length c)).drop.g1.drop)
    clear He
    go_wp2
    exact bodyPost_ret (v := .agg #[.int .i64 x, .slice A r.rows.length c]) (by simp [results, Tryz.results87, go_sem, u0, u1]) rfl ⟨⟨x, r.rows⟩, A, c, rfl, ⟨hv3, by simp only; omega⟩, Hf⟩
  · by_cases h1 : q = 1
    · subst h1
      have x0 := H3.sep.h0.cell 0
      have x1 := H3.sep.h0.cell 1
      simp at x0 x1
      obtain ⟨bo, oo, co, he, _, _, hbo⟩ := own_shape H3.sep.h1 (by omega)
      injection he with he1 _ he3
      subst he1 he3
      have hl0 : (0 : Int) < (r.rows.length : Int) := by omega
      have hgb := H3.sep.h0.lt
      go_wp2_with fail
      go_region_with ((first
        | (go_at_call 135; refine (l1Pick_c (n := 3) (b := w3.heap.size) (xs := [-1, 64, 9223372036854775807]) rfl (by omega) (by omega) (by exact H3.map (fun X h => (h.rowBox 3 #[.int .i64 (-1), .int .i64 64, .int .i64 9223372036854775807] 1 3 rfl (by decide)).drew.g1))).mono ?_; rintro e w5 ⟨x, rfl, hx, H5⟩; have H6 := H5.map (fun X h => h.g1.drop); have r0 := own_cell1 H6.sep.h1 (List.getElem?_eq_getElem (show 0 < r.rows.length by omega)); have fr := own_free H6.sep.h1 0; have x0' := H6.sep.h0.cell 0; have x1' := H6.sep.h0.cell 1; simp at x0' x1'; simp only [Nat.add_zero] at r0 fr)))
      all_goals
        have H7 := H6.map (fun X h => (h.g2.setRow (j := 0) (by rw [ic_length]; omega) (.int .i64 x)).p2)
        rw [ic_set] at H7
        simp only [Nat.add_zero] at H7
        clear x0' x1' r0 fr H6 H5 hx x0 x1
        have z0 : (w5.setCell ⟨bo, oo, none⟩ (.int .i64 x)).cell? ⟨gz.heap.size, 0, none⟩ = some (.int .i64 0) := H7.sep.h2.cell 0
        have z1 : (w5.setCell ⟨bo, oo, none⟩ (.int .i64 x)).cell? ⟨gz.heap.size, 1, none⟩ = some (.slice none 0 0) := H7.sep.h2.cell 1
        have f0' := H7.sep.h2.frozen 0
        have f1' := H7.sep.h2.frozen 1
        have x0' : (w5.setCell ⟨bo, oo, none⟩ (.int .i64 x)).cell? ⟨w1.heap.size, 0, none⟩ = some (.int .i64 (r.w)) := H7.sep.h0.cell 0
        have x1' : (w5.setCell ⟨bo, oo, none⟩ (.int .i64 x)).cell? ⟨w1.heap.size, 1, none⟩ = some (.slice (some ⟨bo, oo, none⟩) r.rows.length c) := H7.sep.h0.cell 1
        have He := (H7.sep.g2.set_ 0 (.int .i64 (r.w))).set_ 1 (.slice (some ⟨bo, oo, none⟩) r.rows.length c)
        have u0 := He.h0.cell 0
        have u1 := He.h0.cell 1
        simp at u0 u1
        have Hf := H7.map (fun X h => ((h.g3.set_ 0 (.int .i64 (r.w))).set_ 1 (.slice (some ⟨bo, oo, none⟩) r.rows.length c)).drop.g1.drop)
        clear He
        go_wp2
        have hls : (r.rows.set 0 x).length = r.rows.length := List.length_set
        refine bodyPost_ret (v := .agg #[.int .i64 r.w, .slice (some ⟨bo, oo, none⟩) r.rows.length c]) (by simp [results, Tryz.results87, go_sem, u0, u1]) rfl ⟨⟨r.w, r.rows.set 0 x⟩, some ⟨bo, oo, none⟩, c, by simp only [hls], ⟨by simp only [hls]; exact hv3, by simp only [hls]; omega⟩, ?_⟩
        simp only [hls]
        exact Hf
    · by_cases h2 : q = 2
      · subst h2
        have x0 := H3.sep.h0.cell 0
        have x1 := H3.sep.h0.cell 1
        have fx := H3.sep.h0.frozen 1
        simp at x0 x1
        obtain ⟨B, cb, ci, ch, e1, e2, e3, e4, e5, HS⟩ := H3
        have hgb := HS.h1.lt
        go_wp2_with (
          at_builtin
          refine wpList_app rfl _ _ 31 rfl 3 j0 _ 1 8 Tryz.underlying31 hj0 hy0 hy1 hy2 rfl (by decide) _ _ _ rfl (HS.alloc _).g2 _ _ _ [.int .i64 1, .int .i64 1, .int .i64 1] rfl (Rd.fresh w3 _ #[.int .i64 1, .int .i64 1, .int .i64 1] 1 3 rfl) (by intro u hu; simp at hu; subst hu; rfl) (by unfold maxLen; omega) (by omega) ?_
          intro v' w5 H5
          obtain ⟨A5, c5, rfl, _, _, _⟩ := Res.row_at H5.h0
          have y1 := H5.p2.h1.cell 1
          have fy := H5.p2.h1.frozen 1
          simp at y1
          have HC : Cur w0 (w5.setCell ⟨w1.heap.size, 1, none⟩ (.slice A5 (r.rows.length + 3) c5)) g l (Res.box w1.heap.size 36 #[.int .i64 r.w, .slice A5 (r.rows.length + 3) c5] :: Res.row (.slice A5 (r.rows.length + 3) c5) 3 1 (r.rows.length + 3) (ic r.rows ++ [.int .i64 1, .int .i64 1, .int .i64 1]) :: Res.box gz.heap.size 36 #[.int .i64 0, .slice none 0 0] :: L) :=
            ⟨B, cb, ci, ch, e1, e2, e3, e4, e5, (H5.p2.g1.set_ 1 (.slice A5 (r.rows.length + 3) c5)).p1⟩
          have z0 : (w5.setCell ⟨w1.heap.size, 1, none⟩ (.slice A5 (r.rows.length + 3) c5)).cell? ⟨gz.heap.size, 0, none⟩ = some (.int .i64 0) := HC.sep.h2.cell 0
          have z1 : (w5.setCell ⟨w1.heap.size, 1, none⟩ (.slice A5 (r.rows.length + 3) c5)).cell? ⟨gz.heap.size, 1, none⟩ = some (.slice none 0 0) := HC.sep.h2.cell 1
          have f0' := HC.sep.h2.frozen 0
          have f1' := HC.sep.h2.frozen 1
          have x0' : (w5.setCell ⟨w1.heap.size, 1, none⟩ (.slice A5 (r.rows.length + 3) c5)).cell? ⟨w1.heap.size, 0, none⟩ = some (.int .i64 (r.w)) := HC.sep.h0.cell 0
          have x1' : (w5.setCell ⟨w1.heap.size, 1, none⟩ (.slice A5 (r.rows.length + 3) c5)).cell? ⟨w1.heap.size, 1, none⟩ = some (.slice A5 (r.rows.length + 3) c5) := HC.sep.h0.cell 1
          have He := (HC.sep.g2.set_ 0 (.int .i64 (r.w))).set_ 1 (.slice A5 (r.rows.length + 3) c5)
          have u0 := He.h0.cell 0
          have u1 := He.h0.cell 1
          simp at u0 u1
          have Hf := HC.map (fun X h => ((h.g3.set_ 0 (.int .i64 (r.w))).set_ 1 (.slice A5 (r.rows.length + 3) c5)).drop.g1.drop)
          clear He
          )
        have hls : (r.rows ++ [1, 1, 1]).length = r.rows.length + 3 := by simp
        refine bodyPost_ret (v := .agg #[.int .i64 r.w, .slice A5 (r.rows.length + 3) c5]) (by simp [results, Tryz.results87, go_sem, u0, u1]) rfl ⟨⟨r.w, r.rows ++ [1, 1, 1]⟩, A5, c5, by simp only [hls], ⟨by simp only [hls]; omega, by simp only [hls]; omega⟩, ?_⟩
        simp only [hls]
        rw [ic_append]
        exact Hf
      · have b0 : (q == 0) = false := by simp [h0]
        have b1 : (q == 1) = false := by simp [h1]
        have b2 : (q == 2) = false := by simp [h2]
        have z0 : (w3).cell? ⟨gz.heap.size, 0, none⟩ = some (.int .i64 0) := H3.sep.h2.cell 0
        have z1 : (w3).cell? ⟨gz.heap.size, 1, none⟩ = some (.slice none 0 0) := H3.sep.h2.cell 1
        have f0' := H3.sep.h2.frozen 0
        have f1' := H3.sep.h2.frozen 1
        have x0' : (w3).cell? ⟨w1.heap.size, 0, none⟩ = some (.int .i64 (r.w)) := H3.sep.h0.cell 0
        have x1' : (w3).cell? ⟨w1.heap.size, 1, none⟩ = some (.slice A r.rows.length c) := H3.sep.h0.cell 1
        have He := (H3.sep.g2.set_ 0 (.int .i64 (r.w))).set_ 1 (.slice A r.rows.length c)
        have u0 := He.h0.cell 0
        have u1 := He.h0.cell 1
        simp at u0 u1
        have Hf := H3.map (fun X h => ((h.g3.set_ 0 (.int .i64 (r.w))).set_ 1 (.slice A r.rows.length c)).drop.g1.drop)
        clear He
        go_wp2
        exact bodyPost_ret (v := .agg #[.int .i64 r.w, .slice A r.rows.length c]) (by simp [results, Tryz.results87, go_sem, u0, u1]) rfl ⟨r, A, c, rfl, ⟨hv3, by omega⟩, Hf⟩
end Go.Proofs.YtfildenelgbmlaaGreatDoor

namespace Go.Proofs.YtfildenelgbmlaaGreatDoor
open Go.RowKit

set_option maxRecDepth 100000 in
set_option maxHeartbeats 1600000 in
theorem l8Region_c {g : Nat} {l : List UInt8} {w0 w : World} {L : List Res} (H : Cur w0 w g l L) :
    Calls Tryz.prog 71 #[.pointer (some ⟨g, 0, none⟩)] w fun e w' => ∃ (r : Reg) (A : Option Addr) (c : Nat), e = .returned (.agg #[.int .i64 r.w, .slice A r.rows.length c]) ∧ DrawnR r ∧
      Cur w0 w' g l (Res.row (.slice A r.rows.length c) 3 1 r.rows.length (ic r.rows) :: L) := by
  have H0 := H.map (fun X h => (h.box 36 #[.int .i64 0, .slice none 0 0]).g1)
  clear H
  go_enter Tryz.func71, Tryz.ntmps71
  go_wp2_with fail
  obtain ⟨gz, hgz⟩ : ∃ gz : World, gz = w := ⟨_, rfl⟩
  subst hgz
  generalize gz.alloc (.cells #[.int .i64 0, .slice none 0 0] 36) = W at *
  refine (l1Once_c 14 H0 (by omega)).mono ?_
  rintro e w1 ⟨q, rfl, H1⟩
  clear H0
  cases q
  · go_wp2_with fail
    refine (l6DrawM_c 4 (by omega) (by omega) H1).mono ?_
    rintro e w2 ⟨r, A, c, rfl, hv, H2⟩
    have hd : DrawnR r := ⟨hv.2.2.1, by have := hv.2.2.2.1; omega⟩
    have HD := Lib.hid hd
    clear H1 hv hd
    have z0 := H2.sep.h1.cell 0
    have z1 := H2.sep.h1.cell 1
    have f0 := H2.sep.h1.frozen 0
    have f1 := H2.sep.h1.frozen 1
    simp at z0 z1
    have He := (H2.sep.g1.set_ 0 (.int .i64 r.w)).set_ 1 (.slice A r.rows.length c)
    have u0 := He.h0.cell 0
    have u1 := He.h0.cell 1
    simp at u0 u1
    have Hf := H2.map (fun X h => ((h.g2.set_ 0 (.int .i64 r.w)).set_ 1 (.slice A r.rows.length c)).drop)
    clear He
    go_wp2
    exact bodyPost_ret (v := .agg #[.int .i64 r.w, .slice A r.rows.length c]) (by simp [results, Tryz.results71, go_sem, u0, u1]) rfl ⟨r, A, c, rfl, HD.out, Hf⟩
  · go_wp2_with fail
    refine (l6Any_c H1).mono ?_
    rintro e w2 ⟨r, A, c, rfl, hd, H2⟩
    have HD := Lib.hid hd
    clear H1 hd
    have z0 := H2.sep.h1.cell 0
    have z1 := H2.sep.h1.cell 1
    have f0 := H2.sep.h1.frozen 0
    have f1 := H2.sep.h1.frozen 1
    simp at z0 z1
    have He := (H2.sep.g1.set_ 0 (.int .i64 r.w)).set_ 1 (.slice A r.rows.length c)
    have u0 := He.h0.cell 0
    have u1 := He.h0.cell 1
    simp at u0 u1
    have Hf := H2.map (fun X h => ((h.g2.set_ 0 (.int .i64 r.w)).set_ 1 (.slice A r.rows.length c)).drop)
    clear He
    go_wp2
    exact bodyPost_ret (v := .agg #[.int .i64 r.w, .slice A r.rows.length c]) (by simp [results, Tryz.results71, go_sem, u0, u1]) rfl ⟨r, A, c, rfl, HD.out, Hf⟩
set_option maxRecDepth 100000 in
set_option maxHeartbeats 1600000 in
theorem l20Region_c {g : Nat} {l : List UInt8} {w0 w : World} {L : List Res} (H : Cur w0 w g l L) :
    Calls Tryz.prog 168 #[.pointer (some ⟨g, 0, none⟩)] w fun e w' => ∃ (r : Reg) (A : Option Addr) (c : Nat), e = .returned (.agg #[.int .i64 r.w, .slice A r.rows.length c]) ∧ DrawnR r ∧
      Cur w0 w' g l (Res.row (.slice A r.rows.length c) 3 1 r.rows.length (ic r.rows) :: L) := by
  have H0 := H.map (fun X h => (h.box 36 #[.int .i64 0, .slice none 0 0]).g1)
  clear H
  go_enter Tryz.func168, Tryz.ntmps168
  go_wp2_with fail
  obtain ⟨gz, hgz⟩ : ∃ gz : World, gz = w := ⟨_, rfl⟩
  subst hgz
  generalize gz.alloc (.cells #[.int .i64 0, .slice none 0 0] 36) = W at *
  refine (l1Once_c 10 H0 (by omega)).mono ?_
  rintro e w1 ⟨q, rfl, H1⟩
  clear H0
  cases q
  · go_wp2_with fail
    refine (l6DrawM_c 3 (by omega) (by omega) H1).mono ?_
    rintro e w2 ⟨r, A, c, rfl, hv, H2⟩
    have hd : DrawnR r := ⟨hv.2.2.1, by have := hv.2.2.2.1; omega⟩
    have HD := Lib.hid hd
    clear H1 hv hd
    have z0 := H2.sep.h1.cell 0
    have z1 := H2.sep.h1.cell 1
    have f0 := H2.sep.h1.frozen 0
    have f1 := H2.sep.h1.frozen 1
    simp at z0 z1
    have He := (H2.sep.g1.set_ 0 (.int .i64 r.w)).set_ 1 (.slice A r.rows.length c)
    have u0 := He.h0.cell 0
    have u1 := He.h0.cell 1
    simp at u0 u1
    have Hf := H2.map (fun X h => ((h.g2.set_ 0 (.int .i64 r.w)).set_ 1 (.slice A r.rows.length c)).drop)
    clear He
    go_wp2
    exact bodyPost_ret (v := .agg #[.int .i64 r.w, .slice A r.rows.length c]) (by simp [results, Tryz.results168, go_sem, u0, u1]) rfl ⟨r, A, c, rfl, HD.out, Hf⟩
  · go_wp2_with fail
    refine (l6Any_c H1).mono ?_
    rintro e w2 ⟨r, A, c, rfl, hd, H2⟩
    have HD := Lib.hid hd
    clear H1 hd
    have z0 := H2.sep.h1.cell 0
    have z1 := H2.sep.h1.cell 1
    have f0 := H2.sep.h1.frozen 0
    have f1 := H2.sep.h1.frozen 1
    simp at z0 z1
    have He := (H2.sep.g1.set_ 0 (.int .i64 r.w)).set_ 1 (.slice A r.rows.length c)
    have u0 := He.h0.cell 0
    have u1 := He.h0.cell 1
    simp at u0 u1
    have Hf := H2.map (fun X h => ((h.g2.set_ 0 (.int .i64 r.w)).set_ 1 (.slice A r.rows.length c)).drop)
    clear He
    go_wp2
    exact bodyPost_ret (v := .agg #[.int .i64 r.w, .slice A r.rows.length c]) (by simp [results, Tryz.results168, go_sem, u0, u1]) rfl ⟨r, A, c, rfl, HD.out, Hf⟩
end Go.Proofs.YtfildenelgbmlaaGreatDoor

namespace Go.Proofs.YtfildenelgbmlaaGreatDoor
open Go.RowKit

/-- a thing that holds cells which can be read -/
def CellsBy (R : Res) (v : Value) (s : List Cell) : Prop := ∀ (w : World) (lo : Nat), R.holds w → (∀ b, R.dom b → lo ≤ b) → CellsRd w lo w.heap.size v s
theorem CellsBy.row {v : Value} {s : List Cell} (h : s.length ≤ 1048576) : CellsBy (Res.row v 96 2 s.length (cc s)) v s := fun w lo hw hd => by
  have hw : w.ownsRow 0 96 2 v s.length (cc s) := hw
  have h1 : w.ownsRow lo 96 2 v s.length (cc s) := ⟨hw.1, by
    rcases hw.2 with hn | ⟨g, cap, cur, rfl, hbg, rest⟩
    · exact .inl hn
    · exact .inr ⟨g, cap, cur, rfl, hd g (by simp [Res.row, Value.ownBlock]), rest⟩⟩
  obtain ⟨A, c, rfl, _, _, hr⟩ := own_rd h1
  exact ⟨A, c, rfl, by unfold maxLen; omega, hr⟩
theorem CellsBy.tail {b c : Nat} {s : List Cell} (h : s.length ≤ 1048576) (h1 : 1 ≤ s.length) : CellsBy (Res.row (.slice (some ⟨b, 0, none⟩) s.length c) 96 2 s.length (cc s)) (.slice (some ⟨b, 2, none⟩) (s.length - 1) (c - 1)) (s.drop 1) := fun w lo hw hd => by
  obtain ⟨A, c', e, _, hr⟩ := CellsBy.row h w lo hw hd
  injection e with e1 e2 e3
  subst e1
  obtain ⟨b2, o2, e4, h5, h6, hc⟩ := hr.2 (by omega)
  injection e4 with e4
  injection e4 with e4 e6
  subst e4
  subst e6
  have hd : (cc s).drop 2 = cc (s.drop 1) := by have := cc_drop (l := s) (k := 1) h1; simpa using this
  refine ⟨some ⟨b, 2, none⟩, c - 1, by rw [List.length_drop], by rw [List.length_drop]; unfold maxLen; omega, by rw [cc_length], fun hn => ⟨b, 2, rfl, h5, h6, fun j u hu => ?_⟩⟩
  have := hc (2 + j) u (by rw [← hd, List.getElem?_drop] at hu; exact hu)
  simpa using this
theorem CellsBy.tail1 {A : Option Addr} {s : List Cell} (h1 : s.length = 1) {R : Res} : CellsBy R (.slice A 0 0) (s.drop 1) := fun w lo _ _ =>
  ⟨A, 0, by rw [List.length_drop, h1], by rw [List.length_drop]; unfold maxLen; omega, by rw [cc_length], fun hn => by rw [List.length_drop] at hn; omega⟩
set_option maxRecDepth 100000 in
set_option maxHeartbeats 3200000 in
theorem l2Grow_c {g : Nat} {l : List UInt8} {w0 w : World} {L : List Res} (n : Nat) (hn1 : 1 ≤ n) (hn7 : n ≤ 7) (H : Cur w0 w g l L) :
    Calls Tryz.prog 204 #[.pointer (some ⟨g, 0, none⟩), .int .i64 n] w fun e w' => ∃ v s, e = .returned v ∧ 1 ≤ s.length ∧ s.length ≤ 7 ∧ Cur w0 w' g l (Res.row v 96 2 s.length (cc s) :: L) := by
  obtain ⟨i0, hi, hz0, hz1, hz2⟩ := info_parts infoCell
  have H0 : Cur w0 (w.alloc (.cells #[.int .i64 3, .int .i64 3] 96)) g l (Res.row (.slice (some ⟨w.heap.size, 0, none⟩) 1 1) 96 2 1 (cc [⟨3, 3⟩]) :: L) := H.map (fun X h => (h.rowBox 96 #[.int .i64 3, .int .i64 3] 2 1 rfl (by decide)).g1)
  clear H
  go_enter Tryz.func204, Tryz.ntmps204
  go_wp2
  go_loopw [5, 6] (fun sv iv wr => ∃ (k : Nat) (S : List Cell), 1 ≤ k ∧ iv = .int .i64 k ∧ k ≤ n ∧ S.length ≤ k ∧ 1 ≤ S.length ∧ Hid (∀ c ∈ S, On c) ∧ Cur w0 wr g l (Res.row sv 96 2 S.length (cc S) :: L)) (fun _ iv _ => n - (intOf iv).toNat)
  case atStart => exact ⟨1, [⟨3, 3⟩], Nat.le_refl _, rfl, hn1, Nat.le_refl _, Nat.le_refl _, Lib.hid (fun c hc => by simp at hc; subst hc; unfold On; decide), H0⟩
  case round =>
    clear H0
    obtain ⟨k, S, hk1, rfl, hkn, hSk, hS1, HON, H⟩ := hrel
    by_cases hlt : k < n
    · obtain ⟨b, o, c, rfl, hc1, hc2, hbw⟩ := own_shape H.sep.h0 (by omega)
      obtain ⟨rfl, _⟩ := own_blk H.sep.h0
      go_wp2_with fail
      refine (l1Below_c (S.length : Int) H (by omega)).mono ?_
      rintro e w5 ⟨x, rfl, hx1, hx2, _, H5⟩
      obtain ⟨j, rfl⟩ := Int.eq_ofNat_of_zero_le hx1
      have hj : j < S.length := by have := hx2 (by omega); omega
      have r0 := own_cell2 H5.sep.h0 (List.getElem?_eq_getElem hj)
      generalize S[j] = d at *
      obtain ⟨r0, r1⟩ := r0
      simp only [Nat.zero_add] at r0 r1
      have hj2 : (j : Int) < (S.length : Int) := by omega
      clear hx1 hx2 H
      have H6 := H5.map (fun X h => (h.box 96 #[.int .i64 d.x, .int .i64 d.y]).g1)
      clear H5
      go_wp2_with fail
      generalize w5.alloc (.cells #[.int .i64 d.x, .int .i64 d.y] 96) = w6 at *
      refine (l1Below_c 4 H6 (by omega)).mono ?_
      rintro e w7 ⟨y, rfl, hy1, hy2, _, H7⟩
      have x0 := H7.sep.h0.cell 0
      have x1 := H7.sep.h0.cell 1
      simp at x0 x1
      clear H6
      go_upto_region 8 with fail
      have H8 := H7.map (fun X h => (h.box 96 #[.int .i64 (wrap64 (d.x + (1 - y).tmod 2)), .int .i64 (wrap64 (d.y + (2 - y).tmod 2))]).g1)
      clear H7 x0 x1
      generalize wrap64 (d.x + (1 - y).tmod 2) = X at *
      generalize wrap64 (d.y + (2 - y).tmod 2) = Y at *
      generalize w7.alloc (.cells #[.int .i64 X, .int .i64 Y] 96) = w8 at *
      have z0 := H8.sep.h0.cell 0
      have z1 := H8.sep.h0.cell 1
      simp at z0 z1
      obtain ⟨M, hM⟩ : ∃ M, M = decide ((⟨X, Y⟩ : Cell) ∈ S) := ⟨_, rfl⟩
      have HHC := Lib.hid (spec_has2_c X Y w8 (CellsBy.row (by omega) w8 0 H8.sep.h2 (fun _ _ => Nat.zero_le _)) (by omega))
      rw [← hM] at HHC
      clear hM
      cases hx : inR X 0 7
      · clear HHC
        go_wp2_with (first
          | (go_at_call 64; refine (l1In_r _ _ _ _).mono ?_; rintro e w' ⟨rfl, rfl⟩; (try simp only [hx]); (try simp only [hy]))
          | (go_at_call 151; refine (HHC.out).mono ?_; rintro e w' ⟨rfl, rfl⟩)
          | fail)
        go_roundw
        case rel => exact ⟨k + 1, S, by omega, by go_num, by omega, by omega, hS1, HON, H8.map (fun X h => h.g1.drop.g1.drop)⟩
        case measure => simp [intOf]; omega
      · cases hy : inR Y 0 7
        · clear HHC
          go_wp2_with (first
            | (go_at_call 64; refine (l1In_r _ _ _ _).mono ?_; rintro e w' ⟨rfl, rfl⟩; (try simp only [hx]); (try simp only [hy]))
            | (go_at_call 151; refine (HHC.out).mono ?_; rintro e w' ⟨rfl, rfl⟩)
            | fail)
          go_roundw
          case rel => exact ⟨k + 1, S, by omega, by go_num, by omega, by omega, hS1, HON, H8.map (fun X h => h.g1.drop.g1.drop)⟩
          case measure => simp [intOf]; omega
        · cases M
          · have HX := Lib.hid hx
            have HY := Lib.hid hy
            obtain ⟨B, cb, ci, ch, e1, e2, e3, e4, e5, HS⟩ := H8
            have HS' := HS.g3
            clear HS
            go_wp2_with (first
              | (go_at_call 64; refine (l1In_r _ _ _ _).mono ?_; rintro e w' ⟨rfl, rfl⟩; (try simp only [hx]); (try simp only [hy]))
              | (go_at_call 151; refine (HHC.out).mono ?_; rintro e w' ⟨rfl, rfl⟩)
              | (at_builtin; refine wpList_app rfl _ _ 24 rfl 96 i0 _ 2 16 Tryz.underlying24 hi hz0 hz1 hz2 rfl (by decide) _ _ _ rfl (HS'.alloc _) _ _ _ [.int .i64 X, .int .i64 Y] rfl (Rd.fresh w8 _ #[.int .i64 X, .int .i64 Y] 2 1 rfl) oc2 (by unfold maxLen; omega) (by omega) ?_; intro v9 w9 H9)
              | fail)
            clear HS' HHC
            have hls : (S ++ [(⟨X, Y⟩ : Cell)]).length = S.length + 1 := by simp
            have hcc : cc S ++ [Value.int .i64 X, .int .i64 Y] = cc (S ++ [⟨X, Y⟩]) := by rw [cc_append]; rfl
            rw [hcc, ← hls] at H9
            go_roundw
            case rel => exact ⟨k + 1, S ++ [⟨X, Y⟩], by omega, by go_num, by omega, by omega, by omega, Lib.hid (fun c hc => by
              rcases List.mem_append.1 hc with hc | hc
              · exact HON.out c hc
              · rw [List.mem_singleton.1 hc]
                obtain ⟨q1, q2⟩ := inR_iff.1 HX.out
                obtain ⟨q3, q4⟩ := inR_iff.1 HY.out
                exact ⟨⟨q1, q2⟩, q3, q4⟩), B, cb, ci, ch, e1, e2, e3, e4, e5, H9.g1.g2.drop.g2.drop⟩
            case measure => simp [intOf]; omega
          · skip
            go_wp2_with (first
              | (go_at_call 64; refine (l1In_r _ _ _ _).mono ?_; rintro e w' ⟨rfl, rfl⟩; (try simp only [hx]); (try simp only [hy]))
              | (go_at_call 151; refine (HHC.out).mono ?_; rintro e w' ⟨rfl, rfl⟩)
              | fail)
            go_roundw
            case rel => exact ⟨k + 1, S, by omega, by go_num, by omega, by omega, hS1, HON, H8.map (fun X h => h.g1.drop.g1.drop)⟩
            case measure => simp [intOf]; omega
    · have HSC := Lib.hid (spec_sort_c wr (CellsBy.row (by omega) wr 0 H.sep.h0 (fun _ _ => Nat.zero_le _)) (by omega))
      have HS8 := Lib.hid (sortC_len (s := S))
      obtain ⟨T, hT⟩ : ∃ T, T = sortC S := ⟨_, rfl⟩
      have hT1 : 1 ≤ T.length := by
        obtain ⟨c, hc⟩ := List.exists_mem_of_length_pos (l := S) (by omega)
        have := List.length_pos_of_mem ((mem_sortC (s := S)).2 hc)
        rw [hT]; omega
      have hTl : T.length ≤ 7 := by have := HS8.out; rw [hT]; omega
      have hTs : ∀ c ∈ T, Sml 100 c := fun c hc => by
        rw [hT] at hc
        obtain ⟨⟨p1, p2⟩, p3, p4⟩ := HON.out c (mem_sortC.1 hc)
        exact ⟨⟨by omega, by omega⟩, ⟨by omega, by omega⟩⟩
      rw [← hT] at HSC
      have HTS := Lib.hid hTs
      clear hT hTs HS8
      obtain ⟨b, o, c, rfl, hc1, hc2, hbw⟩ := own_shape H.sep.h0 (by omega)
      go_wp2_with fail
      refine (HSC.out).mono ?_
      rintro e w2 ⟨v2, rfl, o2, b2⟩
      have H2 := H.map (fun X h => (h.oiNew b2 o2).g1)
      have HCC := Lib.hid (l2CornerB_c w2 (CellsBy.row (by omega) w2 0 H2.sep.h0 (fun _ _ => Nat.zero_le _)) hT1 (by omega) HTS.out)
      obtain ⟨U, hU⟩ : ∃ U, U = corner T := ⟨_, rfl⟩
      have hUl : U.length = T.length := by rw [hU]; unfold corner; rw [shift_length]
      rw [← hU] at HCC
      have HUL := Lib.hid hUl
      obtain ⟨A2, c2, rfl, _, _, _⟩ := Res.row_at H2.sep.h0
      clear hU hUl H o2 b2 HSC
      go_wp2_with fail
      refine (HCC.out).mono ?_
      rintro e w3 ⟨v3, rfl, o3, b3⟩
      have H3 := H2.map (fun X h => (h.oiNew b3 o3).g1.g2.drop.g2.drop)
      clear H2 o3 b3
      go_wp2
      go_ret
      exact ⟨_, U, rfl, by rw [HUL.out]; omega, by rw [HUL.out]; omega, H3⟩
set_option maxRecDepth 100000 in
set_option maxHeartbeats 800000 in
theorem l2Shape_c {g : Nat} {l : List UInt8} {w0 w : World} {L : List Res} (H : Cur w0 w g l L) :
    Calls Tryz.prog 173 #[.pointer (some ⟨g, 0, none⟩)] w fun e w' => ∃ v s, e = .returned v ∧ 1 ≤ s.length ∧ s.length ≤ 7 ∧ Cur w0 w' g l (Res.row v 96 2 s.length (cc s) :: L) := by
  go_enter Tryz.func173, Tryz.ntmps173
  go_wp2_with fail
  refine (l1Below_c 7 H (by omega)).mono ?_
  rintro e w1 ⟨x, rfl, hx1, hx2, _, H1⟩
  obtain ⟨n, hn⟩ : ∃ n : Nat, (n : Int) = 1 + x := ⟨(1 + x).toNat, by omega⟩
  have hn7 : 1 ≤ n ∧ n ≤ 7 := by have := hx2 (by omega); omega
  have HN := Lib.hid hn
  clear hx1 hx2 H
  go_wp2_with fail
  rw [← HN.out]
  refine (l2Grow_c n hn7.1 hn7.2 H1).mono ?_
  rintro e w2 ⟨v, s, rfl, h1, h2, H2⟩
  clear H1
  go_wp2
  go_ret
  exact ⟨v, s, rfl, h1, h2, H2⟩
set_option maxRecDepth 100000 in
set_option maxHeartbeats 3200000 in
theorem l2Any_c {g : Nat} {l : List UInt8} {w0 w : World} {L : List Res} (H : Cur w0 w g l L) :
    Calls Tryz.prog 129 #[.pointer (some ⟨g, 0, none⟩)] w fun e w' => ∃ v s R, e = .returned v ∧ s.length ≤ 8 ∧ CellsBy R v s ∧ Cur w0 w' g l (R :: L) := by
  obtain ⟨i0, hi, hz0, hz1, hz2⟩ := info_parts infoCell
  go_enter Tryz.func129, Tryz.ntmps129
  go_wp2_with fail
  refine (l2Shape_c H).mono ?_
  rintro e w1 ⟨v, s, rfl, hs1, hs7, H1⟩
  clear H
  go_wp2_with fail
  refine (l1Below_c 12 H1 (by omega)).mono ?_
  rintro e w2 ⟨q, rfl, hq1, hq2, _, H2⟩
  clear H1 hq2
  obtain ⟨b, o, c, rfl, hc1, hc2, hbw⟩ := own_shape H2.sep.h0 (by omega)
  obtain ⟨rfl, _⟩ := own_blk H2.sep.h0
  by_cases h0 : q = 0
  · subst h0
    go_wp2_with fail
    refine (l1Below_c 9 H2 (by omega)).mono ?_
    rintro e w3 ⟨x, rfl, hx1, hx2, _, H3⟩
    have hx3 := hx2 (by omega)
    clear hx2
    go_wp2_with fail
    refine (l1Below_c 9 H3 (by omega)).mono ?_
    rintro e w4 ⟨y, rfl, hy1, hy2, _, H4⟩
    clear H3 hy2
    obtain ⟨B, cb, ci, ch, e1, e2, e3, e4, e5, HS⟩ := H4
    have HS' := HS.g1
    clear HS
    go_wp2_with (at_builtin; refine wpList_app rfl _ _ 24 rfl 96 i0 _ 2 16 Tryz.underlying24 hi hz0 hz1 hz2 rfl (by decide) _ _ _ rfl (HS'.alloc _) _ _ _ [.int .i64 (x - 1), .int .i64 y] rfl (Rd.fresh w4 _ #[.int .i64 (x - 1), .int .i64 y] 2 1 rfl) oc2 (by unfold maxLen; omega) (by omega) ?_; intro v5 w5 H5)
    clear HS'
    have hls : (s ++ [(⟨(x - 1), y⟩ : Cell)]).length = s.length + 1 := by simp
    have hcc : cc s ++ [Value.int .i64 (x - 1), .int .i64 y] = cc (s ++ [⟨(x - 1), y⟩]) := by rw [cc_append]; rfl
    rw [hcc, ← hls] at H5
    go_wp2
    go_ret
    exact ⟨_, _, _, rfl, by omega, CellsBy.row (by omega), B, cb, ci, ch, e1, e2, e3, e4, e5, H5.g1⟩
  · by_cases h1 : q = 1
    · subst h1
      go_wp2_with fail
      refine (l1Below_c 8 H2 (by omega)).mono ?_
      rintro e w3 ⟨x, rfl, hx1, hx2, _, H3⟩
      have hx3 := hx2 (by omega)
      clear hx2
      go_wp2_with fail
      refine (l1Below_c 8 H3 (by omega)).mono ?_
      rintro e w4 ⟨y, rfl, hy1, hy2, _, H4⟩
      clear H3 hy2
      obtain ⟨B, cb, ci, ch, e1, e2, e3, e4, e5, HS⟩ := H4
      have HS' := HS.g1
      clear HS
      go_wp2_with (at_builtin; refine wpList_app rfl _ _ 24 rfl 96 i0 _ 2 16 Tryz.underlying24 hi hz0 hz1 hz2 rfl (by decide) _ _ _ rfl (HS'.alloc _) _ _ _ [.int .i64 x, .int .i64 y] rfl (Rd.fresh w4 _ #[.int .i64 x, .int .i64 y] 2 1 rfl) oc2 (by unfold maxLen; omega) (by omega) ?_; intro v5 w5 H5)
      clear HS'
      have hls : (s ++ [(⟨x, y⟩ : Cell)]).length = s.length + 1 := by simp
      have hcc : cc s ++ [Value.int .i64 x, .int .i64 y] = cc (s ++ [⟨x, y⟩]) := by rw [cc_append]; rfl
      rw [hcc, ← hls] at H5
      have HSC := Lib.hid (spec_sort_c w5 (CellsBy.row (by omega) w5 0 H5.h0 (fun _ _ => Nat.zero_le _)) (by omega))
      obtain ⟨S, hS⟩ : ∃ S, S = sortC (s ++ [(⟨x, y⟩ : Cell)]) := ⟨_, rfl⟩
      have hSl : S.length ≤ 8 := by rw [hS]; have := sortC_len (s := s ++ [(⟨x, y⟩ : Cell)]); omega
      rw [← hS] at HSC
      clear hS hcc
      obtain ⟨A5, c5, rfl, _, _, _⟩ := Res.row_at H5.h0
      rw [hls] at HSC ⊢
      go_wp2_with fail
      refine (HSC.out).mono ?_
      rintro e w6 ⟨v6, rfl, o6, b6⟩
      have H6 := H5.oiNew b6 o6
      clear H5 o6 b6
      go_wp2
      go_ret
      exact ⟨_, _, _, rfl, by omega, CellsBy.row (by omega), B, cb, ci, ch, e1, e2, e3, e4, e5, H6.g2.onTail (L' := Res.row v6 96 2 S.length (cc S) :: L) (by intro q; simp only [List.mem_cons]; grind) (H6.g1.drop.g1.drop)⟩
    · by_cases h2 : q = 2
      · subst h2
        by_cases hc : c = 1
        · subst hc
          go_wp2
          go_ret
          exact ⟨_, s.drop 1, _, rfl, by rw [List.length_drop]; omega, CellsBy.tail1 (s := s) (by omega), H2⟩
        · go_wp2
          go_ret
          exact ⟨_, s.drop 1, _, rfl, by rw [List.length_drop]; omega, CellsBy.tail (s := s) (by omega) (by omega), H2⟩
      · by_cases h3 : q = 3
        · subst h3
          have H3 := H2.map (fun X h => (h.rowBox 3 #[.int .i64 (-1), .int .i64 8, .int .i64 9223372036854775807] 1 3 rfl (by decide)).g1)
          clear H2
          go_wp2_with fail
          refine (l1Pick_c (n := 3) (b := w2.heap.size) (xs := [-1, 8, 9223372036854775807]) rfl (by omega) (by omega) H3).mono ?_
          rintro e w5 ⟨x, rfl, hx, H5⟩
          have H6 := H5.map (fun X h => h.g1.drop)
          clear H3 H5 hx
          obtain ⟨d, t, rfl⟩ : ∃ d t, s = d :: t := by
            cases s with
            | nil => simp at hs1
            | cons d t => exact ⟨d, t, rfl⟩
          obtain ⟨r0, r1⟩ := own_cell2 (j := 0) (u := d) H6.sep.h0 rfl
          have fr := own_free H6.sep.h0 0
          simp only [Nat.zero_mul, Nat.add_zero, Nat.zero_add] at r0 r1 fr
          have H7 := H6.map (fun X h => (h.g1.setRow (j := 0) (by rw [cc_length]; omega) (.int .i64 x)).g1)
          have hcc : (cc (d :: t)).set 0 (.int .i64 x) = cc (⟨x, d.y⟩ :: t) := rfl
          rw [hcc] at H7
          simp only [Nat.add_zero] at H7
          obtain ⟨n, hn⟩ : ∃ n, n = (d :: t).length := ⟨_, rfl⟩
          have hn2 : (({ x := x, y := d.y } : Cell) :: t).length = n := hn.symm
          rw [← hn] at H7 hs1 hs7 ⊢
          have h0n : (0 : Int) < (n : Int) := by omega
          have HN := Lib.hid hn2
          clear hn hn2 H6 hcc
          go_wp2
          go_ret
          exact ⟨_, ⟨x, d.y⟩ :: t, _, rfl, by rw [HN.out]; omega, CellsBy.row (by rw [HN.out]; omega), by rw [HN.out]; exact H7⟩
        · have b0 : (q == 0) = false := by simp [h0]
          have b1 : (q == 1) = false := by simp [h1]
          have b2 : (q == 2) = false := by simp [h2]
          have b3 : (q == 3) = false := by simp [h3]
          go_wp2
          go_ret
          exact ⟨_, s, _, rfl, by omega, CellsBy.row (by omega), H2⟩
end Go.Proofs.YtfildenelgbmlaaGreatDoor

namespace Go.Proofs.YtfildenelgbmlaaGreatDoor
open Go.RowKit

set_option maxRecDepth 100000 in
theorem infoSh : (Tryz.prog.info? 24).map (fun i => (i.zero, i.size, i.bytes)) = some (some (.slice none 0 0), 1, 24) := by kernel_rfl
/-- two things as one -/
def Res.and (a b : Res) : Res := ⟨fun x => a.dom x ∨ b.dom x, fun w => a.holds w ∧ b.holds w, fun hs h => ⟨a.loc (fun x hx => hs x (.inl hx)) h.1, b.loc (fun x hx => hs x (.inr hx)) h.2⟩, fun h hb => by
  rcases hb with hb | hb
  · exact a.inn h.1 hb
  · exact b.inn h.2 hb⟩
theorem Sep.and {w0 w : World} {a b : Res} {L : List Res} (h : Sep w0 w (a :: b :: L)) : Sep w0 w (Res.and a b :: L) :=
  ⟨⟨h.1, h.drop.1⟩, fun x hx => by
    rcases hx with hx | hx
    · exact h.2.1 x hx
    · exact h.drop.2.1 x hx, fun q hq x hx hq' => by
    rcases hx with hx | hx
    · exact h.2.2.1 q (by simp [hq]) x hx hq'
    · exact h.drop.2.2.1 q hq x hx hq', h.drop.drop⟩
/-- a thing that holds the cells of many shapes -/
def SlotsBy (R : Res) (vs : List Value) (ps : List (List Cell)) : Prop := ∀ (w : World) (lo : Nat), R.holds w → (∀ b, R.dom b → lo ≤ b) → SlotsRd w lo w.heap.size vs ps
theorem SlotsBy.one {R : Res} {v : Value} {s : List Cell} (h : CellsBy R v s) : SlotsBy R [v] [s] := fun w lo hw hd => ⟨rfl, fun i u hu => by
  match i, hu with
  | 0, hu => simp at hu; subst hu; exact ⟨v, rfl, h w lo hw hd⟩⟩
theorem SlotsBy.snoc {R R' : Res} {vs : List Value} {ps : List (List Cell)} {v : Value} {s : List Cell} (h : SlotsBy R vs ps) (h' : CellsBy R' v s) : SlotsBy (Res.and R' R) (vs ++ [v]) (ps ++ [s]) := fun w lo hw hd => by
  have h1 := h w lo hw.2 (fun b hb => hd b (.inr hb))
  have h2 := h' w lo hw.1 (fun b hb => hd b (.inl hb))
  refine ⟨by rw [List.length_append, List.length_append, h1.1]; rfl, fun i u hu => ?_⟩
  by_cases hi : i < ps.length
  · rw [List.getElem?_append_left hi] at hu
    obtain ⟨x, e1, e2⟩ := h1.2 i u hu
    exact ⟨x, by rw [List.getElem?_append_left (by rw [h1.1]; exact hi)]; exact e1, e2⟩
  · rw [List.getElem?_append_right (by omega)] at hu
    have : i - ps.length = 0 := by
      have := (List.getElem?_eq_some_iff.1 hu).1
      simp at this
      omega
    rw [this] at hu
    simp at hu
    subst hu
    exact ⟨v, by rw [List.getElem?_append_right (by rw [h1.1]; omega), h1.1, this]; rfl, h2⟩
theorem pcs_rd {w : World} {lo n : Nat} {v : Value} {vs : List Value} {ps : List (List Cell)} {R : Res} (h : (Res.row v 24 1 n vs).holds w) (hd : ∀ b, (Res.row v 24 1 n vs).dom b → lo ≤ b) (hR : SlotsBy R vs ps) (h2 : R.holds w) (hd2 : ∀ b, R.dom b → lo ≤ b) (hn : n = ps.length) : CellSSRd w lo w.heap.size v ps := by
  subst hn
  have hw : w.ownsRow 0 24 1 v ps.length vs := h
  have h1 : w.ownsRow lo 24 1 v ps.length vs := ⟨hw.1, by
    rcases hw.2 with hn | ⟨g, cap, cur, rfl, hbg, rest⟩
    · exact .inl hn
    · exact .inr ⟨g, cap, cur, rfl, hd g (by simp [Res.row, Value.ownBlock]), rest⟩⟩
  obtain ⟨A, c, rfl, h3, h4, hr⟩ := own_rd h1
  exact ⟨vs, ⟨A, c, rfl, by omega, hr⟩, hR w lo h2 hd2⟩
set_option maxRecDepth 100000 in
set_option maxHeartbeats 3200000 in
theorem l7Pieces_c {g : Nat} {l : List UInt8} {w0 w : World} {L : List Res} (H : Cur w0 w g l L) :
    Calls Tryz.prog 169 #[.pointer (some ⟨g, 0, none⟩)] w fun e w' => ∃ (v : Value) (n : Nat) (vs : List Value) (ps : List (List Cell)) (R : Res), e = .returned v ∧ n = ps.length ∧ n ≤ 3 ∧ (∀ s ∈ ps, s.length ≤ 8) ∧ SlotsBy R vs ps ∧ Cur w0 w' g l (Res.row v 24 1 n vs :: R :: L) := by
  obtain ⟨i0, hi, hz0, hz1, hz2⟩ := info_parts infoSh
  go_enter Tryz.func169, Tryz.ntmps169
  go_wp2_with fail
  refine (l4Piece_c H).mono ?_
  rintro e w1 ⟨va, a, rfl, hsa, ha, H1⟩
  clear H hsa
  have HSA := Lib.hid (SlotsBy.one (CellsBy.row (v := va) (s := a) (by omega)))
  obtain ⟨A1, c1, rfl, _, _, _⟩ := Res.row_at H1.sep.h0
  have H2 := H1.map (fun X h => (h.rowBox 24 #[.slice A1 a.length c1] 1 1 rfl (by decide)).g1)
  obtain ⟨Ra, hRa⟩ : ∃ R, R = Res.row (.slice A1 a.length c1) 96 2 a.length (cc a) := ⟨_, rfl⟩
  rw [← hRa] at HSA H2
  clear hRa H1
  go_wp2_with fail
  obtain ⟨g3, hg3⟩ : ∃ k, k = w1.heap.size := ⟨_, rfl⟩
  rw [← hg3] at H2 ⊢
  generalize w1.alloc (.cells #[.slice A1 a.length c1] 24) = w2 at *
  clear hg3
  refine (l1Once_c 3 H2 (by omega)).mono ?_
  rintro e w3 ⟨q, rfl, H3⟩
  clear H2
  cases q
  · skip
    have hps : ∀ s ∈ ([a] : List (List Cell)), s.length ≤ 8 := (fun s hs => by rw [List.mem_singleton.1 hs]; exact ha)
    have HPS0 := Lib.hid hps
    clear hps
    go_wp2_with fail
    refine (l1Once_c 20 H3 (by omega)).mono ?_
    rintro e w5 ⟨q2, rfl, H5⟩
    clear H3
    cases q2
    · go_wp2
      go_ret
      exact ⟨.slice (some ⟨g3, 0, none⟩) 1 1, 1, ([.slice A1 a.length c1] : List Value), ([a] : List (List Cell)), _, rfl, rfl, by omega, HPS0.out, HSA.out, H5⟩
    · go_wp2_with fail
      refine (l2Any_c H5).mono ?_
      rintro e w6 ⟨vc, s3, R3, rfl, hs3, hR3, H6⟩
      clear H5
      have HR3 := Lib.hid hR3
      obtain ⟨A3, c3, rfl, _, _⟩ := hR3 w6 0 H6.sep.h0 (fun _ _ => Nat.zero_le _)
      clear hR3
      obtain ⟨Bq, cq, ci, ch, e1, e2, e3, e4, e5, HS⟩ := H6
      have HS' := HS.g2
      clear HS
      go_wp2_with (at_builtin; refine wpList_app rfl _ _ 40 rfl 24 i0 _ 1 24 Tryz.underlying40 hi hz0 hz1 hz2 rfl (by decide) _ _ _ rfl (HS'.alloc _) _ _ _ [.slice A3 s3.length c3] rfl (Rd.fresh w6 24 #[.slice A3 s3.length c3] 1 1 rfl) (ocv2 rfl) (by unfold maxLen; omega) (by omega) ?_; intro v7 w7 H7)
      clear HS'
      have H8 := H7.g2.g3.g1.and.p2.g1
      clear H7
      have hps := HPS0.out
      have HPS : Hid (∀ s ∈ ([a] : List (List Cell)) ++ [s3], s.length ≤ 8) := Lib.hid (fun s hs => by
        rcases List.mem_append.1 hs with hs | hs
        · exact hps s hs
        · rw [List.mem_singleton.1 hs]; exact hs3)
      have HSB := Lib.hid (HSA.out.snoc HR3.out)
      clear hps HSA HR3
      go_wp2
      go_ret
      exact ⟨v7, 1 + 1, ([.slice A1 a.length c1] : List Value) ++ [.slice A3 s3.length c3], ([a] : List (List Cell)) ++ [s3], _, rfl, rfl, by omega, HPS.out, HSB.out, Bq, cq, ci, ch, e1, e2, e3, e4, e5, H8⟩
  · go_wp2_with fail
    refine (l4Piece_c H3).mono ?_
    rintro e w4 ⟨vb, b, rfl, hsb, hb, H4⟩
    clear H3 hsb
    have HB := Lib.hid (CellsBy.row (v := vb) (s := b) (by omega))
    obtain ⟨A2, c2, rfl, _, _, _⟩ := Res.row_at H4.sep.h0
    obtain ⟨Bq, cq, ci, ch, e1, e2, e3, e4, e5, HS⟩ := H4
    have HS' := HS.g2
    clear HS
    go_wp2_with (at_builtin; refine wpList_app rfl _ _ 40 rfl 24 i0 _ 1 24 Tryz.underlying40 hi hz0 hz1 hz2 rfl (by decide) _ _ _ rfl (HS'.alloc _) _ _ _ [.slice A2 b.length c2] rfl (Rd.fresh w4 24 #[.slice A2 b.length c2] 1 1 rfl) (ocv2 rfl) (by unfold maxLen; omega) (by omega) ?_; intro vx wx H7)
    clear HS'
    have H8 := H7.g2.g3.g1.and.p2.g1
    have HSB := Lib.hid (HSA.out.snoc HB.out)
    obtain ⟨Rb, hRb⟩ : ∃ R, R = Res.and (Res.row (.slice A2 b.length c2) 96 2 b.length (cc b)) Ra := ⟨_, rfl⟩
    rw [← hRb] at HSB H8
    clear hRb H7 HSA HB
    have HSA := HSB
    clear HSB
    have H9 : Cur w0 wx g l (Res.row vx 24 1 2 ([.slice A1 a.length c1] ++ [.slice A2 b.length c2]) :: Rb :: L) := ⟨Bq, cq, ci, ch, e1, e2, e3, e4, e5, H8⟩
    clear H8 e1 e2 e3 e4 e5
    have hps : ∀ s ∈ (([a] ++ [b]) : List (List Cell)), s.length ≤ 8 := (fun s hs => by simp at hs; rcases hs with rfl | rfl <;> assumption)
    have HPS0 := Lib.hid hps
    clear hps
    go_wp2_with fail
    refine (l1Once_c 20 H9 (by omega)).mono ?_
    rintro e w5 ⟨q2, rfl, H5⟩
    clear H9
    cases q2
    · go_wp2
      go_ret
      exact ⟨vx, 2, (([.slice A1 a.length c1] ++ [.slice A2 b.length c2]) : List Value), (([a] ++ [b]) : List (List Cell)), _, rfl, rfl, by omega, HPS0.out, HSA.out, H5⟩
    · go_wp2_with fail
      refine (l2Any_c H5).mono ?_
      rintro e w6 ⟨vc, s3, R3, rfl, hs3, hR3, H6⟩
      clear H5
      have HR3 := Lib.hid hR3
      obtain ⟨A3, c3, rfl, _, _⟩ := hR3 w6 0 H6.sep.h0 (fun _ _ => Nat.zero_le _)
      clear hR3
      obtain ⟨Bq, cq, ci, ch, e1, e2, e3, e4, e5, HS⟩ := H6
      have HS' := HS.g2
      clear HS
      go_wp2_with (at_builtin; refine wpList_app rfl _ _ 40 rfl 24 i0 _ 1 24 Tryz.underlying40 hi hz0 hz1 hz2 rfl (by decide) _ _ _ rfl (HS'.alloc _) _ _ _ [.slice A3 s3.length c3] rfl (Rd.fresh w6 24 #[.slice A3 s3.length c3] 1 1 rfl) (ocv2 rfl) (by unfold maxLen; omega) (by omega) ?_; intro v7 w7 H7)
      clear HS'
      have H8 := H7.g2.g3.g1.and.p2.g1
      clear H7
      have hps := HPS0.out
      have HPS : Hid (∀ s ∈ (([a] ++ [b]) : List (List Cell)) ++ [s3], s.length ≤ 8) := Lib.hid (fun s hs => by
        rcases List.mem_append.1 hs with hs | hs
        · exact hps s hs
        · rw [List.mem_singleton.1 hs]; exact hs3)
      have HSB := Lib.hid (HSA.out.snoc HR3.out)
      clear hps HSA HR3
      go_wp2
      go_ret
      exact ⟨v7, 2 + 1, (([.slice A1 a.length c1] ++ [.slice A2 b.length c2]) : List Value) ++ [.slice A3 s3.length c3], (([a] ++ [b]) : List (List Cell)) ++ [s3], _, rfl, rfl, by omega, HPS.out, HSB.out, Bq, cq, ci, ch, e1, e2, e3, e4, e5, H8⟩
theorem slots_up {w : World} {lo hi : Nat} {v : Value} {s : List (List Cell)} (h : CellSSRd w lo hi v s) (h2 : lo < hi → hi ≤ w.heap.size) : CellSSRd w 0 w.heap.size v s := by
  by_cases hlt : lo < hi
  · exact h.more (Nat.zero_le _) (h2 hlt)
  · obtain ⟨vs, ⟨A, c, rfl, hm, hr⟩, hs⟩ := h
    have hn : ¬ 0 < s.length := fun hn => by obtain ⟨b, off, e, h3, h4, hc⟩ := hr.2 hn; omega
    exact ⟨vs, ⟨A, c, rfl, hm, hr.1, fun h => absurd h hn⟩, hs.1, fun i u hu => absurd (List.getElem?_eq_some_iff.1 hu).1 (by omega)⟩
/-- a drawn region with pieces -/
def RegPcs (w : World) : Ending → World → Prop := fun e w' => ∃ (vr vp : Value) (r : Reg) (ps : List (List Cell)), e = .returned (.tuple #[vr, vp]) ∧ DrawnR r ∧ RegIn w' w.heap.size w'.heap.size vr r ∧ CellSSRd w' w.heap.size w'.heap.size vp ps ∧ ps.length ≤ 3 ∧ (∀ s ∈ ps, s.length ≤ 8) ∧ Below w.heap.size w w'
set_option maxRecDepth 100000 in
set_option maxHeartbeats 1600000 in
theorem l8Both_c {v : Value} {l : List UInt8} (w : World) (h : BytesRd w 0 w.heap.size v l) (hn : l.length ≤ 1048576) :
    Calls Tryz.prog 156 #[v] w (RegPcs w) := by
  have H := (Sep.start w).box 36 #[.int .i64 0, .slice none 0 0]
  go_enter Tryz.func156, Tryz.ntmps156
  go_wp2_with fail
  obtain ⟨gz, hgz⟩ : ∃ gz : World, gz = w := ⟨_, rfl⟩
  subst hgz
  generalize gz.alloc (.cells #[.int .i64 0, .slice none 0 0] 36) = W at *
  refine (l1New_c h hn H).mono ?_
  rintro e w1 ⟨g, rfl, H1⟩
  clear H h
  go_wp2_with fail
  refine (l8Region_c H1).mono ?_
  rintro e w2 ⟨r, A, c, rfl, hd, H2⟩
  have HD := Lib.hid hd
  have H3 := H2.map (fun X h => (h.box 36 #[.int .i64 r.w, .slice A r.rows.length c]).g1)
  clear H1 H2 hd
  go_upto_region 3 with fail
  obtain ⟨g5, hg5⟩ : ∃ k, k = w2.heap.size := ⟨_, rfl⟩
  rw [← hg5] at H3 ⊢
  generalize w2.alloc (.cells #[.int .i64 r.w, .slice A r.rows.length c] 36) = w3 at *
  clear hg5
  have x0 := H3.sep.h0.cell 0
  have x1 := H3.sep.h0.cell 1
  have z0 := H3.sep.h2.cell 0
  have z1 := H3.sep.h2.cell 1
  have f0 := H3.sep.h2.frozen 0
  have f1 := H3.sep.h2.frozen 1
  simp at x0 x1 z0 z1
  go_region_with ((first
    | (go_at_call 169; refine (l7Pieces_c (by exact H3.map (fun X h => h.drew))).mono ?_; rintro e w4 ⟨vp, n, vs, ps, R, rfl, hnp, hn3, hp8, hSB, H4⟩; have x0' := H4.sep.h2.cell 0; have x1' := H4.sep.h2.cell 1; have z0' := H4.sep.h4.cell 0; have z1' := H4.sep.h4.cell 1; have f0' := H4.sep.h4.frozen 0; have f1' := H4.sep.h4.frozen 1; simp at x0' x1' z0' z1')))
  all_goals
    have Hf := (H4.sep.g4.set_ 0 (.int .i64 r.w)).set_ 1 (.slice A r.rows.length c)
    have u0 := Hf.h0.cell 0
    have u1 := Hf.h0.cell 1
    simp at u0 u1
    obtain ⟨Ap, cp, rfl, _, _, _⟩ := Res.row_at H4.sep.h0
    have HSB := Lib.hid hSB
    have HP8 := Lib.hid hp8
    have HNP := Lib.hid hnp
    clear x0 x1 z0 z1 f0 f1 x0' x1' z0' z1' f0' f1' H3 H4 hSB hp8 hnp
    go_wp2
    exact bodyPost_ret (v := .tuple #[.agg #[.int .i64 r.w, .slice A r.rows.length c], .slice Ap n cp]) (by simp [results, Tryz.results156, go_sem, u0, u1]) rfl ⟨_, _, r, ps, rfl, HD.out, ⟨_, rfl, Hf.g4.oi⟩, pcs_rd Hf.h1 Hf.drop.2.1 HSB.out Hf.h2 Hf.drop.drop.2.1 HNP.out, by rw [← HNP.out]; exact hn3, HP8.out, Hf.below⟩
set_option maxRecDepth 100000 in
set_option maxHeartbeats 1600000 in
theorem l20Both_c {v : Value} {l : List UInt8} (w : World) (h : BytesRd w 0 w.heap.size v l) (hn : l.length ≤ 1048576) :
    Calls Tryz.prog 125 #[v] w (RegPcs w) := by
  have H := (Sep.start w).box 36 #[.int .i64 0, .slice none 0 0]
  go_enter Tryz.func125, Tryz.ntmps125
  go_wp2_with fail
  obtain ⟨gz, hgz⟩ : ∃ gz : World, gz = w := ⟨_, rfl⟩
  subst hgz
  generalize gz.alloc (.cells #[.int .i64 0, .slice none 0 0] 36) = W at *
  refine (l1New_c h hn H).mono ?_
  rintro e w1 ⟨g, rfl, H1⟩
  clear H h
  go_wp2_with fail
  refine (l20Region_c H1).mono ?_
  rintro e w2 ⟨r, A, c, rfl, hd, H2⟩
  have HD := Lib.hid hd
  have H3 := H2.map (fun X h => (h.box 36 #[.int .i64 r.w, .slice A r.rows.length c]).g1)
  clear H1 H2 hd
  go_upto_region 3 with fail
  obtain ⟨g5, hg5⟩ : ∃ k, k = w2.heap.size := ⟨_, rfl⟩
  rw [← hg5] at H3 ⊢
  generalize w2.alloc (.cells #[.int .i64 r.w, .slice A r.rows.length c] 36) = w3 at *
  clear hg5
  have x0 := H3.sep.h0.cell 0
  have x1 := H3.sep.h0.cell 1
  have z0 := H3.sep.h2.cell 0
  have z1 := H3.sep.h2.cell 1
  have f0 := H3.sep.h2.frozen 0
  have f1 := H3.sep.h2.frozen 1
  simp at x0 x1 z0 z1
  go_region_with ((first
    | (go_at_call 169; refine (l7Pieces_c (by exact H3.map (fun X h => h.drew))).mono ?_; rintro e w4 ⟨vp, n, vs, ps, R, rfl, hnp, hn3, hp8, hSB, H4⟩; have x0' := H4.sep.h2.cell 0; have x1' := H4.sep.h2.cell 1; have z0' := H4.sep.h4.cell 0; have z1' := H4.sep.h4.cell 1; have f0' := H4.sep.h4.frozen 0; have f1' := H4.sep.h4.frozen 1; simp at x0' x1' z0' z1')))
  all_goals
    have Hf := (H4.sep.g4.set_ 0 (.int .i64 r.w)).set_ 1 (.slice A r.rows.length c)
    have u0 := Hf.h0.cell 0
    have u1 := Hf.h0.cell 1
    simp at u0 u1
    obtain ⟨Ap, cp, rfl, _, _, _⟩ := Res.row_at H4.sep.h0
    have HSB := Lib.hid hSB
    have HP8 := Lib.hid hp8
    have HNP := Lib.hid hnp
    clear x0 x1 z0 z1 f0 f1 x0' x1' z0' z1' f0' f1' H3 H4 hSB hp8 hnp
    go_wp2
    exact bodyPost_ret (v := .tuple #[.agg #[.int .i64 r.w, .slice A r.rows.length c], .slice Ap n cp]) (by simp [results, Tryz.results125, go_sem, u0, u1]) rfl ⟨_, _, r, ps, rfl, HD.out, ⟨_, rfl, Hf.g4.oi⟩, pcs_rd Hf.h1 Hf.drop.2.1 HSB.out Hf.h2 Hf.drop.drop.2.1 HNP.out, by rw [← HNP.out]; exact hn3, HP8.out, Hf.below⟩
end Go.Proofs.YtfildenelgbmlaaGreatDoor

namespace Go.Proofs.YtfildenelgbmlaaGreatDoor
open Go.RowKit

set_option maxRecDepth 100000 in
set_option maxHeartbeats 3200000 in
theorem spec_apply1_c {v : Value} {r : Reg} (e : Ed) (w : World) (h : RegRd w 0 w.heap.size v r) (hV : r.Valid) :
    Calls Tryz.prog 107 #[v, .agg #[.bool e.add, .int .i64 e.x, .int .i64 e.y]] w fun en w' => ∃ v1, en = .returned (.tuple #[v1, .bool (r.apply1 e).isSome]) ∧ RegIn w' w.heap.size w'.heap.size v1 ((r.apply1 e).getD r) ∧ Below w.heap.size w w' := by
  obtain ⟨s, rfl, hs⟩ := h
  obtain ⟨A, c, rfl, hm, hr⟩ := id hs
  obtain ⟨R, hR⟩ : ∃ R, R = r.apply1 e := ⟨_, rfl⟩
  rw [← hR]
  have HR := Lib.hid hR
  have HV := Lib.hid hV
  have hv1 := hV.1
  have hv2 := hV.2.1
  have hv3 := hV.2.2.1
  have hv4 := hV.2.2.2.1
  obtain ⟨ea, ex, ey⟩ := e
  simp only
  have H := (((Sep.start w).box 36 #[.int .i64 r.w, .slice A r.rows.length c]).box 110 #[.bool ea, .int .i64 ex, .int .i64 ey]).box 36 #[.int .i64 0, .slice none 0 0]
  simp only [World.size_alloc] at H
  clear hR hr hV
  go_enter Tryz.func107, Tryz.ntmps107
  go_wp2_with fail
  generalize ((w.alloc (.cells #[.int .i64 r.w, .slice A r.rows.length c] 36)).alloc (.cells #[.bool ea, .int .i64 ex, .int .i64 ey] 110)).alloc (.cells #[.int .i64 0, .slice none 0 0] 36) = W at *
  refine (spec_copy_c (r := r) W ⟨_, rfl, (hs.keep (SameIn.of_below H.below (Nat.le_refl _))).more (Nat.le_refl _) H.size⟩ (by omega)).mono ?_
  rintro en w2 ⟨v2, rfl, ⟨s2, rfl, o2⟩, b2⟩
  obtain ⟨A2, c2, rfl, _, _⟩ := o2.rd
  have H2 := (H.oiNew b2 o2).box 36 #[.int .i64 r.w, .slice A2 r.rows.length c2]
  clear b2 H o2
  go_wp2_with fail
  generalize w2.alloc (.cells #[.int .i64 r.w, .slice A2 r.rows.length c2] 36) = wa at *
  have e0 := H2.h3.cell 0
  have e1 := H2.h3.cell 1
  have e2 := H2.h3.cell 2
  have x0 := H2.h4.cell 0
  have x1 := H2.h4.cell 1
  simp at e0 e1 e2 x0 x1
  have hrd : RegRd wa 0 wa.heap.size (.agg #[.int .i64 r.w, .slice A r.rows.length c]) r := ⟨_, rfl, (hs.keep (SameIn.of_below H2.below (Nat.le_refl _))).more (Nat.le_refl _) H2.size⟩
  by_cases hx : 0 ≤ ex ∧ ex < r.w
  · by_cases hy : 0 ≤ ey ∧ ey < r.rows.length
    · obtain ⟨xn, rfl⟩ := Int.eq_ofNat_of_zero_le hx.1
      obtain ⟨yn, rfl⟩ := Int.eq_ofNat_of_zero_le hy.1
      have hxw : (xn : Int) < r.w := hx.2
      have hyl : (yn : Int) < (r.rows.length : Int) := hy.2
      have hp2 : decide ((xn : Int) ≤ r.w - 1) = true := by simp; omega
      have hpy2 : decide ((yn : Int) ≤ (r.rows.length : Int) - 1) = true := by simp; omega
      obtain ⟨q, hq⟩ : ∃ q, q = r.has xn yn := ⟨_, rfl⟩
      have HQ := Lib.hid hq
      have hvv := Reg.valid_iff.2 HV.out
      have HVV := Lib.hid hvv
      clear hq hx hy hvv
      have hw1 : IntKind.i64.wrap (r.w - 1) = r.w - 1 := IntWalk.i64_in _ (by omega)
      have hw2 : IntKind.i64.wrap ((r.rows.length : Int) - 1) = (r.rows.length : Int) - 1 := IntWalk.i64_in _ (by omega)
      go_region_held3 (fun w' => w'.cell? ⟨w.heap.size + 1, 0, none⟩ = some (.bool ea) ∧ w'.cell? ⟨w.heap.size + 1, 1, none⟩ = some (.int .i64 xn) ∧ w'.cell? ⟨w.heap.size + 1, 2, none⟩ = some (.int .i64 yn) ∧ w'.cell? ⟨w.heap.size, 0, none⟩ = some (.int .i64 r.w) ∧ w'.cell? ⟨w.heap.size, 1, none⟩ = some (.slice A r.rows.length c))
        (first | ((try dsimp only); refine ⟨?_, ?_, ?_, ?_, ?_⟩ <;> assumption) | go_keep)
        ((first
          | (go_at_call 64; (with_reducible refine (l1In_any _ _ _ _).mono ?_); rintro e w' ⟨rfl, rfl⟩)
          | (go_at_call 105; (with_reducible refine (spec_IsRegion_c (r := r) _ (by exact (hrd.keep SameIn.drew).more (Nat.le_refl _) (le_drew (Nat.le_refl _)))).mono ?_); rintro e w3 ⟨rfl, b3⟩; rw [HVV.out]; replace b3 := below_undrew b3; have H3 := H2.step b3; have hrd3 := (hrd.keep (SameIn.of_below b3 (Nat.le_refl _))).more (Nat.le_refl _) b3.size; have e0' := H3.h3.cell 0; have e1' := H3.h3.cell 1; have e2' := H3.h3.cell 2; have x0' := H3.h4.cell 0; have x1' := H3.h4.cell 1; simp at e0' e1' e2' x0' x1')
          | (go_at_call 111; (with_reducible refine (spec_has_c (r := r) _ _ _ hrd3 HV.out).mono ?_); rintro e w4 ⟨rfl, b4⟩; have H4 := H3.step b4; have e0'' := H4.h3.cell 0; have e1'' := H4.h3.cell 1; have e2'' := H4.h3.cell 2; have x0'' := H4.h4.cell 0; have x1'' := H4.h4.cell 1; simp at e0'' e1'' e2'' x0'' x1'')))
      clear e0' e1' e2' x0' x1' e0 e1 e2 x0 x1 hw1 hw2 hp2 hpy2 H2 H3 b3 b4 hrd3 hrd
      rw [← HQ.out]
      clear e0'' e1'' e2'' x0'' x1''
      cases hc : (q == ea)
      · obtain ⟨bo, oo, co, he, _, _, hbo⟩ := own_shape H4.h1 (by omega)
        injection he with he1 _ he3
        subst he1 he3
        have hyn : yn < r.rows.length := by omega
        have hrow := List.getElem?_eq_getElem hyn
        obtain ⟨ea1, hlt1⟩ := Reg.row_of HV.out hrow
        rw [ea1] at hrow
        have hp64 := Reg.two_pow_le HV.out
        have HRW := Lib.hid hrow
        have hyi0 : (0 : Int) ≤ (yn : Int) := Int.natCast_nonneg _
        clear hrow ea1
        obtain ⟨m, hmm⟩ : ∃ m, m = r.row yn := ⟨_, rfl⟩
        rw [← hmm] at hlt1
        have HM := Lib.hid hmm
        have hR1 : R = some (r.flip xn yn) := by
          rw [HR.out]
          rw [HQ.out] at hc
          simp [Reg.apply1, Reg.inn, hxw, hyn, bne, hc]
        subst hR1
        have hxor : m ^^^ 2 ^ xn = if ea = true then m + 2 ^ xn else m - 2 ^ xn := by
          rw [hmm]
          rw [HQ.out] at hc
          cases ea
          · have := Reg.flip_sub HV.out hxw hyn (by simpa using hc)
            simpa using this.1
          · have := Reg.flip_add HV.out hxw hyn (by simpa using hc)
            simpa using this
        have hle : ea = false → 2 ^ xn ≤ m := by
          intro h
          rw [hmm]
          rw [HQ.out] at hc
          subst h
          exact (Reg.flip_sub HV.out hxw hyn (by simpa using hc)).2
        have HX := Lib.hid hxor
        have HLE := Lib.hid hle
        have h64 : 2 ^ xn ≤ 64 := Nat.le_trans (Nat.pow_le_pow_right (by decide) (show xn ≤ 6 by omega)) (by decide)
        clear hmm hc hxor hle
        have y0 := H4.h0.cell 0
        have y1 := H4.h0.cell 1
        have e0 := H4.h3.cell 0
        have e1 := H4.h3.cell 1
        have e2 := H4.h3.cell 2
        have r0 := own_cell1 H4.h1 HRW.out
        rw [← HM.out] at r0
        simp at y0 y1 e0 e1 e2
        cases ea
        · skip
          go_wp2_with fail
          go_still_tail 15, (by kernel_rfl)
          change wpList _ _ _ _ _ w4.drew
          have H6 := H4.drew
          clear e0 e1 e2 y0 y1 r0 H4
          generalize w4.drew = w5 at *
          have r0 := own_cell1 H6.h1 HRW.out
          have fr := own_free H6.h1 yn
          have H7 := (H6.g1.setRow (j := yn) (by rw [ic_length]; omega) (.int .i64 (wrap64 ((m : Int) - wrap64 (2 ^ xn))))).p1
          have y0 : (w5.setCell ⟨bo, oo + yn, none⟩ (.int .i64 (wrap64 ((m : Int) - wrap64 (2 ^ xn))))).cell? ⟨w2.heap.size, 0, none⟩ = some (.int .i64 r.w) := H7.h0.cell 0
          have y1 : (w5.setCell ⟨bo, oo + yn, none⟩ (.int .i64 (wrap64 ((m : Int) - wrap64 (2 ^ xn))))).cell? ⟨w2.heap.size, 1, none⟩ = some (.slice (some ⟨bo, oo, none⟩) r.rows.length c2) := H7.h0.cell 1
          have z0 : (w5.setCell ⟨bo, oo + yn, none⟩ (.int .i64 (wrap64 ((m : Int) - wrap64 (2 ^ xn))))).cell? ⟨w.heap.size + 1 + 1, 0, none⟩ = some (.int .i64 0) := H7.h2.cell 0
          have z1 : (w5.setCell ⟨bo, oo + yn, none⟩ (.int .i64 (wrap64 ((m : Int) - wrap64 (2 ^ xn))))).cell? ⟨w.heap.size + 1 + 1, 1, none⟩ = some (.slice none 0 0) := H7.h2.cell 1
          have f0 := H7.h2.frozen 0
          have f1 := H7.h2.frozen 1
          have H8 := (H7.g2.set_ 0 (.int .i64 r.w)).set_ 1 (.slice (some ⟨bo, oo, none⟩) r.rows.length c2)
          have u0 := H8.h0.cell 0
          have u1 := H8.h0.cell 1
          simp at u0 u1
          have hval : wrap64 ((m : Int) - wrap64 (2 ^ xn)) = ((m ^^^ 2 ^ xn : Nat) : Int) := by
            have h1 : (2 : Int) ^ xn = ((2 ^ xn : Nat) : Int) := by simp
            have h2 := h64
            rw [HX.out]; have := HLE.out (by first | rfl | trivial); simp only [Bool.false_eq_true, if_false]
            rw [h1]
            clear h1
            generalize 2 ^ xn = p2 at *
            rw [IntWalk.wrap64_in (p2 : Int) ⟨by omega, by omega⟩, IntWalk.wrap64_in _ ⟨by omega, by omega⟩]
            omega
          have HVAL := Lib.hid hval
          clear hval
          go_wp2
          refine bodyPost_ret (v := .tuple #[.agg #[.int .i64 r.w, .slice (some ⟨bo, oo, none⟩) r.rows.length c2], .bool true]) (by simp [results, Tryz.results107, go_sem, u0, u1]) rfl ⟨_, rfl, ⟨_, rfl, ?_⟩, H8.below⟩
          have hoi := H8.g2.oi
          have hfl : (r.flip xn yn).rows = r.rows.set yn ((m ^^^ 2 ^ xn : Nat) : Int) := by rw [HM.out]; rfl
          rw [Option.getD_some]
          unfold IntsIn
          rw [Reg.flip_len, hfl, ← HVAL.out, ← ic_set]
          exact hoi
        · skip
          go_wp2_with fail
          go_still_tail 15, (by kernel_rfl)
          change wpList _ _ _ _ _ w4.drew
          have H6 := H4.drew
          clear e0 e1 e2 y0 y1 r0 H4
          generalize w4.drew = w5 at *
          have r0 := own_cell1 H6.h1 HRW.out
          have fr := own_free H6.h1 yn
          have H7 := (H6.g1.setRow (j := yn) (by rw [ic_length]; omega) (.int .i64 (wrap64 ((m : Int) + wrap64 (2 ^ xn))))).p1
          have y0 : (w5.setCell ⟨bo, oo + yn, none⟩ (.int .i64 (wrap64 ((m : Int) + wrap64 (2 ^ xn))))).cell? ⟨w2.heap.size, 0, none⟩ = some (.int .i64 r.w) := H7.h0.cell 0
          have y1 : (w5.setCell ⟨bo, oo + yn, none⟩ (.int .i64 (wrap64 ((m : Int) + wrap64 (2 ^ xn))))).cell? ⟨w2.heap.size, 1, none⟩ = some (.slice (some ⟨bo, oo, none⟩) r.rows.length c2) := H7.h0.cell 1
          have z0 : (w5.setCell ⟨bo, oo + yn, none⟩ (.int .i64 (wrap64 ((m : Int) + wrap64 (2 ^ xn))))).cell? ⟨w.heap.size + 1 + 1, 0, none⟩ = some (.int .i64 0) := H7.h2.cell 0
          have z1 : (w5.setCell ⟨bo, oo + yn, none⟩ (.int .i64 (wrap64 ((m : Int) + wrap64 (2 ^ xn))))).cell? ⟨w.heap.size + 1 + 1, 1, none⟩ = some (.slice none 0 0) := H7.h2.cell 1
          have f0 := H7.h2.frozen 0
          have f1 := H7.h2.frozen 1
          have H8 := (H7.g2.set_ 0 (.int .i64 r.w)).set_ 1 (.slice (some ⟨bo, oo, none⟩) r.rows.length c2)
          have u0 := H8.h0.cell 0
          have u1 := H8.h0.cell 1
          simp at u0 u1
          have hval : wrap64 ((m : Int) + wrap64 (2 ^ xn)) = ((m ^^^ 2 ^ xn : Nat) : Int) := by
            have h1 : (2 : Int) ^ xn = ((2 ^ xn : Nat) : Int) := by simp
            have h2 := h64
            rw [HX.out]; simp only [if_true]
            rw [h1]
            clear h1
            generalize 2 ^ xn = p2 at *
            rw [IntWalk.wrap64_in (p2 : Int) ⟨by omega, by omega⟩, IntWalk.wrap64_in _ ⟨by omega, by omega⟩]
            omega
          have HVAL := Lib.hid hval
          clear hval
          go_wp2
          refine bodyPost_ret (v := .tuple #[.agg #[.int .i64 r.w, .slice (some ⟨bo, oo, none⟩) r.rows.length c2], .bool true]) (by simp [results, Tryz.results107, go_sem, u0, u1]) rfl ⟨_, rfl, ⟨_, rfl, ?_⟩, H8.below⟩
          have hoi := H8.g2.oi
          have hfl : (r.flip xn yn).rows = r.rows.set yn ((m ^^^ 2 ^ xn : Nat) : Int) := by rw [HM.out]; rfl
          rw [Option.getD_some]
          unfold IntsIn
          rw [Reg.flip_len, hfl, ← HVAL.out, ← ic_set]
          exact hoi
      · have hR0 : R = none := by
          rw [HR.out]
          rw [HQ.out] at hc
          simp at hc
          simp [Reg.apply1, hc]
        subst hR0
        clear hc
        have z0 := H4.h2.cell 0
        have z1 := H4.h2.cell 1
        have y0 := H4.h0.cell 0
        have y1 := H4.h0.cell 1
        have f0 := H4.h2.frozen 0
        have f1 := H4.h2.frozen 1
        simp at z0 z1 y0 y1
        have H6 := ((H4.g2.set_ 0 (.int .i64 r.w)).set_ 1 (.slice A2 r.rows.length c2))
        have u0 := H6.h0.cell 0
        have u1 := H6.h0.cell 1
        simp at u0 u1
        go_wp2
        refine bodyPost_ret (v := .tuple #[.agg #[.int .i64 r.w, .slice A2 r.rows.length c2], .bool false]) (by simp [results, Tryz.results107, go_sem, u0, u1]) rfl ⟨_, rfl, ⟨_, rfl, ?_⟩, H6.below⟩
        exact H6.g2.oi
    · have hR0 : R = none := by
        rw [HR.out]
        simp [Reg.apply1, Reg.inn]
        intro h1 h2 h3 h4
        exact absurd ⟨h3, by omega⟩ hy
      subst hR0
      have hvv := Reg.valid_iff.2 HV.out
      have HVV := Lib.hid hvv
      have hp := inR_t (a := ex) (b := 0) (c := r.w - 1) hx.1 (by omega)
      have hpy := inR_f (a := ey) (b := 0) (c := (r.rows.length : Int) - 1) (by omega)
      have hw1 : IntKind.i64.wrap (r.w - 1) = r.w - 1 := IntWalk.i64_in _ (by omega)
      have hw2 : IntKind.i64.wrap ((r.rows.length : Int) - 1) = (r.rows.length : Int) - 1 := IntWalk.i64_in _ (by omega)
      clear hvv hx hy
      have l1 := Later.cell e1 (by have := H2.h3.lt; simpa using this)
      have l2 := Later.cell e2 (by have := H2.h3.lt; simpa using this)
      have l3 := Later.cell x0 (by have := H2.h4.lt; simpa using this)
      have l4 := Later.cell x1 (by have := H2.h4.lt; simpa using this)
      have hir : ∀ u : Later wa, Calls Tryz.prog 105 #[.agg #[.int .i64 r.w, .slice A r.rows.length c]] u.w fun e w' => e = .returned (.bool true) ∧ Below u.w.heap.size u.w w' := by
        intro u
        have := spec_IsRegion_c (r := r) u.w (Later.reg hrd)
        rw [HVV.out] at this
        exact this
      have HIR := Lib.hid hir
      clear hir
      refine wp_region_later (by kernel_rfl) (by kernel_rfl) ?_
      repeat (go_big_quiet_step ((first
        | (go_at_call 64; exact Later.same (l1In_r _ _ _ _))
        | (go_at_call 105; exact Later.call (HIR.out _)))))
      refine wpQuiet_nil ?_
      intro w3 hw3
      obtain ⟨u3, hu3⟩ := hw3
      subst hu3
      have H3 := H2.step u3.h
      clear e0 e1 e2 x0 x1 l1 l2 l3 l4 H2 hrd
      generalize u3.w = w3 at *
      have z0 := H3.h2.cell 0
      have z1 := H3.h2.cell 1
      have y0 := H3.h0.cell 0
      have y1 := H3.h0.cell 1
      have f0 := H3.h2.frozen 0
      have f1 := H3.h2.frozen 1
      simp at z0 z1 y0 y1
      have H6 := ((H3.g2.set_ 0 (.int .i64 r.w)).set_ 1 (.slice A2 r.rows.length c2))
      have u0 := H6.h0.cell 0
      have u1 := H6.h0.cell 1
      simp at u0 u1
      go_wp2
      refine bodyPost_ret (v := .tuple #[.agg #[.int .i64 r.w, .slice A2 r.rows.length c2], .bool false]) (by simp [results, Tryz.results107, go_sem, u0, u1]) rfl ⟨_, rfl, ⟨_, rfl, ?_⟩, H6.below⟩
      exact H6.g2.oi
  · have hR0 : R = none := by
      rw [HR.out]
      simp [Reg.apply1, Reg.inn]
      intro h1 h2 h3 h4
      exact absurd ⟨h1, h2⟩ hx
    subst hR0
    have hvv := Reg.valid_iff.2 HV.out
    have HVV := Lib.hid hvv
    have hp := inR_f (a := ex) (b := 0) (c := r.w - 1) (by omega)
    have hw1 : IntKind.i64.wrap (r.w - 1) = r.w - 1 := IntWalk.i64_in _ (by omega)
    clear hvv hx
    have l1 := Later.cell e1 (by have := H2.h3.lt; simpa using this)
    have l2 := Later.cell e2 (by have := H2.h3.lt; simpa using this)
    have l3 := Later.cell x0 (by have := H2.h4.lt; simpa using this)
    have l4 := Later.cell x1 (by have := H2.h4.lt; simpa using this)
    have hir : ∀ u : Later wa, Calls Tryz.prog 105 #[.agg #[.int .i64 r.w, .slice A r.rows.length c]] u.w fun e w' => e = .returned (.bool true) ∧ Below u.w.heap.size u.w w' := by
      intro u
      have := spec_IsRegion_c (r := r) u.w (Later.reg hrd)
      rw [HVV.out] at this
      exact this
    have HIR := Lib.hid hir
    clear hir
    refine wp_region_later (by kernel_rfl) (by kernel_rfl) ?_
    repeat (go_big_quiet_step ((first
      | (go_at_call 64; exact Later.same (l1In_r _ _ _ _))
      | (go_at_call 105; exact Later.call (HIR.out _)))))
    refine wpQuiet_nil ?_
    intro w3 hw3
    obtain ⟨u3, hu3⟩ := hw3
    subst hu3
    have H3 := H2.step u3.h
    clear e0 e1 e2 x0 x1 l1 l2 l3 l4 H2 hrd
    generalize u3.w = w3 at *
    have z0 := H3.h2.cell 0
    have z1 := H3.h2.cell 1
    have y0 := H3.h0.cell 0
    have y1 := H3.h0.cell 1
    have f0 := H3.h2.frozen 0
    have f1 := H3.h2.frozen 1
    simp at z0 z1 y0 y1
    have H6 := ((H3.g2.set_ 0 (.int .i64 r.w)).set_ 1 (.slice A2 r.rows.length c2))
    have u0 := H6.h0.cell 0
    have u1 := H6.h0.cell 1
    simp at u0 u1
    go_wp2
    refine bodyPost_ret (v := .tuple #[.agg #[.int .i64 r.w, .slice A2 r.rows.length c2], .bool false]) (by simp [results, Tryz.results107, go_sem, u0, u1]) rfl ⟨_, rfl, ⟨_, rfl, ?_⟩, H6.below⟩
    exact H6.g2.oi
end Go.Proofs.YtfildenelgbmlaaGreatDoor

namespace Go.Proofs.YtfildenelgbmlaaGreatDoor
open Go.RowKit

set_option maxRecDepth 100000 in
set_option maxHeartbeats 3200000 in
theorem spec_applyEds_c {v v' : Value} {r : Reg} {l : List Ed} (w : World) (h : RegRd w 0 w.heap.size v r) (h' : EdsRd w 0 w.heap.size v' l) (hn : r.rows.length ≤ 1048576) :
    Calls Tryz.prog 38 #[v, v'] w fun e w' => ∃ v1, e = .returned (.tuple #[v1, .bool (r.applyEds l).isSome]) ∧ RegIn w' w.heap.size w'.heap.size v1 ((r.applyEds l).getD ⟨0, []⟩) ∧ Below w.heap.size w w' := by
  obtain ⟨s, rfl, hs⟩ := h
  obtain ⟨A, c, rfl, hm, hr⟩ := id hs
  obtain ⟨B, d, rfl, hm', hr'⟩ := id h'
  unfold maxLen at hm'
  obtain ⟨R, hR⟩ : ∃ R, R = r.applyEds l := ⟨_, rfl⟩
  rw [← hR]
  have HR := Lib.hid hR
  have H := ((Sep.start w).box 36 #[.int .i64 r.w, .slice A r.rows.length c]).box 36 #[.int .i64 0, .slice none 0 0]
  simp only [World.size_alloc] at H
  clear hR hr
  go_enter Tryz.func38, Tryz.ntmps38
  go_wp2_with fail
  generalize (w.alloc (.cells #[.int .i64 r.w, .slice A r.rows.length c] 36)).alloc (.cells #[.int .i64 0, .slice none 0 0] 36) = W at *
  refine (spec_IsRegion_c (r := r) W ⟨_, rfl, (hs.keep (SameIn.of_below H.below (Nat.le_refl _))).more (Nat.le_refl _) H.size⟩).mono ?_
  rintro e w1 ⟨rfl, b1⟩
  have H1 := H.step b1
  clear b1 H
  by_cases hq : r.valid = true ∧ l.length ≤ 40
  · obtain ⟨hv, hl⟩ := hq
    have hV := Reg.valid_iff.1 hv
    have HR2 : Hid (R = r.applyTo l) := Lib.hid (by rw [HR.out, Reg.applyEds, hv]; simp [hl])
    have HV := Lib.hid hV
    have x0 := H1.h1.cell 0
    have x1 := H1.h1.cell 1
    simp at x0 x1
    rw [hv]
    have hl' : (l.length : Int) ≤ 40 := by omega
    clear hv hV HR
    go_wp2_with fail
    refine (spec_copy_c (r := r) w1 ⟨_, rfl, (hs.keep (SameIn.of_below H1.below (Nat.le_refl _))).more (Nat.le_refl _) H1.size⟩ hn).mono ?_
    rintro e w2 ⟨v2, rfl, ⟨s2, rfl, o2⟩, b2⟩
    obtain ⟨A2, c2, rfl, _, _⟩ := o2.rd
    have H2 := (H1.oiNew b2 o2).box 36 #[.int .i64 r.w, .slice A2 r.rows.length c2]
    clear b2 H1 x0 x1 o2
    go_wp2
    generalize w2.alloc (.cells #[.int .i64 r.w, .slice A2 r.rows.length c2] 36) = W2 at *
    go_loopw [7] (fun i wr => ∃ (k : Nat) (out : Reg) (A2 : Option Addr) (c2 : Nat), k ≤ l.length ∧ i = .int .i64 k ∧ Hid (r.applyTo (l.take k) = some out) ∧ Hid out.Valid ∧ Hid (out.w = r.w) ∧ Hid (out.rows.length = r.rows.length) ∧
      Sep w wr [Res.box w2.heap.size 36 #[.int .i64 r.w, .slice A2 r.rows.length c2], Res.row (.slice A2 r.rows.length c2) 3 1 r.rows.length (ic out.rows), Res.box (w.heap.size + 1) 36 #[.int .i64 0, .slice none 0 0],
        Res.box w.heap.size 36 #[.int .i64 r.w, .slice A r.rows.length c]]) (fun i _ => l.length - (intOf i).toNat)
    case atStart => exact ⟨0, r, A2, c2, Nat.zero_le _, rfl, Lib.hid rfl, HV, Lib.hid rfl, Lib.hid rfl, H2⟩
    case round =>
      clear H2
      obtain ⟨k, out, A2, c2, hk, rfl, HT, HO, HW, HL, H⟩ := hrel
      by_cases hlt : k < l.length
      · obtain ⟨b, off, e, rfl, _, hb, hla, q1, q2, q3⟩ := (hr'.keep (SameIn.of_below H.below (Nat.le_refl _))).at3 hlt
        have HLA := Lib.hid hla
        have hsz := H.size
        have hki0 : (0 : Int) ≤ (k : Int) := Int.natCast_nonneg _
        have hki1 : (k : Int) < (l.length : Int) := by omega
        clear hla hr'
        obtain ⟨ea, ex, ey⟩ := e
        simp only at q1 q2 q3
        have qw1 := (H.below.cell (p := ⟨b, off + k * 3, none⟩) hb).symm.trans q1
        have qw2 := (H.below.cell (p := ⟨b, off + k * 3 + 1, none⟩) hb).symm.trans q2
        have qw3 := (H.below.cell (p := ⟨b, off + k * 3 + 2, none⟩) hb).symm.trans q3
        have y0 := H.h0.cell 0
        have y1 := H.h0.cell 1
        simp at y0 y1
        have hrd : RegRd wr 0 wr.heap.size (.agg #[.int .i64 r.w, .slice A2 r.rows.length c2]) out := by
          refine ⟨_, by rw [HW.out], ?_⟩
          have := (H.g1.oi.sr).more (Nat.zero_le _) (Nat.le_refl _)
          rw [← HL.out] at this ⊢
          exact this
        obtain ⟨x, hx⟩ : ∃ x, x = (out.apply1 ⟨ea, ex, ey⟩).getD out := ⟨_, rfl⟩
        have hxs : x.Valid ∧ x.w = r.w ∧ x.rows.length = r.rows.length := by
          rw [hx]
          cases ha : out.apply1 ⟨ea, ex, ey⟩ with
          | none => exact ⟨HO.out, HW.out, HL.out⟩
          | some r' => have := Reg.apply1_valid HO.out ha; exact ⟨this.1, this.2.1.trans HW.out, this.2.2.trans HL.out⟩
        have hcall : ∀ W', Below wr.heap.size wr W' → Calls Tryz.prog 107 #[.agg #[.int .i64 r.w, .slice A2 r.rows.length c2], .agg #[.bool ea, .int .i64 ex, .int .i64 ey]] W' fun en w' => ∃ A3 c3,
            en = .returned (.tuple #[.agg #[.int .i64 r.w, .slice A3 r.rows.length c3], .bool (out.apply1 ⟨ea, ex, ey⟩).isSome]) ∧ OI w' W'.heap.size w'.heap.size 3 1 (.slice A3 r.rows.length c3) r.rows.length (ic x.rows) ∧ Below W'.heap.size W' w' := by
          intro W' hW'
          refine (spec_apply1_c (r := out) ⟨ea, ex, ey⟩ W' ((hrd.keep (SameIn.of_below hW' (Nat.le_refl _))).more (Nat.le_refl _) hW'.size) HO.out).mono ?_
          rintro en w3 ⟨v3, rfl, ⟨s3, rfl, o3⟩, b3⟩
          rw [← hx] at o3 ⊢
          obtain ⟨A3, c3, rfl, _, _⟩ := o3.rd
          have o4 : OI w3 W'.heap.size w3.heap.size 3 1 (.slice A3 x.rows.length c3) x.rows.length (ic x.rows) := o3
          rw [hxs.2.2] at o4 ⊢
          rw [hxs.2.1]
          exact ⟨A3, c3, rfl, o4, b3⟩
        have HCALL := Lib.hid hcall
        have HXS := Lib.hid hxs
        have HX := Lib.hid hx
        obtain ⟨q, hq⟩ : ∃ q, q = (out.apply1 ⟨ea, ex, ey⟩).isSome := ⟨_, rfl⟩
        have HQ := Lib.hid hq
        rw [← hq] at HCALL
        clear hcall hxs hx hq hrd
        go_wp2_with fail
        go_region_held3 (fun w' => w'.cell? ⟨w2.heap.size, 0, none⟩ = some (.int .i64 r.w) ∧ w'.cell? ⟨w2.heap.size, 1, none⟩ = some (.slice A2 r.rows.length c2) ∧ w'.cell? ⟨b, off + k * 3, none⟩ = some (.bool ea) ∧ w'.cell? ⟨b, off + k * 3 + 1, none⟩ = some (.int .i64 ex) ∧ w'.cell? ⟨b, off + k * 3 + 2, none⟩ = some (.int .i64 ey))
          (first | ((try dsimp only); refine ⟨?_, ?_, ?_, ?_, ?_⟩ <;> assumption) | go_keep)
          ((first
            | (go_at_call 107; (with_reducible refine (HCALL.out _ (below_drew (Below.refl wr.heap.size wr))).mono ?_); rintro en w3 ⟨A3, c3, rfl, o3, b3⟩; replace b3 := below_undrew b3; have H3 := H.oiNew b3 o3; have bc := bcell b3; have hwb : b < wr.heap.size := (by omega); have y0' := H3.h1.cell 0; have y1' := H3.h1.cell 1; have q1' := (bc.1 b _ hwb).trans q1; have q2' := (bc.1 b _ hwb).trans q2; have q3' := (bc.1 b _ hwb).trans q3; have n1 := H3.h1.lt; have n2 : b < w3.heap.size := (by have := b3.size; omega); clear bc; simp at y0' y1')
            | (go_at_call 107; (with_reducible refine (HCALL.out _ (below_drew ((Below.refl wr.heap.size wr).alloc (Nat.le_refl _) _))).mono ?_); rintro en w3 ⟨A3, c3, rfl, o3, b3⟩; have H3 := (H.box 36 #[.int .i64 0, .slice none 0 0]).drew.oiNew b3 o3; have bb : Below wr.heap.size wr w3 := (below_drew ((Below.refl wr.heap.size wr).alloc (Nat.le_refl _) _)).trans (b3.mono (by simp)); have bc := bcell bb; have hwb : b < wr.heap.size := (by omega); have y0' := H3.h2.cell 0; have y1' := H3.h2.cell 1; have g0' := H3.h1.cell 0; have g1' := H3.h1.cell 1; have f0' := H3.h1.frozen 0; have f1' := H3.h1.frozen 1; have q1' := (bc.1 b _ hwb).trans q1; have q2' := (bc.1 b _ hwb).trans q2; have q3' := (bc.1 b _ hwb).trans q3; have n1 := H.h0.lt; clear bc bb; simp at y0' y1' g0' g1'; have H4 := (H3.g1.set_ 0 (.int .i64 r.w)).set_ 1 (.slice A3 r.rows.length c3); have y0'' := H4.h2.cell 0; have y1'' := H4.h2.cell 1; have q1'' := (H4.below.cell (p := ⟨b, off + k * 3, none⟩) hb).trans qw1; have q2'' := (H4.below.cell (p := ⟨b, off + k * 3 + 1, none⟩) hb).trans qw2; have q3'' := (H4.below.cell (p := ⟨b, off + k * 3 + 2, none⟩) hb).trans qw3; simp at y0'' y1'')))
        · have H8 := H3.box 36 #[.int .i64 r.w, .slice A3 r.rows.length c3]
          clear y0' y1' q1' q2' q3' n1 n2 H H3 b3 o3 y0 y1 q1 q2 q3
          generalize w3.alloc (.cells #[.int .i64 r.w, .slice A3 r.rows.length c3] 36) = W8 at *
          have z0 := H8.h4.cell 0
          have z1 := H8.h4.cell 1
          have f0 := H8.h4.frozen 0
          have f1 := H8.h4.frozen 1
          have g0 := H8.h0.cell 0
          have g1 := H8.h0.cell 1
          have y0 := H8.h2.cell 0
          have y1 := H8.h2.cell 1
          have o0 := H8.h2.frozen 0
          have o1 := H8.h2.frozen 1
          simp at z0 z1 g0 g1 y0 y1
          cases q
          · have hnone : R = none := by
              rw [HR2.out]
              refine Reg.applyTo_stop HT.out HLA.out ?_
              have := HQ.out
              cases ha : out.apply1 ⟨ea, ex, ey⟩ with
              | none => rfl
              | some r' => rw [ha] at this; simp at this
            subst hnone
            clear g0 g1 y0 y1 o0 o1
            have H9 := H8.g4
            have H4 := (H9.set_ 0 (.int .i64 0)).set_ 1 (.slice none 0 0)
            have u0 := H4.h0.cell 0
            have u1 := H4.h0.cell 1
            simp at u0 u1
            go_wp2
            exact bodyPost_ret (v := .tuple #[.agg #[.int .i64 0, .slice none 0 0], .bool false]) (by simp [results, Tryz.results38, go_sem, u0, u1]) rfl ⟨_, rfl, ⟨_, rfl, IntsIn.nil⟩, H4.below⟩
          · have hsome : out.apply1 ⟨ea, ex, ey⟩ = some x := by
              have h1 := HQ.out
              have h2 := HX.out
              cases ha : out.apply1 ⟨ea, ex, ey⟩ with
              | none => rw [ha] at h1; simp at h1
              | some r' => rw [ha] at h2; simp at h2; rw [h2]
            have HS := Lib.hid hsome
            have H9 := ((((H8.g2.set_ 0 (.int .i64 r.w)).set_ 1 (.slice A3 r.rows.length c3)).p2).drop.g1.g2).drop
            clear hsome z0 z1 f0 f1
            go_wp2
            go_roundw
            case rel => exact ⟨k + 1, x, A3, c3, by omega, by go_num, Lib.hid (by rw [Reg.applyTo_succ HT.out HLA.out, HS.out]), Lib.hid HXS.out.1, Lib.hid HXS.out.2.1, Lib.hid HXS.out.2.2, H9⟩
            case measure => simp [intOf]; omega
        · have H8 := H4
          clear y0' y1' q1' q2' q3' n1 H H3 b3 o3 y0 y1 q1 q2 q3 H4 y0'' y1'' q1'' q2'' q3'' g0' g1' f0' f1'
          generalize (w3.setCell ⟨wr.heap.size, 0, none⟩ (.int .i64 r.w)).setCell ⟨wr.heap.size, 1, none⟩ (.slice A3 r.rows.length c3) = W8 at *
          have z0 := H8.h4.cell 0
          have z1 := H8.h4.cell 1
          have f0 := H8.h4.frozen 0
          have f1 := H8.h4.frozen 1
          have g0 := H8.h0.cell 0
          have g1 := H8.h0.cell 1
          have y0 := H8.h2.cell 0
          have y1 := H8.h2.cell 1
          have o0 := H8.h2.frozen 0
          have o1 := H8.h2.frozen 1
          simp at z0 z1 g0 g1 y0 y1
          cases q
          · have hnone : R = none := by
              rw [HR2.out]
              refine Reg.applyTo_stop HT.out HLA.out ?_
              have := HQ.out
              cases ha : out.apply1 ⟨ea, ex, ey⟩ with
              | none => rfl
              | some r' => rw [ha] at this; simp at this
            subst hnone
            clear g0 g1 y0 y1 o0 o1
            have H9 := H8.g4
            have H4 := (H9.set_ 0 (.int .i64 0)).set_ 1 (.slice none 0 0)
            have u0 := H4.h0.cell 0
            have u1 := H4.h0.cell 1
            simp at u0 u1
            go_wp2
            exact bodyPost_ret (v := .tuple #[.agg #[.int .i64 0, .slice none 0 0], .bool false]) (by simp [results, Tryz.results38, go_sem, u0, u1]) rfl ⟨_, rfl, ⟨_, rfl, IntsIn.nil⟩, H4.below⟩
          · have hsome : out.apply1 ⟨ea, ex, ey⟩ = some x := by
              have h1 := HQ.out
              have h2 := HX.out
              cases ha : out.apply1 ⟨ea, ex, ey⟩ with
              | none => rw [ha] at h1; simp at h1
              | some r' => rw [ha] at h2; simp at h2; rw [h2]
            have HS := Lib.hid hsome
            have H9 := ((((H8.g2.set_ 0 (.int .i64 r.w)).set_ 1 (.slice A3 r.rows.length c3)).p2).drop.g1.g2).drop
            clear hsome z0 z1 f0 f1
            go_wp2
            go_roundw
            case rel => exact ⟨k + 1, x, A3, c3, by omega, by go_num, Lib.hid (by rw [Reg.applyTo_succ HT.out HLA.out, HS.out]), Lib.hid HXS.out.1, Lib.hid HXS.out.2.1, Lib.hid HXS.out.2.2, H9⟩
            case measure => simp [intOf]; omega
      · obtain rfl : k = l.length := by omega
        have hsome : R = some out := by rw [HR2.out, ← HT.out, List.take_length]
        subst hsome
        have z0 := H.h2.cell 0
        have z1 := H.h2.cell 1
        have f0 := H.h2.frozen 0
        have f1 := H.h2.frozen 1
        have y0 := H.h0.cell 0
        have y1 := H.h0.cell 1
        simp at y0 y1 z0 z1
        have H4 := (H.g2.set_ 0 (.int .i64 r.w)).set_ 1 (.slice A2 r.rows.length c2)
        have u0 := H4.h0.cell 0
        have u1 := H4.h0.cell 1
        simp at u0 u1
        go_wp2
        refine bodyPost_ret (v := .tuple #[.agg #[.int .i64 r.w, .slice A2 r.rows.length c2], .bool true]) (by simp [results, Tryz.results38, go_sem, u0, u1]) rfl ⟨_, rfl, ⟨_, by rw [Option.getD_some, HW.out], ?_⟩, H4.below⟩
        have := H4.g2.oi
        rw [← HL.out] at this ⊢
        exact this
  · have hnone : R = none := by
      rw [HR.out, Reg.applyEds]
      split
      · rename_i h
        simp at h
        exact absurd h hq
      · rfl
    subst hnone
    have z0 := H1.h0.cell 0
    have z1 := H1.h0.cell 1
    have f0 := H1.h0.frozen 0
    have f1 := H1.h0.frozen 1
    simp at z0 z1
    cases hv : r.valid
    · clear hq
      have H4 := (H1.set_ 0 (.int .i64 0)).set_ 1 (.slice none 0 0)
      have u0 := H4.h0.cell 0
      have u1 := H4.h0.cell 1
      simp at u0 u1
      go_wp2
      exact bodyPost_ret (v := .tuple #[.agg #[.int .i64 0, .slice none 0 0], .bool false]) (by simp [results, Tryz.results38, go_sem, u0, u1]) rfl ⟨_, rfl, ⟨_, rfl, IntsIn.nil⟩, H4.below⟩
    · have hl' : ¬ (l.length : Int) ≤ 40 := by intro h; exact hq ⟨hv, by omega⟩
      clear hq
      have H4 := (H1.set_ 0 (.int .i64 0)).set_ 1 (.slice none 0 0)
      have u0 := H4.h0.cell 0
      have u1 := H4.h0.cell 1
      simp at u0 u1
      go_wp2
      exact bodyPost_ret (v := .tuple #[.agg #[.int .i64 0, .slice none 0 0], .bool false]) (by simp [results, Tryz.results38, go_sem, u0, u1]) rfl ⟨_, rfl, ⟨_, rfl, IntsIn.nil⟩, H4.below⟩
end Go.Proofs.YtfildenelgbmlaaGreatDoor

namespace Go.Proofs.YtfildenelgbmlaaGreatDoor
open Go.RowKit

set_option maxRecDepth 100000 in
theorem infoEd : (Tryz.prog.info? 110).map (fun i => (i.zero, i.size, i.bytes)) = some (some (.agg #[.bool false, .int .i64 0, .int .i64 0]), 3, 24) := by kernel_rfl
theorem rowInts {w : World} {e : TypeId} {v : Value} {l : List Int} (h : w.ownsRow 0 e 1 v l.length (ic l)) : IntsRd w 0 w.heap.size v l := by
  obtain ⟨A, c, rfl, h1, h2, hr⟩ := own_rd h
  exact ⟨A, c, rfl, by omega, hr⟩
theorem rowReg {w : World} {e : TypeId} {v : Value} {r : Reg} (h : w.ownsRow 0 e 1 v r.rows.length (ic r.rows)) : RegRd w 0 w.heap.size (.agg #[.int .i64 r.w, v]) r := ⟨v, rfl, rowInts h⟩
theorem edc_snoc {M : List Ed} {e : Ed} : edc M ++ [.bool e.add, .int .i64 e.x, .int .i64 e.y] = edc (M ++ [e]) := by rw [edc_append]; rfl

set_option maxRecDepth 100000 in
set_option maxHeartbeats 6400000 in
theorem l29Edits_c {g : Nat} {l : List UInt8} {w0 w : World} {L : List Res} {r : Reg} {A : Option Addr} {c : Nat} (hd : DrawnR r) {K : Res} (hK : ∀ w, K.holds w → IntsRd w 0 w.heap.size (.slice A r.rows.length c) r.rows) (H : Cur w0 w g l (K :: L)) :
    Calls Tryz.prog 108 #[.pointer (some ⟨g, 0, none⟩), .agg #[.int .i64 r.w, .slice A r.rows.length c]] w fun e w' => ∃ v M, e = .returned v ∧ M.length ≤ 5 ∧ Cur w0 w' g l (Res.row v 110 3 M.length (edc M) :: K :: L) := by
  obtain ⟨i0, hi, hz0, hz1, hz2⟩ := info_parts infoEd
  have hr20 := hd.2
  have hr1 := hd.1
  have H0 := H.map (fun X h => ((h.box 36 #[.int .i64 r.w, .slice A r.rows.length c]).rowBox 110 #[] 3 0 rfl (by decide)).g2)
  simp only [World.size_alloc] at H0
  clear H hd
  go_enter Tryz.func108, Tryz.ntmps108
  go_wp2_with fail
  obtain ⟨g3, hg3⟩ : ∃ g3, g3 = w.heap.size := ⟨_, rfl⟩
  rw [← hg3] at H0 ⊢
  generalize (w.alloc (.cells #[.int .i64 r.w, .slice A r.rows.length c] 36)).alloc (.cells #[] 110) = W at *
  clear hg3
  refine (spec_copy_c (r := r) W ⟨_, rfl, hK _ H0.sep.h2⟩ (by omega)).mono ?_
  rintro e w1 ⟨v1, rfl, ⟨s1, rfl, o1⟩, b1⟩
  obtain ⟨A1, c1, rfl, _, _⟩ := o1.rd
  have H1 := H0.map (fun X h => ((h.oiNew b1 o1).box 36 #[.int .i64 r.w, .slice A1 r.rows.length c1]).g2)
  clear H0 o1 b1
  go_wp2_with fail
  obtain ⟨g6, hg6⟩ : ∃ g6, g6 = w1.heap.size := ⟨_, rfl⟩
  rw [← hg6] at H1 ⊢
  generalize w1.alloc (.cells #[.int .i64 r.w, .slice A1 r.rows.length c1] 36) = w2 at *
  clear hg6
  refine (l1Below_c 5 H1 (by omega)).mono ?_
  rintro e w3 ⟨n, rfl, hn1, hn2, _, H3⟩
  have hn4 := hn2 (by omega)
  clear hn2 H1
  have H4 := H3.map (fun X h => h.g3.g1)
  clear H3
  go_wp2
  go_loopw [5, 7] (fun ev nv wr => ∃ (k : Int) (M : List Ed) (x : Reg) (Ax : Option Addr) (cx : Nat), nv = .int .i64 k ∧ 0 ≤ k ∧ (M.length : Int) + k ≤ 4 ∧ x.rows.length ≤ 20 ∧ Hid (r.Valid → x.Valid) ∧
    Cur w0 wr g l (Res.row ev 110 3 M.length (edc M) :: Res.box g6 36 #[.int .i64 x.w, .slice Ax x.rows.length cx] :: Res.row (.slice Ax x.rows.length cx) 3 1 x.rows.length (ic x.rows) :: Res.box g3 36 #[.int .i64 r.w, .slice A r.rows.length c] :: K :: L)) (fun _ nv _ => (intOf nv).toNat)
  case atStart => exact ⟨n, [], r, A1, c1, rfl, hn1, by simp; omega, hr20, Lib.hid id, H4⟩
  case round =>
    clear H4 hn1 hn4
    obtain ⟨k, M, x, Ax, cx, rfl, hk0, hkM, hx20, HXV, H⟩ := hrel
    by_cases hk : 0 < k
    · have y0 := H.sep.h3.cell 0
      have y1 := H.sep.h3.cell 1
      simp at y0 y1
      have HIR := Lib.hid (spec_IsRegion_c (r := r) wr ⟨_, rfl, hK _ H.sep.h4⟩)
      cases hv : r.valid
      · rw [hv] at HIR
        go_wp2_with fail
        refine (HIR.out).mono ?_
        rintro e w9 ⟨rfl, b9⟩
        replace H := H.map (fun X h => h.step b9)
        clear y0 y1 b9 HIR hv
        go_wp2_with fail
        refine (l1Once_c 12 H (by omega)).mono ?_
        rintro e w2 ⟨q, rfl, H2⟩
        clear H
        cases q
        · go_wp2
          go_ret
          exact ⟨_, M, rfl, by omega, H2.map (fun X h => h.g2.drop.g2.drop.g2.drop)⟩
        · have H3 := H2.map (fun X h => (h.rowBox 3 #[.int .i64 (-1), .int .i64 0, .int .i64 6] 1 3 rfl (by decide)).g1)
          clear H2
          go_wp2_with fail
          refine (l1Pick_c (n := 3) (b := w2.heap.size) (xs := [-1, 0, 6]) rfl (by omega) (by omega) H3).mono ?_
          rintro e w3 ⟨x1, rfl, _, H4⟩
          clear H3
          go_wp2_with fail
          refine (l1Below_c 3 H4 (by omega)).mono ?_
          rintro e w4 ⟨y1, rfl, _, _, _, H5⟩
          have H6 := H5.map (fun X h => h.g1.drop)
          clear H4 H5
          obtain ⟨B, cb, ci, ch, e1, e2, e3, e4, e5, HS⟩ := H6
          have HS' := HS.g1
          clear HS
          go_wp2_with (at_builtin; refine wpList_app rfl _ _ 57 rfl 110 i0 _ 3 24 Tryz.underlying57 hi hz0 hz1 hz2 rfl (by decide) _ _ _ rfl (HS'.alloc _) _ _ _ [.bool false, .int .i64 x1, .int .i64 y1] rfl (Rd.fresh w4 _ #[.bool false, .int .i64 x1, .int .i64 y1] 3 1 rfl) oc3 (by unfold maxLen; omega) (by omega) ?_; intro v5 w5 H7)
          have hls : (M ++ [(⟨false, x1, y1⟩ : Ed)]).length = M.length + 1 := by simp
          have hcc : edc M ++ [.bool false, .int .i64 x1, .int .i64 y1] = edc (M ++ [⟨false, x1, y1⟩]) := edc_snoc (e := ⟨false, x1, y1⟩)
          rw [hcc, ← hls] at H7
          clear HS' hcc
          have HLS := Lib.hid hls
          clear hls
          go_wp2
          go_ret
          exact ⟨v5, M ++ [(⟨false, x1, y1⟩ : Ed)], rfl, by rw [HLS.out]; omega, B, cb, ci, ch, e1, e2, e3, e4, e5, H7.g1.g2.drop.g2.drop.g2.drop⟩
      · have hxv := HXV.out (Reg.valid_iff.1 hv)
        have hrv := Reg.valid_iff.1 hv
        have hw6 := hrv.2.1
        have hw1 := hrv.1
        have HXD := Lib.hid hxv
        rw [hv] at HIR
        clear hrv hxv hv
        go_wp2_with fail
        refine (HIR.out).mono ?_
        rintro e w9 ⟨rfl, b9⟩
        have H1 := H.map (fun X h => h.step b9)
        clear y0 y1 b9 HIR H
        have y0 := H1.sep.h3.cell 0
        have y1 := H1.sep.h3.cell 1
        simp at y0 y1
        go_wp2_with fail
        refine (l1Below_c r.w H1 (by omega)).mono ?_
        rintro e w10 ⟨ex, rfl, hx1, hx2, _, H2⟩
        clear y0 y1 H1
        have y0 := H2.sep.h3.cell 0
        have y1 := H2.sep.h3.cell 1
        simp at y0 y1
        go_wp2_with fail
        refine (l1Below_c (r.rows.length : Int) H2 (by omega)).mono ?_
        rintro e w11 ⟨ey, rfl, hy1, hy2, _, H3⟩
        clear y0 y1 H2 hx2 hy2
        have x0 := H3.sep.h1.cell 0
        have x1 := H3.sep.h1.cell 1
        simp at x0 x1
        go_wp2_with fail
        refine (spec_has_c (r := x) ex ey w11 (rowReg H3.sep.h2) HXD.out).mono ?_
        rintro e w12 ⟨rfl, b12⟩
        generalize x.has ex ey = hs at *
        have H4 := H3.map (fun X h => ((h.step b12).box 110 #[.bool (!hs), .int .i64 ex, .int .i64 ey]).g1)
        clear H3 x0 x1 b12
        go_upto_region 9 with fail
        obtain ⟨g10, hg10⟩ : ∃ k, k = w12.heap.size := ⟨_, rfl⟩
        rw [← hg10] at H4 ⊢
        generalize w12.alloc (.cells #[.bool (!hs), .int .i64 ex, .int .i64 ey] 110) = w13 at *
        clear hg10
        obtain ⟨B, cb, ci, ch, e1, e2, e3, e4, e5, HS⟩ := H4
        have HS' := HS.g2
        clear HS
        have q0 := HS'.h2.cell 0
        have q1 := HS'.h2.cell 1
        have q2 := HS'.h2.cell 2
        simp at q0 q1 q2
        go_wp2_with (at_builtin; refine wpList_app rfl _ _ 57 rfl 110 i0 _ 3 24 Tryz.underlying57 hi hz0 hz1 hz2 rfl (by decide) _ _ _ rfl (HS'.alloc _) _ _ _ [.bool (!hs), .int .i64 ex, .int .i64 ey] rfl (Rd.fresh w13 _ #[.bool (!hs), .int .i64 ex, .int .i64 ey] 3 1 rfl) oc3 (by unfold maxLen; omega) (by omega) ?_; intro v5 w14 H7; clear q0 q1 q2; have q0 := H7.h2.cell 0; have q1 := H7.h2.cell 1; have q2 := H7.h2.cell 2; have x0 := H7.h3.cell 0; have x1 := H7.h3.cell 1; simp at q0 q1 q2 x0 x1)
        have hls : (M ++ [(⟨!hs, ex, ey⟩ : Ed)]).length = M.length + 1 := by simp
        have hcc : edc M ++ [.bool (!hs), .int .i64 ex, .int .i64 ey] = edc (M ++ [⟨!hs, ex, ey⟩]) := edc_snoc (e := ⟨!hs, ex, ey⟩)
        rw [hcc, ← hls] at H7
        have HLS := Lib.hid hls
        have HAP := Lib.hid (spec_apply1_c (r := x) ⟨!hs, ex, ey⟩ w14 (rowReg H7.h4) HXD.out)
        obtain ⟨x', hx'⟩ : ∃ x', x' = (x.apply1 ⟨!hs, ex, ey⟩).getD x := ⟨_, rfl⟩
        obtain ⟨ok, hok⟩ : ∃ ok, ok = (x.apply1 ⟨!hs, ex, ey⟩).isSome := ⟨_, rfl⟩
        have hv' : x'.Valid := by
          rw [hx']
          cases ha : x.apply1 ⟨!hs, ex, ey⟩ with
          | none => exact HXD.out
          | some y => exact (Reg.apply1_valid HXD.out ha).1
        have hx'l : x'.rows.length ≤ 20 := by have := hv'.2.2.2.1; omega
        rw [← hx', ← hok] at HAP
        have HV' := Lib.hid hv'
        simp only at HAP
        clear hx' hok hv' hcc hls HS'
        go_wp2_with fail
        refine (HAP.out).mono ?_
        rintro e w15 ⟨v1, rfl, ⟨s1, rfl, o8⟩, b8⟩
        obtain ⟨A8, c8, rfl, _, _⟩ := o8.rd
        clear q0 q1 q2 x0 x1 HAP
        have H8 := (H7.g1.oiNew b8 o8).g4
        have x0 := H8.h0.cell 0
        have x1 := H8.h0.cell 1
        have f0 := H8.h0.frozen 0
        have f1 := H8.h0.frozen 1
        simp at x0 x1
        have H9 := ((H8.set_ 0 (.int .i64 x'.w)).set_ 1 (.slice A8 x'.rows.length c8)).g4.drop.g4.drop.g3.g3
        clear H8 H7 b8 o8
        go_wp2
        go_roundw
        case rel => exact ⟨k - 1, M ++ [⟨!hs, ex, ey⟩], x', A8, c8, by go_num, by omega, by rw [HLS.out]; omega, hx'l, Lib.hid fun _ => HV'.out, B, cb, ci, ch, e1, e2, e3, e4, e5, H9⟩
        case measure => simp [intOf]; omega
    · skip
      go_wp2_with fail
      refine (l1Once_c 12 H (by omega)).mono ?_
      rintro e w2 ⟨q, rfl, H2⟩
      clear H
      cases q
      · go_wp2
        go_ret
        exact ⟨_, M, rfl, by omega, H2.map (fun X h => h.g2.drop.g2.drop.g2.drop)⟩
      · have H3 := H2.map (fun X h => (h.rowBox 3 #[.int .i64 (-1), .int .i64 0, .int .i64 6] 1 3 rfl (by decide)).g1)
        clear H2
        go_wp2_with fail
        refine (l1Pick_c (n := 3) (b := w2.heap.size) (xs := [-1, 0, 6]) rfl (by omega) (by omega) H3).mono ?_
        rintro e w3 ⟨x1, rfl, _, H4⟩
        clear H3
        go_wp2_with fail
        refine (l1Below_c 3 H4 (by omega)).mono ?_
        rintro e w4 ⟨y1, rfl, _, _, _, H5⟩
        have H6 := H5.map (fun X h => h.g1.drop)
        clear H4 H5
        obtain ⟨B, cb, ci, ch, e1, e2, e3, e4, e5, HS⟩ := H6
        have HS' := HS.g1
        clear HS
        go_wp2_with (at_builtin; refine wpList_app rfl _ _ 57 rfl 110 i0 _ 3 24 Tryz.underlying57 hi hz0 hz1 hz2 rfl (by decide) _ _ _ rfl (HS'.alloc _) _ _ _ [.bool false, .int .i64 x1, .int .i64 y1] rfl (Rd.fresh w4 _ #[.bool false, .int .i64 x1, .int .i64 y1] 3 1 rfl) oc3 (by unfold maxLen; omega) (by omega) ?_; intro v5 w5 H7)
        have hls : (M ++ [(⟨false, x1, y1⟩ : Ed)]).length = M.length + 1 := by simp
        have hcc : edc M ++ [.bool false, .int .i64 x1, .int .i64 y1] = edc (M ++ [⟨false, x1, y1⟩]) := edc_snoc (e := ⟨false, x1, y1⟩)
        rw [hcc, ← hls] at H7
        clear HS' hcc
        have HLS := Lib.hid hls
        clear hls
        go_wp2
        go_ret
        exact ⟨v5, M ++ [(⟨false, x1, y1⟩ : Ed)], rfl, by rw [HLS.out]; omega, B, cb, ci, ch, e1, e2, e3, e4, e5, H7.g1.g2.drop.g2.drop.g2.drop⟩
end Go.Proofs.YtfildenelgbmlaaGreatDoor

namespace Go.Proofs.YtfildenelgbmlaaGreatDoor
open Go.RowKit

theorem rowEds {w : World} {lo : Nat} {v : Value} {M : List Ed} (h : (Res.row v 110 3 M.length (edc M)).holds w) (hd : ∀ b, (Res.row v 110 3 M.length (edc M)).dom b → lo ≤ b) : EdsRd w lo w.heap.size v M := by
  have hw : w.ownsRow 0 110 3 v M.length (edc M) := h
  have h1 : w.ownsRow lo 110 3 v M.length (edc M) := ⟨hw.1, by
    rcases hw.2 with hn | ⟨g, cap, cur, rfl, hbg, rest⟩
    · exact .inl hn
    · exact .inr ⟨g, cap, cur, rfl, hd g (by simp [Res.row, Value.ownBlock]), rest⟩⟩
  obtain ⟨A, c, rfl, h3, h4, hr⟩ := own_rd h1
  exact ⟨A, c, rfl, by omega, hr⟩
theorem ap_len {r : Reg} {M : List Ed} (h : r.rows.length ≤ 20) : ((r.applyEds M).getD ⟨0, []⟩).rows.length ≤ 20 := by
  cases ha : r.applyEds M with
  | none => simp
  | some y =>
    unfold Reg.applyEds at ha
    split at ha
    · rename_i hc
      rw [Bool.and_eq_true] at hc
      have hv := Reg.valid_iff.1 hc.1
      have : y.rows.length = r.rows.length := by
        have key : ∀ (l : List Ed) (r o : Reg), r.applyTo l = some o → o.rows.length = r.rows.length := by
          intro l
          induction l with
          | nil => intro r o h; injection h with h; rw [h]
          | cons e l ih =>
            intro r o h
            unfold Reg.applyTo at h
            rw [List.foldlM_cons] at h
            cases hb : r.apply1 e with
            | none => rw [hb] at h; cases h
            | some r' =>
              rw [hb] at h
              have h1 := ih r' o h
              unfold Reg.apply1 at hb
              split at hb
              · injection hb with hb
                rw [h1, ← hb, Reg.flip_len]
              · cases hb
        exact key M r y ha
      simp only [Option.getD_some]
      omega
    · cases ha
theorem SR_up {w : World} {lo hi lo' sz n : Nat} {v : Value} {xs : List Value} (h : SR w lo hi sz v n xs) (h2 : lo < hi → hi ≤ w.heap.size) (h1 : lo' ≤ lo) : SR w lo' w.heap.size sz v n xs := by
  obtain ⟨A, c, rfl, hm, hr⟩ := h
  refine ⟨A, c, rfl, hm, hr.1, fun hn => ?_⟩
  obtain ⟨b, off, e, h3, h4, hc⟩ := hr.2 hn
  exact ⟨b, off, e, by omega, by have := h2 (by omega); omega, hc⟩
theorem Reg_up {w : World} {lo hi lo' : Nat} {v : Value} {r : Reg} (h : RegRd w lo hi v r) (h2 : lo < hi → hi ≤ w.heap.size) (h1 : lo' ≤ lo) : RegRd w lo' w.heap.size v r := by
  obtain ⟨s, rfl, h⟩ := h
  exact ⟨s, rfl, SR_up h h2 h1⟩
theorem SS_up {w : World} {lo hi lo' : Nat} {v : Value} {ps : List (List Cell)} (h : CellSSRd w lo hi v ps) (h2 : lo < hi → hi ≤ w.heap.size) (h1 : lo' ≤ lo) : CellSSRd w lo' w.heap.size v ps := by
  obtain ⟨vs, h, hs⟩ := h
  exact ⟨vs, SR_up h h2 h1, hs.1, fun i u hu => by
    obtain ⟨x, e1, e2⟩ := hs.2 i u hu
    exact ⟨x, e1, SR_up e2 h2 h1⟩⟩
theorem regOf {w : World} {v : Value} {r : Reg} (h : IntsRd w 0 w.heap.size v r.rows) : RegRd w 0 w.heap.size (.agg #[.int .i64 r.w, v]) r := ⟨v, rfl, h⟩
/-- a drawn region with edits -/
def RegEds (w : World) : Ending → World → Prop := fun e w' => ∃ (vr ve : Value) (r : Reg) (M : List Ed), e = .returned (.tuple #[vr, ve]) ∧ DrawnR r ∧ M.length ≤ 5 ∧ RegRd w' w.heap.size w'.heap.size vr r ∧ EdsRd w' w.heap.size w'.heap.size ve M ∧ Below w.heap.size w w'
set_option maxRecDepth 100000 in
set_option maxHeartbeats 1600000 in
theorem l29Both_c {v : Value} {l : List UInt8} (w : World) (h : BytesRd w 0 w.heap.size v l) (hn : l.length ≤ 1048576) :
    Calls Tryz.prog 101 #[v] w (RegEds w) := by
  have H := (Sep.start w).box 36 #[.int .i64 0, .slice none 0 0]
  go_enter Tryz.func101, Tryz.ntmps101
  go_wp2_with fail
  obtain ⟨gz, hgz⟩ : ∃ gz : World, gz = w := ⟨_, rfl⟩
  subst hgz
  generalize gz.alloc (.cells #[.int .i64 0, .slice none 0 0] 36) = W at *
  refine (l1New_c h hn H).mono ?_
  rintro e w1 ⟨g, rfl, H1⟩
  clear H h
  go_wp2_with fail
  refine (l6Any_c H1).mono ?_
  rintro e w2 ⟨r, A, c, rfl, hd, H2⟩
  have H3 := H2.map (fun X h => (h.box 36 #[.int .i64 r.w, .slice A r.rows.length c]).p2)
  clear H1 H2
  go_upto_region 3 with fail
  obtain ⟨g5, hg5⟩ : ∃ k, k = w2.heap.size := ⟨_, rfl⟩
  rw [← hg5] at H3 ⊢
  generalize w2.alloc (.cells #[.int .i64 r.w, .slice A r.rows.length c] 36) = w3 at *
  clear hg5
  have x0 := H3.sep.h1.cell 0
  have x1 := H3.sep.h1.cell 1
  have z0 := H3.sep.h2.cell 0
  have z1 := H3.sep.h2.cell 1
  have f0 := H3.sep.h2.frozen 0
  have f1 := H3.sep.h2.frozen 1
  simp at x0 x1 z0 z1
  go_region_with ((first
    | (go_at_call 108; refine (l29Edits_c hd (fun w hw => rowInts hw) (by exact H3.map (fun X h => h.drew))).mono ?_; rintro e w4 ⟨ve, M, rfl, hM, H4⟩; have x0' := H4.sep.h2.cell 0; have x1' := H4.sep.h2.cell 1; have z0' := H4.sep.h3.cell 0; have z1' := H4.sep.h3.cell 1; have f0' := H4.sep.h3.frozen 0; have f1' := H4.sep.h3.frozen 1; simp at x0' x1' z0' z1')))
  all_goals
    have Hf := (H4.sep.g3.set_ 0 (.int .i64 r.w)).set_ 1 (.slice A r.rows.length c)
    have u0 := Hf.h0.cell 0
    have u1 := Hf.h0.cell 1
    simp at u0 u1
    obtain ⟨Ap, cp, rfl, _, _, _⟩ := Res.row_at H4.sep.h0
    have HD := Lib.hid hd
    clear x0 x1 z0 z1 f0 f1 x0' x1' z0' z1' f0' f1' H3 H4 hd
    go_wp2
    exact bodyPost_ret (v := .tuple #[.agg #[.int .i64 r.w, .slice A r.rows.length c], .slice Ap M.length cp]) (by simp [results, Tryz.results101, go_sem, u0, u1]) rfl ⟨_, _, r, M, rfl, HD.out, hM, ⟨_, rfl, IntsIn.rd Hf.g2.oi⟩, rowEds Hf.h1 Hf.drop.2.1, Hf.below⟩
set_option maxRecDepth 100000 in
set_option maxHeartbeats 1600000 in
theorem drawApply_c {v : Value} {l : List UInt8} (w : World) (h : BytesRd w 0 w.heap.size v l) (hn : l.length ≤ 1048576) :
    Calls Tryz.prog 36 #[v] w (RegEds w) := by
  have H := (Sep.start w).box 36 #[.int .i64 0, .slice none 0 0]
  go_enter Tryz.func36, Tryz.ntmps36
  go_wp2_with fail
  obtain ⟨gz, hgz⟩ : ∃ gz : World, gz = w := ⟨_, rfl⟩
  subst hgz
  generalize gz.alloc (.cells #[.int .i64 0, .slice none 0 0] 36) = W at *
  refine (l29Both_c W ((h.keep (SameIn.of_below H.below (Nat.le_refl _))).more (Nat.le_refl _) H.size) hn).mono ?_
  rintro e w1 ⟨vr, ve, r, M, rfl, hd, hM, hr, he, b1⟩
  have hsz := H.size
  have H1 := Sep.area H b1 (P := fun u => RegRd u W.heap.size w1.heap.size vr r ∧ EdsRd u W.heap.size w1.heap.size ve M) (fun u u' hs hp => ⟨hp.1.keep hs, hp.2.keep hs⟩) ⟨hr, he⟩
  have HD := Lib.hid hd
  obtain ⟨s, rfl, A, c, rfl, _, _⟩ := hr
  obtain ⟨Ae, ce, rfl, _, _⟩ := he
  have H2 := H1.box 36 #[.int .i64 r.w, .slice A r.rows.length c]
  clear H H1 b1 hd
  go_upto_region 2 with fail
  generalize w1.alloc (.cells #[.int .i64 r.w, .slice A r.rows.length c] 36) = w2 at *
  have x0 := H2.h0.cell 0
  have x1 := H2.h0.cell 1
  have z0 := H2.h2.cell 0
  have z1 := H2.h2.cell 1
  have f0 := H2.h2.frozen 0
  have f1 := H2.h2.frozen 1
  simp at x0 x1 z0 z1
  have Hf := (H2.g2.set_ 0 (.int .i64 r.w)).set_ 1 (.slice A r.rows.length c)
  have u0 := Hf.h0.cell 0
  have u1 := Hf.h0.cell 1
  simp at u0 u1
  go_wp2
  exact bodyPost_ret (v := .tuple #[.agg #[.int .i64 r.w, .slice A r.rows.length c], .slice Ae M.length ce]) (by simp [results, Tryz.results36, go_sem, u0, u1]) rfl ⟨_, _, r, M, rfl, HD.out, hM, Reg_up Hf.h2.1.1 Hf.h2.2 hsz, SR_up Hf.h2.1.2 Hf.h2.2 hsz, Hf.below⟩
set_option maxRecDepth 100000 in
set_option maxHeartbeats 800000 in
theorem drawFmt_c {v : Value} {l : List UInt8} (w : World) (h : BytesRd w 0 w.heap.size v l) (hn : l.length ≤ 1048576) :
    Calls Tryz.prog 50 #[v] w fun e w' => ∃ (ve : Value) (M : List Ed), e = .returned ve ∧ M.length ≤ 5 ∧ EdsRd w' 0 w'.heap.size ve M ∧ Below w.heap.size w w' := by
  go_enter Tryz.func50, Tryz.ntmps50
  go_wp2_with fail
  refine (l29Both_c w h hn).mono ?_
  rintro e w1 ⟨vr, ve, r, M, rfl, hd, hM, hr, he, b1⟩
  have HE := Lib.hid he
  obtain ⟨s, rfl, A, c, rfl, _, _⟩ := hr
  obtain ⟨Ae, ce, rfl, _, _⟩ := he
  have bx : Below w1.heap.size w1 (w1.alloc (.cells #[.int .i64 r.w, .slice A r.rows.length c] 36)) := ((Sep.start w1).box 36 #[.int .i64 r.w, .slice A r.rows.length c]).below
  have HB := Lib.hid (b1.trans (bx.mono b1.size))
  have HE2 := Lib.hid ((HE.out.keep (SameIn.of_below bx (Nat.le_refl _))).more (Nat.zero_le _) bx.size)
  clear HE bx b1 h hd
  go_wp2
  go_ret
  exact ⟨_, M, rfl, hM, HE2.out, HB.out⟩
/-- two drawn regions -/
def RegReg (w : World) : Ending → World → Prop := fun e w' => ∃ (va vb : Value) (a b : Reg), e = .returned (.tuple #[va, vb]) ∧ a.rows.length ≤ 20 ∧ b.rows.length ≤ 20 ∧ RegRd w' 0 w'.heap.size va a ∧ RegRd w' 0 w'.heap.size vb b ∧ Below w.heap.size w w'
set_option maxRecDepth 100000 in
set_option maxHeartbeats 3200000 in
theorem drawBetw_c {v : Value} {l : List UInt8} (w : World) (h : BytesRd w 0 w.heap.size v l) (hn : l.length ≤ 1048576) :
    Calls Tryz.prog 40 #[v] w (RegReg w) := by
  have H := ((Sep.start w).box 36 #[.int .i64 0, .slice none 0 0]).box 36 #[.int .i64 0, .slice none 0 0]
  simp only [World.size_alloc] at H
  go_enter Tryz.func40, Tryz.ntmps40
  go_wp2_with fail
  obtain ⟨gz, hgz⟩ : ∃ gz : World, gz = w := ⟨_, rfl⟩
  subst hgz
  generalize (gz.alloc (.cells #[.int .i64 0, .slice none 0 0] 36)).alloc (.cells #[.int .i64 0, .slice none 0 0] 36) = W at *
  refine (l1New_c h hn H).mono ?_
  rintro e w1 ⟨g, rfl, H1⟩
  clear H h
  go_wp2_with fail
  refine (l6Any_c H1).mono ?_
  rintro e w2 ⟨r, A, c, rfl, hd, H2⟩
  have H3 := H2.map (fun X h => (h.box 36 #[.int .i64 r.w, .slice A r.rows.length c]).p2)
  have hr20 := hd.2
  have hr21 : r.rows.length ≤ 1048576 := by omega
  have HD := Lib.hid hd
  clear H1 H2 hd
  go_upto_region 3 with fail
  obtain ⟨g5, hg5⟩ : ∃ k, k = w2.heap.size := ⟨_, rfl⟩
  rw [← hg5] at H3 ⊢
  generalize w2.alloc (.cells #[.int .i64 r.w, .slice A r.rows.length c] 36) = w3 at *
  clear hg5
  have x0 := H3.sep.h1.cell 0
  have x1 := H3.sep.h1.cell 1
  simp at x0 x1
  have HK : Hid (∀ w : World, (Res.row (.slice A r.rows.length c) 3 1 r.rows.length (ic r.rows)).holds w → IntsRd w 0 w.heap.size (.slice A r.rows.length c) r.rows) := Lib.hid fun w hw => rowInts hw
  go_region_held3 (fun w' => w'.cell? ⟨g5, 0, none⟩ = some (.int .i64 r.w) ∧ w'.cell? ⟨g5, 1, none⟩ = some (.slice A r.rows.length c))
    (first | ((try dsimp only); refine ⟨?_, ?_⟩ <;> assumption) | go_keep)
    (first
    | (go_at_call 108; (with_reducible refine (l29Edits_c HD.out HK.out (H3.map (fun X h => h.drew))).mono ?_); rintro e w4 ⟨ve, M, rfl, hM, H4⟩; obtain ⟨Ae, ce, rfl, _, _, _⟩ := Res.row_at H4.sep.h0; have x0' := H4.sep.h2.cell 0; have x1' := H4.sep.h2.cell 1; simp at x0' x1'; have H4b := H4.map (fun X h => (h.box 36 #[.int .i64 0, .slice none 0 0]).g1); have y0' := H4b.sep.h3.cell 0; have y1' := H4b.sep.h3.cell 1; simp at y0' y1')
    | (go_at_call 108; (with_reducible refine (l29Edits_c HD.out HK.out (H3.map (fun X h => (h.box 36 #[.int .i64 0, .slice none 0 0]).drew.p2))).mono ?_); rintro e w4 ⟨ve, M, rfl, hM, H4p⟩; obtain ⟨Ae, ce, rfl, _, _, _⟩ := Res.row_at H4p.sep.h0; have x0' := H4p.sep.h3.cell 0; have x1' := H4p.sep.h3.cell 1; simp at x0' x1')
    | (go_at_call 38; (with_reducible refine (spec_applyEds_c (r := r) w4 (regOf (HK.out _ H4.sep.h1)) (rowEds (lo := 0) H4.sep.h0 (fun _ _ => Nat.zero_le _)) hr21).mono ?_); rintro e w5 ⟨v1, rfl, ⟨s1, rfl, o5⟩, b5⟩; have hy20 := ap_len (M := M) hr20; generalize (r.applyEds M).getD ⟨0, []⟩ = Y at *; generalize (r.applyEds M).isSome = ok at *; obtain ⟨A5, c5, rfl, _, _⟩ := o5.rd; have H5 := H4.map (fun X h => (h.oiNew b5 o5).g1); have x0'' := H5.sep.h3.cell 0; have x1'' := H5.sep.h3.cell 1; simp at x0'' x1'')
    | (go_at_call 38; (with_reducible refine (spec_applyEds_c (r := r) _ (regOf (HK.out _ H4b.sep.h2)) (rowEds (lo := 0) H4b.sep.h1 (fun _ _ => Nat.zero_le _)) hr21).mono ?_); rintro e w5 ⟨v1, rfl, ⟨s1, rfl, o5⟩, b5⟩; have hy20 := ap_len (M := M) hr20; generalize (r.applyEds M).getD ⟨0, []⟩ = Y at *; generalize (r.applyEds M).isSome = ok at *; obtain ⟨A5, c5, rfl, _, _⟩ := o5.rd; have H5b := H4b.map (fun X h => (h.oiNew b5 o5).g1); have x0'' := H5b.sep.h4.cell 0; have x1'' := H5b.sep.h4.cell 1; have q0'' := H5b.sep.h1.cell 0; have q1'' := H5b.sep.h1.cell 1; have o0'' := H5b.sep.h1.frozen 0; have o1'' := H5b.sep.h1.frozen 1; simp at x0'' x1'' q0'' q1''; have H6b := H5b.map (fun X h => ((h.g2.set_ 0 (.int .i64 Y.w)).set_ 1 (.slice A5 Y.rows.length c5)).g1); have k0 := H6b.sep.h4.cell 0; have k1 := H6b.sep.h4.cell 1; simp at k0 k1)
    | (go_at_call 38; (with_reducible refine (spec_applyEds_c (r := r) _ (regOf (HK.out _ H4p.sep.h1)) (rowEds (lo := 0) H4p.sep.h0 (fun _ _ => Nat.zero_le _)) hr21).mono ?_); rintro e w5 ⟨v1, rfl, ⟨s1, rfl, o5⟩, b5⟩; have hy20 := ap_len (M := M) hr20; generalize (r.applyEds M).getD ⟨0, []⟩ = Y at *; generalize (r.applyEds M).isSome = ok at *; obtain ⟨A5, c5, rfl, _, _⟩ := o5.rd; have H5c := H4p.map (fun X h => (h.oiNew b5 o5).g1); have x0'' := H5c.sep.h4.cell 0; have x1'' := H5c.sep.h4.cell 1; have q0'' := H5c.sep.h3.cell 0; have q1'' := H5c.sep.h3.cell 1; have o0'' := H5c.sep.h3.frozen 0; have o1'' := H5c.sep.h3.frozen 1; simp at x0'' x1'' q0'' q1''; have H6b := H5c.map (fun X h => ((h.g4.set_ 0 (.int .i64 Y.w)).set_ 1 (.slice A5 Y.rows.length c5)).g1); have k0 := H6b.sep.h4.cell 0; have k1 := H6b.sep.h4.cell 1; simp at k0 k1)
    | fail)
  · have H8 := H5.map (fun X h => ((h.g2).drop.box 36 #[.int .i64 Y.w, .slice A5 Y.rows.length c5]).g1)
    clear x0' x1' y0' y1' x0'' x1'' H5 H4 H4b H3 x0 x1 o5 b5
    generalize w5.alloc (.cells #[.int .i64 Y.w, .slice A5 Y.rows.length c5] 36) = w8 at *
    generalize w5.heap.size = gN at *
    have x0 := H8.sep.h3.cell 0
    have x1 := H8.sep.h3.cell 1
    have y0 := H8.sep.h0.cell 0
    have y1 := H8.sep.h0.cell 1
    have z0 := H8.sep.h4.cell 0
    have z1 := H8.sep.h4.cell 1
    have f0 := H8.sep.h4.frozen 0
    have f1 := H8.sep.h4.frozen 1
    have z2 := H8.sep.h5.cell 0
    have z3 := H8.sep.h5.cell 1
    have f2 := H8.sep.h5.frozen 0
    have f3 := H8.sep.h5.frozen 1
    simp at x0 x1 y0 y1 z0 z1 z2 z3
    cases ok
    · have H9 := H8.map (fun X h => h.g1.drop.g1.drop)
      clear H8 z0 z1 z2 z3 f0 f1 f2 f3 y0 y1
      have z0 := H9.sep.h2.cell 0
      have z1 := H9.sep.h2.cell 1
      have f0 := H9.sep.h2.frozen 0
      have f1 := H9.sep.h2.frozen 1
      have z2 := H9.sep.h3.cell 0
      have z3 := H9.sep.h3.cell 1
      have f2 := H9.sep.h3.frozen 0
      have f3 := H9.sep.h3.frozen 1
      simp at z0 z1 z2 z3
      go_upto_region 6 with fail
      go_region_with ((first
        | (go_at_call 87; refine (l6Any_c (by exact H9.map (fun X h => h.drew))).mono ?_; rintro e wa ⟨r2, A2, c2, rfl, hd2, Ha⟩; have x0' := Ha.sep.h2.cell 0; have x1' := Ha.sep.h2.cell 1; have z0' := Ha.sep.h3.cell 0; have z1' := Ha.sep.h3.cell 1; have f0' := Ha.sep.h3.frozen 0; have f1' := Ha.sep.h3.frozen 1; have z2' := Ha.sep.h4.cell 0; have z3' := Ha.sep.h4.cell 1; have f2' := Ha.sep.h4.frozen 0; have f3' := Ha.sep.h4.frozen 1; simp at x0' x1' z0' z1' z2' z3';
           have Hg := (Ha.sep.g4.set_ 0 (.int .i64 r.w)).set_ 1 (.slice A r.rows.length c); have k0 := Hg.h4.cell 0; have k1 := Hg.h4.cell 1; have o0 := Hg.h4.frozen 0; have o1 := Hg.h4.frozen 1; simp at k0 k1;
           have Hh := (Ha.sep.g3.set_ 0 (.int .i64 r2.w)).set_ 1 (.slice A2 r2.rows.length c2); have j0 := Hh.h4.cell 0; have j1 := Hh.h4.cell 1; have n0 := Hh.h4.frozen 0; have n1 := Hh.h4.frozen 1; have j2 := Hh.h3.cell 0; have j3 := Hh.h3.cell 1; simp at j0 j1 j2 j3)))
      all_goals
        have Hf := (Hg.g4.set_ 0 (.int .i64 r2.w)).set_ 1 (.slice A2 r2.rows.length c2)
        have u0 := Hf.h0.cell 0
        have u1 := Hf.h0.cell 1
        have u2 := Hf.h1.cell 0
        have u3 := Hf.h1.cell 1
        simp at u0 u1 u2 u3
        have Hf2 := (Hh.g4.set_ 0 (.int .i64 r.w)).set_ 1 (.slice A r.rows.length c)
        have v0 := Hf2.h0.cell 0
        have v1 := Hf2.h0.cell 1
        have v2 := Hf2.h1.cell 0
        have v3 := Hf2.h1.cell 1
        simp at v0 v1 v2 v3
        have hd20 := hd2.2
        go_wp2
        first
          | exact bodyPost_ret (v := .tuple #[.agg #[.int .i64 r.w, .slice A r.rows.length c], .agg #[.int .i64 r2.w, .slice A2 r2.rows.length c2]]) (by simp [results, Tryz.results40, go_sem, u0, u1, u2, u3]) rfl ⟨_, _, r, r2, rfl, hr20, hd20, regOf (HK.out _ Hf.h3), rowReg Hf.h2, Hf.below⟩
          | exact bodyPost_ret (v := .tuple #[.agg #[.int .i64 r.w, .slice A r.rows.length c], .agg #[.int .i64 r2.w, .slice A2 r2.rows.length c2]]) (by simp [results, Tryz.results40, go_sem, v0, v1, v2, v3]) rfl ⟨_, _, r, r2, rfl, hr20, hd20, regOf (HK.out _ Hf2.h3), rowReg Hf2.h2, Hf2.below⟩
    · have Hg := (H8.sep.g5.set_ 0 (.int .i64 r.w)).set_ 1 (.slice A r.rows.length c)
      have k0 := Hg.h5.cell 0
      have k1 := Hg.h5.cell 1
      have o0 := Hg.h5.frozen 0
      have o1 := Hg.h5.frozen 1
      have k2 := Hg.h1.cell 0
      have k3 := Hg.h1.cell 1
      have k4 := Hg.h4.cell 0
      have k5 := Hg.h4.cell 1
      simp at k0 k1 k2 k3 k4 k5
      have Hh := (H8.sep.g4.set_ 0 (.int .i64 Y.w)).set_ 1 (.slice A5 Y.rows.length c5)
      have j0 := Hh.h5.cell 0
      have j1 := Hh.h5.cell 1
      have n0 := Hh.h5.frozen 0
      have n1 := Hh.h5.frozen 1
      have j2 := Hh.h1.cell 0
      have j3 := Hh.h1.cell 1
      have j4 := Hh.h4.cell 0
      have j5 := Hh.h4.cell 1
      simp at j0 j1 j2 j3 j4 j5
      have Hf := (Hg.g5.set_ 0 (.int .i64 Y.w)).set_ 1 (.slice A5 Y.rows.length c5)
      have u0 := Hf.h0.cell 0
      have u1 := Hf.h0.cell 1
      have u2 := Hf.h1.cell 0
      have u3 := Hf.h1.cell 1
      simp at u0 u1 u2 u3
      have Hf2 := (Hh.g5.set_ 0 (.int .i64 r.w)).set_ 1 (.slice A r.rows.length c)
      have v0 := Hf2.h0.cell 0
      have v1 := Hf2.h0.cell 1
      have v2 := Hf2.h1.cell 0
      have v3 := Hf2.h1.cell 1
      simp at v0 v1 v2 v3
      go_upto_region 5 with fail
      go_region_with (fail)
      all_goals
        go_wp2
        first
          | exact bodyPost_ret (v := .tuple #[.agg #[.int .i64 r.w, .slice A r.rows.length c], .agg #[.int .i64 Y.w, .slice A5 Y.rows.length c5]]) (by simp [results, Tryz.results40, go_sem, u0, u1, u2, u3]) rfl ⟨_, _, r, Y, rfl, hr20, hy20, regOf (HK.out _ Hf.drew.h4), rowReg Hf.drew.h3, Hf.drew.below⟩
          | exact bodyPost_ret (v := .tuple #[.agg #[.int .i64 r.w, .slice A r.rows.length c], .agg #[.int .i64 Y.w, .slice A5 Y.rows.length c5]]) (by simp [results, Tryz.results40, go_sem, v0, v1, v2, v3]) rfl ⟨_, _, r, Y, rfl, hr20, hy20, regOf (HK.out _ Hf2.drew.h4), rowReg Hf2.drew.h3, Hf2.drew.below⟩
  · have H8 := H6b.map (fun X h => h.g3.drop)
    clear x0' x1' y0' y1' x0'' x1'' q0'' q1'' o0'' o1'' k0 k1 H5b H6b H4 H4b H3 x0 x1 o5 b5
    generalize (w5.setCell ⟨w4.heap.size, 0, none⟩ (.int .i64 Y.w)).setCell ⟨w4.heap.size, 1, none⟩ (.slice A5 Y.rows.length c5) = w8 at *
    generalize w4.heap.size = gN at *
    have x0 := H8.sep.h3.cell 0
    have x1 := H8.sep.h3.cell 1
    have y0 := H8.sep.h0.cell 0
    have y1 := H8.sep.h0.cell 1
    have z0 := H8.sep.h4.cell 0
    have z1 := H8.sep.h4.cell 1
    have f0 := H8.sep.h4.frozen 0
    have f1 := H8.sep.h4.frozen 1
    have z2 := H8.sep.h5.cell 0
    have z3 := H8.sep.h5.cell 1
    have f2 := H8.sep.h5.frozen 0
    have f3 := H8.sep.h5.frozen 1
    simp at x0 x1 y0 y1 z0 z1 z2 z3
    cases ok
    · have H9 := H8.map (fun X h => h.g1.drop.g1.drop)
      clear H8 z0 z1 z2 z3 f0 f1 f2 f3 y0 y1
      have z0 := H9.sep.h2.cell 0
      have z1 := H9.sep.h2.cell 1
      have f0 := H9.sep.h2.frozen 0
      have f1 := H9.sep.h2.frozen 1
      have z2 := H9.sep.h3.cell 0
      have z3 := H9.sep.h3.cell 1
      have f2 := H9.sep.h3.frozen 0
      have f3 := H9.sep.h3.frozen 1
      simp at z0 z1 z2 z3
      go_upto_region 6 with fail
      go_region_with ((first
        | (go_at_call 87; refine (l6Any_c (by exact H9.map (fun X h => h.drew))).mono ?_; rintro e wa ⟨r2, A2, c2, rfl, hd2, Ha⟩; have x0' := Ha.sep.h2.cell 0; have x1' := Ha.sep.h2.cell 1; have z0' := Ha.sep.h3.cell 0; have z1' := Ha.sep.h3.cell 1; have f0' := Ha.sep.h3.frozen 0; have f1' := Ha.sep.h3.frozen 1; have z2' := Ha.sep.h4.cell 0; have z3' := Ha.sep.h4.cell 1; have f2' := Ha.sep.h4.frozen 0; have f3' := Ha.sep.h4.frozen 1; simp at x0' x1' z0' z1' z2' z3';
           have Hg := (Ha.sep.g4.set_ 0 (.int .i64 r.w)).set_ 1 (.slice A r.rows.length c); have k0 := Hg.h4.cell 0; have k1 := Hg.h4.cell 1; have o0 := Hg.h4.frozen 0; have o1 := Hg.h4.frozen 1; simp at k0 k1;
           have Hh := (Ha.sep.g3.set_ 0 (.int .i64 r2.w)).set_ 1 (.slice A2 r2.rows.length c2); have j0 := Hh.h4.cell 0; have j1 := Hh.h4.cell 1; have n0 := Hh.h4.frozen 0; have n1 := Hh.h4.frozen 1; have j2 := Hh.h3.cell 0; have j3 := Hh.h3.cell 1; simp at j0 j1 j2 j3)))
      all_goals
        have Hf := (Hg.g4.set_ 0 (.int .i64 r2.w)).set_ 1 (.slice A2 r2.rows.length c2)
        have u0 := Hf.h0.cell 0
        have u1 := Hf.h0.cell 1
        have u2 := Hf.h1.cell 0
        have u3 := Hf.h1.cell 1
        simp at u0 u1 u2 u3
        have Hf2 := (Hh.g4.set_ 0 (.int .i64 r.w)).set_ 1 (.slice A r.rows.length c)
        have v0 := Hf2.h0.cell 0
        have v1 := Hf2.h0.cell 1
        have v2 := Hf2.h1.cell 0
        have v3 := Hf2.h1.cell 1
        simp at v0 v1 v2 v3
        have hd20 := hd2.2
        go_wp2
        first
          | exact bodyPost_ret (v := .tuple #[.agg #[.int .i64 r.w, .slice A r.rows.length c], .agg #[.int .i64 r2.w, .slice A2 r2.rows.length c2]]) (by simp [results, Tryz.results40, go_sem, u0, u1, u2, u3]) rfl ⟨_, _, r, r2, rfl, hr20, hd20, regOf (HK.out _ Hf.h3), rowReg Hf.h2, Hf.below⟩
          | exact bodyPost_ret (v := .tuple #[.agg #[.int .i64 r.w, .slice A r.rows.length c], .agg #[.int .i64 r2.w, .slice A2 r2.rows.length c2]]) (by simp [results, Tryz.results40, go_sem, v0, v1, v2, v3]) rfl ⟨_, _, r, r2, rfl, hr20, hd20, regOf (HK.out _ Hf2.h3), rowReg Hf2.h2, Hf2.below⟩
    · have Hg := (H8.sep.g5.set_ 0 (.int .i64 r.w)).set_ 1 (.slice A r.rows.length c)
      have k0 := Hg.h5.cell 0
      have k1 := Hg.h5.cell 1
      have o0 := Hg.h5.frozen 0
      have o1 := Hg.h5.frozen 1
      have k2 := Hg.h1.cell 0
      have k3 := Hg.h1.cell 1
      have k4 := Hg.h4.cell 0
      have k5 := Hg.h4.cell 1
      simp at k0 k1 k2 k3 k4 k5
      have Hh := (H8.sep.g4.set_ 0 (.int .i64 Y.w)).set_ 1 (.slice A5 Y.rows.length c5)
      have j0 := Hh.h5.cell 0
      have j1 := Hh.h5.cell 1
      have n0 := Hh.h5.frozen 0
      have n1 := Hh.h5.frozen 1
      have j2 := Hh.h1.cell 0
      have j3 := Hh.h1.cell 1
      have j4 := Hh.h4.cell 0
      have j5 := Hh.h4.cell 1
      simp at j0 j1 j2 j3 j4 j5
      have Hf := (Hg.g5.set_ 0 (.int .i64 Y.w)).set_ 1 (.slice A5 Y.rows.length c5)
      have u0 := Hf.h0.cell 0
      have u1 := Hf.h0.cell 1
      have u2 := Hf.h1.cell 0
      have u3 := Hf.h1.cell 1
      simp at u0 u1 u2 u3
      have Hf2 := (Hh.g5.set_ 0 (.int .i64 r.w)).set_ 1 (.slice A r.rows.length c)
      have v0 := Hf2.h0.cell 0
      have v1 := Hf2.h0.cell 1
      have v2 := Hf2.h1.cell 0
      have v3 := Hf2.h1.cell 1
      simp at v0 v1 v2 v3
      go_upto_region 5 with fail
      go_region_with (fail)
      all_goals
        go_wp2
        first
          | exact bodyPost_ret (v := .tuple #[.agg #[.int .i64 r.w, .slice A r.rows.length c], .agg #[.int .i64 Y.w, .slice A5 Y.rows.length c5]]) (by simp [results, Tryz.results40, go_sem, u0, u1, u2, u3]) rfl ⟨_, _, r, Y, rfl, hr20, hy20, regOf (HK.out _ Hf.drew.h4), rowReg Hf.drew.h3, Hf.drew.below⟩
          | exact bodyPost_ret (v := .tuple #[.agg #[.int .i64 r.w, .slice A r.rows.length c], .agg #[.int .i64 Y.w, .slice A5 Y.rows.length c5]]) (by simp [results, Tryz.results40, go_sem, v0, v1, v2, v3]) rfl ⟨_, _, r, Y, rfl, hr20, hy20, regOf (HK.out _ Hf2.drew.h4), rowReg Hf2.drew.h3, Hf2.drew.below⟩
  · have H8 := H6b.map (fun X h => h.g3.drop)
    clear x0' x1' x0'' x1'' q0'' q1'' o0'' o1'' k0 k1 H5c H6b H4p H3 x0 x1 o5 b5
    generalize (w5.setCell ⟨w3.heap.size, 0, none⟩ (.int .i64 Y.w)).setCell ⟨w3.heap.size, 1, none⟩ (.slice A5 Y.rows.length c5) = w8 at *
    generalize w3.heap.size = gN at *
    have x0 := H8.sep.h3.cell 0
    have x1 := H8.sep.h3.cell 1
    have y0 := H8.sep.h0.cell 0
    have y1 := H8.sep.h0.cell 1
    have z0 := H8.sep.h4.cell 0
    have z1 := H8.sep.h4.cell 1
    have f0 := H8.sep.h4.frozen 0
    have f1 := H8.sep.h4.frozen 1
    have z2 := H8.sep.h5.cell 0
    have z3 := H8.sep.h5.cell 1
    have f2 := H8.sep.h5.frozen 0
    have f3 := H8.sep.h5.frozen 1
    simp at x0 x1 y0 y1 z0 z1 z2 z3
    cases ok
    · have H9 := H8.map (fun X h => h.g1.drop.g1.drop)
      clear H8 z0 z1 z2 z3 f0 f1 f2 f3 y0 y1
      have z0 := H9.sep.h2.cell 0
      have z1 := H9.sep.h2.cell 1
      have f0 := H9.sep.h2.frozen 0
      have f1 := H9.sep.h2.frozen 1
      have z2 := H9.sep.h3.cell 0
      have z3 := H9.sep.h3.cell 1
      have f2 := H9.sep.h3.frozen 0
      have f3 := H9.sep.h3.frozen 1
      simp at z0 z1 z2 z3
      go_upto_region 6 with fail
      go_region_with ((first
        | (go_at_call 87; refine (l6Any_c (by exact H9.map (fun X h => h.drew))).mono ?_; rintro e wa ⟨r2, A2, c2, rfl, hd2, Ha⟩; have x0' := Ha.sep.h2.cell 0; have x1' := Ha.sep.h2.cell 1; have z0' := Ha.sep.h3.cell 0; have z1' := Ha.sep.h3.cell 1; have f0' := Ha.sep.h3.frozen 0; have f1' := Ha.sep.h3.frozen 1; have z2' := Ha.sep.h4.cell 0; have z3' := Ha.sep.h4.cell 1; have f2' := Ha.sep.h4.frozen 0; have f3' := Ha.sep.h4.frozen 1; simp at x0' x1' z0' z1' z2' z3';
           have Hg := (Ha.sep.g4.set_ 0 (.int .i64 r.w)).set_ 1 (.slice A r.rows.length c); have k0 := Hg.h4.cell 0; have k1 := Hg.h4.cell 1; have o0 := Hg.h4.frozen 0; have o1 := Hg.h4.frozen 1; simp at k0 k1;
           have Hh := (Ha.sep.g3.set_ 0 (.int .i64 r2.w)).set_ 1 (.slice A2 r2.rows.length c2); have j0 := Hh.h4.cell 0; have j1 := Hh.h4.cell 1; have n0 := Hh.h4.frozen 0; have n1 := Hh.h4.frozen 1; have j2 := Hh.h3.cell 0; have j3 := Hh.h3.cell 1; simp at j0 j1 j2 j3)))
      all_goals
        have Hf := (Hg.g4.set_ 0 (.int .i64 r2.w)).set_ 1 (.slice A2 r2.rows.length c2)
        have u0 := Hf.h0.cell 0
        have u1 := Hf.h0.cell 1
        have u2 := Hf.h1.cell 0
        have u3 := Hf.h1.cell 1
        simp at u0 u1 u2 u3
        have Hf2 := (Hh.g4.set_ 0 (.int .i64 r.w)).set_ 1 (.slice A r.rows.length c)
        have v0 := Hf2.h0.cell 0
        have v1 := Hf2.h0.cell 1
        have v2 := Hf2.h1.cell 0
        have v3 := Hf2.h1.cell 1
        simp at v0 v1 v2 v3
        have hd20 := hd2.2
        go_wp2
        first
          | exact bodyPost_ret (v := .tuple #[.agg #[.int .i64 r.w, .slice A r.rows.length c], .agg #[.int .i64 r2.w, .slice A2 r2.rows.length c2]]) (by simp [results, Tryz.results40, go_sem, u0, u1, u2, u3]) rfl ⟨_, _, r, r2, rfl, hr20, hd20, regOf (HK.out _ Hf.h3), rowReg Hf.h2, Hf.below⟩
          | exact bodyPost_ret (v := .tuple #[.agg #[.int .i64 r.w, .slice A r.rows.length c], .agg #[.int .i64 r2.w, .slice A2 r2.rows.length c2]]) (by simp [results, Tryz.results40, go_sem, v0, v1, v2, v3]) rfl ⟨_, _, r, r2, rfl, hr20, hd20, regOf (HK.out _ Hf2.h3), rowReg Hf2.h2, Hf2.below⟩
    · have Hg := (H8.sep.g5.set_ 0 (.int .i64 r.w)).set_ 1 (.slice A r.rows.length c)
      have k0 := Hg.h5.cell 0
      have k1 := Hg.h5.cell 1
      have o0 := Hg.h5.frozen 0
      have o1 := Hg.h5.frozen 1
      have k2 := Hg.h1.cell 0
      have k3 := Hg.h1.cell 1
      have k4 := Hg.h4.cell 0
      have k5 := Hg.h4.cell 1
      simp at k0 k1 k2 k3 k4 k5
      have Hh := (H8.sep.g4.set_ 0 (.int .i64 Y.w)).set_ 1 (.slice A5 Y.rows.length c5)
      have j0 := Hh.h5.cell 0
      have j1 := Hh.h5.cell 1
      have n0 := Hh.h5.frozen 0
      have n1 := Hh.h5.frozen 1
      have j2 := Hh.h1.cell 0
      have j3 := Hh.h1.cell 1
      have j4 := Hh.h4.cell 0
      have j5 := Hh.h4.cell 1
      simp at j0 j1 j2 j3 j4 j5
      have Hf := (Hg.g5.set_ 0 (.int .i64 Y.w)).set_ 1 (.slice A5 Y.rows.length c5)
      have u0 := Hf.h0.cell 0
      have u1 := Hf.h0.cell 1
      have u2 := Hf.h1.cell 0
      have u3 := Hf.h1.cell 1
      simp at u0 u1 u2 u3
      have Hf2 := (Hh.g5.set_ 0 (.int .i64 r.w)).set_ 1 (.slice A r.rows.length c)
      have v0 := Hf2.h0.cell 0
      have v1 := Hf2.h0.cell 1
      have v2 := Hf2.h1.cell 0
      have v3 := Hf2.h1.cell 1
      simp at v0 v1 v2 v3
      go_upto_region 5 with fail
      go_region_with (fail)
      all_goals
        go_wp2
        first
          | exact bodyPost_ret (v := .tuple #[.agg #[.int .i64 r.w, .slice A r.rows.length c], .agg #[.int .i64 Y.w, .slice A5 Y.rows.length c5]]) (by simp [results, Tryz.results40, go_sem, u0, u1, u2, u3]) rfl ⟨_, _, r, Y, rfl, hr20, hy20, regOf (HK.out _ Hf.drew.h4), rowReg Hf.drew.h3, Hf.drew.below⟩
          | exact bodyPost_ret (v := .tuple #[.agg #[.int .i64 r.w, .slice A r.rows.length c], .agg #[.int .i64 Y.w, .slice A5 Y.rows.length c5]]) (by simp [results, Tryz.results40, go_sem, v0, v1, v2, v3]) rfl ⟨_, _, r, Y, rfl, hr20, hy20, regOf (HK.out _ Hf2.drew.h4), rowReg Hf2.drew.h3, Hf2.drew.below⟩
end Go.Proofs.YtfildenelgbmlaaGreatDoor
