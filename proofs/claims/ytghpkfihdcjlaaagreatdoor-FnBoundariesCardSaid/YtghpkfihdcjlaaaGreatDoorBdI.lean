
/-
  What is known of the word around a shape: plain. The shape inside a word: plain. Maps from cells to numbers; what a look-up, a store and 'len' do. A range over a map from cells to numbers: the cells that stand for 1. A shape's border word is that of the shape in its corner: plain.
-/
import Derived.Test.YtghpkfihdcjlaaaGreatDoorBdC
import Derived.Test.YtghpkfihdcjlaaaGreatDoorBdW
import Derived.Test.YtghpkfihdcjlaaaGreatDoorOriX
import Derived.Test.YtghpkfihdcjlaaaGreatDoorMapCell
import Derived.Test.YtghpkfihdcjlaaaGreatDoorSepX
import Derived.MapKept
import Derived.Maps.RangeRun
import Derived.Test.YtghpkfihdcjlaaaGreatDoorShpX
namespace Go.Proofs.YtghpkfihdcjlaaaGreatDoor
open Go.RowKit

theorem bw_data {s : List Cell} (h : bordOk s = true) : ∃ a K, s[0]? = some a ∧ BordIs s a K ∧ bordW s = wrd s a K ∧ isShape s = true ∧ hangs s = true ∧ (∀ c : Cell, hs s c.x c.y = false → Fre s c) ∧ s.Nodup ∧ K ≤ 40 := by
  have h' := h
  unfold bordOk at h'
  rw [Bool.and_eq_true, Bool.and_eq_true] at h'
  obtain ⟨⟨h1, h2⟩, h3⟩ := h'
  unfold connS at h1
  rw [Bool.and_eq_true] at h1
  obtain ⟨hsh, hh⟩ := h1
  have hz : holesN s = 0 := by
    have := of_decide_eq_true h2
    unfold holesZ at this
    rw [if_pos hsh] at this
    omega
  have hl := shp_len hsh
  obtain ⟨a, ha⟩ : ∃ a, s[0]? = some a := ⟨s[0], List.getElem?_eq_getElem (by omega)⟩
  have hp : pinS s = false := by simpa using h3
  obtain ⟨K, hK⟩ := bord_ex hsh hp ha
  have hw := bordW_yes h ha hK
  have hlen := bord_len h
  rw [hw, wrd_len] at hlen
  unfold perZ at hlen
  exact ⟨a, K, ha, hK, hw, hsh, hh, all_fre hsh hz, shp_nodup hsh, by omega⟩
theorem wrd_ok {s : List Cell} {a : Cell} {K : Nat} : okL (wrd s a K) = true := by
  unfold okL
  rw [List.all_eq_true]
  intro u hu
  unfold wrd at hu
  obtain ⟨k, _, rfl⟩ := List.mem_map.1 hu
  rw [dirN_U (outD_lt s _)]
  exact decide_eq_true (outD_lt s _)
theorem bw_closed {s : List Cell} (h : bordOk s = true) : clB (bordW s) = true := by
  obtain ⟨a, K, ha, hK, hw, hsh, hh, hf, hn, h40⟩ := bw_data h
  rw [hw, clB_iff, wrd_len]
  refine ⟨h40, wrd_ok, ?_⟩
  rw [way_wrd K (Nat.le_refl _), hK.home, Int.sub_self, Int.sub_self]
theorem bw_area {s : List Cell} (h : bordOk s = true) : arZ (bordW s) = (s.length : Int) := by
  rw [arZ, if_pos (bw_closed h)]
  obtain ⟨a, K, ha, hK, hw, hsh, hh, hf, hn, h40⟩ := bw_data h
  rw [hw, wrd_len, arTo, sumB_wrd (F := areaS) (G := fun p d => (p.y - a.y) * (bI (decide (d = 2)) - bI (decide (d = 0)))) (fun _ _ => rfl) K (Nat.le_refl _)]
  exact word_area hK ha hh hf hn
theorem trn_two {d e : Nat} (hd : d < 4) (he : e < 4) : ((if tRt (dirU d) (dirU e) then 1 else 0 : Nat) : Int) - ((if tLf (dirU d) (dirU e) then 1 else 0 : Nat) : Int) = trn d e := by
  unfold tRt tLf trn
  rw [dirN_U hd, dirN_U he]
  have h4 : d = 0 ∨ d = 1 ∨ d = 2 ∨ d = 3 := by omega
  have h5 : e = 0 ∨ e = 1 ∨ e = 2 ∨ e = 3 := by omega
  rcases h4 with rfl | rfl | rfl | rfl <;> rcases h5 with rfl | rfl | rfl | rfl <;> decide
theorem wrd_next {s : List Cell} {a : Cell} {K i : Nat} (hK : BordIs s a K) (hi : i < K) : (wrd s a K)[(i + 1) % (wrd s a K).length]? = some (dirU (outD s (wlk s a (i + 1)))) := by
  rw [wrd_len]
  by_cases e : i + 1 = K
  · rw [e, Nat.mod_self, wrd_at (by omega), hK.home]
    rfl
  · rw [Nat.mod_eq_of_lt (by omega), wrd_at (by omega)]
theorem trTo_wrd {s : List Cell} {a : Cell} {K : Nat} (hK : BordIs s a K) : ∀ i, i ≤ K → (trTo tRt (wrd s a K) i : Int) - (trTo tLf (wrd s a K) i : Int) = trnS s a i
  | 0, _ => rfl
  | i + 1, hi => by
    have ih := trTo_wrd hK i (by omega)
    have h2 := trn_two (outD_lt s (wlk s a i)) (outD_lt s (wlk s a (i + 1)))
    rw [trTo_at (wrd_at (by omega)) (wrd_next hK (by omega)), trTo_at (wrd_at (by omega)) (wrd_next hK (by omega)), trnS, ← ih, ← h2]
    omega
theorem bw_turns {s : List Cell} (h : bordOk s = true) : (rtN (bordW s) : Int) - (lfN (bordW s) : Int) = 4 := by
  rw [rtN, lfN, if_pos (bw_closed h), if_pos (bw_closed h)]
  obtain ⟨a, K, ha, hK, hw, hsh, hh, hf, hn, h40⟩ := bw_data h
  rw [hw, wrd_len, trTo_wrd hK K (Nat.le_refl _)]
  exact turns_four hK (shp_least hsh ha)
theorem wlk_run {s : List Cell} {a : Cell} {d i : Nat} : ∀ m : Nat, (∀ j, i ≤ j → j < i + m → outD s (wlk s a j) = d) → (d = 0 → (wlk s a (i + m)).x = (wlk s a i).x + m) ∧ (d = 1 → (wlk s a (i + m)).y = (wlk s a i).y + m) ∧ (d = 2 → (wlk s a (i + m)).x = (wlk s a i).x - m) ∧ (d = 3 → (wlk s a (i + m)).y = (wlk s a i).y - m)
  | 0, _ => ⟨fun _ => (Int.add_zero _).symm, fun _ => (Int.add_zero _).symm, fun _ => (Int.sub_zero _).symm, fun _ => (Int.sub_zero _).symm⟩
  | m + 1, h => by
    obtain ⟨h0, h1, h2, h3⟩ := wlk_run m (fun j a b => h j a (by omega))
    have e : wlk s a (i + (m + 1)) = stepC (wlk s a (i + m)) (outD s (wlk s a (i + m))) := rfl
    rw [e, h (i + m) (by omega) (by omega)]
    refine ⟨?_, ?_, ?_, ?_⟩
    · rintro rfl
      have := h0 rfl
      show (wlk s a (i + m)).x + 1 = _
      omega
    · rintro rfl
      have := h1 rfl
      show (wlk s a (i + m)).y + 1 = _
      omega
    · rintro rfl
      have := h2 rfl
      show (wlk s a (i + m)).x - 1 = _
      omega
    · rintro rfl
      have := h3 rfl
      show (wlk s a (i + m)).y - 1 = _
      omega
theorem bw_short {s : List Cell} (h : bordOk s = true) : shortR (bordW s) := by
  obtain ⟨a, K, ha, hK, hw, hsh, hh, hf, hn, h40⟩ := bw_data h
  rw [hw]
  intro i k u hik hu
  apply Classical.byContradiction
  intro hc
  have h9 : ∀ j, i ≤ j → j < i + 9 → outD s (wlk s a j) = dirN u := fun j h1 h2 => by
    have h3 := hu j h1 (by omega)
    have hj : j < K := by
      have := (List.getElem?_eq_some_iff.1 h3).1
      rwa [wrd_len] at this
    rw [wrd_at hj] at h3
    injection h3 with h3
    rw [← h3, dirN_U (outD_lt s _)]
  obtain ⟨h0, h1, h2, h3⟩ := wlk_run 9 h9
  have hd : dirN u < 4 := by rw [← h9 i (by omega) (by omega)]; exact outD_lt s _
  have e1 := edge_on hK.bord.on (hK.bord.edg i)
  have e2 := edge_on hK.bord.on (hK.bord.edg (i + 9))
  have h4 : dirN u = 0 ∨ dirN u = 1 ∨ dirN u = 2 ∨ dirN u = 3 := by omega
  rcases h4 with e | e | e | e
  · have := h0 e; omega
  · have := h1 e; omega
  · have := h2 e; omega
  · have := h3 e; omega
/-- the reference's count within a border word -/
theorem bw_in {s : List Cell} (h : bordOk s = true) {a : Cell} (ha : s[0]? = some a) (x y : Int) : sumB (wndR x y) (bordW s) (bordW s).length = bI (hs s (x + a.x) (y + a.y)) := by
  obtain ⟨a', K, ha', hK, hw, hsh, hh, hf, hn, h40⟩ := bw_data h
  obtain rfl : a = a' := by rw [ha] at ha'; injection ha'
  rw [hw, wrd_len, sumB_wrd (F := wndR x y) (G := wndR (x + a.x) (y + a.y)) (fun p d => wndR_move x y a p d) K (Nat.le_refl _), wind_right hK.home]
  exact wind_is hK ha hh hf _ _
/-- the program's parity -/
theorem bw_par {s : List Cell} (h : bordOk s = true) {a : Cell} (ha : s[0]? = some a) (x y : Int) : sumB (wndA x y) (bordW s) (bordW s).length % 2 = bI (hs s (x + a.x) (y + a.y)) := by
  obtain ⟨a', K, ha', hK, hw, hsh, hh, hf, hn, h40⟩ := bw_data h
  obtain rfl : a = a' := by rw [ha] at ha'; injection ha'
  rw [hw, wrd_len, sumB_wrd (F := wndA x y) (G := wndA (x + a.x) (y + a.y)) (fun p d => wndA_move x y a p d) K (Nat.le_refl _), wind_par, wind_is hK ha hh hf]
  rcases bI_two (hs s (x + a.x) (y + a.y)) with e | e <;> rw [e] <;> decide
end Go.Proofs.YtghpkfihdcjlaaaGreatDoor

namespace Go.Proofs.YtghpkfihdcjlaaaGreatDoor
open Go.RowKit

theorem min_shiftI {f : Cell → Int} {l : List Cell} {x y d : Int} (hf : ∀ c : Cell, f ⟨c.x - x, c.y - y⟩ = f c - d) (h : 1 ≤ l.length) : mnTo f (shift l x y) (shift l x y).length = mnTo f l l.length - d := by
  obtain ⟨c, hc, e1⟩ := mnTo_mem (f := f) (l := shift l x y) _ (by rw [shift_length]; omega) (Nat.le_refl _)
  obtain ⟨c', hc', e2⟩ := mnTo_mem (f := f) (l := l) _ h (Nat.le_refl _)
  have h1 : c ∈ shift l x y := hc
  rw [mem_shift] at h1
  obtain ⟨i, hi⟩ := List.getElem?_of_mem h1
  have h3 := mnTo_le (f := f) (l := l) _ (Nat.le_refl _) i _ (List.getElem?_eq_some_iff.1 hi).1 hi
  have h4 : (⟨c'.x - x, c'.y - y⟩ : Cell) ∈ shift l x y := by rw [mem_shift]; simpa using hc'
  obtain ⟨j, hj⟩ := List.getElem?_of_mem h4
  have h2 := mnTo_le (f := f) (l := shift l x y) _ (Nat.le_refl _) j _ (List.getElem?_eq_some_iff.1 hj).1 hj
  have h5 := hf ⟨c.x + x, c.y + y⟩
  simp only [Int.add_sub_cancel] at h5
  have h6 := hf c'
  have e3 : (⟨c.x, c.y⟩ : Cell) = c := rfl
  rw [e3] at h5
  omega
theorem corner_shiftI {l : List Cell} {x y : Int} : corner (shift l x y) = corner l := by
  cases l with
  | nil => rfl
  | cons a l =>
    have h : 1 ≤ (a :: l).length := by simp
    have ex : minX (shift (a :: l) x y) = minX (a :: l) - x := min_shiftI (f := (·.x)) (fun _ => rfl) h
    have ey : minY (shift (a :: l) x y) = minY (a :: l) - y := min_shiftI (f := (·.y)) (fun _ => rfl) h
    unfold corner
    rw [ex, ey]
    unfold shift
    rw [List.map_map]
    refine List.map_congr_left fun c _ => ?_
    simp only [Function.comp]
    rw [Cell.mk.injEq]
    omega
theorem corner_twice {l : List Cell} : corner (corner l) = corner l := corner_shiftI
/-- the program's cells: the parity of the upright sides at the left -/
def oddF (w : List UInt8) (c : Cell) : Int := if c.x ≤ 40 then sumB (wndA c.x c.y) w w.length % 2 else 0
def OddS (w : List UInt8) (S : List Cell) : Prop := S.Nodup ∧ ∀ c, c ∈ S ↔ oddF w c = 1
/-- the reference's cells, row by row -/
def cntR (w : List UInt8) (c : Cell) : Int := sumB (wndR c.x c.y) w w.length
def rowTo (w : List UInt8) (y : Int) : Nat → List Cell
  | 0 => []
  | k + 1 => rowTo w y k ++ if cntR w ⟨(k : Int) - 20, y⟩ = 1 then [⟨(k : Int) - 20, y⟩] else []
def filTo (w : List UInt8) : Nat → List Cell
  | 0 => []
  | r + 1 => filTo w r ++ rowTo w ((r : Int) - 20) 40
theorem rowTo_mem {w : List UInt8} {y : Int} {c : Cell} : ∀ k : Nat, c ∈ rowTo w y k ↔ c.y = y ∧ -20 ≤ c.x ∧ c.x < (k : Int) - 20 ∧ cntR w c = 1
  | 0 => by
    rw [rowTo]
    constructor
    · intro h; cases h
    · rintro ⟨_, h1, h2, _⟩; omega
  | k + 1 => by
    rw [rowTo, List.mem_append, rowTo_mem k]
    by_cases h : cntR w ⟨(k : Int) - 20, y⟩ = 1
    · rw [if_pos h, List.mem_singleton]
      constructor
      · rintro (⟨h1, h2, h3, h4⟩ | rfl)
        · exact ⟨h1, h2, by omega, h4⟩
        · exact ⟨rfl, by simp only; omega, by simp only; omega, h⟩
      · rintro ⟨h1, h2, h3, h4⟩
        by_cases e : c.x = (k : Int) - 20
        · right; cases c; simp only at *; rw [h1, e]
        · exact .inl ⟨h1, h2, by omega, h4⟩
    · rw [if_neg h]
      constructor
      · rintro (⟨h1, h2, h3, h4⟩ | h5)
        · exact ⟨h1, h2, by omega, h4⟩
        · cases h5
      · rintro ⟨h1, h2, h3, h4⟩
        by_cases e : c.x = (k : Int) - 20
        · exfalso; apply h; cases c; simp only at *; rw [← h1, ← e]; exact h4
        · exact .inl ⟨h1, h2, by omega, h4⟩
theorem rowTo_len (w : List UInt8) (y : Int) : ∀ k, (rowTo w y k).length ≤ k
  | 0 => Nat.le_refl _
  | k + 1 => by
    have := rowTo_len w y k
    rw [rowTo, List.length_append]
    split <;> simp <;> omega
theorem rowTo_srt (w : List UInt8) (y : Int) : ∀ k, Srt (rowTo w y k)
  | 0 => List.Pairwise.nil
  | k + 1 => by
    rw [rowTo]
    refine List.pairwise_append.2 ⟨rowTo_srt w y k, ?_, ?_⟩
    · split
      · exact List.pairwise_singleton _ _
      · exact List.Pairwise.nil
    · intro a ha b hb
      split at hb
      · rw [List.mem_singleton] at hb
        subst hb
        obtain ⟨h1, h2, h3, h4⟩ := (rowTo_mem k).1 ha
        rw [bef_iff]
        right
        simp only
        omega
      · cases hb
theorem filTo_mem {w : List UInt8} {c : Cell} : ∀ r : Nat, c ∈ filTo w r ↔ -20 ≤ c.y ∧ c.y < (r : Int) - 20 ∧ -20 ≤ c.x ∧ c.x < 20 ∧ cntR w c = 1
  | 0 => by
    rw [filTo]
    constructor
    · intro h; cases h
    · rintro ⟨h1, h2, _⟩; omega
  | r + 1 => by
    rw [filTo, List.mem_append, filTo_mem r, rowTo_mem]
    constructor
    · rintro (⟨h1, h2, h3, h4, h5⟩ | ⟨h1, h2, h3, h4⟩)
      · exact ⟨h1, by omega, h3, h4, h5⟩
      · exact ⟨by omega, by omega, h2, by omega, h4⟩
    · rintro ⟨h1, h2, h3, h4, h5⟩
      by_cases e : c.y = (r : Int) - 20
      · exact .inr ⟨e, h3, by omega, h5⟩
      · exact .inl ⟨h1, by omega, h3, h4, h5⟩
theorem filTo_len (w : List UInt8) : ∀ r, (filTo w r).length ≤ 40 * r
  | 0 => Nat.le_refl _
  | r + 1 => by
    have h1 := filTo_len w r
    have h2 := rowTo_len w ((r : Int) - 20) 40
    rw [filTo, List.length_append]
    omega
theorem filTo_srt (w : List UInt8) : ∀ r, Srt (filTo w r)
  | 0 => List.Pairwise.nil
  | r + 1 => by
    rw [filTo]
    refine List.pairwise_append.2 ⟨filTo_srt w r, rowTo_srt w _ 40, ?_⟩
    intro a ha b hb
    obtain ⟨_, h1, _⟩ := (filTo_mem r).1 ha
    obtain ⟨h2, _⟩ := (rowTo_mem 40).1 hb
    rw [bef_iff]
    left
    omega
theorem srt_shiftI {s : List Cell} {x y : Int} (h : Srt s) : Srt (shift s x y) := by
  unfold Srt shift at *
  rw [List.pairwise_map]
  refine h.imp fun {a b} hab => ?_
  rw [bef_iff] at *
  simp only
  omega
theorem shp_srtI {s : List Cell} (h : isShape s = true) : Srt s := List.pairwise_iff_getElem.2 fun _ j hi hj hij => shp_pair h (List.getElem?_eq_getElem hi) j hij (List.getElem?_eq_getElem hj)
theorem hs_shift {s : List Cell} {a c : Cell} : c ∈ shift s a.x a.y ↔ hs s (c.x + a.x) (c.y + a.y) = true := by
  rw [mem_shift, hs, decide_eq_true_iff]
theorem bI_one {b : Bool} : bI b = 1 ↔ b = true := by cases b <;> simp [bI]
/-- of a border word the reference fills the shape -/
theorem bw_fil {s : List Cell} (h : bordOk s = true) {a : Cell} (ha : s[0]? = some a) : filTo (bordW s) 40 = shift s a.x a.y := by
  obtain ⟨a', K, ha', hK, hw, hsh, _⟩ := bw_data h
  refine srt_ext (filTo_srt _ _) (srt_shiftI (shp_srtI hsh)) fun c => ?_
  rw [filTo_mem, cntR, bw_in h ha, bI_one, hs_shift]
  constructor
  · rintro ⟨_, _, _, _, h5⟩; exact h5
  · intro h5
    have h6 : (⟨c.x + a.x, c.y + a.y⟩ : Cell) ∈ s := of_decide_eq_true h5
    have h7 := shp_on hsh h6
    have h8 := shp_on hsh (List.mem_of_getElem? ha)
    unfold On at h7 h8
    simp only at h7
    exact ⟨by omega, by omega, by omega, by omega, h5⟩
theorem bw_odd {s : List Cell} (h : bordOk s = true) {a : Cell} (ha : s[0]? = some a) {c : Cell} : oddF (bordW s) c = 1 ↔ c ∈ shift s a.x a.y := by
  obtain ⟨a', K, ha', hK, hw, hsh, _⟩ := bw_data h
  rw [oddF, hs_shift]
  split
  · rw [bw_par h ha, bI_one]
  · rename_i hc
    constructor
    · intro e; cases e
    · intro h5
      have h6 : (⟨c.x + a.x, c.y + a.y⟩ : Cell) ∈ s := of_decide_eq_true h5
      have h7 := shp_on hsh h6
      have h8 := shp_on hsh (List.mem_of_getElem? ha)
      unfold On at h7 h8
      simp only at h7
      omega
theorem bw_oddS {s S : List Cell} (h : bordOk s = true) (hS : OddS (bordW s) S) : corner (sortC S) = corner s ∧ S.length = s.length := by
  obtain ⟨a, K, ha, hK, hw, hsh, _⟩ := bw_data h
  have hm : ∀ c, c ∈ shift s a.x a.y ↔ c ∈ S := fun c => by rw [hS.2, bw_odd h ha]
  have e := sortC_is (srt_shiftI (shp_srtI hsh)) hm
  refine ⟨by rw [e, corner_shiftI], ?_⟩
  have hn : (shift s a.x a.y).Nodup := (srt_shiftI (x := a.x) (y := a.y) (shp_srtI hsh)).imp fun {p q} hpq e => by
    rw [bef_iff, e] at hpq
    omega
  have := ((List.perm_ext_iff_of_nodup hn hS.1).2 hm).length_eq
  rw [shift_length] at this
  exact this.symm
open Classical in
/-- is there a shape inside? -/
noncomputable def okI (w : List UInt8) : Bool := decide (∃ s : List Cell, bordOk s = true ∧ bordW s = w ∧ corner s = s)
open Classical in
noncomputable def insL (w : List UInt8) : List Cell := if h : ∃ s : List Cell, bordOk s = true ∧ bordW s = w ∧ corner s = s then h.choose else []
open Classical in
theorem okI_data {w : List UInt8} (h : okI w = true) : bordOk (insL w) = true ∧ bordW (insL w) = w ∧ corner (insL w) = insL w := by
  unfold okI at h
  have h := of_decide_eq_true h
  unfold insL
  rw [dif_pos h]
  exact h.choose_spec
open Classical in
theorem okI_no {w : List UInt8} (h : okI w = false) : insL w = [] := by
  unfold okI at h
  have h := of_decide_eq_false h
  unfold insL
  rw [dif_neg h]
theorem okI_fil {s : List Cell} (h : bordOk s = true) : corner (filTo (bordW s) 40) = corner s := by
  obtain ⟨a, K, ha, _⟩ := bw_data h
  rw [bw_fil h ha, corner_shiftI]
open Classical in
theorem okI_of {t : List Cell} (h : bordOk t = true) (hc : corner t = t) : okI (bordW t) = true ∧ insL (bordW t) = t := by
  have h1 : okI (bordW t) = true := by
    unfold okI
    exact decide_eq_true ⟨t, h, rfl, hc⟩
  refine ⟨h1, ?_⟩
  obtain ⟨h2, h3, h4⟩ := okI_data h1
  have h5 := okI_fil h2
  rw [h3, okI_fil h, h4, hc] at h5
  exact h5.symm
theorem bord_nil : bordOk [] = false := by
  unfold bordOk connS
  rw [show isShape [] = false from rfl, Bool.false_and, Bool.false_and, Bool.false_and]
/-- what the program looks at -/
theorem okI_impl {w : List UInt8} {S : List Cell} (hS : OddS w S) : okI w = (bordOk (corner (sortC S)) && decide (bordW (corner (sortC S)) = w)) ∧ (okI w = true → insL w = corner (sortC S)) := by
  have key : okI w = true → insL w = corner (sortC S) := fun h => by
    obtain ⟨h2, h3, h4⟩ := okI_data h
    rw [← h3] at hS
    rw [(bw_oddS h2 hS).1, h4]
  refine ⟨?_, key⟩
  rw [Bool.eq_iff_iff, Bool.and_eq_true, decide_eq_true_iff]
  constructor
  · intro h
    obtain ⟨h2, h3, h4⟩ := okI_data h
    rw [← key h]
    exact ⟨h2, h3⟩
  · rintro ⟨h1, h2⟩
    rw [← h2]
    exact (okI_of h1 corner_twice).1
theorem okI_spec {w : List UInt8} : okI w = (bordOk (corner (filTo w 40)) && decide (bordW (corner (filTo w 40)) = w)) ∧ (okI w = true → insL w = corner (filTo w 40)) := by
  have key : okI w = true → insL w = corner (filTo w 40) := fun h => by
    obtain ⟨h2, h3, h4⟩ := okI_data h
    have h5 := okI_fil h2
    rw [h3, h4] at h5
    exact h5.symm
  refine ⟨?_, key⟩
  rw [Bool.eq_iff_iff, Bool.and_eq_true, decide_eq_true_iff]
  constructor
  · intro h
    obtain ⟨h2, h3, h4⟩ := okI_data h
    rw [← key h]
    exact ⟨h2, h3⟩
  · rintro ⟨h1, h2⟩
    rw [← h2]
    exact (okI_of h1 corner_twice).1
theorem okI_closed {w : List UInt8} (h : okI w = true) : clB w = true ∧ 1 ≤ arZ w ∧ arZ w ≤ 8 := by
  obtain ⟨h2, h3, h4⟩ := okI_data h
  obtain ⟨a, K, ha, hK, hw, hsh, _⟩ := bw_data h2
  have hl := shp_len hsh
  rw [← h3]
  refine ⟨bw_closed h2, ?_⟩
  rw [bw_area h2]
  omega
end Go.Proofs.YtghpkfihdcjlaaaGreatDoor

namespace Go.Proofs.YtghpkfihdcjlaaaGreatDoor
open Go.RowKit

theorem cv_inj {a b : Cell} (h : cv a = cv b) : a = b := by
  obtain ⟨x, y⟩ := a
  obtain ⟨u, v⟩ := b
  simp [cv] at h
  rw [h.1, h.2]
set_option maxRecDepth 100000 in
theorem cfindA (w : World) (c : Cell) : ∀ (es : List MapEntry) (i : Nat), (∀ e ∈ es, ∃ d, e.key = cv d) →
    ((Instr.findAsking 46 (cv c) es i).run Tryz.prog w = .ok none w ∧ ∀ e ∈ es, e.key ≠ cv c) ∨ ∃ j e, (Instr.findAsking 46 (cv c) es i).run Tryz.prog w = .ok (some (i + j, e.val)) w ∧ es[j]? = some e ∧ e.key = cv c
  | [], i, _ => .inl ⟨by simp [Instr.findAsking], by simp⟩
  | e :: es, i, h => by
    obtain ⟨d, hd⟩ := h e (by simp)
    by_cases hc : c = d
    · refine .inr ⟨0, e, ?_, rfl, by rw [hd, hc]⟩
      simp only [Instr.findAsking, Sem.run_bind]
      rw [hd, run_equal_cell]
      simp [hc, Result.andThen]
    · have key : (Instr.findAsking 46 (cv c) (e :: es) i).run Tryz.prog w = (Instr.findAsking 46 (cv c) es (i + 1)).run Tryz.prog w := by
        rw [Instr.findAsking]
        simp only [Sem.run_bind]
        rw [hd, run_equal_cell]
        simp [hc, Result.andThen]
      rcases cfindA w c es (i + 1) (fun x hx => h x (by simp [hx])) with ⟨h1, h2⟩ | ⟨j, x, h1, h2, h3⟩
      · left
        refine ⟨key.trans h1, fun x hx => ?_⟩
        rcases List.mem_cons.1 hx with rfl | hx
        · intro hk
          exact hc (cv_inj (hk.symm.trans hd))
        · exact h2 x hx
      · right
        refine ⟨j + 1, x, ?_, by simpa using h2, h3⟩
        rw [key, h1, show i + 1 + j = i + (j + 1) by omega]
set_option maxRecDepth 100000 in
theorem cfind (w : World) (c : Cell) (es : List MapEntry) (h : ∀ e ∈ es, ∃ d, e.key = cv d) :
    ((Instr.findKey 46 (cv c) es).run Tryz.prog w = .ok none w ∧ ∀ e ∈ es, e.key ≠ cv c) ∨ ∃ j e, (Instr.findKey 46 (cv c) es).run Tryz.prog w = .ok (some (j, e.val)) w ∧ es[j]? = some e ∧ e.key = cv c := by
  cases es with
  | nil => exact .inl ⟨by simp [Instr.findKey, run_underlying cellUnder, Instr.findNow], by simp⟩
  | cons e es =>
    have key : (Instr.findKey 46 (cv c) (e :: es)).run Tryz.prog w = (Instr.findAsking 46 (cv c) (e :: es) 0).run Tryz.prog w := by
      unfold cv
      simp only [Instr.findKey, Sem.run_bind, run_underlying cellUnder, Result.andThen_ok, Instr.findNow, Instr.sameNow]
    rcases cfindA w c (e :: es) 0 h with ⟨h1, h2⟩ | ⟨j, x, h1, h2, h3⟩
    · exact .inl ⟨key.trans h1, h2⟩
    · exact .inr ⟨j, x, by rw [key, h1, Nat.zero_add], h2, h3⟩
set_option maxRecDepth 100000 in
theorem cstays (w : World) (c : Cell) : (Instr.keyThatStays (cv c) (cv c)).run Tryz.prog w = .ok (cv c) w := by
  simp [Instr.keyThatStays, Instr.sameBits, cv]
set_option maxRecDepth 100000 in
theorem cmUnder : Tryz.prog.underlying 52 = some (.map 46 3) := by kernel_rfl
/-- the keys in the order in which they came, and their numbers -/
structure CMd (es : Array MapEntry) (cl : Nat) (K : List Cell) (f : Cell → Int) : Prop where
  st : MapKept.Stamped es cl
  keys : es.toList.map (·.key) = K.map cv
  vals : ∀ e ∈ es.toList, ∀ c, e.key = cv c → e.val = .int .i64 (f c)
  no : ∀ c, ¬ c ∈ K → f c = 0
theorem CMd.nil : CMd #[] 0 [] (fun _ => 0) := ⟨MapKept.stamped_empty 0, rfl, by simp, fun _ _ => rfl⟩
theorem CMd.isKey {es : Array MapEntry} {cl : Nat} {K : List Cell} {f : Cell → Int} (h : CMd es cl K f) : ∀ e ∈ es.toList, ∃ d, d ∈ K ∧ e.key = cv d := fun e he => by
  have : e.key ∈ K.map cv := by rw [← h.keys]; exact List.mem_map.2 ⟨e, he, rfl⟩
  obtain ⟨d, hd, h2⟩ := List.mem_map.1 this
  exact ⟨d, hd, h2.symm⟩
theorem CMd.nodup {es : Array MapEntry} {cl : Nat} {K : List Cell} {f : Cell → Int} (h : CMd es cl K f) : K.Nodup := by
  have h1 := h.st.2.2
  rw [h.keys] at h1
  rw [List.Nodup, List.pairwise_map] at h1
  exact h1.imp fun hab e => hab (by rw [e])
theorem CMd.not_mem {es : Array MapEntry} {cl : Nat} {K : List Cell} {f : Cell → Int} (h : CMd es cl K f) {c : Cell} (hn : ∀ e ∈ es.toList, e.key ≠ cv c) : ¬ c ∈ K := fun hc => by
  have : cv c ∈ es.toList.map (·.key) := by rw [h.keys]; exact List.mem_map.2 ⟨c, hc, rfl⟩
  obtain ⟨e, he, h2⟩ := List.mem_map.1 this
  exact hn e he h2
def CM (w : World) (b : Nat) (K : List Cell) (f : Cell → Int) : Prop := ∃ es cl, w.heap[b]? = some (.map es cl) ∧ CMd es cl K f
set_option maxRecDepth 100000 in
theorem CM.lookup {w : World} {b : Nat} {K : List Cell} {f : Cell → Int} (h : CM w b K f) (c : Cell) :
    (Instr.lookup 52 (.map (some b)) (cv c) false).run Tryz.prog w = .ok (.int .i64 (f c)) w := by
  obtain ⟨es, cl, hb, hd⟩ := h
  rcases cfind w c es.toList (fun e he => (hd.isKey e he).imp fun _ h => h.2) with ⟨h1, h2⟩ | ⟨j, e, h1, h2, h3⟩
  · have hz := hd.no c (hd.not_mem h2)
    simp [Instr.lookup, run_underlying cmUnder, MapKept.run_getObj_map hb, run_checkKey_cell, h1, Result.andThen, hz]
  · have hv := hd.vals e (List.mem_of_getElem? h2) c h3
    simp [Instr.lookup, run_underlying cmUnder, MapKept.run_getObj_map hb, run_checkKey_cell, h1, Result.andThen, hv]
def addK (K : List Cell) (c : Cell) : List Cell := if c ∈ K then K else K ++ [c]
set_option maxRecDepth 100000 in
theorem CM.update {w : World} {b : Nat} {K : List Cell} {f g : Cell → Int} (c : Cell) (h : CM w b K f) (hg : ∀ d, d ≠ c → g d = f d) :
    ∃ w', (Instr.mapUpdate 52 (.map (some b)) (cv c) (.int .i64 (g c))).run Tryz.prog w = .ok () w' ∧ CM w' b (addK K c) g ∧ Only (fun x => x = b) w w' := by
  obtain ⟨es, cl, hb, hd⟩ := h
  have ho : ∀ o, Only (fun x => x = b) w { w with heap := w.heap.setIfInBounds b o } := fun o => ⟨rfl, rfl, rfl, by simp, fun j hj hne => by
    have : b ≠ j := fun e => hne e.symm
    simp [this]⟩
  rcases cfind w c es.toList (fun e he => (hd.isKey e he).imp fun _ h => h.2) with ⟨h1, h2⟩ | ⟨j, e, h1, h2, h3⟩
  · have hc := hd.not_mem h2
    refine ⟨_, by simp [Instr.mapUpdate, run_underlying cmUnder, MapKept.run_getObj_map hb, run_checkKey_cell, h1, MapKept.run_setObj_map _ hb, Result.andThen]; rfl, ⟨_, _, (MapKept.heap_set hb).1, ⟨MapKept.stamped_push hd.st h2, ?_, ?_, ?_⟩⟩, ho _⟩
    · rw [addK, if_neg hc, Array.toList_push, List.map_append, List.map_append, hd.keys]
      rfl
    · intro x hx d hxd
      simp only [Array.toList_push, List.mem_append, List.mem_singleton] at hx
      rcases hx with hx | rfl
      · rw [hd.vals x hx d hxd, hg d (fun e => h2 x hx (by rw [hxd, e]))]
      · have := cv_inj hxd
        subst this
        rfl
    · intro d hd2
      rw [addK, if_neg hc, List.mem_append, List.mem_singleton] at hd2
      rw [hg d (fun e => hd2 (.inr e))]
      exact hd.no d fun h => hd2 (.inl h)
  · have hj : es[j]? = some e := by simpa using h2
    have hkey : ∀ e', es[j]? = some e' → ({ e' with key := cv c, val := .int .i64 (g c) } : MapEntry).key = e'.key := fun e' he' => by rw [hj] at he'; cases he'; exact h3.symm
    have hst := MapKept.stamped_modify hd.st j (fun e' => { e' with key := cv c, val := .int .i64 (g c) }) (fun _ _ => rfl) (fun e' _ he' => hkey e' he')
    have hkm := MapKept.modify_keys (es := es) j (fun e' => { e' with key := cv c, val := .int .i64 (g c) }) hkey
    have hcK : c ∈ K := by
      obtain ⟨d, h4, h5⟩ := hd.isKey e (List.mem_of_getElem? h2)
      rwa [cv_inj (h3.symm.trans h5)]
    refine ⟨_, by simp [Instr.mapUpdate, run_underlying cmUnder, MapKept.run_getObj_map hb, run_checkKey_cell, h1, hj, h3, cstays, MapKept.run_setObj_map _ hb, Result.andThen], ⟨_, _, (MapKept.heap_set hb).1, ⟨hst, ?_, ?_, ?_⟩⟩, ho _⟩
    · rw [hkm, hd.keys, addK, if_pos hcK]
    · intro x hx d hxd
      obtain ⟨i, hi⟩ := List.getElem?_of_mem hx
      rw [Array.getElem?_toList, Array.getElem?_modify] at hi
      by_cases ei : j = i
      · subst ei
        rw [if_pos rfl, hj] at hi
        injection hi with hi
        subst hi
        have := cv_inj hxd
        subst this
        rfl
      · rw [if_neg ei] at hi
        have hi2 : es.toList[i]? = some x := by rw [Array.getElem?_toList]; exact hi
        have hx2 : x ∈ es.toList := List.mem_of_getElem? hi2
        have hne : d ≠ c := by
          rintro rfl
          have hp := ((MapKept.stamped_iff es cl).1 hd.st).2.2
          obtain ⟨a1, a2⟩ := List.getElem?_eq_some_iff.1 hi2
          obtain ⟨b1, b2⟩ := List.getElem?_eq_some_iff.1 h2
          rcases Nat.lt_or_gt_of_ne ei with hl | hl
          · exact (List.pairwise_iff_getElem.1 hp j i b1 a1 hl) (by rw [a2, b2, hxd, h3])
          · exact (List.pairwise_iff_getElem.1 hp i j a1 b1 hl) (by rw [a2, b2, hxd, h3])
        rw [hd.vals x hx2 d hxd, hg d hne]
    · intro d hd2
      rw [addK, if_pos hcK] at hd2
      rw [hg d (fun e => hd2 (by rw [e]; exact hcK))]
      exact hd.no d hd2
set_option maxRecDepth 100000 in
theorem CM.len {w : World} {b : Nat} {K : List Cell} {f : Cell → Int} (h : CM w b K f) (ty : TypeId) : (Builtin.len_ #[52] ty #[.map (some b)]).run Tryz.prog w = .ok (.int .i64 K.length) w := by
  obtain ⟨es, cl, hb, hd⟩ := h
  have e1 : es.size = K.length := by
    have := congrArg List.length hd.keys
    simpa using this
  simp [Builtin.len_, run_underlying cmUnder, MapKept.run_getObj_map hb, goInt, Result.andThen, e1]
def Res.cmap (b : Nat) (K : List Cell) (f : Cell → Int) : Res := ⟨fun x => x = b, fun w => CM w b K f, fun hs h => by
  obtain ⟨es, cl, h1, h2⟩ := h
  exact ⟨es, cl, (hs b rfl).trans h1, h2⟩, fun h hb => by
  subst hb
  obtain ⟨es, cl, h1, h2⟩ := h
  exact (Array.getElem?_eq_some_iff.1 h1).1⟩
set_option maxRecDepth 100000 in
theorem Sep.cput {w0 w : World} {b : Nat} {K : List Cell} {f g : Cell → Int} {L : List Res} (c : Cell) (H : Sep w0 w (Res.cmap b K f :: L)) (hg : ∀ d, d ≠ c → g d = f d) :
    ∃ w', (Instr.mapUpdate 52 (.map (some b)) (cv c) (.int .i64 (g c))).run Tryz.prog w = .ok () w' ∧ Sep w0 w' (Res.cmap b (addK K c) g :: L) := by
  obtain ⟨w', h1, h2, h3⟩ := CM.update c (show CM w b K f from H.h0) hg
  exact ⟨w', h1, H.turn h3 h2 (fun _ hx => .inl hx)⟩
theorem Sep.cmade {w0 w : World} {L : List Res} (H : Sep w0 w L) : Sep w0 (w.alloc (.map #[] 0)) (Res.cmap w.heap.size [] (fun _ => 0) :: L) :=
  H.new (r := Res.cmap w.heap.size [] (fun _ => 0)) ((Below.refl _ _).alloc (Nat.le_refl _) _) ⟨#[], 0, heap_alloc_new w _, CMd.nil⟩ (fun x hx => by have hx : x = w.heap.size := hx; omega)
end Go.Proofs.YtghpkfihdcjlaaaGreatDoor

namespace Go.Proofs.YtghpkfihdcjlaaaGreatDoor
open Go.RowKit

/-- an object in its block, as it is -/
def Res.rawC (b : Nat) (o : Obj) : Res := ⟨fun x => x = b, fun w => w.heap[b]? = some o, fun hs h => (hs b rfl).trans h, fun h hb => by subst hb; exact (Array.getElem?_eq_some_iff.1 h).1⟩
theorem Sep.craw {w0 w : World} {b : Nat} {K : List Cell} {f : Cell → Int} {L : List Res} (H : Sep w0 w (Res.cmap b K f :: L)) : ∃ es cl, CMd es cl K f ∧ Sep w0 w (Res.rawC b (.map es cl) :: L) := by
  obtain ⟨es, cl, h1, h2⟩ := H.h0
  exact ⟨es, cl, h2, H.turn (r' := Res.rawC b (.map es cl)) (Only.of_below (Below.refl _ _)) h1 (fun _ hx => .inl hx)⟩
set_option maxRecDepth 100000 in
/-- one step of a range -/
theorem Sep.nextC {w0 w : World} {r b cl : Nat} {es : Array MapEntry} {s : Array Nat} {L : List Res} (hst : MapKept.Stamped es cl) (H : Sep w0 w (Res.rawC r (.mapIter (some b) cl s cl) :: Res.rawC b (.map es cl) :: L)) (ty : TypeId) :
    ((leftOf es s).size = 0 ∧ (Instr.next (.pointer (some ⟨r, 0, none⟩)) false ty).run Tryz.prog w = .ok (.tuple #[.bool false]) w) ∨
    ∃ e ∈ (leftOf es s).toList, ∃ w2 : World, (Instr.next (.pointer (some ⟨r, 0, none⟩)) false ty).run Tryz.prog w = .ok (.tuple #[.bool true, e.key, e.val]) w2 ∧ (Instr.entry (.pointer (some ⟨r, 0, none⟩))).run Tryz.prog w2 = .ok (.tuple #[e.key, e.val]) w2 ∧ Sep w0 w2 (Res.rawC r (.mapIter (some b) cl (s.push e.born) cl) :: Res.rawC b (.map es cl) :: L) := by
  have hr : w.heap[r]? = some (.mapIter (some b) cl s cl) := H.h0
  have hb : w.heap[b]? = some (.map es cl) := H.h1
  rcases run_next_at (P := Tryz.prog) w ty r b cl cl s es cl hr hb hst.1 (Nat.le_refl _) with h | ⟨e, he, w1, hw, hrun⟩
  · exact .inl h
  · right
    have H1 : Sep w0 w1 (Res.rawC r (.mapIter (some b) cl s cl) :: Res.rawC b (.map es cl) :: L) := by
      rcases hw with rfl | rfl
      · exact H
      · exact H.drew
    have hr1 : r < w1.heap.size := by
      have hx : w1.heap[r]? = some (.mapIter (some b) cl s cl) := H1.h0
      exact (Array.getElem?_eq_some_iff.1 hx).1
    have H2 : Sep w0 (ChangeMaps.setBlock w1 r (.mapIter (some b) cl (s.push e.born) cl)) (Res.rawC r (.mapIter (some b) cl (s.push e.born) cl) :: Res.rawC b (.map es cl) :: L) := by
      refine H1.turn (r' := Res.rawC r _) ⟨rfl, rfl, rfl, by simp [ChangeMaps.setBlock], fun j hj hne => ?_⟩ ?_ (fun _ hx => .inl hx)
      · have : r ≠ j := fun e => hne e.symm
        simp [ChangeMaps.setBlock, this]
      · show (ChangeMaps.setBlock w1 r _).heap[r]? = _
        simp [ChangeMaps.setBlock, hr1]
    refine ⟨e, he, _, hrun, ?_, H2⟩
    exact run_entry_at _ r b cl s es cl e H2.h0 H2.h1 (mem_left he).1 hst.2.1
theorem map_inj {α β : Type} {g : α → β} : ∀ {l : List α}, (l.map g).Nodup → ∀ {a b : α}, a ∈ l → b ∈ l → g a = g b → a = b
  | x :: l, h, a, b, ha, hb, e => by
    rw [List.map_cons, List.nodup_cons] at h
    rcases List.mem_cons.1 ha with ha' | ha' <;> rcases List.mem_cons.1 hb with hb' | hb'
    · rw [ha', hb']
    · subst ha'; exact absurd (List.mem_map.2 ⟨b, hb', e.symm⟩) h.1
    · subst hb'; exact absurd (List.mem_map.2 ⟨a, ha', e⟩) h.1
    · exact map_inj h.2 ha' hb' e
/-- the cells that have been met and stand for 1 -/
structure RgI (es : Array MapEntry) (f : Cell → Int) (sn : Array Nat) (S : List Cell) : Prop where
  nodup : S.Nodup
  mem : ∀ c, c ∈ S ↔ (∃ e ∈ es.toList, sn.contains e.born = true ∧ e.key = cv c) ∧ f c = 1
theorem RgI.start (es : Array MapEntry) (f : Cell → Int) : RgI es f #[] [] := ⟨List.nodup_nil, fun c => by
  constructor
  · intro h; cases h
  · rintro ⟨⟨e, _, h, _⟩, _⟩; simp at h⟩
theorem RgI.push_mem {es : Array MapEntry} {cl : Nat} {sn : Array Nat} {e : MapEntry} (hst : MapKept.Stamped es cl) (he : e ∈ es.toList) (c : Cell) :
    (∃ x ∈ es.toList, (sn.push e.born).contains x.born = true ∧ x.key = cv c) ↔ (∃ x ∈ es.toList, sn.contains x.born = true ∧ x.key = cv c) ∨ e.key = cv c := by
  constructor
  · rintro ⟨x, hx, h1, h2⟩
    rw [contains_push, Bool.or_eq_true] at h1
    rcases h1 with h1 | h1
    · exact .inl ⟨x, hx, h1, h2⟩
    · rw [beq_iff_eq] at h1
      have := map_inj hst.2.1 hx he h1
      subst this
      exact .inr h2
  · rintro (⟨x, hx, h1, h2⟩ | h2)
    · exact ⟨x, hx, by rw [contains_push, h1, Bool.true_or], h2⟩
    · exact ⟨e, he, by rw [contains_push, beq_self_eq_true, Bool.or_true], h2⟩
theorem RgI.yes {es : Array MapEntry} {cl : Nat} {f : Cell → Int} {sn : Array Nat} {S : List Cell} {e : MapEntry} {c : Cell} (h : RgI es f sn S) (hst : MapKept.Stamped es cl) (he : e ∈ es.toList) (hs : sn.contains e.born = false) (hk : e.key = cv c) (hf : f c = 1) : RgI es f (sn.push e.born) (S ++ [c]) := ⟨by
  rw [List.nodup_append]
  refine ⟨h.nodup, List.nodup_cons.2 ⟨by simp, List.nodup_nil⟩, fun a ha b hb e' => ?_⟩
  rw [List.mem_singleton] at hb
  subst hb; subst e'
  obtain ⟨⟨x, hx, h1, h2⟩, _⟩ := (h.mem _).1 ha
  have := map_inj hst.2.2 hx he (h2.trans hk.symm)
  subst this
  rw [h1] at hs
  exact Bool.noConfusion hs, fun d => by
  rw [List.mem_append, List.mem_singleton, h.mem, RgI.push_mem hst he]
  constructor
  · rintro (⟨h1, h2⟩ | rfl)
    · exact ⟨.inl h1, h2⟩
    · exact ⟨.inr hk, hf⟩
  · rintro ⟨h1 | h1, h2⟩
    · exact .inl ⟨h1, h2⟩
    · exact .inr (cv_inj (h1.symm.trans hk))⟩
theorem RgI.no {es : Array MapEntry} {cl : Nat} {f : Cell → Int} {sn : Array Nat} {S : List Cell} {e : MapEntry} {c : Cell} (h : RgI es f sn S) (hst : MapKept.Stamped es cl) (he : e ∈ es.toList) (hk : e.key = cv c) (hf : ¬ f c = 1) : RgI es f (sn.push e.born) S := ⟨h.nodup, fun d => by
  rw [h.mem, RgI.push_mem hst he]
  constructor
  · rintro ⟨h1, h2⟩
    exact ⟨.inl h1, h2⟩
  · rintro ⟨h1 | h1, h2⟩
    · exact ⟨h1, h2⟩
    · have := cv_inj (h1.symm.trans hk)
      subst this
      exact absurd h2 hf⟩
theorem RgI.done {es : Array MapEntry} {cl : Nat} {K : List Cell} {f : Cell → Int} {sn : Array Nat} {S : List Cell} (h : RgI es f sn S) (hd : CMd es cl K f) (h0 : (leftOf es sn).size = 0) : S.Nodup ∧ ∀ c, c ∈ S ↔ f c = 1 := ⟨h.nodup, fun c => by
  rw [h.mem]
  constructor
  · exact fun h => h.2
  · intro hf
    refine ⟨?_, hf⟩
    have hk : c ∈ K := Classical.byContradiction fun hn => by
      rw [hd.no c hn] at hf
      omega
    have : cv c ∈ es.toList.map (·.key) := by rw [hd.keys]; exact List.mem_map.2 ⟨c, hk, rfl⟩
    obtain ⟨e, he, hk2⟩ := List.mem_map.1 this
    exact ⟨e, he, all_seen es sn h0 e he, hk2⟩⟩
theorem RgI.len {es : Array MapEntry} {cl : Nat} {K : List Cell} {f : Cell → Int} {sn : Array Nat} {S : List Cell} (h : RgI es f sn S) (hd : CMd es cl K f) : S.length ≤ K.length := nodup_len h.nodup fun c hc => by
  obtain ⟨⟨e, he, _, hk⟩, _⟩ := (h.mem c).1 hc
  obtain ⟨d, hdK, hk2⟩ := hd.isKey e he
  rw [cv_inj (hk.symm.trans hk2)]
  exact hdK
end Go.Proofs.YtghpkfihdcjlaaaGreatDoor

namespace Go.Proofs.YtghpkfihdcjlaaaGreatDoor
open Go.RowKit

section
variable {s : List Cell} {x y : Int}
theorem hs_sh (u v : Int) : hs (shift s x y) u v = hs s (u + x) (v + y) := by
  unfold hs
  rw [Bool.eq_iff_iff, decide_eq_true_iff, decide_eq_true_iff, mem_shift]
theorem edge_sh (p : Cell) : ∀ d, edge (shift s x y) p d = edge s ⟨p.x + x, p.y + y⟩ d
  | 0 => by simp only [edge, hs_sh]; rw [show p.y - 1 + y = p.y + y - 1 by omega]
  | 1 => by simp only [edge, hs_sh]; rw [show p.x - 1 + x = p.x + x - 1 by omega]
  | 2 => by simp only [edge, hs_sh]; rw [show p.x - 1 + x = p.x + x - 1 by omega, show p.y - 1 + y = p.y + y - 1 by omega]
  | _ + 3 => by simp only [edge, hs_sh]; rw [show p.x - 1 + x = p.x + x - 1 by omega, show p.y - 1 + y = p.y + y - 1 by omega]
theorem outD_sh (p : Cell) : outD (shift s x y) p = outD s ⟨p.x + x, p.y + y⟩ := by
  unfold outD
  rw [edge_sh, edge_sh, edge_sh]
theorem wlk_sh (a : Cell) : ∀ n, wlk (shift s x y) ⟨a.x - x, a.y - y⟩ n = ⟨(wlk s a n).x - x, (wlk s a n).y - y⟩
  | 0 => rfl
  | n + 1 => by
    have e : ∀ p : Cell, (⟨p.x - x + x, p.y - y + y⟩ : Cell) = p := fun p => by
      cases p
      simp
    have key : ∀ {u v u' v' : Int}, u = u' → v = v' → (⟨u, v⟩ : Cell) = ⟨u', v'⟩ := by
      rintro _ _ _ _ rfl rfl
      rfl
    rw [wlk, wlk_sh a n, outD_sh]
    simp only
    rw [e, wlk]
    have hd := outD_lt s (wlk s a n)
    generalize outD s (wlk s a n) = d at *
    generalize wlk s a n = p at *
    have h4 : d = 0 ∨ d = 1 ∨ d = 2 ∨ d = 3 := by omega
    rcases h4 with rfl | rfl | rfl | rfl
    · exact key (show p.x - x + 1 = p.x + 1 - x by omega) rfl
    · exact key rfl (show p.y - y + 1 = p.y + 1 - y by omega)
    · exact key (show p.x - x - 1 = p.x - 1 - x by omega) rfl
    · exact key rfl (show p.y - y - 1 = p.y - 1 - y by omega)
theorem wrd_sh (a : Cell) (K : Nat) : wrd (shift s x y) ⟨a.x - x, a.y - y⟩ K = wrd s a K := by
  unfold wrd
  refine List.map_congr_left fun n _ => ?_
  rw [wlk_sh, outD_sh]
  simp only
  have e : (⟨(wlk s a n).x - x + x, (wlk s a n).y - y + y⟩ : Cell) = wlk s a n := by
    cases wlk s a n
    simp
  rw [e]
theorem pinC_sh (c : Cell) : pinC (shift s x y) ⟨c.x - x, c.y - y⟩ = pinC s c := by
  unfold pinC
  simp only [hs_sh]
  rw [show c.x - x + 1 + x = c.x + 1 by omega, show c.y - y + 1 + y = c.y + 1 by omega, show c.y - y + y = c.y by omega, show c.x - x + x = c.x by omega, show c.x - x - 1 + x = c.x - 1 by omega]
theorem pinS_sh : pinS (shift s x y) = pinS s := by
  rw [Bool.eq_iff_iff]
  unfold pinS
  rw [List.any_eq_true, List.any_eq_true]
  constructor
  · rintro ⟨c, hc, h⟩
    refine ⟨⟨c.x + x, c.y + y⟩, mem_shift.1 hc, ?_⟩
    rw [← pinC_sh (x := x) (y := y)]
    simpa using h
  · rintro ⟨c, hc, h⟩
    refine ⟨⟨c.x - x, c.y - y⟩, mem_shift.2 (by simpa using hc), ?_⟩
    rw [pinC_sh]
    exact h
theorem Hang.sh {a b : Cell} (h : Hang s a b) : Hang (shift s x y) ⟨a.x - x, a.y - y⟩ ⟨b.x - x, b.y - y⟩ := by
  induction h with
  | base => exact .base
  | step _ hc hs ih =>
    refine .step ih (mem_shift.2 (by simpa using hc)) ?_
    unfold sideB at *
    simp only
    rename_i b c _
    rw [show b.x - x - (c.x - x) = b.x - c.x by omega, show b.y - y - (c.y - y) = b.y - c.y by omega]
    exact hs
theorem cdec_iffI {p : Prop} : cdec p = true ↔ p := by
  constructor
  · intro h
    by_cases hp : p
    · exact hp
    · rw [cdec_f hp] at h; cases h
  · exact cdec_t
theorem hangs_sh (h : hangs s = true) : hangs (shift s x y) = true := by
  unfold hangs at h
  cases ha : s[0]? with
  | none => rw [ha] at h; cases h
  | some a =>
    rw [ha] at h
    have h2 : ∀ c ∈ s, Hang s a c := cdec_iffI.1 h
    have ht : (shift s x y)[0]? = some ⟨a.x - x, a.y - y⟩ := by
      unfold shift
      rw [List.getElem?_map, ha]
      rfl
    refine hangs_eq ht ⟨fun _ => rfl, fun _ c hc => ?_⟩
    have h3 := (h2 _ (mem_shift.1 hc)).sh (x := x) (y := y)
    have e : (⟨c.x + x - x, c.y + y - y⟩ : Cell) = c := by
      cases c
      simp
    simp only at h3
    rwa [e] at h3
end
theorem holes_corner {s : List Cell} : holesN (corner s) = holesN s := by
  have h1 : wdOf (corner s) = wdOf s := by unfold wdOf; rw [corner_twice]
  have h2 : htOf (corner s) = htOf s := by unfold htOf; rw [corner_twice]
  have h3 : frB (corner s) = frB s := by funext c; unfold frB; rw [h1, h2, corner_twice]
  have h4 : frO (corner s) = frO s := by funext c; unfold frO; rw [h1, h2, corner_twice]
  have h5 : rootS (corner s) = rootS s := by funext q; unfold rootS OutC; rw [h3, h4]
  unfold holesN
  rw [h5]
theorem isShape_srtI {s : List Cell} (h : Srt s) (hon : ∀ c ∈ s, On c) : isShape s = inR s.length 1 8 := by
  unfold isShape
  have h1 : (List.range s.length).all (okAt s) = true := by
    rw [List.all_eq_true]
    intro i hi
    rw [List.mem_range] at hi
    have hok : ∀ c ∈ s, okC c = true := fun c hc => by
      obtain ⟨⟨a1, a2⟩, a3, a4⟩ := hon c hc
      unfold okC
      rw [inR_t a1 a2, inR_t a3 a4]; rfl
    unfold okAt
    rw [List.getElem?_eq_getElem hi]
    simp only
    rw [hok _ (List.getElem_mem hi), Bool.true_and]
    by_cases h0 : i = 0
    · simp [h0]
    · have hb := List.pairwise_iff_getElem.1 h (i - 1) i (by omega) hi (by omega)
      rw [List.getElem?_eq_getElem (show i - 1 < s.length by omega)]
      simp [hb]
  rw [h1, Bool.true_and]
theorem shp_corner {s : List Cell} (h : isShape s = true) : isShape (corner s) = true := by
  have hl := shp_len h
  have hs : Srt (corner s) := srt_shiftI (shp_srtI h)
  have hlc : (corner s).length = s.length := by unfold corner; rw [shift_length]
  rw [isShape_srtI hs (fun c hc => corner_on h hc), hlc, inR_t (by omega) (by omega)]
theorem bord_corner {s : List Cell} (h : bordOk s = true) : bordOk (corner s) = true ∧ bordW (corner s) = bordW s := by
  have h' := h
  unfold bordOk at h'
  rw [Bool.and_eq_true, Bool.and_eq_true] at h'
  obtain ⟨⟨h1, h2⟩, h3⟩ := h'
  unfold connS at h1
  rw [Bool.and_eq_true] at h1
  obtain ⟨hsh, hh⟩ := h1
  have hsc := shp_corner hsh
  have hz : holesN s = 0 := by
    have := of_decide_eq_true h2
    unfold holesZ at this
    rw [if_pos hsh] at this
    omega
  have hp : pinS s = false := by simpa using h3
  have hpc : pinS (corner s) = false := by unfold corner; rw [pinS_sh]; exact hp
  have hok : bordOk (corner s) = true := by
    unfold bordOk connS
    rw [hsc, show hangs (corner s) = true from hangs_sh hh, hpc, holesZ, if_pos hsc, holes_corner, hz]
    rfl
  refine ⟨hok, ?_⟩
  obtain ⟨a, K, ha, hK, hw, _⟩ := bw_data h
  have hac : (corner s)[0]? = some ⟨a.x - minX s, a.y - minY s⟩ := by
    unfold corner shift
    rw [List.getElem?_map, ha]
    rfl
  have hKc : BordIs (corner s) ⟨a.x - minX s, a.y - minY s⟩ K := by
    refine ⟨⟨fun c hc => corner_on hsh hc, hpc, ?_⟩, hK.lo, hK.hi, ?_, ?_⟩
    · exact shp_first hsc hac
    · unfold corner
      rw [wlk_sh, hK.home]
    · intro k h1 h2 e
      unfold corner at e
      rw [wlk_sh, Cell.mk.injEq] at e
      apply hK.away k h1 h2
      generalize wlk s a k = p at *
      cases p
      cases a
      simp only at e
      rw [Cell.mk.injEq]
      omega
  rw [bordW_yes hok hac hKc, hw]
  unfold corner
  exact wrd_sh a K
/-- a border word gives its shape back, in its corner -/
theorem okI_bord {s : List Cell} (h : bordOk s = true) : okI (bordW s) = true ∧ insL (bordW s) = corner s := by
  obtain ⟨h1, h2⟩ := bord_corner h
  have := okI_of h1 corner_twice
  rwa [h2] at this
end Go.Proofs.YtghpkfihdcjlaaaGreatDoor
