
/-
  A shape's text: what it is; both walks. A shape's text: the program's walk.
-/
import Derived.Test.YtjoglffhdoneoaaGreatDoorOriX
import Derived.Test.YtjoglffhdoneoaaGreatDoorUbyte
import Derived.Test.YtjoglffhdoneoaaGreatDoorStr
import Derived.Test.YtjoglffhdoneoaaGreatDoorShelfR
import Derived.Deep.DeepCutAuto
import Derived.Test.YtjoglffhdoneoaaGreatDoorQTail
namespace Go.Proofs.YtjoglffhdoneoaaGreatDoor
open Go.RowKit

theorem shp_srt {s : List Cell} (h : isShape s = true) : Srt s := List.pairwise_iff_getElem.2 fun _ j hi hj hij => shp_pair h (List.getElem?_eq_getElem hi) j hij (List.getElem?_eq_getElem hj)
theorem srt_corner {s : List Cell} (h : Srt s) : Srt (corner s) := List.pairwise_map.2 (List.Pairwise.imp (fun {a b} hab => by rw [bef_iff] at hab ⊢; simp only; omega) h)
theorem sort_shp {s : List Cell} (h : isShape s = true) : sortC s = s := sortC_is (shp_srt h) fun _ => Iff.rfl
/-- a list that is drawn: in order, on the board -/
structure Grd (D : List Cell) : Prop where
  srt : Srt D
  on : ∀ c ∈ D, On c
  len : 1 ≤ D.length ∧ D.length ≤ 8
theorem grd_corner {s : List Cell} (h : isShape s = true) : Grd (corner s) := ⟨srt_corner (shp_srt h), fun _ hc => corner_on h hc, by unfold corner; rw [shift_length]; exact shp_len h⟩
/-- the text of row k -/
def rowF (D : List Cell) (k : Nat) : List UInt8 := D.foldl (fun t c => if c.y = (k : Int) then t ++ (List.replicate (c.x.toNat - t.length) 46 ++ [35]) else t) []
theorem rowF_take {D : List Cell} {i k : Nat} {c : Cell} (h : D[i]? = some c) : rowF (D.take (i + 1)) k = if c.y = (k : Int) then rowF (D.take i) k ++ (List.replicate (c.x.toNat - (rowF (D.take i) k).length) 46 ++ [35]) else rowF (D.take i) k := by
  have : D.take (i + 1) = D.take i ++ [c] := by rw [List.take_add_one, h]; rfl
  unfold rowF
  rw [this, List.foldl_append]
  rfl
theorem rowF_len {D : List Cell} (hD : Grd D) : ∀ (i k : Nat), i ≤ D.length → (rowF (D.take i) k).length = 0 ∨ ∃ j c, j < i ∧ D[j]? = some c ∧ c.y = (k : Int) ∧ ((rowF (D.take i) k).length : Int) = c.x + 1
  | 0, _, _ => .inl rfl
  | i + 1, k, hi => by
    obtain ⟨c, hc⟩ : ∃ c, D[i]? = some c := ⟨D[i], List.getElem?_eq_getElem (by omega)⟩
    have ih := rowF_len hD i k (by omega)
    have hon := hD.on c (List.mem_of_getElem? hc)
    unfold On at hon
    rw [rowF_take hc]
    split
    · rename_i hy
      refine .inr ⟨i, c, by omega, hc, hy, ?_⟩
      have hle : ((rowF (D.take i) k).length : Int) ≤ c.x := by
        rcases ih with h | ⟨j, d, hj, hd, hdy, hl⟩
        · omega
        · obtain ⟨hj', rfl⟩ := List.getElem?_eq_some_iff.1 hd
          obtain ⟨hi', rfl⟩ := List.getElem?_eq_some_iff.1 hc
          have := bef_iff.1 (List.pairwise_iff_getElem.1 hD.srt j i hj' hi' hj)
          omega
      simp only [List.length_append, List.length_replicate, List.length_cons, List.length_nil]
      omega
    · rcases ih with h | ⟨j, d, hj, hd, hdy, hl⟩
      · exact .inl h
      · exact .inr ⟨j, d, by omega, hd, hdy, hl⟩
/-- the next cell lies behind its row's text -/
theorem rowF_le {D : List Cell} (hD : Grd D) {i k : Nat} {c : Cell} (hc : D[i]? = some c) (hk : c.y = (k : Int)) : (rowF (D.take i) k).length ≤ c.x.toNat := by
  have hi := (List.getElem?_eq_some_iff.1 hc).1
  rcases rowF_len hD i k (by omega) with h | ⟨j, d, hj, hd, hdy, hl⟩
  · omega
  · obtain ⟨hj', rfl⟩ := List.getElem?_eq_some_iff.1 hd
    obtain ⟨hi', rfl⟩ := List.getElem?_eq_some_iff.1 hc
    have := bef_iff.1 (List.pairwise_iff_getElem.1 hD.srt j i hj' hi' hj)
    omega
theorem rowF_8 {D : List Cell} (hD : Grd D) {i k : Nat} (hi : i ≤ D.length) : (rowF (D.take i) k).length ≤ 8 := by
  rcases rowF_len hD i k hi with h | ⟨j, d, hj, hd, hdy, hl⟩
  · omega
  · have := hD.on d (List.mem_of_getElem? hd)
    unfold On at this
    omega
theorem rowF_none {k : Nat} : ∀ {B : List Cell} {t : List UInt8}, (∀ c ∈ B, c.y ≠ (k : Int)) → B.foldl (fun t c => if c.y = (k : Int) then t ++ (List.replicate (c.x.toNat - t.length) 46 ++ [35]) else t) t = t
  | [], _, _ => rfl
  | c :: B, t, h => by
    rw [List.foldl_cons, if_neg (h c (by simp))]
    exact rowF_none fun d hd => h d (by simp [hd])
/-- the rows up to y, with strokes between them -/
def txtF (f : Nat → List UInt8) : Nat → List UInt8
  | 0 => f 0
  | y + 1 => txtF f y ++ 47 :: f (y + 1)
theorem txtF_len {f : Nat → List UInt8} (h : ∀ k, (f k).length ≤ 8) : ∀ y, (txtF f y).length ≤ 9 * y + 8
  | 0 => h 0
  | y + 1 => by
    have := txtF_len h y
    have := h (y + 1)
    rw [txtF, List.length_append, List.length_cons]
    omega
theorem txtF_next {f : Nat → List UInt8} {y : Nat} (h : f (y + 1) = []) : txtF f (y + 1) = txtF f y ++ [47] := by rw [txtF, h]
theorem txtF_same {f g : Nat → List UInt8} : ∀ {y : Nat}, (∀ k, k ≤ y → g k = f k) → txtF g y = txtF f y
  | 0, h => h 0 (Nat.le_refl _)
  | y + 1, h => by rw [txtF, txtF, h _ (Nat.le_refl _), txtF_same fun k hk => h k (by omega)]
theorem txtF_add {f g : Nat → List UInt8} {y : Nat} {e : List UInt8} (h : ∀ k, k < y → g k = f k) (hy : g y = f y ++ e) : txtF g y = txtF f y ++ e := by
  cases y with
  | zero => exact hy
  | succ y => rw [txtF, txtF, hy, txtF_same (f := f) (g := g) fun k hk => h k (by omega)]; simp
theorem txtF_join {f : Nat → List UInt8} : ∀ y, txtF f y = Lib.join ((List.range (y + 1)).map f) [47]
  | 0 => by simp [txtF, Lib.join_one]
  | y + 1 => by
    rw [List.range_succ, List.map_append, List.map_cons, List.map_nil, join_snoc _ _ _ (by simp), ← txtF_join y, txtF]
    simp
/-- a shape's text -/
def fmtSh (s : List Cell) : ByteArray := tb (txtF (rowF (corner s)) (htOf s - 1).toNat)
set_option maxRecDepth 100000 in
set_option maxHeartbeats 3200000 in
theorem spec_fmtSh_c {v : Value} {s : List Cell} (w : World) (h : CellsRd w 0 w.heap.size v s) (hsh : isShape s = true) :
    Calls Tryz.prog 86 #[v] w fun e w' => e = .returned (.string (fmtSh s)) ∧ Below w.heap.size w w' := by
  have HC := Lib.hid (cornerShape_c w h hsh)
  obtain ⟨A, c, rfl, _, _⟩ := id h
  have HG := Lib.hid (grd_corner hsh)
  have HSH := Lib.hid hsh
  obtain ⟨D, hD⟩ : ∃ D, D = corner s := ⟨_, rfl⟩
  rw [← hD] at HC HG
  have HR : Hid (fmtSh s = tb (txtF (rowF D) (htOf s - 1).toNat)) := Lib.hid (by rw [hD]; rfl)
  have HDD := Lib.hid hD
  obtain ⟨R, hR⟩ : ∃ R, R = fmtSh s := ⟨_, rfl⟩
  rw [← hR] at HR ⊢
  clear h hsh hD hR
  go_enter Tryz.func86, Tryz.ntmps86
  go_wp2_with fail
  refine (HC.out).mono ?_
  rintro e w1 ⟨v1, rfl, o1, b1⟩
  obtain ⟨A1, c1, rfl, _, hr⟩ := o1.rd
  obtain ⟨n, hn⟩ : ∃ n, n = D.length := ⟨_, rfl⟩
  rw [← hn] at hr ⊢
  have HN := Lib.hid hn
  obtain ⟨b, off, hA1, _, hb, hc⟩ := hr.2 (by have := HG.out.len; omega)
  subst hA1
  have HCE := Lib.hid hc
  have hn8 : n ≤ 8 := by have := HG.out.len; omega
  have hn1 : 1 ≤ n := by have := HG.out.len; omega
  clear hr hc hn o1 HC
  go_wp2
  go_loopw [4, 5, 6, 7] (fun tv xv yv iv wx => ∃ (i x y : Nat) (T : List UInt8), i ≤ n ∧ iv = .int .i64 i ∧ xv = .int .i64 x ∧ yv = .int .i64 y ∧ tv = .string (tb T) ∧ x ≤ 8 ∧ y ≤ 7 ∧ Hid (T = txtF (rowF (D.take i)) y) ∧ Hid (x = (rowF (D.take i) y).length) ∧ Hid (∀ c ∈ D.take i, c.y ≤ (y : Int)) ∧ Hid (∀ c, D[i]? = some c → (y : Int) ≤ c.y) ∧ Hid (i = n → (y : Int) = htOf s - 1) ∧ w1 = wx) (fun _ _ _ iv _ => n - (intOf iv).toNat)
  case atStart => exact ⟨0, 0, 0, [], Nat.zero_le _, rfl, rfl, rfl, rfl, by omega, by omega, Lib.hid rfl, Lib.hid rfl, Lib.hid (fun c hc => by simp at hc), Lib.hid (fun c hc => by have := HG.out.on c (List.mem_of_getElem? hc); unfold On at this; omega), Lib.hid (fun h => by omega), rfl⟩
  case round =>
    obtain ⟨i, x, y, T, hi, rfl, rfl, rfl, rfl, hx8, hy7, HT, HX, HY, HYN, HE, rfl⟩ := hrel
    by_cases hlt : i < n
    · have hlti : (i : Int) < (n : Int) := by omega
      obtain ⟨d, hd⟩ : ∃ d, D[i]? = some d := ⟨D[i]'(by rw [← HN.out]; exact hlt), List.getElem?_eq_getElem _⟩
      have hon := HG.out.on d (List.mem_of_getElem? hd)
      unfold On at hon
      have hdy := HYN.out d hd
      obtain ⟨cX, hcX⟩ : ∃ m : Nat, d.x = (m : Int) := ⟨d.x.toNat, by omega⟩
      obtain ⟨cY, hcY⟩ : ∃ m : Nat, d.y = (m : Int) := ⟨d.y.toNat, by omega⟩
      have x1 := HCE.out _ _ (cc_at hd).1
      have x2 : w1.cell? ⟨b, off + i * 2 + 1, none⟩ = some (.int .i64 d.y) := by rw [Nat.add_assoc]; exact HCE.out _ _ (cc_at hd).2
      rw [hcX] at x1
      rw [hcY] at x2
      have hyc : y ≤ cY := by omega
      have hcX7 : cX ≤ 7 := by omega
      have hcY7 : cY ≤ 7 := by omega
      have HD := Lib.hid hd
      have HCX := Lib.hid hcX
      have HCY := Lib.hid hcY
      clear hd hon hdy hcX hcY HYN HE
      go_wp2
      go_loopw [4, 5, 6] (fun tv xv yv wx => ∃ (x y : Nat) (T : List UInt8), xv = .int .i64 x ∧ yv = .int .i64 y ∧ tv = .string (tb T) ∧ x ≤ 8 ∧ y ≤ cY ∧ Hid (T = txtF (rowF (D.take i)) y) ∧ Hid (x = (rowF (D.take i) y).length) ∧ Hid (∀ c ∈ D.take i, c.y ≤ (y : Int)) ∧ w1 = wx) (fun _ _ yv _ => cY - (intOf yv).toNat)
      case atStart => exact ⟨x, y, T, rfl, rfl, rfl, hx8, hyc, HT, HX, HY, rfl⟩
      case round =>
        clear HT HX HY hx8 hyc hy7
        obtain ⟨x, y, T, rfl, rfl, rfl, hx8, hyc, HT, HX, HY, rfl⟩ := hrel
        have hTl : (tb T).size ≤ 80 := by
          rw [tb_size, HT.out]
          have := txtF_len (f := rowF (D.take i)) (fun k => rowF_8 HG.out (by rw [← HN.out]; omega)) y
          omega
        have hs1 : ¬ 9223372036854775807 < (tb T).size + 1 := by omega
        by_cases hy : y < cY
        · have hyi : (y : Int) < (cY : Int) := by omega
          have HT2 : Hid (T ++ [47] = txtF (rowF (D.take i)) (y + 1)) := Lib.hid (by
            rw [HT.out, txtF_next (rowF_none fun c hc => by have := HY.out c hc; omega)])
          have HX2 : Hid (0 = (rowF (D.take i) (y + 1)).length) := Lib.hid (by
            have : rowF (D.take i) (y + 1) = [] := rowF_none fun c hc => by have := HY.out c hc; omega
            rw [this]; rfl)
          have HY2 : Hid (∀ c ∈ D.take i, c.y ≤ ((y + 1 : Nat) : Int)) := Lib.hid fun c hc => by have := HY.out c hc; omega
          go_wp2
          go_roundw
          case rel => exact ⟨0, y + 1, T ++ [47], rfl, by go_num, congrArg Value.string (tb_app (a := T) (b := [47])), by omega, by omega, HT2, HX2, HY2, trivial⟩
          case measure => simp [intOf]; omega
        · obtain rfl : y = cY := by omega
          have HXL : Hid (x ≤ cX) := Lib.hid (by
            have := rowF_le HG.out HD.out HCY.out
            rw [← HX.out] at this
            have := HCX.out
            omega)
          have hxl := HXL.out
          clear hs1
          go_wp2
          go_loopw [4, 5] (fun tv xv wx => ∃ (e : Nat), xv = .int .i64 ((x + e : Nat) : Int) ∧ tv = .string (tb (T ++ List.replicate e 46)) ∧ x + e ≤ cX ∧ w1 = wx) (fun _ xv _ => cX - (intOf xv).toNat)
          case atStart => exact ⟨0, rfl, by simp, by omega, rfl⟩
          case round =>
            obtain ⟨e, rfl, rfl, hxe, rfl⟩ := hrel
            have hT2 : (tb (T ++ List.replicate e 46)).size ≤ 90 := by
              rw [tb_size] at hTl ⊢
              rw [List.length_append, List.length_replicate]
              omega
            have hs1 : ¬ 9223372036854775807 < (tb (T ++ List.replicate e 46)).size + 1 := by omega
            by_cases hx : x + e < cX
            · have hxi : ((x + e : Nat) : Int) < (cX : Int) := by omega
              have HS : Hid (tb (T ++ List.replicate e 46) ++ ⟨#[46]⟩ = tb (T ++ List.replicate (e + 1) 46)) := Lib.hid (by
                rw [List.replicate_succ', ← List.append_assoc]
                exact tb_app (b := [46]))
              generalize tb (T ++ List.replicate e 46) = U at *
              obtain ⟨z, hz⟩ : ∃ z : Nat, z = x + e := ⟨_, rfl⟩
              rw [← hz] at hxi hxe hx ⊢
              have HZ := Lib.hid hz
              clear hz
              go_wp2
              go_roundw
              case rel => exact ⟨e + 1, by have := HZ.out; go_num, by rw [HS.out], by have := HZ.out; omega, trivial⟩
              case measure => simp [intOf]; omega
            · have hze : x + e = cX := by omega
              have HNT : Hid (T ++ List.replicate e 46 ++ [35] = txtF (rowF (D.take (i + 1))) y) := Lib.hid (by
                have h1 := rowF_take (k := y) HD.out
                rw [if_pos HCY.out] at h1
                have h2 := txtF_add (f := rowF (D.take i)) (g := rowF (D.take (i + 1))) (y := y) (e := List.replicate (d.x.toNat - (rowF (D.take i) y).length) 46 ++ [35]) (fun k hk => by
                  rw [rowF_take HD.out, if_neg (by have := HCY.out; omega)]) h1
                rw [h2, ← HT.out, ← HX.out]
                have : d.x.toNat - x = e := by have := HCX.out; omega
                rw [this, List.append_assoc])
              have HNX : Hid (cX + 1 = (rowF (D.take (i + 1)) y).length) := Lib.hid (by
                rw [rowF_take HD.out, if_pos HCY.out, List.length_append, List.length_append, List.length_replicate, ← HX.out]
                have := HCX.out
                simp only [List.length_cons, List.length_nil]
                omega)
              have HNY : Hid (∀ c ∈ D.take (i + 1), c.y ≤ (y : Int)) := Lib.hid fun c hc => by
                rw [List.take_add_one, HD.out] at hc
                rcases List.mem_append.1 hc with hc | hc
                · exact HY.out c hc
                · simp at hc
                  subst hc
                  have := HCY.out
                  omega
              have HNN : Hid (∀ c, D[i + 1]? = some c → (y : Int) ≤ c.y) := Lib.hid fun c hc => by
                obtain ⟨hi', rfl⟩ := List.getElem?_eq_some_iff.1 hc
                obtain ⟨hi2, hdd⟩ := List.getElem?_eq_some_iff.1 HD.out
                have := bef_iff.1 (List.pairwise_iff_getElem.1 HG.out.srt i (i + 1) hi2 hi' (by omega))
                rw [hdd] at this
                have := HCY.out
                omega
              have HNE : Hid (i + 1 = n → (y : Int) = htOf s - 1) := Lib.hid fun hin => by
                have hdm : d ∈ corner s := by rw [← HDD.out]; exact List.mem_of_getElem? HD.out
                have h1 := (corner_lt hdm).2
                have h2 := mxTo_le (f := (·.y)) (l := corner s) (m := (y : Int) + 1) (fun c hc => by
                  rw [← HDD.out] at hc
                  have : D.take (i + 1) = D := by rw [hin, HN.out, List.take_length]
                  have := HNY.out c (by rw [this]; exact hc)
                  omega) (by omega) (corner s).length (Nat.le_refl _)
                have := HCY.out
                unfold htOf at *
                omega
              have HS : Hid (tb (T ++ List.replicate e 46) ++ ⟨#[35]⟩ = tb (T ++ List.replicate e 46 ++ [35])) := Lib.hid (tb_app (b := [35]))
              generalize tb (T ++ List.replicate e 46) = U at *
              rw [hze]
              clear hze
              go_wp2
              go_roundw
              case rel => exact ⟨i + 1, cX + 1, y, _, by omega, by go_num, by go_num, rfl, by rw [HS.out], by omega, by omega, HNT, HNX, HNY, HNN, HNE, trivial⟩
              case measure => simp [intOf]; omega
    · obtain rfl : i = n := by omega
      have HRR : Hid (R = tb T) := Lib.hid (by
        have h1 := HE.out rfl
        rw [HR.out, HT.out, HN.out, List.take_length]
        congr 2
        omega)
      go_wp2
      go_ret
      exact ⟨by rw [HRR.out]; rfl, b1⟩
end Go.Proofs.YtjoglffhdoneoaaGreatDoor

namespace Go.Proofs.YtjoglffhdoneoaaGreatDoor
open Go.RowKit

set_option maxRecDepth 100000 in
set_option maxHeartbeats 800000 in
theorem impl_cornerShape_c {v : Value} {s : List Cell} (w : World) (h : CellsRd w 0 w.heap.size v s) (hsh : isShape s = true) :
    Calls Tryz.prog 95 #[v] w fun e w' => ∃ v', e = .returned v' ∧ CellsIn w' w.heap.size w'.heap.size v' (corner s) ∧ Below w.heap.size w w' := by
  have hl := shp_len hsh
  have HI := Lib.hid (impl_isShape_c w h (by omega))
  rw [hsh] at HI
  have HC : Hid (∀ w1, Below w.heap.size w w1 → Calls Tryz.prog 117 #[v] w1 fun e w' => ∃ v', e = .returned v' ∧ CellsIn w' w1.heap.size w'.heap.size v' (corner s) ∧ Below w1.heap.size w1 w') := Lib.hid fun w1 b1 => by
    have := impl_corner_c w1 ((h.keep (SameIn.of_below b1 (Nat.le_refl _))).more (Nat.le_refl _) b1.size) hl.1 (by omega) (shp_sml5 hsh)
    rw [sort_shp hsh] at this
    exact this
  obtain ⟨A, c, rfl, _, _⟩ := id h
  clear h hsh
  go_enter Tryz.func95, Tryz.ntmps95
  go_wp2_with fail
  refine (HI.out).mono ?_
  rintro e w1 ⟨rfl, b1⟩
  have HC2 := Lib.hid (HC.out w1 b1)
  clear HC HI
  go_wp2_with fail
  refine (HC2.out).mono ?_
  rintro e w2 ⟨v2, rfl, o2, b2⟩
  obtain ⟨A2, c2, rfl, _, _⟩ := o2.rd
  have HO := Lib.hid o2
  have hb := b1.trans (b2.mono b1.size)
  have hb1 := b1.size
  clear b1 b2 HC2 o2
  go_wp2
  go_ret
  exact ⟨_, rfl, HO.out.base hb1 (Nat.le_refl _), hb⟩
set_option maxRecDepth 100000 in
set_option maxHeartbeats 1600000 in
theorem extent_c {v : Value} {D : List Cell} (w : World) (h : CellsRd w 0 w.heap.size v D) (hG : Grd D) :
    Calls Tryz.prog 96 #[v] w fun e w' => e = .returned (.tuple #[.int .i64 (mxTo (·.x) D D.length), .int .i64 (mxTo (·.y) D D.length)]) ∧ Below w.heap.size w w' := by
  obtain ⟨A, c, rfl, hm, hr⟩ := h
  obtain ⟨n, hn⟩ : ∃ n, n = D.length := ⟨_, rfl⟩
  rw [← hn] at hr ⊢
  have HN := Lib.hid hn
  obtain ⟨b, off, hA, _, hb, hc⟩ := hr.2 (by have := hG.len; omega)
  subst hA
  have HCE := Lib.hid hc
  have HG := Lib.hid hG
  have hn8 : n ≤ 8 := by have := hG.len; omega
  clear hr hc hn hG hm
  go_enter Tryz.func96, Tryz.ntmps96
  go_wp2
  go_loopw [4, 5, 10] (fun xv yv kv wx => ∃ (k : Nat) (X Y : Int), k ≤ n ∧ kv = .int .i64 k ∧ xv = .int .i64 X ∧ yv = .int .i64 Y ∧ Hid (X = mxTo (·.x) D k) ∧ Hid (Y = mxTo (·.y) D k) ∧ Below w.heap.size w wx) (fun _ _ kv _ => n - (intOf kv).toNat)
  case atStart => exact ⟨0, 0, 0, Nat.zero_le _, rfl, rfl, rfl, Lib.hid rfl, Lib.hid rfl, Below.refl _ _⟩
  case round =>
    obtain ⟨k, X, Y, hk, rfl, rfl, rfl, HX, HY, hbel⟩ := hrel
    by_cases hlt : k < n
    · obtain ⟨d, hd⟩ : ∃ d, D[k]? = some d := ⟨D[k]'(by rw [← HN.out]; exact hlt), List.getElem?_eq_getElem _⟩
      have hon := HG.out.on d (List.mem_of_getElem? hd)
      unfold On at hon
      obtain ⟨⟨n1, n2⟩, n3, n4⟩ := hon
      have x1 := (hbel.cell (p := ⟨b, off + k * 2, none⟩) hb).trans (HCE.out _ _ (cc_at hd).1)
      have x2 : wr.cell? ⟨b, off + k * 2 + 1, none⟩ = some (.int .i64 d.y) := (hbel.cell (p := ⟨b, off + k * 2 + 1, none⟩) hb).trans (by rw [Nat.add_assoc]; exact HCE.out _ _ (cc_at hd).2)
      have HLA := Lib.hid hd
      have H1 := (Sep.start w).step hbel |>.box 92 #[.int .i64 d.x, .int .i64 d.y]
      obtain ⟨g, hg⟩ : ∃ g, g = wr.heap.size := ⟨_, rfl⟩
      clear hd
      go_upto_region 5 with fail
      rw [← hg] at H1 ⊢
      generalize wr.alloc (.cells #[.int .i64 d.x, .int .i64 d.y] 92) = W at *
      clear hg x1 x2
      have c0 : W.cell? ⟨g, 0, none⟩ = some (.int .i64 d.x) := H1.h0.cell 0
      have c1 : W.cell? ⟨g, 1, none⟩ = some (.int .i64 d.y) := H1.h0.cell 1
      have HB2 := H1.below
      clear H1 hbel
      have e1 : IntKind.i64.wrap (d.x + 1) = d.x + 1 := IntWalk.i64_in _ (by omega)
      have e2 : IntKind.i64.wrap (d.y + 1) = d.y + 1 := IntWalk.i64_in _ (by omega)
      have EX : Hid (mxTo (·.x) D (k + 1) = max X (d.x + 1)) := Lib.hid (by rw [mxTo_next HLA.out, ← HX.out]; split <;> omega)
      have EY : Hid (mxTo (·.y) D (k + 1) = max Y (d.y + 1)) := Lib.hid (by rw [mxTo_next HLA.out, ← HY.out]; split <;> omega)
      clear HX HY
      go_wp2_with fail
      go_quiet (fail)
      clear c0 c1 e1 e2
      have HB3 := below_drewN HB2 nq
      generalize W.drewN nq = w5 at *
      go_wp2
      go_roundw
      case rel => exact ⟨k + 1, _, _, by omega, by go_num, rfl, rfl, Lib.hid EX.out.symm, Lib.hid EY.out.symm, HB3⟩
      case measure => simp [intOf]; omega
    · obtain rfl : k = n := by omega
      go_wp2
      refine bodyPost_ret (results_tmp2 rfl _ _ _) rfl ?_
      exact ⟨by rw [← HX.out, ← HY.out]; rfl, hbel⟩
/-- the rows behind i cells -/
def rowsF (D : List Cell) (i h : Nat) : List ByteArray := (List.range h).map fun k => tb (rowF (D.take i) k)
theorem rowsF_len {D : List Cell} {i h : Nat} : (rowsF D i h).length = h := by simp [rowsF]
theorem rowsF_at {D : List Cell} {i h k : Nat} (hk : k < h) : (rowsF D i h)[k]? = some (tb (rowF (D.take i) k)) := by simp [rowsF, hk]
theorem rowsF_set {D : List Cell} {i h k : Nat} {c : Cell} (hk : k < h) (hc : D[i]? = some c) (hy : c.y = (k : Int)) : (rowsF D i h).set k (tb (rowF (D.take (i + 1)) k)) = rowsF D (i + 1) h := by
  apply List.ext_getElem?
  intro j
  by_cases hj : j < h
  · rw [rowsF_at hj]
    by_cases e : j = k
    · subst e
      rw [List.getElem?_set_self (by rw [rowsF_len]; exact hj)]
    · rw [List.getElem?_set_ne (fun q => e q.symm), rowsF_at hj, rowF_take hc, if_neg (by omega)]
  · rw [List.getElem?_eq_none (by rw [List.length_set, rowsF_len]; omega), List.getElem?_eq_none (by rw [rowsF_len]; omega)]
theorem sc_set {l : List ByteArray} {j : Nat} {a : ByteArray} : (sc l).set j (.string a) = sc (l.set j a) := by simp [sc, List.map_set]
theorem rep_dots (k : Nat) : (⟨(Lib.repeatL (⟨#[46]⟩ : ByteArray).data.toList k).toArray⟩ : ByteArray) = tb (List.replicate k 46) := by
  have := Lib.repeatL_replicate 46 1 k
  rw [Nat.mul_one] at this
  show (⟨(Lib.repeatL (List.replicate 1 46) k).toArray⟩ : ByteArray) = _
  rw [this]; rfl
set_option maxRecDepth 100000 in
set_option maxHeartbeats 3200000 in
theorem impl_fmtSh_c {v : Value} {s : List Cell} (w : World) (h : CellsRd w 0 w.heap.size v s) (hsh : isShape s = true) :
    Calls Tryz.prog 62 #[v] w fun e w' => e = .returned (.string (fmtSh s)) ∧ Below w.heap.size w w' := by
  obtain ⟨i0, hi, hz0, hz1, hz2⟩ := info_parts infoStr
  have HC := Lib.hid (impl_cornerShape_c w h hsh)
  obtain ⟨A, c, rfl, _, _⟩ := id h
  have HG := Lib.hid (grd_corner hsh)
  obtain ⟨D, hD⟩ : ∃ D, D = corner s := ⟨_, rfl⟩
  rw [← hD] at HC HG
  have hht := shp_size hsh
  obtain ⟨ht, hh⟩ : ∃ ht : Nat, htOf s = (ht : Int) := ⟨(htOf s).toNat, by omega⟩
  have hht1 : 1 ≤ ht := by omega
  have hht8 : ht ≤ 8 := by have := shp_min hsh; omega
  have HMX : Hid (mxTo (·.y) D D.length = (ht : Int)) := Lib.hid (by rw [hD, ← hh]; rfl)
  have HDH : Hid (∀ c ∈ D, c.y < (ht : Int)) := Lib.hid fun c hc => by rw [← hh]; exact (corner_lt (by rw [← hD]; exact hc)).2
  have HR : Hid (fmtSh s = joinB ⟨#[47]⟩ (rowsF D D.length ht)) := Lib.hid (by
    unfold fmtSh
    rw [← hD, txtF_join, hh, show ((ht : Int) - 1).toNat + 1 = ht by omega]
    unfold joinB rowsF
    rw [List.take_length, List.map_map]
    rfl)
  obtain ⟨R, hR⟩ : ∃ R, R = fmtSh s := ⟨_, rfl⟩
  rw [← hR] at HR ⊢
  have HREP : Hid (∀ (k : Nat) w1, k ≤ 8 → Calls Tryz.prog 97 #[.string ⟨#[46]⟩, .int .i64 k] w1 fun e w' => e = .returned (.string (tb (List.replicate k 46))) ∧ Below w1.heap.size w1 w') := Lib.hid fun k w1 hk => by
    have := Tryz.strings_Repeat ⟨#[46]⟩ k w1 (by omega) (by show 1 * k ≤ _; omega)
    rw [rep_dots] at this
    exact this
  clear h hsh hD hR hht hh
  go_enter Tryz.func62, Tryz.ntmps62
  go_wp2_with fail
  refine (HC.out).mono ?_
  rintro e w1 ⟨v1, rfl, o1, b1⟩
  have HEX := Lib.hid (extent_c w1 (o1.rd.more (Nat.zero_le _) (Nat.le_refl _)) HG.out)
  rw [HMX.out] at HEX
  obtain ⟨A1, c1, rfl, _, hr⟩ := o1.rd
  obtain ⟨n, hn⟩ : ∃ n, n = D.length := ⟨_, rfl⟩
  rw [← hn] at hr HEX HR ⊢
  have HN := Lib.hid hn
  obtain ⟨b, off, hA1, _, hb, hc⟩ := hr.2 (by have := HG.out.len; omega)
  subst hA1
  have HCE := Lib.hid hc
  have hn8 : n ≤ 8 := by have := HG.out.len; omega
  clear hr hc hn o1 HC
  obtain ⟨mx, hmx⟩ : ∃ mx, mx = mxTo (·.x) D n := ⟨_, rfl⟩
  rw [← hmx] at HEX
  clear hmx
  go_wp2_with fail
  refine (HEX.out).mono ?_
  rintro e w2 ⟨rfl, b2⟩
  have hmk := fun W => run_make_rowN (P := Tryz.prog) 81 9 i0 _ Tryz.underlying81 hi hz0 .i64 .i64 ht ht (Nat.le_refl _) (by rw [hz2]; omega) (by omega) W
  rw [hz1, Nat.mul_one] at hmk
  have H0 := ((Sep.start w1).step b2).rowBox 9 (madeCells #[Value.string ⟨#[]⟩] ht) 1 ht (by simp [size_madeCells]) (by unfold maxLen; omega)
  have e0 : (madeCells #[Value.string ⟨#[]⟩] ht).toList = sc (rowsF D 0 ht) := by
    show (madeCells #[Value.string ⟨#[]⟩] ht).toList = _
    rw [toList_madeCells_one]
    unfold rowsF sc rowF
    rw [List.map_map]
    exact (List.eq_replicate_iff.2 ⟨by simp, fun b hb => by
      obtain ⟨k, _, rfl⟩ := List.mem_map.1 hb
      rfl⟩).symm
  rw [e0] at H0
  clear e0 HEX
  obtain ⟨g, hg⟩ : ∃ g, g = w2.heap.size := ⟨_, rfl⟩
  rw [← hg] at H0
  go_wp2
  rw [← hg]
  generalize (w2.alloc (.cells (madeCells #[Value.string ⟨#[]⟩] ht) 9)) = W0 at *
  clear hg hmk b2
  go_loopw [20] (fun iv wx => ∃ (i : Nat), i ≤ n ∧ iv = .int .i64 i ∧ Sep w1 wx [Res.row (.slice (some ⟨g, 0, none⟩) ht ht) 9 1 ht (sc (rowsF D i ht))]) (fun iv _ => n - (intOf iv).toNat)
  case atStart => exact ⟨0, Nat.zero_le _, rfl, H0⟩
  case round =>
    clear H0
    obtain ⟨i, hin, rfl, H⟩ := hrel
    by_cases hlt : i < n
    · have hlti : (i : Int) < (n : Int) := by omega
      obtain ⟨d, hd⟩ : ∃ d, D[i]? = some d := ⟨D[i]'(by rw [← HN.out]; exact hlt), List.getElem?_eq_getElem _⟩
      have hon := HG.out.on d (List.mem_of_getElem? hd)
      have hdh := HDH.out d (List.mem_of_getElem? hd)
      unfold On at hon
      obtain ⟨cX, hcX⟩ : ∃ m : Nat, d.x = (m : Int) := ⟨d.x.toNat, by omega⟩
      obtain ⟨cY, hcY⟩ : ∃ m : Nat, d.y = (m : Int) := ⟨d.y.toNat, by omega⟩
      have x1 := (H.below.cell (p := ⟨b, off + i * 2, none⟩) hb).trans (HCE.out _ _ (cc_at hd).1)
      have x2 : wr.cell? ⟨b, off + i * 2 + 1, none⟩ = some (.int .i64 d.y) := (H.below.cell (p := ⟨b, off + i * 2 + 1, none⟩) hb).trans (by rw [Nat.add_assoc]; exact HCE.out _ _ (cc_at hd).2)
      rw [hcX] at x1
      rw [hcY] at x2
      have hcYh : cY < ht := by omega
      have hcYi : (cY : Int) < (ht : Int) := by omega
      have hcX7 : cX ≤ 7 := by omega
      have H1 := H.box 92 #[.int .i64 cX, .int .i64 cY]
      obtain ⟨gc, hgc⟩ : ∃ gc, gc = wr.heap.size := ⟨_, rfl⟩
      have hrl := rowF_le HG.out hd hcY
      have HD := Lib.hid hd
      have HCX := Lib.hid hcX
      have HCY := Lib.hid hcY
      obtain ⟨r, hr⟩ : ∃ r, r = tb (rowF (D.take i) cY) := ⟨_, rfl⟩
      have hrs : r.size ≤ cX := by rw [hr, tb_size]; omega
      obtain ⟨k, hk⟩ : ∃ k, k = cX - r.size := ⟨_, rfl⟩
      have e1 : IntKind.i64.wrap ((cX : Int) - (r.size : Int)) = (k : Int) := by
        have : (cX : Int) - (r.size : Int) = (k : Int) := by omega
        rw [this]; exact IntWalk.i64_in _ (by omega)
      have hk8 : k ≤ 8 := by omega
      have HRR := Lib.hid hr
      have HK := Lib.hid hk
      have hrow : (sc (rowsF D i ht))[cY]? = some (.string r) := by rw [hr]; exact sc_at (rowsF_at hcYh)
      have HROW := Lib.hid hrow
      clear hd hon hdh hcX hcY hr hk hrl hrow
      go_upto_region 7 with fail
      rw [← hgc] at H1 ⊢
      generalize wr.alloc (.cells #[.int .i64 (cX : Int), .int .i64 (cY : Int)] 92) = W at *
      clear hgc x1 x2 H
      have t0 := Later.cell (W := W) (p := ⟨gc, 0, none⟩) (v := .int .i64 cX) (H1.h0.cell 0) (Blk.lt H1.h0)
      have t1 := Later.cell (W := W) (p := ⟨gc, 1, none⟩) (v := .int .i64 cY) (H1.h0.cell 1) (Blk.lt H1.h0)
      have t2 := Later.cell (W := W) (p := ⟨g, cY, none⟩) (v := .string r) (by have := own_cell H1.h1 HROW.out; rwa [Nat.zero_add] at this) (own_lt H1.h1 g rfl)
      obtain ⟨q, hq⟩ : ∃ q, q = tb (List.replicate k 46) := ⟨_, rfl⟩
      have hqs : q.size ≤ 8 := by rw [hq, tb_size, List.length_replicate]; exact hk8
      have HQ := Lib.hid hq
      have HREP2 : Hid (∀ w1, Calls Tryz.prog 97 #[.string ⟨#[46]⟩, .int .i64 k] w1 fun e w' => e = .returned (.string q) ∧ Below w1.heap.size w1 w') := Lib.hid fun w1 => by
        rw [HQ.out]
        exact HREP.out k w1 hk8
      have y1 : ¬ 9223372036854775807 < q.size + 1 := by omega
      have y2 : ¬ 9223372036854775807 < r.size + (q.size + 1) := by omega
      have HH := Lib.hid H1
      clear hq H1
      go_wp2_with fail
      refine wp_region_lqtail 18 (by kernel_rfl) (by kernel_rfl) ?_
      simp only [List.take_succ_cons, List.take_zero, List.drop_succ_cons, List.drop_zero]
      repeat (go_big_quiet_step ((go_at_call 97; with_reducible exact Later.call (HREP2.out _))))
      refine wpQuiet_nil ?_
      intro w3 hw3
      obtain ⟨u3, hu3⟩ := hw3
      subst hu3
      have H3 := HH.out.later u3
      clear t0 t1 t2 HH HREP2 y1 y2 e1
      generalize u3.w = w3 at *
      have t2 : w3.cell? ⟨g, cY, none⟩ = some (.string r) := by have := own_cell H3.h1 HROW.out; rwa [Nat.zero_add] at this
      have f2 : w3.frozen? ⟨g, cY, none⟩ = false := by have := own_free H3.h1 cY; rwa [Nat.zero_add] at this
      have HX : Hid (tb (rowF (D.take (i + 1)) cY) = r ++ (q ++ ⟨#[35]⟩)) := Lib.hid (by
        rw [rowF_take HD.out, if_pos HCY.out, HRR.out, HQ.out]
        have h1 : d.x.toNat - (rowF (D.take i) cY).length = k := by
          rw [HK.out, HRR.out, tb_size]
          have := HCX.out
          omega
        rw [h1, ← tb_app, ← tb_app]; rfl)
      have H4 := H3.g1.setRow (j := cY) (by rw [sc_length, rowsF_len]; exact hcYh) (.string (r ++ (q ++ ⟨#[35]⟩)))
      rw [Nat.zero_add, sc_set, ← HX.out, rowsF_set hcYh HD.out HCY.out, HX.out] at H4
      clear H3
      go_wp2
      go_roundw
      case rel => exact ⟨i + 1, by omega, by go_num, H4.drop2⟩
      case measure => simp [intOf]; omega
    · obtain rfl : i = n := by omega
      have HJ := Lib.hid (join_own (b := 8) ⟨#[47]⟩ H rowsF_len.symm (fun x hx => by
        obtain ⟨j, _, rfl⟩ := List.mem_map.1 hx
        rw [tb_size]
        exact rowF_8 HG.out (by rw [HN.out]; exact Nat.le_refl _)) (by rw [rowsF_len]; omega) (by decide))
      have hb2 := H.below
      clear H
      go_wp2_with fail
      refine (HJ.out).mono ?_
      rintro e w6 ⟨rfl, b6⟩
      go_wp2
      go_ret
      exact ⟨by rw [HR.out]; rfl, b1.trans ((hb2.trans (b6.mono hb2.size)).mono b1.size)⟩
end Go.Proofs.YtjoglffhdoneoaaGreatDoor
