
/-
  The balance of colours: both walks. PieceLine: what both walks want. PieceLine: the reference's walk. PieceLine: the program's walk. The law FnExactPieceLine, walked by contracts.
-/
import Derived.Test.YtjkppigjajknaaaGreatDoorRctX
import Derived.StillTailTactics
import Derived.Test.YtjkppigjajknaaaGreatDoorPcO
import Derived.Test.YtjkppigjajknaaaGreatDoorPcX
import Derived.Test.YtjkppigjajknaaaGreatDoorPcY
import Derived.Lib.ItoaLen
import Derived.Deep.DeepCutAuto
import Derived.Test.YtjkppigjajknaaaGreatDoorLawCells
import Derived.Lib.LaidTab
import Derived.Stop.LaidErr
namespace Go.Proofs.YtjkppigjajknaaaGreatDoor
open Go.RowKit

def colQ (c : Cell) : Int := (c.x + c.y) % 2
/-- the balance of the first n cells -/
def balT (s : List Cell) : Nat → Int
  | 0 => 0
  | n + 1 => balT s n + (match s[n]? with | some c => 1 - 2 * colQ c | none => 0)
def balZ (s : List Cell) : Int := balT s s.length
theorem balT_at {s : List Cell} {n : Nat} {c : Cell} (h : s[n]? = some c) : balT s (n + 1) = balT s n + (1 - 2 * colQ c) := by rw [balT, h]
theorem colQ_two (c : Cell) : colQ c = 0 ∨ colQ c = 1 := by unfold colQ; omega
theorem balT_bd (s : List Cell) : ∀ n : Nat, -(n : Int) ≤ balT s n ∧ balT s n ≤ (n : Int)
  | 0 => by simp [balT]
  | n + 1 => by
    have ih := balT_bd s n
    rw [balT]
    cases h : s[n]? with
    | none => simp only; omega
    | some c =>
      have := colQ_two c
      simp only
      omega
set_option maxRecDepth 100000 in
set_option maxHeartbeats 1600000 in
theorem impl_bal_c {v : Value} {s : List Cell} (w : World) (h : CellsRd w 0 w.heap.size v s) (hsh : isShape s = true) :
    Calls Tryz.prog 36 #[v] w fun e w' => e = .returned (.int .i64 (balZ s)) ∧ Below w.heap.size w w' := by
  obtain ⟨hl1, hl8⟩ := shp_len hsh
  have HS := Lib.hid (impl_isShape_c w h (by omega))
  rw [hsh] at HS
  have HON : Hid (∀ c ∈ s, On c) := Lib.hid fun c hc => shp_on hsh hc
  obtain ⟨A, c, rfl, _, hr⟩ := h
  obtain ⟨b, off, hA, _, hb, hcc⟩ := hr.2 (by omega)
  subst hA
  have HCE := Lib.hid hcc
  obtain ⟨n, hn⟩ : ∃ n, n = s.length := ⟨_, rfl⟩
  have HN := Lib.hid hn
  obtain ⟨R, hR⟩ : ∃ R, R = balZ s := ⟨_, rfl⟩
  have HR : Hid (R = balT s n) := Lib.hid (by rw [hR, hn]; rfl)
  rw [← hR]
  rw [← hn] at hl1 hl8 HS ⊢
  clear hsh hr hcc hn hR
  go_enter Tryz.func36, Tryz.ntmps36
  go_wp2_with fail
  refine (HS.out).mono ?_
  rintro e w1 ⟨rfl, b1⟩
  have H0 := (Sep.start w).step b1
  clear HS b1
  go_wp2
  go_loopw [3, 11] (fun av kv wx => ∃ (k : Nat) (x : Int), k ≤ n ∧ kv = .int .i64 k ∧ av = .int .i64 x ∧ Hid (x = balT s k) ∧ Sep w wx []) (fun _ kv _ => n - (intOf kv).toNat)
  case atStart => exact ⟨0, 0, Nat.zero_le _, rfl, rfl, Lib.hid rfl, H0⟩
  case round =>
    clear H0
    obtain ⟨k, x, hk, rfl, rfl, HX, H⟩ := hrel
    by_cases hlt : k < n
    · have hlti : (k : Int) < (n : Int) := by omega
      obtain ⟨⟨cx, cy⟩, hc⟩ : ∃ c, s[k]? = some c := ⟨s[k]'(by rw [← HN.out]; exact hlt), List.getElem?_eq_getElem _⟩
      have hon := HON.out _ (List.mem_of_getElem? hc)
      unfold On at hon
      simp only at hon
      have hbw := H.below
      have q1 : wr.cell? ⟨b, off + k * 2, none⟩ = some (.int .i64 cx) := (hbw.cell (p := ⟨b, off + k * 2, none⟩) hb).trans (HCE.out _ _ (cc_at hc).1)
      have q2 : wr.cell? ⟨b, off + k * 2 + 1, none⟩ = some (.int .i64 cy) := (hbw.cell (p := ⟨b, off + k * 2 + 1, none⟩) hb).trans (by rw [Nat.add_assoc]; exact HCE.out _ _ (cc_at hc).2)
      have H1 := H.box 49 #[.int .i64 cx, .int .i64 cy]
      have hxb : -8 ≤ x ∧ x ≤ 8 := by
        have := balT_bd s k
        have := HX.out
        omega
      obtain ⟨z, hz⟩ : ∃ z, z = cx + cy := ⟨_, rfl⟩
      obtain ⟨q, hq⟩ : ∃ q, q = z % 2 := ⟨_, rfl⟩
      obtain ⟨t, ht⟩ : ∃ t, t = 2 * q := ⟨_, rfl⟩
      obtain ⟨u, hu⟩ : ∃ u, u = 1 - t := ⟨_, rfl⟩
      obtain ⟨y, hy⟩ : ∃ y, y = x + u := ⟨_, rfl⟩
      have hq2 : q = 0 ∨ q = 1 := by omega
      have a1 : IntKind.i64.wrap (cx + cy) = z := by rw [← hz]; exact IntWalk.i64_in _ (by omega)
      have a2 : Int.tmod z 2 = q := by rw [hq]; exact Int.tmod_eq_emod_of_nonneg (by omega)
      have a2' : IntKind.i64.wrap (Int.tmod z 2) = q := by rw [a2]; exact IntWalk.i64_in _ (by omega)
      have a3 : IntKind.i64.wrap (2 * q) = t := by rw [← ht]; exact IntWalk.i64_in _ (by omega)
      have a4 : IntKind.i64.wrap (1 - t) = u := by rw [← hu]; exact IntWalk.i64_in _ (by omega)
      have a5 : IntKind.i64.wrap (x + u) = y := by rw [← hy]; exact IntWalk.i64_in _ (by omega)
      have HY : Hid (y = balT s (k + 1)) := Lib.hid (by rw [balT_at hc, ← HX.out, hy, hu, ht, hq, hz]; rfl)
      clear hc hbw hon H hz hq ht hu hy hq2 hxb
      go_upto_region 7 with fail
      generalize hW5 : wr.alloc (.cells #[.int .i64 cx, .int .i64 cy] 49) = W5 at *
      generalize hgc : wr.heap.size = gc at *
      clear hW5 hgc q1 q2
      have k0 : W5.cell? ⟨gc, 0, none⟩ = some (.int .i64 cx) := H1.h0.cell 0
      have k1 : W5.cell? ⟨gc, 1, none⟩ = some (.int .i64 cy) := H1.h0.cell 1
      have H2 := H1.drop
      clear H1
      go_wp2
      go_roundw
      case rel => exact ⟨k + 1, y, by omega, by go_num, rfl, HY, H2⟩
      case measure => simp [intOf]; omega
    · obtain rfl : k = n := by omega
      have hbl := H.below
      have HXR : Hid (x = R) := Lib.hid (by rw [HX.out, HR.out])
      clear H
      go_wp2
      go_ret
      exact ⟨congrArg (fun k : Int => Ending.returned (.int .i64 k)) HXR.out, hbl⟩
set_option maxRecDepth 100000 in
set_option maxHeartbeats 1600000 in
theorem spec_bal_c {v : Value} {s : List Cell} (w : World) (h : CellsRd w 0 w.heap.size v s) (hsh : isShape s = true) :
    Calls Tryz.prog 25 #[v] w fun e w' => e = .returned (.int .i64 (balZ s)) ∧ Below w.heap.size w w' := by
  obtain ⟨hl1, hl8⟩ := shp_len hsh
  have HS : Hid (∀ w1, Below w.heap.size w w1 → Calls Tryz.prog 18 #[v] w1 fun e w' => e = .returned (.bool true) ∧ Below w1.heap.size w1 w') := Lib.hid fun w1 b1 => by
    have := spec_isShape_c w1 (cells_keep h b1) (by omega)
    rwa [hsh] at this
  have HON : Hid (∀ c ∈ s, On c) := Lib.hid fun c hc => shp_on hsh hc
  obtain ⟨A, c, rfl, _, hr⟩ := h
  obtain ⟨b, off, hA, _, hb, hcc⟩ := hr.2 (by omega)
  subst hA
  have HCE := Lib.hid hcc
  obtain ⟨n, hn⟩ : ∃ n, n = s.length := ⟨_, rfl⟩
  have HN := Lib.hid hn
  obtain ⟨R, hR⟩ : ∃ R, R = balZ s := ⟨_, rfl⟩
  have HR : Hid (R = balT s n) := Lib.hid (by rw [hR, hn]; rfl)
  rw [← hR]
  rw [← hn] at hl1 hl8 HS ⊢
  clear hsh hr hcc hn hR
  go_enter Tryz.func25, Tryz.ntmps25
  go_wp2
  go_loopw [3, 4] (fun av kv wx => ∃ (k : Nat) (x : Int), k ≤ n ∧ kv = .int .i64 k ∧ av = .int .i64 x ∧ Hid (x = balT s k) ∧ Below w.heap.size w wx) (fun _ kv _ => n - (intOf kv).toNat)
  case atStart => exact ⟨0, 0, Nat.zero_le _, rfl, rfl, Lib.hid rfl, Below.refl _ _⟩
  case round =>
    obtain ⟨k, x, hk, rfl, rfl, HX, hbl⟩ := hrel
    by_cases hlt : k < n
    · have hlti : (k : Int) < (n : Int) := by omega
      obtain ⟨⟨cx, cy⟩, hc⟩ : ∃ c, s[k]? = some c := ⟨s[k]'(by rw [← HN.out]; exact hlt), List.getElem?_eq_getElem _⟩
      have HC1 := Lib.hid (HS.out _ hbl)
      have HCK := Lib.hid hc
      clear hc
      go_wp2_with fail
      refine (HC1.out).mono ?_
      rintro e w1 ⟨rfl, b1⟩
      replace hbl := hbl.trans (b1.mono hbl.size)
      clear b1 HC1
      have hon := HON.out _ (List.mem_of_getElem? HCK.out)
      unfold On at hon
      simp only at hon
      have q1 : w1.cell? ⟨b, off + k * 2, none⟩ = some (.int .i64 cx) := (hbl.cell (p := ⟨b, off + k * 2, none⟩) hb).trans (HCE.out _ _ (cc_at HCK.out).1)
      have q2 : w1.cell? ⟨b, off + k * 2 + 1, none⟩ = some (.int .i64 cy) := (hbl.cell (p := ⟨b, off + k * 2 + 1, none⟩) hb).trans (by rw [Nat.add_assoc]; exact HCE.out _ _ (cc_at HCK.out).2)
      have hxb : -8 ≤ x ∧ x ≤ 8 := by
        have := balT_bd s k
        have := HX.out
        omega
      obtain ⟨z, hz⟩ : ∃ z, z = cx + cy := ⟨_, rfl⟩
      obtain ⟨q, hq⟩ : ∃ q, q = z % 2 := ⟨_, rfl⟩
      have hq2 : q = 0 ∨ q = 1 := by omega
      have a1 : IntKind.i64.wrap (cx + cy) = z := by rw [← hz]; exact IntWalk.i64_in _ (by omega)
      have a2 : Int.tmod z 2 = q := by rw [hq]; exact Int.tmod_eq_emod_of_nonneg (by omega)
      have a2' : IntKind.i64.wrap (Int.tmod z 2) = q := by rw [a2]; exact IntWalk.i64_in _ (by omega)
      have HQ : Hid (colQ (⟨cx, cy⟩ : Cell) = q) := Lib.hid (by rw [hq, hz]; rfl)
      clear hon hz hq
      rcases hq2 with rfl | rfl
      · have HY : Hid (x + 1 = balT s (k + 1)) := Lib.hid (by rw [balT_at HCK.out, ← HX.out, HQ.out]; rfl)
        have a5 : IntKind.i64.wrap (x + 1) = x + 1 := IntWalk.i64_in _ (by omega)
        go_wp2_with fail
        go_quiet (fail)
        have hbl2 := below_drewN hbl nq
        clear q1 q2 a1 a2 a2'
        go_wp2
        go_roundw
        case rel => exact ⟨k + 1, x + 1, by omega, by go_num, rfl, HY, hbl2⟩
        case measure => simp [intOf]; omega
      · have HY : Hid (x - 1 = balT s (k + 1)) := Lib.hid (by rw [balT_at HCK.out, ← HX.out, HQ.out]; rfl)
        have a5 : IntKind.i64.wrap (x - 1) = x - 1 := IntWalk.i64_in _ (by omega)
        go_wp2_with fail
        go_quiet (fail)
        have hbl2 := below_drewN hbl nq
        clear q1 q2 a1 a2 a2'
        go_wp2
        go_roundw
        case rel => exact ⟨k + 1, x - 1, by omega, by go_num, rfl, HY, hbl2⟩
        case measure => simp [intOf]; omega
    · obtain rfl : k = n := by omega
      have HXR : Hid (x = R) := Lib.hid (by rw [HX.out, HR.out])
      go_wp2
      go_ret
      exact ⟨congrArg (fun k : Int => Ending.returned (.int .i64 k)) HXR.out, hbl⟩
end Go.Proofs.YtjkppigjajknaaaGreatDoor

namespace Go.Proofs.YtjkppigjajknaaaGreatDoor
open Go.RowKit

/-- two numbers with a cross between them -/
def crT (a b : Nat) : ByteArray := itoaB (a : Int) ++ ⟨#[120]⟩ ++ itoaB (b : Int)
/-- the least scale, by its law -/
noncomputable def repZ (s : List Cell) : Int := Classical.epsilon (LrIs s)
theorem rep_is {s : List Cell} {n : Int} (h : LrIs s n) : n = repZ s := h.one (Classical.epsilon_spec ⟨n, h⟩)
theorem LrIs.bd {s : List Cell} {n : Int} (h : LrIs s n) : -1 ≤ n ∧ n ≤ 6 := by
  rcases h with ⟨k, rfl, h⟩ | ⟨rfl, h⟩
  · have := h.six
    omega
  · omega
def rcX (W O1 : ByteArray) : ByteArray := ⟨#[32, 114, 101, 99, 116, 97, 110, 103, 108, 101, 32]⟩ ++ W ++ ⟨#[32, 111, 114, 100, 101, 114, 32]⟩ ++ O1
def toX (W : ByteArray) : ByteArray := ⟨#[32, 116, 111, 114, 117, 115, 32]⟩ ++ W
def rpX (P1 : ByteArray) : ByteArray := ⟨#[32, 114, 101, 112, 32]⟩ ++ P1
def baX (B1 : ByteArray) : ByteArray := ⟨#[32, 98, 97, 108, 97, 110, 99, 101, 32]⟩ ++ B1
noncomputable def rcT (s : List Cell) : ByteArray := if (rectO s).isSome then rcX (crT (p1 (rectO s)) (p2 (rectO s))) (itoaB (ordZ s)) else ⟨#[]⟩
noncomputable def toT (s : List Cell) : ByteArray := if (planO s).isSome then toX (crT (p1 (planO s)) (p2 (planO s))) else ⟨#[]⟩
noncomputable def rpT (s : List Cell) : ByteArray := if 0 < repZ s then rpX (itoaB (repZ s)) else ⟨#[]⟩
/-- the line about a piece -/
noncomputable def pieceT (s : List Cell) : ByteArray := if isShape s then ⟨#[112, 105, 101, 99, 101, 32]⟩ ++ fmtSh s ++ rcT s ++ toT s ++ rpT s ++ baX (itoaB (balZ s)) else ⟨#[]⟩
theorem itoaR_size (n : Int) (h0 : -9223372036854775808 ≤ n) (h1 : n ≤ 9223372036854775807) : (itoaB n).size ≤ 21 := by
  unfold itoaB
  rw [ustr_size]
  exact Lib.itoa_length_le n h0 h1
theorem decR_pos : ∀ n : Nat, Lib.decDigits n ≠ []
  | n => by
    rw [Lib.decDigits]
    split <;> simp
theorem itoaR_ne (n : Int) : Lib.itoa n ≠ [] := by
  unfold Lib.itoa
  split
  · simp
  · exact decR_pos _
theorem itoaR_pos (n : Int) : 1 ≤ (itoaB n).size := by
  unfold itoaB
  rw [ustr_size]
  have h := itoaR_ne n
  exact List.length_pos_iff.2 h
set_option maxRecDepth 100000 in
theorem tab10_belowR {w w' : World} (ht : Tab10 w) (hb : Below w.heap.size w w') : Tab10 w' := by
  have hs : (Tryz.prog.globalNamed "internal/strconv.uint64pow10").isSome = true := by kernel_rfl
  obtain ⟨g, hg⟩ := Option.isSome_iff_exists.1 hs
  exact Go.Joins.tab_stays hg ht hb (Nat.le_refl _)
theorem fmtL_size {s : List Cell} (h : isShape s = true) : (fmtSh s).size ≤ 80 ∧ 1 ≤ (fmtSh s).size := by
  have hG := grd_corner h
  have hz := shp_size h
  have hm := shp_min h
  unfold fmtSh
  rw [tb_size]
  have h1 := txtF_len (f := rowF (corner s)) (fun k => by have := rowF_8 hG (i := (corner s).length) (k := k) (Nat.le_refl _); rwa [List.take_length] at this) (htOf s - 1).toNat
  refine ⟨by omega, ?_⟩
  cases hy : (htOf s - 1).toNat with
  | succ y => rw [txtF, List.length_append, List.length_cons]; omega
  | zero =>
    rw [txtF]
    have hn := hG.len.1
    obtain ⟨c, hc⟩ : ∃ c, (corner s)[(corner s).length - 1]? = some c := ⟨(corner s)[(corner s).length - 1]'(by omega), List.getElem?_eq_getElem _⟩
    have h2 := rowF_take (k := 0) hc
    have e1 : (corner s).length - 1 + 1 = (corner s).length := by omega
    rw [e1, List.take_length] at h2
    have h3 := corner_lt (List.mem_of_getElem? hc)
    have h4 := corner_ge (List.mem_of_getElem? hc)
    rw [if_pos (by omega)] at h2
    rw [h2]
    simp only [List.length_append, List.length_cons]
    omega
theorem crT_size {a b : Nat} (ha : a ≤ 1000) (hb : b ≤ 1000) : (crT a b).size ≤ 43 := by
  have h1 := itoaR_size (a : Int) (by omega) (by omega)
  have h2 := itoaR_size (b : Int) (by omega) (by omega)
  have h3 : (⟨#[120]⟩ : ByteArray).size = 1 := rfl
  unfold crT
  rw [ByteArray.size_append, ByteArray.size_append, h3]
  omega
theorem join2 {s a b : ByteArray} {l : List ByteArray} (h : l ≠ []) : joinB s (l ++ [a, b]) = joinB s l ++ s ++ a ++ s ++ b := by
  rw [show l ++ [a, b] = (l ++ [a]) ++ [b] by simp, joinB_snoc _ _ _ (by simp), joinB_snoc _ _ _ h]
theorem join4 {s a b c d : ByteArray} {l : List ByteArray} (h : l ≠ []) : joinB s (l ++ [a, b, c, d]) = joinB s l ++ s ++ a ++ s ++ b ++ s ++ c ++ s ++ d := by
  rw [show l ++ [a, b, c, d] = (l ++ [a, b]) ++ [c, d] by simp, join2 (by simp), join2 h]
/-- the words of the line -/
def wlP (b : Bool) (l m : List ByteArray) : List ByteArray := if b then l ++ m else l
theorem wlP_ne {b : Bool} {l m : List ByteArray} (h : l ≠ []) : wlP b l m ≠ [] := by
  unfold wlP
  cases b <;> simp [h]
theorem wlP_len {b : Bool} {l m : List ByteArray} {n : Nat} (h : l.length ≤ n) : (wlP b l m).length ≤ n + m.length := by
  unfold wlP
  cases b <;> simp <;> omega
theorem wlP_mem {b : Bool} {l m : List ByteArray} {n : Nat} (h : ∀ x ∈ l, x.size ≤ n) (ht : ∀ x ∈ m, x.size ≤ n) : ∀ x ∈ wlP b l m, x.size ≤ n := by
  intro x hx
  unfold wlP at hx
  cases b
  · exact h x hx
  · simp only [if_true, List.mem_append] at hx
    rcases hx with hx | hx
    · exact h x hx
    · exact ht x hx
theorem pc_join (F W1 O1 W2 P1 B1 : ByteArray) (b1 b2 b3 : Bool) : joinB spaceB (wlP b3 (wlP b2 (wlP b1 [⟨#[112, 105, 101, 99, 101]⟩, F] [⟨#[114, 101, 99, 116, 97, 110, 103, 108, 101]⟩, W1, ⟨#[111, 114, 100, 101, 114]⟩, O1]) [⟨#[116, 111, 114, 117, 115]⟩, W2]) [⟨#[114, 101, 112]⟩, P1] ++ [⟨#[98, 97, 108, 97, 110, 99, 101]⟩, B1]) =
    ⟨#[112, 105, 101, 99, 101, 32]⟩ ++ F ++ (if b1 then rcX W1 O1 else ⟨#[]⟩) ++ (if b2 then toX W2 else ⟨#[]⟩) ++ (if b3 then rpX P1 else ⟨#[]⟩) ++ baX B1 := by
  have h0 : ([⟨#[112, 105, 101, 99, 101]⟩, F] : List ByteArray) ≠ [] := by simp
  have h1 := wlP_ne (b := b1) (m := [⟨#[114, 101, 99, 116, 97, 110, 103, 108, 101]⟩, W1, ⟨#[111, 114, 100, 101, 114]⟩, O1]) h0
  have h2 := wlP_ne (b := b2) (m := [⟨#[116, 111, 114, 117, 115]⟩, W2]) h1
  have h3 := wlP_ne (b := b3) (m := [⟨#[114, 101, 112]⟩, P1]) h2
  have e0 : joinB spaceB [⟨#[112, 105, 101, 99, 101]⟩, F] = ⟨#[112, 105, 101, 99, 101, 32]⟩ ++ F := by
    simp only [joinB_cons, joinB_one, spaceB]
    apply ba_ext
    simp
  have e1 : joinB spaceB (wlP b1 [⟨#[112, 105, 101, 99, 101]⟩, F] [⟨#[114, 101, 99, 116, 97, 110, 103, 108, 101]⟩, W1, ⟨#[111, 114, 100, 101, 114]⟩, O1]) = joinB spaceB [⟨#[112, 105, 101, 99, 101]⟩, F] ++ (if b1 then rcX W1 O1 else ⟨#[]⟩) := by
    unfold wlP
    cases b1
    · simp only [Bool.false_eq_true, if_false]
      apply ba_ext
      simp
    · simp only [if_true]
      rw [join4 h0]
      apply ba_ext
      simp [rcX, spaceB]
  have e2 : joinB spaceB (wlP b2 (wlP b1 [⟨#[112, 105, 101, 99, 101]⟩, F] [⟨#[114, 101, 99, 116, 97, 110, 103, 108, 101]⟩, W1, ⟨#[111, 114, 100, 101, 114]⟩, O1]) [⟨#[116, 111, 114, 117, 115]⟩, W2]) = joinB spaceB (wlP b1 [⟨#[112, 105, 101, 99, 101]⟩, F] [⟨#[114, 101, 99, 116, 97, 110, 103, 108, 101]⟩, W1, ⟨#[111, 114, 100, 101, 114]⟩, O1]) ++ (if b2 then toX W2 else ⟨#[]⟩) := by
    generalize wlP b1 [⟨#[112, 105, 101, 99, 101]⟩, F] [⟨#[114, 101, 99, 116, 97, 110, 103, 108, 101]⟩, W1, ⟨#[111, 114, 100, 101, 114]⟩, O1] = l at *
    unfold wlP
    cases b2
    · simp only [Bool.false_eq_true, if_false]
      apply ba_ext
      simp
    · simp only [if_true]
      rw [join2 h1]
      apply ba_ext
      simp [toX, spaceB]
  rw [join2 h3, ← e0, ← e1, ← e2]
  generalize wlP b2 (wlP b1 [⟨#[112, 105, 101, 99, 101]⟩, F] [⟨#[114, 101, 99, 116, 97, 110, 103, 108, 101]⟩, W1, ⟨#[111, 114, 100, 101, 114]⟩, O1]) [⟨#[116, 111, 114, 117, 115]⟩, W2] = l at *
  unfold wlP
  cases b3
  · simp only [Bool.false_eq_true, if_false]
    apply ba_ext
    simp [baX, spaceB]
  · simp only [if_true]
    rw [join2 h2]
    apply ba_ext
    simp [rpX, baX, spaceB]
theorem planO_le {s : List Cell} : p1 (planO s) ≤ 5 ∧ p2 (planO s) ≤ 5 := by
  cases h : planO s with
  | none => exact ⟨by decide, by decide⟩
  | some p =>
    have := planL_le p (leastP_mem h)
    exact ⟨this.2.1, this.2.2.2⟩
theorem rectO_le5 {s : List Cell} : p1 (rectO s) ≤ 5 ∧ p2 (rectO s) ≤ 5 := by
  cases h : rectO s with
  | none => exact ⟨by decide, by decide⟩
  | some p =>
    have := rectO_le h
    exact ⟨this.2.1, this.2.2.2⟩
theorem ordZ_bd {s : List Cell} : -1 ≤ ordZ s ∧ ordZ s ≤ 25 := by
  unfold ordZ
  cases h : rectO s with
  | none => exact ⟨by show (-1 : Int) ≤ -1; decide, by show (-1 : Int) ≤ 25; decide⟩
  | some p =>
    have h1 := rectO_le h
    have h2 : p.1 * p.2 ≤ 5 * 5 := Nat.mul_le_mul h1.2.1 h1.2.2.2
    have h3 := Nat.div_le_self (p.1 * p.2) s.length
    simp only
    generalize p.1 * p.2 / s.length = q at *
    generalize p.1 * p.2 = r at *
    omega
theorem pc_nums {s : List Cell} (h : isShape s = true) : ∃ (ra rb ta tb : Nat) (oz bz : Int) (r1 r2 : Bool), Hid (ra = p1 (rectO s)) ∧ Hid (rb = p2 (rectO s)) ∧ Hid (ta = p1 (planO s)) ∧ Hid (tb = p2 (planO s)) ∧ Hid (oz = ordZ s) ∧ Hid (bz = balZ s) ∧ Hid (r1 = (rectO s).isSome) ∧ Hid (r2 = (planO s).isSome) ∧ (ra ≤ 5 ∧ rb ≤ 5) ∧ (ta ≤ 5 ∧ tb ≤ 5) ∧ (-1 ≤ oz ∧ oz ≤ 25) ∧ (-8 ≤ bz ∧ bz ≤ 8) :=
  ⟨_, _, _, _, _, _, _, _, Lib.hid rfl, Lib.hid rfl, Lib.hid rfl, Lib.hid rfl, Lib.hid rfl, Lib.hid rfl, Lib.hid rfl, Lib.hid rfl, rectO_le5, planO_le, ordZ_bd, by
    have h1 := balT_bd s s.length
    have h2 := shp_len h
    unfold balZ
    omega⟩
set_option maxRecDepth 100000 in
set_option maxHeartbeats 1600000 in
theorem impl_crossed_c (a b : Nat) (w : World) (ha : a ≤ 1000) (hb : b ≤ 1000) (ht : Tab10 w) : Calls Tryz.prog 30 #[.int .i64 (a : Int), .int .i64 (b : Int)] w fun e w' => e = .returned (.string (crT a b)) ∧ Below w.heap.size w w' := by
  have HF : Hid (∀ (n : Nat) w', n ≤ 1000 → Below w.heap.size w w' → Calls Tryz.prog 31 #[.int .i64 (n : Int)] w' fun e w'' => e = .returned (.string (itoaB (n : Int))) ∧ Below w'.heap.size w' w'') := Lib.hid fun n w' hn b => impl_fmtInt_c (n : Int) w' (by omega) (by omega) (tab10_belowR ht b)
  have h1 := itoaR_size (a : Int) (by omega) (by omega)
  have h2 := itoaR_size (b : Int) (by omega) (by omega)
  obtain ⟨X, hX⟩ : ∃ X, X = itoaB (a : Int) := ⟨_, rfl⟩
  obtain ⟨Y, hY⟩ : ∃ Y, Y = itoaB (b : Int) := ⟨_, rfl⟩
  have HX : Hid (∀ w', Below w.heap.size w w' → Calls Tryz.prog 31 #[.int .i64 (a : Int)] w' fun e w'' => e = .returned (.string X) ∧ Below w'.heap.size w' w'') := Lib.hid fun w' b => by rw [hX]; exact HF.out a w' ha b
  have HY : Hid (∀ w', Below w.heap.size w w' → Calls Tryz.prog 31 #[.int .i64 (b : Int)] w' fun e w'' => e = .returned (.string Y) ∧ Below w'.heap.size w' w'') := Lib.hid fun w' b' => by rw [hY]; exact HF.out b w' hb b'
  have HC : Hid (crT a b = X ++ ⟨#[120]⟩ ++ Y) := Lib.hid (by rw [hX, hY]; rfl)
  rw [← hX] at h1
  rw [← hY] at h2
  have y1 : ¬ 9223372036854775807 < X.size + 1 := by omega
  have y2 : ¬ 9223372036854775807 < X.size + 1 + Y.size := by omega
  have HH := Below.refl w.heap.size w
  clear HF hX hY ht h1 h2
  go_enter Tryz.func30, Tryz.ntmps30
  go_wp2_with fail
  refine (HX.out _ HH).mono ?_
  rintro e w3 ⟨rfl, b3⟩
  replace HH := HH.trans (b3.mono HH.size)
  clear b3
  go_wp2_with fail
  refine (HY.out _ HH).mono ?_
  rintro e w3 ⟨rfl, b3⟩
  replace HH := HH.trans (b3.mono HH.size)
  clear b3
  go_wp2
  go_ret
  exact ⟨by rw [HC.out]; rfl, HH⟩
end Go.Proofs.YtjkppigjajknaaaGreatDoor

namespace Go.Proofs.YtjkppigjajknaaaGreatDoor
open Go.RowKit

set_option maxRecDepth 100000 in
set_option maxHeartbeats 12800000 in
theorem spec_pc_c {v : Value} {s : List Cell} (w : World) (h : CellsRd w 0 w.heap.size v s) (hn : s.length ≤ 1048576) :
    Calls Tryz.prog 6 #[v] w fun e w' => e = .returned (.string (pieceT s)) ∧ Below w.heap.size w w' := by
  have HRD : Hid (∀ w1, Below w.heap.size w w1 → CellsRd w1 0 w1.heap.size v s) := Lib.hid fun w1 b1 => (h.keep (SameIn.of_below b1 (Nat.le_refl _))).more (Nat.le_refl _) b1.size
  have HC0 := Lib.hid (spec_isShape_c w h hn)
  obtain ⟨R, hR⟩ : ∃ R, R = pieceT s := ⟨_, rfl⟩
  rw [← hR]
  have HR := Lib.hid hR
  obtain ⟨A, c, rfl, _, _⟩ := h
  clear hR
  go_enter Tryz.func6, Tryz.ntmps6
  go_wp2_with fail
  refine (HC0.out).mono ?_
  rintro e w2 ⟨rfl, HH⟩
  clear HC0
  cases hsh : isShape s
  case false =>
    obtain rfl : R = ⟨#[]⟩ := by rw [HR.out, pieceT, hsh]; rfl
    clear hsh HRD HR
    go_wp2
    go_ret
    exact ⟨rfl, HH⟩
  have HSH := Lib.hid hsh
  obtain ⟨ra, rb, ta, tb, oz, bz, r1, r2, HRA, HRB, HTA, HTB, HOZ, HBZ, HR1, HR2, hrab, htab, hoz, hbz⟩ := pc_nums hsh
  obtain ⟨F, hF⟩ : ∃ U, U = fmtSh s := ⟨_, rfl⟩
  obtain ⟨O1, hO1⟩ : ∃ U, U = itoaB oz := ⟨_, rfl⟩
  obtain ⟨B1, hB1⟩ : ∃ U, U = itoaB bz := ⟨_, rfl⟩
  have HRR : Hid (R = ⟨#[112, 105, 101, 99, 101, 32]⟩ ++ F ++ (if r1 then rcX (crT ra rb) O1 else ⟨#[]⟩) ++ (if r2 then toX (crT ta tb) else ⟨#[]⟩) ++ rpT s ++ baX B1) := Lib.hid (by
    rw [HR.out, pieceT, if_pos hsh, hF, hO1, hB1, HRA.out, HRB.out, HTA.out, HTB.out, HOZ.out, HBZ.out, HR1.out, HR2.out]; rfl)
  have s1 : F.size ≤ 80 := by rw [hF]; exact (fmtL_size hsh).1
  have s2 : O1.size ≤ 21 := by rw [hO1]; exact itoaR_size _ (by omega) (by omega)
  have s3 : B1.size ≤ 21 := by rw [hB1]; exact itoaR_size _ (by omega) (by omega)
  have HI1 : Hid (∀ w', Below w.heap.size w w' → Calls Tryz.prog 21 #[.int .i64 oz] w' fun e w'' => e = .returned (.string O1) ∧ Below w'.heap.size w' w'') := Lib.hid fun w' b => by rw [hO1]; exact spec_fmtInt_c oz w' (by omega) (by omega)
  have HI2 : Hid (∀ w', Below w.heap.size w w' → Calls Tryz.prog 21 #[.int .i64 bz] w' fun e w'' => e = .returned (.string B1) ∧ Below w'.heap.size w' w'') := Lib.hid fun w' b => by rw [hB1]; exact spec_fmtInt_c bz w' (by omega) (by omega)
  have HIN : Hid (∀ (n : Int) w', -1000 ≤ n → n ≤ 1000 → Below w.heap.size w w' → Calls Tryz.prog 21 #[.int .i64 n] w' fun e w'' => e = .returned (.string (itoaB n)) ∧ Below w'.heap.size w' w'') := Lib.hid fun n w' h1 h2 b => spec_fmtInt_c n w' (by omega) (by omega)
  have HFS : Hid (∀ w', Below w.heap.size w w' → Calls Tryz.prog 19 #[.slice A s.length c] w' fun e w'' => e = .returned (.string F) ∧ Below w'.heap.size w' w'') := Lib.hid fun w' b => by rw [hF]; exact spec_fmtSh_c w' (HRD.out w' b) HSH.out
  have HSR : Hid (∀ w', Below w.heap.size w w' → Calls Tryz.prog 20 #[.slice A s.length c] w' fun e w'' => e = .returned (.tuple #[.int .i64 (ra : Int), .int .i64 (rb : Int), .bool r1]) ∧ Below w'.heap.size w' w'') := Lib.hid fun w' b => by rw [HRA.out, HRB.out, HR1.out]; exact spec_srect_c w' (HRD.out w' b) hn
  have HOR : Hid (∀ w', Below w.heap.size w w' → Calls Tryz.prog 22 #[.slice A s.length c] w' fun e w'' => e = .returned (.int .i64 oz) ∧ Below w'.heap.size w' w'') := Lib.hid fun w' b => by rw [HOZ.out]; exact spec_rord_c w' (HRD.out w' b) HSH.out
  have HTP : Hid (∀ w', Below w.heap.size w w' → Calls Tryz.prog 23 #[.slice A s.length c] w' fun e w'' => e = .returned (.tuple #[.int .i64 (ta : Int), .int .i64 (tb : Int), .bool r2]) ∧ Below w'.heap.size w' w'') := Lib.hid fun w' b => by rw [HTA.out, HTB.out, HR2.out]; exact spec_plane_c w' (HRD.out w' b) HSH.out
  have HBA : Hid (∀ w', Below w.heap.size w w' → Calls Tryz.prog 25 #[.slice A s.length c] w' fun e w'' => e = .returned (.int .i64 bz) ∧ Below w'.heap.size w' w'') := Lib.hid fun w' b => by rw [HBZ.out]; exact spec_bal_c w' (HRD.out w' b) HSH.out
  have HLR : Hid (∀ w', Below w.heap.size w w' → Calls Tryz.prog 24 #[.slice A s.length c] w' fun e w'' => ∃ n : Int, e = .returned (.int .i64 n) ∧ LrIs s n ∧ Below w'.heap.size w' w'') := Lib.hid fun w' b => spec_least_rep_c w' (HRD.out w' b) hn
  obtain ⟨WA, hWA⟩ : ∃ U, U = itoaB (ra : Int) := ⟨_, rfl⟩
  obtain ⟨WB, hWB⟩ : ∃ U, U = itoaB (rb : Int) := ⟨_, rfl⟩
  obtain ⟨TA, hTA⟩ : ∃ U, U = itoaB (ta : Int) := ⟨_, rfl⟩
  obtain ⟨TB, hTB⟩ : ∃ U, U = itoaB (tb : Int) := ⟨_, rfl⟩
  have zWA : WA.size ≤ 21 := by rw [hWA]; exact itoaR_size _ (by omega) (by omega)
  have JWA : Hid (∀ w', Below w.heap.size w w' → Calls Tryz.prog 21 #[.int .i64 (ra : Int)] w' fun e w'' => e = .returned (.string WA) ∧ Below w'.heap.size w' w'') := Lib.hid fun w' b => by rw [hWA]; exact HIN.out _ w' (by omega) (by omega) b
  have zWB : WB.size ≤ 21 := by rw [hWB]; exact itoaR_size _ (by omega) (by omega)
  have JWB : Hid (∀ w', Below w.heap.size w w' → Calls Tryz.prog 21 #[.int .i64 (rb : Int)] w' fun e w'' => e = .returned (.string WB) ∧ Below w'.heap.size w' w'') := Lib.hid fun w' b => by rw [hWB]; exact HIN.out _ w' (by omega) (by omega) b
  have zTA : TA.size ≤ 21 := by rw [hTA]; exact itoaR_size _ (by omega) (by omega)
  have JTA : Hid (∀ w', Below w.heap.size w w' → Calls Tryz.prog 21 #[.int .i64 (ta : Int)] w' fun e w'' => e = .returned (.string TA) ∧ Below w'.heap.size w' w'') := Lib.hid fun w' b => by rw [hTA]; exact HIN.out _ w' (by omega) (by omega) b
  have zTB : TB.size ≤ 21 := by rw [hTB]; exact itoaR_size _ (by omega) (by omega)
  have JTB : Hid (∀ w', Below w.heap.size w w' → Calls Tryz.prog 21 #[.int .i64 (tb : Int)] w' fun e w'' => e = .returned (.string TB) ∧ Below w'.heap.size w' w'') := Lib.hid fun w' b => by rw [hTB]; exact HIN.out _ w' (by omega) (by omega) b
  have e0 : (⟨#[112, 105, 101, 99, 101, 32]⟩ : ByteArray).size = 6 := rfl
  obtain ⟨T0, hT0⟩ : ∃ T, T = ⟨#[112, 105, 101, 99, 101, 32]⟩ ++ F := ⟨_, rfl⟩
  have t0 : T0.size ≤ 100 := by rw [hT0, ByteArray.size_append, e0]; omega
  obtain ⟨T1, hT1⟩ : ∃ T, T = T0 ++ (if r1 then rcX (crT ra rb) O1 else ⟨#[]⟩) := ⟨_, rfl⟩
  have t1 : T1.size ≤ 300 := by
    rw [hT1, ByteArray.size_append]
    cases r1
    · have : (⟨#[]⟩ : ByteArray).size = 0 := rfl
      simp only [Bool.false_eq_true, if_false]; omega
    · have h1 := crT_size (a := ra) (b := rb) (by omega) (by omega)
      have h2 : (⟨#[32, 114, 101, 99, 116, 97, 110, 103, 108, 101, 32]⟩ : ByteArray).size = 11 := rfl
      have h3 : (⟨#[32, 111, 114, 100, 101, 114, 32]⟩ : ByteArray).size = 7 := rfl
      simp only [if_true, rcX, ByteArray.size_append, h2, h3]; omega
  obtain ⟨T2, hT2⟩ : ∃ T, T = T1 ++ (if r2 then toX (crT ta tb) else ⟨#[]⟩) := ⟨_, rfl⟩
  have t2 : T2.size ≤ 400 := by
    rw [hT2, ByteArray.size_append]
    cases r2
    · have : (⟨#[]⟩ : ByteArray).size = 0 := rfl
      simp only [Bool.false_eq_true, if_false]; omega
    · have h1 := crT_size (a := ta) (b := tb) (by omega) (by omega)
      have h2 : (⟨#[32, 116, 111, 114, 117, 115, 32]⟩ : ByteArray).size = 7 := rfl
      simp only [if_true, toX, ByteArray.size_append, h2]; omega
  have HT0 := Lib.hid hT0
  have HT1 : Hid (T1 = if r1 then T0 ++ ⟨#[32, 114, 101, 99, 116, 97, 110, 103, 108, 101, 32]⟩ ++ WA ++ ⟨#[120]⟩ ++ WB ++ ⟨#[32, 111, 114, 100, 101, 114, 32]⟩ ++ O1 else T0) := Lib.hid (by
    rw [hT1, hWA, hWB]
    cases r1
    · simp only [Bool.false_eq_true, if_false]
      apply ba_ext
      simp
    · simp only [if_true, rcX, crT]
      apply ba_ext
      simp)
  have HT2 : Hid (T2 = if r2 then T1 ++ ⟨#[32, 116, 111, 114, 117, 115, 32]⟩ ++ TA ++ ⟨#[120]⟩ ++ TB else T1) := Lib.hid (by
    rw [hT2, hTA, hTB]
    cases r2
    · simp only [Bool.false_eq_true, if_false]
      apply ba_ext
      simp
    · simp only [if_true, toX, crT]
      apply ba_ext
      simp)
  have HRX : Hid (R = T2 ++ rpT s ++ baX B1) := Lib.hid (by rw [HRR.out, hT2, hT1, hT0])
  have y0 : ¬ 9223372036854775807 < 6 + F.size := by omega
  have y1 : ¬ 9223372036854775807 < T0.size + 11 := by omega
  have y2 : ¬ 9223372036854775807 < T0.size + 11 + WA.size := by omega
  have y3 : ¬ 9223372036854775807 < T0.size + 11 + WA.size + 1 := by omega
  have y4 : ¬ 9223372036854775807 < T0.size + 11 + WA.size + 1 + WB.size := by omega
  have y5 : ¬ 9223372036854775807 < T0.size + 11 + WA.size + 1 + WB.size + 7 := by omega
  have y6 : ¬ 9223372036854775807 < T0.size + 11 + WA.size + 1 + WB.size + 7 + O1.size := by omega
  have y7 : ¬ 9223372036854775807 < T1.size + 7 := by omega
  have y8 : ¬ 9223372036854775807 < T1.size + 7 + TA.size := by omega
  have y9 : ¬ 9223372036854775807 < T1.size + 7 + TA.size + 1 := by omega
  have y10 : ¬ 9223372036854775807 < T1.size + 7 + TA.size + 1 + TB.size := by omega
  clear hT0 hT1 hT2 hWA hWB hTA hTB HRR zWA zWB zTA zTB e0
  clear HRA HRB HTA HTB HOZ HBZ HR1 HR2 hF hO1 hB1 hsh HSH HR HRD hn
  go_wp2_with fail
  refine (HFS.out _ HH).mono ?_
  rintro e w3 ⟨rfl, b3⟩
  replace HH := HH.trans (b3.mono HH.size)
  clear b3
  go_upto_region 4 with fail
  rw [← HT0.out]
  go_wp2_with fail
  refine (HSR.out _ HH).mono ?_
  rintro e w3 ⟨rfl, b3⟩
  replace HH := HH.trans (b3.mono HH.size)
  clear b3
  go_upto_if 23 with fail
  go_cut [3] (fun sv wx => sv = .string T1 ∧ Below w.heap.size w wx)
  case first =>
    cases r1
    · have h1 : T1 = T0 := by rw [HT1.out]; simp
      have H1 := Lib.hid h1
      clear h1
      go_wp2_with fail
      go_meet
      rw [H1.out]
      exact ⟨rfl, HH⟩
    · have h1 : T1 = T0 ++ ⟨#[32, 114, 101, 99, 116, 97, 110, 103, 108, 101, 32]⟩ ++ WA ++ ⟨#[120]⟩ ++ WB ++ ⟨#[32, 111, 114, 100, 101, 114, 32]⟩ ++ O1 := by rw [HT1.out]; simp
      have H1 := Lib.hid h1
      clear h1
      go_wp2_with fail
      refine (JWA.out _ HH).mono ?_
      rintro e w3 ⟨rfl, b3⟩
      replace HH := HH.trans (b3.mono HH.size)
      clear b3
      go_wp2_with fail
      refine (JWB.out _ HH).mono ?_
      rintro e w3 ⟨rfl, b3⟩
      replace HH := HH.trans (b3.mono HH.size)
      clear b3
      go_wp2_with fail
      refine (HOR.out _ HH).mono ?_
      rintro e w3 ⟨rfl, b3⟩
      replace HH := HH.trans (b3.mono HH.size)
      clear b3
      go_wp2_with fail
      refine (HI1.out _ HH).mono ?_
      rintro e w3 ⟨rfl, b3⟩
      replace HH := HH.trans (b3.mono HH.size)
      clear b3
      go_wp2_with fail
      go_meet
      rw [H1.out]
      exact ⟨rfl, HH⟩
  case rest =>
  obtain ⟨rfl, HH2⟩ := hcut
  clear HH HT1 y1 y2 y3 y4 y5 y6
  generalize hwc : wc = wd at *
  clear hwc
  have HH := HH2
  clear HH2
  go_wp2_with fail
  refine (HTP.out _ HH).mono ?_
  rintro e w3 ⟨rfl, b3⟩
  replace HH := HH.trans (b3.mono HH.size)
  clear b3
  go_upto_if 44 with fail
  go_cut [3] (fun sv wx => sv = .string T2 ∧ Below w.heap.size w wx)
  case first =>
    cases r2
    · have h1 : T2 = T1 := by rw [HT2.out]; simp
      have H1 := Lib.hid h1
      clear h1
      go_wp2_with fail
      go_meet
      rw [H1.out]
      exact ⟨rfl, HH⟩
    · have h1 : T2 = T1 ++ ⟨#[32, 116, 111, 114, 117, 115, 32]⟩ ++ TA ++ ⟨#[120]⟩ ++ TB := by rw [HT2.out]; simp
      have H1 := Lib.hid h1
      clear h1
      go_wp2_with fail
      refine (JTA.out _ HH).mono ?_
      rintro e w3 ⟨rfl, b3⟩
      replace HH := HH.trans (b3.mono HH.size)
      clear b3
      go_wp2_with fail
      refine (JTB.out _ HH).mono ?_
      rintro e w3 ⟨rfl, b3⟩
      replace HH := HH.trans (b3.mono HH.size)
      clear b3
      go_wp2_with fail
      go_meet
      rw [H1.out]
      exact ⟨rfl, HH⟩
  case rest =>
  obtain ⟨rfl, HH2⟩ := hcut
  clear HH HT2 y7 y8 y9 y10
  generalize hwc : wc = we at *
  clear hwc
  have HH := HH2
  clear HH2
  go_wp2_with fail
  refine (HLR.out _ HH).mono ?_
  rintro e w3 ⟨n, rfl, hlr, b3⟩
  replace HH := HH.trans (b3.mono HH.size)
  have hnb := hlr.bd
  have hre := rep_is hlr
  obtain ⟨N1, hN1⟩ : ∃ U, U = itoaB n := ⟨_, rfl⟩
  have zN : N1.size ≤ 21 := by rw [hN1]; exact itoaR_size _ (by omega) (by omega)
  have JN : Hid (∀ w', Below w.heap.size w w' → Calls Tryz.prog 21 #[.int .i64 n] w' fun e w'' => e = .returned (.string N1) ∧ Below w'.heap.size w' w'') := Lib.hid fun w' b => by rw [hN1]; exact HIN.out _ w' (by omega) (by omega) b
  have HRP : Hid (rpT s = if 0 < n then rpX N1 else ⟨#[]⟩) := Lib.hid (by rw [rpT, ← hre, hN1])
  have y1 : ¬ 9223372036854775807 < T2.size + 5 := by omega
  have y2 : ¬ 9223372036854775807 < T2.size + 5 + N1.size := by omega
  have y3 : ¬ 9223372036854775807 < T2.size + 5 + N1.size + 9 := by omega
  have y4 : ¬ 9223372036854775807 < T2.size + 5 + N1.size + 9 + B1.size := by omega
  have y5 : ¬ 9223372036854775807 < T2.size + 9 := by omega
  have y6 : ¬ 9223372036854775807 < T2.size + 9 + B1.size := by omega
  clear b3 hre hN1 hlr zN
  by_cases h0 : 0 < n
  · have HRS : Hid (R = T2 ++ ⟨#[32, 114, 101, 112, 32]⟩ ++ N1 ++ ⟨#[32, 98, 97, 108, 97, 110, 99, 101, 32]⟩ ++ B1) := Lib.hid (by
      rw [HRX.out, HRP.out, if_pos h0, rpX, baX]
      apply ba_ext
      simp)
    go_wp2_with fail
    refine (JN.out _ HH).mono ?_
    rintro e w3 ⟨rfl, b3⟩
    replace HH := HH.trans (b3.mono HH.size)
    clear b3
    go_wp2_with fail
    refine (HBA.out _ HH).mono ?_
    rintro e w3 ⟨rfl, b3⟩
    replace HH := HH.trans (b3.mono HH.size)
    clear b3
    go_wp2_with fail
    refine (HI2.out _ HH).mono ?_
    rintro e w3 ⟨rfl, b3⟩
    replace HH := HH.trans (b3.mono HH.size)
    clear b3
    go_wp2
    go_ret
    exact ⟨by rw [HRS.out]; rfl, HH⟩
  · have HRS : Hid (R = T2 ++ ⟨#[32, 98, 97, 108, 97, 110, 99, 101, 32]⟩ ++ B1) := Lib.hid (by
      rw [HRX.out, HRP.out, if_neg h0, baX]
      apply ba_ext
      simp)
    go_wp2_with fail
    refine (HBA.out _ HH).mono ?_
    rintro e w3 ⟨rfl, b3⟩
    replace HH := HH.trans (b3.mono HH.size)
    clear b3
    go_wp2_with fail
    refine (HI2.out _ HH).mono ?_
    rintro e w3 ⟨rfl, b3⟩
    replace HH := HH.trans (b3.mono HH.size)
    clear b3
    go_wp2
    go_ret
    exact ⟨by rw [HRS.out]; rfl, HH⟩
end Go.Proofs.YtjkppigjajknaaaGreatDoor

namespace Go.Proofs.YtjkppigjajknaaaGreatDoor
open Go.RowKit

set_option maxRecDepth 100000 in
set_option maxHeartbeats 12800000 in
theorem impl_pc_c {v : Value} {s : List Cell} (w : World) (h : CellsRd w 0 w.heap.size v s) (hn : s.length ≤ 1048576) (ht : Tab64 w) (ht10 : Tab10 w) :
    Calls Tryz.prog 8 #[v] w fun e w' => e = .returned (.string (pieceT s)) ∧ Below w.heap.size w w' := by
  have HRD : Hid (∀ w1, Below w.heap.size w w1 → CellsRd w1 0 w1.heap.size v s) := Lib.hid fun w1 b1 => (h.keep (SameIn.of_below b1 (Nat.le_refl _))).more (Nat.le_refl _) b1.size
  have HC0 := Lib.hid (impl_isShape_c w h hn)
  obtain ⟨R, hR⟩ : ∃ R, R = pieceT s := ⟨_, rfl⟩
  rw [← hR]
  have HR := Lib.hid hR
  obtain ⟨A, c, rfl, _, _⟩ := h
  clear hR
  have HT10 : Hid (∀ w1, Below w.heap.size w w1 → Tab10 w1) := Lib.hid fun w1 b1 => tab10_belowR ht10 b1
  have HT64 : Hid (∀ w1, Below w.heap.size w w1 → Tab64 w1) := Lib.hid fun w1 b1 => tab64_on ht b1
  clear ht ht10
  go_enter Tryz.func8, Tryz.ntmps8
  go_wp2_with fail
  refine (HC0.out).mono ?_
  rintro e w2 ⟨rfl, HH⟩
  clear HC0
  cases hsh : isShape s
  case false =>
    obtain rfl : R = ⟨#[]⟩ := by rw [HR.out, pieceT, hsh]; rfl
    clear hsh HRD HR
    go_wp2
    go_ret
    exact ⟨rfl, HH⟩
  have HSH := Lib.hid hsh
  obtain ⟨ra, rb, ta, tb, oz, bz, r1, r2, HRA, HRB, HTA, HTB, HOZ, HBZ, HR1, HR2, hrab, htab, hoz, hbz⟩ := pc_nums hsh
  obtain ⟨F, hF⟩ : ∃ U, U = fmtSh s := ⟨_, rfl⟩
  obtain ⟨O1, hO1⟩ : ∃ U, U = itoaB oz := ⟨_, rfl⟩
  obtain ⟨B1, hB1⟩ : ∃ U, U = itoaB bz := ⟨_, rfl⟩
  have HRR : Hid (R = ⟨#[112, 105, 101, 99, 101, 32]⟩ ++ F ++ (if r1 then rcX (crT ra rb) O1 else ⟨#[]⟩) ++ (if r2 then toX (crT ta tb) else ⟨#[]⟩) ++ rpT s ++ baX B1) := Lib.hid (by
    rw [HR.out, pieceT, if_pos hsh, hF, hO1, hB1, HRA.out, HRB.out, HTA.out, HTB.out, HOZ.out, HBZ.out, HR1.out, HR2.out]; rfl)
  have s1 : F.size ≤ 80 := by rw [hF]; exact (fmtL_size hsh).1
  have s2 : O1.size ≤ 21 := by rw [hO1]; exact itoaR_size _ (by omega) (by omega)
  have s3 : B1.size ≤ 21 := by rw [hB1]; exact itoaR_size _ (by omega) (by omega)
  have HI1 : Hid (∀ w', Below w.heap.size w w' → Calls Tryz.prog 31 #[.int .i64 oz] w' fun e w'' => e = .returned (.string O1) ∧ Below w'.heap.size w' w'') := Lib.hid fun w' b => by rw [hO1]; exact impl_fmtInt_c oz w' (by omega) (by omega) (HT10.out w' b)
  have HI2 : Hid (∀ w', Below w.heap.size w w' → Calls Tryz.prog 31 #[.int .i64 bz] w' fun e w'' => e = .returned (.string B1) ∧ Below w'.heap.size w' w'') := Lib.hid fun w' b => by rw [hB1]; exact impl_fmtInt_c bz w' (by omega) (by omega) (HT10.out w' b)
  have HIN : Hid (∀ (n : Int) w', -1000 ≤ n → n ≤ 1000 → Below w.heap.size w w' → Calls Tryz.prog 31 #[.int .i64 n] w' fun e w'' => e = .returned (.string (itoaB n)) ∧ Below w'.heap.size w' w'') := Lib.hid fun n w' h1 h2 b => impl_fmtInt_c n w' (by omega) (by omega) (HT10.out w' b)
  have HFS : Hid (∀ w', Below w.heap.size w w' → Calls Tryz.prog 28 #[.slice A s.length c] w' fun e w'' => e = .returned (.string F) ∧ Below w'.heap.size w' w'') := Lib.hid fun w' b => by rw [hF]; exact impl_fmtSh_c w' (HRD.out w' b) HSH.out
  have HSR : Hid (∀ w', Below w.heap.size w w' → Calls Tryz.prog 29 #[.slice A s.length c] w' fun e w'' => e = .returned (.tuple #[.int .i64 (ra : Int), .int .i64 (rb : Int), .bool r1]) ∧ Below w'.heap.size w' w'') := Lib.hid fun w' b => by rw [HRA.out, HRB.out, HR1.out]; exact impl_srect_c w' (HRD.out w' b) hn (HT64.out w' b)
  have HOR : Hid (∀ w', Below w.heap.size w w' → Calls Tryz.prog 32 #[.slice A s.length c] w' fun e w'' => e = .returned (.int .i64 oz) ∧ Below w'.heap.size w' w'') := Lib.hid fun w' b => by rw [HOZ.out]; exact impl_rord_c w' (HRD.out w' b) HSH.out (HT64.out w' b)
  have HTP : Hid (∀ w', Below w.heap.size w w' → Calls Tryz.prog 33 #[.slice A s.length c] w' fun e w'' => e = .returned (.tuple #[.int .i64 (ta : Int), .int .i64 (tb : Int), .bool r2]) ∧ Below w'.heap.size w' w'') := Lib.hid fun w' b => by rw [HTA.out, HTB.out, HR2.out]; exact impl_plane_c w' (HRD.out w' b) HSH.out (HT64.out w' b)
  have HBA : Hid (∀ w', Below w.heap.size w w' → Calls Tryz.prog 36 #[.slice A s.length c] w' fun e w'' => e = .returned (.int .i64 bz) ∧ Below w'.heap.size w' w'') := Lib.hid fun w' b => by rw [HBZ.out]; exact impl_bal_c w' (HRD.out w' b) HSH.out
  have HLR : Hid (∀ w', Below w.heap.size w w' → Calls Tryz.prog 34 #[.slice A s.length c] w' fun e w'' => ∃ n : Int, e = .returned (.int .i64 n) ∧ LrIs s n ∧ Below w'.heap.size w' w'') := Lib.hid fun w' b => impl_least_rep_c w' (HRD.out w' b) hn (HT64.out w' b)
  obtain ⟨i0, hi, hz0, hz1, hz2⟩ := info_parts infoStr
  obtain ⟨W1, hW1⟩ : ∃ U, U = crT ra rb := ⟨_, rfl⟩
  obtain ⟨W2, hW2⟩ : ∃ U, U = crT ta tb := ⟨_, rfl⟩
  have z1 : W1.size ≤ 43 := by rw [hW1]; exact crT_size (by omega) (by omega)
  have z2 : W2.size ≤ 43 := by rw [hW2]; exact crT_size (by omega) (by omega)
  have HX1 : Hid (∀ w', Below w.heap.size w w' → Calls Tryz.prog 30 #[.int .i64 (ra : Int), .int .i64 (rb : Int)] w' fun e w'' => e = .returned (.string W1) ∧ Below w'.heap.size w' w'') := Lib.hid fun w' b => by rw [hW1]; exact impl_crossed_c ra rb w' (by omega) (by omega) (HT10.out w' b)
  have HX2 : Hid (∀ w', Below w.heap.size w w' → Calls Tryz.prog 30 #[.int .i64 (ta : Int), .int .i64 (tb : Int)] w' fun e w'' => e = .returned (.string W2) ∧ Below w'.heap.size w' w'') := Lib.hid fun w' b => by rw [hW2]; exact impl_crossed_c ta tb w' (by omega) (by omega) (HT10.out w' b)
  rw [← hW1, ← hW2] at HRR
  obtain ⟨l0, hl0⟩ : ∃ l : List ByteArray, l = [⟨#[112, 105, 101, 99, 101]⟩, F] := ⟨_, rfl⟩
  obtain ⟨l1, hl1⟩ : ∃ l, l = wlP r1 l0 [⟨#[114, 101, 99, 116, 97, 110, 103, 108, 101]⟩, W1, ⟨#[111, 114, 100, 101, 114]⟩, O1] := ⟨_, rfl⟩
  obtain ⟨l2, hl2⟩ : ∃ l, l = wlP r2 l1 [⟨#[116, 111, 114, 117, 115]⟩, W2] := ⟨_, rfl⟩
  have n0 : l0.length ≤ 2 := by rw [hl0]; exact Nat.le_refl _
  have n1 : l1.length ≤ 6 := by rw [hl1]; exact wlP_len n0
  have n2 : l2.length ≤ 8 := by rw [hl2]; exact wlP_len n1
  have HL0 := Lib.hid hl0
  have HL1 := Lib.hid hl1
  have HL2 := Lib.hid hl2
  have HSZ2 : Hid (∀ x ∈ l2, x.size ≤ 1000) := Lib.hid (by
    rw [hl2, hl1, hl0]
    refine wlP_mem (wlP_mem ?_ ?_) ?_
    · intro x hx
      simp only [List.mem_cons, List.not_mem_nil, or_false] at hx
      rcases hx with rfl | rfl
      · decide
      · omega
    · intro x hx
      simp only [List.mem_cons, List.not_mem_nil, or_false] at hx
      rcases hx with rfl | rfl | rfl | rfl
      · decide
      · omega
      · decide
      · omega
    · intro x hx
      simp only [List.mem_cons, List.not_mem_nil, or_false] at hx
      rcases hx with rfl | rfl
      · decide
      · omega)
  clear hl1 hl2 hW1 hW2 s1 s2 z1 z2
  clear HRA HRB HTA HTB HOZ HBZ HR1 HR2 hF hO1 hB1 hsh HSH HR HRD hn
  go_wp2_with fail
  refine (HFS.out _ HH).mono ?_
  rintro e w3 ⟨rfl, b3⟩
  replace HH := HH.trans (b3.mono HH.size)
  clear b3
  have HB := (show Sep w _ [] from HH).rowBox 9 #[.string ⟨#[112, 105, 101, 99, 101]⟩, .string F] 1 2 rfl (by decide)
  clear HH
  go_upto_region 4 with fail
  have H0 : Sep w (w3.alloc (.cells #[.string ⟨#[112, 105, 101, 99, 101]⟩, .string F] 9)) [Res.row (.slice (some ⟨w3.heap.size, 0, none⟩) 2 2) 9 1 l0.length (sc l0)] := by rw [hl0]; exact HB
  clear HB hl0
  generalize hw4 : w3.alloc (.cells #[.string ⟨#[112, 105, 101, 99, 101]⟩, .string F] 9) = w4 at *
  generalize hg4 : w3.heap.size = g4 at *
  clear hw4 hg4
  go_wp2_with fail
  refine (HSR.out _ H0.below).mono ?_
  rintro e w5 ⟨rfl, b5⟩
  have H1 := H0.step b5
  clear H0 b5
  go_upto_if 23 with fail
  go_cut [3] (fun lv wx => Sep w wx [Res.row lv 9 1 l1.length (sc l1)])
  case first =>
    cases r1
    · have h1 : l1 = l0 := by rw [HL1.out]; rfl
      have HE1 := Lib.hid h1
      clear h1
      go_wp2_with fail
      go_meet
      rw [HE1.out]
      exact H1
    · have h1 : l1 = l0 ++ [⟨#[114, 101, 99, 116, 97, 110, 103, 108, 101]⟩, W1, ⟨#[111, 114, 100, 101, 114]⟩, O1] := by rw [HL1.out]; rfl
      have HE1 := Lib.hid h1
      clear h1
      go_wp2_with fail
      refine (HX1.out _ H1.below).mono ?_
      rintro e w6 ⟨rfl, b6⟩
      replace H1 := H1.step b6
      clear b6
      go_wp2_with fail
      refine (HOR.out _ H1.below).mono ?_
      rintro e w6 ⟨rfl, b6⟩
      replace H1 := H1.step b6
      clear b6
      go_wp2_with fail
      refine (HI1.out _ H1.below).mono ?_
      rintro e w6 ⟨rfl, b6⟩
      replace H1 := H1.step b6
      clear b6
      go_wp2_with (at_builtin; refine wpList_app rfl _ _ 52 rfl 9 i0 _ 1 16 Tryz.underlying52 hi hz0 hz1 hz2 rfl (by decide) _ _ _ rfl (H1.alloc _) _ _ _ [.string ⟨#[114, 101, 99, 116, 97, 110, 103, 108, 101]⟩, .string W1, .string ⟨#[111, 114, 100, 101, 114]⟩, .string O1] rfl (Rd.fresh _ 9 #[.string ⟨#[114, 101, 99, 116, 97, 110, 103, 108, 101]⟩, .string W1, .string ⟨#[111, 114, 100, 101, 114]⟩, .string O1] 1 4 rfl) (by intro u hu; simp at hu; rcases hu with rfl | rfl | rfl | rfl <;> rfl) (by unfold maxLen; omega) (by omega) ?_; intro v8 w8 H8; clear H1)
      go_meet
      rw [HE1.out, List.length_append, sc_append]
      exact H8
  case rest =>
  generalize hwc : wc = wd at *
  clear hwc H1
  have H1 := hcut
  clear hcut
  obtain ⟨A3, c3, rfl, _, _, _⟩ := Res.row_at H1.h0
  go_wp2_with fail
  refine (HTP.out _ H1.below).mono ?_
  rintro e w6 ⟨rfl, b6⟩
  replace H1 := H1.step b6
  clear b6
  go_upto_if 39 with fail
  go_cut [3] (fun lv wx => Sep w wx [Res.row lv 9 1 l2.length (sc l2)])
  case first =>
    cases r2
    · have h1 : l2 = l1 := by rw [HL2.out]; rfl
      have HE1 := Lib.hid h1
      clear h1
      go_wp2_with fail
      go_meet
      rw [HE1.out]
      exact H1
    · have h1 : l2 = l1 ++ [⟨#[116, 111, 114, 117, 115]⟩, W2] := by rw [HL2.out]; rfl
      have HE1 := Lib.hid h1
      clear h1
      go_wp2_with fail
      refine (HX2.out _ H1.below).mono ?_
      rintro e w6 ⟨rfl, b6⟩
      replace H1 := H1.step b6
      clear b6
      go_wp2_with (at_builtin; refine wpList_app rfl _ _ 52 rfl 9 i0 _ 1 16 Tryz.underlying52 hi hz0 hz1 hz2 rfl (by decide) _ _ _ rfl (H1.alloc _) _ _ _ [.string ⟨#[116, 111, 114, 117, 115]⟩, .string W2] rfl (Rd.fresh _ 9 #[.string ⟨#[116, 111, 114, 117, 115]⟩, .string W2] 1 2 rfl) (by intro u hu; simp at hu; rcases hu with rfl | rfl <;> rfl) (by unfold maxLen; omega) (by omega) ?_; intro v8 w8 H8; clear H1)
      go_meet
      rw [HE1.out, List.length_append, sc_append]
      exact H8
  case rest =>
  generalize hwc : wc = we at *
  clear hwc H1
  have H1 := hcut
  clear hcut
  obtain ⟨A5, c5, rfl, _, _, _⟩ := Res.row_at H1.h0
  go_wp2_with fail
  refine (HLR.out _ H1.below).mono ?_
  rintro e w7 ⟨n, rfl, hlr, b7⟩
  replace H1 := H1.step b7
  have hnb := hlr.bd
  have hre := rep_is hlr
  obtain ⟨N1, hN1⟩ : ∃ U, U = itoaB n := ⟨_, rfl⟩
  have zN : N1.size ≤ 21 := by rw [hN1]; exact itoaR_size _ (by omega) (by omega)
  have JN : Hid (∀ w', Below w.heap.size w w' → Calls Tryz.prog 31 #[.int .i64 n] w' fun e w'' => e = .returned (.string N1) ∧ Below w'.heap.size w' w'') := Lib.hid fun w' b => by rw [hN1]; exact HIN.out _ w' (by omega) (by omega) b
  have HRP : Hid (rpT s = if decide (0 < n) = true then rpX N1 else ⟨#[]⟩) := Lib.hid (by rw [rpT, ← hre, hN1]; by_cases h : 0 < n <;> simp [h])
  obtain ⟨l3, hl3⟩ : ∃ l, l = wlP (decide (0 < n)) l2 [⟨#[114, 101, 112]⟩, N1] := ⟨_, rfl⟩
  have n3 : l3.length ≤ 10 := by rw [hl3]; exact wlP_len n2
  have HSZ : Hid (∀ x ∈ l3 ++ [⟨#[98, 97, 108, 97, 110, 99, 101]⟩, B1], x.size ≤ 1000) := Lib.hid (by
    intro x hx
    rcases List.mem_append.1 hx with hx | hx
    · rw [hl3] at hx
      refine wlP_mem HSZ2.out ?_ x hx
      intro x hx
      simp only [List.mem_cons, List.not_mem_nil, or_false] at hx
      rcases hx with rfl | rfl
      · decide
      · omega
    · simp only [List.mem_cons, List.not_mem_nil, or_false] at hx
      rcases hx with rfl | rfl
      · decide
      · omega)
  have HJ : Hid (joinB spaceB (l3 ++ [⟨#[98, 97, 108, 97, 110, 99, 101]⟩, B1]) = R) := Lib.hid (by
    rw [hl3, HL2.out, HL1.out, HL0.out, pc_join, HRR.out, HRP.out])
  have HL3 := Lib.hid hl3
  clear b7 hre hN1 hlr zN hl3
  go_upto_if 49 with fail
  go_cut [3] (fun lv wx => Sep w wx [Res.row lv 9 1 l3.length (sc l3)])
  case first =>
    by_cases h0 : 0 < n
    · have h1 : l3 = l2 ++ [⟨#[114, 101, 112]⟩, N1] := by rw [HL3.out, wlP, decide_eq_true h0]; rfl
      have HE1 := Lib.hid h1
      clear h1
      go_wp2_with fail
      refine (JN.out _ H1.below).mono ?_
      rintro e w6 ⟨rfl, b6⟩
      replace H1 := H1.step b6
      clear b6
      go_wp2_with (at_builtin; refine wpList_app rfl _ _ 52 rfl 9 i0 _ 1 16 Tryz.underlying52 hi hz0 hz1 hz2 rfl (by decide) _ _ _ rfl (H1.alloc _) _ _ _ [.string ⟨#[114, 101, 112]⟩, .string N1] rfl (Rd.fresh _ 9 #[.string ⟨#[114, 101, 112]⟩, .string N1] 1 2 rfl) (by intro u hu; simp at hu; rcases hu with rfl | rfl <;> rfl) (by unfold maxLen; omega) (by omega) ?_; intro v8 w8 H8; clear H1)
      go_meet
      rw [HE1.out, List.length_append, sc_append]
      exact H8
    · have h1 : l3 = l2 := by rw [HL3.out, wlP, decide_eq_false h0]; rfl
      have HE1 := Lib.hid h1
      clear h1
      go_wp2_with fail
      go_meet
      rw [HE1.out]
      exact H1
  case rest =>
  generalize hwc : wc = wf at *
  clear hwc H1
  have H1 := hcut
  clear hcut
  obtain ⟨A7, c7, rfl, _, _, _⟩ := Res.row_at H1.h0
  go_wp2_with fail
  refine (HBA.out _ H1.below).mono ?_
  rintro e w6 ⟨rfl, b6⟩
  replace H1 := H1.step b6
  clear b6
  go_wp2_with fail
  refine (HI2.out _ H1.below).mono ?_
  rintro e w6 ⟨rfl, b6⟩
  replace H1 := H1.step b6
  clear b6
  go_wp2_with (at_builtin; refine wpList_app rfl _ _ 52 rfl 9 i0 _ 1 16 Tryz.underlying52 hi hz0 hz1 hz2 rfl (by decide) _ _ _ rfl (H1.alloc _) _ _ _ [.string ⟨#[98, 97, 108, 97, 110, 99, 101]⟩, .string B1] rfl (Rd.fresh _ 9 #[.string ⟨#[98, 97, 108, 97, 110, 99, 101]⟩, .string B1] 1 2 rfl) (by intro u hu; simp at hu; rcases hu with rfl | rfl <;> rfl) (by unfold maxLen; omega) (by omega) ?_; intro v8 w8 H8; clear H1)
  have HLN0 := line_own (l := l3 ++ [⟨#[98, 97, 108, 97, 110, 99, 101]⟩, B1]) (b := 1000) (by rw [sc_append]; exact H8) (by rw [List.length_append]; rfl) HSZ.out (by rw [List.length_append]; show l3.length + 2 ≤ _; omega) (by decide)
  rw [HJ.out] at HLN0
  have HLN := Lib.hid HLN0
  have HBL := Lib.hid H8.below
  clear H8 HLN0
  go_wp2_with fail
  refine (HLN.out).mono ?_
  rintro e w11 ⟨rfl, b11⟩
  go_wp2
  go_ret
  exact ⟨rfl, HBL.out.trans (b11.mono HBL.out.size)⟩
end Go.Proofs.YtjkppigjajknaaaGreatDoor

namespace Go.Proofs.YtjkppigjajknaaaGreatDoor
open Go.RowKit

set_option maxRecDepth 100000 in
theorem tab64_laid3 {x y : String × DataW Unit} {W : World} (h : laidMet Tryz.prog [x, ("math/bits.deBruijn64tab", Lib.tabData .u8 tab64L), y] W) : Tab64 W := by
  have hs : ((Tryz.prog.globalNamed "math/bits.deBruijn64tab").bind fun g => (Tryz.prog.globals[g]?).map (·.type)) = some 175 := by kernel_rfl
  obtain ⟨g, hg, hty⟩ := Option.bind_eq_some_iff.1 hs
  exact Lib.tabIs_of_head hg hty Tryz.underlying175 Tryz.underlying5 (by kernel_rfl) (by kernel_rfl) h.tail
set_option maxRecDepth 100000 in
theorem tab10_laid3 {x y : String × DataW Unit} {W : World} (h : laidMet Tryz.prog [x, y, ("internal/strconv.uint64pow10", Lib.tabData .u64 Lib.pow10Tab)] W) : Tab10 W := by
  have hs : ((Tryz.prog.globalNamed "internal/strconv.uint64pow10").bind fun g => (Tryz.prog.globals[g]?).map (·.type)) = some 188 := by kernel_rfl
  obtain ⟨g, hg, hty⟩ := Option.bind_eq_some_iff.1 hs
  exact Lib.tabIs_of_head hg hty Tryz.underlying188 Tryz.underlying146 (by kernel_rfl) (by kernel_rfl) h.tail.tail
set_option maxRecDepth 100000 in
set_option maxHeartbeats 8000000 in
theorem law_PieceLine (vs : Value) (s : List Cell) (w : World) (hs : CellsRd w 0 w.heap.size vs s) (htab : Tab64 w) (ht10 : Tab10 w) :
    Calls Tryz.prog 3 #[vs] w fun e w' => e = .returned (.bool true) ∧ Below w.heap.size w w' := by
  have B : Below w.heap.size w w := Below.refl _ _
  have s0 : w.heap.size + 0 ≤ w.heap.size := Nat.le_refl _
  have os := hs
  by_cases q0 : 1048576 < (s.length : Int)
  · skip
    go_enter Tryz.func3, Tryz.ntmps3
    go_wp2_with fail
    skip
    refine (szCellS_c _ _ (os.more (Nat.zero_le _) (by omega)) (by omega) (by omega)).mono ?_
    rintro e w1 ⟨rfl, rfl⟩
    rw [if_pos (by omega)]
    go_wp2
    go_ret
    exact ⟨rfl, B⟩
  go_enter Tryz.func3, Tryz.ntmps3
  go_wp2_with fail
  skip
  refine (szCellS_c _ _ (os.more (Nat.zero_le _) (by omega)) (by omega) (by omega)).mono ?_
  rintro e w1 ⟨rfl, rfl⟩
  rw [if_neg (by omega)]
  go_wp2_with fail
  refine (toCellS_c _ (os.more (Nat.zero_le _) (by omega)) (by omega)).mono ?_
  rintro e w2 ⟨uss, rfl, oss, b2⟩
  have s2 := b2.size
  replace os := os.keep (SameIn.of_below b2 (by omega))
  replace B := B.trans (b2.mono (by omega))
  clear b2
  go_wp2_with fail
  refine (spec_pc_c _ (oss.rd.more (Nat.zero_le _) (by omega)) (by omega)).mono ?_
  rintro e w3 ⟨rfl, b3⟩
  have s3 := b3.size
  replace os := os.keep (SameIn.of_below b3 (by omega))
  replace oss := oss.keep (SameIn.of_below b3 (by omega))
  replace B := B.trans (b3.mono (by omega))
  clear b3
  clear oss
  go_wp2_with fail
  refine (toCellS_c _ (os.more (Nat.zero_le _) (by omega)) (by omega)).mono ?_
  rintro e w4 ⟨uxs, rfl, oxs, b4⟩
  have s4 := b4.size
  replace os := os.keep (SameIn.of_below b4 (by omega))
  replace B := B.trans (b4.mono (by omega))
  clear b4
  go_wp2_with fail
  refine (impl_pc_c _ (oxs.rd.more (Nat.zero_le _) (by omega)) (by omega) (tab64_on htab B) (tab10_belowR ht10 B)).mono ?_
  rintro e w5 ⟨rfl, b5⟩
  have s5 := b5.size
  replace os := os.keep (SameIn.of_below b5 (by omega))
  replace oxs := oxs.keep (SameIn.of_below b5 (by omega))
  replace B := B.trans (b5.mono (by omega))
  clear b5
  go_wp2_with fail
  refine (toCellS_c _ (os.more (Nat.zero_le _) (by omega)) (by omega)).mono ?_
  rintro e w6 ⟨uts, rfl, ots, b6⟩
  have s6 := b6.size
  replace os := os.keep (SameIn.of_below b6 (by omega))
  replace oxs := oxs.keep (SameIn.of_below b6 (by omega))
  replace B := B.trans (b6.mono (by omega))
  clear b6
  go_wp2_with fail
  refine (eqCellS_c _ (oxs.rd.more (Nat.zero_le _) (by omega)) (ots.rd.more (Nat.zero_le _) (by omega))).mono ?_
  rintro e w7 ⟨rfl, b7⟩
  have s7 := b7.size
  replace os := os.keep (SameIn.of_below b7 (by omega))
  replace oxs := oxs.keep (SameIn.of_below b7 (by omega))
  replace ots := ots.keep (SameIn.of_below b7 (by omega))
  replace B := B.trans (b7.mono (by omega))
  clear b7
  clear ots
  go_wp2
  go_ret
  exact ⟨rfl, B⟩

end Go.Proofs.YtjkppigjajknaaaGreatDoor
