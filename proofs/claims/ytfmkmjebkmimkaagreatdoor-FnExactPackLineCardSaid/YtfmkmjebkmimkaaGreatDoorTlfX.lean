
/-
  A tiling's text: both walks.
-/
import Derived.Test.YtfmkmjebkmimkaaGreatDoorRlX
import Derived.Test.YtfmkmjebkmimkaaGreatDoorRegX
import Derived.Test.YtfmkmjebkmimkaaGreatDoorFmtDig
namespace Go.Proofs.YtfmkmjebkmimkaaGreatDoor
open Go.RowKit

/-- the first of a list that .. -/
def pkI (p : Int → Bool) : List Int → Nat → Option Nat
  | [], _ => none
  | m :: r, i => if p m = true then some i else pkI p r (i + 1)
theorem pkI_step {p : Int → Bool} {l : List Int} {k : Nat} {m : Int} (h : l[k]? = some m) : pkI p (l.drop k) k = if p m = true then some k else pkI p (l.drop (k + 1)) (k + 1) := by
  have hk := (List.getElem?_eq_some_iff.1 h).1
  have : l.drop k = m :: l.drop (k + 1) := by
    rw [List.drop_eq_getElem_cons hk]
    rw [List.getElem?_eq_getElem hk] at h
    injection h with h
    rw [h]
  rw [this]; rfl
theorem pkI_lt {p : Int → Bool} : ∀ {l : List Int} {i j : Nat}, pkI p l i = some j → i ≤ j ∧ j < i + l.length
  | [], _, _, h => by cases h
  | m :: r, i, j, h => by
    unfold pkI at h
    split at h
    · injection h with h; simp; omega
    · have := pkI_lt h; simp; omega
def inM (b : Nat) (m : Int) : Bool := decide (0 ≤ m) && (bits .and .i64 (m / 2 ^ b) 1 == 1)
def chO : Option Nat → UInt8
  | none => 46
  | some i => UInt8.ofNat (97 + i)
def chT (l : List Int) (b : Nat) : UInt8 := chO (pkI (inM b) l 0)
def rowT (r : Reg) (l : List Int) (y : Nat) : Nat → ByteArray
  | 0 => ⟨#[]⟩
  | k + 1 => rowT r l y k ++ ⟨#[chT l (y * r.w.toNat + k)]⟩
theorem rowT_size {r : Reg} {l : List Int} {y : Nat} : ∀ k, (rowT r l y k).size = k
  | 0 => rfl
  | k + 1 => by rw [rowT, ByteArray.size_append, rowT_size k]; rfl
/-- the text of the first k rows -/
def fmtTs (r : Reg) (l : List Int) : Nat → ByteArray
  | 0 => ⟨#[]⟩
  | k + 1 => (if k = 0 then fmtTs r l k else fmtTs r l k ++ ⟨#[47]⟩) ++ rowT r l k r.w.toNat
theorem fmtTs_size {r : Reg} {l : List Int} (hw : r.w.toNat ≤ 6) : ∀ k, (fmtTs r l k).size ≤ 7 * k
  | 0 => Nat.le_refl 0
  | k + 1 => by
    have h := fmtTs_size (r := r) (l := l) hw k
    rw [fmtTs, ByteArray.size_append, rowT_size]
    split
    · omega
    · rw [ByteArray.size_append, show (⟨#[47]⟩ : ByteArray).size = 1 from rfl]; omega
def tilG (r : Reg) (l : List Int) : Bool := r.valid && decide (l.length ≤ 26)
def fmtTil (r : Reg) (l : List Int) : ByteArray := if tilG r l = true then fmtTs r l r.rows.length else ⟨#[]⟩
def rowsT (r : Reg) (l : List Int) (k : Nat) : List ByteArray := (List.range k).map fun y => rowT r l y r.w.toNat
theorem rowsT_succ (r : Reg) (l : List Int) (k : Nat) : rowsT r l (k + 1) = rowsT r l k ++ [rowT r l k r.w.toNat] := by unfold rowsT; rw [List.range_succ, List.map_append]; rfl
theorem rowsT_len (r : Reg) (l : List Int) (k : Nat) : (rowsT r l k).length = k := by simp [rowsT]
theorem fmtTs_join (r : Reg) (l : List Int) : ∀ k, fmtTs r l k = joinB ⟨#[47]⟩ (rowsT r l k)
  | 0 => rfl
  | k + 1 => by
    rw [rowsT_succ, fmtTs]
    by_cases h : k = 0
    · subst h
      rw [if_pos rfl]
      show fmtTs r l 0 ++ _ = joinB _ ([] ++ [_])
      rw [List.nil_append, joinB_one, fmtTs]
      apply ByteArray.ext; simp [ByteArray.data_append]
    · rw [if_neg h, joinB_snoc _ _ _ (fun e => h (by have := rowsT_len r l k; rw [e] at this; simpa using this.symm)), fmtTs_join r l k]
theorem inM_neg {b : Nat} {m : Int} (h : ¬ 0 ≤ m) : inM b m = false := by simp [inM, h]
theorem inM_pos {b : Nat} {m : Int} (h : 0 ≤ m) : inM b m = (bits .and .i64 (m / 2 ^ b) 1 == 1) := by simp [inM, h]
def atI : Option Nat → Int
  | none => -1
  | some i => i
set_option maxRecDepth 100000 in
set_option maxHeartbeats 1600000 in
theorem impl_fmtTil_c {v v2 : Value} {r : Reg} {l : List Int} (w : World) (h : RegRd w 0 w.heap.size v r) (h2 : IntsRd w 0 w.heap.size v2 l) (hn : r.rows.length ≤ 1048576) :
    Calls Tryz.prog 64 #[v, v2] w fun e w' => e = .returned (.string (fmtTil r l)) ∧ Below w.heap.size w w' := by
  obtain ⟨i0, hi, hz0, hz1, hz2⟩ := info_parts infoStr
  have HRD : Hid (∀ w1, Below w.heap.size w w1 → RegRd w1 0 w1.heap.size v r) := Lib.hid fun w1 b1 => (h.keep (SameIn.of_below b1 (Nat.le_refl _))).more (Nat.le_refl _) b1.size
  obtain ⟨A2, c2, rfl, hm2, hr2⟩ := h2
  obtain ⟨n, hn2⟩ : ∃ n, n = l.length := ⟨_, rfl⟩
  rw [← hn2] at hm2 hr2 ⊢
  have HN := Lib.hid hn2
  have HRL := Lib.hid hr2
  clear hn2 hr2
  obtain ⟨s, rfl, hs⟩ := h
  obtain ⟨A, c, rfl, hm, hr⟩ := id hs
  have H0 := (Sep.start w).box 29 #[.int .i64 r.w, .slice A r.rows.length c]
  obtain ⟨bR, hbR⟩ : ∃ bR, bR = w.heap.size := ⟨_, rfl⟩
  rw [← hbR] at H0
  obtain ⟨R, hR⟩ : ∃ R, R = fmtTil r l := ⟨_, rfl⟩
  rw [← hR]
  have HR := Lib.hid hR
  clear hr hs hR
  go_enter Tryz.func64, Tryz.ntmps64
  go_upto_region 1 with fail
  rw [← hbR]
  generalize (w.alloc (.cells #[.int .i64 r.w, .slice A r.rows.length c] 29)) = W at *
  clear hbR
  have c0 : W.cell? ⟨bR, 0, none⟩ = some (.int .i64 r.w) := H0.h0.cell 0
  have c1 : W.cell? ⟨bR, 1, none⟩ = some (.slice A r.rows.length c) := H0.h0.cell 1
  have HI := Lib.hid (impl_IsRegion_c W (HRD.out W H0.below))
  go_wp2_with fail
  refine (HI.out).mono ?_
  rintro e w1 ⟨rfl, b1⟩
  have H1 := H0.step b1
  clear H0 HI b1 c0 c1
  cases hv : r.valid
  · obtain rfl : R = ⟨#[]⟩ := by rw [HR.out]; unfold fmtTil tilG; rw [hv]; rfl
    clear hv
    go_wp2
    go_ret
    exact ⟨rfl, H1.below⟩
  by_cases hn26 : 26 < n
  · obtain rfl : R = ⟨#[]⟩ := by rw [HR.out]; unfold fmtTil tilG; rw [hv, if_neg (by have := HN.out; simp; omega)]
    have hni : (26 : Int) < (n : Int) := by omega
    clear hv
    go_wp2
    go_ret
    exact ⟨rfl, H1.below⟩
  have hni : ¬ (26 : Int) < (n : Int) := by omega
  have HE : Hid (R = joinB ⟨#[47]⟩ (rowsT r l r.rows.length)) := Lib.hid (by rw [HR.out, ← fmtTs_join]; unfold fmtTil tilG; rw [hv, if_pos (by have := HN.out; simp; omega)])
  have HV := Lib.hid (Reg.valid_iff.1 hv)
  clear hv
  have hv1 := HV.out.1
  have hv2 := HV.out.2.1
  have hv4 := HV.out.2.2.2.1
  obtain ⟨wn, hwn⟩ : ∃ wn : Nat, wn = r.w.toNat := ⟨_, rfl⟩
  have hwr : r.w = (wn : Int) := by omega
  have hw6 : wn ≤ 6 := by omega
  have HWN := Lib.hid hwn
  have HWR := Lib.hid hwr
  rw [hwr] at H1
  clear hwn hwr hv1 hv2
  have c0 : w1.cell? ⟨bR, 0, none⟩ = some (.int .i64 wn) := H1.h0.cell 0
  have c1 : w1.cell? ⟨bR, 1, none⟩ = some (.slice A r.rows.length c) := H1.h0.cell 1
  have H2 := H1.nil 9 1
  clear H1
  go_wp2
  clear c0 c1
  go_loopw [5, 22] (fun ov yv wx => ∃ y : Nat, y ≤ r.rows.length ∧ yv = .int .i64 y ∧ Sep w wx [Res.row ov 9 1 y (sc (rowsT r l y)), Res.box bR 29 #[.int .i64 wn, .slice A r.rows.length c]]) (fun _ yv _ => r.rows.length - (intOf yv).toNat)
  case atStart => exact ⟨0, Nat.zero_le _, rfl, H2⟩
  case round =>
    clear H2
    obtain ⟨y, hy, rfl, H⟩ := hrel
    by_cases hlt : y < r.rows.length
    · have c0 : wr.cell? ⟨bR, 0, none⟩ = some (.int .i64 wn) := H.h1.cell 0
      obtain ⟨w2, hw2⟩ : ∃ w2 : World, w2 = wr := ⟨_, rfl⟩
      subst hw2
      go_wp2
      clear c0
      go_loopw [7, 27] (fun sv xv wx => ∃ k : Nat, k ≤ wn ∧ xv = .int .i64 k ∧ sv = .string (rowT r l y k) ∧ Below w2.heap.size w2 wx) (fun _ xv _ => wn - (intOf xv).toNat)
      case atStart => exact ⟨0, Nat.zero_le _, rfl, rfl, Below.refl _ _⟩
      case round =>
        obtain ⟨k, hk, rfl, rfl, hbel⟩ := hrel
        have H3 := H.step hbel
        have hs1 : (rowT r l y k).size = k := rowT_size k
        have hs2 : ¬ 9223372036854775807 < (rowT r l y k).size + 1 := by omega
        have hs3 : ¬ (rowT r l y k).size + 1 > 9223372036854775807 := by omega
        clear hs1
        by_cases hkl : k < wn
        · have c0 : wr.cell? ⟨bR, 0, none⟩ = some (.int .i64 wn) := H3.h1.cell 0
          clear H3 c0
          obtain ⟨b, hb⟩ : ∃ b : Nat, b = y * wn + k := ⟨_, rfl⟩
          have HBB := Lib.hid hb
          have hb42 : b ≤ 42 := by
            have h1 : y * wn ≤ 6 * 6 := Nat.mul_le_mul (by omega) (by omega)
            omega
          obtain ⟨yw, hyw⟩ : ∃ yw : Nat, yw = y * wn := ⟨_, rfl⟩
          have hyw36 : yw ≤ 36 := by rw [hyw]; exact Nat.mul_le_mul (by omega : y ≤ 6) (by omega : wn ≤ 6)
          have hm1 : IntKind.i64.wrap ((y : Int) * (wn : Int)) = (yw : Int) := by
            have : (y : Int) * (wn : Int) = (yw : Int) := by rw [hyw]; exact (Int.natCast_mul y wn).symm
            rw [this]; exact IntWalk.i64_in _ (by omega)
          have hm2 : IntKind.i64.wrap ((yw : Int) + (k : Int)) = (b : Int) := by
            have : (yw : Int) + (k : Int) = (b : Int) := by rw [hb, ← hyw]; omega
            rw [this]; exact IntWalk.i64_in _ (by omega)
          have HM1 := Lib.hid hm1
          have HM2 := Lib.hid hm2
          clear hb hyw hm1 hm2
          go_wp2
          go_loopw [9, 10] (fun av iv wx => ∃ q : Nat, q ≤ n ∧ iv = .int .i64 ((q : Int) - 1) ∧ av = .string ⟨#[chO (pkI (inM b) (l.drop q) q)]⟩ ∧ Below w2.heap.size w2 wx) (fun _ iv _ => (intOf iv + 1).toNat)
          case atStart => exact ⟨n, Nat.le_refl _, by go_num, by rw [HN.out, List.drop_length]; rfl, hbel⟩
          case round =>
            clear hbel
            obtain ⟨q, hq, rfl, rfl, hbel⟩ := hrel
            have H4 := H.step hbel
            rcases q with _ | j
            · skip
              have HC : Hid (rowT r l y k ++ ⟨#[chO (pkI (inM b) (l.drop 0) 0)]⟩ = rowT r l y (k + 1)) := Lib.hid (by
                rw [rowT, List.drop_zero, ← HWN.out, ← HBB.out]; rfl)
              generalize pkI (inM b) (l.drop 0) 0 = O at *
              have e1 : ((0 : Nat) : Int) - 1 = -1 := rfl
              rw [e1]
              clear e1
              go_wp2
              rw [HC.out]
              go_roundw
              case rel => exact ⟨k + 1, by omega, by go_num, rfl, hbel⟩
              case measure => simp [intOf]; omega
            · obtain ⟨m, hm⟩ : ∃ m, l[j]? = some m := ⟨l[j]'(by rw [← HN.out]; omega), List.getElem?_eq_getElem _⟩
              have HST := Lib.hid (pkI_step (p := inM b) hm)
              obtain ⟨bb, off, hA2, _, hbb, hc2⟩ := HRL.out.2 (by omega)
              subst hA2
              have x1 := (H4.below.cell (p := ⟨bb, off + j, none⟩) hbb).trans (hc2 j (.int .i64 m) (by simp [ic, hm]))
              have c0 : wr.cell? ⟨bR, 0, none⟩ = some (.int .i64 wn) := Blk.cell H4.h1 0
              have e1 : ((j + 1 : Nat) : Int) - 1 = (j : Int) := by omega
              rw [e1]
              clear hm hc2 e1
              obtain ⟨O, hO⟩ : ∃ O, O = pkI (inM b) (l.drop (j + 1)) (j + 1) := ⟨_, rfl⟩
              rw [← hO] at HST ⊢
              clear hO
              by_cases hm0 : 0 ≤ m
              · have hin := (inM_pos (b := b) hm0).symm
                have hm1 := HM1.out
                have hm2 := HM2.out
                cases hp : inM b m
                · rw [hp] at hin
                  have HS : Hid (pkI (inM b) (l.drop j) j = O) := Lib.hid (by rw [HST.out, hp]; rfl)
                  clear hp
                  go_wp2_with fail
                  go_quiet (fail)
                  have H2 := below_drewN hbel nq
                  generalize wr.drewN nq = w5 at *
                  clear hm1 hm2 H4 x1 c0 hin hbel
                  go_wp2
                  go_roundw
                  case rel => exact ⟨j, by omega, by go_num, by rw [HS.out], H2⟩
                  case measure => simp [intOf] <;> omega
                · rw [hp] at hin
                  have HS : Hid (pkI (inM b) (l.drop j) j = some j) := Lib.hid (by rw [HST.out, hp]; rfl)
                  clear hp
                  go_wp2_with fail
                  go_quiet (fail)
                  have H2 := below_drewN hbel nq
                  generalize wr.drewN nq = w5 at *
                  clear hm1 hm2 H4 x1 c0 hin hbel
                  have hj26 : j < 26 := by omega
                  have hcv : (convert 47 9 (.slice (some ⟨w5.heap.size, 0, none⟩) 1 1)).run Tryz.prog (w5.alloc (.cells #[.int .u8 (97 + (j : Int))] 5)) = .ok (.string ⟨#[chO (some j)]⟩) (w5.alloc (.cells #[.int .u8 (97 + (j : Int))] 5)) := by
                    refine run_byte_string _ _ _ (97 + (j : Int)) ?_ (by rw [(Blk.new w5 _ _).cell]; rfl)
                    show _ = ((UInt8.ofNat (97 + j)).toNat : Int)
                    rw [UInt8.toNat_ofNat']
                    omega
                  have H3 := H2.alloc H2.size (.cells #[.int .u8 (97 + (j : Int))] 5)
                  go_wp2
                  go_roundw
                  case rel => exact ⟨j, by omega, by go_num, by rw [HS.out], H3⟩
                  case measure => simp [intOf] <;> omega
              · have HS : Hid (pkI (inM b) (l.drop j) j = O) := Lib.hid (by rw [HST.out, inM_neg hm0]; rfl)
                have hd : decide (0 ≤ m) = false := decide_eq_false hm0
                have hd2 : decide (m ≥ 0) = false := decide_eq_false hm0
                have hm3 : m < 0 := by omega
                go_wp2_with fail
                go_quiet (fail)
                have H2 := below_drewN hbel nq
                generalize wr.drewN nq = w5 at *
                clear H4 x1 c0 hbel
                go_wp2
                go_roundw
                case rel => exact ⟨j, by omega, by go_num, by rw [HS.out], H2⟩
                case measure => simp [intOf] <;> omega
        · obtain rfl : k = wn := by omega
          have HRW : Hid (rowsT r l (y + 1) = rowsT r l y ++ [rowT r l y k]) := Lib.hid (by rw [rowsT_succ, ← HWN.out])
          clear hs2 hs3 hbel
          generalize rowT r l y k = T at *
          go_wp2_with (at_builtin; refine wpList_app rfl _ _ 129 rfl 9 i0 _ 1 16 Tryz.underlying129 hi hz0 hz1 hz2 rfl (by decide) _ _ _ rfl (H3.alloc _) _ _ _ [.string T] rfl (Rd.fresh wr _ #[.string T] 1 1 rfl) ocs (by unfold maxLen; omega) (by omega) ?_; intro v5 w5 H5; clear H3)
          have H6 : Sep w w5 [Res.row v5 9 1 (y + 1) (sc (rowsT r l (y + 1))), Res.box bR 29 #[.int .i64 k, .slice A r.rows.length c]] := by rw [HRW.out, sc_append]; exact H5
          clear H5
          go_roundw
          case rel => exact ⟨y + 1, by omega, by go_num, H6⟩
          case measure => simp [intOf]; omega
    · obtain rfl : y = r.rows.length := by omega
      have HJ := Lib.hid (join_own (b := 6) ⟨#[47]⟩ H (rowsT_len r l _).symm (fun x hx => by
        obtain ⟨j, _, rfl⟩ := List.mem_map.1 hx
        rw [rowT_size]; have := HWN.out; omega) (by rw [rowsT_len]; exact hn) (by decide))
      obtain ⟨A5, c5, rfl, _, _, _⟩ := Res.row_at H.h0
      have hb := H.below
      clear H
      go_wp2_with fail
      refine (HJ.out).mono ?_
      rintro e w6 ⟨rfl, b6⟩
      go_wp2
      go_ret
      exact ⟨by rw [HE.out]; rfl, hb.trans (b6.mono hb.size)⟩
theorem alpha_at : ∀ j, j < 26 → (⟨#[97, 98, 99, 100, 101, 102, 103, 104, 105, 106, 107, 108, 109, 110, 111, 112, 113, 114, 115, 116, 117, 118, 119, 120, 121, 122]⟩ : ByteArray).extract j (j + 1) = ⟨#[chO (some j)]⟩ := by decide +kernel
set_option maxRecDepth 100000 in
set_option maxHeartbeats 1600000 in
theorem spec_fmtTil_c {v v2 : Value} {r : Reg} {l : List Int} (w : World) (h : RegRd w 0 w.heap.size v r) (h2 : IntsRd w 0 w.heap.size v2 l) (hn : r.rows.length ≤ 1048576) :
    Calls Tryz.prog 55 #[v, v2] w fun e w' => e = .returned (.string (fmtTil r l)) ∧ Below w.heap.size w w' := by
  have HRD : Hid (∀ w1, Below w.heap.size w w1 → RegRd w1 0 w1.heap.size v r) := Lib.hid fun w1 b1 => (h.keep (SameIn.of_below b1 (Nat.le_refl _))).more (Nat.le_refl _) b1.size
  obtain ⟨A2, c2, rfl, hm2, hr2⟩ := h2
  obtain ⟨n, hn2⟩ : ∃ n, n = l.length := ⟨_, rfl⟩
  rw [← hn2] at hm2 hr2 ⊢
  have HN := Lib.hid hn2
  have HRL := Lib.hid hr2
  clear hn2 hr2
  obtain ⟨s, rfl, hs⟩ := h
  obtain ⟨A, c, rfl, hm, hr⟩ := id hs
  have H0 := (Sep.start w).box 29 #[.int .i64 r.w, .slice A r.rows.length c]
  obtain ⟨bR, hbR⟩ : ∃ bR, bR = w.heap.size := ⟨_, rfl⟩
  rw [← hbR] at H0
  obtain ⟨R, hR⟩ : ∃ R, R = fmtTil r l := ⟨_, rfl⟩
  rw [← hR]
  have HR := Lib.hid hR
  clear hr hs hR
  go_enter Tryz.func55, Tryz.ntmps55
  go_upto_region 1 with fail
  rw [← hbR]
  generalize (w.alloc (.cells #[.int .i64 r.w, .slice A r.rows.length c] 29)) = W at *
  clear hbR
  go_wp2
  go_loopw [5, 6] (fun sv yv wx => ∃ y : Nat, y ≤ r.rows.length ∧ yv = .int .i64 y ∧ sv = .string (fmtTs r l y) ∧ Hid (y ≠ 0 → tilG r l = true) ∧ Sep w wx [Res.box bR 29 #[.int .i64 r.w, .slice A r.rows.length c]]) (fun _ yv _ => r.rows.length - (intOf yv).toNat)
  case atStart => exact ⟨0, Nat.zero_le _, rfl, rfl, Lib.hid (fun h => absurd rfl h), H0⟩
  case round =>
    clear H0
    obtain ⟨y, hy, rfl, rfl, HY, H⟩ := hrel
    have c0 : wr.cell? ⟨bR, 0, none⟩ = some (.int .i64 r.w) := H.h0.cell 0
    have c1 : wr.cell? ⟨bR, 1, none⟩ = some (.slice A r.rows.length c) := H.h0.cell 1
    by_cases hlt : y < r.rows.length
    · have HI := Lib.hid (spec_IsRegion_c wr (HRD.out wr H.below))
      go_wp2_with fail
      refine (HI.out).mono ?_
      rintro e w1 ⟨rfl, b1⟩
      have H1 := H.step b1
      clear H HI b1 c0 c1
      cases hv : r.valid
      · have HE : Hid (R = fmtTs r l y) := Lib.hid (by
          have h0 : y = 0 := by
            rcases Nat.eq_zero_or_pos y with h | h
            · exact h
            · have := HY.out (by omega); unfold tilG at this; rw [hv] at this; cases this
          rw [HR.out, h0]; unfold fmtTil tilG; rw [hv]; rfl)
        clear hv
        go_wp2
        go_ret
        exact ⟨by rw [HE.out]; rfl, H1.below⟩
      by_cases hn26 : 26 < n
      · have HE : Hid (R = fmtTs r l y) := Lib.hid (by
          have hg : tilG r l = false := by unfold tilG; rw [hv]; have := HN.out; simp; omega
          have h0 : y = 0 := by
            rcases Nat.eq_zero_or_pos y with h | h
            · exact h
            · have := HY.out (by omega); rw [hg] at this; cases this
          rw [HR.out, h0]; unfold fmtTil; rw [hg]; rfl)
        have hni : ¬ (n : Int) ≤ 26 := by omega
        clear hv
        go_wp2
        go_ret
        exact ⟨by rw [HE.out]; rfl, H1.below⟩
      · have HG : Hid (y + 1 ≠ 0 → tilG r l = true) := Lib.hid fun _ => by unfold tilG; rw [hv]; have := HN.out; simp; omega
        have hni : (n : Int) ≤ 26 := by omega
        have HV := Lib.hid (Reg.valid_iff.1 hv)
        have HVV := Lib.hid hv
        clear hv
        have hv1 := HV.out.1
        have hv4 := HV.out.2.2.2.1
        obtain ⟨wn, hwn⟩ : ∃ wn : Nat, wn = r.w.toNat := ⟨_, rfl⟩
        have hwr : r.w = (wn : Int) := by omega
        have HWN := Lib.hid hwn
        have HWR := Lib.hid hwr
        rw [hwr] at H1
        clear hwn hwr
        have HWL : Hid (wn ≤ 6) := Lib.hid (by have := HV.out.2.1; have := HWR.out; omega)
        have hw6 : wn ≤ 6 := HWL.out
        have hfs : (fmtTs r l y).size ≤ 42 := by
          have := fmtTs_size (r := r) (l := l) (by have := HV.out.2.1; omega) y
          have := HV.out.2.2.2.1
          omega
        have hs3 : ¬ (fmtTs r l y).size + 1 > 9223372036854775807 := by omega
        have hs4 : ¬ 9223372036854775807 < (fmtTs r l y).size + 1 := by omega
        by_cases hy0 : y = 0
        · have HPS : Hid ((fmtTs r l y).size ≤ 43) := Lib.hid (by omega)
          have hdi : decide ((0 : Int) < (y : Int)) = false := by simp; omega
          have hdi2 : decide ((y : Int) > 0) = false := by simp; omega
          have hdn : decide (0 < y) = false := by simp; omega
          have HP : Hid (fmtTs r l (y + 1) = fmtTs r l y ++ rowT r l y wn) := Lib.hid (by rw [fmtTs, if_pos hy0, HWN.out])
          clear hy0 hv1
          go_wp2
          obtain ⟨w2, hw2⟩ : ∃ w2 : World, w2 = w1 := ⟨_, rfl⟩
          subst hw2
          go_loopw [5, 7] (fun sv xv wx => ∃ k : Nat, k ≤ wn ∧ xv = .int .i64 k ∧ sv = .string ((fmtTs r l y) ++ rowT r l y k) ∧ Sep w wx [Res.box bR 29 #[.int .i64 wn, .slice A r.rows.length c]]) (fun _ xv _ => wn - (intOf xv).toNat)
          case atStart => exact ⟨0, Nat.zero_le _, rfl, by rw [rowT]; exact congrArg Value.string (ba_empty _).symm, H1⟩
          case round =>
            clear H1
            obtain ⟨k, hk, rfl, rfl, H⟩ := hrel
            have c0 : wr.cell? ⟨bR, 0, none⟩ = some (.int .i64 wn) := H.h0.cell 0
            have c1 : wr.cell? ⟨bR, 1, none⟩ = some (.slice A r.rows.length c) := H.h0.cell 1
            obtain ⟨T, hT⟩ : ∃ T, T = (fmtTs r l y) ++ rowT r l y k := ⟨_, rfl⟩
            have HT := Lib.hid hT
            have hsz : T.size ≤ 100 := by rw [hT, ByteArray.size_append, rowT_size]; have := HPS.out; have := HWL.out; omega
            have hs1 : ¬ T.size + 1 > 9223372036854775807 := by omega
            have hs2 : ¬ 9223372036854775807 < T.size + 1 := by omega
            rw [← hT]
            clear hT
            by_cases hkl : k < wn
            · clear c1
              have HTX : Hid (∀ c, rowT r l y (k + 1) = rowT r l y k ++ c → T ++ c = (fmtTs r l y) ++ rowT r l y (k + 1)) := Lib.hid (fun c hc => by rw [HT.out, hc, ba_assoc ((fmtTs r l y))])
              obtain ⟨w2, hw2⟩ : ∃ w2 : World, w2 = wr := ⟨_, rfl⟩
              subst hw2
              have hbel := Below.refl w2.heap.size w2
              obtain ⟨b, hb⟩ : ∃ b : Nat, b = y * wn + k := ⟨_, rfl⟩
              have HBB := Lib.hid hb
              have hb42 : b ≤ 42 := by
                have h1 : y * wn ≤ 6 * 6 := Nat.mul_le_mul (by omega) (by omega)
                omega
              obtain ⟨yw, hyw⟩ : ∃ yw : Nat, yw = y * wn := ⟨_, rfl⟩
              have hyw36 : yw ≤ 36 := by rw [hyw]; exact Nat.mul_le_mul (by omega : y ≤ 6) (by omega : wn ≤ 6)
              have hm1 : IntKind.i64.wrap ((y : Int) * (wn : Int)) = (yw : Int) := by
                have : (y : Int) * (wn : Int) = (yw : Int) := by rw [hyw]; exact (Int.natCast_mul y wn).symm
                rw [this]; exact IntWalk.i64_in _ (by omega)
              have hm2 : IntKind.i64.wrap ((yw : Int) + (k : Int)) = (b : Int) := by
                have : (yw : Int) + (k : Int) = (b : Int) := by rw [hb, ← hyw]; omega
                rw [this]; exact IntWalk.i64_in _ (by omega)
              have HM1 := Lib.hid hm1
              have HM2 := Lib.hid hm2
              clear hb hyw hm1 hm2
              go_wp2
              go_loopw [8, 9] (fun av iv wx => ∃ q : Nat, q ≤ n ∧ iv = .int .i64 ((q : Int) - 1) ∧ av = .int .i64 (atI (pkI (inM b) (l.drop q) q)) ∧ Below w2.heap.size w2 wx) (fun _ iv _ => (intOf iv + 1).toNat)
              case atStart => exact ⟨n, Nat.le_refl _, by go_num, by rw [HN.out, List.drop_length]; rfl, hbel⟩
              case round =>
                clear hbel
                obtain ⟨q, hq, rfl, rfl, hbel⟩ := hrel
                have H4 := H.step hbel
                rcases q with _ | j
                · skip
                  have HPK : Hid (rowT r l y (k + 1) = rowT r l y k ++ ⟨#[chO (pkI (inM b) (l.drop 0) 0)]⟩) := Lib.hid (by
                    rw [rowT, List.drop_zero, ← HWN.out, ← HBB.out]; rfl)
                  obtain ⟨O, hO⟩ : ∃ O, O = pkI (inM b) (l.drop 0) 0 := ⟨_, rfl⟩
                  rw [← hO] at HPK ⊢
                  have HO := Lib.hid hO
                  have H3 := H.step hbel
                  have e1 : ((0 : Nat) : Int) - 1 = -1 := rfl
                  rw [e1]
                  clear e1 hO
                  have hO2 : ∀ j, O = some j → j < n := fun j hj => by
                    have h1 := HO.out
                    rw [List.drop_zero] at h1
                    rw [hj] at h1
                    have := pkI_lt h1.symm
                    rw [HN.out]
                    omega
                  have HO2 := Lib.hid hO2
                  clear hO2
                  cases O with
                  | none =>
                    have HC := Lib.hid (HTX.out _ HPK.out)
                    unfold atI chO at *
                    go_wp2
                    rw [HC.out]
                    go_roundw
                    case rel => exact ⟨k + 1, by omega, by go_num, rfl, H3⟩
                    case measure => simp [intOf]; omega
                  | some j =>
                    have HC := Lib.hid (HTX.out _ HPK.out)
                    have hj26 : j < 26 := by have := HO2.out j rfl; omega
                    unfold atI
                    have e2 : IntKind.i64.wrap ((j : Int) + 1) = ((j + 1 : Nat) : Int) := IntWalk.i64_in _ (by omega)
                    go_wp2
                    refine ⟨⟨k + 1, by omega, by go_num, ?_, H3⟩, by simp [intOf]; omega⟩
                    rw [alpha_at j hj26, HC.out]
                · obtain ⟨m, hm⟩ : ∃ m, l[j]? = some m := ⟨l[j]'(by rw [← HN.out]; omega), List.getElem?_eq_getElem _⟩
                  have HST := Lib.hid (pkI_step (p := inM b) hm)
                  obtain ⟨bb, off, hA2, _, hbb, hc2⟩ := HRL.out.2 (by omega)
                  subst hA2
                  have x1 := (H4.below.cell (p := ⟨bb, off + j, none⟩) hbb).trans (hc2 j (.int .i64 m) (by simp [ic, hm]))
                  have c0 : wr.cell? ⟨bR, 0, none⟩ = some (.int .i64 wn) := Blk.cell H4.h0 0
                  have e1 : ((j + 1 : Nat) : Int) - 1 = (j : Int) := by omega
                  rw [e1]
                  clear hm hc2 e1
                  obtain ⟨O, hO⟩ : ∃ O, O = pkI (inM b) (l.drop (j + 1)) (j + 1) := ⟨_, rfl⟩
                  rw [← hO] at HST ⊢
                  clear hO
                  by_cases hm0 : 0 ≤ m
                  · have hin := (inM_pos (b := b) hm0).symm
                    have hm1 := HM1.out
                    have hm2 := HM2.out
                    cases hp : inM b m
                    · rw [hp] at hin
                      have HS : Hid (pkI (inM b) (l.drop j) j = O) := Lib.hid (by rw [HST.out, hp]; rfl)
                      clear hp
                      go_wp2_with fail
                      go_quiet (fail)
                      have H2 := below_drewN hbel nq
                      generalize wr.drewN nq = w5 at *
                      clear hm1 hm2 H4 x1 c0 hin hbel
                      go_wp2
                      go_roundw
                      case rel => exact ⟨j, by omega, by go_num, by rw [HS.out], H2⟩
                      case measure => simp [intOf] <;> omega
                    · rw [hp] at hin
                      have HS : Hid (pkI (inM b) (l.drop j) j = some j) := Lib.hid (by rw [HST.out, hp]; rfl)
                      clear hp
                      go_wp2_with fail
                      go_quiet (fail)
                      have H2 := below_drewN hbel nq
                      generalize wr.drewN nq = w5 at *
                      clear hm1 hm2 H4 x1 c0 hin hbel
                      go_wp2
                      go_roundw
                      case rel => exact ⟨j, by omega, by go_num, by rw [HS.out]; rfl, H2⟩
                      case measure => simp [intOf] <;> omega
                  · have HS : Hid (pkI (inM b) (l.drop j) j = O) := Lib.hid (by rw [HST.out, inM_neg hm0]; rfl)
                    have hd : decide (0 ≤ m) = false := decide_eq_false hm0
                    have hd2 : decide (m ≥ 0) = false := decide_eq_false hm0
                    have hm3 : m < 0 := by omega
                    go_wp2_with fail
                    go_quiet (fail)
                    have H2 := below_drewN hbel nq
                    generalize wr.drewN nq = w5 at *
                    clear H4 x1 c0 hbel
                    go_wp2
                    go_roundw
                    case rel => exact ⟨j, by omega, by go_num, by rw [HS.out], H2⟩
                    case measure => simp [intOf] <;> omega
            · obtain rfl : k = wn := by omega
              rw [HT.out, ← HP.out]
              rw [← HWR.out] at H
              go_wp2
              go_roundw
              case rel => exact ⟨y + 1, by omega, by go_num, rfl, HG, H⟩
              case measure => simp [intOf]; omega
        · have HPS : Hid ((fmtTs r l y ++ ⟨#[47]⟩).size ≤ 43) := Lib.hid (by rw [ByteArray.size_append, show (⟨#[47]⟩ : ByteArray).size = 1 from rfl]; omega)
          have hdi : decide ((0 : Int) < (y : Int)) = true := by simp; omega
          have hdi2 : decide ((y : Int) > 0) = true := by simp; omega
          have hdn : decide (0 < y) = true := by simp; omega
          have HP : Hid (fmtTs r l (y + 1) = fmtTs r l y ++ ⟨#[47]⟩ ++ rowT r l y wn) := Lib.hid (by rw [fmtTs, if_neg hy0, HWN.out])
          clear hy0 hv1
          go_wp2
          obtain ⟨w2, hw2⟩ : ∃ w2 : World, w2 = w1 := ⟨_, rfl⟩
          subst hw2
          go_loopw [5, 7] (fun sv xv wx => ∃ k : Nat, k ≤ wn ∧ xv = .int .i64 k ∧ sv = .string ((fmtTs r l y ++ ⟨#[47]⟩) ++ rowT r l y k) ∧ Sep w wx [Res.box bR 29 #[.int .i64 wn, .slice A r.rows.length c]]) (fun _ xv _ => wn - (intOf xv).toNat)
          case atStart => exact ⟨0, Nat.zero_le _, rfl, by rw [rowT]; exact congrArg Value.string (ba_empty _).symm, H1⟩
          case round =>
            clear H1
            obtain ⟨k, hk, rfl, rfl, H⟩ := hrel
            have c0 : wr.cell? ⟨bR, 0, none⟩ = some (.int .i64 wn) := H.h0.cell 0
            have c1 : wr.cell? ⟨bR, 1, none⟩ = some (.slice A r.rows.length c) := H.h0.cell 1
            obtain ⟨T, hT⟩ : ∃ T, T = (fmtTs r l y ++ ⟨#[47]⟩) ++ rowT r l y k := ⟨_, rfl⟩
            have HT := Lib.hid hT
            have hsz : T.size ≤ 100 := by rw [hT, ByteArray.size_append, rowT_size]; have := HPS.out; have := HWL.out; omega
            have hs1 : ¬ T.size + 1 > 9223372036854775807 := by omega
            have hs2 : ¬ 9223372036854775807 < T.size + 1 := by omega
            rw [← hT]
            clear hT
            by_cases hkl : k < wn
            · clear c1
              have HTX : Hid (∀ c, rowT r l y (k + 1) = rowT r l y k ++ c → T ++ c = (fmtTs r l y ++ ⟨#[47]⟩) ++ rowT r l y (k + 1)) := Lib.hid (fun c hc => by rw [HT.out, hc, ba_assoc ((fmtTs r l y ++ ⟨#[47]⟩))])
              obtain ⟨w2, hw2⟩ : ∃ w2 : World, w2 = wr := ⟨_, rfl⟩
              subst hw2
              have hbel := Below.refl w2.heap.size w2
              obtain ⟨b, hb⟩ : ∃ b : Nat, b = y * wn + k := ⟨_, rfl⟩
              have HBB := Lib.hid hb
              have hb42 : b ≤ 42 := by
                have h1 : y * wn ≤ 6 * 6 := Nat.mul_le_mul (by omega) (by omega)
                omega
              obtain ⟨yw, hyw⟩ : ∃ yw : Nat, yw = y * wn := ⟨_, rfl⟩
              have hyw36 : yw ≤ 36 := by rw [hyw]; exact Nat.mul_le_mul (by omega : y ≤ 6) (by omega : wn ≤ 6)
              have hm1 : IntKind.i64.wrap ((y : Int) * (wn : Int)) = (yw : Int) := by
                have : (y : Int) * (wn : Int) = (yw : Int) := by rw [hyw]; exact (Int.natCast_mul y wn).symm
                rw [this]; exact IntWalk.i64_in _ (by omega)
              have hm2 : IntKind.i64.wrap ((yw : Int) + (k : Int)) = (b : Int) := by
                have : (yw : Int) + (k : Int) = (b : Int) := by rw [hb, ← hyw]; omega
                rw [this]; exact IntWalk.i64_in _ (by omega)
              have HM1 := Lib.hid hm1
              have HM2 := Lib.hid hm2
              clear hb hyw hm1 hm2
              go_wp2
              go_loopw [8, 9] (fun av iv wx => ∃ q : Nat, q ≤ n ∧ iv = .int .i64 ((q : Int) - 1) ∧ av = .int .i64 (atI (pkI (inM b) (l.drop q) q)) ∧ Below w2.heap.size w2 wx) (fun _ iv _ => (intOf iv + 1).toNat)
              case atStart => exact ⟨n, Nat.le_refl _, by go_num, by rw [HN.out, List.drop_length]; rfl, hbel⟩
              case round =>
                clear hbel
                obtain ⟨q, hq, rfl, rfl, hbel⟩ := hrel
                have H4 := H.step hbel
                rcases q with _ | j
                · skip
                  have HPK : Hid (rowT r l y (k + 1) = rowT r l y k ++ ⟨#[chO (pkI (inM b) (l.drop 0) 0)]⟩) := Lib.hid (by
                    rw [rowT, List.drop_zero, ← HWN.out, ← HBB.out]; rfl)
                  obtain ⟨O, hO⟩ : ∃ O, O = pkI (inM b) (l.drop 0) 0 := ⟨_, rfl⟩
                  rw [← hO] at HPK ⊢
                  have HO := Lib.hid hO
                  have H3 := H.step hbel
                  have e1 : ((0 : Nat) : Int) - 1 = -1 := rfl
                  rw [e1]
                  clear e1 hO
                  have hO2 : ∀ j, O = some j → j < n := fun j hj => by
                    have h1 := HO.out
                    rw [List.drop_zero] at h1
                    rw [hj] at h1
                    have := pkI_lt h1.symm
                    rw [HN.out]
                    omega
                  have HO2 := Lib.hid hO2
                  clear hO2
                  cases O with
                  | none =>
                    have HC := Lib.hid (HTX.out _ HPK.out)
                    unfold atI chO at *
                    go_wp2
                    rw [HC.out]
                    go_roundw
                    case rel => exact ⟨k + 1, by omega, by go_num, rfl, H3⟩
                    case measure => simp [intOf]; omega
                  | some j =>
                    have HC := Lib.hid (HTX.out _ HPK.out)
                    have hj26 : j < 26 := by have := HO2.out j rfl; omega
                    unfold atI
                    have e2 : IntKind.i64.wrap ((j : Int) + 1) = ((j + 1 : Nat) : Int) := IntWalk.i64_in _ (by omega)
                    go_wp2
                    refine ⟨⟨k + 1, by omega, by go_num, ?_, H3⟩, by simp [intOf]; omega⟩
                    rw [alpha_at j hj26, HC.out]
                · obtain ⟨m, hm⟩ : ∃ m, l[j]? = some m := ⟨l[j]'(by rw [← HN.out]; omega), List.getElem?_eq_getElem _⟩
                  have HST := Lib.hid (pkI_step (p := inM b) hm)
                  obtain ⟨bb, off, hA2, _, hbb, hc2⟩ := HRL.out.2 (by omega)
                  subst hA2
                  have x1 := (H4.below.cell (p := ⟨bb, off + j, none⟩) hbb).trans (hc2 j (.int .i64 m) (by simp [ic, hm]))
                  have c0 : wr.cell? ⟨bR, 0, none⟩ = some (.int .i64 wn) := Blk.cell H4.h0 0
                  have e1 : ((j + 1 : Nat) : Int) - 1 = (j : Int) := by omega
                  rw [e1]
                  clear hm hc2 e1
                  obtain ⟨O, hO⟩ : ∃ O, O = pkI (inM b) (l.drop (j + 1)) (j + 1) := ⟨_, rfl⟩
                  rw [← hO] at HST ⊢
                  clear hO
                  by_cases hm0 : 0 ≤ m
                  · have hin := (inM_pos (b := b) hm0).symm
                    have hm1 := HM1.out
                    have hm2 := HM2.out
                    cases hp : inM b m
                    · rw [hp] at hin
                      have HS : Hid (pkI (inM b) (l.drop j) j = O) := Lib.hid (by rw [HST.out, hp]; rfl)
                      clear hp
                      go_wp2_with fail
                      go_quiet (fail)
                      have H2 := below_drewN hbel nq
                      generalize wr.drewN nq = w5 at *
                      clear hm1 hm2 H4 x1 c0 hin hbel
                      go_wp2
                      go_roundw
                      case rel => exact ⟨j, by omega, by go_num, by rw [HS.out], H2⟩
                      case measure => simp [intOf] <;> omega
                    · rw [hp] at hin
                      have HS : Hid (pkI (inM b) (l.drop j) j = some j) := Lib.hid (by rw [HST.out, hp]; rfl)
                      clear hp
                      go_wp2_with fail
                      go_quiet (fail)
                      have H2 := below_drewN hbel nq
                      generalize wr.drewN nq = w5 at *
                      clear hm1 hm2 H4 x1 c0 hin hbel
                      go_wp2
                      go_roundw
                      case rel => exact ⟨j, by omega, by go_num, by rw [HS.out]; rfl, H2⟩
                      case measure => simp [intOf] <;> omega
                  · have HS : Hid (pkI (inM b) (l.drop j) j = O) := Lib.hid (by rw [HST.out, inM_neg hm0]; rfl)
                    have hd : decide (0 ≤ m) = false := decide_eq_false hm0
                    have hd2 : decide (m ≥ 0) = false := decide_eq_false hm0
                    have hm3 : m < 0 := by omega
                    go_wp2_with fail
                    go_quiet (fail)
                    have H2 := below_drewN hbel nq
                    generalize wr.drewN nq = w5 at *
                    clear H4 x1 c0 hbel
                    go_wp2
                    go_roundw
                    case rel => exact ⟨j, by omega, by go_num, by rw [HS.out], H2⟩
                    case measure => simp [intOf] <;> omega
            · obtain rfl : k = wn := by omega
              rw [HT.out, ← HP.out]
              rw [← HWR.out] at H
              go_wp2
              go_roundw
              case rel => exact ⟨y + 1, by omega, by go_num, rfl, HG, H⟩
              case measure => simp [intOf]; omega
    · obtain rfl : y = r.rows.length := by omega
      have HE : Hid (R = fmtTs r l r.rows.length) := Lib.hid (by
        rw [HR.out]
        unfold fmtTil
        cases hv : tilG r l
        · have h0 : r.rows.length = 0 := by
            rcases Nat.eq_zero_or_pos r.rows.length with h | h
            · exact h
            · have := HY.out (by omega); rw [hv] at this; cases this
          rw [h0]; rfl
        · rfl)
      go_wp2
      go_ret
      exact ⟨by rw [HE.out]; rfl, H.below⟩
end Go.Proofs.YtfmkmjebkmimkaaGreatDoor
