
/-
  How many tilings, at most so many: the program's walks. How many tilings, at most so many: the reference's walk. How many tilings a region has: both walks. How many divisions a region has: both walks.
-/
import Derived.Test.YtfmkmjebkmimkaaGreatDoorFtX
import Derived.Test.YtfmkmjebkmimkaaGreatDoorFtS
import Derived.Test.YtfmkmjebkmimkaaGreatDoorDpX
namespace Go.Proofs.YtfmkmjebkmimkaaGreatDoor
open Go.RowKit

theorem wrap_succ (a : Int) : wrap64 (wrap64 a + 1) = wrap64 (a + 1) := by unfold wrap64; omega
/-- what the visitor of 'countUpTo' keeps -/
structure CntAt (w0 wS : World) (gs Bd N : Nat) (seen : List (List Nat)) (w : World) : Prop where
  bel : Below w0.heap.size w0 w
  size : Bd ≤ w.heap.size
  most : Blk w w0.heap.size 3 #[.int .i64 ((N + 1 : Nat) : Int)]
  cnt : Blk w (w0.heap.size + 1) 3 #[.int .i64 (wrap64 (seen.length : Int))]
  same : SameIn gs Bd wS w
abbrev cntFn (g : Nat) : Array Value := #[.pointer (some ⟨g + 1, 0, none⟩), .pointer (some ⟨g, 0, none⟩)]
def cntGo (N : Nat) (s : List (List Nat)) (_ : List Nat) : Bool := decide (wrap64 ((s.length : Int) + 1) < ((N + 1 : Nat) : Int))
set_option maxRecDepth 100000 in
set_option maxHeartbeats 1600000 in
theorem cntV_c {w0 wS w : World} {gs Bd N : Nat} {seen : List (List Nat)} {l : List Nat} {lv : Value} (hgs : gs = w0.heap.size + 2) (h : CntAt w0 wS gs Bd N seen w) :
    Calls Tryz.prog 237 (#[lv] ++ cntFn w0.heap.size) w fun e w' => e = .returned (.bool (cntGo N seen l)) ∧ CntAt w0 wS gs Bd N (seen ++ [l]) w' ∧ Only (fun b => b = w0.heap.size + 1) w w' := by
  obtain ⟨g, hg⟩ : ∃ g, g = w0.heap.size := ⟨_, rfl⟩
  have hc := h.cnt
  have hm := h.most
  have hb := h.bel
  have hsz := h.size
  have hsm := h.same
  rw [← hg] at hc hm hgs ⊢
  show Calls Tryz.prog 237 #[lv, .pointer (some ⟨g + 1, 0, none⟩), .pointer (some ⟨g, 0, none⟩)] w _
  obtain ⟨V, hV⟩ : ∃ V, V = wrap64 ((seen.length : Int) + 1) := ⟨_, rfl⟩
  obtain ⟨U, hU⟩ : ∃ U, U = wrap64 (seen.length : Int) := ⟨_, rfl⟩
  have hgo : cntGo N seen l = decide (V < ((N + 1 : Nat) : Int)) := by rw [hV]; rfl
  rw [hgo]
  rw [← hU] at hc
  have hUV : IntKind.i64.wrap (U + 1) = V := by rw [hU, hV, IntWalk.i64_left]; exact wrap_succ _
  have c0 := hm.cell 0
  have c1 := hc.cell 0
  have f1 := hc.frozen 0
  simp only [List.getElem?_toArray, List.getElem?_cons_zero] at c0 c1
  obtain ⟨M, hM⟩ : ∃ M : Int, M = ((N + 1 : Nat) : Int) := ⟨_, rfl⟩
  rw [← hM] at c0 ⊢
  have hk : ∀ b, b ≠ g + 1 → (w.setCell ⟨g + 1, 0, none⟩ (.int .i64 V)).heap[b]? = w.heap[b]? := fun b hb => Below.heap_setCell w _ _ b hb
  have d1 : (w.setCell ⟨g + 1, 0, none⟩ (.int .i64 V)).cell? ⟨g + 1, 0, none⟩ = some (.int .i64 V) := (hc.set_ 0 (.int .i64 V)).cell 0
  have d0 : (w.setCell ⟨g + 1, 0, none⟩ (.int .i64 V)).cell? ⟨g, 0, none⟩ = some (.int .i64 M) := (Blk.cell ((hk g (by omega)).trans hm) 0).trans (by rw [hM]; rfl)
  have HO : Hid (CntAt w0 wS gs Bd N (seen ++ [l]) (w.setCell ⟨g + 1, 0, none⟩ (.int .i64 V))) := Lib.hid (by
    refine ⟨hb.setCell (by show w0.heap.size ≤ g + 1; omega) _, by simpa [World.setCell] using hsz, ?_, ?_, hsm.trans (SameIn.setCell (by left; simp; omega) _)⟩
    · rw [← hg]; exact (hk _ (by omega)).trans hm
    · rw [← hg]
      have e : wrap64 (((seen ++ [l]).length : Nat) : Int) = V := by rw [hV, List.length_append]; rfl
      rw [e]
      exact hc.set_ 0 _)
  have HON : Hid (Only (fun b => b = g + 1) w (w.setCell ⟨g + 1, 0, none⟩ (.int .i64 V))) := Lib.hid ⟨rfl, rfl, rfl, by simp [World.setCell], fun b _ hd => Below.heap_setCell w _ _ b (fun e => hd e)⟩
  clear h hc hm hb hsm hgo hg hgs hV hU hM hk
  go_enter Tryz.func237, Tryz.ntmps237
  go_wp2
  go_ret
  exact ⟨rfl, HO.out, HON.out⟩
theorem cntVis {A : List Nat} {vs : List Value} {w0 wS : World} {gs Bd N : Nat} (hgs : gs = w0.heap.size + 2) (hBd : gs < Bd) (hlen : vs.length = 64)
    (hbox : Blk wS gs 209 (schCells vs (.func (.func 237) #[] (cntFn w0.heap.size)))) (hsl : IntSlots wS gs Bd vs (atM A)) (ht : Tab64 w0) :
    Vis A vs gs Bd 237 (cntFn w0.heap.size) (fun b => b = w0.heap.size + 1) (CntAt w0 wS gs Bd N) (cntGo N) where
  enter := fun args w => by kernel_rfl
  dom := fun b hb => by omega
  len := hlen
  box := fun h => (h.same gs (Nat.le_refl _) hBd).trans hbox
  slots := fun h => (hsl.keep h.same).more (Nat.zero_le _) (Nat.le_refl _)
  keep := fun {seen w w'} h hb => ⟨h.bel.trans (hb.mono h.bel.size), Nat.le_trans h.size hb.size, h.most.below hb h.most.lt, h.cnt.below hb h.cnt.lt, h.same.trans (SameIn.of_below hb h.size)⟩
  size := fun h => h.size
  tab := fun h => tab64_on ht h.bel
  call := fun h _ _ => cntV_c hgs h
theorem cnt_go {N : Nat} (hN : N ≤ 1000000) {s : List (List Nat)} (hs : s.length ≤ N) (l : List Nat) : cntGo N s l = decide (s.length < N) := by
  unfold cntGo
  rw [IntWalk.wrap64_in _ ⟨by omega, by omega⟩, Bool.eq_iff_iff, decide_eq_true_iff, decide_eq_true_iff]
  omega
theorem runV_cons {go : List (List Nat) → List Nat → Bool} {seen : List (List Nat)} {t : List Nat} {T : List (List Nat)} : runV go seen (t :: T) = if go seen t = true then runV go (seen ++ [t]) T else (seen ++ [t], false) := rfl
theorem runV_nil {go : List (List Nat) → List Nat → Bool} {seen : List (List Nat)} : runV go seen [] = (seen, true) := rfl
theorem run_cnt {N : Nat} (hN : N ≤ 1000000) (T : List (List Nat)) : ∀ seen : List (List Nat), seen.length ≤ N → runV (cntGo N) seen T = runV (fun s _ => decide (s.length < N)) seen T := by
  induction T with
  | nil => intro seen _; rw [runV_nil, runV_nil]
  | cons t T ih =>
    intro seen h
    rw [runV_cons, runV_cons, cnt_go hN h]
    by_cases hs : seen.length < N
    · rw [decide_eq_true hs, if_pos rfl, if_pos rfl]
      exact ih (seen ++ [t]) (by simp; omega)
    · rw [decide_eq_false hs, if_neg Bool.false_ne_true, if_neg Bool.false_ne_true]
/-- how many tilings, at most so many -/
def cntU (A : List Nat) (free most : Nat) : Nat := min most (til A free).length
set_option maxRecDepth 100000 in
set_option maxHeartbeats 1600000 in
theorem countUpTo_c {v : Value} {A : List Nat} {free N : Nat} (w : World) (h : IntsRd w 0 w.heap.size v (nl A)) (hA : ∀ m ∈ A, m < 2 ^ 36) (hl : A.length ≤ 1000000) (hf : free < 2 ^ 36) (hN : N ≤ 100000) (ht : Tab64 w) :
    Calls Tryz.prog 185 #[v, .int .i64 free, .int .i64 ((N + 1 : Nat) : Int)] w fun e w' => e = .returned (.int .i64 (cntU A free (N + 1) : Nat)) ∧ Below w.heap.size w w' := by
  have hmf : ∀ (fn : Fn) (first cap : Array Value) (w : World), (Instr.makeFunc fn first cap).run Tryz.prog w = .ok (.func fn first cap) w := fun _ _ _ _ => rfl
  obtain ⟨M, hM⟩ : ∃ M : Int, M = ((N + 1 : Nat) : Int) := ⟨_, rfl⟩
  have H0 := ((Sep.start w).box 3 #[.int .i64 M]).box 3 #[.int .i64 0]
  simp only [World.size_alloc] at H0
  have hW : ((w.alloc (.cells #[.int .i64 M] 3)).alloc (.cells #[.int .i64 0] 3)).heap.size = w.heap.size + 2 := by simp
  obtain ⟨Av, cv, rfl, _, _⟩ := id h
  have H1 := Lib.hid H0
  have HRD : Hid (∀ w1, Below w.heap.size w w1 → IntsRd w1 0 w1.heap.size (.slice Av (nl A).length cv) (nl A)) := Lib.hid fun w1 b1 => (h.keep (SameIn.of_below b1 (Nat.le_refl _))).more (Nat.le_refl _) b1.size
  rw [← hM]
  have HM := Lib.hid hM
  clear h H0 hM
  obtain ⟨R, hR⟩ : ∃ R, R = cntU A free (N + 1) := ⟨_, rfl⟩
  rw [← hR]
  have HR := Lib.hid hR
  clear hR
  go_enter Tryz.func185, Tryz.ntmps185
  go_upto_region 2 with fail
  have HH := H1.out
  generalize ((w.alloc (.cells #[.int .i64 M] 3)).alloc (.cells #[.int .i64 0] 3)) = W at *
  have HNEW := Lib.hid (newSearch_c (F := 237) (caps := cntFn w.heap.size) W (HRD.out W HH.below) hA hl)
  have HA := Lib.hid hA
  have HWS := Lib.hid hW
  clear hW hA hl HRD H1
  go_wp2_with fail
  refine (HNEW.out).mono ?_
  rintro e w2 ⟨vs, rfl, hvl, H2⟩
  obtain ⟨gs, hgs⟩ : ∃ gs, gs = W.heap.size := ⟨_, rfl⟩
  rw [← hgs] at H2 HWS ⊢
  have HBX := Lib.hid H2.h0
  have hlt : gs < w2.heap.size := Blk.lt H2.h0
  have HSL : Hid (IntSlots w2 gs w2.heap.size vs (atM A)) := Lib.hid (by rw [hgs]; exact H2.drop.rowsSlots)
  have HV := Lib.hid (cntVis (N := N) HWS.out hlt hvl HBX.out HSL.out ht)
  have hbW := H2.below
  have hI0 : CntAt w w2 gs w2.heap.size N [] w2 := by
    refine ⟨HH.below.trans (hbW.mono HH.size), Nat.le_refl _, ?_, ?_, SameIn.refl _⟩
    · rw [← HM.out]; exact Blk.below HH.h1 hbW (Blk.lt HH.h1)
    · have e : wrap64 ((([] : List (List Nat)).length : Nat) : Int) = 0 := by unfold wrap64; simp
      rw [e]
      exact Blk.below HH.h0 hbW (Blk.lt HH.h0)
  have HFL := Lib.hid (fill_c HV.out HA.out free hf [] w2 [] (.slice none 0 0) hI0 OI.nil (by simpa using bitsN_le 36))
  clear HNEW H2 HBX hlt HSL hvl hbW hI0 HH hgs ht hf
  go_wp2_with fail
  refine (HFL.out).mono ?_
  rintro e w3 ⟨Q, hQ, rfl, hI, ho⟩
  have hQT : Q.1 = (til A free).take (N + 1) := by
    rw [hQ, show tilL [] (til A free) = til A free by unfold tilL; simp, run_cnt (by omega) _ _ (Nat.zero_le _), run_ord _ [] (Nat.zero_le _)]
    simp
  have hRQ : wrap64 (Q.1.length : Int) = (R : Int) := by
    have e : Q.1.length = R := by rw [hQT, List.length_take, HR.out]; rfl
    rw [e]
    have : R ≤ N + 1 := by rw [HR.out]; exact Nat.min_le_left _ _
    exact IntWalk.wrap64_in _ ⟨by omega, by omega⟩
  have c1 : w3.cell? ⟨w.heap.size + 1, 0, none⟩ = some (.int .i64 R) := by rw [← hRQ]; exact hI.cnt.cell 0
  have hbel := hI.bel
  clear hQ hQT hRQ hI ho HFL HV HWS
  go_wp2
  go_ret
  exact ⟨rfl, hbel⟩
end Go.Proofs.YtfmkmjebkmimkaaGreatDoor

namespace Go.Proofs.YtfmkmjebkmimkaaGreatDoor
open Go.RowKit

def cntX (A : List Nat) (free most i : Nat) : Nat := min most ((A.take i).flatMap (tilAt A free)).length
theorem cntX_no {A : List Nat} {free most i m : Nat} (hm : A[i]? = some m) (hf : fitB free m = false) : cntX A free most (i + 1) = cntX A free most i := by
  unfold cntX
  rw [tilAt_take hm, show tilAt A free m = [] by unfold tilAt; rw [hf]; rfl, List.append_nil]
theorem cntX_yes {A : List Nat} {free most i m : Nat} (hm : A[i]? = some m) (hf : fitB free m = true) (hn : cntX A free most i < most) :
    cntX A free most (i + 1) = cntX A free most i + cntU A (free - m) (most - cntX A free most i) := by
  unfold cntX cntU at *
  rw [tilAt_take hm, List.length_append, show tilAt A free m = (til A (free - m)).map (m :: ·) by unfold tilAt; rw [if_pos hf], List.length_map]
  omega
theorem cntX_end {A : List Nat} {free most : Nat} (h0 : free ≠ 0) : cntX A free most A.length = cntU A free most := by
  unfold cntX cntU
  rw [til_pos h0, List.take_length]
theorem cntX_full {A : List Nat} {free most i : Nat} (h0 : free ≠ 0) (h : most ≤ cntX A free most i) : cntX A free most i = cntU A free most := by
  have h1 : (til A free).length = ((A.take i).flatMap (tilAt A free)).length + ((A.drop i).flatMap (tilAt A free)).length := by
    rw [til_pos h0, ← List.length_append, ← List.flatMap_append, List.take_append_drop]
  unfold cntX cntU at *
  omega
theorem cntX_le {A : List Nat} {free most i : Nat} : cntX A free most i ≤ most := Nat.min_le_left _ _
def CntC (v : Value) (A : List Nat) (free : Nat) : Prop := ∀ (most : Nat) (w : World), IntsRd w 0 w.heap.size v (nl A) → 1 ≤ most → most ≤ 1000000 →
  Calls Tryz.prog 186 #[v, .int .i64 free, .int .i64 most] w fun e w' => e = .returned (.int .i64 (cntU A free most : Nat)) ∧ Below w.heap.size w w'
set_option maxRecDepth 100000 in
set_option maxHeartbeats 1600000 in
theorem cnt_zero (v : Value) (A : List Nat) : CntC v A 0 := by
  intro most w h h1 h2
  have HM : Hid (cntU A 0 most = 1) := Lib.hid (by unfold cntU; rw [til_zero, List.length_singleton]; omega)
  obtain ⟨R, hR⟩ : ∃ R, R = cntU A 0 most := ⟨_, rfl⟩
  rw [← hR]
  obtain rfl : R = 1 := by rw [hR, HM.out]
  obtain ⟨Av, cv, rfl, _, _⟩ := h
  clear h1 h2 hR
  go_enter Tryz.func186, Tryz.ntmps186
  go_wp2
  go_ret
  exact ⟨rfl, Below.refl _ _⟩
set_option maxRecDepth 100000 in
set_option maxHeartbeats 3200000 in
theorem cnt_step {v : Value} {A : List Nat} (hA : ∀ m ∈ A, m < 2 ^ 36) {free : Nat} (h0 : free ≠ 0) (hf : free < 2 ^ 36) (ih : ∀ k, k < free → CntC v A k) : CntC v A free := by
  intro most w h hm1 hm2
  have HIH := Lib.hid ih
  have HA := Lib.hid hA
  have HF := Lib.hid hf
  have H00 := Lib.hid h0
  have HRD : Hid (∀ w1, Below w.heap.size w w1 → IntsRd w1 0 w1.heap.size v (nl A)) := Lib.hid fun w1 b1 => (h.keep (SameIn.of_below b1 (Nat.le_refl _))).more (Nat.le_refl _) b1.size
  obtain ⟨low, hlow⟩ : ∃ low, low = lowB free := ⟨_, rfl⟩
  have HLOW := Lib.hid hlow
  have hl64 : low < 64 := by rw [hlow]; exact lowB_lt hf
  obtain ⟨Av, cv, rfl, hmv, hrv⟩ := h
  obtain ⟨L, hL⟩ : ∃ L, L = A.length := ⟨_, rfl⟩
  have e0 : (nl A).length = L := by rw [hL]; simp [nl]
  rw [e0] at hmv hrv
  unfold maxLen at hmv
  have HRV := Lib.hid hrv
  have HL := Lib.hid hL
  have HLW := Lib.hid (spec_low_c w h0 hf)
  rw [← hlow] at HLW
  have HE0 := Lib.hid e0
  rw [e0] at ⊢
  have hz : ((free : Int) == 0) = false := by simp; omega
  obtain ⟨R, hR⟩ : ∃ R, R = cntU A free most := ⟨_, rfl⟩
  rw [← hR]
  have HR := Lib.hid hR
  clear hA hf h0 ih hlow hrv hL e0 hR
  go_enter Tryz.func186, Tryz.ntmps186
  go_wp2_with fail
  refine (HLW.out).mono ?_
  rintro e w1 ⟨rfl, rfl⟩
  clear HLW
  go_wp2
  go_loopw [7, 9] (fun nv iv wx => ∃ (i n : Nat), i ≤ L ∧ iv = .int .i64 i ∧ nv = .int .i64 n ∧ Hid (n = cntX A free most i) ∧ Below w.heap.size w wx) (fun _ iv _ => L - (intOf iv).toNat)
  case atStart => exact ⟨0, 0, Nat.zero_le _, rfl, rfl, Lib.hid (by simp [cntX]), Below.refl _ _⟩
  case round =>
    obtain ⟨i, n, hiL, rfl, rfl, HN, H⟩ := hrel
    have hnm : n ≤ most := by rw [HN.out]; exact cntX_le
    by_cases hlt : i < L
    · have hlti : (i : Int) < (L : Int) := by omega
      by_cases hnl : n < most
      · have hnli : (n : Int) < (most : Int) := by omega
        obtain ⟨m, hm⟩ : ∃ m, A[i]? = some m := ⟨A[i]'(by rw [← HL.out]; exact hlt), List.getElem?_eq_getElem _⟩
        obtain ⟨b, off, hA1, _, hb, hc⟩ := HRV.out.2 (by omega)
        subst hA1
        have x1 := (H.cell (p := ⟨b, off + i, none⟩) hb).trans (hc i (.int .i64 m) (by simp [ic, nl, hm]))
        have hm36 := HA.out m (List.mem_of_getElem? hm)
        have HM36 := Lib.hid hm36
        have HMA := Lib.hid hm
        have hbit := bit_test (m := m) (x := low) (by omega)
        have hand := i64_and_nat m free (by omega) (by have := HF.out; omega)
        have HX1 : Hid (w.cell? ⟨b, off + i, none⟩ = some (.int .i64 m)) := Lib.hid (hc i (.int .i64 m) (by simp [ic, nl, hm]))
        clear hc hm
        cases hb1 : m.testBit low
        · have HS : Hid (cntX A free most (i + 1) = cntX A free most i) := Lib.hid (cntX_no HMA.out (by unfold fitB; rw [← HLOW.out, hb1]; rfl))
          rw [hb1] at hbit
          clear hb1 hand hm36
          go_wp2_with fail
          go_quiet (fail)
          have H2 := below_drewN H nq
          generalize wr.drewN nq = w2 at *
          go_wp2
          go_roundw
          case rel => exact ⟨i + 1, n, by omega, by go_num, rfl, by rw [HS.out]; exact HN, H2⟩
          case measure => simp [intOf]; omega
        · rw [hb1] at hbit
          cases hsub : (m &&& free == m)
          · have hne : (bits .and .i64 (m : Int) (free : Int) == (m : Int)) = false := by
              rw [hand]
              simp only [beq_eq_false_iff_ne, ne_eq] at hsub
              simp only [beq_eq_false_iff_ne, ne_eq]
              omega
            have HS : Hid (cntX A free most (i + 1) = cntX A free most i) := Lib.hid (cntX_no HMA.out (by unfold fitB; rw [hsub, Bool.and_false]))
            clear hb1 hand hm36 hsub
            go_wp2_with fail
            go_quiet (fail)
            have H2 := below_drewN H nq
            generalize wr.drewN nq = w2 at *
            go_wp2
            go_roundw
            case rel => exact ⟨i + 1, n, by omega, by go_num, rfl, by rw [HS.out]; exact HN, H2⟩
            case measure => simp [intOf]; omega
          · have hne : (bits .and .i64 (m : Int) (free : Int) == (m : Int)) = true := by
              rw [hand]
              simp only [beq_iff_eq] at hsub
              rw [hsub]
              simp
            have hfit : fitB free m = true := by unfold fitB; rw [← HLOW.out, hb1, hsub]; rfl
            obtain ⟨f2, hf2⟩ : ∃ f2, f2 = free - m := ⟨_, rfl⟩
            obtain ⟨k2, hk2⟩ : ∃ k2, k2 = most - n := ⟨_, rfl⟩
            have hmf := fit_le hfit
            have hff := HF.out
            have e1 : (free : Int) - (m : Int) = (f2 : Int) := by omega
            have e2 : IntKind.i64.wrap ((free : Int) - (m : Int)) = (f2 : Int) := by rw [e1]; exact IntWalk.i64_in _ (by omega)
            have e3 : (most : Int) - (n : Int) = (k2 : Int) := by omega
            have e4 : IntKind.i64.wrap ((most : Int) - (n : Int)) = (k2 : Int) := by rw [e3]; exact IntWalk.i64_in _ (by omega)
            have hk21 : 1 ≤ k2 := by omega
            have hk22 : k2 ≤ 1000000 := by omega
            obtain ⟨c2, hc2⟩ : ∃ c2, c2 = cntU A f2 k2 := ⟨_, rfl⟩
            have hc2k : c2 ≤ k2 := by rw [hc2]; exact Nat.min_le_left _ _
            have HS : Hid (cntX A free most (i + 1) = n + c2) := Lib.hid (by
              have := cntX_yes HMA.out hfit (by rw [← HN.out]; exact hnl)
              rw [← HN.out, ← hf2, ← hk2, ← hc2] at this
              exact this)
            obtain ⟨n2, hn2⟩ : ∃ n2, n2 = n + c2 := ⟨_, rfl⟩
            have e5 : IntKind.i64.wrap ((n : Int) + (c2 : Int)) = (n2 : Int) := by
              have : (n : Int) + (c2 : Int) = (n2 : Int) := by omega
              rw [this]; exact IntWalk.i64_in _ (by omega)
            rw [← hn2] at HS
            have HIH2 := Lib.hid (HIH.out f2 (by rw [hf2]; exact fit_lt hfit))
            have HC2 := Lib.hid hc2
            clear hb1 hand hm36 hsub hfit hf2 hk2 hmf hff hc2 hn2
            go_wp2_with fail
            go_quiet (fail)
            have H2 := below_drewN H nq
            generalize wr.drewN nq = w2 at *
            have y1 : w2.cell? ⟨b, off + i, none⟩ = some (.int .i64 m) := (H2.cell (p := ⟨b, off + i, none⟩) hb).trans HX1.out
            have HCL := Lib.hid (HIH2.out k2 w2 (HRD.out w2 H2) hk21 hk22)
            rw [HE0.out, ← HC2.out] at HCL
            clear x1 H e1 e3
            go_wp2_with fail
            refine (HCL.out).mono ?_
            rintro e w3 ⟨rfl, b3⟩
            have H4 := H2.trans (b3.mono H2.size)
            clear b3 H2 HCL y1 e2 e4
            go_wp2
            go_roundw
            case rel => exact ⟨i + 1, n2, by omega, by go_num, rfl, Lib.hid HS.out.symm, H4⟩
            case measure => simp [intOf]; omega
      · have hnli : ¬ (n : Int) < (most : Int) := by omega
        obtain rfl : R = n := by rw [HR.out, HN.out]; exact (cntX_full H00.out (by rw [← HN.out]; omega)).symm
        go_wp2
        go_ret
        exact ⟨rfl, H⟩
    · obtain rfl : i = L := by omega
      obtain rfl : R = n := by rw [HR.out, HN.out, HL.out]; exact (cntX_end H00.out).symm
      go_wp2
      go_ret
      exact ⟨rfl, H⟩
theorem count8_c {v : Value} {A : List Nat} (hA : ∀ m ∈ A, m < 2 ^ 36) : ∀ free, free < 2 ^ 36 → CntC v A free := by
  intro free
  induction free using Nat.strongRecOn with
  | _ free ih =>
    intro hf
    by_cases h0 : free = 0
    · subst h0
      exact cnt_zero v A
    · exact cnt_step hA h0 hf fun k hk => ih k hk (by omega)
end Go.Proofs.YtfmkmjebkmimkaaGreatDoor

namespace Go.Proofs.YtfmkmjebkmimkaaGreatDoor
open Go.RowKit

/-- how many tilings, at most 2000; -1 if the problem is not right -/
def cntR (r : Reg) (ps : List (List Cell)) : Int := if (r.valid && arePcs ps) = true then (cntU (allN r ps) r.mask 2000 : Nat) else -1
theorem cntR_no {r : Reg} {ps : List (List Cell)} (h : (r.valid && arePcs ps) = false) : cntR r ps = -1 := by unfold cntR; rw [h]; rfl
theorem cntR_yes {r : Reg} {ps : List (List Cell)} (h : (r.valid && arePcs ps) = true) : cntR r ps = (cntU (allN r ps) r.mask 2000 : Nat) := by unfold cntR; rw [if_pos h]
set_option maxRecDepth 100000 in
set_option maxHeartbeats 1600000 in
theorem impl_count_c {v v2 : Value} {r : Reg} {ps : List (List Cell)} (w : World) (h : RegRd w 0 w.heap.size v r) (h2 : CellSSRd w 0 w.heap.size v2 ps) (hn : ps.length ≤ 1048576) (hl : ∀ s ∈ ps, s.length ≤ 1048576) (ht : Tab64 w) :
    Calls Tryz.prog 116 #[v, v2] w fun e w' => e = .returned (.int .i64 (cntR r ps)) ∧ Below w.heap.size w w' := by
  have HRD : Hid (∀ w1, Below w.heap.size w w1 → RegRd w1 0 w1.heap.size v r) := Lib.hid fun w1 b1 => (h.keep (SameIn.of_below b1 (Nat.le_refl _))).more (Nat.le_refl _) b1.size
  have HR2 : Hid (∀ w1, Below w.heap.size w w1 → CellSSRd w1 0 w1.heap.size v2 ps) := Lib.hid fun w1 b1 => (h2.keep (SameIn.of_below b1 (Nat.le_refl _))).more (Nat.le_refl _) b1.size
  have HTB : Hid (∀ w1, Below w.heap.size w w1 → Tab64 w1) := Lib.hid fun w1 b1 => tab64_on ht b1
  have HPR : Hid (∀ w1, Below w.heap.size w w1 → Calls Tryz.prog 96 #[v, v2] w1 fun e w' => e = .returned (.bool (r.valid && arePcs ps)) ∧ Below w1.heap.size w1 w') := Lib.hid fun w1 b1 =>
    impl_prob_c w1 (HRD.out w1 b1) (HR2.out w1 b1) hn hl
  obtain ⟨R, hR⟩ : ∃ b, b = cntR r ps := ⟨_, rfl⟩
  rw [← hR]
  have HR := Lib.hid hR
  obtain ⟨sr, rfl, hsr⟩ := h
  obtain ⟨A, c, rfl, _, _⟩ := hsr
  obtain ⟨vs, ⟨A2, c2, rfl, _, _⟩, _⟩ := h2
  have H0 := (Sep.start w).box 29 #[.int .i64 r.w, .slice A r.rows.length c]
  obtain ⟨bR, hbR⟩ : ∃ bR, bR = w.heap.size := ⟨_, rfl⟩
  rw [← hbR] at H0
  clear hR hn hl ht
  go_enter Tryz.func116, Tryz.ntmps116
  go_upto_region 1 with fail
  rw [← hbR]
  generalize (w.alloc (.cells #[.int .i64 r.w, .slice A r.rows.length c] 29)) = W at *
  clear hbR
  have c0 : W.cell? ⟨bR, 0, none⟩ = some (.int .i64 r.w) := H0.h0.cell 0
  have c1 : W.cell? ⟨bR, 1, none⟩ = some (.slice A r.rows.length c) := H0.h0.cell 1
  have HP := Lib.hid (HPR.out W H0.below)
  go_wp2_with fail
  refine (HP.out).mono ?_
  rintro e w1 ⟨rfl, b1⟩
  have H1 := (H0.step b1).drew
  have hB1 := (H0.step b1).below
  clear H0 b1 HP c0 c1 HPR
  cases hp : (r.valid && arePcs ps)
  · obtain rfl : R = -1 := by rw [HR.out, cntR_no hp]
    clear hp
    go_wp2
    go_ret
    exact ⟨rfl, hB1⟩
  have hR2 := cntR_yes hp
  rw [← HR.out] at hR2
  simp only [Bool.and_eq_true] at hp
  have HV := Lib.hid (Reg.valid_iff.1 hp.1)
  have HAP := Lib.hid hp.2
  clear hp
  have HALL : Hid (∀ w1, Below w.heap.size w w1 → Calls Tryz.prog 98 #[.agg #[.int .i64 r.w, .slice A r.rows.length c], .slice A2 ps.length c2] w1 fun e w' => ∃ v', e = .returned v' ∧ IntsIn w' w1.heap.size w'.heap.size v' (allP r ps) ∧ Below w1.heap.size w1 w') := Lib.hid fun w1 b1 =>
    impl_all_c w1 (HRD.out w1 b1) (HR2.out w1 b1) HV.out HAP.out
  have HMSK : Hid (∀ w1, Below w.heap.size w w1 → Calls Tryz.prog 99 #[.agg #[.int .i64 r.w, .slice A r.rows.length c]] w1 fun e w' => e = .returned (.int .i64 (r.mask : Int)) ∧ Below w1.heap.size w1 w') := Lib.hid fun w1 b1 =>
    impl_mask_c w1 (HRD.out w1 b1) HV.out
  have HORD : Hid (∀ w1 v, Below w.heap.size w w1 → IntsRd w1 0 w1.heap.size v (allP r ps) → Calls Tryz.prog 185 #[v, .int .i64 (r.mask : Int), .int .i64 2000] w1 fun e w' => e = .returned (.int .i64 R) ∧ Below w1.heap.size w1 w') := Lib.hid fun w1 v b1 hv => by
    rw [← nl_allN HV.out] at hv
    rw [hR2]
    have := countUpTo_c (free := r.mask) (N := 1999) w1 hv (allN_lt HV.out) (by have := allN_len HV.out (ps := ps); have := arePcs_on HAP.out; omega) (by have := Reg.mask_lt HV.out; omega) (by omega) (HTB.out w1 b1)
    exact this
  obtain ⟨M, hM⟩ : ∃ M, M = r.mask := ⟨_, rfl⟩
  obtain ⟨Q, hQ⟩ : ∃ Q, Q = allP r ps := ⟨_, rfl⟩
  rw [← hM] at HMSK HORD
  rw [← hQ] at HALL HORD
  have c0 : w1.drew.cell? ⟨bR, 0, none⟩ = some (.int .i64 r.w) := H1.h0.cell 0
  have c1 : w1.drew.cell? ⟨bR, 1, none⟩ = some (.slice A r.rows.length c) := H1.h0.cell 1
  clear hR2 hM hQ hB1 HR
  go_wp2_with fail
  go_cut [4] (fun lv wx => lv = .int .i64 R ∧ Below w.heap.size w wx)
  case first =>
    go_region_with (first
      | (go_at_call 98; (with_reducible refine (HALL.out _ H1.below).mono ?_); rintro e w4 ⟨av, rfl, o4, b4⟩; replace H1 := H1.step b4; have oa := (IntsIn.rd o4).more (Nat.zero_le _) (Nat.le_refl _); clear o4; obtain ⟨Aa, ca, rfl, _, _⟩ := id oa; clear c0 c1; have c0 : w4.cell? ⟨bR, 0, none⟩ = some (.int .i64 r.w) := H1.h0.cell 0; have c1 : w4.cell? ⟨bR, 1, none⟩ = some (.slice A r.rows.length c) := H1.h0.cell 1)
      | (go_at_call 99; (with_reducible refine (HMSK.out _ H1.below).mono ?_); rintro e w5 ⟨rfl, b5⟩; replace H1 := H1.step b5; first | replace oa := ints_keep oa b5 | skip; clear c0 c1; have c0 : w5.cell? ⟨bR, 0, none⟩ = some (.int .i64 r.w) := H1.h0.cell 0; have c1 : w5.cell? ⟨bR, 1, none⟩ = some (.slice A r.rows.length c) := H1.h0.cell 1)
      | (go_at_call 185; (with_reducible refine (HORD.out _ _ H1.below oa).mono ?_); rintro e w6 ⟨rfl, b6⟩))
    all_goals (go_wp2_with fail; go_meet; exact ⟨rfl, H1.below.trans (b6.mono H1.below.size)⟩)
  case rest =>
  obtain ⟨rfl, hb⟩ := hcut
  generalize hwc : wc = w7 at *
  clear hwc H1 c0 c1 HALL HMSK HORD
  go_wp2
  go_ret
  exact ⟨rfl, hb⟩
set_option maxRecDepth 100000 in
set_option maxHeartbeats 1600000 in
theorem spec_count_c {v v2 : Value} {r : Reg} {ps : List (List Cell)} (w : World) (h : RegRd w 0 w.heap.size v r) (h2 : CellSSRd w 0 w.heap.size v2 ps) (hn : ps.length ≤ 1048576) (hl : ∀ s ∈ ps, s.length ≤ 1048576) :
    Calls Tryz.prog 117 #[v, v2] w fun e w' => e = .returned (.int .i64 (cntR r ps)) ∧ Below w.heap.size w w' := by
  have HRD : Hid (∀ w1, Below w.heap.size w w1 → RegRd w1 0 w1.heap.size v r) := Lib.hid fun w1 b1 => (h.keep (SameIn.of_below b1 (Nat.le_refl _))).more (Nat.le_refl _) b1.size
  have HR2 : Hid (∀ w1, Below w.heap.size w w1 → CellSSRd w1 0 w1.heap.size v2 ps) := Lib.hid fun w1 b1 => (h2.keep (SameIn.of_below b1 (Nat.le_refl _))).more (Nat.le_refl _) b1.size
  have HAR : Hid (∀ w1, Below w.heap.size w w1 → Calls Tryz.prog 142 #[v2] w1 fun e w' => e = .returned (.bool (arePcs ps)) ∧ Below w1.heap.size w1 w') := Lib.hid fun w1 b1 =>
    spec_arePcs_c w1 (HR2.out w1 b1) hn hl
  obtain ⟨R, hR⟩ : ∃ b, b = cntR r ps := ⟨_, rfl⟩
  rw [← hR]
  have HR := Lib.hid hR
  obtain ⟨sr, rfl, hsr⟩ := h
  obtain ⟨A, c, rfl, _, _⟩ := hsr
  obtain ⟨vs, ⟨A2, c2, rfl, _, _⟩, _⟩ := h2
  have H0 := (Sep.start w).box 29 #[.int .i64 r.w, .slice A r.rows.length c]
  obtain ⟨bR, hbR⟩ : ∃ bR, bR = w.heap.size := ⟨_, rfl⟩
  rw [← hbR] at H0
  clear hR hn hl
  go_enter Tryz.func117, Tryz.ntmps117
  go_upto_region 1 with fail
  rw [← hbR]
  generalize (w.alloc (.cells #[.int .i64 r.w, .slice A r.rows.length c] 29)) = W at *
  clear hbR
  have c0 : W.cell? ⟨bR, 0, none⟩ = some (.int .i64 r.w) := H0.h0.cell 0
  have c1 : W.cell? ⟨bR, 1, none⟩ = some (.slice A r.rows.length c) := H0.h0.cell 1
  have HP := Lib.hid (spec_IsRegion_c W (HRD.out W H0.below))
  go_wp2_with fail
  refine (HP.out).mono ?_
  rintro e w1 ⟨rfl, b1⟩
  have H1 := H0.step b1
  clear H0 b1 HP c0 c1
  cases hv : r.valid
  · obtain rfl : R = -1 := by rw [HR.out, cntR_no (by rw [hv]; rfl)]
    have hB1 := H1.below
    clear hv
    go_wp2
    go_ret
    exact ⟨rfl, hB1⟩
  have HVV := Lib.hid hv
  have HP2 := Lib.hid (HAR.out w1 H1.below)
  clear hv HAR
  go_wp2_with fail
  refine (HP2.out).mono ?_
  rintro e w2 ⟨rfl, b2⟩
  replace H1 := H1.step b2
  clear HP2 b2
  cases hp : arePcs ps
  · obtain rfl : R = -1 := by rw [HR.out, cntR_no (by rw [hp, Bool.and_false])]
    have hB1 := H1.below
    clear hp
    go_wp2
    go_ret
    exact ⟨rfl, hB1⟩
  have hR2 := cntR_yes (r := r) (ps := ps) (by rw [hp, HVV.out]; rfl)
  rw [← HR.out] at hR2
  have HV := Lib.hid (Reg.valid_iff.1 HVV.out)
  have HAP := Lib.hid hp
  clear hp
  replace H1 := H1.drew
  have hB1 := H1.below
  have HALL : Hid (∀ w1, Below w.heap.size w w1 → Calls Tryz.prog 128 #[.agg #[.int .i64 r.w, .slice A r.rows.length c], .slice A2 ps.length c2] w1 fun e w' => ∃ v', e = .returned v' ∧ IntsIn w' w1.heap.size w'.heap.size v' (allP r ps) ∧ Below w1.heap.size w1 w') := Lib.hid fun w1 b1 =>
    spec_all_c w1 (HRD.out w1 b1) (HR2.out w1 b1) HV.out HAP.out
  have HMSK : Hid (∀ w1, Below w.heap.size w w1 → Calls Tryz.prog 121 #[.agg #[.int .i64 r.w, .slice A r.rows.length c]] w1 fun e w' => e = .returned (.int .i64 (r.mask : Int)) ∧ Below w1.heap.size w1 w') := Lib.hid fun w1 b1 =>
    spec_mask_c w1 (HRD.out w1 b1) HV.out
  have HORD : Hid (∀ w1 v, Below w.heap.size w w1 → IntsRd w1 0 w1.heap.size v (allP r ps) → Calls Tryz.prog 186 #[v, .int .i64 (r.mask : Int), .int .i64 2000] w1 fun e w' => e = .returned (.int .i64 R) ∧ Below w1.heap.size w1 w') := Lib.hid fun w1 v b1 hv => by
    rw [← nl_allN HV.out] at hv
    rw [hR2]
    exact count8_c (v := v) (allN_lt HV.out (ps := ps)) r.mask (by have := Reg.mask_lt HV.out; omega) 2000 w1 hv (by omega) (by omega)
  obtain ⟨M, hM⟩ : ∃ M, M = r.mask := ⟨_, rfl⟩
  obtain ⟨Q, hQ⟩ : ∃ Q, Q = allP r ps := ⟨_, rfl⟩
  rw [← hM] at HMSK HORD
  rw [← hQ] at HALL HORD
  have c0 : w2.drew.cell? ⟨bR, 0, none⟩ = some (.int .i64 r.w) := H1.h0.cell 0
  have c1 : w2.drew.cell? ⟨bR, 1, none⟩ = some (.slice A r.rows.length c) := H1.h0.cell 1
  clear hR2 hM hQ hB1 HR
  go_wp2_with fail
  go_cut [4] (fun lv wx => lv = .int .i64 R ∧ Below w.heap.size w wx)
  case first =>
    go_region_with (first
      | (go_at_call 128; (with_reducible refine (HALL.out _ H1.below).mono ?_); rintro e w4 ⟨av, rfl, o4, b4⟩; replace H1 := H1.step b4; have oa := (IntsIn.rd o4).more (Nat.zero_le _) (Nat.le_refl _); clear o4; obtain ⟨Aa, ca, rfl, _, _⟩ := id oa; clear c0 c1; have c0 : w4.cell? ⟨bR, 0, none⟩ = some (.int .i64 r.w) := H1.h0.cell 0; have c1 : w4.cell? ⟨bR, 1, none⟩ = some (.slice A r.rows.length c) := H1.h0.cell 1)
      | (go_at_call 121; (with_reducible refine (HMSK.out _ H1.below).mono ?_); rintro e w5 ⟨rfl, b5⟩; replace H1 := H1.step b5; first | replace oa := ints_keep oa b5 | skip; clear c0 c1; have c0 : w5.cell? ⟨bR, 0, none⟩ = some (.int .i64 r.w) := H1.h0.cell 0; have c1 : w5.cell? ⟨bR, 1, none⟩ = some (.slice A r.rows.length c) := H1.h0.cell 1)
      | (go_at_call 186; (with_reducible refine (HORD.out _ _ H1.below oa).mono ?_); rintro e w6 ⟨rfl, b6⟩))
    all_goals (go_wp2_with fail; go_meet; exact ⟨rfl, H1.below.trans (b6.mono H1.below.size)⟩)
  case rest =>
  obtain ⟨rfl, hb⟩ := hcut
  generalize hwc : wc = w7 at *
  clear hwc H1 c0 c1 HALL HMSK HORD
  go_wp2
  go_ret
  exact ⟨rfl, hb⟩
end Go.Proofs.YtfmkmjebkmimkaaGreatDoor

namespace Go.Proofs.YtfmkmjebkmimkaaGreatDoor
open Go.RowKit

def cdTo (r : Reg) (L : List (List Cell)) : Int := L.foldl (fun n s => wrap64 (n + cntR r [s])) 0
theorem cdTo_snoc {r : Reg} {L : List (List Cell)} {s : List Cell} : cdTo r (L ++ [s]) = wrap64 (cdTo r L + cntR r [s]) := by simp [cdTo]
def cdOk (r : Reg) (k : Int) : Bool := decide (1 ≤ areaR r) && inR k 1 12
def cdR (r : Reg) (k : Int) : Int := if cdOk r k = true then cdTo r (divP r k) else -1
theorem cdR_no {r : Reg} {k : Int} (h : cdOk r k = false) : cdR r k = -1 := by unfold cdR; rw [h]; rfl
theorem cdR_yes {r : Reg} {k : Int} (h : cdOk r k = true) : cdR r k = cdTo r (divP r k) := by unfold cdR; rw [if_pos h]
set_option maxRecDepth 100000 in
set_option maxHeartbeats 3200000 in
theorem impl_cd_c {v : Value} {r : Reg} (w : World) (h : RegRd w 0 w.heap.size v r) (k : Int) (hn : r.rows.length ≤ 1048576) (ht : Tab64 w) :
    Calls Tryz.prog 42 #[v, .int .i64 k] w fun e w' => e = .returned (.int .i64 (cdR r k)) ∧ Below w.heap.size w w' := by
  have HRD : Hid (∀ w1, Below w.heap.size w w1 → RegRd w1 0 w1.heap.size v r) := Lib.hid fun w1 b1 => (h.keep (SameIn.of_below b1 (Nat.le_refl _))).more (Nat.le_refl _) b1.size
  have HCT : Hid (∀ w1 g x s, Below w.heap.size w w1 → s.length ≤ 1048576 → CellsRd w1 0 w1.heap.size x s → Blk w1 g 49 #[x] → Calls Tryz.prog 116 #[v, .slice (some ⟨g, 0, none⟩) 1 1] w1 fun e w' => e = .returned (.int .i64 (cntR r [s])) ∧ Below w1.heap.size w1 w') := Lib.hid fun w1 g x s b1 hs hx hbk =>
    impl_count_c (ps := [s]) w1 (HRD.out w1 b1) (one_ssR hbk hx) (by show 1 ≤ 1048576; omega) (fun t ht => by rw [List.mem_singleton] at ht; rw [ht]; exact hs) (tab64_on ht b1)
  have HAR : Hid (∀ w1, Below w.heap.size w w1 → Calls Tryz.prog 105 #[v] w1 fun e w' => e = .returned (.int .i64 (areaR r)) ∧ Below w1.heap.size w1 w') := Lib.hid fun w1 b1 => impl_area_c w1 (HRD.out w1 b1) hn
  have hbt : Hid (∀ w1, Calls Tryz.prog 106 #[.int .i64 k, .int .i64 1, .int .i64 12] w1 fun e w' => e = .returned (.bool (inR k 1 12)) ∧ w1 = w') := Lib.hid fun w1 => between_r _ _ _ _
  have HDP : Hid (∀ w1, Below w.heap.size w w1 → Calls Tryz.prog 38 #[v, .int .i64 k] w1 fun e w' => ∃ v' P, e = .returned v' ∧ P.map Prod.snd = divP r k ∧ Sep w1 w' [Res.row v' 49 1 P.length (P.map Prod.fst), Res.shps P]) := Lib.hid fun w1 b1 => impl_divP_c k w1 (HRD.out w1 b1) hn (tab64_on ht b1)
  obtain ⟨N, hN⟩ : ∃ N, N = areaR r := ⟨_, rfl⟩
  obtain ⟨R, hR⟩ : ∃ R, R = cdR r k := ⟨_, rfl⟩
  rw [← hR]
  have HR := Lib.hid hR
  have HOK : Hid (cdOk r k = (decide (1 ≤ N) && inR k 1 12)) := Lib.hid (by rw [hN]; rfl)
  rw [← hN] at HAR
  obtain ⟨s, rfl, hs⟩ := h
  obtain ⟨A, c, rfl, _, _⟩ := hs
  have H0 := (Sep.start w).box 29 #[.int .i64 r.w, .slice A r.rows.length c]
  have HC1 := Lib.hid (HAR.out _ H0.below)
  clear hN hR ht hn
  go_enter Tryz.func42, Tryz.ntmps42
  go_wp2_with fail
  refine (HC1.out).mono ?_
  rintro e w1 ⟨rfl, b1⟩
  have H1 := H0.step b1
  clear H0 b1 HC1 HAR
  by_cases hN1 : N < 1
  · obtain rfl : R = -1 := by rw [HR.out, cdR_no (by rw [HOK.out, decide_eq_false (by omega)]; rfl)]
    have hB := H1.below
    clear H1
    go_wp2
    go_ret
    exact ⟨rfl, hB⟩
  cases hin : inR k 1 12
  · obtain rfl : R = -1 := by rw [HR.out, cdR_no (by rw [HOK.out, hin, Bool.and_false])]
    rw [hin] at hbt
    have hB := H1.below
    clear H1 hin
    go_wp2_with fail
    refine (hbt.out _).mono ?_
    rintro e w3 ⟨rfl, rfl⟩
    go_wp2
    go_ret
    exact ⟨rfl, hB⟩
  rw [hin] at hbt
  have HRR : Hid (R = cdTo r (divP r k)) := Lib.hid (by rw [HR.out, cdR_yes (by rw [HOK.out, hin, decide_eq_true (by omega)]; rfl)])
  have c0 : w1.cell? ⟨w.heap.size, 0, none⟩ = some (.int .i64 r.w) := H1.h0.cell 0
  have c1 : w1.cell? ⟨w.heap.size, 1, none⟩ = some (.slice A r.rows.length c) := H1.h0.cell 1
  have HC2 := Lib.hid (HDP.out w1 H1.below)
  clear hin HR HOK
  go_wp2_with fail
  refine (hbt.out _).mono ?_
  rintro e w2 ⟨rfl, rfl⟩
  go_wp2_with fail
  refine (HC2.out).mono ?_
  rintro e w2 ⟨vf, P, rfl, hP, HF⟩
  have H2 := Sep.join (K := [Res.row vf 49 1 P.length (P.map Prod.fst), Res.shps P]) HF H1
  simp only [List.cons_append, List.nil_append] at H2
  have HP := Lib.hid hP
  have HRW : Hid (∀ p ∈ P, p.2.length ≤ 5) := Lib.hid fun p hp => (divP_row (r := r) (k := k) (by rw [← hP]; exact List.mem_map.2 ⟨p, hp, rfl⟩)).2
  obtain ⟨m, hm⟩ : ∃ m, m = P.length := ⟨_, rfl⟩
  rw [← hm] at H2
  obtain ⟨Af, cf, hv, _, hcm, _⟩ := Res.row_at H2.h0
  have hmx : m ≤ 160000 := by have := divP_len r k; rw [← hP, List.length_map] at this; rw [hm]; exact this
  subst hv
  have HM := Lib.hid hm
  clear hP H1 HF HC2 hm hbt HDP c0 c1
  go_wp2
  go_loopw [5, 20] (fun nv iv wx => ∃ (i : Nat) (n : Int), i ≤ m ∧ iv = .int .i64 i ∧ nv = .int .i64 n ∧ Hid (n = cdTo r ((P.take i).map Prod.snd)) ∧ Sep w wx [Res.row (.slice Af m cf) 49 1 m (P.map Prod.fst), Res.shps P, Res.box w.heap.size 29 #[.int .i64 r.w, .slice A r.rows.length c]]) (fun _ iv _ => m - (intOf iv).toNat)
  case atStart => exact ⟨0, 0, Nat.zero_le _, rfl, rfl, Lib.hid rfl, H2⟩
  case round =>
    clear H2
    obtain ⟨i, n, him, rfl, rfl, HNN, H⟩ := hrel
    by_cases hlt : i < m
    · obtain ⟨p, hp⟩ : ∃ p, P[i]? = some p := ⟨P[i]'(by rw [← HM.out]; exact hlt), List.getElem?_eq_getElem _⟩
      obtain ⟨g, o, rfl⟩ : ∃ g o, Af = some ⟨g, o, none⟩ := by
        obtain ⟨g, o, c, e, _⟩ := own_shape H.h0 (by omega)
        injection e with e1
        exact ⟨g, o, e1⟩
      have x1 : wr.cell? ⟨g, o + i, none⟩ = some p.1 := own_cell H.h0 (by rw [List.getElem?_map, hp]; rfl)
      have hpm := List.mem_of_getElem? hp
      have HTK : Hid (cdTo r ((P.take (i + 1)).map Prod.snd) = wrap64 (cdTo r ((P.take i).map Prod.snd) + cntR r [p.2])) := Lib.hid (by
        rw [List.take_add_one, hp, List.map_append]; exact cdTo_snoc)
      have hsr : CellsRd wr 0 wr.heap.size p.1 p.2 := ShpsAt.rd H.h1 hpm
      have hsl := HRW.out p hpm
      have c0 : wr.cell? ⟨w.heap.size, 0, none⟩ = some (.int .i64 r.w) := H.h2.cell 0
      have c1 : wr.cell? ⟨w.heap.size, 1, none⟩ = some (.slice A r.rows.length c) := H.h2.cell 1
      obtain ⟨pv, s⟩ := p
      obtain ⟨Ap, cp, hpe, _, _⟩ := id hsr
      simp only at hpe x1 HTK hsr hsl
      subst hpe
      have H1 := H.box 49 #[.slice Ap s.length cp]
      have HC := Lib.hid (HCT.out _ _ _ s H1.below (by omega) (cells_more hsr ((Below.refl _ _).alloc (Nat.le_refl _) _)) H1.h0)
      obtain ⟨ct, hct⟩ : ∃ b, b = cntR r [s] := ⟨_, rfl⟩
      rw [← hct] at HC HTK
      obtain ⟨n2, hn2⟩ : ∃ n2, n2 = wrap64 (n + ct) := ⟨_, rfl⟩
      have hw : IntKind.i64.wrap (n + ct) = n2 := by rw [hn2]; exact IntWalk.i64_left _
      have HN2 : Hid (n2 = cdTo r ((P.take (i + 1)).map Prod.snd)) := Lib.hid (by rw [hn2, HTK.out, HNN.out])
      clear hsr hsl hpm hp H hct hn2
      go_wp2_with fail
      refine (HC.out).mono ?_
      rintro e w3 ⟨rfl, b3⟩
      have H3 := (H1.step b3).drop
      clear HC b3 H1 x1 c0 c1
      go_wp2
      go_roundw
      case rel => exact ⟨i + 1, n2, by omega, by go_num, rfl, HN2, H3⟩
      case measure => simp [intOf]; omega
    · obtain rfl : i = m := by omega
      obtain rfl : R = n := by rw [HRR.out, HNN.out, HM.out, List.take_length, HP.out]
      have hB := H.below
      go_wp2
      go_ret
      exact ⟨rfl, hB⟩
set_option maxRecDepth 100000 in
set_option maxHeartbeats 3200000 in
theorem spec_cd_c {v : Value} {r : Reg} (w : World) (h : RegRd w 0 w.heap.size v r) (k : Int) (hn : r.rows.length ≤ 1048576) :
    Calls Tryz.prog 43 #[v, .int .i64 k] w fun e w' => e = .returned (.int .i64 (cdR r k)) ∧ Below w.heap.size w w' := by
  have HRD : Hid (∀ w1, Below w.heap.size w w1 → RegRd w1 0 w1.heap.size v r) := Lib.hid fun w1 b1 => (h.keep (SameIn.of_below b1 (Nat.le_refl _))).more (Nat.le_refl _) b1.size
  have HCT : Hid (∀ w1 g x s, Below w.heap.size w w1 → s.length ≤ 1048576 → CellsRd w1 0 w1.heap.size x s → Blk w1 g 49 #[x] → Calls Tryz.prog 117 #[v, .slice (some ⟨g, 0, none⟩) 1 1] w1 fun e w' => e = .returned (.int .i64 (cntR r [s])) ∧ Below w1.heap.size w1 w') := Lib.hid fun w1 g x s b1 hs hx hbk =>
    spec_count_c (ps := [s]) w1 (HRD.out w1 b1) (one_ssR hbk hx) (by show 1 ≤ 1048576; omega) (fun t ht => by rw [List.mem_singleton] at ht; rw [ht]; exact hs) 
  have HAR : Hid (∀ w1, Below w.heap.size w w1 → Calls Tryz.prog 47 #[v] w1 fun e w' => e = .returned (.int .i64 (areaR r)) ∧ Below w1.heap.size w1 w') := Lib.hid fun w1 b1 => spec_area_c w1 (HRD.out w1 b1) hn
  have hbt : Hid (∀ w1, Calls Tryz.prog 95 #[.int .i64 k, .int .i64 1, .int .i64 12] w1 fun e w' => e = .returned (.bool (inR k 1 12)) ∧ w1 = w') := Lib.hid fun w1 => l1In_r _ _ _ _
  have HDP : Hid (∀ w1, Below w.heap.size w w1 → Calls Tryz.prog 40 #[v, .int .i64 k] w1 fun e w' => ∃ v', e = .returned v' ∧ ListAt w1 w' v' (divP r k)) := Lib.hid fun w1 b1 => spec_divP_c k w1 (HRD.out w1 b1) hn
  obtain ⟨N, hN⟩ : ∃ N, N = areaR r := ⟨_, rfl⟩
  obtain ⟨R, hR⟩ : ∃ R, R = cdR r k := ⟨_, rfl⟩
  rw [← hR]
  have HR := Lib.hid hR
  have HOK : Hid (cdOk r k = (decide (1 ≤ N) && inR k 1 12)) := Lib.hid (by rw [hN]; rfl)
  rw [← hN] at HAR
  obtain ⟨s, rfl, hs⟩ := h
  obtain ⟨A, c, rfl, _, _⟩ := hs
  have H0 := (Sep.start w).box 29 #[.int .i64 r.w, .slice A r.rows.length c]
  have HC0 := Lib.hid (HDP.out _ H0.below)
  clear hN hR hn
  go_enter Tryz.func43, Tryz.ntmps43
  go_wp2_with fail
  refine (HC0.out).mono ?_
  rintro e w1 ⟨vf, rfl, L⟩
  obtain ⟨g, cf, P, rfl, hP, HPA⟩ := L.pairs
  have HA := (H0.same L.below)
  obtain ⟨lo, hlo⟩ : ∃ lo, lo = (w.alloc (.cells #[.int .i64 r.w, .slice A r.rows.length c] 29)).heap.size := ⟨_, rfl⟩
  rw [← hlo] at HPA HA
  obtain ⟨m, hm⟩ : ∃ m, m = (divP r k).length := ⟨_, rfl⟩
  have hmx : m ≤ 160000 := by rw [hm]; exact divP_len r k
  rw [← hm] at HPA ⊢
  have HPP := Lib.hid HPA
  have HM := Lib.hid HPA.len
  have HP := Lib.hid hP
  have HRW : Hid (∀ p ∈ P, p.2.length ≤ 5) := Lib.hid fun p hp => (divP_row (r := r) (k := k) (by rw [← hP]; exact List.mem_map.2 ⟨p, hp, rfl⟩)).2
  have c0 : w1.cell? ⟨w.heap.size, 0, none⟩ = some (.int .i64 r.w) := HA.h1.cell 0
  have c1 : w1.cell? ⟨w.heap.size, 1, none⟩ = some (.slice A r.rows.length c) := HA.h1.cell 1
  have HC1 := Lib.hid (HAR.out _ HA.below)
  clear HC0 L H0 hP HPA hlo hm HDP
  go_wp2_with fail
  refine (HC1.out).mono ?_
  rintro e w2 ⟨rfl, b2⟩
  have H1 := HA.step b2
  clear b2 HC1 HAR c0 c1 HA
  by_cases hN1 : N < 1
  · obtain rfl : R = -1 := by rw [HR.out, cdR_no (by rw [HOK.out, decide_eq_false (by omega)]; rfl)]
    have hB := H1.below
    clear H1
    go_wp2
    go_ret
    exact ⟨rfl, hB⟩
  cases hin : inR k 1 12
  · obtain rfl : R = -1 := by rw [HR.out, cdR_no (by rw [HOK.out, hin, Bool.and_false])]
    rw [hin] at hbt
    have hB := H1.below
    clear H1 hin
    go_wp2_with fail
    refine (hbt.out _).mono ?_
    rintro e w3 ⟨rfl, rfl⟩
    go_wp2
    go_ret
    exact ⟨rfl, hB⟩
  rw [hin] at hbt
  have HRR : Hid (R = cdTo r (divP r k)) := Lib.hid (by rw [HR.out, cdR_yes (by rw [HOK.out, hin, decide_eq_true (by omega)]; rfl)])
  clear hin HR HOK
  go_wp2_with fail
  refine (hbt.out _).mono ?_
  rintro e w3 ⟨rfl, rfl⟩
  clear hbt
  go_wp2
  go_loopw [6, 7] (fun nv iv wx => ∃ (i : Nat) (n : Int), i ≤ m ∧ iv = .int .i64 i ∧ nv = .int .i64 n ∧ Hid (n = cdTo r ((P.take i).map Prod.snd)) ∧ Sep w wx [Res.same lo w1.heap.size w1, Res.box w.heap.size 29 #[.int .i64 r.w, .slice A r.rows.length c]]) (fun _ iv _ => m - (intOf iv).toNat)
  case atStart => exact ⟨0, 0, Nat.zero_le _, rfl, rfl, Lib.hid rfl, H1⟩
  case round =>
    clear H1
    obtain ⟨i, n, him, rfl, rfl, HNN, H⟩ := hrel
    by_cases hlt : i < m
    · obtain ⟨p, hp⟩ : ∃ p, P[i]? = some p := ⟨P[i]'(by rw [← HM.out]; exact hlt), List.getElem?_eq_getElem _⟩
      obtain ⟨hg1, hg2⟩ := HPP.out.at_ (by omega)
      have X0 := Lib.hid (HPP.out.cell i p hp)
      have hpm := List.mem_of_getElem? hp
      have HTK : Hid (cdTo r ((P.take (i + 1)).map Prod.snd) = wrap64 (cdTo r ((P.take i).map Prod.snd) + cntR r [p.2])) := Lib.hid (by
        rw [List.take_add_one, hp, List.map_append]; exact cdTo_snoc)
      have hw2 : w1.heap.size ≤ wr.heap.size := H.h0.2 (by omega)
      have hsr : CellsRd wr 0 wr.heap.size p.1 p.2 := ((HPP.out.rd p hpm).keep (same_of H.h0)).more (Nat.zero_le _) hw2
      have hsl := HRW.out p hpm
      obtain ⟨pv, s⟩ := p
      obtain ⟨Ap, cp, hpe, _, _⟩ := id hsr
      simp only at hpe HTK hsr hsl X0
      subst hpe
      have H1 := (H.box 49 #[.slice Ap s.length cp]).drew
      have HC := Lib.hid (HCT.out _ _ _ s H1.below (by omega) (cells_more hsr (below_drew ((Below.refl _ _).alloc (Nat.le_refl _) _))) H1.h0)
      obtain ⟨ct, hct⟩ : ∃ b, b = cntR r [s] := ⟨_, rfl⟩
      rw [← hct] at HC HTK
      obtain ⟨n2, hn2⟩ : ∃ n2, n2 = wrap64 (n + ct) := ⟨_, rfl⟩
      have hw : IntKind.i64.wrap (n + ct) = n2 := by rw [hn2]; exact IntWalk.i64_left _
      have HN2 : Hid (n2 = cdTo r ((P.take (i + 1)).map Prod.snd)) := Lib.hid (by rw [hn2, HTK.out, HNN.out])
      have hgw : g < wr.heap.size := by omega
      have hbw : w.heap.size < wr.heap.size := H.h1.lt
      have c0 : wr.drew.cell? ⟨w.heap.size, 0, none⟩ = some (.int .i64 r.w) := H.drew.h1.cell 0
      have c1 : wr.drew.cell? ⟨w.heap.size, 1, none⟩ = some (.slice A r.rows.length c) := H.drew.h1.cell 1
      have x1 : wr.drew.cell? ⟨g, i, none⟩ = some (.slice Ap s.length cp) := (same_cell H.drew.h0 hg1 hg2).trans X0.out
      have c0' : (wr.alloc (.cells #[.slice Ap s.length cp] 49)).drew.cell? ⟨w.heap.size, 0, none⟩ = some (.int .i64 r.w) := H1.h2.cell 0
      have c1' : (wr.alloc (.cells #[.slice Ap s.length cp] 49)).drew.cell? ⟨w.heap.size, 1, none⟩ = some (.slice A r.rows.length c) := H1.h2.cell 1
      have x1' : (wr.alloc (.cells #[.slice Ap s.length cp] 49)).drew.cell? ⟨g, i, none⟩ = some (.slice Ap s.length cp) := (same_cell H1.h1 hg1 hg2).trans X0.out
      clear hsr hsl hpm hp H hct hn2
      go_wp2_with fail
      go_region_held3 (fun w' => w'.cell? ⟨w.heap.size, 0, none⟩ = some (.int .i64 r.w) ∧ w'.cell? ⟨w.heap.size, 1, none⟩ = some (.slice A r.rows.length c) ∧ w'.cell? ⟨g, i, none⟩ = some (.slice Ap s.length cp))
        (first | ((try dsimp only); refine ⟨?_, ?_, ?_⟩ <;> assumption) | go_keep)
        ((go_at_call 117; (with_reducible refine (HC.out).mono ?_); rintro e w3 ⟨rfl, b3⟩; have H3 := (H1.step b3).drop; have d0 := H3.h1.cell 0; have d1 := H3.h1.cell 1; have y1 : w3.cell? ⟨g, i, none⟩ = some (.slice Ap s.length cp) := (same_cell H3.h0 hg1 hg2).trans X0.out; simp at d0 d1))
      clear HC b3 H1 x1 c0 c1 x1' c0' c1' d0 d1 y1
      go_wp2
      go_roundw
      case rel => exact ⟨i + 1, n2, by omega, by go_num, rfl, HN2, H3⟩
      case measure => simp [intOf]; omega
    · obtain rfl : i = m := by omega
      obtain rfl : R = n := by rw [HRR.out, HNN.out, HM.out, List.take_length, HP.out]
      have hB := H.below
      go_wp2
      go_ret
      exact ⟨rfl, hB⟩
end Go.Proofs.YtfmkmjebkmimkaaGreatDoor
