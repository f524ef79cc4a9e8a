
/-
  How many tilings, at most so many: the program's walks.
-/
import Derived.Test.YtccihgifdlpkgaaGreatDoorFtX
namespace Go.Proofs.YtccihgifdlpkgaaGreatDoor
open Go.RowKit

theorem wrap_succ (a : Int) : wrap64 (wrap64 a + 1) = wrap64 (a + 1) := by unfold wrap64; omega
/-- what the visitor of 'countUpTo' keeps -/
structure CntAt (w0 wS : World) (gs Bd N : Nat) (seen : List (List Nat)) (w : World) : Prop where
  bel : Below w0.heap.size w0 w
  size : Bd ≤ w.heap.size
  most : Blk w w0.heap.size 3 #[.int .i64 ((N + 1 : Nat) : Int)]
  cnt : Blk w (w0.heap.size + 1) 3 #[.int .i64 (wrap64 (seen.length : Int))]
  same : SameIn gs Bd wS w
abbrev cntFn (g : Nat) : Array Value := #[.pointer (some ⟨g + 1, 0, none⟩), .pointer (some ⟨g, 0, none⟩)]
def cntGo (N : Nat) (s : List (List Nat)) (_ : List Nat) : Bool := decide (wrap64 ((s.length : Int) + 1) < ((N + 1 : Nat) : Int))
set_option maxRecDepth 100000 in
set_option maxHeartbeats 1600000 in
theorem cntV_c {w0 wS w : World} {gs Bd N : Nat} {seen : List (List Nat)} {l : List Nat} {lv : Value} (hgs : gs = w0.heap.size + 2) (h : CntAt w0 wS gs Bd N seen w) :
    Calls Tryz.prog 74 (#[lv] ++ cntFn w0.heap.size) w fun e w' => e = .returned (.bool (cntGo N seen l)) ∧ CntAt w0 wS gs Bd N (seen ++ [l]) w' ∧ Only (fun b => b = w0.heap.size + 1) w w' := by
  obtain ⟨g, hg⟩ : ∃ g, g = w0.heap.size := ⟨_, rfl⟩
  have hc := h.cnt
  have hm := h.most
  have hb := h.bel
  have hsz := h.size
  have hsm := h.same
  rw [← hg] at hc hm hgs ⊢
  show Calls Tryz.prog 74 #[lv, .pointer (some ⟨g + 1, 0, none⟩), .pointer (some ⟨g, 0, none⟩)] w _
  obtain ⟨V, hV⟩ : ∃ V, V = wrap64 ((seen.length : Int) + 1) := ⟨_, rfl⟩
  obtain ⟨U, hU⟩ : ∃ U, U = wrap64 (seen.length : Int) := ⟨_, rfl⟩
  have hgo : cntGo N seen l = decide (V < ((N + 1 : Nat) : Int)) := by rw [hV]; rfl
  rw [hgo]
  rw [← hU] at hc
  have hUV : IntKind.i64.wrap (U + 1) = V := by rw [hU, hV, IntWalk.i64_left]; exact wrap_succ _
  have c0 := hm.cell 0
  have c1 := hc.cell 0
  have f1 := hc.frozen 0
  simp only [List.getElem?_toArray, List.getElem?_cons_zero] at c0 c1
  obtain ⟨M, hM⟩ : ∃ M : Int, M = ((N + 1 : Nat) : Int) := ⟨_, rfl⟩
  rw [← hM] at c0 ⊢
  have hk : ∀ b, b ≠ g + 1 → (w.setCell ⟨g + 1, 0, none⟩ (.int .i64 V)).heap[b]? = w.heap[b]? := fun b hb => Below.heap_setCell w _ _ b hb
  have d1 : (w.setCell ⟨g + 1, 0, none⟩ (.int .i64 V)).cell? ⟨g + 1, 0, none⟩ = some (.int .i64 V) := (hc.set_ 0 (.int .i64 V)).cell 0
  have d0 : (w.setCell ⟨g + 1, 0, none⟩ (.int .i64 V)).cell? ⟨g, 0, none⟩ = some (.int .i64 M) := (Blk.cell ((hk g (by omega)).trans hm) 0).trans (by rw [hM]; rfl)
  have HO : Hid (CntAt w0 wS gs Bd N (seen ++ [l]) (w.setCell ⟨g + 1, 0, none⟩ (.int .i64 V))) := Lib.hid (by
    refine ⟨hb.setCell (by show w0.heap.size ≤ g + 1; omega) _, by simpa [World.setCell] using hsz, ?_, ?_, hsm.trans (SameIn.setCell (by left; simp; omega) _)⟩
    · rw [← hg]; exact (hk _ (by omega)).trans hm
    · rw [← hg]
      have e : wrap64 (((seen ++ [l]).length : Nat) : Int) = V := by rw [hV, List.length_append]; rfl
      rw [e]
      exact hc.set_ 0 _)
  have HON : Hid (Only (fun b => b = g + 1) w (w.setCell ⟨g + 1, 0, none⟩ (.int .i64 V))) := Lib.hid ⟨rfl, rfl, rfl, by simp [World.setCell], fun b _ hd => Below.heap_setCell w _ _ b (fun e => hd e)⟩
  clear h hc hm hb hsm hgo hg hgs hV hU hM hk
  go_enter Tryz.func74, Tryz.ntmps74
  go_wp2
  go_ret
  exact ⟨rfl, HO.out, HON.out⟩
theorem cntVis {A : List Nat} {vs : List Value} {w0 wS : World} {gs Bd N : Nat} (hgs : gs = w0.heap.size + 2) (hBd : gs < Bd) (hlen : vs.length = 64)
    (hbox : Blk wS gs 92 (schCells vs (.func (.func 74) #[] (cntFn w0.heap.size)))) (hsl : IntSlots wS gs Bd vs (atM A)) (ht : Tab64 w0) :
    Vis A vs gs Bd 74 (cntFn w0.heap.size) (fun b => b = w0.heap.size + 1) (CntAt w0 wS gs Bd N) (cntGo N) where
  enter := fun args w => by kernel_rfl
  dom := fun b hb => by omega
  len := hlen
  box := fun h => (h.same gs (Nat.le_refl _) hBd).trans hbox
  slots := fun h => (hsl.keep h.same).more (Nat.zero_le _) (Nat.le_refl _)
  keep := fun {seen w w'} h hb => ⟨h.bel.trans (hb.mono h.bel.size), Nat.le_trans h.size hb.size, h.most.below hb h.most.lt, h.cnt.below hb h.cnt.lt, h.same.trans (SameIn.of_below hb h.size)⟩
  size := fun h => h.size
  tab := fun h => tab64_on ht h.bel
  call := fun h _ _ => cntV_c hgs h
theorem cnt_go {N : Nat} (hN : N ≤ 1000000) {s : List (List Nat)} (hs : s.length ≤ N) (l : List Nat) : cntGo N s l = decide (s.length < N) := by
  unfold cntGo
  rw [IntWalk.wrap64_in _ ⟨by omega, by omega⟩, Bool.eq_iff_iff, decide_eq_true_iff, decide_eq_true_iff]
  omega
theorem runV_cons {go : List (List Nat) → List Nat → Bool} {seen : List (List Nat)} {t : List Nat} {T : List (List Nat)} : runV go seen (t :: T) = if go seen t = true then runV go (seen ++ [t]) T else (seen ++ [t], false) := rfl
theorem runV_nil {go : List (List Nat) → List Nat → Bool} {seen : List (List Nat)} : runV go seen [] = (seen, true) := rfl
theorem run_cnt {N : Nat} (hN : N ≤ 1000000) (T : List (List Nat)) : ∀ seen : List (List Nat), seen.length ≤ N → runV (cntGo N) seen T = runV (fun s _ => decide (s.length < N)) seen T := by
  induction T with
  | nil => intro seen _; rw [runV_nil, runV_nil]
  | cons t T ih =>
    intro seen h
    rw [runV_cons, runV_cons, cnt_go hN h]
    by_cases hs : seen.length < N
    · rw [decide_eq_true hs, if_pos rfl, if_pos rfl]
      exact ih (seen ++ [t]) (by simp; omega)
    · rw [decide_eq_false hs, if_neg Bool.false_ne_true, if_neg Bool.false_ne_true]
/-- how many tilings, at most so many -/
def cntU (A : List Nat) (free most : Nat) : Nat := min most (til A free).length
set_option maxRecDepth 100000 in
set_option maxHeartbeats 1600000 in
theorem countUpTo_c {v : Value} {A : List Nat} {free N : Nat} (w : World) (h : IntsRd w 0 w.heap.size v (nl A)) (hA : ∀ m ∈ A, m < 2 ^ 36) (hl : A.length ≤ 1000000) (hf : free < 2 ^ 36) (hN : N ≤ 100000) (ht : Tab64 w) :
    Calls Tryz.prog 55 #[v, .int .i64 free, .int .i64 ((N + 1 : Nat) : Int)] w fun e w' => e = .returned (.int .i64 (cntU A free (N + 1) : Nat)) ∧ Below w.heap.size w w' := by
  have hmf : ∀ (fn : Fn) (first cap : Array Value) (w : World), (Instr.makeFunc fn first cap).run Tryz.prog w = .ok (.func fn first cap) w := fun _ _ _ _ => rfl
  obtain ⟨M, hM⟩ : ∃ M : Int, M = ((N + 1 : Nat) : Int) := ⟨_, rfl⟩
  have H0 := ((Sep.start w).box 3 #[.int .i64 M]).box 3 #[.int .i64 0]
  simp only [World.size_alloc] at H0
  have hW : ((w.alloc (.cells #[.int .i64 M] 3)).alloc (.cells #[.int .i64 0] 3)).heap.size = w.heap.size + 2 := by simp
  obtain ⟨Av, cv, rfl, _, _⟩ := id h
  have H1 := Lib.hid H0
  have HRD : Hid (∀ w1, Below w.heap.size w w1 → IntsRd w1 0 w1.heap.size (.slice Av (nl A).length cv) (nl A)) := Lib.hid fun w1 b1 => (h.keep (SameIn.of_below b1 (Nat.le_refl _))).more (Nat.le_refl _) b1.size
  rw [← hM]
  have HM := Lib.hid hM
  clear h H0 hM
  obtain ⟨R, hR⟩ : ∃ R, R = cntU A free (N + 1) := ⟨_, rfl⟩
  rw [← hR]
  have HR := Lib.hid hR
  clear hR
  go_enter Tryz.func55, Tryz.ntmps55
  go_upto_region 2 with fail
  have HH := H1.out
  generalize ((w.alloc (.cells #[.int .i64 M] 3)).alloc (.cells #[.int .i64 0] 3)) = W at *
  have HNEW := Lib.hid (newSearch_c (F := 74) (caps := cntFn w.heap.size) W (HRD.out W HH.below) hA hl)
  have HA := Lib.hid hA
  have HWS := Lib.hid hW
  clear hW hA hl HRD H1
  go_wp2_with fail
  refine (HNEW.out).mono ?_
  rintro e w2 ⟨vs, rfl, hvl, H2⟩
  obtain ⟨gs, hgs⟩ : ∃ gs, gs = W.heap.size := ⟨_, rfl⟩
  rw [← hgs] at H2 HWS ⊢
  have HBX := Lib.hid H2.h0
  have hlt : gs < w2.heap.size := Blk.lt H2.h0
  have HSL : Hid (IntSlots w2 gs w2.heap.size vs (atM A)) := Lib.hid (by rw [hgs]; exact H2.drop.rowsSlots)
  have HV := Lib.hid (cntVis (N := N) HWS.out hlt hvl HBX.out HSL.out ht)
  have hbW := H2.below
  have hI0 : CntAt w w2 gs w2.heap.size N [] w2 := by
    refine ⟨HH.below.trans (hbW.mono HH.size), Nat.le_refl _, ?_, ?_, SameIn.refl _⟩
    · rw [← HM.out]; exact Blk.below HH.h1 hbW (Blk.lt HH.h1)
    · have e : wrap64 ((([] : List (List Nat)).length : Nat) : Int) = 0 := by unfold wrap64; simp
      rw [e]
      exact Blk.below HH.h0 hbW (Blk.lt HH.h0)
  have HFL := Lib.hid (fill_c HV.out HA.out free hf [] w2 [] (.slice none 0 0) hI0 OI.nil (by simpa using bitsN_le 36))
  clear HNEW H2 HBX hlt HSL hvl hbW hI0 HH hgs ht hf
  go_wp2_with fail
  refine (HFL.out).mono ?_
  rintro e w3 ⟨Q, hQ, rfl, hI, ho⟩
  have hQT : Q.1 = (til A free).take (N + 1) := by
    rw [hQ, show tilL [] (til A free) = til A free by unfold tilL; simp, run_cnt (by omega) _ _ (Nat.zero_le _), run_ord _ [] (Nat.zero_le _)]
    simp
  have hRQ : wrap64 (Q.1.length : Int) = (R : Int) := by
    have e : Q.1.length = R := by rw [hQT, List.length_take, HR.out]; rfl
    rw [e]
    have : R ≤ N + 1 := by rw [HR.out]; exact Nat.min_le_left _ _
    exact IntWalk.wrap64_in _ ⟨by omega, by omega⟩
  have c1 : w3.cell? ⟨w.heap.size + 1, 0, none⟩ = some (.int .i64 R) := by rw [← hRQ]; exact hI.cnt.cell 0
  have hbel := hI.bel
  clear hQ hQT hRQ hI ho HFL HV HWS
  go_wp2
  go_ret
  exact ⟨rfl, hbel⟩
end Go.Proofs.YtccihgifdlpkgaaGreatDoor
