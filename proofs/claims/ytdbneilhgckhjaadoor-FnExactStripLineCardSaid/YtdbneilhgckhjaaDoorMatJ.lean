
/-
  Strips: the line of a report: the walks of both sides.
-/
import Derived.Test.YtdbneilhgckhjaaDoorMatI
import Derived.Lib.ItoaLen
namespace Go.Proofs.YtdbneilhgckhjaaDoor
open Go.RowKit

theorem decDigits_pos (u : Nat) : 1 ≤ (Lib.decDigits u).length := by
  rw [Lib.decDigits]
  split <;> simp
theorem itoaB_pos (n : Int) : 1 ≤ (itoaB n).size := by
  rw [ustr_size]
  unfold Lib.itoa
  split
  · simp
  · exact decDigits_pos _
theorem itoaB_le {n : Int} (h0 : -1000000000000 ≤ n) (h1 : n ≤ 1000000000000) : (itoaB n).size ≤ 30 := by
  rw [ustr_size]
  have := Lib.itoa_length_le n (by omega) (by omega)
  omega
theorem rec_big {wd : Nat} (hw : wd ≤ 3) : ∀ x ∈ recL wd, -1000000000 ≤ x ∧ x ≤ 1000000000 := fun x hx => by
  have := recL_small wd (by omega) x hx
  omega
theorem strip_big {wd n : Nat} (hw : wd ≤ 4) (hn : n ≤ 16) : ∀ x ∈ stripL wd n, -1000000000000 ≤ x ∧ x ≤ 1000000000000 := fun x hx => by
  obtain ⟨k, hk, rfl⟩ := List.mem_map.1 hx
  have := strip_small wd (by omega) k (by rw [List.mem_range] at hk; omega)
  omega
theorem numT_le {l : List Int} (hb : ∀ x ∈ l, -1000000000000 ≤ x ∧ x ≤ 1000000000000) (h : l.length ≤ 40) : (numT itoaB l).size ≤ 2000 := by
  unfold numT
  split
  · exact Nat.le_trans (show noneT.size ≤ 4 from Nat.le_refl _) (by decide)
  · have := joinB_size (s := commaB) (b := 30) (l := l.map itoaB) (by
      intro x hx
      obtain ⟨n, hn, rfl⟩ := List.mem_map.1 hx
      exact itoaB_le (hb n hn).1 (hb n hn).2)
    rw [List.length_map] at this
    have h1 : commaB.size = 1 := rfl
    rw [h1] at this
    omega
set_option maxRecDepth 100000 in
set_option maxHeartbeats 1600000 in
theorem impl_fmtRec_c {v : Value} {l : List Int} (w : World) (ht : Tab10 w) (h : IntsRd w 0 w.heap.size v l) (hb : ∀ x ∈ l, -1000000000 ≤ x ∧ x ≤ 1000000000) (h1 : 1 ≤ l.length) (h8 : l.length ≤ 8) :
    Calls Tryd.prog 24 #[v] w fun e w' => e = .returned (.string (numT itoaB l)) ∧ Below w.heap.size w w' := by
  have hC : Calls Tryd.prog 68 #[v] w fun e w' => e = .returned (.bool true) ∧ Below w.heap.size w w' := by
    have HA := Lib.hid (impl_areNum_c w h hb (by omega))
    obtain ⟨A, c, rfl, hm, hr⟩ := h
    have hin : inW (l.length : Int) 1 8 = true := inW_iff.2 ⟨by omega, by omega⟩
    clear hr hb ht
    go_enter Tryd.func68, Tryd.ntmps68
    go_wp2_with (go_at_call 65; refine (between_w _ _ _ _).mono ?_; rintro e w' ⟨rfl, rfl⟩)
    refine (HA.out).mono ?_
    rintro e w1 ⟨rfl, b1⟩
    go_wp2
    go_ret
    exact ⟨rfl, b1⟩
  have HC := Lib.hid hC
  have HN : Hid (∀ w1, Below w.heap.size w w1 → Calls Tryd.prog 22 #[v] w1 fun e w' => e = .returned (.string (numT itoaB l)) ∧ Below w1.heap.size w1 w') := Lib.hid fun w1 b1 =>
    numbersText_c w1 ((h.keep (SameIn.of_below b1 (Nat.le_refl _))).more (Nat.le_refl _) b1.size) (fun n hn => (itoa_I w ht n (by have := hb n hn; omega) (by have := hb n hn; omega)).on b1) (fun n hn => itoaB_le (by have := hb n hn; omega) (by have := hb n hn; omega)) (by omega)
  obtain ⟨A, c, rfl, hm, hr⟩ := h
  clear hr hb ht hC
  go_enter Tryd.func24, Tryd.ntmps24
  go_wp2_with fail
  refine (HC.out).mono ?_
  rintro e w1 ⟨rfl, b1⟩
  have HN1 := Lib.hid (HN.out w1 b1)
  go_wp2_with fail
  refine (HN1.out).mono ?_
  rintro e w2 ⟨rfl, b2⟩
  have hb2 := b1.trans (b2.mono b1.size)
  go_wp2
  go_ret
  exact ⟨rfl, hb2⟩
set_option maxRecDepth 100000 in
set_option maxHeartbeats 1600000 in
theorem spec_fmtRec_c {v : Value} {l : List Int} (w : World) (h : IntsRd w 0 w.heap.size v l) (hb : ∀ x ∈ l, -1000000000 ≤ x ∧ x ≤ 1000000000) (h1 : 1 ≤ l.length) (h8 : l.length ≤ 8) :
    Calls Tryd.prog 20 #[v] w fun e w' => e = .returned (.string (numT itoaB l)) ∧ Below w.heap.size w w' := by
  have HFN : Hid (∀ w1, Below w.heap.size w w1 → Calls Tryd.prog 61 #[v] w1 fun e w' => e = .returned (.bool true) ∧ Below w1.heap.size w1 w') := Lib.hid fun w1 b1 =>
    spec_fine_c w1 ((h.keep (SameIn.of_below b1 (Nat.le_refl _))).more (Nat.le_refl _) b1.size) hb (by omega)
  have HF : Hid (∀ n ∈ l, SNumAt w n (itoaB n)) := Lib.hid fun n hn => itoa_S w n (by have := hb n hn; omega) (by have := hb n hn; omega)
  have HS : Hid (∀ n ∈ l, (itoaB n).size ≤ 30) := Lib.hid fun n hn => itoaB_le (by have := hb n hn; omega) (by have := hb n hn; omega)
  have HS1 : Hid (∀ n ∈ l, 1 ≤ (itoaB n).size) := Lib.hid fun n hn => itoaB_pos n
  obtain ⟨f, hf⟩ : ∃ f, f = itoaB := ⟨_, rfl⟩
  have hfd : ∀ n, itoaB n = f n := fun n => by rw [hf]
  rw [← hf]
  have HF : Hid (∀ n ∈ l, SNumAt w n (f n)) := Lib.hid fun n hn => by rw [← hfd]; exact HF.out n hn
  have HS : Hid (∀ n ∈ l, (f n).size ≤ 30) := Lib.hid fun n hn => by rw [← hfd]; exact HS.out n hn
  have HS1 : Hid (∀ n ∈ l, 1 ≤ (f n).size) := Lib.hid fun n hn => by rw [← hfd]; exact HS1.out n hn
  obtain ⟨A, c, rfl, hm, hr⟩ := h
  have hl0 : l ≠ [] := fun e => by rw [e] at h1; simp at h1
  obtain ⟨R, hR⟩ : ∃ R, R = numT f l := ⟨_, rfl⟩
  rw [← hR]
  have HR := Lib.hid (hR.trans (numT_all hl0))
  clear hR hb hf hfd hl0
  go_enter Tryd.func20, Tryd.ntmps20
  go_wp2
  go_loopw [3, 4] (fun s i wr => ∃ k : Nat, k ≤ l.length ∧ i = .int .i64 k ∧ s = .string (numTo f l k) ∧ Below w.heap.size w wr) (fun _ i _ => l.length - (intOf i).toNat)
  case atStart => exact ⟨0, Nat.zero_le _, rfl, rfl, Below.refl _ _⟩
  case round =>
    obtain ⟨k, hk, rfl, rfl, hbel⟩ := hrel
    by_cases hlt : k < l.length
    · have HFI := Lib.hid (HFN.out wr hbel)
      have h8' : decide ((l.length : Int) ≤ 8) = true := decide_eq_true (by omega)
      obtain ⟨b, off, n, rfl, _, hb, hla, q1⟩ := (hr.below hbel (Nat.le_refl _)).at1 hlt
      have hmem := List.mem_of_getElem? hla
      have HN := Lib.hid (HF.out n hmem)
      have HNS := Lib.hid (numTo_succ (f := f) hla)
      have z1 := HS.out n hmem
      have z2 := numTo_size HS.out k hk
      have z3 : (numTo f l k).size ≤ 40000000 := by omega
      have z4 : (numTo f l k ++ (⟨#[44]⟩ : ByteArray)).size ≤ 40000001 := by rw [ByteArray.size_append]; have : (⟨#[44]⟩ : ByteArray).size = 1 := rfl; omega
      clear hr hla hmem z2
      go_wp2_with fail
      refine (HFI.out).mono ?_
      rintro e w1 ⟨rfl, b1⟩
      replace q1 := (b1.cell (p := ⟨b, off + k, none⟩) (Nat.lt_of_lt_of_le hb hbel.size)).trans q1
      replace hbel := hbel.trans (b1.mono hbel.size)
      clear b1 HFI
      by_cases hk0 : 0 < k
      · have hdk : decide ((0 : Int) < (k : Int)) = true := by simp; omega
        go_wp2_with fail
        refine (HN.out w1 hbel).mono ?_
        rintro e w2 ⟨rfl, b2⟩
        have hbel2 := hbel.trans (b2.mono hbel.size)
        have hst : numTo f l k ++ ⟨#[44]⟩ ++ f n = numTo f l (k + 1) := by rw [HNS.out, if_pos hk0]; rfl
        have HST := Lib.hid hst
        clear hbel b2 q1 hst
        go_wp2
        go_roundw
        case rel => exact ⟨k + 1, by omega, by go_num, by rw [HST.out], hbel2⟩
        case measure => simp [intOf]; omega
      · have hdk : decide ((0 : Int) < (k : Int)) = false := by simp; omega
        go_wp2_with fail
        refine (HN.out w1 hbel).mono ?_
        rintro e w2 ⟨rfl, b2⟩
        have hbel2 := hbel.trans (b2.mono hbel.size)
        have hst : numTo f l k ++ f n = numTo f l (k + 1) := by rw [HNS.out, if_neg hk0]
        have HST := Lib.hid hst
        clear hbel b2 q1 hst
        go_wp2
        go_roundw
        case rel => exact ⟨k + 1, by omega, by go_num, by rw [HST.out], hbel2⟩
        case measure => simp [intOf]; omega
    · obtain rfl : k = l.length := by omega
      obtain rfl : R = numTo f l l.length := HR.out
      obtain ⟨n1, n2⟩ := not_empty (numTo_pos HS1.out l.length h1 (Nat.le_refl _))
      clear hr
      go_wp2
      go_ret
      exact ⟨rfl, hbel⟩
end Go.Proofs.YtdbneilhgckhjaaDoor
