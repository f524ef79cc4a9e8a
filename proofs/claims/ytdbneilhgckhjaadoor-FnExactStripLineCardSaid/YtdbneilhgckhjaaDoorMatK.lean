
/-
  The law FnExactStripLine, walked by contracts, under the library's table of powers.
-/
import Derived.Test.YtdbneilhgckhjaaDoorMatJ
import Derived.Lib.LaidTab
import Derived.Stop.LaidErr
namespace Go.Proofs.YtdbneilhgckhjaaDoor
open Go.RowKit

def stripB : ByteArray := ⟨#[115, 116, 114, 105, 112]⟩
def recB : ByteArray := ⟨#[114, 101, 99, 117, 114, 114, 101, 110, 99, 101]⟩
def stripT (a b : Int) : ByteArray := if inW a 1 4 && inW b 0 16 then joinB spaceB ([stripB, numT itoaB (stripL a.toNat b.toNat)] ++ if a ≤ 3 then [recB, numT itoaB (recL a.toNat)] else []) else ⟨#[]⟩
set_option maxRecDepth 100000 in
theorem tab10_on {w w' : World} (ht : Tab10 w) (hb : Below w.heap.size w w') : Tab10 w' := by
  have hs : (Tryd.prog.globalNamed "internal/strconv.uint64pow10").isSome = true := by kernel_rfl
  obtain ⟨g, hg⟩ := Option.isSome_iff_exists.1 hs
  exact Go.Joins.tab_stays hg ht hb (Nat.le_refl _)
theorem strip_t2 (a : ByteArray) : (⟨#[115, 116, 114, 105, 112, 32]⟩ : ByteArray) ++ a = joinB spaceB [stripB, a] := by
  apply ba_ext
  simp only [joinB_cons, joinB_one, spaceB, stripB, ba_app]
  simp
theorem strip_t4 (a b : ByteArray) : (⟨#[115, 116, 114, 105, 112, 32]⟩ : ByteArray) ++ a ++ ⟨#[32, 114, 101, 99, 117, 114, 114, 101, 110, 99, 101, 32]⟩ ++ b = joinB spaceB [stripB, a, recB, b] := by
  apply ba_ext
  simp only [joinB_cons, joinB_one, spaceB, stripB, recB, ba_app]
  simp [List.append_assoc]
set_option maxRecDepth 100000 in
set_option maxHeartbeats 3200000 in
theorem spec_sline_c (W : World) (a b : Int) :
    Calls Tryd.prog 6 #[.int .i64 a, .int .i64 b] W fun e w' => e = .returned (.string (stripT a b)) ∧ Below W.heap.size W w' := by
  cases hv : (inW a 1 4 && inW b 0 16)
  · have HQ := Lib.hid (spec_seq0_c a b W hv)
    have hT : stripT a b = ⟨#[]⟩ := by unfold stripT; rw [hv]; rfl
    rw [hT]
    clear hv hT
    go_enter Tryd.func6, Tryd.ntmps6
    go_wp2_with fail
    refine (HQ.out).mono ?_
    rintro e w1 ⟨v1, rfl, o1, b1⟩
    obtain ⟨A1, c1, rfl, _, _⟩ := o1.rd
    clear o1
    go_wp2
    go_ret
    exact ⟨rfl, b1⟩
  · have hv2 := hv
    rw [Bool.and_eq_true, inW_iff, inW_iff] at hv2
    obtain ⟨wd, rfl⟩ := Int.eq_ofNat_of_zero_le (show 0 ≤ a by omega)
    obtain ⟨n, rfl⟩ := Int.eq_ofNat_of_zero_le (show 0 ≤ b by omega)
    have h1 : 1 ≤ wd := by omega
    have hw : wd ≤ 4 := by omega
    have hn : n ≤ 16 := by omega
    have HQ := Lib.hid (spec_strip_c wd n W h1 hw hn)
    obtain ⟨T, hT⟩ : ∃ T, T = stripT (wd : Int) (n : Int) := ⟨_, rfl⟩
    rw [← hT]
    unfold stripT at hT
    rw [hv, if_pos rfl] at hT
    have HT := Lib.hid hT
    have hne : ((stripL wd n).length : Int) = (n : Int) + 1 := by rw [stripL_len]; omega
    have HNE : Hid ((stripL wd n).length = n + 1) := Lib.hid stripL_len
    have HB := Lib.hid (strip_big hw hn)
    have hz := numT_le HB.out (by rw [stripL_len]; omega)
    clear hT hv hv2 hne
    go_enter Tryd.func6, Tryd.ntmps6
    go_wp2_with fail
    refine (HQ.out).mono ?_
    rintro e w1 ⟨v1, rfl, o1, b1⟩
    have HNT := Lib.hid (l34Numbers_c (f := itoaB) w1 (o1.rd.more (Nat.zero_le _) (Nat.le_refl _)) (fun x hx => itoa_S w1 x (by have := HB.out x hx; omega) (by have := HB.out x hx; omega)) (fun x _ => itoaB_pos x) (fun x hx => itoaB_le (HB.out x hx).1 (HB.out x hx).2) (by rw [HNE.out]; omega))
    obtain ⟨A1, c1, rfl, _, _⟩ := o1.rd
    rw [HNE.out] at HNT ⊢
    have h0 : ¬ n + 1 = 0 := by omega
    clear o1 HQ
    go_wp2_with fail
    refine (HNT.out).mono ?_
    rintro e w2 ⟨rfl, b2⟩
    have hb2 := b1.trans (b2.mono b1.size)
    have HL : Hid (stripL wd n = stripL (wd : Int).toNat (n : Int).toNat) := Lib.hid (by rw [Int.toNat_natCast, Int.toNat_natCast])
    obtain ⟨S, hS⟩ : ∃ S, S = numT itoaB (stripL wd n) := ⟨_, rfl⟩
    rw [← hS] at hz ⊢
    have HT2 : Hid (T = joinB spaceB ([stripB, S] ++ if (wd : Int) ≤ 3 then [recB, numT itoaB (recL wd)] else [])) := Lib.hid (by rw [HT.out, hS, Int.toNat_natCast, Int.toNat_natCast])
    clear b1 b2 HNT HL hS HT h0
    by_cases h3 : wd ≤ 3
    · have HR := Lib.hid (spec_rec_c wd w2 h1 h3)
      have HRB := Lib.hid (rec_big h3)
      have hz2 := numT_le (l := recL wd) (fun x hx => by have := HRB.out x hx; omega) (by rw [recL_len]; have := pow8 h3; omega)
      have HRL : Hid (1 ≤ (recL wd).length ∧ (recL wd).length ≤ 8) := Lib.hid ⟨by rw [recL_len]; exact Nat.pow_pos (by decide), by rw [recL_len]; exact pow8 h3⟩
      go_wp2_with fail
      refine (HR.out).mono ?_
      rintro e w3 ⟨v3, rfl, o3, b3⟩
      have hb3 := hb2.trans (b3.mono hb2.size)
      have HF := Lib.hid (spec_fmtRec_c w3 (o3.rd.more (Nat.zero_le _) (Nat.le_refl _)) HRB.out HRL.out.1 HRL.out.2)
      obtain ⟨A3, c3, rfl, _, _⟩ := o3.rd
      obtain ⟨C, hC⟩ : ∃ C, C = numT itoaB (recL wd) := ⟨_, rfl⟩
      rw [← hC] at hz2 HF HT2
      have HT3 : Hid (T = (⟨#[115, 116, 114, 105, 112, 32]⟩ : ByteArray) ++ S ++ ⟨#[32, 114, 101, 99, 117, 114, 114, 101, 110, 99, 101, 32]⟩ ++ C) := Lib.hid (by rw [HT2.out, if_pos (by omega), strip_t4]; rfl)
      have y1 : (⟨#[115, 116, 114, 105, 112, 32]⟩ : ByteArray).size = 6 := rfl
      have y2 : (⟨#[32, 114, 101, 99, 117, 114, 114, 101, 110, 99, 101, 32]⟩ : ByteArray).size = 12 := rfl
      have y3 : ((⟨#[115, 116, 114, 105, 112, 32]⟩ : ByteArray) ++ S).size ≤ 2006 := by rw [ByteArray.size_append]; omega
      have y4 : ((⟨#[115, 116, 114, 105, 112, 32]⟩ : ByteArray) ++ S ++ ⟨#[32, 114, 101, 99, 117, 114, 114, 101, 110, 99, 101, 32]⟩).size ≤ 2018 := by rw [ByteArray.size_append]; omega
      clear o3 b3 hb2 hC HT2 HR
      go_wp2_with fail
      refine (HF.out).mono ?_
      rintro e w4 ⟨rfl, b4⟩
      have hb4 := hb3.trans (b4.mono hb3.size)
      go_wp2
      go_ret
      exact ⟨by rw [HT3.out]; rfl, hb4⟩
    · have HR := Lib.hid (spec_rec0_c wd w2 (by omega) hw)
      have HT3 : Hid (T = (⟨#[115, 116, 114, 105, 112, 32]⟩ : ByteArray) ++ S) := Lib.hid (by rw [HT2.out, if_neg (by omega), strip_t2]; rfl)
      have y1 : (⟨#[115, 116, 114, 105, 112, 32]⟩ : ByteArray).size = 6 := rfl
      clear HT2
      go_wp2_with fail
      refine (HR.out).mono ?_
      rintro e w3 ⟨v3, rfl, b3⟩
      have hb3 := hb2.trans (b3.mono hb2.size)
      go_wp2
      go_ret
      exact ⟨by rw [HT3.out]; rfl, hb3⟩
set_option maxRecDepth 100000 in
set_option maxHeartbeats 3200000 in
theorem impl_sline_c (W : World) (a b : Int) (ht : Tab10 W) :
    Calls Tryd.prog 7 #[.int .i64 a, .int .i64 b] W fun e w' => e = .returned (.string (stripT a b)) ∧ Below W.heap.size W w' := by
  cases hv : (inW a 1 4 && inW b 0 16)
  · have HQ := Lib.hid (impl_seq0_c a b W hv)
    have hT : stripT a b = ⟨#[]⟩ := by unfold stripT; rw [hv]; rfl
    rw [hT]
    clear hv hT
    go_enter Tryd.func7, Tryd.ntmps7
    go_wp2_with fail
    refine (HQ.out).mono ?_
    rintro e w1 ⟨v1, rfl, o1, b1⟩
    obtain ⟨A1, c1, rfl, _, _⟩ := o1.rd
    clear o1
    go_wp2
    go_ret
    exact ⟨rfl, b1⟩
  · have hv2 := hv
    rw [Bool.and_eq_true, inW_iff, inW_iff] at hv2
    obtain ⟨wd, rfl⟩ := Int.eq_ofNat_of_zero_le (show 0 ≤ a by omega)
    obtain ⟨n, rfl⟩ := Int.eq_ofNat_of_zero_le (show 0 ≤ b by omega)
    have h1 : 1 ≤ wd := by omega
    have hw : wd ≤ 4 := by omega
    have hn : n ≤ 16 := by omega
    obtain ⟨i0, hi, hz0, hz1, hz2⟩ := info_parts infoStr
    have HQ := Lib.hid (impl_seq_c wd n W h1 hw hn)
    have HTB := Lib.hid ht
    obtain ⟨T, hT⟩ : ∃ T, T = stripT (wd : Int) (n : Int) := ⟨_, rfl⟩
    rw [← hT]
    unfold stripT at hT
    rw [hv, if_pos rfl] at hT
    have HT := Lib.hid hT
    have HNE : Hid ((stripL wd n).length = n + 1) := Lib.hid stripL_len
    have HB := Lib.hid (strip_big hw hn)
    have hz := numT_le HB.out (by rw [stripL_len]; omega)
    clear hT hv hv2 ht
    go_enter Tryd.func7, Tryd.ntmps7
    go_wp2_with fail
    refine (HQ.out).mono ?_
    rintro e w1 ⟨v1, rfl, o1, b1⟩
    have HNT := Lib.hid (numbersText_c (f := itoaB) w1 (o1.rd.more (Nat.zero_le _) (Nat.le_refl _)) (fun x hx => (itoa_I W HTB.out x (by have := HB.out x hx; omega) (by have := HB.out x hx; omega)).on b1) (fun x hx => itoaB_le (HB.out x hx).1 (HB.out x hx).2) (by rw [HNE.out]; omega))
    obtain ⟨A1, c1, rfl, _, _⟩ := o1.rd
    rw [HNE.out] at HNT ⊢
    have h0 : ¬ n + 1 = 0 := by omega
    clear o1 HQ
    go_wp2_with fail
    refine (HNT.out).mono ?_
    rintro e w2 ⟨rfl, b2⟩
    obtain ⟨S, hS⟩ : ∃ S, S = numT itoaB (stripL wd n) := ⟨_, rfl⟩
    rw [← hS] at hz ⊢
    have HT2 : Hid (T = joinB spaceB ([stripB, S] ++ if (wd : Int) ≤ 3 then [recB, numT itoaB (recL wd)] else [])) := Lib.hid (by rw [HT.out, hS, Int.toNat_natCast, Int.toNat_natCast])
    have H0 := (((Sep.start W).step b1).step b2).rowBox 9 #[.string ⟨#[115, 116, 114, 105, 112]⟩, .string S] 1 2 rfl (by decide)
    have e0 : (#[Value.string ⟨#[115, 116, 114, 105, 112]⟩, .string S] : Array Value).toList = sc [stripB, S] := rfl
    rw [e0] at H0
    clear b1 b2 HNT hS HT h0 e0
    by_cases h3 : wd ≤ 3
    · have HR := Lib.hid (impl_rec_c wd (w2.alloc (.cells #[.string ⟨#[115, 116, 114, 105, 112]⟩, .string S] 9)) h1 h3)
      have HRB := Lib.hid (rec_big h3)
      have hzc := numT_le (l := recL wd) (fun x hx => by have := HRB.out x hx; omega) (by rw [recL_len]; have := pow8 h3; omega)
      have HRL : Hid (1 ≤ (recL wd).length ∧ (recL wd).length ≤ 8) := Lib.hid ⟨by rw [recL_len]; exact Nat.pow_pos (by decide), by rw [recL_len]; exact pow8 h3⟩
      go_wp2_with fail
      refine (HR.out).mono ?_
      rintro e w3 ⟨v3, rfl, o3, b3⟩
      have H1 := H0.step b3
      have HF := Lib.hid (impl_fmtRec_c w3 (tab10_on HTB.out H1.below) (o3.rd.more (Nat.zero_le _) (Nat.le_refl _)) HRB.out HRL.out.1 HRL.out.2)
      obtain ⟨A3, c3, rfl, _, _⟩ := o3.rd
      obtain ⟨C, hC⟩ : ∃ C, C = numT itoaB (recL wd) := ⟨_, rfl⟩
      rw [← hC] at hzc HF HT2
      clear o3 b3 hC H0 HR
      go_wp2_with fail
      refine (HF.out).mono ?_
      rintro e w4 ⟨rfl, b4⟩
      have H2 := H1.step b4
      clear H1 HF b4
      go_wp2_with (at_builtin; refine wpList_app rfl _ _ 41 rfl 9 i0 _ 1 16 Tryd.underlying41 hi hz0 hz1 hz2 rfl (by decide) _ _ _ rfl (H2.alloc _) _ _ _ [.string ⟨#[114, 101, 99, 117, 114, 114, 101, 110, 99, 101]⟩, .string C] rfl (Rd.fresh w4 _ #[.string ⟨#[114, 101, 99, 117, 114, 114, 101, 110, 99, 101]⟩, .string C] 1 2 rfl) (by intro u hu; simp at hu; rcases hu with rfl | rfl <;> rfl) (by decide) (by decide) ?_; intro v5 w5 H5; clear H2)
      have H6 : Sep W w5 [Res.row v5 9 1 4 (sc [stripB, S, recB, C])] := H5
      have z1 : stripB.size = 5 := rfl
      have z2 : recB.size = 10 := rfl
      have HJ := Lib.hid (line_own (b := 2000) H6 rfl (by intro x hx; simp at hx; rcases hx with rfl | rfl | rfl | rfl <;> omega) (by simp) (by decide))
      have HT3 : Hid (T = joinB spaceB [stripB, S, recB, C]) := Lib.hid (by rw [HT2.out, if_pos (by omega)]; rfl)
      have hbel := H6.below
      obtain ⟨A5, c5, rfl, _, _, _⟩ := Res.row_at H6.h0
      clear H5 H6 z1 z2
      go_wp2_with fail
      refine (HJ.out).mono ?_
      rintro e w6 ⟨rfl, b6⟩
      have hb6 := hbel.trans (b6.mono hbel.size)
      go_wp2
      go_ret
      exact ⟨by rw [HT3.out]; rfl, hb6⟩
    · have HR := Lib.hid (impl_rec0_c wd (w2.alloc (.cells #[.string ⟨#[115, 116, 114, 105, 112]⟩, .string S] 9)) (by omega))
      go_wp2_with fail
      refine (HR.out).mono ?_
      rintro e w3 ⟨v3, rfl, b3⟩
      have H1 := H0.step b3
      have z1 : stripB.size = 5 := rfl
      have HJ := Lib.hid (line_own (b := 2000) H1 rfl (by intro x hx; simp at hx; rcases hx with rfl | rfl <;> omega) (by simp) (by decide))
      have HT3 : Hid (T = joinB spaceB [stripB, S]) := Lib.hid (by rw [HT2.out, if_neg (by omega)]; rfl)
      have hbel := H1.below
      clear H0 H1 b3 HR z1
      go_wp2_with fail
      refine (HJ.out).mono ?_
      rintro e w6 ⟨rfl, b6⟩
      have hb6 := hbel.trans (b6.mono hbel.size)
      go_wp2
      go_ret
      exact ⟨by rw [HT3.out]; rfl, hb6⟩
set_option maxRecDepth 100000 in
set_option maxHeartbeats 8000000 in
theorem law_StripLine (a : Int) (b : Int) (w : World) (ht : Tab10 w) :
    Calls Tryd.prog 3 #[.int .i64 a, .int .i64 b] w fun e w' => e = .returned (.bool true) ∧ Below w.heap.size w w' := by
  have HI : Hid (∀ w1, Below w.heap.size w w1 → Calls Tryd.prog 7 #[.int .i64 a, .int .i64 b] w1 fun e w' => e = .returned (.string (stripT a b)) ∧ Below w1.heap.size w1 w') := Lib.hid fun w1 b1 => impl_sline_c w1 a b (tab10_on ht b1)
  clear ht
  go_enter Tryd.func3, Tryd.ntmps3
  go_wp2_with fail
  refine (spec_sline_c _ a b).mono ?_
  rintro e w1 ⟨rfl, b1⟩
  have HI1 := Lib.hid (HI.out w1 b1)
  go_wp2_with fail
  refine (HI1.out).mono ?_
  rintro e w2 ⟨rfl, b2⟩
  have b3 := b1.trans (b2.mono b1.size)
  go_wp2
  go_ret
  exact ⟨rfl, b3⟩
set_option maxRecDepth 100000 in
/-- a row's list gives the table -/
theorem tab10_of {x y : String × DataW Unit} {W : World} (h : laidMet Tryd.prog [x, y, ("internal/strconv.uint64pow10", Lib.tabData .u64 Lib.pow10Tab)] W) : Tab10 W := by
  have hs : ((Tryd.prog.globalNamed "internal/strconv.uint64pow10").bind fun g => (Tryd.prog.globals[g]?).map (·.type)) = some 135 := by kernel_rfl
  obtain ⟨g, hg, hty⟩ := Option.bind_eq_some_iff.1 hs
  exact Lib.tabIs_of_head hg hty Tryd.underlying135 Tryd.underlying109 (by kernel_rfl) (by kernel_rfl) h.tail.tail
end Go.Proofs.YtdbneilhgckhjaaDoor
