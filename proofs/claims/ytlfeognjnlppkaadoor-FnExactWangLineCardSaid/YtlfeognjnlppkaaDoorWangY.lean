
/-
  Wang tiles: the line of a report: the walks of both sides.
-/
import Derived.Test.YtlfeognjnlppkaaDoorWangX
import Derived.Test.YtlfeognjnlppkaaDoorWangVi
import Derived.Test.YtlfeognjnlppkaaDoorLine
namespace Go.Proofs.YtlfeognjnlppkaaDoor
open Go.RowKit

theorem inT.useW {l : List Wg} : ∀ (n : Nat) {o : List Nat}, inT l o → inT l (useW l n o)
  | 0, _, h => h
  | n + 1, _, h => inT.useW n h.step
theorem useW_len {l : List Wg} : ∀ (n : Nat) {o : List Nat}, (useW l n o).length ≤ o.length
  | 0, _ => Nat.le_refl _
  | n + 1, _ => Nat.le_trans (useW_len n) stepW_len
theorem useful_in {l : List Wg} (hl : l.length ≤ 6) : ∀ n ∈ fc (useful l), 0 ≤ n ∧ n ≤ 5 := by
  intro n hn
  obtain ⟨x, hx, rfl⟩ := List.mem_map.1 hn
  have := inT.useW 6 (inT.range (l := l)) x hx
  omega
theorem useful_len {l : List Wg} (hl : l.length ≤ 6) : (fc (useful l)).length ≤ 6 := by
  have := useW_len (l := l) 6 (o := List.range l.length)
  rw [fc_length]
  unfold useful
  rw [List.length_range] at this
  omega
theorem numT_size {l : List Int} (h : l.length ≤ 6) : (numT dgt l).size ≤ 16 := by
  unfold numT
  split
  · exact Nat.le_trans (show noneT.size ≤ 4 from Nat.le_refl _) (by decide)
  · have := joinB_size (s := commaB) (b := 1) (l := l.map dgt) (by
      intro x hx
      obtain ⟨n, _, rfl⟩ := List.mem_map.1 hx
      exact Nat.le_refl _)
    rw [List.length_map] at this
    have h1 : commaB.size = 1 := rfl
    rw [h1] at this
    omega
theorem verdict_size {l : List Wg} : (verdict l).size ≤ 20 := by
  unfold verdict
  have z : ∀ n, (dgt n).size = 1 := dgt_size
  split
  · simp only [ByteArray.size_append, z]; decide
  · split
    · simp only [ByteArray.size_append, z]; decide
    · decide
def wangParts (l : List Wg) : List ByteArray := [⟨#[119, 97, 110, 103]⟩, tilesTo l l.length, ⟨#[117, 115, 101, 102, 117, 108]⟩, numT dgt (fc (useful l)), ⟨#[115, 113, 117, 97, 114, 101]⟩, dgt (sqTo l 4 : Nat), verdict l]
def wangLine (l : List Wg) : ByteArray := if areW l then joinB spaceB (wangParts l) else ⟨#[]⟩
theorem wang_text (a b c d : ByteArray) : (⟨#[119, 97, 110, 103, 32]⟩ : ByteArray) ++ a ++ ⟨#[32, 117, 115, 101, 102, 117, 108, 32]⟩ ++ b ++ ⟨#[32, 115, 113, 117, 97, 114, 101, 32]⟩ ++ c ++ ⟨#[32]⟩ ++ d =
    joinB spaceB [⟨#[119, 97, 110, 103]⟩, a, ⟨#[117, 115, 101, 102, 117, 108]⟩, b, ⟨#[115, 113, 117, 97, 114, 101]⟩, c, d] := by
  apply ba_ext
  simp only [joinB_cons, joinB_one, spaceB, ba_app]
  simp [List.append_assoc]
theorem wangLine_yes {l : List Wg} (h : areW l = true) : wangLine l = joinB spaceB (wangParts l) := by unfold wangLine; rw [if_pos h]
theorem wangLine_no {l : List Wg} (h : areW l = false) : wangLine l = ⟨#[]⟩ := by unfold wangLine; rw [if_neg (by rw [h]; exact Bool.false_ne_true)]
theorem dig_S {l : List Int} (h : ∀ n ∈ l, 0 ≤ n ∧ n ≤ 5) (w : World) : ∀ n ∈ l, SNumAt w n (dgt n) := fun n hn w' _ => spec_dig_c n w' (h n hn).1 (h n hn).2
theorem dig_I {l : List Int} (h : ∀ n ∈ l, 0 ≤ n ∧ n ≤ 5) (w : World) : ∀ n ∈ l, INumAt w n (dgt n) := fun n hn w' _ => (impl_dig_c n w' (h n hn).1 (h n hn).2).mono fun _ _ ⟨he, hw⟩ => ⟨he, hw ▸ Below.refl _ _⟩

set_option maxRecDepth 100000 in
set_option maxHeartbeats 3200000 in
theorem spec_line_c {v : Value} {l : List Wg} (w : World) (hl0 : WangsRd w 0 w.heap.size v l) :
    Calls Tryd.prog 8 #[v] w fun e w' => e = .returned (.string (wangLine l)) ∧ Below w.heap.size w w' := by
  have HL0 := Lib.hid hl0
  obtain ⟨A, c, rfl, _, _⟩ := id hl0
  obtain ⟨R, hR⟩ : ∃ R, R = wangLine l := ⟨_, rfl⟩
  rw [← hR]
  have HR := Lib.hid hR
  clear hl0 hR
  go_enter Tryd.func8, Tryd.ntmps8
  go_wp2_with fail
  refine (spec_areW_c (l := l) w HL0.out).mono ?_
  rintro e w1 ⟨rfl, b1⟩
  obtain ⟨q, hq⟩ : ∃ q, q = areW l := ⟨_, rfl⟩
  rw [← hq]
  have HQ := Lib.hid hq
  clear hq
  cases q
  · obtain rfl : R = ⟨#[]⟩ := by rw [HR.out, wangLine_no HQ.out.symm]
    go_wp2
    go_ret
    exact ⟨rfl, b1⟩
  have hA : areW l = true := HQ.out.symm
  obtain ⟨hl1, hl6⟩ := areW_len hA
  have HA := Lib.hid hA
  have HR2 := Lib.hid (HR.out.trans (wangLine_yes hA))
  have HU := Lib.hid (useful_in hl6)
  have z1 := tilesTo_size (l := l) (Nat.le_refl l.length)
  have z2 := numT_size (useful_len hl6)
  have z3 := verdict_size (l := l)
  have z4 : (dgt (sqTo l 4 : Nat)).size ≤ 1 := Nat.le_refl _
  have z5 : (tilesTo l l.length).size ≤ 30 := by omega
  have z6 := useful_len hl6
  have z7 := sqTo_le (l := l) 4
  clear hA HR HQ z1
  go_wp2_with fail
  refine (spec_fmtW_c (l := l) w1 ((HL0.out.keep (SameIn.of_below b1 (Nat.le_refl _))).more (Nat.le_refl _) b1.size) HA.out hl1 hl6).mono ?_
  rintro e w2 ⟨rfl, b2⟩
  have hb2 := b1.trans (b2.mono b1.size)
  clear b1 b2
  go_wp2_with fail
  refine (spec_useful_c (l := l) w2 ((HL0.out.keep (SameIn.of_below hb2 (Nat.le_refl _))).more (Nat.le_refl _) hb2.size) HA.out hl1 hl6).mono ?_
  rintro e w3 ⟨v3, rfl, o3, b3⟩
  have hb3 := hb2.trans (b3.mono hb2.size)
  have HN := Lib.hid (l34Numbers_c (f := dgt) w3 (o3.rd.more (Nat.zero_le _) (Nat.le_refl _)) (dig_S HU.out w3) (fun n _ => Nat.le_refl _) (fun n _ => by rw [dgt_size]; decide) (by omega))
  obtain ⟨A3, c3, rfl, _, _⟩ := o3.rd
  clear b3 hb2 o3
  go_wp2_with fail
  refine (HN.out).mono ?_
  rintro e w4 ⟨rfl, b4⟩
  have hb4 := hb3.trans (b4.mono hb3.size)
  clear HN b4 hb3
  go_wp2_with fail
  refine (spec_sq_c (l := l) w4 ((HL0.out.keep (SameIn.of_below hb4 (Nat.le_refl _))).more (Nat.le_refl _) hb4.size) HA.out).mono ?_
  rintro e w5 ⟨rfl, b5⟩
  have hb5 := hb4.trans (b5.mono hb4.size)
  clear hb4 b5
  go_wp2_with fail
  refine (spec_dig_c _ w5 (by omega) (by omega)).mono ?_
  rintro e w6 ⟨rfl, b6⟩
  have hb6 := hb5.trans (b6.mono hb5.size)
  clear hb5 b6
  go_wp2_with fail
  refine (spec_verdict_c (l := l) w6 ((HL0.out.keep (SameIn.of_below hb6 (Nat.le_refl _))).more (Nat.le_refl _) hb6.size) HA.out).mono ?_
  rintro e w7 ⟨rfl, b7⟩
  have hb7 := hb6.trans (b7.mono hb6.size)
  clear hb6 b7
  go_wp2
  go_ret
  exact ⟨by rw [HR2.out, wangParts, ← wang_text]; rfl, hb7⟩
set_option maxRecDepth 100000 in
set_option maxHeartbeats 3200000 in
theorem impl_line_c {v : Value} {l : List Wg} (w : World) (hl0 : WangsRd w 0 w.heap.size v l) :
    Calls Tryd.prog 10 #[v] w fun e w' => e = .returned (.string (wangLine l)) ∧ Below w.heap.size w w' := by
  have HL0 := Lib.hid hl0
  obtain ⟨A, c, rfl, _, _⟩ := id hl0
  obtain ⟨R, hR⟩ : ∃ R, R = wangLine l := ⟨_, rfl⟩
  rw [← hR]
  have HR := Lib.hid hR
  clear hl0 hR
  go_enter Tryd.func10, Tryd.ntmps10
  go_wp2_with fail
  refine (impl_areW_c (l := l) w HL0.out).mono ?_
  rintro e w1 ⟨rfl, b1⟩
  obtain ⟨q, hq⟩ : ∃ q, q = areW l := ⟨_, rfl⟩
  rw [← hq]
  have HQ := Lib.hid hq
  clear hq
  cases q
  · obtain rfl : R = ⟨#[]⟩ := by rw [HR.out, wangLine_no HQ.out.symm]
    go_wp2
    go_ret
    exact ⟨rfl, b1⟩
  have hA : areW l = true := HQ.out.symm
  obtain ⟨hl1, hl6⟩ := areW_len hA
  have HA := Lib.hid hA
  have HR2 := Lib.hid (HR.out.trans (wangLine_yes hA))
  have HU := Lib.hid (useful_in hl6)
  have z1 := tilesTo_size (l := l) (Nat.le_refl l.length)
  have z2 := numT_size (useful_len hl6)
  have z3 := verdict_size (l := l)
  have z4 : (dgt (sqTo l 4 : Nat)).size ≤ 1 := Nat.le_refl _
  have z5 : (tilesTo l l.length).size ≤ 30 := by omega
  have z6 := useful_len hl6
  have z7 := sqTo_le (l := l) 4
  clear hA HR HQ z1
  go_wp2_with fail
  refine (impl_fmtW_c (l := l) w1 ((HL0.out.keep (SameIn.of_below b1 (Nat.le_refl _))).more (Nat.le_refl _) b1.size) HA.out hl1 hl6).mono ?_
  rintro e w2 ⟨rfl, b2⟩
  have hb2 := b1.trans (b2.mono b1.size)
  clear b1 b2
  go_wp2_with fail
  refine (impl_useful_c (l := l) w2 ((HL0.out.keep (SameIn.of_below hb2 (Nat.le_refl _))).more (Nat.le_refl _) hb2.size) HA.out hl1 hl6).mono ?_
  rintro e w3 ⟨v3, rfl, o3, b3⟩
  have hb3 := hb2.trans (b3.mono hb2.size)
  have HN := Lib.hid (numbersText_c (f := dgt) w3 (o3.rd.more (Nat.zero_le _) (Nat.le_refl _)) (dig_I HU.out w3) (fun n _ => by rw [dgt_size]; decide) (by omega))
  obtain ⟨A3, c3, rfl, _, _⟩ := o3.rd
  clear b3 hb2 o3
  go_wp2_with fail
  refine (HN.out).mono ?_
  rintro e w4 ⟨rfl, b4⟩
  have hb4 := hb3.trans (b4.mono hb3.size)
  clear HN b4 hb3
  go_wp2_with fail
  refine (impl_sq_c (l := l) w4 ((HL0.out.keep (SameIn.of_below hb4 (Nat.le_refl _))).more (Nat.le_refl _) hb4.size) HA.out).mono ?_
  rintro e w5 ⟨rfl, b5⟩
  have hb5 := hb4.trans (b5.mono hb4.size)
  clear hb4 b5
  go_wp2_with fail
  refine (impl_dig_c _ w5 (by omega) (by omega)).mono ?_
  rintro e w6 ⟨rfl, rfl⟩
  go_wp2_with fail
  refine (impl_verdict_c (l := l) w5 ((HL0.out.keep (SameIn.of_below hb5 (Nat.le_refl _))).more (Nat.le_refl _) hb5.size) HA.out).mono ?_
  rintro e w7 ⟨rfl, b7⟩
  have hb7 := hb5.trans (b7.mono hb5.size)
  clear hb5 b7
  have H7 := (Sep.start w7).rowBox 9 (sc (wangParts l)).toArray 1 7 rfl (by decide)
  have HLN := Lib.hid (line_own (b := 1000) (l := wangParts l) H7 rfl (by
    intro x hx
    simp only [wangParts, List.mem_cons, List.not_mem_nil, or_false] at hx
    rcases hx with rfl | rfl | rfl | rfl | rfl | rfl | rfl
    · decide
    · omega
    · decide
    · omega
    · decide
    · omega
    · omega) (by simp [wangParts]) (by decide))
  have hb8 := hb7.trans (H7.below.mono hb7.size)
  clear H7
  go_wp2_with fail
  refine (HLN.out).mono ?_
  rintro e w8 ⟨rfl, b8⟩
  have hb9 := hb8.trans (b8.mono hb8.size)
  go_wp2
  go_ret
  exact ⟨by rw [HR2.out]; rfl, hb9⟩
end Go.Proofs.YtlfeognjnlppkaaDoor
