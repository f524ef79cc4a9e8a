
/-
  The law FnExactClaimOfPeriod, walked by contracts.
-/
import Derived.Test.YtlfeognjnlppkaaWangN
import Derived.Deep.DeepCutAuto
namespace Go.Proofs.Ytlfeognjnlppkaa
open Go.RowKit

theorem Sep.join {w0 w w' : World} {L : List Res} (h : Sep w0 w L) : ∀ {L' : List Res}, Sep w w' L' → Sep w0 w' (L' ++ L)
  | [], hb => h.step hb
  | r :: L', k => ⟨k.1, fun b hb => Nat.le_trans h.size (k.2.1 b hb), fun q hq b hb hq' => (List.mem_append.1 hq).elim (fun hq => k.2.2.1 q hq b hb hq') (fun hq => by have h1 := k.2.1 b hb; have := q.inn (h.inn q hq).1 hq'; omega), Sep.join h k.drop⟩

theorem Sep.cut {w0 w : World} {L : List Res} : ∀ {L' : List Res}, Sep w0 w (L' ++ L) → Sep w0 w L
  | [], h => h
  | _ :: _, h => Sep.cut (Sep.drop h)
theorem Sep.join2 {w0 w w' : World} {a b : Res} {L L' : List Res} (h : Sep w0 w L) (k : Sep w w' (a :: b :: L')) : Sep w0 w' (a :: b :: L) :=
  have K : Sep w0 w' (a :: b :: (L' ++ L)) := Sep.join h k
  K.onTail (fun q hq => by simp only [List.mem_cons, List.mem_append] at *; grind) (K.drop.onTail (fun q hq => List.mem_append.2 (.inr hq)) (Sep.cut K.drop.drop))

theorem wpList_load_rowW {P : Program} {ops : Array Oper} {rest : List Oper} {o : Oper} {a : Act} {w : World} {Q : Exit → Act → World → Prop} (hw : Region.wanted o (yielded ops a.tmps) = true) (ty : TypeId) (x : Operand) (ho : o.op = .load ty x)
    (g : Nat) (hx : a.eval x = .pointer (some ⟨g, 0, none⟩)) (t : TypeId) (cs : Array Value) (fr : Nat × Nat) (d : TypeDesc) (hg : w.heap[g]? = some (.cells cs t fr))
    (hu : P.underlying ty = some d) (hd : (match d with | .struct _ | .array _ _ => true | _ => false) = true) (hi : (P.info? ty).map (·.size) = some cs.size)
    (h : wpList P ops Q rest (a.put o.dst (.agg cs)) w) : wpList P ops Q (o :: rest) a w :=
  wpList_step fun _ hK => by rw [if_pos hw]; exact wp_load_row ty x ho g hx t cs fr d hg hu hd hi (hK _ _ h)

theorem perClm_rd {w : World} {v1 v2 : Value} {l : List Wg} {S : Option Per} {C : Clm} (hC : C = perClm l S) (h1 : IntsRd w 0 w.heap.size v1 (perM S)) (h2 : WangsRd w 0 w.heap.size v2 (perG l S)) :
    ClmRd w 0 w.heap.size (.agg #[.int .i64 (perK S), .int .i64 0, .slice none 0 0, .slice none 0 0, v1, .string ⟨#[]⟩, .int .i64 0, .slice none 0 0, .int .i64 0, v2, .int .i64 (perA S), .int .i64 (perB S)]) C := by
  subst hC
  exact ⟨_, _, _, _, _, rfl, IntsIn.nil.rd, CellSSRd.nil, h1, IntsIn.nil.rd, h2⟩

set_option maxRecDepth 100000 in
set_option maxHeartbeats 3200000 in
theorem law_ClaimOfPeriod (v : Value) (l : List Wg) (w : World) (h : WangsRd w 0 w.heap.size v l) :
    Calls Try.prog 4 #[v] w fun e w' => e = .returned (.bool true) ∧ Below w.heap.size w w' := by
  have HL := Lib.hid h
  clear h
  obtain ⟨S, hS⟩ : ∃ S, S = period l := ⟨_, rfl⟩
  have HS := Lib.hid hS
  clear hS
  have H := Sep.start w
  go_enter Try.func4, Try.ntmps4
  go_wp2_with fail
  refine (szWangS_c (x := l) 1048576 w HL.out (by omega) (by omega)).mono ?_
  rintro e w1 ⟨rfl, rfl⟩
  by_cases k1 : (1048576 : Int) < l.length
  · rw [if_pos k1]
    go_wp2
    go_ret
    exact ⟨rfl, Below.refl _ _⟩
  rw [if_neg k1]
  have hn : l.length ≤ 1048576 := by omega
  clear k1
  go_wp2_with fail
  refine (toWangS_c (l := l) w HL.out hn).mono ?_
  rintro e w2 ⟨v2, rfl, o2, b2⟩
  go_wp2_with fail
  refine (spec_claimPer_c (l := l) w2 (o2.rd.more (Nat.zero_le _) (Nat.le_refl _)) hn).mono ?_
  rintro e w3 ⟨v3, rfl, o3, b3⟩
  have b03 := b2.trans (b3.mono b2.size)
  rw [← HS.out] at o3 ⊢
  obtain ⟨C, hC⟩ : ∃ C, C = perClm l S := ⟨_, rfl⟩
  rw [← hC] at o3
  have HC := Lib.hid hC
  clear hC
  obtain ⟨s1, s2, s3, s4, s5, rfl, ⟨A1, c1, rfl, _, _⟩, ⟨_, ⟨A2, c2, rfl, _, _⟩, _⟩, ⟨A3, c3, rfl, _, _⟩, ⟨A4, c4, rfl, _, _⟩, ⟨A5, c5, rfl, _, _⟩⟩ := id o3
  unfold clmV at o3 ⊢
  clear b2 o2 b3
  have HALL : ((#[.int .i64 C.kind, .int .i64 C.reg.w, .slice A1 C.reg.rows.length c1, .slice A2 C.pieces.length c2, .slice A3 C.masks.length c3, .string C.text, .int .i64 C.prime, .slice A4 C.weights.length c4, .int .i64 C.mask, .slice A5 C.wang.length c5, .int .i64 C.width, .int .i64 C.height] : Array Value).all (·.oneCell')) = true := by simp [Value.oneCell']
  have K0 := (Sep.start w3).box 38 #[.int .i64 0, .int .i64 0, .slice none 0 0, .slice none 0 0, .slice none 0 0, .string ⟨#[]⟩, .int .i64 0, .slice none 0 0, .int .i64 0, .slice none 0 0, .int .i64 0, .int .i64 0]
  go_wp2_with (refine wpList_store_row rfl 38 _ _ rfl w3.heap.size #[.int .i64 C.kind, .int .i64 C.reg.w, .slice A1 C.reg.rows.length c1, .slice A2 C.pieces.length c2, .slice A3 C.masks.length c3, .string C.text, .int .i64 C.prime, .slice A4 C.weights.length c4, .int .i64 C.mask, .slice A5 C.wang.length c5, .int .i64 C.width, .int .i64 C.height] rfl rfl 38 _ K0.h0 (by kernel_rfl) rfl HALL ?_)
  have K4 := K0.setAll #[.int .i64 C.kind, .int .i64 C.reg.w, .slice A1 C.reg.rows.length c1, .slice A2 C.pieces.length c2, .slice A3 C.masks.length c3, .string C.text, .int .i64 C.prime, .slice A4 C.weights.length c4, .int .i64 C.mask, .slice A5 C.wang.length c5, .int .i64 C.width, .int .i64 C.height]
  clear K0 HALL
  generalize ((w3.alloc (.cells #[.int .i64 0, .int .i64 0, .slice none 0 0, .slice none 0 0, .slice none 0 0, .string ⟨#[]⟩, .int .i64 0, .slice none 0 0, .int .i64 0, .slice none 0 0, .int .i64 0, .int .i64 0] 38)).setRow w3.heap.size #[.int .i64 C.kind, .int .i64 C.reg.w, .slice A1 C.reg.rows.length c1, .slice A2 C.pieces.length c2, .slice A3 C.masks.length c3, .string C.text, .int .i64 C.prime, .slice A4 C.weights.length c4, .int .i64 C.mask, .slice A5 C.wang.length c5, .int .i64 C.width, .int .i64 C.height]) = w4 at *
  have hl4 := (HL.out.keep (SameIn.of_below (b03.trans (K4.below.mono b03.size)) (Nat.le_refl _))).more (Nat.le_refl _) (Nat.le_trans b03.size K4.size)
  refine (toWangS_c (l := l) w4 hl4 hn).mono ?_
  rintro e w5 ⟨v5, rfl, o5, b5⟩
  have K5 := K4.oiNew b5 o5
  clear hl4 b5
  go_wp2_with fail
  refine (impl_claimPer_c (l := l) w5 (o5.rd.more (Nat.zero_le _) (Nat.le_refl _)) hn).mono ?_
  intro e w6 hp
  rw [← HS.out] at hp
  obtain ⟨g1, g2, L6, rfl, k6⟩ := hp
  have K6 := Sep.join2 K5 k6
  obtain ⟨B1, d1, rfl, _, _, _⟩ := Res.row_at K6.h0
  obtain ⟨B2, d2, rfl, _, _, _⟩ := Res.row_at K6.h1
  have K7 := K6.box 38 #[.int .i64 0, .int .i64 0, .slice none 0 0, .slice none 0 0, .slice none 0 0, .string ⟨#[]⟩, .int .i64 0, .slice none 0 0, .int .i64 0, .slice none 0 0, .int .i64 0, .int .i64 0]
  clear k6 K5
  unfold perV
  have HALL : ((#[.int .i64 (perK S), .int .i64 0, .slice none 0 0, .slice none 0 0, .slice B1 (perM S).length d1, .string ⟨#[]⟩, .int .i64 0, .slice none 0 0, .int .i64 0, .slice B2 (perG l S).length d2, .int .i64 (perA S), .int .i64 (perB S)] : Array Value).all (·.oneCell')) = true := by simp [Value.oneCell']
  go_wp2_with (first
    | (refine wpList_store_row rfl 38 _ _ rfl w6.heap.size #[.int .i64 (perK S), .int .i64 0, .slice none 0 0, .slice none 0 0, .slice B1 (perM S).length d1, .string ⟨#[]⟩, .int .i64 0, .slice none 0 0, .int .i64 0, .slice B2 (perG l S).length d2, .int .i64 (perA S), .int .i64 (perB S)] rfl rfl 38 _ K7.h0 (by kernel_rfl) rfl HALL ?_; have K8 := K7.setAll #[.int .i64 (perK S), .int .i64 0, .slice none 0 0, .slice none 0 0, .slice B1 (perM S).length d1, .string ⟨#[]⟩, .int .i64 0, .slice none 0 0, .int .i64 0, .slice B2 (perG l S).length d2, .int .i64 (perA S), .int .i64 (perB S)])
    | (refine wpList_load_row rfl 38 _ rfl (w6.heap.size) rfl 38 _ _ _ K8.h0 Try.underlying38 rfl (by kernel_rfl) ?_)
    | (refine wpList_load_row rfl 38 _ rfl (w3.heap.size) rfl 38 _ _ _ K8.h4 Try.underlying38 rfl (by kernel_rfl) ?_))
  clear K6 K7 HALL
  generalize hw8 : (w6.alloc (.cells #[.int .i64 0, .int .i64 0, .slice none 0 0, .slice none 0 0, .slice none 0 0, .string ⟨#[]⟩, .int .i64 0, .slice none 0 0, .int .i64 0, .slice none 0 0, .int .i64 0, .int .i64 0] 38)).setRow w6.heap.size _ = w8 at *
  clear hw8
  refine (eqClaim_c (a := C) w8 (perClm_rd HC.out ((IntsIn.mk K8.drop.oi.1 rfl rfl).rd.more (Nat.zero_le _) (Nat.le_refl _)) ((WangsIn.mk K8.drop.drop.oi.1 rfl rfl).rd.more (Nat.zero_le _) (Nat.le_refl _))) ((o3.keep (SameIn.of_below K8.below (Nat.le_refl _))).more (Nat.le_refl _) K8.size)).mono ?_
  rintro e w9 ⟨rfl, b9⟩
  have K9 := K8.step b9
  clear b9 K8
  go_wp2_with fail
  have hl9 := (HL.out.keep (SameIn.of_below (b03.trans (K9.below.mono b03.size)) (Nat.le_refl _))).more (Nat.le_refl _) (Nat.le_trans b03.size K9.size)
  refine (toWangS_c (l := l) w9 hl9 hn).mono ?_
  rintro e w10 ⟨v10, rfl, o10, b10⟩
  have K10 := K9.step b10
  clear hl9 b10 K9
  go_wp2_with fail
  refine (eqWangS_c (l := l) w10 ((WangsIn.mk K10.drop.drop.drop.oi.1 rfl rfl).rd.more (Nat.zero_le _) (Nat.le_refl _)) (o10.rd.more (Nat.zero_le _) (Nat.le_refl _))).mono ?_
  rintro e w11 ⟨rfl, b11⟩
  have K11 := K10.step b11
  clear b11 K10 o10
  go_wp2_with fail
  refine (markWangS_s (x := l) 1 w11 hn (by omega) (by omega) K11.g3).mono ?_
  rintro e w12 ⟨rfl, K12⟩
  clear K11
  have hk1 : decide ((1 : Int) + 4 * (l.length : Int) < 0) = false := by simp; omega
  go_wp2_with (first
    | (refine wpList_load_rowW rfl 38 _ rfl w6.heap.size rfl 38 _ _ _ K12.h1 Try.underlying38 rfl (by kernel_rfl) ?_)
    | (refine wpList_load_rowW rfl 38 _ rfl w3.heap.size rfl 38 _ _ _ K12.h4 Try.underlying38 rfl (by kernel_rfl) ?_))
  refine (eqClaim_c (a := C) w12 (perClm_rd HC.out ((IntsIn.mk K12.drop.drop.oi.1 rfl rfl).rd.more (Nat.zero_le _) (Nat.le_refl _)) ((WangsIn.mk K12.drop.drop.drop.oi.1 rfl rfl).rd.more (Nat.zero_le _) (Nat.le_refl _))) ((o3.keep (SameIn.of_below K12.below (Nat.le_refl _))).more (Nat.le_refl _) K12.size)).mono ?_
  rintro e w13 ⟨rfl, b13⟩
  have K13 := (K12.step b13).drop.g2.g2
  clear b13 K12 hk1
  go_wp2_with (first
    | (refine wpList_load_rowW rfl 38 _ rfl w6.heap.size rfl 38 _ _ _ K13.h2 Try.underlying38 rfl (by kernel_rfl) ?_)
    | (refine wpList_load_rowW rfl 38 _ rfl w3.heap.size rfl 38 _ _ _ K13.h3 Try.underlying38 rfl (by kernel_rfl) ?_))
  have m9 : (perM S).length ≤ 9 := by
    rcases S with _ | ⟨f, x, y⟩
    · exact Nat.zero_le _
    · have := period_len HS.out.symm; simpa [perM, fc] using this
  have n9 : (perG l S).length ≤ 1048576 := by cases S <;> simp [perG] <;> omega
  refine (markPer_s (perK S) (perA S) (perB S) 1 w13 (by omega) n9 (by omega) (by omega) K13).mono ?_
  rintro e w14 ⟨rfl, K14⟩
  clear K13
  obtain ⟨q, hq⟩ : ∃ q : Int, q = 1 + ((perM S).length : Int) + 4 * ((perG l S).length : Int) := ⟨_, rfl⟩
  rw [← hq]
  have q0 : 0 ≤ q := by omega
  have q1 : q ≤ 10000000 := by omega
  have HQ := Lib.hid hq
  clear hq
  have HH : Hid (∀ (w' : World) (L : List Res), Sep w3 w' (Res.row (.slice B1 (perM S).length d1) 3 1 (perM S).length (ic (Ints.mk 1 (perM S))) :: Res.row (.slice B2 (perG l S).length d2) 62 4 (perG l S).length (wgc (Wgs.mk (1 + ((perM S).length : Int)) (perG l S))) :: L) → Calls Try.prog 18 #[.agg #[.int .i64 (perK S), .int .i64 0, .slice none 0 0, .slice none 0 0, .slice B1 (perM S).length d1, .string ⟨#[]⟩, .int .i64 0, .slice none 0 0, .int .i64 0, .slice B2 (perG l S).length d2, .int .i64 (perA S), .int .i64 (perB S)], .int .i64 1] w' fun e w'' => e = .returned (.int .i64 q) ∧ Below w'.heap.size w' w'') := Lib.hid fun w' L K => by
    rw [HQ.out]
    exact heldPer_c (perK S) (perA S) (perB S) 1 w' (by omega) n9 (by omega) (by omega) ((IntsIn.mk K.oi.1 (by simp [Ints.mk]) rfl).rd.more (Nat.zero_le _) (Nat.le_refl _)) ((WangsIn.mk K.drop.oi.1 (by rw [Wgs.mk_length]) rfl).rd.more (Nat.zero_le _) (Nat.le_refl _))
  have m9' := Lib.hid m9
  have n9' := Lib.hid n9
  clear m9 n9
  go_wp2_with (first
    | (refine wpList_load_rowW rfl 38 _ rfl w6.heap.size rfl 38 _ _ _ K14.h2 Try.underlying38 rfl (by kernel_rfl) ?_))
  refine (HH.out w14 _ K14).mono ?_
  rintro e w15 ⟨rfl, b15⟩
  have K15 := K14.step b15
  clear b15 K14
  go_wp2_with fail
  refine (toWangS_c (l := l) w15 ((HL.out.keep (SameIn.of_below (b03.trans (K15.below.mono b03.size)) (Nat.le_refl _))).more (Nat.le_refl _) (Nat.le_trans b03.size K15.size)) hn).mono ?_
  rintro e w16 ⟨v16, rfl, o16, b16⟩
  have K16 := K15.step b16
  clear b16 K15
  go_wp2_with fail
  refine (impl_claimPer_c (l := l) w16 (o16.rd.more (Nat.zero_le _) (Nat.le_refl _)) hn).mono ?_
  intro e w17 hp
  rw [← HS.out] at hp
  obtain ⟨x1, x2, L17, rfl, k17⟩ := hp
  have K17 := Sep.join2 K16 k17
  obtain ⟨E1, f1, rfl, _, _, _⟩ := Res.row_at K17.h0
  obtain ⟨E2, f2, rfl, _, _, _⟩ := Res.row_at K17.h1
  have K18 := K17.box 38 #[.int .i64 0, .int .i64 0, .slice none 0 0, .slice none 0 0, .slice none 0 0, .string ⟨#[]⟩, .int .i64 0, .slice none 0 0, .int .i64 0, .slice none 0 0, .int .i64 0, .int .i64 0]
  clear k17 K16 o16
  unfold perV
  have HALL : ((#[.int .i64 (perK S), .int .i64 0, .slice none 0 0, .slice none 0 0, .slice E1 (perM S).length f1, .string ⟨#[]⟩, .int .i64 0, .slice none 0 0, .int .i64 0, .slice E2 (perG l S).length f2, .int .i64 (perA S), .int .i64 (perB S)] : Array Value).all (·.oneCell')) = true := by simp [Value.oneCell']
  go_wp2_with (first
    | (refine wpList_store_row rfl 38 _ _ rfl w17.heap.size #[.int .i64 (perK S), .int .i64 0, .slice none 0 0, .slice none 0 0, .slice E1 (perM S).length f1, .string ⟨#[]⟩, .int .i64 0, .slice none 0 0, .int .i64 0, .slice E2 (perG l S).length f2, .int .i64 (perA S), .int .i64 (perB S)] rfl rfl 38 _ K18.h0 (by kernel_rfl) rfl HALL ?_; have K19 := K18.setAll #[.int .i64 (perK S), .int .i64 0, .slice none 0 0, .slice none 0 0, .slice E1 (perM S).length f1, .string ⟨#[]⟩, .int .i64 0, .slice none 0 0, .int .i64 0, .slice E2 (perG l S).length f2, .int .i64 (perA S), .int .i64 (perB S)])
    | (refine wpList_load_rowW rfl 38 _ rfl (w17.heap.size) rfl 38 _ _ _ K19.h0 Try.underlying38 rfl (by kernel_rfl) ?_)
    | (refine wpList_load_rowW rfl 38 _ rfl (w3.heap.size) rfl 38 _ _ _ K19.drop.drop.h4 Try.underlying38 rfl (by kernel_rfl) ?_))
  clear K17 K18 HALL
  generalize hw19 : (w17.alloc (.cells #[.int .i64 0, .int .i64 0, .slice none 0 0, .slice none 0 0, .slice none 0 0, .string ⟨#[]⟩, .int .i64 0, .slice none 0 0, .int .i64 0, .slice none 0 0, .int .i64 0, .int .i64 0] 38)).setRow w17.heap.size _ = w19 at *
  clear hw19
  refine (eqClaim_c (a := C) w19 (perClm_rd HC.out ((IntsIn.mk K19.drop.oi.1 rfl rfl).rd.more (Nat.zero_le _) (Nat.le_refl _)) ((WangsIn.mk K19.drop.drop.oi.1 rfl rfl).rd.more (Nat.zero_le _) (Nat.le_refl _))) ((o3.keep (SameIn.of_below K19.below (Nat.le_refl _))).more (Nat.le_refl _) K19.size)).mono ?_
  rintro e w20 ⟨rfl, b20⟩
  have K20 := (K19.step b20).drop.drop.drop
  clear b20 K19
  go_wp2_with (first
    | (refine wpList_load_rowW rfl 38 _ rfl w6.heap.size rfl 38 _ _ _ K20.h2 Try.underlying38 rfl (by kernel_rfl) ?_))
  refine (HH.out w20 _ K20).mono ?_
  rintro e w21 ⟨rfl, b21⟩
  have K21 := K20.step b21
  clear b21 K20
  go_wp2_with fail
  go_ret
  exact ⟨rfl, b03.trans (K21.below.mono b03.size)⟩
end Go.Proofs.Ytlfeognjnlppkaa
