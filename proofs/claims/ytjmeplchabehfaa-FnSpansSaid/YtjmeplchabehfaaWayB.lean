
/-
  The walk of the program's search by breadth.
-/
import Derived.Test.YtjmeplchabehfaaWayA
import Derived.Test.YtjmeplchabehfaaQueue
import Derived.Deep.LoopGhost
import Derived.Outline
namespace Go.Proofs.Ytjmeplchabehfaa
open Go.RowKit

def keys (S : List (Cell × Cell)) : List Cell := S.map (·.1)
theorem keys_length {S : List (Cell × Cell)} : (keys S).length = S.length := by simp [keys]
theorem keys_append (S T : List (Cell × Cell)) : keys (S ++ T) = keys S ++ keys T := by simp [keys]

theorem own_one (w : World) {lo : Nat} (h : lo ≤ w.heap.size) (a b : Value) (e : TypeId) : (w.alloc (.cells #[a, b] e)).ownsRow lo e 2 (.slice (some ⟨w.heap.size, 0, none⟩) 1 1) 1 [a, b] :=
  ⟨rfl, .inr ⟨w.heap.size, 1, #[a, b], rfl, h, heap_alloc_new w _, Nat.le_refl _, by decide, rfl, rfl⟩⟩
theorem cc_one {l : List Cell} : ∀ u ∈ cc l, u.oneCell' = true := by
  induction l with
  | nil => intro u hu; cases hu
  | cons c l ih =>
    intro u hu
    have hu : u ∈ [Value.int .i64 c.x, Value.int .i64 c.y] ++ cc l := hu
    rcases List.mem_append.1 hu with h | h
    · simp at h
      rcases h with rfl | rfl <;> rfl
    · exact ih u h
theorem own_more {w : World} {lo lo' n sz : Nat} {e : TypeId} {v : Value} {xs : List Value} (h : w.ownsRow lo e sz v n xs) (hl : lo' ≤ lo) : w.ownsRow lo' e sz v n xs :=
  ⟨h.1, h.2.imp id fun ⟨g, cap, cur, e, hb, r⟩ => ⟨g, cap, cur, e, by omega, r⟩⟩
theorem own_at {w : World} {lo n sz : Nat} {e : TypeId} {v : Value} {xs : List Value} (h : w.ownsRow lo e sz v n xs) (hn : 0 < n) : ∃ g cap, v = .slice (some ⟨g, 0, none⟩) n cap ∧ n ≤ cap ∧ lo ≤ g ∧ ∀ j u, xs[j]? = some u → w.cell? ((⟨g, 0, none⟩ : Addr).add j) = some u := by
  have hc := @World.ownsRow.cells w lo e sz v n xs h
  rcases h.2 with ⟨_, h0⟩ | ⟨g, cap, cur, rfl, h1, hb, h2, h3, h4⟩
  · omega
  · exact ⟨g, cap, rfl, h2, h1, hc rfl⟩
set_option maxRecDepth 100000 in
theorem run_neq_cell (w : World) (a b : Cell) : (binOp .neq 62 (cv a) (cv b)).run Try.prog w = .ok (.bool (!decide (a = b))) w := by
  have h := run_equal_cell w a b
  unfold cv at h ⊢
  simp [binOp, h]

theorem Cell.ext {a b : Cell} (hx : a.x = b.x) (hy : a.y = b.y) : a = b := by
  cases a; cases b; simp at hx hy; subst hx; subst hy; rfl

set_option maxRecDepth 100000 in
set_option maxHeartbeats 6400000 in
theorem spanFrom {start : List Cell} {vs : Value} (around : Cell → List Cell) (opn done : Cell → Bool) (g : Nat) (w : World) (G : List Cell)
    (hst : CellsRd w 0 w.heap.size vs start) (hnd : start.Nodup) (hN : G.length ≤ 36) (hG : ∀ c, opn c = true → c ∈ G) (hnear : ∀ c, opn c = true → Near c) (har : ∀ c, (around c).length ≤ 9) (hsl : start.length ≤ 6)
    (hA : ∀ c W, Near c → Calls Try.prog 88 #[cv c] W fun e w' => ∃ v, e = .returned v ∧ CellsIn w' W.heap.size w'.heap.size v (around c) ∧ Below W.heap.size W w')
    (hO : ∀ c W, Below w.heap.size w W → Calls Try.prog 89 #[cv c, .pointer (some ⟨g, 0, none⟩)] W fun e w' => e = .returned (.bool (opn c)) ∧ Below W.heap.size W w')
    (hD : ∀ c W, Below w.heap.size w W → Calls Try.prog 91 #[cv c, .pointer (some ⟨g, 0, none⟩)] W fun e w' => e = .returned (.bool (done c)) ∧ Below W.heap.size W w') :
    Calls Try.prog 87 #[vs, .func (.func 88) #[] #[], .func (.func 89) #[] #[.pointer (some ⟨g, 0, none⟩)], .func (.func 91) #[] #[.pointer (some ⟨g, 0, none⟩)]] w fun e w' => ∃ v, e = .returned (.tuple #[v, .bool (bfs around opn done 37 (roots opn start) 0).isSome]) ∧
      CellsIn w' w.heap.size w'.heap.size v ((bfs around opn done 37 (roots opn start) 0).getD []) ∧ Below w.heap.size w w' := by
  obtain ⟨i0, hi, hz0, hz1, hz2⟩ := info_parts infoCell
  have hmm := @run_makeMap Try.prog
  obtain ⟨A, c, rfl, hm, hr⟩ := hst
  obtain ⟨R, hR⟩ : ∃ R, R = bfs around opn done 37 (roots opn start) 0 := ⟨_, rfl⟩
  rw [← hR]
  have HR := Lib.hid hR
  have HA := Lib.hid hA
  have HO := Lib.hid hO
  have HD := Lib.hid hD
  have HG := Lib.hid hG
  have HNR := Lib.hid hnear
  have HAR := Lib.hid har
  have HND := Lib.hid hnd
  have hbel : Below w.heap.size w (w.alloc (.map #[] 0)) := (Below.refl _ _).alloc (Nat.le_refl _) _
  have hmap := MapIs.made w
  have HZ : w.heap.size + 1 ≤ (w.alloc (.map #[] 0)).heap.size := by simp
  clear hR hA hO hD hG hnear har hnd
  go_enter Try.func87, Try.ntmps87
  go_wp2
  clear hmm
  generalize w.alloc (.map #[] 0) = W at *
  go_loopw [11, 23] (fun t i wr => ∃ k : Nat, k ≤ start.length ∧ i = .int .i64 k ∧ QI wr (w.heap.size + 1) 62 2 t (keys (roots opn (start.take k))).length (cc (keys (roots opn (start.take k)))) ∧ MapIs wr w.heap.size (roots opn (start.take k)) ∧ Below w.heap.size w wr ∧ w.heap.size + 1 ≤ wr.heap.size) (fun _ i _ => start.length - (intOf i).toNat)
  case atStart => exact ⟨0, Nat.zero_le _, rfl, QI.nil, hmap, hbel, HZ⟩
  case round =>
    obtain ⟨k, hk, rfl, hq, hmp, hbr, hz⟩ := hrel
    by_cases hlt : k < start.length
    · obtain ⟨b, off, cl, rfl, _, hb, hcl, q1, q2⟩ := (hr.keep (SameIn.of_below hbr (Nat.le_refl _))).at2 hlt
      have hrt := roots_take (opn := opn) hcl
      have hrn := roots_new (opn := opn) HND.out hcl
      have hrl : (keys (roots opn (start.take k))).length ≤ 6 := by
        rw [keys_length]; unfold roots; rw [List.length_map]
        exact Nat.le_trans (List.length_filter_le _ _) (by rw [List.length_take]; omega)
      have HRT := Lib.hid hrt
      have HRN := Lib.hid hrn
      have hbr1 : Below w.heap.size w (wr.alloc (.cells #[.int .i64 cl.x, .int .i64 cl.y] 62)) := hbr.alloc (by omega) _
      have hq1 := hq.alloc (.cells #[.int .i64 cl.x, .int .i64 cl.y] 62)
      have hmp1 : MapIs (wr.alloc (.cells #[.int .i64 cl.x, .int .i64 cl.y] 62)) w.heap.size (roots opn (start.take k)) := hmp.keep (Below.heap_alloc _ _ _ (by omega))
      have BC := Blk.new wr 62 #[.int .i64 cl.x, .int .i64 cl.y]
      clear hrt hrn hr hcl
      go_wp2_with fail
      refine (HO.out cl _ hbr1).mono ?_
      rintro e w2 ⟨rfl, hb2⟩
      have hbr2 := hbr1.trans (hb2.mono hbr1.size)
      have sz2 := hb2.size
      simp only [World.size_alloc] at sz2
      have hq2 := hq1.below hb2 (Nat.le_refl _)
      have hmp2 := hmp1.keep (hb2.block _ (by simp; omega))
      have BC2 := BC.below hb2 (by simp)
      clear hq hmp hbr hbr1 hq1 hmp1 BC hb2 q1 q2
      cases hop : opn cl
      · have hrt := HRT.out
        rw [hop] at hrt
        simp only [Bool.false_eq_true, if_false, List.append_nil] at hrt
        have HS := Lib.hid hrt
        clear hrt hop BC2
        go_wp2
        go_roundw
        case rel => exact ⟨k + 1, by omega, by go_num, by rw [HS.out]; exact hq2, by rw [HS.out]; exact hmp2, hbr2, by omega⟩
        case measure => simp [intOf]; omega
      · have hrt := HRT.out
        rw [hop, if_pos rfl] at hrt
        have HS := Lib.hid hrt
        obtain ⟨w3, hup, hmp3, hg3, sz3⟩ := run_update_cell hmp2 cl cl HRN.out
        unfold cv at hup
        have hbr3 : Below w.heap.size w w3 := hbr2.trans (below_of_only hg3 (Nat.le_refl _) hbr2.size)
        have hq3 := hq2.keep (w' := w3) fun q hq => hg3.block q (hq2.lt q hq).2 (by intro e; injection e with e; have := (hq2.lt q hq).1; omega)
        have BC3 := BC2.grown hg3 (by intro e; injection e with e; omega)
        have k0 := BC2.cell 0
        have k1 := BC2.cell 1
        have k2 := BC3.cell 0
        have k3 := BC3.cell 1
        simp at k0 k1 k2 k3
        have sz3' : w2.heap.size ≤ w3.heap.size := by omega
        clear hrt hop BC2 BC3 hq2 hmp2 hbr2 hg3 sz3
        go_wp2_with (at_builtin; refine wpList_append_q _ rfl _ _ 42 rfl (w.heap.size + 1) 62 i0 _ 2 16 Try.underlying42 hi hz0 hz1 hz2 rfl (by decide) _ _ _ rfl (hq3.alloc _) ⟨w3.heap.size, 0, none⟩ 1 [.int .i64 cl.x, .int .i64 cl.y] rfl rfl (news_alloc w3 #[.int .i64 cl.x, .int .i64 cl.y] _) (by intro u hu; simp at hu; rcases hu with rfl | rfl <;> rfl) (by unfold maxLen; omega) (by omega) (by simp; omega) ?_; intro v' w4 hq4 hgrow hat)
        have hmp4 := (hmp3.keep (Below.heap_alloc w3 (.cells #[.int .i64 cl.x, .int .i64 cl.y] 62) w.heap.size (by omega))).keep (hgrow.block w.heap.size (by simp; omega) (fun e => by have := (hq3.lt _ e.symm).1; omega))
        have hbr4 : Below w.heap.size w w4 := (hbr3.alloc (by omega) _).grown hgrow (by simp; omega) (fun q hq => by have := (hq3.lt q hq).1; omega)
        have sz4 := hgrow.size
        simp only [World.size_alloc] at sz4
        have hq5 : QI w4 (w.heap.size + 1) 62 2 v' (keys (roots opn (start.take (k + 1)))).length (cc (keys (roots opn (start.take (k + 1))))) := by
          rw [HS.out, keys_append, cc_append, List.length_append]
          exact hq4
        have hmp5 : MapIs w4 w.heap.size (roots opn (start.take (k + 1))) := by rw [HS.out]; exact hmp4
        clear hq4 hgrow hq3 hat hmp4 hmp3 hbr3 hup k0 k1 k2 k3
        go_wp2
        go_roundw
        case rel => exact ⟨k + 1, by omega, by go_num, hq5, hmp5, hbr4, by omega⟩
        case measure => simp [intOf]; omega
    · have hkn : k = start.length := by omega
      subst hkn
      rw [List.take_length] at hq hmp
      have hinv := roots_inv (opn := opn) HND.out start.length (Nat.le_refl _)
      rw [List.take_length] at hinv
      obtain ⟨wm, hwm⟩ : ∃ wm : World, wm = wr := ⟨_, rfl⟩
      subst hwm
      have hq0 : QI wm (w.heap.size + 1) 62 2 u11 (keys ((roots opn start).drop 0)).length (cc (keys ((roots opn start).drop 0))) := hq
      clear hq hr
      go_wp2
      go_loopg [11] 36 (fun gk t wr => ∃ (i : Nat) (S : List (Cell × Cell)), gk + i = 36 ∧ i ≤ S.length ∧ BInv opn S ∧ QI wr (w.heap.size + 1) 62 2 t (keys (S.drop i)).length (cc (keys (S.drop i))) ∧ MapIs wr w.heap.size S ∧ Below w.heap.size w wr ∧ w.heap.size + 1 ≤ wr.heap.size ∧ bfs around opn done (gk + 1) S i = R)
      case atStart => exact ⟨0, roots opn start, rfl, Nat.zero_le _, hinv, hq0, hmp, hbr, hz, HR.out.symm⟩
      case round =>
        clear hinv hq0 hmp hbr hz
        obtain ⟨wo, hwo⟩ : ∃ wo : World, wo = wr := ⟨_, rfl⟩
        subst hwo
        obtain ⟨i, S, hgi, hiS, hinv, hq, hmp, hbr, hz, hbfs⟩ := hrel
        have hSl := hinv.len HG.out
        have hkl : (keys (S.drop i)).length = S.length - i := by rw [keys_length, List.length_drop]
        by_cases hlt : i < S.length
        · obtain ⟨cl, p⟩ : ∃ cl : Cell × Cell, S[i]? = some cl := ⟨S[i], List.getElem?_eq_getElem hlt⟩
          obtain ⟨cl, pp⟩ := cl
          have hdr : keys (S.drop i) = cl :: keys (S.drop (i + 1)) := by
            rw [List.drop_eq_getElem_cons hlt]
            have e := (List.getElem?_eq_some_iff.1 p).2
            rw [e]
            rfl
          have hn : 0 < (keys (S.drop i)).length := by omega
          obtain ⟨gq, oq, capq, csq, rfl, _, _, hnc, hcm, _, hcell⟩ := hq.at_ hn
          have q0 := hcell 0 (.int .i64 cl.x) (by rw [hdr]; rfl)
          have q1 := hcell 1 (.int .i64 cl.y) (by rw [hdr]; rfl)
          rw [Nat.add_zero] at q0
          rw [hdr] at hnc
          simp only [List.length_cons] at hnc
          have hkd : (keys (S.drop i)).length = (keys (S.drop (i + 1))).length + 1 := by rw [hdr]; rfl
          rw [hkd] at hq ⊢
          have hnp : (0 : Int) < ((keys (S.drop (i + 1))).length : Int) + 1 := by omega
          have hml : (keys (S.drop (i + 1))).length ≤ 36 := by rw [keys_length, List.length_drop]; omega
          have HDR := Lib.hid hdr
          have HP := Lib.hid p
          have HB := Lib.hid hbfs
          have HKD := Lib.hid hkd
          clear hcell hdr p hbfs hkl hkd
          generalize hnn : (keys (S.drop (i + 1))).length = nn at *
          have HNN := Lib.hid hnn
          clear hnn
          rw [HDR.out] at hq
          have hq1 : QI wo (w.heap.size + 1) 62 2 (.slice (some ⟨gq, oq, none⟩) (nn + 1) capq) (nn + 1) (cc (cl :: keys (S.drop (i + 1)))) := hq
          have HQ1 := Lib.hid (hq1.alloc (.cells #[.int .i64 cl.x, .int .i64 cl.y] 62))
          have hqlt := (hq1.lt gq rfl).2
          clear hq hq1
          have HQX := HQ1
          go_wp2_with (refine wpList_tail_q _ rfl _ 42 rfl (w.heap.size + 1) 62 i0 2 Try.underlying42 hi hz1 (by decide) gq oq nn capq _ rfl hnc HQX.out ?_; clear HQX; intro tv hq2 htv)
          have hbr1 : Below w.heap.size w (wo.alloc (.cells #[.int .i64 cl.x, .int .i64 cl.y] 62)) := hbr.alloc (by omega) _
          have hmp1 : MapIs (wo.alloc (.cells #[.int .i64 cl.x, .int .i64 cl.y] 62)) w.heap.size S := hmp.keep (Below.heap_alloc _ _ _ (by omega))
          have BC := Blk.new wo 62 #[.int .i64 cl.x, .int .i64 cl.y]
          clear q0 q1 hmp hbr
          refine (HD.out cl _ hbr1).mono ?_
          rintro e w2 ⟨rfl, hb2⟩
          have hbr2 := hbr1.trans (hb2.mono hbr1.size)
          have sz2 := hb2.size
          simp only [World.size_alloc] at sz2
          have hq3 : QI w2 (w.heap.size + 1) 62 2 tv nn (cc (keys (S.drop (i + 1)))) := hq2.below hb2 (Nat.le_refl _)
          have hmp2 := hmp1.keep (hb2.block _ (by simp; omega))
          have BC2 := BC.below hb2 (by simp)
          clear hbr1 hmp1 BC hb2 hq2 HQ1
          have k0 := BC2.cell 0
          have k1 := BC2.cell 1
          simp at k0 k1
          obtain ⟨gc, hgc⟩ : ∃ gc, gc = wo.heap.size := ⟨_, rfl⟩
          have hgl : gc + 1 ≤ w2.heap.size := by omega
          have hgw : w.heap.size + 1 ≤ gc := by omega
          have hgq : gq < gc := by omega
          rw [← hgc] at BC2 k0 k1 ⊢
          clear hgc
          cases hdn : done cl
          · have hbs : bfs around opn done gk (expand around opn S cl) (i + 1) = R := by
              have := HB.out
              rw [bfs, HP.out] at this
              simpa [hdn] using this
            have HB2 := Lib.hid hbs
            have hnear := HNR.out cl (hinv.opens _ (List.mem_of_getElem? HP.out))
            clear hbs hdn
            go_wp2_with fail
            clear k0 k1
            refine (HA.out cl _ hnear).mono ?_
            rintro e w3 ⟨vd, rfl, od, hb3⟩
            have hDl := HAR.out cl
            obtain ⟨D, hD⟩ : ∃ D, D = around cl := ⟨_, rfl⟩
            rw [← hD] at od hDl
            have HDD := Lib.hid hD
            clear hD
            obtain ⟨Ad, cd, rfl, hmd, hrd⟩ := od.rd
            have hbr3 := hbr2.trans (hb3.mono hbr2.size)
            have sz3 := hb3.size
            have hq4 := hq3.below hb3 (Nat.le_refl _)
            have hmp3 := hmp2.keep (hb3.block _ (by omega))
            have BC3 := BC2.below hb3 (by omega)
            clear od hb3 hq3 hmp2 BC2 hbr2 hnear
            go_wp2
            go_loopw [11, 68] (fun t ii wr => ∃ (k : Nat) (T : List (Cell × Cell)), k ≤ D.length ∧ ii = .int .i64 k ∧ T = (D.take k).foldl (addN opn cl) S ∧ BInv opn T ∧ S.length ≤ T.length ∧ T[i]? = some (cl, pp) ∧ QI wr (w.heap.size + 1) 62 2 t (keys (T.drop (i + 1))).length (cc (keys (T.drop (i + 1)))) ∧
              MapIs wr w.heap.size T ∧ Below w.heap.size w wr ∧ SameIn gc w3.heap.size w3 wr ∧ w3.heap.size ≤ wr.heap.size ∧ ∀ q, t.ownBlock = some q → q < gc ∨ w3.heap.size ≤ q) (fun _ ii _ => D.length - (intOf ii).toNat)
            case atStart => exact ⟨0, S, Nat.zero_le _, rfl, rfl, hinv, Nat.le_refl _, HP.out, by rw [HNN.out]; exact hq4, hmp3, hbr3, SameIn.refl _, Nat.le_refl _, fun q hq => by rw [htv] at hq; injection hq; omega⟩
            case round =>
              obtain ⟨k, T, hk, rfl, hT, hinvT, hST, hTi, hq, hmp, hbr, hsm, hsz, hap⟩ := hrel
              by_cases hltk : k < D.length
              · have hrw : Rd wr w2.heap.size w3.heap.size 2 Ad D.length (cc D) := hrd.keep fun b h1 h2 => hsm b (by omega) h2
                have Hrd := Lib.hid hrd
                obtain ⟨bb, off, d, rfl, hbl, hbb, hd, q1, q2⟩ := hrw.at2 hltk
                have BCr : Blk wr gc 62 #[.int .i64 cl.x, .int .i64 cl.y] := (hsm gc (Nat.le_refl _) (by omega)).trans BC3
                have hst : (D.take (k + 1)).foldl (addN opn cl) S = addN opn cl T d := by
                  have hkk := (List.getElem?_eq_some_iff.1 hd).1
                  have e := (List.getElem?_eq_some_iff.1 hd).2
                  rw [List.take_succ_eq_append_getElem hkk, List.foldl_append, e, ← hT]
                  rfl
                have HST := Lib.hid hst
                have HT := Lib.hid hT
                have HTI := Lib.hid hTi
                -- the variable d
                have hbrA : Below w.heap.size w (wr.alloc (.cells #[.int .i64 d.x, .int .i64 d.y] 62)) := hbr.alloc (by omega) _
                have hmpA : MapIs (wr.alloc (.cells #[.int .i64 d.x, .int .i64 d.y] 62)) w.heap.size T := hmp.keep (Below.heap_alloc _ _ _ (by omega))
                have hqA := hq.alloc (.cells #[.int .i64 d.x, .int .i64 d.y] 62)
                have hsmA : SameIn gc w3.heap.size w3 (wr.alloc (.cells #[.int .i64 d.x, .int .i64 d.y] 62)) := hsm.trans (SameIn.alloc hsz _)
                have BCA := BCr.alloc (.cells #[.int .i64 d.x, .int .i64 d.y] 62)
                have BDA := Blk.new wr 62 #[.int .i64 d.x, .int .i64 d.y]
                have hlk := run_lookup_cell_ok hmpA d
                unfold cv at hlk
                clear hst hT hTi hrw hd hbr hmp hq hsm BCr hrd
                cases hma : mapAt T d with
                | some pd =>
                  rw [hma] at hlk
                  simp only [Option.getD_some, Option.isSome_some] at hlk
                  have hTT : addN opn cl T d = T := by simp [addN, hma]
                  have HTT := Lib.hid hTT
                  clear hTT hma
                  go_wp2
                  go_roundw
                  case rel => exact ⟨k + 1, T, by omega, by go_num, by rw [HST.out, HTT.out], hinvT, hST, HTI.out, hqA.alloc _, hmpA.keep (Below.heap_alloc _ _ _ (by simp; omega)), hbrA.alloc (by simp; omega) _, hsmA.trans (SameIn.alloc (by simp; omega) _), by simp; omega, hap⟩
                  case measure => simp [intOf]; omega
                | none =>
                  rw [hma] at hlk
                  simp only [Option.getD_none, Option.isSome_none] at hlk
                  have hbrB := hbrA.alloc (by simp; omega) (.cells #[.int .i64 0, .int .i64 0] 62)
                  have hmpB := hmpA.keep (Below.heap_alloc _ (.cells #[.int .i64 0, .int .i64 0] 62) _ (by simp; omega))
                  have hqB := hqA.alloc (.cells #[.int .i64 0, .int .i64 0] 62)
                  have hsmB := hsmA.trans (SameIn.alloc (by simp; omega) (.cells #[.int .i64 0, .int .i64 0] 62))
                  have BCB := BCA.alloc (.cells #[.int .i64 0, .int .i64 0] 62)
                  have BDB := BDA.alloc (.cells #[.int .i64 0, .int .i64 0] 62)
                  have HMA := Lib.hid hma
                  have hkl : (keys (T.drop (i + 1))).length ≤ 36 := by rw [keys_length, List.length_drop]; have := hinvT.len HG.out; omega
                  clear hma hqA hbrA hmpA hsmA BCA BDA
                  go_wp2_with fail
                  clear hlk q1 q2
                  refine (HO.out d _ hbrB).mono ?_
                  rintro e w4 ⟨rfl, hb4⟩
                  have sz4 := hb4.size
                  simp only [World.size_alloc] at sz4
                  have hbr4 := hbrB.trans (hb4.mono (by simp; omega))
                  have hmp4 := hmpB.keep (hb4.block _ (by simp; omega))
                  have hq4' := hqB.below hb4 (Nat.le_refl _)
                  have hsm4 := hsmB.trans (SameIn.of_below hb4 (by simp; omega))
                  have BC4 := BCB.below hb4 (by simp; omega)
                  have BD4 := BDB.below hb4 (by simp; omega)
                  clear hbrB hmpB hqB hsmB BCB BDB hb4
                  cases hop : opn d with
                  | false =>
                    have hTT : addN opn cl T d = T := by simp [addN, HMA.out, hop]
                    have HTT := Lib.hid hTT
                    clear hTT hop BC4 BD4
                    go_wp2
                    go_roundw
                    case rel => exact ⟨k + 1, T, by omega, by go_num, by rw [HST.out, HTT.out], hinvT, hST, HTI.out, hq4', hmp4, hbr4, hsm4, by omega, hap⟩
                    case measure => simp [intOf]; omega
                  | true =>
                    have hTT : addN opn cl T d = T ++ [(d, cl)] := by simp [addN, HMA.out, hop]
                    have hinv5 := hinvT.snoc HMA.out hop (.inr ⟨i, pp, HTI.out⟩)
                    obtain ⟨w5, hup, hmp5, hg5, sz5⟩ := run_update_cell hmp4 d cl HMA.out
                    unfold cv at hup
                    have hbr5 : Below w.heap.size w w5 := hbr4.trans (below_of_only hg5 (Nat.le_refl _) hbr4.size)
                    have hq5 := hq4'.keep (w' := w5) fun q hq => hg5.block q (hq4'.lt q hq).2 (by intro e; injection e with e; have := (hq4'.lt q hq).1; omega)
                    have hsm5 : SameIn gc w3.heap.size w3 w5 := hsm4.trans fun b h1 h2 => hg5.block b (by omega) (by intro e; injection e with e; omega)
                    have BD5 := BD4.grown hg5 (by intro e; injection e with e; omega)
                    have sz5' : w4.heap.size ≤ w5.heap.size := by omega
                    have kc0 := BC4.cell 0
                    have kc1 := BC4.cell 1
                    have kd0 := BD4.cell 0
                    have kd1 := BD4.cell 1
                    have ke0 := BD5.cell 0
                    have ke1 := BD5.cell 1
                    simp at kc0 kc1 kd0 kd1 ke0 ke1
                    have HTT := Lib.hid hTT
                    clear hTT hop BC4 BD4 BD5 hq4' hmp4 hbr4 hsm4 hg5 sz5
                    go_wp2_with (at_builtin; refine wpList_append_q _ rfl _ _ 42 rfl (w.heap.size + 1) 62 i0 _ 2 16 Try.underlying42 hi hz0 hz1 hz2 rfl (by decide) _ _ _ rfl (hq5.alloc _) ⟨w5.heap.size, 0, none⟩ 1 [.int .i64 d.x, .int .i64 d.y] rfl rfl (news_alloc w5 #[.int .i64 d.x, .int .i64 d.y] _) (by intro u hu; simp at hu; rcases hu with rfl | rfl <;> rfl) (by unfold maxLen; omega) (by omega) (by simp; omega) ?_; intro v' w6 hq6 hgrow hat)
                    have hmp6 := (hmp5.keep (Below.heap_alloc w5 (.cells #[.int .i64 d.x, .int .i64 d.y] 62) w.heap.size (by omega))).keep (hgrow.block w.heap.size (by simp; omega) (fun e => by have := (hq5.lt _ e.symm).1; omega))
                    have hbr6 : Below w.heap.size w w6 := (hbr5.alloc (by omega) _).grown hgrow (by simp; omega) (fun q hq => by have := (hq5.lt q hq).1; omega)
                    have hap6 := apart_grown (H := (w5.alloc (.cells #[.int .i64 d.x, .int .i64 d.y] 62)).heap.size) (by simp; omega) hap hat
                    have hsm6 := (hsm5.trans (SameIn.alloc (by omega) (.cells #[.int .i64 d.x, .int .i64 d.y] 62))).trans (SameIn.of_grown hgrow (by simp; omega) hap)
                    have sz6 := hgrow.size
                    simp only [World.size_alloc] at sz6
                    have hdrop : (T ++ [(d, cl)]).drop (i + 1) = T.drop (i + 1) ++ [(d, cl)] := by rw [List.drop_append_of_le_length (by omega)]
                    have hq7 : QI w6 (w.heap.size + 1) 62 2 v' (keys ((T ++ [(d, cl)]).drop (i + 1))).length (cc (keys ((T ++ [(d, cl)]).drop (i + 1)))) := by
                      rw [hdrop, keys_append, cc_append, List.length_append]
                      exact hq6
                    have hTi7 : (T ++ [(d, cl)])[i]? = some (cl, pp) := by rw [List.getElem?_append_left (by omega)]; exact HTI.out
                    have HTI7 := Lib.hid hTi7
                    clear hq6 hgrow hat hq5 hmp5 hbr5 hsm5 hup kc0 kc1 kd0 kd1 ke0 ke1 hdrop hTi7 hap
                    go_wp2
                    go_roundw
                    case rel => exact ⟨k + 1, T ++ [(d, cl)], by omega, by go_num, by rw [HST.out, HTT.out], hinv5, by simp; omega, HTI7.out, hq7, hmp6, hbr6, hsm6, by omega, hap6⟩
                    case measure => simp [intOf]; omega
              · have hkn : k = D.length := by omega
                subst hkn
                rw [List.take_length, HDD.out] at hT
                have hTe : T = expand around opn S cl := hT
                clear hT
                go_wp2
                go_roundg (gk - 1)
                case measure => omega
                case rel =>
                  refine ⟨i + 1, T, by omega, by omega, hinvT, hq, hmp, hbr, by omega, ?_⟩
                  rw [show gk - 1 + 1 = gk by omega, hTe]
                  exact HB2.out
          · have hRs : R = some (wayGo S S.length cl [cl]) := by
              have := HB.out
              rw [bfs, HP.out] at this
              simpa [hdn] using this.symm
            obtain ⟨way, hway⟩ : ∃ way, way = wayGo S S.length cl [cl] := ⟨_, rfl⟩
            rw [← hway] at hRs
            subst hRs
            have HW := Lib.hid hway
            clear hway hdn hq3 HB HNN HDR HKD
            have how := own_one w2 (Nat.le_refl _) (.int .i64 cl.x) (.int .i64 cl.y) 62
            have hmpw := hmp2.keep (w' := w2.alloc (.cells #[.int .i64 cl.x, .int .i64 cl.y] 62)) (Below.heap_alloc _ _ _ (by omega))
            have hbr2s := hbr2.size
            have hbrw := hbr2.alloc hbr2.size (.cells #[.int .i64 cl.x, .int .i64 cl.y] 62)
            have BCw := BC2.alloc (.cells #[.int .i64 cl.x, .int .i64 cl.y] 62)
            have szw : w2.heap.size + 1 ≤ (w2.alloc (.cells #[.int .i64 cl.x, .int .i64 cl.y] 62)).heap.size := by simp
            go_wp2
            clear hmp2 hbr2 BC2 k0 k1
            generalize w2.alloc (.cells #[.int .i64 cl.x, .int .i64 cl.y] 62) = wB at *
            go_loopg [15] S.length (fun gk2 wv wr => ∃ (ci pj : Cell) (acc : List Cell) (j : Nat), S[j]? = some (ci, pj) ∧ j < gk2 ∧ 0 < acc.length ∧ acc.length + gk2 ≤ S.length + 1 ∧ wayGo S gk2 ci acc = way ∧ wr.ownsRow w2.heap.size 62 2 wv acc.length (cc acc) ∧
              Blk wr gc 62 #[.int .i64 ci.x, .int .i64 ci.y] ∧ MapIs wr w.heap.size S ∧ Below w.heap.size w wr ∧ w2.heap.size ≤ wr.heap.size)
            case atStart => exact ⟨cl, pp, [cl], i, HP.out, hlt, by simp, by simp; omega, HW.out.symm, how, BCw, hmpw, hbrw, by omega⟩
            case round =>
              obtain ⟨ci, pj, acc, j, hj, hjl, hal, hag, hwg, how, BC, hmp, hbr, hsz⟩ := hrel
              have hma := mapAt_some hinv.nodup hj
              have hlk : ∀ n, (Instr.lookup 123 (.map (some w.heap.size)) (.agg #[.int .i64 ci.x, .int .i64 ci.y]) false).run Try.prog (wr.drewN n) = .ok (.agg #[.int .i64 pj.x, .int .i64 pj.y]) (wr.drewN n) := fun n => by
                have := run_lookup_cell (w := wr.drewN n) (hmp.keep rfl) ci
                rw [hma] at this
                exact this
              have hne : ∀ n, (binOp .neq 62 (.agg #[.int .i64 pj.x, .int .i64 pj.y]) (.agg #[.int .i64 ci.x, .int .i64 ci.y])).run Try.prog (wr.drewN n) = .ok (.bool (!decide (pj = ci))) (wr.drewN n) := fun n => run_neq_cell _ pj ci
              have k0 := BC.cell 0
              have k1 := BC.cell 1
              simp at k0 k1
              have HJ := Lib.hid hj
              have HWG := Lib.hid hwg
              have HINV := Lib.hid hinv
              have HMA := Lib.hid hma
              clear hj hwg hinv hma
              by_cases hpe : pj = ci
              · subst hpe
                rw [decide_eq_true rfl] at hne
                have heq : ∀ n, (Op.equal 62 (.agg #[.int .i64 pj.x, .int .i64 pj.y]) (.agg #[.int .i64 pj.x, .int .i64 pj.y])).run Try.prog (wr.drewN n) = .ok true (wr.drewN n) := fun n => by have := run_equal_cell (wr.drewN n) pj pj; rw [decide_eq_true rfl] at this; exact this
                have hacc : acc = way := by
                  have := HWG.out
                  rw [show gk = (gk - 1) + 1 by omega, wayGo, HMA.out] at this
                  simpa using this
                subst hacc
                clear hne
                go_wp2_with fail
                go_quiet (fail)
                go_wp2
                go_ret2
                exact ⟨_, rfl, CellsIn.mk (own_more (w := wr.drewN nq) how hbr2s) rfl rfl, below_drewN hbr _⟩
              · have heq : ∀ n, (Op.equal 62 (.agg #[.int .i64 pj.x, .int .i64 pj.y]) (.agg #[.int .i64 ci.x, .int .i64 ci.y])).run Try.prog (wr.drewN n) = .ok false (wr.drewN n) := fun n => by have := run_equal_cell (wr.drewN n) pj ci; rw [decide_eq_false hpe] at this; exact this
                clear hne
                obtain ⟨j', q', hjj, hj'⟩ := (HINV.out.chain j ci pj HJ.out).resolve_left (fun e => hpe e.symm)
                have hwg' : wayGo S (gk - 1) pj (pj :: acc) = way := by
                  have := HWG.out
                  rw [show gk = (gk - 1) + 1 by omega, wayGo, HMA.out] at this
                  simpa [hpe] using this
                have HJ' := Lib.hid hj'
                have HWG' := Lib.hid hwg'
                have HPE := Lib.hid hpe
                clear hj' hwg' hpe
                go_wp2_with fail
                refine wp_region_quiet_lit (by kernel_rfl) (by kernel_rfl) ?_
                repeat (go_big_quiet_step (fail))
                go_big_quiet_want
                go_big_quiet_op
                refine ⟨.bool true, fun aa => ?_, ?_⟩
                · by_cases hx : pj.x = ci.x
                  · have hy : ¬ pj.y = ci.y := fun hy => HPE.out (Cell.ext hx hy)
                    simp [hx, hy]
                  · simp [hx]
                go_big_quiet_on
                refine wpQuiet_nil ?_
                intro _ hwq'
                obtain ⟨nq, hwq''⟩ := hwq'
                subst hwq''
                have hbrq := below_drewN hbr nq
                have BCq : Blk (wr.drewN nq) gc 62 #[.int .i64 ci.x, .int .i64 ci.y] := BC
                have hmpq : MapIs (wr.drewN nq) w.heap.size S := hmp
                have howq : (wr.drewN nq).ownsRow w2.heap.size 62 2 u15 acc.length (cc acc) := how
                have szq : w2.heap.size ≤ (wr.drewN nq).heap.size := hsz
                have k0q : (wr.drewN nq).cell? ⟨gc, 0, none⟩ = some (.int .i64 ci.x) := k0
                have k1q : (wr.drewN nq).cell? ⟨gc, 1, none⟩ = some (.int .i64 ci.y) := k1
                have hlkq := hlk nq
                clear hlk heq k0 k1 how hmp BC hbr hsz
                generalize wr.drewN nq = wq at *
                obtain ⟨gw, cw, rfl, hacw, hgwl, howc⟩ := own_at howq hal
                have f0 := BCq.frozen 0
                have f1 := BCq.frozen 1
                have BCs : Blk ((wq.setCell ⟨gc, 0, none⟩ (.int .i64 pj.x)).setCell ⟨gc, 1, none⟩ (.int .i64 pj.y)) gc 62 #[.int .i64 pj.x, .int .i64 pj.y] := (BCq.set_ 0 (.int .i64 pj.x)).set_ 1 (.int .i64 pj.y)
                have hg1 := only_setCell (only_setCell (World.grownBy.refl wq (some gc)) (p := ⟨gc, 0, none⟩) (.inl rfl) (.int .i64 pj.x)) (p := ⟨gc, 1, none⟩) (.inl rfl) (.int .i64 pj.y)
                have hbrs : Below w.heap.size w _ := hbrq.trans (below_of_only hg1 (by omega) hbrq.size)
                have hmps := hmpq.keep (hg1.block w.heap.size hmpq.lt (by intro e; injection e with e; omega))
                have hows := howq.kept hg1 (.inr (by simp [Value.ownBlock]; omega))
                have szs := hg1.size
                obtain ⟨ws, hws⟩ : ∃ ws, ws = (wq.setCell ⟨gc, 0, none⟩ (.int .i64 pj.x)).setCell ⟨gc, 1, none⟩ (.int .i64 pj.y) := ⟨_, rfl⟩
                have k0s := BCs.cell 0
                have k1s := BCs.cell 1
                simp at k0s k1s
                have HWS := Lib.hid hws
                clear hws
                have hl2 := howq.1
                have hag' : acc.length + 1 ≤ 40 := by omega
                have hone := own_one ((wq.setCell ⟨gc, 0, none⟩ (.int .i64 pj.x)).setCell ⟨gc, 1, none⟩ (.int .i64 pj.y)) (lo := w2.heap.size) (by omega) (.int .i64 pj.x) (.int .i64 pj.y) 62
                rw [show ((wq.setCell ⟨gc, 0, none⟩ (.int .i64 pj.x)).setCell ⟨gc, 1, none⟩ (.int .i64 pj.y)).heap.size = wq.heap.size by simp] at hone
                have hcel := (hows.alloc (.cells #[.int .i64 pj.x, .int .i64 pj.y] 62)).cells (g := gw) rfl
                have hwsz : w2.heap.size ≤ ((wq.setCell ⟨gc, 0, none⟩ (.int .i64 pj.x)).setCell ⟨gc, 1, none⟩ (.int .i64 pj.y)).heap.size := by omega
                have HHO := Lib.hid hone
                have HCE := Lib.hid hcel
                have hbrq0 := hbrq.size
                clear hone hcel howc howq BCq hmpq hbrq
                go_wp2_with (at_builtin; refine wpList_append_own _ rfl _ _ 42 rfl w2.heap.size 62 i0 _ 2 16 Try.underlying42 hi hz0 hz1 hz2 rfl (by decide) _ _ _ rfl HHO.out ⟨gw, 0, none⟩ acc.length cw (cc acc) rfl hl2 HCE.out cc_one (by unfold maxLen; omega) (by omega) (by simp; omega) ?_; intro v' w3 how3 hgrow _)
                have BC3 := (BCs.alloc (.cells #[.int .i64 pj.x, .int .i64 pj.y] 62)).grown hgrow (by intro e; have e : some gc = some wq.heap.size := e; injection e with e; omega)
                have hmp3 := (hmps.keep (Below.heap_alloc _ (.cells #[.int .i64 pj.x, .int .i64 pj.y] 62) _ (by have := hmps.lt; omega))).keep (hgrow.block _ (by simp; omega) (by intro e; have e : some w.heap.size = some wq.heap.size := e; injection e with e; have := hbrq0; omega))
                have hbr3 := (hbrs.alloc (by omega) (.cells #[.int .i64 pj.x, .int .i64 pj.y] 62)).grown hgrow (by simp; omega) (fun q hq => by have hq : some wq.heap.size = some q := hq; injection hq with hq; have := hbrq0; omega)
                have sz3 := hgrow.size
                simp only [World.size_alloc] at sz3
                have how4 : w3.ownsRow w2.heap.size 62 2 v' (pj :: acc).length (cc (pj :: acc)) := by
                  rw [List.length_cons, Nat.add_comm]
                  exact how3
                clear how3 hgrow hows BCs hmps hbrs HHO HCE k0s k1s k0q k1q hlkq f0 f1 hg1 hl2
                go_wp2
                go_roundg (gk - 1)
                case measure => omega
                case rel => exact ⟨pj, q', pj :: acc, j', HJ'.out, by omega, by simp, by simp; omega, HWG'.out, how4, BC3, hmp3, hbr3, by omega⟩
        · have hbn : R = none := by rw [← hbfs]; exact bfs_end (by omega)
          subst hbn
          have hk0 : (keys (S.drop i)).length = 0 := by omega
          obtain ⟨Aq, cq, rfl⟩ := hq.shape
          rw [hk0]
          clear hk0 hkl hq
          go_wp2
          go_ret2
          exact ⟨_, rfl, CellsIn.nil, hbr⟩
set_option maxRecDepth 100000 in
set_option maxHeartbeats 6400000 in
theorem blockFrom {start : List Cell} {vs : Value} (around : Cell → List Cell) (opn done : Cell → Bool) (g g2 : Nat) (w : World) (G : List Cell)
    (hst : CellsRd w 0 w.heap.size vs start) (hnd : start.Nodup) (hN : G.length ≤ 36) (hG : ∀ c, opn c = true → c ∈ G) (hnear : ∀ c, opn c = true → Near c) (har : ∀ c, (around c).length ≤ 9) (hsl : start.length ≤ 6)
    (hA : ∀ c W, Near c → Calls Try.prog 95 #[cv c] W fun e w' => ∃ v, e = .returned v ∧ CellsIn w' W.heap.size w'.heap.size v (around c) ∧ Below W.heap.size W w')
    (hO : ∀ c W, Below w.heap.size w W → Calls Try.prog 93 #[cv c, .pointer (some ⟨g, 0, none⟩), .pointer (some ⟨g2, 0, none⟩)] W fun e w' => e = .returned (.bool (opn c)) ∧ Below W.heap.size W w')
    (hD : ∀ c W, Below w.heap.size w W → Calls Try.prog 96 #[cv c, .pointer (some ⟨g2, 0, none⟩)] W fun e w' => e = .returned (.bool (done c)) ∧ Below W.heap.size W w') :
    Calls Try.prog 87 #[vs, .func (.func 95) #[] #[], .func (.func 93) #[] #[.pointer (some ⟨g, 0, none⟩), .pointer (some ⟨g2, 0, none⟩)], .func (.func 96) #[] #[.pointer (some ⟨g2, 0, none⟩)]] w fun e w' => ∃ v, e = .returned (.tuple #[v, .bool (bfs around opn done 37 (roots opn start) 0).isSome]) ∧
      CellsIn w' w.heap.size w'.heap.size v ((bfs around opn done 37 (roots opn start) 0).getD []) ∧ Below w.heap.size w w' := by
  obtain ⟨i0, hi, hz0, hz1, hz2⟩ := info_parts infoCell
  have hmm := @run_makeMap Try.prog
  obtain ⟨A, c, rfl, hm, hr⟩ := hst
  obtain ⟨R, hR⟩ : ∃ R, R = bfs around opn done 37 (roots opn start) 0 := ⟨_, rfl⟩
  rw [← hR]
  have HR := Lib.hid hR
  have HA := Lib.hid hA
  have HO := Lib.hid hO
  have HD := Lib.hid hD
  have HG := Lib.hid hG
  have HNR := Lib.hid hnear
  have HAR := Lib.hid har
  have HND := Lib.hid hnd
  have hbel : Below w.heap.size w (w.alloc (.map #[] 0)) := (Below.refl _ _).alloc (Nat.le_refl _) _
  have hmap := MapIs.made w
  have HZ : w.heap.size + 1 ≤ (w.alloc (.map #[] 0)).heap.size := by simp
  clear hR hA hO hD hG hnear har hnd
  go_enter Try.func87, Try.ntmps87
  go_wp2
  clear hmm
  generalize w.alloc (.map #[] 0) = W at *
  go_loopw [11, 23] (fun t i wr => ∃ k : Nat, k ≤ start.length ∧ i = .int .i64 k ∧ QI wr (w.heap.size + 1) 62 2 t (keys (roots opn (start.take k))).length (cc (keys (roots opn (start.take k)))) ∧ MapIs wr w.heap.size (roots opn (start.take k)) ∧ Below w.heap.size w wr ∧ w.heap.size + 1 ≤ wr.heap.size) (fun _ i _ => start.length - (intOf i).toNat)
  case atStart => exact ⟨0, Nat.zero_le _, rfl, QI.nil, hmap, hbel, HZ⟩
  case round =>
    obtain ⟨k, hk, rfl, hq, hmp, hbr, hz⟩ := hrel
    by_cases hlt : k < start.length
    · obtain ⟨b, off, cl, rfl, _, hb, hcl, q1, q2⟩ := (hr.keep (SameIn.of_below hbr (Nat.le_refl _))).at2 hlt
      have hrt := roots_take (opn := opn) hcl
      have hrn := roots_new (opn := opn) HND.out hcl
      have hrl : (keys (roots opn (start.take k))).length ≤ 6 := by
        rw [keys_length]; unfold roots; rw [List.length_map]
        exact Nat.le_trans (List.length_filter_le _ _) (by rw [List.length_take]; omega)
      have HRT := Lib.hid hrt
      have HRN := Lib.hid hrn
      have hbr1 : Below w.heap.size w (wr.alloc (.cells #[.int .i64 cl.x, .int .i64 cl.y] 62)) := hbr.alloc (by omega) _
      have hq1 := hq.alloc (.cells #[.int .i64 cl.x, .int .i64 cl.y] 62)
      have hmp1 : MapIs (wr.alloc (.cells #[.int .i64 cl.x, .int .i64 cl.y] 62)) w.heap.size (roots opn (start.take k)) := hmp.keep (Below.heap_alloc _ _ _ (by omega))
      have BC := Blk.new wr 62 #[.int .i64 cl.x, .int .i64 cl.y]
      clear hrt hrn hr hcl
      go_wp2_with fail
      refine (HO.out cl _ hbr1).mono ?_
      rintro e w2 ⟨rfl, hb2⟩
      have hbr2 := hbr1.trans (hb2.mono hbr1.size)
      have sz2 := hb2.size
      simp only [World.size_alloc] at sz2
      have hq2 := hq1.below hb2 (Nat.le_refl _)
      have hmp2 := hmp1.keep (hb2.block _ (by simp; omega))
      have BC2 := BC.below hb2 (by simp)
      clear hq hmp hbr hbr1 hq1 hmp1 BC hb2 q1 q2
      cases hop : opn cl
      · have hrt := HRT.out
        rw [hop] at hrt
        simp only [Bool.false_eq_true, if_false, List.append_nil] at hrt
        have HS := Lib.hid hrt
        clear hrt hop BC2
        go_wp2
        go_roundw
        case rel => exact ⟨k + 1, by omega, by go_num, by rw [HS.out]; exact hq2, by rw [HS.out]; exact hmp2, hbr2, by omega⟩
        case measure => simp [intOf]; omega
      · have hrt := HRT.out
        rw [hop, if_pos rfl] at hrt
        have HS := Lib.hid hrt
        obtain ⟨w3, hup, hmp3, hg3, sz3⟩ := run_update_cell hmp2 cl cl HRN.out
        unfold cv at hup
        have hbr3 : Below w.heap.size w w3 := hbr2.trans (below_of_only hg3 (Nat.le_refl _) hbr2.size)
        have hq3 := hq2.keep (w' := w3) fun q hq => hg3.block q (hq2.lt q hq).2 (by intro e; injection e with e; have := (hq2.lt q hq).1; omega)
        have BC3 := BC2.grown hg3 (by intro e; injection e with e; omega)
        have k0 := BC2.cell 0
        have k1 := BC2.cell 1
        have k2 := BC3.cell 0
        have k3 := BC3.cell 1
        simp at k0 k1 k2 k3
        have sz3' : w2.heap.size ≤ w3.heap.size := by omega
        clear hrt hop BC2 BC3 hq2 hmp2 hbr2 hg3 sz3
        go_wp2_with (at_builtin; refine wpList_append_q _ rfl _ _ 42 rfl (w.heap.size + 1) 62 i0 _ 2 16 Try.underlying42 hi hz0 hz1 hz2 rfl (by decide) _ _ _ rfl (hq3.alloc _) ⟨w3.heap.size, 0, none⟩ 1 [.int .i64 cl.x, .int .i64 cl.y] rfl rfl (news_alloc w3 #[.int .i64 cl.x, .int .i64 cl.y] _) (by intro u hu; simp at hu; rcases hu with rfl | rfl <;> rfl) (by unfold maxLen; omega) (by omega) (by simp; omega) ?_; intro v' w4 hq4 hgrow hat)
        have hmp4 := (hmp3.keep (Below.heap_alloc w3 (.cells #[.int .i64 cl.x, .int .i64 cl.y] 62) w.heap.size (by omega))).keep (hgrow.block w.heap.size (by simp; omega) (fun e => by have := (hq3.lt _ e.symm).1; omega))
        have hbr4 : Below w.heap.size w w4 := (hbr3.alloc (by omega) _).grown hgrow (by simp; omega) (fun q hq => by have := (hq3.lt q hq).1; omega)
        have sz4 := hgrow.size
        simp only [World.size_alloc] at sz4
        have hq5 : QI w4 (w.heap.size + 1) 62 2 v' (keys (roots opn (start.take (k + 1)))).length (cc (keys (roots opn (start.take (k + 1))))) := by
          rw [HS.out, keys_append, cc_append, List.length_append]
          exact hq4
        have hmp5 : MapIs w4 w.heap.size (roots opn (start.take (k + 1))) := by rw [HS.out]; exact hmp4
        clear hq4 hgrow hq3 hat hmp4 hmp3 hbr3 hup k0 k1 k2 k3
        go_wp2
        go_roundw
        case rel => exact ⟨k + 1, by omega, by go_num, hq5, hmp5, hbr4, by omega⟩
        case measure => simp [intOf]; omega
    · have hkn : k = start.length := by omega
      subst hkn
      rw [List.take_length] at hq hmp
      have hinv := roots_inv (opn := opn) HND.out start.length (Nat.le_refl _)
      rw [List.take_length] at hinv
      obtain ⟨wm, hwm⟩ : ∃ wm : World, wm = wr := ⟨_, rfl⟩
      subst hwm
      have hq0 : QI wm (w.heap.size + 1) 62 2 u11 (keys ((roots opn start).drop 0)).length (cc (keys ((roots opn start).drop 0))) := hq
      clear hq hr
      go_wp2
      go_loopg [11] 36 (fun gk t wr => ∃ (i : Nat) (S : List (Cell × Cell)), gk + i = 36 ∧ i ≤ S.length ∧ BInv opn S ∧ QI wr (w.heap.size + 1) 62 2 t (keys (S.drop i)).length (cc (keys (S.drop i))) ∧ MapIs wr w.heap.size S ∧ Below w.heap.size w wr ∧ w.heap.size + 1 ≤ wr.heap.size ∧ bfs around opn done (gk + 1) S i = R)
      case atStart => exact ⟨0, roots opn start, rfl, Nat.zero_le _, hinv, hq0, hmp, hbr, hz, HR.out.symm⟩
      case round =>
        clear hinv hq0 hmp hbr hz
        obtain ⟨wo, hwo⟩ : ∃ wo : World, wo = wr := ⟨_, rfl⟩
        subst hwo
        obtain ⟨i, S, hgi, hiS, hinv, hq, hmp, hbr, hz, hbfs⟩ := hrel
        have hSl := hinv.len HG.out
        have hkl : (keys (S.drop i)).length = S.length - i := by rw [keys_length, List.length_drop]
        by_cases hlt : i < S.length
        · obtain ⟨cl, p⟩ : ∃ cl : Cell × Cell, S[i]? = some cl := ⟨S[i], List.getElem?_eq_getElem hlt⟩
          obtain ⟨cl, pp⟩ := cl
          have hdr : keys (S.drop i) = cl :: keys (S.drop (i + 1)) := by
            rw [List.drop_eq_getElem_cons hlt]
            have e := (List.getElem?_eq_some_iff.1 p).2
            rw [e]
            rfl
          have hn : 0 < (keys (S.drop i)).length := by omega
          obtain ⟨gq, oq, capq, csq, rfl, _, _, hnc, hcm, _, hcell⟩ := hq.at_ hn
          have q0 := hcell 0 (.int .i64 cl.x) (by rw [hdr]; rfl)
          have q1 := hcell 1 (.int .i64 cl.y) (by rw [hdr]; rfl)
          rw [Nat.add_zero] at q0
          rw [hdr] at hnc
          simp only [List.length_cons] at hnc
          have hkd : (keys (S.drop i)).length = (keys (S.drop (i + 1))).length + 1 := by rw [hdr]; rfl
          rw [hkd] at hq ⊢
          have hnp : (0 : Int) < ((keys (S.drop (i + 1))).length : Int) + 1 := by omega
          have hml : (keys (S.drop (i + 1))).length ≤ 36 := by rw [keys_length, List.length_drop]; omega
          have HDR := Lib.hid hdr
          have HP := Lib.hid p
          have HB := Lib.hid hbfs
          have HKD := Lib.hid hkd
          clear hcell hdr p hbfs hkl hkd
          generalize hnn : (keys (S.drop (i + 1))).length = nn at *
          have HNN := Lib.hid hnn
          clear hnn
          rw [HDR.out] at hq
          have hq1 : QI wo (w.heap.size + 1) 62 2 (.slice (some ⟨gq, oq, none⟩) (nn + 1) capq) (nn + 1) (cc (cl :: keys (S.drop (i + 1)))) := hq
          have HQ1 := Lib.hid (hq1.alloc (.cells #[.int .i64 cl.x, .int .i64 cl.y] 62))
          have hqlt := (hq1.lt gq rfl).2
          clear hq hq1
          have HQX := HQ1
          go_wp2_with (refine wpList_tail_q _ rfl _ 42 rfl (w.heap.size + 1) 62 i0 2 Try.underlying42 hi hz1 (by decide) gq oq nn capq _ rfl hnc HQX.out ?_; clear HQX; intro tv hq2 htv)
          have hbr1 : Below w.heap.size w (wo.alloc (.cells #[.int .i64 cl.x, .int .i64 cl.y] 62)) := hbr.alloc (by omega) _
          have hmp1 : MapIs (wo.alloc (.cells #[.int .i64 cl.x, .int .i64 cl.y] 62)) w.heap.size S := hmp.keep (Below.heap_alloc _ _ _ (by omega))
          have BC := Blk.new wo 62 #[.int .i64 cl.x, .int .i64 cl.y]
          clear q0 q1 hmp hbr
          refine (HD.out cl _ hbr1).mono ?_
          rintro e w2 ⟨rfl, hb2⟩
          have hbr2 := hbr1.trans (hb2.mono hbr1.size)
          have sz2 := hb2.size
          simp only [World.size_alloc] at sz2
          have hq3 : QI w2 (w.heap.size + 1) 62 2 tv nn (cc (keys (S.drop (i + 1)))) := hq2.below hb2 (Nat.le_refl _)
          have hmp2 := hmp1.keep (hb2.block _ (by simp; omega))
          have BC2 := BC.below hb2 (by simp)
          clear hbr1 hmp1 BC hb2 hq2 HQ1
          have k0 := BC2.cell 0
          have k1 := BC2.cell 1
          simp at k0 k1
          obtain ⟨gc, hgc⟩ : ∃ gc, gc = wo.heap.size := ⟨_, rfl⟩
          have hgl : gc + 1 ≤ w2.heap.size := by omega
          have hgw : w.heap.size + 1 ≤ gc := by omega
          have hgq : gq < gc := by omega
          rw [← hgc] at BC2 k0 k1 ⊢
          clear hgc
          cases hdn : done cl
          · have hbs : bfs around opn done gk (expand around opn S cl) (i + 1) = R := by
              have := HB.out
              rw [bfs, HP.out] at this
              simpa [hdn] using this
            have HB2 := Lib.hid hbs
            have hnear := HNR.out cl (hinv.opens _ (List.mem_of_getElem? HP.out))
            clear hbs hdn
            go_wp2_with fail
            clear k0 k1
            refine (HA.out cl _ hnear).mono ?_
            rintro e w3 ⟨vd, rfl, od, hb3⟩
            have hDl := HAR.out cl
            obtain ⟨D, hD⟩ : ∃ D, D = around cl := ⟨_, rfl⟩
            rw [← hD] at od hDl
            have HDD := Lib.hid hD
            clear hD
            obtain ⟨Ad, cd, rfl, hmd, hrd⟩ := od.rd
            have hbr3 := hbr2.trans (hb3.mono hbr2.size)
            have sz3 := hb3.size
            have hq4 := hq3.below hb3 (Nat.le_refl _)
            have hmp3 := hmp2.keep (hb3.block _ (by omega))
            have BC3 := BC2.below hb3 (by omega)
            clear od hb3 hq3 hmp2 BC2 hbr2 hnear
            go_wp2
            go_loopw [11, 68] (fun t ii wr => ∃ (k : Nat) (T : List (Cell × Cell)), k ≤ D.length ∧ ii = .int .i64 k ∧ T = (D.take k).foldl (addN opn cl) S ∧ BInv opn T ∧ S.length ≤ T.length ∧ T[i]? = some (cl, pp) ∧ QI wr (w.heap.size + 1) 62 2 t (keys (T.drop (i + 1))).length (cc (keys (T.drop (i + 1)))) ∧
              MapIs wr w.heap.size T ∧ Below w.heap.size w wr ∧ SameIn gc w3.heap.size w3 wr ∧ w3.heap.size ≤ wr.heap.size ∧ ∀ q, t.ownBlock = some q → q < gc ∨ w3.heap.size ≤ q) (fun _ ii _ => D.length - (intOf ii).toNat)
            case atStart => exact ⟨0, S, Nat.zero_le _, rfl, rfl, hinv, Nat.le_refl _, HP.out, by rw [HNN.out]; exact hq4, hmp3, hbr3, SameIn.refl _, Nat.le_refl _, fun q hq => by rw [htv] at hq; injection hq; omega⟩
            case round =>
              obtain ⟨k, T, hk, rfl, hT, hinvT, hST, hTi, hq, hmp, hbr, hsm, hsz, hap⟩ := hrel
              by_cases hltk : k < D.length
              · have hrw : Rd wr w2.heap.size w3.heap.size 2 Ad D.length (cc D) := hrd.keep fun b h1 h2 => hsm b (by omega) h2
                have Hrd := Lib.hid hrd
                obtain ⟨bb, off, d, rfl, hbl, hbb, hd, q1, q2⟩ := hrw.at2 hltk
                have BCr : Blk wr gc 62 #[.int .i64 cl.x, .int .i64 cl.y] := (hsm gc (Nat.le_refl _) (by omega)).trans BC3
                have hst : (D.take (k + 1)).foldl (addN opn cl) S = addN opn cl T d := by
                  have hkk := (List.getElem?_eq_some_iff.1 hd).1
                  have e := (List.getElem?_eq_some_iff.1 hd).2
                  rw [List.take_succ_eq_append_getElem hkk, List.foldl_append, e, ← hT]
                  rfl
                have HST := Lib.hid hst
                have HT := Lib.hid hT
                have HTI := Lib.hid hTi
                -- the variable d
                have hbrA : Below w.heap.size w (wr.alloc (.cells #[.int .i64 d.x, .int .i64 d.y] 62)) := hbr.alloc (by omega) _
                have hmpA : MapIs (wr.alloc (.cells #[.int .i64 d.x, .int .i64 d.y] 62)) w.heap.size T := hmp.keep (Below.heap_alloc _ _ _ (by omega))
                have hqA := hq.alloc (.cells #[.int .i64 d.x, .int .i64 d.y] 62)
                have hsmA : SameIn gc w3.heap.size w3 (wr.alloc (.cells #[.int .i64 d.x, .int .i64 d.y] 62)) := hsm.trans (SameIn.alloc hsz _)
                have BCA := BCr.alloc (.cells #[.int .i64 d.x, .int .i64 d.y] 62)
                have BDA := Blk.new wr 62 #[.int .i64 d.x, .int .i64 d.y]
                have hlk := run_lookup_cell_ok hmpA d
                unfold cv at hlk
                clear hst hT hTi hrw hd hbr hmp hq hsm BCr hrd
                cases hma : mapAt T d with
                | some pd =>
                  rw [hma] at hlk
                  simp only [Option.getD_some, Option.isSome_some] at hlk
                  have hTT : addN opn cl T d = T := by simp [addN, hma]
                  have HTT := Lib.hid hTT
                  clear hTT hma
                  go_wp2
                  go_roundw
                  case rel => exact ⟨k + 1, T, by omega, by go_num, by rw [HST.out, HTT.out], hinvT, hST, HTI.out, hqA.alloc _, hmpA.keep (Below.heap_alloc _ _ _ (by simp; omega)), hbrA.alloc (by simp; omega) _, hsmA.trans (SameIn.alloc (by simp; omega) _), by simp; omega, hap⟩
                  case measure => simp [intOf]; omega
                | none =>
                  rw [hma] at hlk
                  simp only [Option.getD_none, Option.isSome_none] at hlk
                  have hbrB := hbrA.alloc (by simp; omega) (.cells #[.int .i64 0, .int .i64 0] 62)
                  have hmpB := hmpA.keep (Below.heap_alloc _ (.cells #[.int .i64 0, .int .i64 0] 62) _ (by simp; omega))
                  have hqB := hqA.alloc (.cells #[.int .i64 0, .int .i64 0] 62)
                  have hsmB := hsmA.trans (SameIn.alloc (by simp; omega) (.cells #[.int .i64 0, .int .i64 0] 62))
                  have BCB := BCA.alloc (.cells #[.int .i64 0, .int .i64 0] 62)
                  have BDB := BDA.alloc (.cells #[.int .i64 0, .int .i64 0] 62)
                  have HMA := Lib.hid hma
                  have hkl : (keys (T.drop (i + 1))).length ≤ 36 := by rw [keys_length, List.length_drop]; have := hinvT.len HG.out; omega
                  clear hma hqA hbrA hmpA hsmA BCA BDA
                  go_wp2_with fail
                  clear hlk q1 q2
                  refine (HO.out d _ hbrB).mono ?_
                  rintro e w4 ⟨rfl, hb4⟩
                  have sz4 := hb4.size
                  simp only [World.size_alloc] at sz4
                  have hbr4 := hbrB.trans (hb4.mono (by simp; omega))
                  have hmp4 := hmpB.keep (hb4.block _ (by simp; omega))
                  have hq4' := hqB.below hb4 (Nat.le_refl _)
                  have hsm4 := hsmB.trans (SameIn.of_below hb4 (by simp; omega))
                  have BC4 := BCB.below hb4 (by simp; omega)
                  have BD4 := BDB.below hb4 (by simp; omega)
                  clear hbrB hmpB hqB hsmB BCB BDB hb4
                  cases hop : opn d with
                  | false =>
                    have hTT : addN opn cl T d = T := by simp [addN, HMA.out, hop]
                    have HTT := Lib.hid hTT
                    clear hTT hop BC4 BD4
                    go_wp2
                    go_roundw
                    case rel => exact ⟨k + 1, T, by omega, by go_num, by rw [HST.out, HTT.out], hinvT, hST, HTI.out, hq4', hmp4, hbr4, hsm4, by omega, hap⟩
                    case measure => simp [intOf]; omega
                  | true =>
                    have hTT : addN opn cl T d = T ++ [(d, cl)] := by simp [addN, HMA.out, hop]
                    have hinv5 := hinvT.snoc HMA.out hop (.inr ⟨i, pp, HTI.out⟩)
                    obtain ⟨w5, hup, hmp5, hg5, sz5⟩ := run_update_cell hmp4 d cl HMA.out
                    unfold cv at hup
                    have hbr5 : Below w.heap.size w w5 := hbr4.trans (below_of_only hg5 (Nat.le_refl _) hbr4.size)
                    have hq5 := hq4'.keep (w' := w5) fun q hq => hg5.block q (hq4'.lt q hq).2 (by intro e; injection e with e; have := (hq4'.lt q hq).1; omega)
                    have hsm5 : SameIn gc w3.heap.size w3 w5 := hsm4.trans fun b h1 h2 => hg5.block b (by omega) (by intro e; injection e with e; omega)
                    have BD5 := BD4.grown hg5 (by intro e; injection e with e; omega)
                    have sz5' : w4.heap.size ≤ w5.heap.size := by omega
                    have kc0 := BC4.cell 0
                    have kc1 := BC4.cell 1
                    have kd0 := BD4.cell 0
                    have kd1 := BD4.cell 1
                    have ke0 := BD5.cell 0
                    have ke1 := BD5.cell 1
                    simp at kc0 kc1 kd0 kd1 ke0 ke1
                    have HTT := Lib.hid hTT
                    clear hTT hop BC4 BD4 BD5 hq4' hmp4 hbr4 hsm4 hg5 sz5
                    go_wp2_with (at_builtin; refine wpList_append_q _ rfl _ _ 42 rfl (w.heap.size + 1) 62 i0 _ 2 16 Try.underlying42 hi hz0 hz1 hz2 rfl (by decide) _ _ _ rfl (hq5.alloc _) ⟨w5.heap.size, 0, none⟩ 1 [.int .i64 d.x, .int .i64 d.y] rfl rfl (news_alloc w5 #[.int .i64 d.x, .int .i64 d.y] _) (by intro u hu; simp at hu; rcases hu with rfl | rfl <;> rfl) (by unfold maxLen; omega) (by omega) (by simp; omega) ?_; intro v' w6 hq6 hgrow hat)
                    have hmp6 := (hmp5.keep (Below.heap_alloc w5 (.cells #[.int .i64 d.x, .int .i64 d.y] 62) w.heap.size (by omega))).keep (hgrow.block w.heap.size (by simp; omega) (fun e => by have := (hq5.lt _ e.symm).1; omega))
                    have hbr6 : Below w.heap.size w w6 := (hbr5.alloc (by omega) _).grown hgrow (by simp; omega) (fun q hq => by have := (hq5.lt q hq).1; omega)
                    have hap6 := apart_grown (H := (w5.alloc (.cells #[.int .i64 d.x, .int .i64 d.y] 62)).heap.size) (by simp; omega) hap hat
                    have hsm6 := (hsm5.trans (SameIn.alloc (by omega) (.cells #[.int .i64 d.x, .int .i64 d.y] 62))).trans (SameIn.of_grown hgrow (by simp; omega) hap)
                    have sz6 := hgrow.size
                    simp only [World.size_alloc] at sz6
                    have hdrop : (T ++ [(d, cl)]).drop (i + 1) = T.drop (i + 1) ++ [(d, cl)] := by rw [List.drop_append_of_le_length (by omega)]
                    have hq7 : QI w6 (w.heap.size + 1) 62 2 v' (keys ((T ++ [(d, cl)]).drop (i + 1))).length (cc (keys ((T ++ [(d, cl)]).drop (i + 1)))) := by
                      rw [hdrop, keys_append, cc_append, List.length_append]
                      exact hq6
                    have hTi7 : (T ++ [(d, cl)])[i]? = some (cl, pp) := by rw [List.getElem?_append_left (by omega)]; exact HTI.out
                    have HTI7 := Lib.hid hTi7
                    clear hq6 hgrow hat hq5 hmp5 hbr5 hsm5 hup kc0 kc1 kd0 kd1 ke0 ke1 hdrop hTi7 hap
                    go_wp2
                    go_roundw
                    case rel => exact ⟨k + 1, T ++ [(d, cl)], by omega, by go_num, by rw [HST.out, HTT.out], hinv5, by simp; omega, HTI7.out, hq7, hmp6, hbr6, hsm6, by omega, hap6⟩
                    case measure => simp [intOf]; omega
              · have hkn : k = D.length := by omega
                subst hkn
                rw [List.take_length, HDD.out] at hT
                have hTe : T = expand around opn S cl := hT
                clear hT
                go_wp2
                go_roundg (gk - 1)
                case measure => omega
                case rel =>
                  refine ⟨i + 1, T, by omega, by omega, hinvT, hq, hmp, hbr, by omega, ?_⟩
                  rw [show gk - 1 + 1 = gk by omega, hTe]
                  exact HB2.out
          · have hRs : R = some (wayGo S S.length cl [cl]) := by
              have := HB.out
              rw [bfs, HP.out] at this
              simpa [hdn] using this.symm
            obtain ⟨way, hway⟩ : ∃ way, way = wayGo S S.length cl [cl] := ⟨_, rfl⟩
            rw [← hway] at hRs
            subst hRs
            have HW := Lib.hid hway
            clear hway hdn hq3 HB HNN HDR HKD
            have how := own_one w2 (Nat.le_refl _) (.int .i64 cl.x) (.int .i64 cl.y) 62
            have hmpw := hmp2.keep (w' := w2.alloc (.cells #[.int .i64 cl.x, .int .i64 cl.y] 62)) (Below.heap_alloc _ _ _ (by omega))
            have hbr2s := hbr2.size
            have hbrw := hbr2.alloc hbr2.size (.cells #[.int .i64 cl.x, .int .i64 cl.y] 62)
            have BCw := BC2.alloc (.cells #[.int .i64 cl.x, .int .i64 cl.y] 62)
            have szw : w2.heap.size + 1 ≤ (w2.alloc (.cells #[.int .i64 cl.x, .int .i64 cl.y] 62)).heap.size := by simp
            go_wp2
            clear hmp2 hbr2 BC2 k0 k1
            generalize w2.alloc (.cells #[.int .i64 cl.x, .int .i64 cl.y] 62) = wB at *
            go_loopg [15] S.length (fun gk2 wv wr => ∃ (ci pj : Cell) (acc : List Cell) (j : Nat), S[j]? = some (ci, pj) ∧ j < gk2 ∧ 0 < acc.length ∧ acc.length + gk2 ≤ S.length + 1 ∧ wayGo S gk2 ci acc = way ∧ wr.ownsRow w2.heap.size 62 2 wv acc.length (cc acc) ∧
              Blk wr gc 62 #[.int .i64 ci.x, .int .i64 ci.y] ∧ MapIs wr w.heap.size S ∧ Below w.heap.size w wr ∧ w2.heap.size ≤ wr.heap.size)
            case atStart => exact ⟨cl, pp, [cl], i, HP.out, hlt, by simp, by simp; omega, HW.out.symm, how, BCw, hmpw, hbrw, by omega⟩
            case round =>
              obtain ⟨ci, pj, acc, j, hj, hjl, hal, hag, hwg, how, BC, hmp, hbr, hsz⟩ := hrel
              have hma := mapAt_some hinv.nodup hj
              have hlk : ∀ n, (Instr.lookup 123 (.map (some w.heap.size)) (.agg #[.int .i64 ci.x, .int .i64 ci.y]) false).run Try.prog (wr.drewN n) = .ok (.agg #[.int .i64 pj.x, .int .i64 pj.y]) (wr.drewN n) := fun n => by
                have := run_lookup_cell (w := wr.drewN n) (hmp.keep rfl) ci
                rw [hma] at this
                exact this
              have hne : ∀ n, (binOp .neq 62 (.agg #[.int .i64 pj.x, .int .i64 pj.y]) (.agg #[.int .i64 ci.x, .int .i64 ci.y])).run Try.prog (wr.drewN n) = .ok (.bool (!decide (pj = ci))) (wr.drewN n) := fun n => run_neq_cell _ pj ci
              have k0 := BC.cell 0
              have k1 := BC.cell 1
              simp at k0 k1
              have HJ := Lib.hid hj
              have HWG := Lib.hid hwg
              have HINV := Lib.hid hinv
              have HMA := Lib.hid hma
              clear hj hwg hinv hma
              by_cases hpe : pj = ci
              · subst hpe
                rw [decide_eq_true rfl] at hne
                have heq : ∀ n, (Op.equal 62 (.agg #[.int .i64 pj.x, .int .i64 pj.y]) (.agg #[.int .i64 pj.x, .int .i64 pj.y])).run Try.prog (wr.drewN n) = .ok true (wr.drewN n) := fun n => by have := run_equal_cell (wr.drewN n) pj pj; rw [decide_eq_true rfl] at this; exact this
                have hacc : acc = way := by
                  have := HWG.out
                  rw [show gk = (gk - 1) + 1 by omega, wayGo, HMA.out] at this
                  simpa using this
                subst hacc
                clear hne
                go_wp2_with fail
                go_quiet (fail)
                go_wp2
                go_ret2
                exact ⟨_, rfl, CellsIn.mk (own_more (w := wr.drewN nq) how hbr2s) rfl rfl, below_drewN hbr _⟩
              · have heq : ∀ n, (Op.equal 62 (.agg #[.int .i64 pj.x, .int .i64 pj.y]) (.agg #[.int .i64 ci.x, .int .i64 ci.y])).run Try.prog (wr.drewN n) = .ok false (wr.drewN n) := fun n => by have := run_equal_cell (wr.drewN n) pj ci; rw [decide_eq_false hpe] at this; exact this
                clear hne
                obtain ⟨j', q', hjj, hj'⟩ := (HINV.out.chain j ci pj HJ.out).resolve_left (fun e => hpe e.symm)
                have hwg' : wayGo S (gk - 1) pj (pj :: acc) = way := by
                  have := HWG.out
                  rw [show gk = (gk - 1) + 1 by omega, wayGo, HMA.out] at this
                  simpa [hpe] using this
                have HJ' := Lib.hid hj'
                have HWG' := Lib.hid hwg'
                have HPE := Lib.hid hpe
                clear hj' hwg' hpe
                go_wp2_with fail
                refine wp_region_quiet_lit (by kernel_rfl) (by kernel_rfl) ?_
                repeat (go_big_quiet_step (fail))
                go_big_quiet_want
                go_big_quiet_op
                refine ⟨.bool true, fun aa => ?_, ?_⟩
                · by_cases hx : pj.x = ci.x
                  · have hy : ¬ pj.y = ci.y := fun hy => HPE.out (Cell.ext hx hy)
                    simp [hx, hy]
                  · simp [hx]
                go_big_quiet_on
                refine wpQuiet_nil ?_
                intro _ hwq'
                obtain ⟨nq, hwq''⟩ := hwq'
                subst hwq''
                have hbrq := below_drewN hbr nq
                have BCq : Blk (wr.drewN nq) gc 62 #[.int .i64 ci.x, .int .i64 ci.y] := BC
                have hmpq : MapIs (wr.drewN nq) w.heap.size S := hmp
                have howq : (wr.drewN nq).ownsRow w2.heap.size 62 2 u15 acc.length (cc acc) := how
                have szq : w2.heap.size ≤ (wr.drewN nq).heap.size := hsz
                have k0q : (wr.drewN nq).cell? ⟨gc, 0, none⟩ = some (.int .i64 ci.x) := k0
                have k1q : (wr.drewN nq).cell? ⟨gc, 1, none⟩ = some (.int .i64 ci.y) := k1
                have hlkq := hlk nq
                clear hlk heq k0 k1 how hmp BC hbr hsz
                generalize wr.drewN nq = wq at *
                obtain ⟨gw, cw, rfl, hacw, hgwl, howc⟩ := own_at howq hal
                have f0 := BCq.frozen 0
                have f1 := BCq.frozen 1
                have BCs : Blk ((wq.setCell ⟨gc, 0, none⟩ (.int .i64 pj.x)).setCell ⟨gc, 1, none⟩ (.int .i64 pj.y)) gc 62 #[.int .i64 pj.x, .int .i64 pj.y] := (BCq.set_ 0 (.int .i64 pj.x)).set_ 1 (.int .i64 pj.y)
                have hg1 := only_setCell (only_setCell (World.grownBy.refl wq (some gc)) (p := ⟨gc, 0, none⟩) (.inl rfl) (.int .i64 pj.x)) (p := ⟨gc, 1, none⟩) (.inl rfl) (.int .i64 pj.y)
                have hbrs : Below w.heap.size w _ := hbrq.trans (below_of_only hg1 (by omega) hbrq.size)
                have hmps := hmpq.keep (hg1.block w.heap.size hmpq.lt (by intro e; injection e with e; omega))
                have hows := howq.kept hg1 (.inr (by simp [Value.ownBlock]; omega))
                have szs := hg1.size
                obtain ⟨ws, hws⟩ : ∃ ws, ws = (wq.setCell ⟨gc, 0, none⟩ (.int .i64 pj.x)).setCell ⟨gc, 1, none⟩ (.int .i64 pj.y) := ⟨_, rfl⟩
                have k0s := BCs.cell 0
                have k1s := BCs.cell 1
                simp at k0s k1s
                have HWS := Lib.hid hws
                clear hws
                have hl2 := howq.1
                have hag' : acc.length + 1 ≤ 40 := by omega
                have hone := own_one ((wq.setCell ⟨gc, 0, none⟩ (.int .i64 pj.x)).setCell ⟨gc, 1, none⟩ (.int .i64 pj.y)) (lo := w2.heap.size) (by omega) (.int .i64 pj.x) (.int .i64 pj.y) 62
                rw [show ((wq.setCell ⟨gc, 0, none⟩ (.int .i64 pj.x)).setCell ⟨gc, 1, none⟩ (.int .i64 pj.y)).heap.size = wq.heap.size by simp] at hone
                have hcel := (hows.alloc (.cells #[.int .i64 pj.x, .int .i64 pj.y] 62)).cells (g := gw) rfl
                have hwsz : w2.heap.size ≤ ((wq.setCell ⟨gc, 0, none⟩ (.int .i64 pj.x)).setCell ⟨gc, 1, none⟩ (.int .i64 pj.y)).heap.size := by omega
                have HHO := Lib.hid hone
                have HCE := Lib.hid hcel
                have hbrq0 := hbrq.size
                clear hone hcel howc howq BCq hmpq hbrq
                go_wp2_with (at_builtin; refine wpList_append_own _ rfl _ _ 42 rfl w2.heap.size 62 i0 _ 2 16 Try.underlying42 hi hz0 hz1 hz2 rfl (by decide) _ _ _ rfl HHO.out ⟨gw, 0, none⟩ acc.length cw (cc acc) rfl hl2 HCE.out cc_one (by unfold maxLen; omega) (by omega) (by simp; omega) ?_; intro v' w3 how3 hgrow _)
                have BC3 := (BCs.alloc (.cells #[.int .i64 pj.x, .int .i64 pj.y] 62)).grown hgrow (by intro e; have e : some gc = some wq.heap.size := e; injection e with e; omega)
                have hmp3 := (hmps.keep (Below.heap_alloc _ (.cells #[.int .i64 pj.x, .int .i64 pj.y] 62) _ (by have := hmps.lt; omega))).keep (hgrow.block _ (by simp; omega) (by intro e; have e : some w.heap.size = some wq.heap.size := e; injection e with e; have := hbrq0; omega))
                have hbr3 := (hbrs.alloc (by omega) (.cells #[.int .i64 pj.x, .int .i64 pj.y] 62)).grown hgrow (by simp; omega) (fun q hq => by have hq : some wq.heap.size = some q := hq; injection hq with hq; have := hbrq0; omega)
                have sz3 := hgrow.size
                simp only [World.size_alloc] at sz3
                have how4 : w3.ownsRow w2.heap.size 62 2 v' (pj :: acc).length (cc (pj :: acc)) := by
                  rw [List.length_cons, Nat.add_comm]
                  exact how3
                clear how3 hgrow hows BCs hmps hbrs HHO HCE k0s k1s k0q k1q hlkq f0 f1 hg1 hl2
                go_wp2
                go_roundg (gk - 1)
                case measure => omega
                case rel => exact ⟨pj, q', pj :: acc, j', HJ'.out, by omega, by simp, by simp; omega, HWG'.out, how4, BC3, hmp3, hbr3, by omega⟩
        · have hbn : R = none := by rw [← hbfs]; exact bfs_end (by omega)
          subst hbn
          have hk0 : (keys (S.drop i)).length = 0 := by omega
          obtain ⟨Aq, cq, rfl⟩ := hq.shape
          rw [hk0]
          clear hk0 hkl hq
          go_wp2
          go_ret2
          exact ⟨_, rfl, CellsIn.nil, hbr⟩
end Go.Proofs.Ytjmeplchabehfaa
