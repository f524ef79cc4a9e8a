
/-
  The walks of 'ClaimOfPeriod': the program's and the reference's.
-/
import Derived.Test.YtlfeognjnlppkaaWangJ
import Derived.Test.YtlfeognjnlppkaaLawClm
namespace Go.Proofs.Ytlfeognjnlppkaa
open Go.RowKit

/-- what is claimed -/
def perM (r : Option Per) : List Int := match r with | none => [] | some (f, _, _) => fc f
def perG (l : List Wg) (r : Option Per) : List Wg := match r with | none => [] | some _ => l
def perK (r : Option Per) : Int := match r with | none => 0 | some _ => 5
def perA (r : Option Per) : Int := match r with | none => 0 | some (_, a, _) => a
def perB (r : Option Per) : Int := match r with | none => 0 | some (_, _, b) => b
def perClm (l : List Wg) (r : Option Per) : Clm := ⟨perK r, ⟨0, []⟩, [], perM r, ⟨#[]⟩, 0, [], 0, perG l r, perA r, perB r⟩
abbrev perV (r : Option Per) (vm vw : Value) : Array Value := #[.int .i64 (perK r), .int .i64 0, .slice none 0 0, .slice none 0 0, vm, .string ⟨#[]⟩, .int .i64 0, .slice none 0 0, .int .i64 0, vw, .int .i64 (perA r), .int .i64 (perB r)]
theorem results_cell_tmp {P : Program} {fn : Func} {p q : Tmp} {ty : TypeId} (h : fn.results = #[.cell p ty, .tmp q]) (tmps : Array Value) (w : World) (g : Nat) (t : TypeId) (cs : Array Value) (fr : Nat × Nat) (d : TypeDesc)
    (hp : tmps.getD p undef = .pointer (some ⟨g, 0, none⟩)) (hg : w.heap[g]? = some (.cells cs t fr))
    (hu : P.underlying ty = some d) (hd : (match d with | .struct _ | .array _ _ => true | _ => false) = true) (hi : (P.info? ty).map (·.size) = some cs.size) :
    (results fn tmps).run P w = .ok (.tuple #[.agg cs, tmps.getD q undef]) w := by
  have hp' : tmps[p]?.getD undef = .pointer (some ⟨g, 0, none⟩) := by simpa using hp
  simp [results, h, hp', asAddr, run_loadVar_row w g t ty cs fr d hg hu hd hi]
theorem wgc_one {l : List Wg} : ∀ u ∈ wgc l, u.oneCell' = true := by
  intro u hu
  obtain ⟨a, _, h⟩ := List.mem_flatMap.1 hu
  simp at h
  rcases h with rfl | rfl | rfl | rfl <;> rfl

theorem CellSSRd.nil {w : World} {lo hi : Nat} : CellSSRd w lo hi (.slice none 0 0) [] := ⟨[], IntsIn.nil.rd, rfl, fun i u hu => by simp at hu⟩
set_option maxRecDepth 100000 in
set_option maxHeartbeats 3200000 in
theorem spec_claimPer_c {v : Value} {l : List Wg} (w : World) (h : WangsRd w 0 w.heap.size v l) (hn : l.length ≤ 1048576) :
    Calls Try.prog 11 #[v] w fun e w' => ∃ v', e = .returned (.tuple #[v', .bool (period l).isSome]) ∧ ClmRd w' 0 w'.heap.size v' (perClm l (period l)) ∧ Below w.heap.size w w' := by
  have H := (Sep.start w).box 38 (perV none (.slice none 0 0) (.slice none 0 0))
  have HL := Lib.hid h
  obtain ⟨A, c, rfl, hm0, hr0⟩ := id h
  have HR := Lib.hid hr0
  clear h hr0
  obtain ⟨i0, hi, hz0, hz1, hz2⟩ := info_parts infoWang
  obtain ⟨S, hS⟩ : ∃ S, S = period l := ⟨_, rfl⟩
  rw [← hS]
  have HPER := Lib.hid (spec_period_c (l := l) _ ((HL.out.keep (SameIn.of_below H.below (Nat.le_refl _))).more (Nat.le_refl _) H.size))
  rw [← hS] at HPER
  clear hS
  go_enter Try.func11, Try.ntmps11
  go_wp2_with fail
  refine (HPER.out).mono ?_
  intro e w1 hp
  obtain ⟨v1, x, y, rfl, hres, b1⟩ := hp
  clear HPER
  cases S with
  | none =>
    have H1 := H.step b1
    clear hres b1 H
    have HALL : (((perV none (.slice none 0 0) (.slice none 0 0)) : Array Value).all (·.oneCell')) = true := by simp [Value.oneCell']
    go_wp2_with ((refine wpList_store_row rfl 38 _ _ rfl w.heap.size (perV none (.slice none 0 0) (.slice none 0 0)) rfl rfl 38 _ H1.h0 (by kernel_rfl) rfl HALL ?_))
    have M := H1.setAll (perV none (.slice none 0 0) (.slice none 0 0))
    refine bodyPost_ret (v := .tuple #[.agg (perV none (.slice none 0 0) (.slice none 0 0)), .bool false]) (results_cell_tmp Try.results11 _ _ w.heap.size 38 _ _ _ rfl M.h0 Try.underlying38 rfl (by kernel_rfl)) rfl ?_
    exact ⟨_, rfl, ⟨_, _, _, _, _, rfl, IntsIn.nil.rd, CellSSRd.nil, IntsIn.nil.rd, IntsIn.nil.rd, WangsIn.nil.rd⟩, M.below⟩
  | some p =>
    obtain ⟨f, a, b⟩ := p
    obtain ⟨rfl, rfl, hi1⟩ := hres f a b rfl
    have H2 := H.area b1 (P := fun u => IntsRd u (w.alloc (.cells (perV none (.slice none 0 0) (.slice none 0 0)) 38)).heap.size w1.heap.size v1 (fc f)) (fun u u' hs hp => hp.keep hs) hi1
    obtain ⟨A1, c1, rfl, _, _⟩ := hi1
    have HE := H2.rowBox 62 #[] 4 0 rfl (by decide)
    have hr := HR.out.keep (SameIn.of_below HE.below (Nat.le_refl _))
    clear H b1
    go_wp2_with (first
      | (at_builtin
         refine wpList_app rfl _ _ 36 rfl 62 i0 _ 4 32 Try.underlying36 hi hz0 hz1 hz2 rfl (by decide) _ _ _ rfl HE _ _ _ _ rfl hr wgc_one (by unfold maxLen; omega) (by omega) ?_
         intro v2 w2 H3
         clear HE hr
         simp only [Nat.zero_add] at H3
         obtain ⟨A2, c2, rfl, _, _, _⟩ := Res.row_at H3.h0
         have HALL : ((perV (some (f, a, b)) (.slice A1 (fc f).length c1) (.slice A2 l.length c2) : Array Value).all (·.oneCell')) = true := by simp [Value.oneCell'])
      | (refine wpList_store_row rfl 38 _ _ rfl w.heap.size (perV (some (f, a, b)) (.slice A1 (fc f).length c1) (.slice A2 l.length c2)) rfl rfl 38 _ H3.g2.h0 (by kernel_rfl) rfl HALL ?_))
    have M := H3.g2.setAll (perV (some (f, a, b)) (.slice A1 (fc f).length c1) (.slice A2 l.length c2))
    refine bodyPost_ret (v := .tuple #[.agg (perV (some (f, a, b)) (.slice A1 (fc f).length c1) (.slice A2 l.length c2)), .bool true]) (results_cell_tmp Try.results11 _ _ w.heap.size 38 _ _ _ rfl M.h0 Try.underlying38 rfl (by kernel_rfl)) rfl ?_
    refine ⟨_, rfl, ⟨_, _, _, _, _, rfl, IntsIn.nil.rd, CellSSRd.nil, ?_, IntsIn.nil.rd, ?_⟩, M.below⟩
    · have z : IntsRd _ _ w1.heap.size (.slice A1 (fc f).length c1) (fc f) := M.drop.drop.h0.1
      exact z.more (Nat.zero_le _) (by have g1 := M.drop.drop.h0.2; have g2 := M.h0.lt; simp at g1 g2 ⊢; omega)
    · exact (WangsIn.mk M.drop.oi.1 rfl (by simp)).rd.more (Nat.zero_le _) (Nat.le_refl _)
end Go.Proofs.Ytlfeognjnlppkaa
