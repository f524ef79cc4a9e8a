
/-
  FnBoundaries: the word around a shape is closed, has its area inside, turns right four times more than left, and gives the shape back in its corner; words are closed, enclose, turn and are written as the reference says, for every input.
  No condition.
-/
import Derived.Test.YtghpkfihdcjlaaaGreatDoorRows
import Derived.Test.YtghpkfihdcjlaaaGreatDoorBdL
import Derived.Test.YtghpkfihdcjlaaaGreatDoorViewB
import Derived.ProofKit
import Derived.OpenShut
import Derived.ChangeOld
import Derived.ShutString
import Derived.Test.YtghpkfihdcjlaaaGreatDoorViewX
import Derived.Test.YtghpkfihdcjlaaaGreatDoorTie
import Derived.Test.YtghpkfihdcjlaaaGreatDoorCards
import Derived.LaidMore
import Derived.Stop.Joined
import Derived.SevenTiedAt
namespace Go.Proofs.YtghpkfihdcjlaaaGreatDoor.lawBoundaries
open Go.ChangeShapes Go.WideShapes Go.ChangeAt Go.RowKit

set_option maxRecDepth 100000 in
theorem own : ownKnob Tryz.prog.godebug = none := by kernel_rfl
set_option maxRecDepth 100000 in
theorem laidOut : laidOutB Tryz.prog = true := by kernel_rfl

set_option maxRecDepth 100000 in
theorem door_met (os : Os) (args : Array Value) : laidMetH Tryz.prog Rows.fnBoundariesRow.laid ((World.doorLaid Tryz.prog 400 os).forCall (fun _ _ => 0) ⟨#[], args, []⟩).memory :=
  laidMetH_of_parts3 (fuel := 8) (laidMet_of_run' 8 (by kernel_rfl) (by kernel_rfl)) (by kernel_rfl) (by kernel_rfl)
set_option maxRecDepth 100000 in
theorem lifted (os : Os) (started : os.Started) (H : Type) (enc : TypeId × Value → H) :
    ReturnsInHanded {} Tryz.checked os 3 .any (fun w args => (Rows.fnBoundariesSpec.pre enc Tryz.prog Tryz.f3 [] false w args ∧ laidMetH Tryz.prog Rows.fnBoundariesRow.laid w) ∧ sizedMet enc Tryz.prog Tryz.f3 (OpenSpec.ofChange Rows.fnBoundariesSpec) false w args)
      (Rows.fnBoundariesSpec.post enc Tryz.prog Tryz.f3 false true false false) := by
  refine returnsInHanded_of_change_and (C := Tryz.checked) (X := fun w _ => laidMetH Tryz.prog Rows.fnBoundariesRow.laid w) (fun _ _ _ hh h => h.of_heap hh) own started (by kernel_rfl) Tryz.func3
    (ChangeSpec.witness_shaped (enc := enc) (C := Tryz.checked) (os := os) (X := fun w _ => laidMetH Tryz.prog Rows.fnBoundariesRow.laid w) false (World.doorLaid Tryz.prog 400 os) #[.slice none 0 0] 8 rfl (World.shaped_of_RefB (by kernel_rfl) (by kernel_rfl)) (by kernel_rfl) (by kernel_rfl) (by kernel_rfl) (door_met os _)) ?_
  intro W base args ds gs before hval0 hW _ _ hL _
  have hval : ∀ (j : Nat) t v, Tryz.f3.params[j]? = some t → args[j]? = some v → Value.okWide Tryz.prog W .any base t v := hval0
  have hW' := hW
  obtain ⟨p, q, hA0, hV, rfl, hfz, hnd⟩ := hW
  have hA : DataW.TrodAll enc Tryz.prog W 0 (fun _ => true) true Tryz.f3.params.toList args.toList ds p := hA0
  rw [Tryz.params3] at hA hval
  obtain ⟨v0, vs0, d0, ds0, p0, q0, hargs, rfl, rfl, h0, r0⟩ := trodAll_cons hA
  obtain ⟨rfl, rfl, rfl⟩ := trodAll_nil r0
  obtain rfl : args = #[v0] := by cases args; simp_all
  obtain ⟨rfl, rfl⟩ := trodVars_none hV
  have k0 := h0
  have lt0 : ∀ x ∈ p0, x.block < W.heap.size := by obtain ⟨m, hm⟩ := k0; exact DataW.trod_lt m _ _ _ hm
  obtain ⟨a0, w0⟩ := view_Bytes (hval 0 22 v0 rfl rfl) h0
  clear hA0 hval0
  refine (law_bd v0 a0 W w0).mono fun e W' ⟨he, bel⟩ => ?_
  subst he
  exact ⟨_, rfl, _, _, _, [], _, [], hW', trodAll_mk1 (shut_bool Tryz.underlying4 _), (trodAll_cons_mk (Below.trod laidOut (by kernel_rfl) (of_decide_eq_true (by kernel_rfl)) k0 bel lt0) trodAll_mk0), rfl, bel.frame _, fun h => by cases h⟩

set_option maxRecDepth 100000 in
theorem j1 : (Rows.fnBoundariesRow.wf (OpenSpec.ofChange Rows.fnBoundariesSpec)) = true := by kernel_rfl
set_option maxRecDepth 100000 in
theorem j2 : (laidOutB Tryz.pinned.checked.prog) = true := by kernel_rfl
set_option maxRecDepth 100000 in
theorem j3 : (mapsRowed Tryz.pinned.checked.prog) = true := by kernel_rfl
set_option maxRecDepth 100000 in
theorem j4 : (Tryz.f3.params.all (Tryz.pinned.checked.prog.readableRec ·)) = true := by kernel_rfl
set_option maxRecDepth 100000 in
theorem j5 : (namedTie Tryz.pinned.checked.prog Rows.fnBoundariesRow.named Rows.fnBoundariesSpec.vars) = true := by kernel_rfl
set_option maxRecDepth 100000 in
theorem j6 : ((Rows.fnBoundariesRow.stops == [])) = true := by kernel_rfl
set_option maxRecDepth 100000 in
theorem j7 : ((Tryz.pinned.checked.prog.stops == [])) = true := by kernel_rfl
set_option maxRecDepth 100000 in
theorem j8 : ((Rows.fnBoundariesRow.knobs == [])) = true := by kernel_rfl
set_option maxRecDepth 100000 in
theorem j9 : ((Tryz.pinned.checked.prog.stopKnobs == [])) = true := by kernel_rfl
set_option maxRecDepth 100000 in
theorem j10 : ((Rows.fnBoundariesRow.inPlace == Tryz.pinned.checked.prog.inPlace 3)) = true := by kernel_rfl
set_option maxRecDepth 100000 in
theorem j11 : ((Rows.fnBoundariesRow.unfollowed == Tryz.pinned.checked.prog.unfollowed 3)) = true := by kernel_rfl
set_option maxRecDepth 100000 in
theorem j12 : ((Rows.fnBoundariesRow.recurses == Tryz.pinned.checked.prog.recurses 3)) = true := by kernel_rfl
set_option maxRecDepth 100000 in
theorem j13 : ((Rows.fnBoundariesRow.named == Tryz.pinned.checked.prog.varsNamed 3)) = true := by kernel_rfl
set_option maxRecDepth 100000 in
theorem j14 : ((Rows.fnBoundariesRow.maps == (Tryz.f3.params.toList ++ Rows.fnBoundariesSpec.plain.varTypes Tryz.pinned.checked.prog).any (Tryz.pinned.checked.prog.mapsRec ·))) = true := by kernel_rfl
set_option maxRecDepth 100000 in
theorem j15 : ((Rows.fnBoundariesRow.ifaces == (Tryz.f3.params.toList ++ Rows.fnBoundariesSpec.plain.varTypes Tryz.pinned.checked.prog).any (Tryz.pinned.checked.prog.ifacesRec ·))) = true := by kernel_rfl
set_option maxRecDepth 100000 in
theorem j16 : ((Rows.fnBoundariesRow.mapsOut == Tryz.pinned.checked.prog.mapsAmong Tryz.f3.resultTypes.toList)) = true := by kernel_rfl
set_option maxRecDepth 100000 in
theorem j17 : ((Rows.fnBoundariesRow.loops == (Tryz.f3.params.toList ++ Rows.fnBoundariesSpec.plain.varTypes Tryz.pinned.checked.prog).any (Tryz.pinned.checked.prog.loopsFrom ·))) = true := by kernel_rfl
set_option maxRecDepth 100000 in
theorem j18 : ((Rows.fnBoundariesRow.wideKeys == (Tryz.f3.params.toList ++ Rows.fnBoundariesSpec.plain.varTypes Tryz.pinned.checked.prog ++ Tryz.f3.resultTypes.toList).any (Tryz.pinned.checked.prog.wideKeysFrom ·))) = true := by kernel_rfl
set_option maxRecDepth 100000 in
theorem j19 : (Rows.fnBoundariesSpec.vars.all (Tryz.pinned.checked.prog.varReadable ·)) = true := by kernel_rfl
set_option maxRecDepth 100000 in
theorem j20 : (Tryz.f3.resultTypes.all (fun t => Tryz.pinned.checked.prog.readableRec t && decide (t < Tryz.pinned.checked.prog.types.size))) = true := by kernel_rfl
set_option maxRecDepth 100000 in
theorem j21 : ((Rows.fnBoundariesRow.ifacesOut == Tryz.f3.resultTypes.toList.any (Tryz.pinned.checked.prog.ifacesRec ·))) = true := by kernel_rfl
set_option maxRecDepth 100000 in
theorem j22 : ((Rows.fnBoundariesRow.loopsOut == Tryz.f3.resultTypes.toList.any (Tryz.pinned.checked.prog.loopsFrom ·))) = true := by kernel_rfl
set_option maxRecDepth 100000 in
theorem j23 : ((Rows.fnBoundariesRow.plainKeys == Tryz.pinned.checked.prog.plainKeys)) = true := by kernel_rfl
set_option maxRecDepth 100000 in
theorem j24 : (Rows.fnBoundariesRow.shortTexts.isNone) = true := by kernel_rfl
set_option maxRecDepth 100000 in
theorem j25 : (Tryz.pinned.checked.prog.stopsHeard) = true := by kernel_rfl
set_option maxRecDepth 100000 in
theorem j26 : (Tryz.pinned.checked.prog.mayEnter) = true := by kernel_rfl
set_option maxRecDepth 100000 in
theorem j27 : ((Rows.fnBoundariesRow.lifted == Tryz.pinned.checked.prog.liftsFinal)) = true := by kernel_rfl
set_option maxRecDepth 100000 in
theorem j28 : ((Tryz.pinned.checked.prog.make == some Rows.fnBoundariesRow.make)) = true := by kernel_rfl
set_option maxRecDepth 100000 in
theorem j29 : ((Rows.fnBoundariesRow.kinds == (if Rows.fnBoundariesRow.domain.isEmpty then [] else Tryz.f3.params.toList.map fun t => match Tryz.pinned.checked.prog.underlying t with | some (.int k) => some k | _ => none))) = true := by kernel_rfl
set_option maxRecDepth 100000 in
theorem j30 : ((Rows.fnBoundariesRow.pinned == Rows.fnBoundariesRow.pinnedBy)) = true := by kernel_rfl
set_option maxRecDepth 100000 in
theorem j31 : ((Rows.fnBoundariesRow.veiled == (Tryz.f3.params.toList ++ Rows.fnBoundariesSpec.plain.varTypes Tryz.pinned.checked.prog ++ Tryz.f3.resultTypes.toList).any (Tryz.pinned.checked.prog.veiledRec ·))) = true := by kernel_rfl
set_option maxRecDepth 100000 in
theorem j32 : (Rows.fnBoundariesRow.veiledFits Tryz.pinned.checked.prog Tryz.f3.params.toList (Tryz.f3.params.toList ++ Rows.fnBoundariesSpec.plain.varTypes Tryz.pinned.checked.prog ++ Tryz.f3.resultTypes.toList)) = true := by kernel_rfl
set_option maxRecDepth 100000 in
theorem joined : joinedFacts Tryz.pinned.checked.prog 3 Tryz.f3 Rows.fnBoundariesSpec Rows.fnBoundariesRow = true := by
  unfold joinedFacts
  simp only [Bool.and_eq_true]
  exact ⟨⟨⟨⟨⟨⟨⟨⟨⟨⟨⟨⟨⟨⟨⟨⟨⟨⟨⟨⟨⟨⟨⟨⟨⟨⟨⟨⟨⟨⟨⟨j1, j2⟩, j3⟩, j4⟩, j5⟩, j6⟩, j7⟩, j8⟩, j9⟩, j10⟩, j11⟩, j12⟩, j13⟩, j14⟩, j15⟩, j16⟩, j17⟩, j18⟩, j19⟩, j20⟩, j21⟩, j22⟩, j23⟩, j24⟩, j25⟩, j26⟩, j27⟩, j28⟩, j29⟩, j30⟩, j31⟩, j32⟩
set_option maxRecDepth 100000 in
theorem t_named : Tryz.pinned.checked.prog.funcNamed Rows.fnBoundariesRow.func = some 3 := by kernel_rfl
set_option maxRecDepth 100000 in
theorem t_inst : Tryz.f3.isInstance Tryz.pinned.checked.prog Rows.fnBoundariesRow.origin Rows.fnBoundariesRow.targs := of_decide_eq_true (by kernel_rfl)
set_option maxRecDepth 100000 in
theorem t_wrap : Tryz.f3.isWrapper Tryz.pinned.checked.prog Rows.fnBoundariesRow.wrapper Rows.fnBoundariesRow.mainSum := by unfold Func.isWrapper; first | (rw [if_pos (by decide +kernel)]; kernel_rfl) | (rw [if_neg (by decide +kernel)]; exact ⟨rfl, rfl⟩)
set_option maxRecDepth 100000 in
theorem t_wf : Rows.fnBoundariesRow.wfByText (OpenSpec.ofChange Rows.fnBoundariesSpec) = true := by kernel_rfl
set_option maxRecDepth 100000 in
theorem t_main : Tryz.pinned.checked.prog.mainIs = some ((true, "ec8381fc6e4ed38589f2374379e705f86e959a886ce215c007f64830e5bd82bb").1, (true, "ec8381fc6e4ed38589f2374379e705f86e959a886ce215c007f64830e5bd82bb").2.toList) := by kernel_rfl
set_option maxRecDepth 100000 in
theorem t_looks : false = Tryz.pinned.checked.prog.looks [] := by kernel_rfl
set_option maxRecDepth 100000 in
theorem t_goes : false = Rows.fnBoundariesRow.goesBy Tryz.pinned.checked.prog := by kernel_rfl
set_option maxRecDepth 100000 in
theorem t_find : Tryz.prog.funcNamed "loop.example/g03400/laws.FnBoundaries" = some 3 := by kernel_rfl
set_option maxRecDepth 100000 in
theorem t_hall : ([22].all fun u => !Tryz.prog.wantsStandIn u) = true := by kernel_rfl
set_option maxRecDepth 100000 in
theorem over : Rows.fnBoundariesRow.holds Tryz.pinned (OpenSpec.ofChange Rows.fnBoundariesSpec) :=
  OpenClaim.holds_of_wide 3 Tryz.f3 rfl rfl rfl rfl rfl rfl rfl ⟨rfl, rfl, rfl, rfl, rfl⟩ rfl rfl rfl rfl rfl t_named Tryz.func3 joined t_inst t_wrap
    (fun os started H enc _ => lifted os started H enc)

set_option maxRecDepth 100000 in
theorem proved : Rows.FnBoundariesCardSaid :=
  Claim7.holds_tied_plain_at .later [] [.data, .data, .data] true (true, "ec8381fc6e4ed38589f2374379e705f86e959a886ce215c007f64830e5bd82bb") false
    over (fun _ h => by cases h) t_wf (fun _ h => by cases h) fnBoundaries_row_tie rfl ⟨rfl, rfl⟩ t_main rfl
    (fun f fn hf hfn => by
      obtain rfl : f = 3 := Option.some.inj (t_find.symm.trans hf) |>.symm
      obtain rfl : fn = Tryz.f3 := (Option.some.inj (Tryz.func3.symm.trans hfn)).symm
      exact ⟨t_looks, fun j t ht => by
        rw [Tryz.params3] at ht
        have hm : t ∈ [22] := by simpa using Array.mem_of_getElem? ht
        have hall : ([22].all fun u => !Tryz.prog.wantsStandIn u) = true := t_hall
        exact (show Tryz.prog.wantsStandIn t = false by simpa using List.all_eq_true.1 hall t hm)⟩)
    t_goes
#print axioms proved
end Go.Proofs.YtghpkfihdcjlaaaGreatDoor.lawBoundaries

