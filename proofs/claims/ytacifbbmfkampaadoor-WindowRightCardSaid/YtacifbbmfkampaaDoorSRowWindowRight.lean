/- The law WindowRight: its call returns true for every input, and leaves the input as it was; the row and the card tied to the text of the program. Conditions: none of our own beyond what the row itself says (the listed variables of the library, tied by the card). -/
import Derived.Test.YtacifbbmfkampaaDoorRows
import Derived.Test.YtacifbbmfkampaaDoorTie
import Derived.Test.YtacifbbmfkampaaDoorCards
import Derived.Test.YtacifbbmfkampaaDoorSWindow6
import Derived.Test.YtacifbbmfkampaaDoorVmZ
import Derived.WalkKit
import Derived.ProofKit
import Derived.OpenShut
import Derived.LaidMore
import Derived.LaidHandle
import Derived.ChangeSame
import Derived.ChangeVars
import Derived.JoinedOf
import Derived.RowKit
import Derived.RowKitTokens
import Derived.Stop.Joined
import Derived.SevenTiedAt
namespace Go.Proofs.YtacifbbmfkampaaDoor.windowRight
open Go Go.ChangeShapes Go.WideShapes Go.RowKit
set_option linter.unusedVariables false
theorem own : ownKnob Tryd.prog.godebug = none := by kernel_rfl
theorem laidOut : laidOutB Tryd.prog = true := by kernel_rfl
theorem door_met (os : Os) (args : Array Value) : laidMetH Tryd.prog Rows.windowRightRow.laid ((World.doorLaid Tryd.prog 400 os).forCall (fun _ _ => 0) ⟨#[], args, []⟩).memory :=
  laidMetH_of_parts3 (fuel := 8) (laidMet_of_run' 8 (by kernel_rfl) (by kernel_rfl)) (by kernel_rfl) (by kernel_rfl)
theorem gl {W : World} (h : laidMetH Tryd.prog Rows.windowRightRow.laid W) : Go.Vm.Gl (Go.Vm.allC W) := by
  intro b o v hg
  obtain ⟨rfl, rfl, rfl⟩ := Go.Vm.S.glob_g b o v hg
  have h' := (laidMetH_iff.1 h).2
  have hmem : ("errors.errorType", (DataW.iface "internal/reflectlite.rtype" (.agg [.ptr (.lit (.string [101, 114, 114, 111, 114]))]) : DataW Unit)) ∈ (Rows.windowRightRow.laid.filter fun x => x.2.handleName?.isSome) := by
    refine List.mem_filter.2 ⟨?_, rfl⟩
    simp [Rows.windowRightRow, Rows.laid_errors_errorType]
  obtain ⟨name, u, ty, e1, e2, e3, e4, e5⟩ := h' _ hmem
  have en : name = [101, 114, 114, 111, 114] := (Option.some.inj e1).symm
  subst en
  obtain rfl := Option.some.inj ((show (Tryd.prog.cutTypes.find? (·.1 == "internal/reflectlite.rtype")).map (·.2) = some Go.Vm.S.n_rty by kernel_rfl).symm.trans e2)
  have hm : ty ∈ (List.range Tryd.prog.types.size).filter fun t => Tryd.prog.rowNamed t [101, 114, 114, 111, 114] := List.mem_filter.2 ⟨List.mem_range.2 e3, e4⟩
  rw [show ((List.range Tryd.prog.types.size).filter fun t => Tryd.prog.rowNamed t [101, 114, 114, 111, 114]) = [Go.Vm.S.t_error] by kernel_rfl] at hm
  obtain rfl := List.mem_singleton.1 hm
  rw [show typeHandle Tryd.prog Go.Vm.S.t_error = .pointer (some ⟨Go.Vm.Glob.hb, Go.Vm.S.t_error, none⟩) by kernel_rfl] at e5
  have := World.var?_cell (show Tryd.prog.globalNamed "errors.errorType" = some 0 by kernel_rfl) e5 0
  have h2 : W.cell? ⟨0, 0, none⟩ = some (.iface Go.Vm.S.n_rty (.agg #[.pointer (some ⟨Go.Vm.Glob.hb, Go.Vm.S.t_error, none⟩)])) := by simpa using this
  exact h2
set_option maxRecDepth 100000 in
theorem lifted (os : Os) (started : os.Started) (H : Type) (enc : TypeId × Value → H) :
    ReturnsInHanded {} Tryd.checked os 3 .any (fun w args => (Rows.windowRightSpec.pre enc Tryd.prog Tryd.f3 [] false w args ∧ laidMetH Tryd.prog Rows.windowRightRow.laid w) ∧ sizedMet enc Tryd.prog Tryd.f3 (OpenSpec.ofChange Rows.windowRightSpec) false w args)
      (Rows.windowRightSpec.post enc Tryd.prog Tryd.f3 false true false false) := by
  refine returnsInHanded_of_change_and (C := Tryd.checked) (X := fun w _ => laidMetH Tryd.prog Rows.windowRightRow.laid w) (fun _ _ _ hh h => h.of_heap hh) own started (by kernel_rfl) Tryd.func3
    (ChangeSpec.witness_shaped (enc := enc) (C := Tryd.checked) (os := os) (X := fun w _ => laidMetH Tryd.prog Rows.windowRightRow.laid w) false (World.doorLaid Tryd.prog 400 os) #[.agg #[.int .i64 0, .int .i64 0, .slice none 0 0, .slice none 0 0], .slice none 0 0] 8 rfl (World.shaped_of_RefB (by kernel_rfl) (by kernel_rfl)) (by kernel_rfl) (by kernel_rfl) (by kernel_rfl) (door_met os _)) ?_
  intro W base args ds gs before hval hW _ _ hL _
  have hW' := hW
  obtain ⟨p, q, hA, hV, rfl, hfz, hnd⟩ := hW
  obtain ⟨rfl, rfl⟩ := trodVars_none hV
  have hcall := Go.Vm.law_calls Go.Vm.S.sound (f := 3) rfl (n := 6) (ts := Tryd.f3.params.toList) (by kernel_rfl) hA (fun j t v ht hv => hval j t v (by simpa using ht) hv) (gl hL) (fun xs hx => Go.Vm.S.law_WindowRight xs hx)
  have hlen : ds.length = 2 := Go.Vm.trod_len hA
  refine hcall.mono fun e W' ⟨he, bel⟩ => ?_
  subst he
  have hback := Go.Vm.args_back laidOut bel Tryd.f3.params.toList args.toList ds p (by kernel_rfl) hA
  match ds, hlen with
  | [d0, d1], _ =>
    exact ⟨_, rfl, [d0, d1], [], _, [], p, [], hW', trodAll_mk1 (shut_bool (t := 4) (by kernel_rfl) true), hback, rfl, bel.frame _, fun h => by cases h⟩
theorem row_holds : Rows.WindowRightSaid :=
  OpenClaim.holds_of_wide 3 Tryd.f3 rfl rfl rfl rfl rfl rfl rfl ⟨rfl, rfl, rfl, rfl, rfl⟩ rfl rfl rfl rfl rfl (by kernel_rfl) Tryd.func3 (by kernel_rfl)
    (of_decide_eq_true (by kernel_rfl)) (by unfold Func.isWrapper; first | (rw [if_pos (by decide +kernel)]; kernel_rfl) | (rw [if_neg (by decide +kernel)]; exact ⟨rfl, rfl⟩))
    (fun os started H enc _ => lifted os started H enc)
theorem card_holds : Rows.WindowRightCardSaid :=
  Claim7.holds_tied_plain_at .later [] [.handle] true (true, "191d9be01126b0318b236135068b07045e9409abc12bfc3cefc6e5d9af2beb93") true
    row_holds (fun _ h => by cases h) (by kernel_rfl) (fun _ h => by cases h) windowRight_row_tie rfl ⟨rfl, rfl⟩ (by kernel_rfl) rfl
    (fun f fn hf hfn => by
      obtain rfl : f = 3 := Option.some.inj ((show Tryd.prog.funcNamed Rows.windowRightRow.func = some 3 by kernel_rfl).symm.trans hf) |>.symm
      obtain rfl : fn = Tryd.f3 := (Option.some.inj (Tryd.func3.symm.trans hfn)).symm
      exact ⟨by kernel_rfl, fun j t ht => Go.Vm.stand_all (show (Tryd.f3.params.toList.all fun t => !Tryd.prog.wantsStandIn t) = true by kernel_rfl) j t ht⟩)
    (by kernel_rfl)
end Go.Proofs.YtacifbbmfkampaaDoor.windowRight
namespace Go.Proofs.YtacifbbmfkampaaDoor
/-- The card, under a short name, for the claim. -/
theorem windowRight_holds : Rows.WindowRightCardSaid := windowRight.card_holds
#print axioms windowRight_holds
end Go.Proofs.YtacifbbmfkampaaDoor
