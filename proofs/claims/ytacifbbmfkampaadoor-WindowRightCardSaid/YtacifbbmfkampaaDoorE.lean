/- The table of functions, sound and tame (written by a program of this session's, wip/vm/VmGen.lean). -/
import Derived.Test.YtacifbbmfkampaaDoorG
import Derived.Test.YtacifbbmfkampaaDoorVmP
import Derived.Test.YtacifbbmfkampaaDoorSWord
namespace Go.Vm.S
open Go Go.Vm Go.Extern
set_option linter.unusedVariables false
set_option maxRecDepth 100000
/- NO LAW FOR invoke As -/
abbrev n_rty : Nat := 106
instance glob : Glob := ⟨fun b o => if b = 0 ∧ o = 0 then some (.iface 106 (.agg #[.pointer (some ⟨1, 30, none⟩)])) else none, 1⟩
theorem glob_g (b o : Nat) (v : Value) (h : Glob.g b o = some v) : b = 0 ∧ o = 0 ∧ v = .iface 106 (.agg #[.pointer (some ⟨1, 30, none⟩)]) := by
  have h' : (if b = 0 ∧ o = 0 then some (Value.iface 106 (.agg #[.pointer (some ⟨1, 30, none⟩)])) else none) = some v := h
  split at h'
  · rename_i hc; exact ⟨hc.1, hc.2, (Option.some.inj h').symm⟩
  · cases h'
theorem eqs : ∀ t ∈ EQ, EqLaw Go.Proofs.Tryd.prog t := all_cons (eqLaw_flat (by kernel_rfl)) <| all_cons (eqLaw_flat (by kernel_rfl)) <| all_nil
def tab : List (Nat × AFn) := [
  (1000038, .primX (xValueOf [(59, 130), (62, 150), (66, 150), (61, 150), (63, 150), (67, 150)])),
  (1000039, .primX (xVType 106 [(61, 150), (63, 150), (67, 150)])),
  (1000040, .primX (xIsNil [(61, 150), (63, 150), (67, 150)])),
  (1000055, .primX (xTypeOf 106 [59, 62, 66])),
  (1000056, .primX (xVElem [(61, (150, 59, 386)), (63, (150, 62, 406)), (67, (150, 66, 406))])),
  (1000057, .primX (xVSet [(59, (386, 130)), (62, (406, 150)), (66, (406, 150))])),
  (2000000, .primX (xKind 106 [(59, 2), (62, 22), (66, 22), (61, 22), (63, 22), (67, 22)])),
  (2000001, .primX (xElemT 106 [(61, 59), (63, 62), (67, 66)])),
  (2000002, .primX (xRel 106 [((59, 30), true), ((62, 30), true), ((66, 30), true)])),
  (2000003, .primX (xRel 106 [((59, 59), true), ((59, 62), false), ((59, 66), false), ((62, 59), false), ((62, 62), true), ((62, 66), false), ((66, 59), false), ((66, 62), false), ((66, 66), true)])),
  (2000004, .primX (xUnwrap [(62, 84), (66, 86)])),
  (3000223, .primX (xAsrt [(59, false), (62, false), (66, false)])),
  (3000229, .primX (xAsrt [(59, false), (62, true), (66, true)])),
  (3000233, .primX (xAsrt [(59, false), (62, false), (66, false)])),
  (4000081, .primX (xGlob (.ifc 106 (.agg [.hdl 30])))),
  (f_law13_WindowRight, .code a_law13_WindowRight),
  (f_ref09_Right, .code a_ref09_Right),
  (f_law13_awake, .code a_law13_awake),
  (f_window_Check, .code a_window_Check),
  (f_window_Owner, .code a_window_Owner),
  (f_window_Touch, .code a_window_Touch),
  (f_window_Busy, .code a_window_Busy),
  (f_ref09_in, .code a_ref09_in),
  (f_fault_Of, .code a_fault_Of),
  (f_fault_New, .code a_fault_New),
  (f_window_wrong, .code a_window_wrong),
  (f_fault_At, .code a_fault_At),
  (f_slices_IndexFunc___api_Window_api_Window_, .code a_slices_IndexFunc___api_Window_api_Window_),
  (f_window_Owner_1, .code a_window_Owner_1),
  (f_window_has, .code a_window_has),
  (f_window_count, .code a_window_count),
  (f_window_Busy_1, .code a_window_Busy_1),
  (f_errors_As, .code a_errors_As),
  (f_fault_Name, .code a_fault_Name),
  (f_slices_Contains___int_int_, .code a_slices_Contains___int_int_),
  (f_window_fits, .code a_window_fits),
  (f_errors_as, .code a_errors_as),
  (f_fault_names, .code a_fault_names),
  (f_slices_Index___int_int_, .code a_slices_Index___int_int_),
  (f_slices_Backward___api_Window_api_Window_, .code a_slices_Backward___api_Window_api_Window_),
  (f_slices_Backward___api_Window_api_Window__1, .code a_slices_Backward___api_Window_api_Window__1),
  (f__pfault_section__Unwrap, .code a__pfault_section__Unwrap),
  (f__pfault_place__Unwrap, .code a__pfault_place__Unwrap),
  (f_window_Word, .prim pWord)]
def E : FuncId → Option AFn := fun f => tab.lookup f
theorem g0 : GoodS Go.Proofs.Tryd.prog EQ 1000038 (.primX (xValueOf [(59, 130), (62, 150), (66, 150), (61, 150), (63, 150), (67, 150)])) := ⟨rfl, law_valueOf (P := Go.Proofs.Tryd.prog) (g := 38) (by decide) (fun v w => (@run_callFunc_extern Go.Proofs.Tryd.prog 38 _ (fun args => ReflectliteValue.unpack (args.getD 0 (.tuple #[]))) Go.Proofs.Tryd.func38 (by kernel_rfl) (by kernel_rfl) (by kernel_rfl) (by kernel_rfl)) #[v] w) (all_cons (fun a w => by kernel_rfl) <| all_cons (fun a w => by kernel_rfl) <| all_cons (fun a w => by kernel_rfl) <| all_cons (fun a w => by kernel_rfl) <| all_cons (fun a w => by kernel_rfl) <| all_cons (fun a w => by kernel_rfl) <| all_nil)⟩
theorem g1 : GoodS Go.Proofs.Tryd.prog EQ 1000039 (.primX (xVType 106 [(61, 150), (63, 150), (67, 150)])) := ⟨rfl, law_vtype (P := Go.Proofs.Tryd.prog) (g := 39) (by decide) (all_cons (fun a w => by kernel_rfl) <| all_cons (fun a w => by kernel_rfl) <| all_cons (fun a w => by kernel_rfl) <| all_nil)⟩
theorem g2 : GoodS Go.Proofs.Tryd.prog EQ 1000040 (.primX (xIsNil [(61, 150), (63, 150), (67, 150)])) := ⟨rfl, law_isNil (P := Go.Proofs.Tryd.prog) (g := 40) (by decide) (fun v w => (@run_callFunc_extern Go.Proofs.Tryd.prog 40 _ (ReflectliteValue.method (ReflectliteValue.valueError "reflectlite.Value.IsNil" 0) ReflectliteValue.isNil) Go.Proofs.Tryd.func40 (by kernel_rfl) (by kernel_rfl) (by kernel_rfl) (by kernel_rfl)) #[v] w) (all_cons ⟨by kernel_rfl, by decide, fun a w => by kernel_rfl⟩ <| all_cons ⟨by kernel_rfl, by decide, fun a w => by kernel_rfl⟩ <| all_cons ⟨by kernel_rfl, by decide, fun a w => by kernel_rfl⟩ <| all_nil)⟩
theorem g3 : GoodS Go.Proofs.Tryd.prog EQ 1000055 (.primX (xTypeOf 106 [59, 62, 66])) := ⟨rfl, law_typeOf (P := Go.Proofs.Tryd.prog) (g := 55) (by decide) (all_cons (fun v w => by kernel_rfl) <| all_cons (fun v w => by kernel_rfl) <| all_cons (fun v w => by kernel_rfl) <| all_nil)⟩
theorem g4 : GoodS Go.Proofs.Tryd.prog EQ 1000056 (.primX (xVElem [(61, (150, 59, 386)), (63, (150, 62, 406)), (67, (150, 66, 406))])) := ⟨rfl, law_velem (P := Go.Proofs.Tryd.prog) (g := 56) (by decide) (fun v w => (@run_callFunc_extern Go.Proofs.Tryd.prog 56 _ (ReflectliteValue.method (ReflectliteValue.valueError "reflectlite.Value.Elem" 0) ReflectliteValue.elem) Go.Proofs.Tryd.func56 (by kernel_rfl) (by kernel_rfl) (by kernel_rfl) (by kernel_rfl)) #[v] w) (all_cons ⟨by kernel_rfl, by decide, fun a w => by kernel_rfl, fun w => by kernel_rfl, fun p w => by kernel_rfl⟩ <| all_cons ⟨by kernel_rfl, by decide, fun a w => by kernel_rfl, fun w => by kernel_rfl, fun p w => by kernel_rfl⟩ <| all_cons ⟨by kernel_rfl, by decide, fun a w => by kernel_rfl, fun w => by kernel_rfl, fun p w => by kernel_rfl⟩ <| all_nil)⟩
theorem g5 : GoodS Go.Proofs.Tryd.prog EQ 1000057 (.primX (xVSet [(59, (386, 130)), (62, (406, 150)), (66, (406, 150))])) := ⟨rfl, law_vset (P := Go.Proofs.Tryd.prog) (g := 57) (by decide) (fun v u w => (@run_callFunc_extern Go.Proofs.Tryd.prog 57 _ ReflectliteValue.set Go.Proofs.Tryd.func57 (by kernel_rfl) (by kernel_rfl) (by kernel_rfl) (by kernel_rfl)) #[v, u] w) (all_cons ⟨by kernel_rfl, by kernel_rfl, by decide, fun a w => by kernel_rfl, fun a w => by kernel_rfl, fun w => by kernel_rfl⟩ <| all_cons ⟨by kernel_rfl, by kernel_rfl, by decide, fun a w => by kernel_rfl, fun a w => by kernel_rfl, fun w => by kernel_rfl⟩ <| all_cons ⟨by kernel_rfl, by kernel_rfl, by decide, fun a w => by kernel_rfl, fun a w => by kernel_rfl, fun w => by kernel_rfl⟩ <| all_nil)⟩
theorem g6 : GoodS Go.Proofs.Tryd.prog EQ 2000000 (.primX (xKind 106 [(59, 2), (62, 22), (66, 22), (61, 22), (63, 22), (67, 22)])) := ⟨rfl, law_kind (P := Go.Proofs.Tryd.prog) (all_cons (fun w => by kernel_rfl) <| all_cons (fun w => by kernel_rfl) <| all_cons (fun w => by kernel_rfl) <| all_cons (fun w => by kernel_rfl) <| all_cons (fun w => by kernel_rfl) <| all_cons (fun w => by kernel_rfl) <| all_nil)⟩
theorem g7 : GoodS Go.Proofs.Tryd.prog EQ 2000001 (.primX (xElemT 106 [(61, 59), (63, 62), (67, 66)])) := ⟨rfl, law_elemT (P := Go.Proofs.Tryd.prog) (all_cons (fun w => by kernel_rfl) <| all_cons (fun w => by kernel_rfl) <| all_cons (fun w => by kernel_rfl) <| all_nil)⟩
theorem g8 : GoodS Go.Proofs.Tryd.prog EQ 2000002 (.primX (xRel 106 [((59, 30), true), ((62, 30), true), ((66, 30), true)])) := ⟨rfl, law_rel (P := Go.Proofs.Tryd.prog) (i := 2) (m := "Implements") rfl (all_cons (fun w => by kernel_rfl) <| all_cons (fun w => by kernel_rfl) <| all_cons (fun w => by kernel_rfl) <| all_nil)⟩
theorem g9 : GoodS Go.Proofs.Tryd.prog EQ 2000003 (.primX (xRel 106 [((59, 59), true), ((59, 62), false), ((59, 66), false), ((62, 59), false), ((62, 62), true), ((62, 66), false), ((66, 59), false), ((66, 62), false), ((66, 66), true)])) := ⟨rfl, law_rel (P := Go.Proofs.Tryd.prog) (i := 3) (m := "AssignableTo") rfl (all_cons (fun w => by kernel_rfl) <| all_cons (fun w => by kernel_rfl) <| all_cons (fun w => by kernel_rfl) <| all_cons (fun w => by kernel_rfl) <| all_cons (fun w => by kernel_rfl) <| all_cons (fun w => by kernel_rfl) <| all_cons (fun w => by kernel_rfl) <| all_cons (fun w => by kernel_rfl) <| all_cons (fun w => by kernel_rfl) <| all_nil)⟩
theorem g10 : GoodS Go.Proofs.Tryd.prog EQ 2000004 (.primX (xUnwrap [(62, 84), (66, 86)])) := ⟨rfl, law_unwrap (P := Go.Proofs.Tryd.prog) (all_cons (fun v w => by kernel_rfl) <| all_cons (fun v w => by kernel_rfl) <| all_nil)⟩
theorem g11 : GoodS Go.Proofs.Tryd.prog EQ 3000223 (.primX (xAsrt [(59, false), (62, false), (66, false)])) := ⟨rfl, law_asrt (P := Go.Proofs.Tryd.prog) (T := 111) (by decide) (all_cons (fun xt v w => Go.run_typeAssert_lacksB Go.Proofs.Tryd.underlying111 (by kernel_rfl) (by kernel_rfl) v xt w) <| all_cons (fun xt v w => Go.run_typeAssert_lacksB Go.Proofs.Tryd.underlying111 (by kernel_rfl) (by kernel_rfl) v xt w) <| all_cons (fun xt v w => Go.run_typeAssert_lacksB Go.Proofs.Tryd.underlying111 (by kernel_rfl) (by kernel_rfl) v xt w) <| all_nil)⟩
theorem g12 : GoodS Go.Proofs.Tryd.prog EQ 3000229 (.primX (xAsrt [(59, false), (62, true), (66, true)])) := ⟨rfl, law_asrt (P := Go.Proofs.Tryd.prog) (T := 114) (by decide) (all_cons (fun xt v w => Go.run_typeAssert_lacksB Go.Proofs.Tryd.underlying114 (by kernel_rfl) (by kernel_rfl) v xt w) <| all_cons (fun xt v w => Go.run_typeAssert_hasB Go.Proofs.Tryd.underlying114 (by kernel_rfl) v xt w) <| all_cons (fun xt v w => Go.run_typeAssert_hasB Go.Proofs.Tryd.underlying114 (by kernel_rfl) v xt w) <| all_nil)⟩
theorem g13 : GoodS Go.Proofs.Tryd.prog EQ 3000233 (.primX (xAsrt [(59, false), (62, false), (66, false)])) := ⟨rfl, law_asrt (P := Go.Proofs.Tryd.prog) (T := 116) (by decide) (all_cons (fun xt v w => Go.run_typeAssert_lacksB Go.Proofs.Tryd.underlying116 (by kernel_rfl) (by kernel_rfl) v xt w) <| all_cons (fun xt v w => Go.run_typeAssert_lacksB Go.Proofs.Tryd.underlying116 (by kernel_rfl) (by kernel_rfl) v xt w) <| all_cons (fun xt v w => Go.run_typeAssert_lacksB Go.Proofs.Tryd.underlying116 (by kernel_rfl) (by kernel_rfl) v xt w) <| all_nil)⟩
theorem g14 : GoodS Go.Proofs.Tryd.prog EQ 4000081 (.primX (xGlob (.ifc 106 (.agg [.hdl 30])))) := ⟨rfl, law_glob (P := Go.Proofs.Tryd.prog) (g := 0) (t := 81) (by decide) (by kernel_rfl) (by kernel_rfl)⟩
theorem g15 : GoodS Go.Proofs.Tryd.prog EQ f_law13_WindowRight (.code a_law13_WindowRight) := ⟨rfl, _, Go.Proofs.Tryd.func3, by kernel_rfl, chk_law13_WindowRight⟩
theorem g16 : GoodS Go.Proofs.Tryd.prog EQ f_ref09_Right (.code a_ref09_Right) := ⟨rfl, _, Go.Proofs.Tryd.func5, by kernel_rfl, chk_ref09_Right⟩
theorem g17 : GoodS Go.Proofs.Tryd.prog EQ f_law13_awake (.code a_law13_awake) := ⟨rfl, _, Go.Proofs.Tryd.func6, by kernel_rfl, chk_law13_awake⟩
theorem g18 : GoodS Go.Proofs.Tryd.prog EQ f_window_Check (.code a_window_Check) := ⟨rfl, _, Go.Proofs.Tryd.func7, by kernel_rfl, chk_window_Check⟩
theorem g19 : GoodS Go.Proofs.Tryd.prog EQ f_window_Owner (.code a_window_Owner) := ⟨rfl, _, Go.Proofs.Tryd.func8, by kernel_rfl, chk_window_Owner⟩
theorem g20 : GoodS Go.Proofs.Tryd.prog EQ f_window_Touch (.code a_window_Touch) := ⟨rfl, _, Go.Proofs.Tryd.func9, by kernel_rfl, chk_window_Touch⟩
theorem g21 : GoodS Go.Proofs.Tryd.prog EQ f_window_Busy (.code a_window_Busy) := ⟨rfl, _, Go.Proofs.Tryd.func10, by kernel_rfl, chk_window_Busy⟩
theorem g22 : GoodS Go.Proofs.Tryd.prog EQ f_ref09_in (.code a_ref09_in) := ⟨rfl, _, Go.Proofs.Tryd.func14, by kernel_rfl, chk_ref09_in⟩
theorem g23 : GoodS Go.Proofs.Tryd.prog EQ f_fault_Of (.code a_fault_Of) := ⟨rfl, _, Go.Proofs.Tryd.func15, by kernel_rfl, chk_fault_Of⟩
theorem g24 : GoodS Go.Proofs.Tryd.prog EQ f_fault_New (.code a_fault_New) := ⟨rfl, _, Go.Proofs.Tryd.func16, by kernel_rfl, chk_fault_New⟩
theorem g25 : GoodS Go.Proofs.Tryd.prog EQ f_window_wrong (.code a_window_wrong) := ⟨rfl, _, Go.Proofs.Tryd.func17, by kernel_rfl, chk_window_wrong⟩
theorem g26 : GoodS Go.Proofs.Tryd.prog EQ f_fault_At (.code a_fault_At) := ⟨rfl, _, Go.Proofs.Tryd.func18, by kernel_rfl, chk_fault_At⟩
theorem g27 : GoodS Go.Proofs.Tryd.prog EQ f_slices_IndexFunc___api_Window_api_Window_ (.code a_slices_IndexFunc___api_Window_api_Window_) := ⟨rfl, _, Go.Proofs.Tryd.func19, by kernel_rfl, chk_slices_IndexFunc___api_Window_api_Window_⟩
theorem g28 : GoodS Go.Proofs.Tryd.prog EQ f_window_Owner_1 (.code a_window_Owner_1) := ⟨rfl, _, Go.Proofs.Tryd.func20, by kernel_rfl, chk_window_Owner_1⟩
theorem g29 : GoodS Go.Proofs.Tryd.prog EQ f_window_has (.code a_window_has) := ⟨rfl, _, Go.Proofs.Tryd.func21, by kernel_rfl, chk_window_has⟩
theorem g30 : GoodS Go.Proofs.Tryd.prog EQ f_window_count (.code a_window_count) := ⟨rfl, _, Go.Proofs.Tryd.func22, by kernel_rfl, chk_window_count⟩
theorem g31 : GoodS Go.Proofs.Tryd.prog EQ f_window_Busy_1 (.code a_window_Busy_1) := ⟨rfl, _, Go.Proofs.Tryd.func23, by kernel_rfl, chk_window_Busy_1⟩
theorem g32 : GoodS Go.Proofs.Tryd.prog EQ f_errors_As (.code a_errors_As) := ⟨rfl, _, Go.Proofs.Tryd.func30, by kernel_rfl, chk_errors_As⟩
theorem g33 : GoodS Go.Proofs.Tryd.prog EQ f_fault_Name (.code a_fault_Name) := ⟨rfl, _, Go.Proofs.Tryd.func31, by kernel_rfl, chk_fault_Name⟩
theorem g34 : GoodS Go.Proofs.Tryd.prog EQ f_slices_Contains___int_int_ (.code a_slices_Contains___int_int_) := ⟨rfl, _, Go.Proofs.Tryd.func32, by kernel_rfl, chk_slices_Contains___int_int_⟩
theorem g35 : GoodS Go.Proofs.Tryd.prog EQ f_window_fits (.code a_window_fits) := ⟨rfl, _, Go.Proofs.Tryd.func33, by kernel_rfl, chk_window_fits⟩
theorem g36 : GoodS Go.Proofs.Tryd.prog EQ f_errors_as (.code a_errors_as) := ⟨rfl, _, Go.Proofs.Tryd.func41, by kernel_rfl, chk_errors_as⟩
theorem g37 : GoodS Go.Proofs.Tryd.prog EQ f_fault_names (.code a_fault_names) := ⟨rfl, _, Go.Proofs.Tryd.func42, by kernel_rfl, chk_fault_names⟩
theorem g38 : GoodS Go.Proofs.Tryd.prog EQ f_slices_Index___int_int_ (.code a_slices_Index___int_int_) := ⟨rfl, _, Go.Proofs.Tryd.func43, by kernel_rfl, chk_slices_Index___int_int_⟩
theorem g39 : GoodS Go.Proofs.Tryd.prog EQ f_slices_Backward___api_Window_api_Window_ (.code a_slices_Backward___api_Window_api_Window_) := ⟨rfl, _, Go.Proofs.Tryd.func44, by kernel_rfl, chk_slices_Backward___api_Window_api_Window_⟩
theorem g40 : GoodS Go.Proofs.Tryd.prog EQ f_slices_Backward___api_Window_api_Window__1 (.code a_slices_Backward___api_Window_api_Window__1) := ⟨rfl, _, Go.Proofs.Tryd.func58, by kernel_rfl, chk_slices_Backward___api_Window_api_Window__1⟩
theorem g41 : GoodS Go.Proofs.Tryd.prog EQ f__pfault_section__Unwrap (.code a__pfault_section__Unwrap) := ⟨rfl, _, Go.Proofs.Tryd.func84, by kernel_rfl, chk__pfault_section__Unwrap⟩
theorem g42 : GoodS Go.Proofs.Tryd.prog EQ f__pfault_place__Unwrap (.code a__pfault_place__Unwrap) := ⟨rfl, _, Go.Proofs.Tryd.func86, by kernel_rfl, chk__pfault_place__Unwrap⟩
theorem g43 : GoodS Go.Proofs.Tryd.prog EQ f_window_Word (.prim pWord) := ⟨rfl, ⟨_, Go.Proofs.Tryd.func34, by kernel_rfl⟩, law_word eqs⟩
theorem good : ∀ p ∈ tab, GoodS Go.Proofs.Tryd.prog EQ p.1 p.2 :=
  all_cons g0 <| all_cons g1 <| all_cons g2 <| all_cons g3 <| all_cons g4 <| all_cons g5 <| all_cons g6 <| all_cons g7 <| all_cons g8 <| all_cons g9 <| all_cons g10 <| all_cons g11 <| all_cons g12 <| all_cons g13 <| all_cons g14 <| all_cons g15 <| all_cons g16 <| all_cons g17 <| all_cons g18 <| all_cons g19 <| all_cons g20 <| all_cons g21 <| all_cons g22 <| all_cons g23 <| all_cons g24 <| all_cons g25 <| all_cons g26 <| all_cons g27 <| all_cons g28 <| all_cons g29 <| all_cons g30 <| all_cons g31 <| all_cons g32 <| all_cons g33 <| all_cons g34 <| all_cons g35 <| all_cons g36 <| all_cons g37 <| all_cons g38 <| all_cons g39 <| all_cons g40 <| all_cons g41 <| all_cons g42 <| all_cons g43 <| all_nil
theorem goodT : ∀ p ∈ tab, GoodT p.2 :=
  all_cons (show GoodT _ from tame_valueOf _) <| all_cons (show GoodT _ from tame_vtype _ _) <| all_cons (show GoodT _ from tame_isNil _) <| all_cons (show GoodT _ from tame_typeOf _ _) <| all_cons (show GoodT _ from tame_velem _) <| all_cons (show GoodT _ from tame_vset _) <| all_cons (show GoodT _ from tame_kind _ _) <| all_cons (show GoodT _ from tame_elemT _ _) <| all_cons (show GoodT _ from tame_rel _ _) <| all_cons (show GoodT _ from tame_rel _ _) <| all_cons (show GoodT _ from tame_unwrap _) <| all_cons (show GoodT _ from tame_asrt _) <| all_cons (show GoodT _ from tame_asrt _) <| all_cons (show GoodT _ from tame_asrt _) <| all_cons (show GoodT _ from tame_glob _) <| all_cons (show GoodT _ from trivial) <| all_cons (show GoodT _ from trivial) <| all_cons (show GoodT _ from trivial) <| all_cons (show GoodT _ from trivial) <| all_cons (show GoodT _ from trivial) <| all_cons (show GoodT _ from trivial) <| all_cons (show GoodT _ from trivial) <| all_cons (show GoodT _ from trivial) <| all_cons (show GoodT _ from trivial) <| all_cons (show GoodT _ from trivial) <| all_cons (show GoodT _ from trivial) <| all_cons (show GoodT _ from trivial) <| all_cons (show GoodT _ from trivial) <| all_cons (show GoodT _ from trivial) <| all_cons (show GoodT _ from trivial) <| all_cons (show GoodT _ from trivial) <| all_cons (show GoodT _ from trivial) <| all_cons (show GoodT _ from trivial) <| all_cons (show GoodT _ from trivial) <| all_cons (show GoodT _ from trivial) <| all_cons (show GoodT _ from trivial) <| all_cons (show GoodT _ from trivial) <| all_cons (show GoodT _ from trivial) <| all_cons (show GoodT _ from trivial) <| all_cons (show GoodT _ from trivial) <| all_cons (show GoodT _ from trivial) <| all_cons (show GoodT _ from trivial) <| all_cons (show GoodT _ from trivial) <| all_cons (show GoodT _ from tame_word) <| all_nil
theorem sound : Sound Go.Proofs.Tryd.prog EQ E := sound_of_tab (by kernel_rfl) eqs good
theorem tame : Tame E := tame_of_tab goodT
theorem e_law13_WindowRight : E f_law13_WindowRight = some (.code a_law13_WindowRight) := by kernel_rfl
theorem e_ref09_Right : E f_ref09_Right = some (.code a_ref09_Right) := by kernel_rfl
theorem e_law13_awake : E f_law13_awake = some (.code a_law13_awake) := by kernel_rfl
theorem e_window_Check : E f_window_Check = some (.code a_window_Check) := by kernel_rfl
theorem e_window_Owner : E f_window_Owner = some (.code a_window_Owner) := by kernel_rfl
theorem e_window_Touch : E f_window_Touch = some (.code a_window_Touch) := by kernel_rfl
theorem e_window_Busy : E f_window_Busy = some (.code a_window_Busy) := by kernel_rfl
theorem e_ref09_in : E f_ref09_in = some (.code a_ref09_in) := by kernel_rfl
theorem e_fault_Of : E f_fault_Of = some (.code a_fault_Of) := by kernel_rfl
theorem e_fault_New : E f_fault_New = some (.code a_fault_New) := by kernel_rfl
theorem e_window_wrong : E f_window_wrong = some (.code a_window_wrong) := by kernel_rfl
theorem e_fault_At : E f_fault_At = some (.code a_fault_At) := by kernel_rfl
theorem e_slices_IndexFunc___api_Window_api_Window_ : E f_slices_IndexFunc___api_Window_api_Window_ = some (.code a_slices_IndexFunc___api_Window_api_Window_) := by kernel_rfl
theorem e_window_Owner_1 : E f_window_Owner_1 = some (.code a_window_Owner_1) := by kernel_rfl
theorem e_window_has : E f_window_has = some (.code a_window_has) := by kernel_rfl
theorem e_window_count : E f_window_count = some (.code a_window_count) := by kernel_rfl
theorem e_window_Busy_1 : E f_window_Busy_1 = some (.code a_window_Busy_1) := by kernel_rfl
theorem e_errors_As : E f_errors_As = some (.code a_errors_As) := by kernel_rfl
theorem e_fault_Name : E f_fault_Name = some (.code a_fault_Name) := by kernel_rfl
theorem e_slices_Contains___int_int_ : E f_slices_Contains___int_int_ = some (.code a_slices_Contains___int_int_) := by kernel_rfl
theorem e_window_fits : E f_window_fits = some (.code a_window_fits) := by kernel_rfl
theorem e_errors_as : E f_errors_as = some (.code a_errors_as) := by kernel_rfl
theorem e_fault_names : E f_fault_names = some (.code a_fault_names) := by kernel_rfl
theorem e_slices_Index___int_int_ : E f_slices_Index___int_int_ = some (.code a_slices_Index___int_int_) := by kernel_rfl
theorem e_slices_Backward___api_Window_api_Window_ : E f_slices_Backward___api_Window_api_Window_ = some (.code a_slices_Backward___api_Window_api_Window_) := by kernel_rfl
theorem e_slices_Backward___api_Window_api_Window__1 : E f_slices_Backward___api_Window_api_Window__1 = some (.code a_slices_Backward___api_Window_api_Window__1) := by kernel_rfl
theorem e__pfault_section__Unwrap : E f__pfault_section__Unwrap = some (.code a__pfault_section__Unwrap) := by kernel_rfl
theorem e__pfault_place__Unwrap : E f__pfault_place__Unwrap = some (.code a__pfault_place__Unwrap) := by kernel_rfl
theorem e_window_Word : E f_window_Word = some (.prim pWord) := by kernel_rfl
abbrev n_ValueOf : Nat := 1000038
theorem e_ValueOf : E 1000038 = some (.primX (xValueOf [(59, 130), (62, 150), (66, 150), (61, 150), (63, 150), (67, 150)])) := by kernel_rfl
theorem xeq_ValueOf (xs : List AV) (h : Hp) : evT E n_ValueOf xs h = xValueOf [(59, 130), (62, 150), (66, 150), (61, 150), (63, 150), (67, 150)] (evT E) xs h := evT_xconst e_ValueOf (fun c c' xs h => by unfold xValueOf; split <;> first | rfl | (split <;> simp_all)) xs h
abbrev n_Type : Nat := 1000039
theorem e_Type : E 1000039 = some (.primX (xVType 106 [(61, 150), (63, 150), (67, 150)])) := by kernel_rfl
theorem xeq_Type (xs : List AV) (h : Hp) : evT E n_Type xs h = xVType 106 [(61, 150), (63, 150), (67, 150)] (evT E) xs h := evT_xconst e_Type (fun c c' xs h => by unfold xVType; split <;> first | rfl | (split <;> simp_all)) xs h
abbrev n_IsNil : Nat := 1000040
theorem e_IsNil : E 1000040 = some (.primX (xIsNil [(61, 150), (63, 150), (67, 150)])) := by kernel_rfl
theorem xeq_IsNil (xs : List AV) (h : Hp) : evT E n_IsNil xs h = xIsNil [(61, 150), (63, 150), (67, 150)] (evT E) xs h := evT_xconst e_IsNil (fun c c' xs h => by unfold xIsNil; split <;> first | rfl | (split <;> simp_all)) xs h
abbrev n_TypeOf : Nat := 1000055
theorem e_TypeOf : E 1000055 = some (.primX (xTypeOf 106 [59, 62, 66])) := by kernel_rfl
theorem xeq_TypeOf (xs : List AV) (h : Hp) : evT E n_TypeOf xs h = xTypeOf 106 [59, 62, 66] (evT E) xs h := evT_xconst e_TypeOf (fun c c' xs h => by unfold xTypeOf; split <;> first | rfl | (split <;> simp_all)) xs h
abbrev n_VElem : Nat := 1000056
theorem e_VElem : E 1000056 = some (.primX (xVElem [(61, (150, 59, 386)), (63, (150, 62, 406)), (67, (150, 66, 406))])) := by kernel_rfl
theorem xeq_VElem (xs : List AV) (h : Hp) : evT E n_VElem xs h = xVElem [(61, (150, 59, 386)), (63, (150, 62, 406)), (67, (150, 66, 406))] (evT E) xs h := evT_xconst e_VElem (fun c c' xs h => by unfold xVElem; split <;> first | rfl | (split <;> simp_all)) xs h
abbrev n_VSet : Nat := 1000057
theorem e_VSet : E 1000057 = some (.primX (xVSet [(59, (386, 130)), (62, (406, 150)), (66, (406, 150))])) := by kernel_rfl
theorem xeq_VSet (xs : List AV) (h : Hp) : evT E n_VSet xs h = xVSet [(59, (386, 130)), (62, (406, 150)), (66, (406, 150))] (evT E) xs h := evT_xconst e_VSet (fun c c' xs h => by unfold xVSet; split <;> first | rfl | (split <;> simp_all)) xs h
abbrev n_Kind : Nat := 2000000
theorem e_Kind : E 2000000 = some (.primX (xKind 106 [(59, 2), (62, 22), (66, 22), (61, 22), (63, 22), (67, 22)])) := by kernel_rfl
theorem xeq_Kind (xs : List AV) (h : Hp) : evT E n_Kind xs h = xKind 106 [(59, 2), (62, 22), (66, 22), (61, 22), (63, 22), (67, 22)] (evT E) xs h := evT_xconst e_Kind (fun c c' xs h => by unfold xKind; split <;> first | rfl | (split <;> simp_all)) xs h
abbrev n_Elem : Nat := 2000001
theorem e_Elem : E 2000001 = some (.primX (xElemT 106 [(61, 59), (63, 62), (67, 66)])) := by kernel_rfl
theorem xeq_Elem (xs : List AV) (h : Hp) : evT E n_Elem xs h = xElemT 106 [(61, 59), (63, 62), (67, 66)] (evT E) xs h := evT_xconst e_Elem (fun c c' xs h => by unfold xElemT; split <;> first | rfl | (split <;> simp_all)) xs h
abbrev n_Implements : Nat := 2000002
theorem e_Implements : E 2000002 = some (.primX (xRel 106 [((59, 30), true), ((62, 30), true), ((66, 30), true)])) := by kernel_rfl
theorem xeq_Implements (xs : List AV) (h : Hp) : evT E n_Implements xs h = xRel 106 [((59, 30), true), ((62, 30), true), ((66, 30), true)] (evT E) xs h := evT_xconst e_Implements (fun c c' xs h => by unfold xRel; split <;> first | rfl | (split <;> simp_all)) xs h
abbrev n_AssignableTo : Nat := 2000003
theorem e_AssignableTo : E 2000003 = some (.primX (xRel 106 [((59, 59), true), ((59, 62), false), ((59, 66), false), ((62, 59), false), ((62, 62), true), ((62, 66), false), ((66, 59), false), ((66, 62), false), ((66, 66), true)])) := by kernel_rfl
theorem xeq_AssignableTo (xs : List AV) (h : Hp) : evT E n_AssignableTo xs h = xRel 106 [((59, 59), true), ((59, 62), false), ((59, 66), false), ((62, 59), false), ((62, 62), true), ((62, 66), false), ((66, 59), false), ((66, 62), false), ((66, 66), true)] (evT E) xs h := evT_xconst e_AssignableTo (fun c c' xs h => by unfold xRel; split <;> first | rfl | (split <;> simp_all)) xs h
abbrev n_Unwrap : Nat := 2000004
theorem e_Unwrap : E 2000004 = some (.primX (xUnwrap [(62, 84), (66, 86)])) := by kernel_rfl
theorem xeq_Unwrap (xs : List AV) (h : Hp) : evT E n_Unwrap xs h = xUnwrap [(62, 84), (66, 86)] (evT E) xs h := evT_xunwrap e_Unwrap xs h
abbrev n_asAs : Nat := 3000223
theorem e_asAs : E 3000223 = some (.primX (xAsrt [(59, false), (62, false), (66, false)])) := by kernel_rfl
theorem xeq_asAs (xs : List AV) (h : Hp) : evT E n_asAs xs h = xAsrt [(59, false), (62, false), (66, false)] (evT E) xs h := evT_xconst e_asAs (fun c c' xs h => by unfold xAsrt; split <;> first | rfl | (split <;> simp_all)) xs h
abbrev n_asUnw : Nat := 3000229
theorem e_asUnw : E 3000229 = some (.primX (xAsrt [(59, false), (62, true), (66, true)])) := by kernel_rfl
theorem xeq_asUnw (xs : List AV) (h : Hp) : evT E n_asUnw xs h = xAsrt [(59, false), (62, true), (66, true)] (evT E) xs h := evT_xconst e_asUnw (fun c c' xs h => by unfold xAsrt; split <;> first | rfl | (split <;> simp_all)) xs h
abbrev n_asUnws : Nat := 3000233
theorem e_asUnws : E 3000233 = some (.primX (xAsrt [(59, false), (62, false), (66, false)])) := by kernel_rfl
theorem xeq_asUnws (xs : List AV) (h : Hp) : evT E n_asUnws xs h = xAsrt [(59, false), (62, false), (66, false)] (evT E) xs h := evT_xconst e_asUnws (fun c c' xs h => by unfold xAsrt; split <;> first | rfl | (split <;> simp_all)) xs h
abbrev n_glob : Nat := 4000081
theorem e_glob : E 4000081 = some (.primX (xGlob (.ifc 106 (.agg [.hdl 30])))) := by kernel_rfl
theorem xeq_glob (xs : List AV) (h : Hp) : evT E n_glob xs h = xGlob (.ifc 106 (.agg [.hdl 30])) (evT E) xs h := evT_xconst e_glob (fun c c' xs h => by unfold xGlob; split <;> first | rfl | (split <;> simp_all)) xs h
end Go.Vm.S
