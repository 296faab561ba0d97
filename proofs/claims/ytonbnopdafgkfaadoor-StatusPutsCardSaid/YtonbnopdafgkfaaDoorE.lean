/- The table of functions, sound and tame (written by a program of this session's, wip/vm/VmGen.lean). -/
import Derived.Test.YtonbnopdafgkfaaDoorG
import Derived.Test.YtonbnopdafgkfaaDoorVmP
import Derived.Test.YtonbnopdafgkfaaDoorSh
namespace Go.Vm.S
open Go Go.Vm Go.Extern
set_option linter.unusedVariables false
set_option maxRecDepth 100000
/- NOT TAKEN: f_internal_strconv_numDigits, f_math_bits_TrailingZeros32, f_math_bits_TrailingZeros64 -/
/- NO LAW FOR invoke As -/
abbrev n_rty : Nat := 89
instance glob : Glob := ⟨fun b o => if b = 0 ∧ o = 0 then some (.iface 89 (.agg #[.pointer (some ⟨5, 27, none⟩)])) else none, 5⟩
theorem glob_g (b o : Nat) (v : Value) (h : Glob.g b o = some v) : b = 0 ∧ o = 0 ∧ v = .iface 89 (.agg #[.pointer (some ⟨5, 27, none⟩)]) := by
  have h' : (if b = 0 ∧ o = 0 then some (Value.iface 89 (.agg #[.pointer (some ⟨5, 27, none⟩)])) else none) = some v := h
  split at h'
  · rename_i hc; exact ⟨hc.1, hc.2, (Option.some.inj h').symm⟩
  · cases h'
theorem eqs : ∀ t ∈ EQ, EqLaw Go.Proofs.Tryd.prog t := all_cons (eqLaw_flat (by kernel_rfl)) <| all_cons (eqLaw_flat (by kernel_rfl)) <| all_nil
def tab : List (Nat × AFn) := [
  (1000025, .primX (xValueOf [(44, 130), (47, 150), (51, 150), (46, 150), (48, 150), (52, 150)])),
  (1000026, .primX (xVType 89 [(46, 150), (48, 150), (52, 150)])),
  (1000027, .primX (xIsNil [(46, 150), (48, 150), (52, 150)])),
  (1000035, .primX (xTypeOf 89 [44, 47, 51])),
  (1000036, .primX (xVElem [(46, (150, 44, 386)), (48, (150, 47, 406)), (52, (150, 51, 406))])),
  (1000037, .primX (xVSet [(44, (386, 130)), (47, (406, 150)), (51, (406, 150))])),
  (2000000, .primX (xKind 89 [(44, 2), (47, 22), (51, 22), (46, 22), (48, 22), (52, 22)])),
  (2000001, .primX (xElemT 89 [(46, 44), (48, 47), (52, 51)])),
  (2000002, .primX (xRel 89 [((44, 27), true), ((47, 27), true), ((51, 27), true)])),
  (2000003, .primX (xRel 89 [((44, 44), true), ((44, 47), false), ((44, 51), false), ((47, 44), false), ((47, 47), true), ((47, 51), false), ((51, 44), false), ((51, 47), false), ((51, 51), true)])),
  (2000004, .primX (xUnwrap [(47, 74), (51, 76)])),
  (3000189, .primX (xAsrt [(44, false), (47, false), (51, false)])),
  (3000195, .primX (xAsrt [(44, false), (47, true), (51, true)])),
  (3000199, .primX (xAsrt [(44, false), (47, false), (51, false)])),
  (4000074, .primX (xGlob (.ifc 89 (.agg [.hdl 27])))),
  (f_law23_StatusGets, .code a_law23_StatusGets),
  (f_law23_StatusPuts, .code a_law23_StatusPuts),
  (f_law23_awake, .code a_law23_awake),
  (f_status_Get, .code a_status_Get),
  (f_fault_Of, .code a_fault_Of),
  (f_ref23_Bytes, .code a_ref23_Bytes),
  (f_status_Put, .code a_status_Put),
  (f_status_Pending, .code a_status_Pending),
  (f_status_Text, .code a_status_Text),
  (f_status_wrong, .code a_status_wrong),
  (f_octet_Get, .code a_octet_Get),
  (f_errors_As, .code a_errors_As),
  (f_ref01_Text, .code a_ref01_Text),
  (f_octet_Fits, .code a_octet_Fits),
  (f_octet_Put, .code a_octet_Put),
  (f_strconv_FormatUint, .code a_strconv_FormatUint),
  (f_strconv_Itoa, .code a_strconv_Itoa),
  (f_fault_At, .code a_fault_At),
  (f_fault_New, .code a_fault_New),
  (f_octet_size, .code a_octet_size),
  (f_errors_as, .code a_errors_as),
  (f_internal_strconv_FormatUint, .code a_internal_strconv_FormatUint),
  (f_internal_strconv_Itoa, .code a_internal_strconv_Itoa),
  (f_fault_Name, .code a_fault_Name),
  (f_internal_strconv_small, .code a_internal_strconv_small),
  (f_internal_strconv_formatBase10, .code a_internal_strconv_formatBase10),
  (f_internal_strconv_formatBits, .code a_internal_strconv_formatBits),
  (f_internal_strconv_FormatInt, .code a_internal_strconv_FormatInt),
  (f_fault_names, .code a_fault_names),
  (f_internal_strconv_log10Pow2, .code a_internal_strconv_log10Pow2),
  (f_math_bits_Len64, .code a_math_bits_Len64),
  (f_internal_strconv_bool2_int_, .code a_internal_strconv_bool2_int_),
  (f_internal_strconv_isPowerOfTwo, .code a_internal_strconv_isPowerOfTwo),
  (f_math_bits_TrailingZeros, .code a_math_bits_TrailingZeros),
  (f__pfault_section__Unwrap, .code a__pfault_section__Unwrap),
  (f__pfault_place__Unwrap, .code a__pfault_place__Unwrap),
  (f_slices_Clone___byte_byte_, .prim (pClone 1 1)),
  (f_strings_Join, .prim pJoin)]
def E : FuncId → Option AFn := fun f => tab.lookup f
theorem g0 : GoodS Go.Proofs.Tryd.prog EQ 1000025 (.primX (xValueOf [(44, 130), (47, 150), (51, 150), (46, 150), (48, 150), (52, 150)])) := ⟨rfl, law_valueOf (P := Go.Proofs.Tryd.prog) (g := 25) (by decide) (fun v w => (@run_callFunc_extern Go.Proofs.Tryd.prog 25 _ (fun args => ReflectliteValue.unpack (args.getD 0 (.tuple #[]))) Go.Proofs.Tryd.func25 (by kernel_rfl) (by kernel_rfl) (by kernel_rfl) (by kernel_rfl)) #[v] w) (all_cons (fun a w => by kernel_rfl) <| all_cons (fun a w => by kernel_rfl) <| all_cons (fun a w => by kernel_rfl) <| all_cons (fun a w => by kernel_rfl) <| all_cons (fun a w => by kernel_rfl) <| all_cons (fun a w => by kernel_rfl) <| all_nil)⟩
theorem g1 : GoodS Go.Proofs.Tryd.prog EQ 1000026 (.primX (xVType 89 [(46, 150), (48, 150), (52, 150)])) := ⟨rfl, law_vtype (P := Go.Proofs.Tryd.prog) (g := 26) (by decide) (all_cons (fun a w => by kernel_rfl) <| all_cons (fun a w => by kernel_rfl) <| all_cons (fun a w => by kernel_rfl) <| all_nil)⟩
theorem g2 : GoodS Go.Proofs.Tryd.prog EQ 1000027 (.primX (xIsNil [(46, 150), (48, 150), (52, 150)])) := ⟨rfl, law_isNil (P := Go.Proofs.Tryd.prog) (g := 27) (by decide) (fun v w => (@run_callFunc_extern Go.Proofs.Tryd.prog 27 _ (ReflectliteValue.method (ReflectliteValue.valueError "reflectlite.Value.IsNil" 0) ReflectliteValue.isNil) Go.Proofs.Tryd.func27 (by kernel_rfl) (by kernel_rfl) (by kernel_rfl) (by kernel_rfl)) #[v] w) (all_cons ⟨by kernel_rfl, by decide, fun a w => by kernel_rfl⟩ <| all_cons ⟨by kernel_rfl, by decide, fun a w => by kernel_rfl⟩ <| all_cons ⟨by kernel_rfl, by decide, fun a w => by kernel_rfl⟩ <| all_nil)⟩
theorem g3 : GoodS Go.Proofs.Tryd.prog EQ 1000035 (.primX (xTypeOf 89 [44, 47, 51])) := ⟨rfl, law_typeOf (P := Go.Proofs.Tryd.prog) (g := 35) (by decide) (all_cons (fun v w => by kernel_rfl) <| all_cons (fun v w => by kernel_rfl) <| all_cons (fun v w => by kernel_rfl) <| all_nil)⟩
theorem g4 : GoodS Go.Proofs.Tryd.prog EQ 1000036 (.primX (xVElem [(46, (150, 44, 386)), (48, (150, 47, 406)), (52, (150, 51, 406))])) := ⟨rfl, law_velem (P := Go.Proofs.Tryd.prog) (g := 36) (by decide) (fun v w => (@run_callFunc_extern Go.Proofs.Tryd.prog 36 _ (ReflectliteValue.method (ReflectliteValue.valueError "reflectlite.Value.Elem" 0) ReflectliteValue.elem) Go.Proofs.Tryd.func36 (by kernel_rfl) (by kernel_rfl) (by kernel_rfl) (by kernel_rfl)) #[v] w) (all_cons ⟨by kernel_rfl, by decide, fun a w => by kernel_rfl, fun w => by kernel_rfl, fun p w => by kernel_rfl⟩ <| all_cons ⟨by kernel_rfl, by decide, fun a w => by kernel_rfl, fun w => by kernel_rfl, fun p w => by kernel_rfl⟩ <| all_cons ⟨by kernel_rfl, by decide, fun a w => by kernel_rfl, fun w => by kernel_rfl, fun p w => by kernel_rfl⟩ <| all_nil)⟩
theorem g5 : GoodS Go.Proofs.Tryd.prog EQ 1000037 (.primX (xVSet [(44, (386, 130)), (47, (406, 150)), (51, (406, 150))])) := ⟨rfl, law_vset (P := Go.Proofs.Tryd.prog) (g := 37) (by decide) (fun v u w => (@run_callFunc_extern Go.Proofs.Tryd.prog 37 _ ReflectliteValue.set Go.Proofs.Tryd.func37 (by kernel_rfl) (by kernel_rfl) (by kernel_rfl) (by kernel_rfl)) #[v, u] w) (all_cons ⟨by kernel_rfl, by kernel_rfl, by decide, fun a w => by kernel_rfl, fun a w => by kernel_rfl, fun w => by kernel_rfl⟩ <| all_cons ⟨by kernel_rfl, by kernel_rfl, by decide, fun a w => by kernel_rfl, fun a w => by kernel_rfl, fun w => by kernel_rfl⟩ <| all_cons ⟨by kernel_rfl, by kernel_rfl, by decide, fun a w => by kernel_rfl, fun a w => by kernel_rfl, fun w => by kernel_rfl⟩ <| all_nil)⟩
theorem g6 : GoodS Go.Proofs.Tryd.prog EQ 2000000 (.primX (xKind 89 [(44, 2), (47, 22), (51, 22), (46, 22), (48, 22), (52, 22)])) := ⟨rfl, law_kind (P := Go.Proofs.Tryd.prog) (all_cons (fun w => by kernel_rfl) <| all_cons (fun w => by kernel_rfl) <| all_cons (fun w => by kernel_rfl) <| all_cons (fun w => by kernel_rfl) <| all_cons (fun w => by kernel_rfl) <| all_cons (fun w => by kernel_rfl) <| all_nil)⟩
theorem g7 : GoodS Go.Proofs.Tryd.prog EQ 2000001 (.primX (xElemT 89 [(46, 44), (48, 47), (52, 51)])) := ⟨rfl, law_elemT (P := Go.Proofs.Tryd.prog) (all_cons (fun w => by kernel_rfl) <| all_cons (fun w => by kernel_rfl) <| all_cons (fun w => by kernel_rfl) <| all_nil)⟩
theorem g8 : GoodS Go.Proofs.Tryd.prog EQ 2000002 (.primX (xRel 89 [((44, 27), true), ((47, 27), true), ((51, 27), true)])) := ⟨rfl, law_rel (P := Go.Proofs.Tryd.prog) (i := 2) (m := "Implements") rfl (all_cons (fun w => by kernel_rfl) <| all_cons (fun w => by kernel_rfl) <| all_cons (fun w => by kernel_rfl) <| all_nil)⟩
theorem g9 : GoodS Go.Proofs.Tryd.prog EQ 2000003 (.primX (xRel 89 [((44, 44), true), ((44, 47), false), ((44, 51), false), ((47, 44), false), ((47, 47), true), ((47, 51), false), ((51, 44), false), ((51, 47), false), ((51, 51), true)])) := ⟨rfl, law_rel (P := Go.Proofs.Tryd.prog) (i := 3) (m := "AssignableTo") rfl (all_cons (fun w => by kernel_rfl) <| all_cons (fun w => by kernel_rfl) <| all_cons (fun w => by kernel_rfl) <| all_cons (fun w => by kernel_rfl) <| all_cons (fun w => by kernel_rfl) <| all_cons (fun w => by kernel_rfl) <| all_cons (fun w => by kernel_rfl) <| all_cons (fun w => by kernel_rfl) <| all_cons (fun w => by kernel_rfl) <| all_nil)⟩
theorem g10 : GoodS Go.Proofs.Tryd.prog EQ 2000004 (.primX (xUnwrap [(47, 74), (51, 76)])) := ⟨rfl, law_unwrap (P := Go.Proofs.Tryd.prog) (all_cons (fun v w => by kernel_rfl) <| all_cons (fun v w => by kernel_rfl) <| all_nil)⟩
theorem g11 : GoodS Go.Proofs.Tryd.prog EQ 3000189 (.primX (xAsrt [(44, false), (47, false), (51, false)])) := ⟨rfl, law_asrt (P := Go.Proofs.Tryd.prog) (T := 94) (by decide) (all_cons (fun xt v w => Go.run_typeAssert_lacksB Go.Proofs.Tryd.underlying94 (by kernel_rfl) (by kernel_rfl) v xt w) <| all_cons (fun xt v w => Go.run_typeAssert_lacksB Go.Proofs.Tryd.underlying94 (by kernel_rfl) (by kernel_rfl) v xt w) <| all_cons (fun xt v w => Go.run_typeAssert_lacksB Go.Proofs.Tryd.underlying94 (by kernel_rfl) (by kernel_rfl) v xt w) <| all_nil)⟩
theorem g12 : GoodS Go.Proofs.Tryd.prog EQ 3000195 (.primX (xAsrt [(44, false), (47, true), (51, true)])) := ⟨rfl, law_asrt (P := Go.Proofs.Tryd.prog) (T := 97) (by decide) (all_cons (fun xt v w => Go.run_typeAssert_lacksB Go.Proofs.Tryd.underlying97 (by kernel_rfl) (by kernel_rfl) v xt w) <| all_cons (fun xt v w => Go.run_typeAssert_hasB Go.Proofs.Tryd.underlying97 (by kernel_rfl) v xt w) <| all_cons (fun xt v w => Go.run_typeAssert_hasB Go.Proofs.Tryd.underlying97 (by kernel_rfl) v xt w) <| all_nil)⟩
theorem g13 : GoodS Go.Proofs.Tryd.prog EQ 3000199 (.primX (xAsrt [(44, false), (47, false), (51, false)])) := ⟨rfl, law_asrt (P := Go.Proofs.Tryd.prog) (T := 99) (by decide) (all_cons (fun xt v w => Go.run_typeAssert_lacksB Go.Proofs.Tryd.underlying99 (by kernel_rfl) (by kernel_rfl) v xt w) <| all_cons (fun xt v w => Go.run_typeAssert_lacksB Go.Proofs.Tryd.underlying99 (by kernel_rfl) (by kernel_rfl) v xt w) <| all_cons (fun xt v w => Go.run_typeAssert_lacksB Go.Proofs.Tryd.underlying99 (by kernel_rfl) (by kernel_rfl) v xt w) <| all_nil)⟩
theorem g14 : GoodS Go.Proofs.Tryd.prog EQ 4000074 (.primX (xGlob (.ifc 89 (.agg [.hdl 27])))) := ⟨rfl, law_glob (P := Go.Proofs.Tryd.prog) (g := 0) (t := 74) (by decide) (by kernel_rfl) (by kernel_rfl)⟩
theorem g15 : GoodS Go.Proofs.Tryd.prog EQ f_law23_StatusGets (.code a_law23_StatusGets) := ⟨rfl, _, Go.Proofs.Tryd.func3, by kernel_rfl, chk_law23_StatusGets⟩
theorem g16 : GoodS Go.Proofs.Tryd.prog EQ f_law23_StatusPuts (.code a_law23_StatusPuts) := ⟨rfl, _, Go.Proofs.Tryd.func4, by kernel_rfl, chk_law23_StatusPuts⟩
theorem g17 : GoodS Go.Proofs.Tryd.prog EQ f_law23_awake (.code a_law23_awake) := ⟨rfl, _, Go.Proofs.Tryd.func5, by kernel_rfl, chk_law23_awake⟩
theorem g18 : GoodS Go.Proofs.Tryd.prog EQ f_status_Get (.code a_status_Get) := ⟨rfl, _, Go.Proofs.Tryd.func6, by kernel_rfl, chk_status_Get⟩
theorem g19 : GoodS Go.Proofs.Tryd.prog EQ f_fault_Of (.code a_fault_Of) := ⟨rfl, _, Go.Proofs.Tryd.func7, by kernel_rfl, chk_fault_Of⟩
theorem g20 : GoodS Go.Proofs.Tryd.prog EQ f_ref23_Bytes (.code a_ref23_Bytes) := ⟨rfl, _, Go.Proofs.Tryd.func8, by kernel_rfl, chk_ref23_Bytes⟩
theorem g21 : GoodS Go.Proofs.Tryd.prog EQ f_status_Put (.code a_status_Put) := ⟨rfl, _, Go.Proofs.Tryd.func9, by kernel_rfl, chk_status_Put⟩
theorem g22 : GoodS Go.Proofs.Tryd.prog EQ f_status_Pending (.code a_status_Pending) := ⟨rfl, _, Go.Proofs.Tryd.func10, by kernel_rfl, chk_status_Pending⟩
theorem g23 : GoodS Go.Proofs.Tryd.prog EQ f_status_Text (.code a_status_Text) := ⟨rfl, _, Go.Proofs.Tryd.func11, by kernel_rfl, chk_status_Text⟩
theorem g24 : GoodS Go.Proofs.Tryd.prog EQ f_status_wrong (.code a_status_wrong) := ⟨rfl, _, Go.Proofs.Tryd.func12, by kernel_rfl, chk_status_wrong⟩
theorem g25 : GoodS Go.Proofs.Tryd.prog EQ f_octet_Get (.code a_octet_Get) := ⟨rfl, _, Go.Proofs.Tryd.func13, by kernel_rfl, chk_octet_Get⟩
theorem g26 : GoodS Go.Proofs.Tryd.prog EQ f_errors_As (.code a_errors_As) := ⟨rfl, _, Go.Proofs.Tryd.func14, by kernel_rfl, chk_errors_As⟩
theorem g27 : GoodS Go.Proofs.Tryd.prog EQ f_ref01_Text (.code a_ref01_Text) := ⟨rfl, _, Go.Proofs.Tryd.func15, by kernel_rfl, chk_ref01_Text⟩
theorem g28 : GoodS Go.Proofs.Tryd.prog EQ f_octet_Fits (.code a_octet_Fits) := ⟨rfl, _, Go.Proofs.Tryd.func16, by kernel_rfl, chk_octet_Fits⟩
theorem g29 : GoodS Go.Proofs.Tryd.prog EQ f_octet_Put (.code a_octet_Put) := ⟨rfl, _, Go.Proofs.Tryd.func18, by kernel_rfl, chk_octet_Put⟩
theorem g30 : GoodS Go.Proofs.Tryd.prog EQ f_strconv_FormatUint (.code a_strconv_FormatUint) := ⟨rfl, _, Go.Proofs.Tryd.func20, by kernel_rfl, chk_strconv_FormatUint⟩
theorem g31 : GoodS Go.Proofs.Tryd.prog EQ f_strconv_Itoa (.code a_strconv_Itoa) := ⟨rfl, _, Go.Proofs.Tryd.func21, by kernel_rfl, chk_strconv_Itoa⟩
theorem g32 : GoodS Go.Proofs.Tryd.prog EQ f_fault_At (.code a_fault_At) := ⟨rfl, _, Go.Proofs.Tryd.func22, by kernel_rfl, chk_fault_At⟩
theorem g33 : GoodS Go.Proofs.Tryd.prog EQ f_fault_New (.code a_fault_New) := ⟨rfl, _, Go.Proofs.Tryd.func23, by kernel_rfl, chk_fault_New⟩
theorem g34 : GoodS Go.Proofs.Tryd.prog EQ f_octet_size (.code a_octet_size) := ⟨rfl, _, Go.Proofs.Tryd.func24, by kernel_rfl, chk_octet_size⟩
theorem g35 : GoodS Go.Proofs.Tryd.prog EQ f_errors_as (.code a_errors_as) := ⟨rfl, _, Go.Proofs.Tryd.func28, by kernel_rfl, chk_errors_as⟩
theorem g36 : GoodS Go.Proofs.Tryd.prog EQ f_internal_strconv_FormatUint (.code a_internal_strconv_FormatUint) := ⟨rfl, _, Go.Proofs.Tryd.func32, by kernel_rfl, chk_internal_strconv_FormatUint⟩
theorem g37 : GoodS Go.Proofs.Tryd.prog EQ f_internal_strconv_Itoa (.code a_internal_strconv_Itoa) := ⟨rfl, _, Go.Proofs.Tryd.func33, by kernel_rfl, chk_internal_strconv_Itoa⟩
theorem g38 : GoodS Go.Proofs.Tryd.prog EQ f_fault_Name (.code a_fault_Name) := ⟨rfl, _, Go.Proofs.Tryd.func34, by kernel_rfl, chk_fault_Name⟩
theorem g39 : GoodS Go.Proofs.Tryd.prog EQ f_internal_strconv_small (.code a_internal_strconv_small) := ⟨rfl, _, Go.Proofs.Tryd.func40, by kernel_rfl, chk_internal_strconv_small⟩
theorem g40 : GoodS Go.Proofs.Tryd.prog EQ f_internal_strconv_formatBase10 (.code a_internal_strconv_formatBase10) := ⟨rfl, _, Go.Proofs.Tryd.func42, by kernel_rfl, chk_internal_strconv_formatBase10⟩
theorem g41 : GoodS Go.Proofs.Tryd.prog EQ f_internal_strconv_formatBits (.code a_internal_strconv_formatBits) := ⟨rfl, _, Go.Proofs.Tryd.func43, by kernel_rfl, chk_internal_strconv_formatBits⟩
theorem g42 : GoodS Go.Proofs.Tryd.prog EQ f_internal_strconv_FormatInt (.code a_internal_strconv_FormatInt) := ⟨rfl, _, Go.Proofs.Tryd.func44, by kernel_rfl, chk_internal_strconv_FormatInt⟩
theorem g43 : GoodS Go.Proofs.Tryd.prog EQ f_fault_names (.code a_fault_names) := ⟨rfl, _, Go.Proofs.Tryd.func45, by kernel_rfl, chk_fault_names⟩
theorem g44 : GoodS Go.Proofs.Tryd.prog EQ f_internal_strconv_log10Pow2 (.code a_internal_strconv_log10Pow2) := ⟨rfl, _, Go.Proofs.Tryd.func48, by kernel_rfl, chk_internal_strconv_log10Pow2⟩
theorem g45 : GoodS Go.Proofs.Tryd.prog EQ f_math_bits_Len64 (.code a_math_bits_Len64) := ⟨rfl, _, Go.Proofs.Tryd.func49, by kernel_rfl, chk_math_bits_Len64⟩
theorem g46 : GoodS Go.Proofs.Tryd.prog EQ f_internal_strconv_bool2_int_ (.code a_internal_strconv_bool2_int_) := ⟨rfl, _, Go.Proofs.Tryd.func50, by kernel_rfl, chk_internal_strconv_bool2_int_⟩
theorem g47 : GoodS Go.Proofs.Tryd.prog EQ f_internal_strconv_isPowerOfTwo (.code a_internal_strconv_isPowerOfTwo) := ⟨rfl, _, Go.Proofs.Tryd.func51, by kernel_rfl, chk_internal_strconv_isPowerOfTwo⟩
theorem g48 : GoodS Go.Proofs.Tryd.prog EQ f_math_bits_TrailingZeros (.code a_math_bits_TrailingZeros) := ⟨rfl, _, Go.Proofs.Tryd.func52, by kernel_rfl, chk_math_bits_TrailingZeros⟩
theorem g49 : GoodS Go.Proofs.Tryd.prog EQ f__pfault_section__Unwrap (.code a__pfault_section__Unwrap) := ⟨rfl, _, Go.Proofs.Tryd.func74, by kernel_rfl, chk__pfault_section__Unwrap⟩
theorem g50 : GoodS Go.Proofs.Tryd.prog EQ f__pfault_place__Unwrap (.code a__pfault_place__Unwrap) := ⟨rfl, _, Go.Proofs.Tryd.func76, by kernel_rfl, chk__pfault_place__Unwrap⟩
theorem g51 : GoodS Go.Proofs.Tryd.prog EQ f_slices_Clone___byte_byte_ (.prim (pClone 1 1)) := ⟨rfl, ⟨_, Go.Proofs.Tryd.func17, by kernel_rfl⟩, clone_law (EQ := EQ) (fn := Go.Proofs.Tryd.f17) (by kernel_rfl) eqs Go.Proofs.Tryd.func17 (by kernel_rfl)⟩
theorem g52 : GoodS Go.Proofs.Tryd.prog EQ f_strings_Join (.prim pJoin) := ⟨rfl, ⟨_, Go.Proofs.Tryd.func19, by kernel_rfl⟩, join_law Go.Proofs.Tryd.strings_Join_none Go.Proofs.Tryd.strings_Join⟩
theorem good : ∀ p ∈ tab, GoodS Go.Proofs.Tryd.prog EQ p.1 p.2 :=
  all_cons g0 <| all_cons g1 <| all_cons g2 <| all_cons g3 <| all_cons g4 <| all_cons g5 <| all_cons g6 <| all_cons g7 <| all_cons g8 <| all_cons g9 <| all_cons g10 <| all_cons g11 <| all_cons g12 <| all_cons g13 <| all_cons g14 <| all_cons g15 <| all_cons g16 <| all_cons g17 <| all_cons g18 <| all_cons g19 <| all_cons g20 <| all_cons g21 <| all_cons g22 <| all_cons g23 <| all_cons g24 <| all_cons g25 <| all_cons g26 <| all_cons g27 <| all_cons g28 <| all_cons g29 <| all_cons g30 <| all_cons g31 <| all_cons g32 <| all_cons g33 <| all_cons g34 <| all_cons g35 <| all_cons g36 <| all_cons g37 <| all_cons g38 <| all_cons g39 <| all_cons g40 <| all_cons g41 <| all_cons g42 <| all_cons g43 <| all_cons g44 <| all_cons g45 <| all_cons g46 <| all_cons g47 <| all_cons g48 <| all_cons g49 <| all_cons g50 <| all_cons g51 <| all_cons g52 <| all_nil
theorem goodT : ∀ p ∈ tab, GoodT p.2 :=
  all_cons (show GoodT _ from tame_valueOf _) <| all_cons (show GoodT _ from tame_vtype _ _) <| all_cons (show GoodT _ from tame_isNil _) <| all_cons (show GoodT _ from tame_typeOf _ _) <| all_cons (show GoodT _ from tame_velem _) <| all_cons (show GoodT _ from tame_vset _) <| all_cons (show GoodT _ from tame_kind _ _) <| all_cons (show GoodT _ from tame_elemT _ _) <| all_cons (show GoodT _ from tame_rel _ _) <| all_cons (show GoodT _ from tame_rel _ _) <| all_cons (show GoodT _ from tame_unwrap _) <| all_cons (show GoodT _ from tame_asrt _) <| all_cons (show GoodT _ from tame_asrt _) <| all_cons (show GoodT _ from tame_asrt _) <| all_cons (show GoodT _ from tame_glob _) <| all_cons (show GoodT _ from trivial) <| all_cons (show GoodT _ from trivial) <| all_cons (show GoodT _ from trivial) <| all_cons (show GoodT _ from trivial) <| all_cons (show GoodT _ from trivial) <| all_cons (show GoodT _ from trivial) <| all_cons (show GoodT _ from trivial) <| all_cons (show GoodT _ from trivial) <| all_cons (show GoodT _ from trivial) <| all_cons (show GoodT _ from trivial) <| all_cons (show GoodT _ from trivial) <| all_cons (show GoodT _ from trivial) <| all_cons (show GoodT _ from trivial) <| all_cons (show GoodT _ from trivial) <| all_cons (show GoodT _ from trivial) <| all_cons (show GoodT _ from trivial) <| all_cons (show GoodT _ from trivial) <| all_cons (show GoodT _ from trivial) <| all_cons (show GoodT _ from trivial) <| all_cons (show GoodT _ from trivial) <| all_cons (show GoodT _ from trivial) <| all_cons (show GoodT _ from trivial) <| all_cons (show GoodT _ from trivial) <| all_cons (show GoodT _ from trivial) <| all_cons (show GoodT _ from trivial) <| all_cons (show GoodT _ from trivial) <| all_cons (show GoodT _ from trivial) <| all_cons (show GoodT _ from trivial) <| all_cons (show GoodT _ from trivial) <| all_cons (show GoodT _ from trivial) <| all_cons (show GoodT _ from trivial) <| all_cons (show GoodT _ from trivial) <| all_cons (show GoodT _ from trivial) <| all_cons (show GoodT _ from trivial) <| all_cons (show GoodT _ from trivial) <| all_cons (show GoodT _ from trivial) <| all_cons (show GoodT _ from tame_clone 1 1) <| all_cons (show GoodT _ from tame_join) <| all_nil
theorem sound : Sound Go.Proofs.Tryd.prog EQ E := sound_of_tab (by kernel_rfl) eqs good
theorem tame : Tame E := tame_of_tab goodT
theorem e_law23_StatusGets : E f_law23_StatusGets = some (.code a_law23_StatusGets) := by kernel_rfl
theorem e_law23_StatusPuts : E f_law23_StatusPuts = some (.code a_law23_StatusPuts) := by kernel_rfl
theorem e_law23_awake : E f_law23_awake = some (.code a_law23_awake) := by kernel_rfl
theorem e_status_Get : E f_status_Get = some (.code a_status_Get) := by kernel_rfl
theorem e_fault_Of : E f_fault_Of = some (.code a_fault_Of) := by kernel_rfl
theorem e_ref23_Bytes : E f_ref23_Bytes = some (.code a_ref23_Bytes) := by kernel_rfl
theorem e_status_Put : E f_status_Put = some (.code a_status_Put) := by kernel_rfl
theorem e_status_Pending : E f_status_Pending = some (.code a_status_Pending) := by kernel_rfl
theorem e_status_Text : E f_status_Text = some (.code a_status_Text) := by kernel_rfl
theorem e_status_wrong : E f_status_wrong = some (.code a_status_wrong) := by kernel_rfl
theorem e_octet_Get : E f_octet_Get = some (.code a_octet_Get) := by kernel_rfl
theorem e_errors_As : E f_errors_As = some (.code a_errors_As) := by kernel_rfl
theorem e_ref01_Text : E f_ref01_Text = some (.code a_ref01_Text) := by kernel_rfl
theorem e_octet_Fits : E f_octet_Fits = some (.code a_octet_Fits) := by kernel_rfl
theorem e_octet_Put : E f_octet_Put = some (.code a_octet_Put) := by kernel_rfl
theorem e_strconv_FormatUint : E f_strconv_FormatUint = some (.code a_strconv_FormatUint) := by kernel_rfl
theorem e_strconv_Itoa : E f_strconv_Itoa = some (.code a_strconv_Itoa) := by kernel_rfl
theorem e_fault_At : E f_fault_At = some (.code a_fault_At) := by kernel_rfl
theorem e_fault_New : E f_fault_New = some (.code a_fault_New) := by kernel_rfl
theorem e_octet_size : E f_octet_size = some (.code a_octet_size) := by kernel_rfl
theorem e_errors_as : E f_errors_as = some (.code a_errors_as) := by kernel_rfl
theorem e_internal_strconv_FormatUint : E f_internal_strconv_FormatUint = some (.code a_internal_strconv_FormatUint) := by kernel_rfl
theorem e_internal_strconv_Itoa : E f_internal_strconv_Itoa = some (.code a_internal_strconv_Itoa) := by kernel_rfl
theorem e_fault_Name : E f_fault_Name = some (.code a_fault_Name) := by kernel_rfl
theorem e_internal_strconv_small : E f_internal_strconv_small = some (.code a_internal_strconv_small) := by kernel_rfl
theorem e_internal_strconv_formatBase10 : E f_internal_strconv_formatBase10 = some (.code a_internal_strconv_formatBase10) := by kernel_rfl
theorem e_internal_strconv_formatBits : E f_internal_strconv_formatBits = some (.code a_internal_strconv_formatBits) := by kernel_rfl
theorem e_internal_strconv_FormatInt : E f_internal_strconv_FormatInt = some (.code a_internal_strconv_FormatInt) := by kernel_rfl
theorem e_fault_names : E f_fault_names = some (.code a_fault_names) := by kernel_rfl
theorem e_internal_strconv_log10Pow2 : E f_internal_strconv_log10Pow2 = some (.code a_internal_strconv_log10Pow2) := by kernel_rfl
theorem e_math_bits_Len64 : E f_math_bits_Len64 = some (.code a_math_bits_Len64) := by kernel_rfl
theorem e_internal_strconv_bool2_int_ : E f_internal_strconv_bool2_int_ = some (.code a_internal_strconv_bool2_int_) := by kernel_rfl
theorem e_internal_strconv_isPowerOfTwo : E f_internal_strconv_isPowerOfTwo = some (.code a_internal_strconv_isPowerOfTwo) := by kernel_rfl
theorem e_math_bits_TrailingZeros : E f_math_bits_TrailingZeros = some (.code a_math_bits_TrailingZeros) := by kernel_rfl
theorem e__pfault_section__Unwrap : E f__pfault_section__Unwrap = some (.code a__pfault_section__Unwrap) := by kernel_rfl
theorem e__pfault_place__Unwrap : E f__pfault_place__Unwrap = some (.code a__pfault_place__Unwrap) := by kernel_rfl
theorem e_slices_Clone___byte_byte_ : E f_slices_Clone___byte_byte_ = some (.prim (pClone 1 1)) := by kernel_rfl
theorem e_strings_Join : E f_strings_Join = some (.prim pJoin) := by kernel_rfl
abbrev n_ValueOf : Nat := 1000025
theorem e_ValueOf : E 1000025 = some (.primX (xValueOf [(44, 130), (47, 150), (51, 150), (46, 150), (48, 150), (52, 150)])) := by kernel_rfl
theorem xeq_ValueOf (xs : List AV) (h : Hp) : evT E n_ValueOf xs h = xValueOf [(44, 130), (47, 150), (51, 150), (46, 150), (48, 150), (52, 150)] (evT E) xs h := evT_xconst e_ValueOf (fun c c' xs h => by unfold xValueOf; split <;> first | rfl | (split <;> simp_all)) xs h
abbrev n_Type : Nat := 1000026
theorem e_Type : E 1000026 = some (.primX (xVType 89 [(46, 150), (48, 150), (52, 150)])) := by kernel_rfl
theorem xeq_Type (xs : List AV) (h : Hp) : evT E n_Type xs h = xVType 89 [(46, 150), (48, 150), (52, 150)] (evT E) xs h := evT_xconst e_Type (fun c c' xs h => by unfold xVType; split <;> first | rfl | (split <;> simp_all)) xs h
abbrev n_IsNil : Nat := 1000027
theorem e_IsNil : E 1000027 = some (.primX (xIsNil [(46, 150), (48, 150), (52, 150)])) := by kernel_rfl
theorem xeq_IsNil (xs : List AV) (h : Hp) : evT E n_IsNil xs h = xIsNil [(46, 150), (48, 150), (52, 150)] (evT E) xs h := evT_xconst e_IsNil (fun c c' xs h => by unfold xIsNil; split <;> first | rfl | (split <;> simp_all)) xs h
abbrev n_TypeOf : Nat := 1000035
theorem e_TypeOf : E 1000035 = some (.primX (xTypeOf 89 [44, 47, 51])) := by kernel_rfl
theorem xeq_TypeOf (xs : List AV) (h : Hp) : evT E n_TypeOf xs h = xTypeOf 89 [44, 47, 51] (evT E) xs h := evT_xconst e_TypeOf (fun c c' xs h => by unfold xTypeOf; split <;> first | rfl | (split <;> simp_all)) xs h
abbrev n_VElem : Nat := 1000036
theorem e_VElem : E 1000036 = some (.primX (xVElem [(46, (150, 44, 386)), (48, (150, 47, 406)), (52, (150, 51, 406))])) := by kernel_rfl
theorem xeq_VElem (xs : List AV) (h : Hp) : evT E n_VElem xs h = xVElem [(46, (150, 44, 386)), (48, (150, 47, 406)), (52, (150, 51, 406))] (evT E) xs h := evT_xconst e_VElem (fun c c' xs h => by unfold xVElem; split <;> first | rfl | (split <;> simp_all)) xs h
abbrev n_VSet : Nat := 1000037
theorem e_VSet : E 1000037 = some (.primX (xVSet [(44, (386, 130)), (47, (406, 150)), (51, (406, 150))])) := by kernel_rfl
theorem xeq_VSet (xs : List AV) (h : Hp) : evT E n_VSet xs h = xVSet [(44, (386, 130)), (47, (406, 150)), (51, (406, 150))] (evT E) xs h := evT_xconst e_VSet (fun c c' xs h => by unfold xVSet; split <;> first | rfl | (split <;> simp_all)) xs h
abbrev n_Kind : Nat := 2000000
theorem e_Kind : E 2000000 = some (.primX (xKind 89 [(44, 2), (47, 22), (51, 22), (46, 22), (48, 22), (52, 22)])) := by kernel_rfl
theorem xeq_Kind (xs : List AV) (h : Hp) : evT E n_Kind xs h = xKind 89 [(44, 2), (47, 22), (51, 22), (46, 22), (48, 22), (52, 22)] (evT E) xs h := evT_xconst e_Kind (fun c c' xs h => by unfold xKind; split <;> first | rfl | (split <;> simp_all)) xs h
abbrev n_Elem : Nat := 2000001
theorem e_Elem : E 2000001 = some (.primX (xElemT 89 [(46, 44), (48, 47), (52, 51)])) := by kernel_rfl
theorem xeq_Elem (xs : List AV) (h : Hp) : evT E n_Elem xs h = xElemT 89 [(46, 44), (48, 47), (52, 51)] (evT E) xs h := evT_xconst e_Elem (fun c c' xs h => by unfold xElemT; split <;> first | rfl | (split <;> simp_all)) xs h
abbrev n_Implements : Nat := 2000002
theorem e_Implements : E 2000002 = some (.primX (xRel 89 [((44, 27), true), ((47, 27), true), ((51, 27), true)])) := by kernel_rfl
theorem xeq_Implements (xs : List AV) (h : Hp) : evT E n_Implements xs h = xRel 89 [((44, 27), true), ((47, 27), true), ((51, 27), true)] (evT E) xs h := evT_xconst e_Implements (fun c c' xs h => by unfold xRel; split <;> first | rfl | (split <;> simp_all)) xs h
abbrev n_AssignableTo : Nat := 2000003
theorem e_AssignableTo : E 2000003 = some (.primX (xRel 89 [((44, 44), true), ((44, 47), false), ((44, 51), false), ((47, 44), false), ((47, 47), true), ((47, 51), false), ((51, 44), false), ((51, 47), false), ((51, 51), true)])) := by kernel_rfl
theorem xeq_AssignableTo (xs : List AV) (h : Hp) : evT E n_AssignableTo xs h = xRel 89 [((44, 44), true), ((44, 47), false), ((44, 51), false), ((47, 44), false), ((47, 47), true), ((47, 51), false), ((51, 44), false), ((51, 47), false), ((51, 51), true)] (evT E) xs h := evT_xconst e_AssignableTo (fun c c' xs h => by unfold xRel; split <;> first | rfl | (split <;> simp_all)) xs h
abbrev n_Unwrap : Nat := 2000004
theorem e_Unwrap : E 2000004 = some (.primX (xUnwrap [(47, 74), (51, 76)])) := by kernel_rfl
theorem xeq_Unwrap (xs : List AV) (h : Hp) : evT E n_Unwrap xs h = xUnwrap [(47, 74), (51, 76)] (evT E) xs h := evT_xunwrap e_Unwrap xs h
abbrev n_asAs : Nat := 3000189
theorem e_asAs : E 3000189 = some (.primX (xAsrt [(44, false), (47, false), (51, false)])) := by kernel_rfl
theorem xeq_asAs (xs : List AV) (h : Hp) : evT E n_asAs xs h = xAsrt [(44, false), (47, false), (51, false)] (evT E) xs h := evT_xconst e_asAs (fun c c' xs h => by unfold xAsrt; split <;> first | rfl | (split <;> simp_all)) xs h
abbrev n_asUnw : Nat := 3000195
theorem e_asUnw : E 3000195 = some (.primX (xAsrt [(44, false), (47, true), (51, true)])) := by kernel_rfl
theorem xeq_asUnw (xs : List AV) (h : Hp) : evT E n_asUnw xs h = xAsrt [(44, false), (47, true), (51, true)] (evT E) xs h := evT_xconst e_asUnw (fun c c' xs h => by unfold xAsrt; split <;> first | rfl | (split <;> simp_all)) xs h
abbrev n_asUnws : Nat := 3000199
theorem e_asUnws : E 3000199 = some (.primX (xAsrt [(44, false), (47, false), (51, false)])) := by kernel_rfl
theorem xeq_asUnws (xs : List AV) (h : Hp) : evT E n_asUnws xs h = xAsrt [(44, false), (47, false), (51, false)] (evT E) xs h := evT_xconst e_asUnws (fun c c' xs h => by unfold xAsrt; split <;> first | rfl | (split <;> simp_all)) xs h
abbrev n_glob : Nat := 4000074
theorem e_glob : E 4000074 = some (.primX (xGlob (.ifc 89 (.agg [.hdl 27])))) := by kernel_rfl
theorem xeq_glob (xs : List AV) (h : Hp) : evT E n_glob xs h = xGlob (.ifc 89 (.agg [.hdl 27])) (evT E) xs h := evT_xconst e_glob (fun c c' xs h => by unfold xGlob; split <;> first | rfl | (split <;> simp_all)) xs h
end Go.Vm.S
