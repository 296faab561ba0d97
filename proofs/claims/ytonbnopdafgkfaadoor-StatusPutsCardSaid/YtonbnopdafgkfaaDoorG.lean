/- The functions' code as the abstract machine's, and that it is that (written by a program of this session's, wip/vm/VmGen.lean). -/
import Derived.Test.YtonbnopdafgkfaaDoorProg
import Derived.Test.YtonbnopdafgkfaaDoorVmM
import Derived.KernelRfl
namespace Go.Vm.S
open Go Go.Vm
set_option linter.unusedVariables false
abbrev f_law23_StatusGets : FuncId := 3
abbrev f_law23_StatusPuts : FuncId := 4
abbrev f_law23_awake : FuncId := 5
abbrev f_status_Get : FuncId := 6
abbrev f_fault_Of : FuncId := 7
abbrev f_ref23_Bytes : FuncId := 8
abbrev f_status_Put : FuncId := 9
abbrev f_status_Pending : FuncId := 10
abbrev f_status_Text : FuncId := 11
abbrev f_status_wrong : FuncId := 12
abbrev f_octet_Get : FuncId := 13
abbrev f_errors_As : FuncId := 14
abbrev f_ref01_Text : FuncId := 15
abbrev f_octet_Fits : FuncId := 16
abbrev f_slices_Clone___byte_byte_ : FuncId := 17
abbrev f_octet_Put : FuncId := 18
abbrev f_strings_Join : FuncId := 19
abbrev f_strconv_FormatUint : FuncId := 20
abbrev f_strconv_Itoa : FuncId := 21
abbrev f_fault_At : FuncId := 22
abbrev f_fault_New : FuncId := 23
abbrev f_octet_size : FuncId := 24
abbrev f_internal_reflectlite_ValueOf : FuncId := 25
abbrev f__internal_reflectlite_Value__Type : FuncId := 26
abbrev f__internal_reflectlite_Value__IsNil : FuncId := 27
abbrev f_errors_as : FuncId := 28
abbrev f_internal_strconv_FormatUint : FuncId := 32
abbrev f_internal_strconv_Itoa : FuncId := 33
abbrev f_fault_Name : FuncId := 34
abbrev f_internal_reflectlite_TypeOf : FuncId := 35
abbrev f__internal_reflectlite_Value__Elem : FuncId := 36
abbrev f__internal_reflectlite_Value__Set : FuncId := 37
abbrev f_internal_strconv_small : FuncId := 40
abbrev f_internal_strconv_numDigits : FuncId := 41
abbrev f_internal_strconv_formatBase10 : FuncId := 42
abbrev f_internal_strconv_formatBits : FuncId := 43
abbrev f_internal_strconv_FormatInt : FuncId := 44
abbrev f_fault_names : FuncId := 45
abbrev f_internal_strconv_log10Pow2 : FuncId := 48
abbrev f_math_bits_Len64 : FuncId := 49
abbrev f_internal_strconv_bool2_int_ : FuncId := 50
abbrev f_internal_strconv_isPowerOfTwo : FuncId := 51
abbrev f_math_bits_TrailingZeros : FuncId := 52
abbrev f_math_bits_TrailingZeros32 : FuncId := 53
abbrev f_math_bits_TrailingZeros64 : FuncId := 54
abbrev f__pfault_section__Unwrap : FuncId := 74
abbrev f__pfault_place__Unwrap : FuncId := 76
abbrev t_string : TypeId := 9
abbrev t_api_Status : TypeId := 25
abbrev t_error : TypeId := 27
abbrev t_api_Fault : TypeId := 32
abbrev t_fault_class : TypeId := 44
abbrev t_pfault_class : TypeId := 46
abbrev t_pfault_section : TypeId := 47
abbrev t_ppfault_section : TypeId := 48
abbrev t_pfault_place : TypeId := 51
abbrev t_ppfault_place : TypeId := 52
/-- countwheel/countwheellaw23.StatusGets -/
def a_law23_StatusGets : AFunc := ⟨1, [.t 2],
  (.seq (.ops [⟨some 2, .mv, [.c (.bool false)], none⟩])
  (.seq (.seq (.ops [⟨some 5, .mv, [.t 0], none⟩,
    ⟨some 6, .lenS, [.t 5], none⟩,
    ⟨some 7, .bin .gtr, [.t 6, .c (.int .i64 100)], none⟩])
  (.cond (.t 7)
    (.seq (.ops [⟨some 8, .call f_law23_awake, [], none⟩,
      ⟨some 2, .mv, [.tk 8], none⟩])
    .ret)
    .skip))
  (.seq (.ops [⟨some 10, .mv, [.t 0], none⟩,
    ⟨some 11, .call f_status_Get, [.t 10], none⟩,
    ⟨some 9, .mv, [.tk 11], none⟩,
    ⟨some 12, .ext 0, [.t 9], none⟩,
    ⟨some 13, .ext 1, [.t 9], none⟩,
    ⟨some 3, .frs 3, [], none⟩,
    ⟨some 3, .ini 3, [.tk 3, .t 12], none⟩,
    ⟨some 4, .mv, [.tk 13], none⟩])
  (.seq (.block 0 (.seq (.ops [⟨some 15, .mv, [.t 0], none⟩,
      ⟨some 16, .lenS, [.t 15], none⟩,
      ⟨some 17, .bin .lss, [.t 16, .c (.int .i64 16)], none⟩,
      ⟨some 14, .mv, [.tk 17], none⟩])
    (.cond (.t 14)
      (.seq (.ops [⟨some 18, .ldI 3 true, [.t 3], none⟩,
        ⟨some 19, .agg [(.int .u64 0), (.int .i64 0), (.int .i64 0)] [], [], none⟩,
        ⟨some 20, .eqs t_api_Status [0, 0, 0] false, [.t 18, .t 19], none⟩,
        ⟨some 21, .mv, [.tk 20], none⟩,
        ⟨some 22, .mv, [.t 4], some (21, true)⟩,
        ⟨some 23, .call f_fault_Of, [.t 22], some (21, true)⟩,
        ⟨some 24, .mv, [.t 0], some (21, true)⟩,
        ⟨some 25, .lenS, [.t 24], some (21, true)⟩,
        ⟨some 26, .agg [(.int .i64 0), (.int .i64 0), (.int .i64 0)] [(0, 1), (2, 1)], [.c (.int .i64 2), .t 25], some (21, true)⟩,
        ⟨some 27, .eqs t_api_Fault [0, 0, 0] false, [.t 23, .t 26], some (21, true)⟩,
        ⟨some 28, .pick, [.t 21, .t 27, .c (.bool false)], none⟩,
        ⟨some 29, .mv, [.tk 28], none⟩,
        ⟨some 30, .call f_law23_awake, [], some (29, true)⟩,
        ⟨some 31, .pick, [.t 29, .t 30, .c (.bool false)], none⟩,
        ⟨some 2, .mv, [.tk 31], none⟩])
      .ret)
      (.seq (.ops [⟨some 33, .mv, [.t 0], none⟩,
        ⟨some 34, .lenS, [.t 33], none⟩,
        ⟨some 35, .bin .gtr, [.t 34, .c (.int .i64 16)], none⟩,
        ⟨some 32, .mv, [.tk 35], none⟩])
      (.cond (.t 32)
        (.seq (.ops [⟨some 36, .ldI 3 true, [.t 3], none⟩,
          ⟨some 37, .agg [(.int .u64 0), (.int .i64 0), (.int .i64 0)] [], [], none⟩,
          ⟨some 38, .eqs t_api_Status [0, 0, 0] false, [.t 36, .t 37], none⟩,
          ⟨some 39, .mv, [.tk 38], none⟩,
          ⟨some 40, .mv, [.t 4], some (39, true)⟩,
          ⟨some 41, .call f_fault_Of, [.t 40], some (39, true)⟩,
          ⟨some 42, .agg [(.int .i64 0), (.int .i64 0), (.int .i64 0)] [(0, 1), (2, 1)], [.c (.int .i64 4), .c (.int .i64 16)], some (39, true)⟩,
          ⟨some 43, .eqs t_api_Fault [0, 0, 0] false, [.t 41, .t 42], some (39, true)⟩,
          ⟨some 44, .pick, [.t 39, .t 43, .c (.bool false)], none⟩,
          ⟨some 45, .mv, [.tk 44], none⟩,
          ⟨some 46, .call f_law23_awake, [], some (45, true)⟩,
          ⟨some 47, .pick, [.t 45, .t 46, .c (.bool false)], none⟩,
          ⟨some 2, .mv, [.tk 47], none⟩])
        .ret)
        .skip)))))
  (.seq (.ops [⟨some 48, .mv, [.t 4], none⟩,
    ⟨some 49, .nilI false, [.t 48], none⟩,
    ⟨some 50, .mv, [.tk 49], none⟩,
    ⟨some 51, .ldI 3 true, [.t 3], some (50, true)⟩,
    ⟨some 52, .call f_ref23_Bytes, [.t 51], some (50, true)⟩,
    ⟨some 53, .mv, [.t 0], some (50, true)⟩,
    ⟨some 54, .bin .eql, [.t 52, .t 53], some (50, true)⟩,
    ⟨some 55, .pick, [.t 50, .t 54, .c (.bool false)], none⟩,
    ⟨some 56, .mv, [.tk 55], none⟩,
    ⟨some 57, .call f_law23_awake, [], some (56, true)⟩,
    ⟨some 58, .pick, [.t 56, .t 57, .c (.bool false)], none⟩,
    ⟨some 2, .mv, [.tk 58], none⟩])
  .ret)))))⟩
/-- countwheel/countwheellaw23.StatusPuts -/
def a_law23_StatusPuts : AFunc := ⟨2, [.t 4],
  (.seq (.ops [⟨some 3, .box, [.t 1], none⟩,
    ⟨some 4, .mv, [.c (.bool false)], none⟩])
  (.seq (.seq (.ops [⟨some 11, .mv, [.t 0], none⟩,
    ⟨some 12, .lenL, [.t 11], none⟩,
    ⟨some 13, .bin .gtr, [.t 12, .c (.int .i64 50)], none⟩])
  (.cond (.t 13)
    (.seq (.ops [⟨some 14, .call f_law23_awake, [], none⟩,
      ⟨some 4, .mv, [.tk 14], none⟩])
    .ret)
    .skip))
  (.seq (.ops [⟨some 15, .mv, [.t 0], none⟩,
    ⟨some 16, .b2s, [.t 15], none⟩,
    ⟨some 5, .mv, [.tk 16], none⟩])
  (.seq (.ops [⟨some 18, .mv, [.t 0], none⟩,
    ⟨some 19, .ldI 3 true, [.t 3], none⟩,
    ⟨some 20, .call f_status_Put, [.t 18, .t 19], none⟩,
    ⟨some 17, .mv, [.tk 20], none⟩,
    ⟨some 21, .ext 0, [.tk 17], none⟩,
    ⟨some 22, .ext 1, [.t 17], none⟩,
    ⟨some 6, .mv, [.tk 21], none⟩,
    ⟨some 7, .mv, [.tk 22], none⟩])
  (.seq (.ops [⟨some 23, .agg [(.int .i64 0), (.int .i64 0), (.int .i64 0)] [], [], none⟩,
    ⟨some 8, .hnew [(.int .i64 0), (.int .i64 0), (.int .i64 0)], [], none⟩,
    ⟨none, .hst 3, [.t 8, .t 23], none⟩])
  (.seq (.seq (.ops [⟨some 24, .fa 1, [.t 3], none⟩,
    ⟨some 25, .ldI 1 false, [.t 24], none⟩,
    ⟨some 26, .bin .lss, [.t 25, .c (.int .i64 0)], none⟩,
    ⟨some 27, .mv, [.tk 26], none⟩,
    ⟨some 28, .fa 1, [.t 3], some (27, false)⟩,
    ⟨some 29, .ldI 1 false, [.t 28], some (27, false)⟩,
    ⟨some 30, .bin .gtr, [.t 29, .c (.int .i64 4294967295)], some (27, false)⟩,
    ⟨some 31, .pick, [.t 27, .c (.bool true), .t 30], none⟩])
  (.cond (.t 31)
    (.ops [⟨some 32, .agg [(.int .i64 0), (.int .i64 0), (.int .i64 0)] [(0, 1)], [.c (.int .i64 18)], none⟩,
      ⟨none, .hst 3, [.t 8, .t 32], none⟩])
    (.seq (.ops [⟨some 33, .fa 2, [.t 3], none⟩,
      ⟨some 34, .ldI 1 false, [.t 33], none⟩,
      ⟨some 35, .bin .lss, [.t 34, .c (.int .i64 0)], none⟩,
      ⟨some 36, .mv, [.tk 35], none⟩,
      ⟨some 37, .fa 2, [.t 3], some (36, false)⟩,
      ⟨some 38, .ldI 1 false, [.t 37], some (36, false)⟩,
      ⟨some 39, .bin .gtr, [.t 38, .c (.int .i64 4294967295)], some (36, false)⟩,
      ⟨some 40, .pick, [.t 36, .c (.bool true), .t 39], none⟩])
    (.cond (.t 40)
      (.ops [⟨some 41, .agg [(.int .i64 0), (.int .i64 0), (.int .i64 0)] [(0, 1), (2, 1)], [.c (.int .i64 18), .c (.int .i64 1)], none⟩,
        ⟨none, .hst 3, [.t 8, .t 41], none⟩])
      .skip))))
  (.seq (.seq (.ops [⟨some 42, .mv, [.t 7], none⟩,
    ⟨some 43, .call f_fault_Of, [.t 42], none⟩,
    ⟨some 44, .hld 3 true, [.t 8], none⟩,
    ⟨some 45, .eqs t_api_Fault [0, 0, 0] true, [.t 43, .t 44], none⟩,
    ⟨some 46, .mv, [.tk 45], none⟩,
    ⟨some 47, .mv, [.t 0], some (46, false)⟩,
    ⟨some 48, .b2s, [.t 47], some (46, false)⟩,
    ⟨some 49, .mv, [.t 5], some (46, false)⟩,
    ⟨some 50, .bin .neq, [.t 48, .t 49], some (46, false)⟩,
    ⟨some 51, .pick, [.t 46, .c (.bool true), .t 50], none⟩])
  (.cond (.t 51)
    (.seq (.ops [⟨some 4, .mv, [.c (.bool false)], none⟩])
    .ret)
    .skip))
  (.seq (.seq (.ops [⟨some 52, .mv, [.t 7], none⟩,
    ⟨some 53, .nilI true, [.t 52], none⟩])
  (.cond (.t 53)
    (.seq (.ops [⟨some 54, .mv, [.t 6], none⟩,
      ⟨some 55, .b2s, [.t 54], none⟩,
      ⟨some 56, .mv, [.t 5], none⟩,
      ⟨some 57, .bin .eql, [.t 55, .t 56], none⟩,
      ⟨some 58, .mv, [.tk 57], none⟩,
      ⟨some 59, .call f_law23_awake, [], some (58, true)⟩,
      ⟨some 60, .pick, [.t 58, .t 59, .c (.bool false)], none⟩,
      ⟨some 4, .mv, [.tk 60], none⟩])
    .ret)
    .skip))
  (.seq (.seq (.ops [⟨some 61, .mv, [.t 6], none⟩,
    ⟨some 62, .b2s, [.t 61], none⟩,
    ⟨some 63, .mv, [.t 5], none⟩,
    ⟨some 64, .ldI 3 true, [.t 3], none⟩,
    ⟨some 65, .call f_ref23_Bytes, [.t 64], none⟩,
    ⟨some 66, .bin .add, [.t 63, .t 65], none⟩,
    ⟨some 67, .bin .neq, [.t 62, .t 66], none⟩])
  (.cond (.t 67)
    (.seq (.ops [⟨some 4, .mv, [.c (.bool false)], none⟩])
    .ret)
    .skip))
  (.seq (.seq (.ops [⟨some 68, .mv, [.t 6], none⟩,
    ⟨some 69, .lenL, [.t 68], none⟩,
    ⟨some 70, .mv, [.t 0], none⟩,
    ⟨some 71, .lenL, [.t 70], none⟩,
    ⟨some 72, .bin .lss, [.t 69, .t 71], none⟩])
  (.cond (.t 72)
    (.seq (.ops [⟨some 4, .mv, [.c (.bool false)], none⟩])
    .ret)
    .skip))
  (.seq (.ops [⟨some 74, .mv, [.t 6], none⟩,
    ⟨some 75, .mv, [.t 0], none⟩,
    ⟨some 76, .lenL, [.t 75], none⟩,
    ⟨some 77, .slL 1 true false, [.t 74, .t 76], none⟩,
    ⟨some 78, .b2s, [.t 77], none⟩,
    ⟨some 79, .call f_status_Get, [.t 78], none⟩,
    ⟨some 73, .mv, [.tk 79], none⟩,
    ⟨some 80, .ext 0, [.t 73], none⟩,
    ⟨some 81, .ext 1, [.t 73], none⟩,
    ⟨some 9, .frs 3, [], none⟩,
    ⟨some 9, .ini 3, [.tk 9, .t 80], none⟩,
    ⟨some 10, .mv, [.tk 81], none⟩])
  (.seq (.ops [⟨some 82, .mv, [.tk 10], none⟩,
    ⟨some 83, .nilI false, [.t 82], none⟩,
    ⟨some 84, .mv, [.tk 83], none⟩,
    ⟨some 85, .ldI 3 true, [.t 9], some (84, true)⟩,
    ⟨some 86, .ldI 3 true, [.t 3], some (84, true)⟩,
    ⟨some 87, .eqs t_api_Status [0, 0, 0] false, [.t 85, .t 86], some (84, true)⟩,
    ⟨some 88, .pick, [.t 84, .t 87, .c (.bool false)], none⟩,
    ⟨some 89, .mv, [.tk 88], none⟩,
    ⟨some 90, .ldI 3 true, [.t 3], some (89, true)⟩,
    ⟨some 91, .call f_status_Pending, [.t 90], some (89, true)⟩,
    ⟨some 92, .fa 2, [.t 3], some (89, true)⟩,
    ⟨some 93, .ldI 1 false, [.t 92], some (89, true)⟩,
    ⟨some 94, .fa 1, [.t 3], some (89, true)⟩,
    ⟨some 95, .ldI 1 false, [.t 94], some (89, true)⟩,
    ⟨some 96, .bin .neq, [.t 93, .t 95], some (89, true)⟩,
    ⟨some 97, .beq false, [.t 91, .t 96], some (89, true)⟩,
    ⟨some 98, .pick, [.t 89, .t 97, .c (.bool false)], none⟩,
    ⟨some 99, .mv, [.tk 98], none⟩,
    ⟨some 100, .call f_law23_awake, [], some (99, true)⟩,
    ⟨some 101, .pick, [.t 99, .t 100, .c (.bool false)], none⟩,
    ⟨some 4, .mv, [.tk 101], none⟩])
  .ret))))))))))))⟩
/-- countwheel/countwheellaw23.awake -/
def a_law23_awake : AFunc := ⟨0, [.t 0],
  (.seq (.ops [⟨some 0, .mv, [.c (.bool false)], none⟩])
  (.seq (.ops [⟨some 1, .agg [(.int .u64 0), (.int .i64 0), (.int .i64 0)] [], [], none⟩,
    ⟨some 2, .call f_status_Text, [.t 1], none⟩,
    ⟨some 3, .bin .eql, [.t 2, .c (.str [108, 97, 115, 116, 32, 48, 32, 99, 117, 114, 114, 101, 110, 116, 32, 48, 32, 110, 101, 120, 116, 32, 48])], none⟩,
    ⟨some 4, .mv, [.tk 3], none⟩,
    ⟨some 5, .pick, [.t 4, .c (.bool true), .c (.bool false)], none⟩,
    ⟨some 0, .mv, [.tk 5], none⟩])
  .ret))⟩
/-- countwheel/status.Get -/
def a_status_Get : AFunc := ⟨1, [.cell 2 3 true, .t 3],
  (.seq (.ops [⟨some 2, .hnew [(.int .u64 0), (.int .i64 0), (.int .i64 0)], [], none⟩,
    ⟨some 3, .mv, [.c .nili], none⟩])
  (.seq (.block 0 (.seq (.ops [⟨some 11, .mv, [.t 0], none⟩,
      ⟨some 12, .lenS, [.t 11], none⟩,
      ⟨some 13, .bin .lss, [.t 12, .c (.int .i64 16)], none⟩,
      ⟨some 10, .mv, [.tk 13], none⟩])
    (.cond (.t 10)
      (.seq (.ops [⟨some 14, .agg [(.int .u64 0), (.int .i64 0), (.int .i64 0)] [], [], none⟩,
        ⟨some 15, .mv, [.t 0], none⟩,
        ⟨some 16, .lenS, [.t 15], none⟩,
        ⟨some 17, .call f_status_wrong, [.c (.int .i64 2), .t 16], none⟩,
        ⟨none, .hst 3, [.t 2, .t 14], none⟩,
        ⟨some 3, .mv, [.tk 17], none⟩])
      .ret)
      (.seq (.ops [⟨some 19, .mv, [.t 0], none⟩,
        ⟨some 20, .lenS, [.t 19], none⟩,
        ⟨some 21, .bin .gtr, [.t 20, .c (.int .i64 16)], none⟩,
        ⟨some 18, .mv, [.tk 21], none⟩])
      (.cond (.t 18)
        (.seq (.ops [⟨some 22, .agg [(.int .u64 0), (.int .i64 0), (.int .i64 0)] [], [], none⟩,
          ⟨some 23, .call f_status_wrong, [.c (.int .i64 4), .c (.int .i64 16)], none⟩,
          ⟨none, .hst 3, [.t 2, .t 22], none⟩,
          ⟨some 3, .mv, [.tk 23], none⟩])
        .ret)
        .skip)))))
  (.seq (.ops [⟨some 25, .mv, [.t 0], none⟩,
    ⟨some 26, .call f_octet_Get, [.t 25, .c (.int .i64 0), .c (.int .i64 8)], none⟩,
    ⟨some 24, .mv, [.tk 26], none⟩,
    ⟨some 27, .ext 0, [.t 24], none⟩,
    ⟨some 28, .ext 1, [.t 24], none⟩,
    ⟨some 4, .mv, [.tk 27], none⟩,
    ⟨some 5, .mv, [.tk 28], none⟩])
  (.seq (.ops [⟨some 30, .mv, [.t 0], none⟩,
    ⟨some 31, .call f_octet_Get, [.t 30, .c (.int .i64 8), .c (.int .i64 4)], none⟩,
    ⟨some 29, .mv, [.tk 31], none⟩,
    ⟨some 32, .ext 0, [.t 29], none⟩,
    ⟨some 33, .ext 1, [.t 29], none⟩,
    ⟨some 6, .mv, [.tk 32], none⟩,
    ⟨some 7, .mv, [.tk 33], none⟩])
  (.seq (.ops [⟨some 35, .mv, [.t 0], none⟩,
    ⟨some 36, .call f_octet_Get, [.t 35, .c (.int .i64 12), .c (.int .i64 4)], none⟩,
    ⟨some 34, .mv, [.tk 36], none⟩,
    ⟨some 37, .ext 0, [.t 34], none⟩,
    ⟨some 38, .ext 1, [.t 34], none⟩,
    ⟨some 8, .mv, [.tk 37], none⟩,
    ⟨some 9, .mv, [.tk 38], none⟩])
  (.seq (.ops [⟨some 39, .mv, [.tk 4], none⟩,
    ⟨some 40, .mv, [.tk 6], none⟩,
    ⟨some 41, .conv .i64, [.t 40], none⟩,
    ⟨some 42, .mv, [.tk 8], none⟩,
    ⟨some 43, .conv .i64, [.t 42], none⟩,
    ⟨some 44, .agg [(.int .u64 0), (.int .i64 0), (.int .i64 0)] [(0, 1), (1, 1), (2, 1)], [.t 39, .t 41, .t 43], none⟩,
    ⟨none, .hst 3, [.t 2, .t 44], none⟩,
    ⟨some 3, .mv, [.c .nili], none⟩])
  .ret))))))⟩
/-- countwheel/fault.Of -/
def a_fault_Of : AFunc := ⟨1, [.cell 2 3 true],
  (.seq (.ops [⟨some 2, .hnew [(.int .i64 0), (.int .i64 0), (.int .i64 0)], [], none⟩])
  (.seq (.seq (.ops [⟨some 7, .mv, [.t 0], none⟩,
    ⟨some 8, .nilI false, [.t 7], none⟩])
  (.cond (.t 8)
    (.seq (.ops [⟨some 9, .agg [(.int .i64 0), (.int .i64 0), (.int .i64 0)] [], [], none⟩,
      ⟨none, .hst 3, [.t 2, .t 9], none⟩])
    .ret)
    .skip))
  (.seq (.ops [⟨some 10, .agg [(.int .i64 0), (.int .i64 0), (.int .i64 0)] [(0, 1)], [.c (.int .i64 1)], none⟩,
    ⟨some 3, .hnew [(.int .i64 0), (.int .i64 0), (.int .i64 0)], [], none⟩,
    ⟨none, .hst 3, [.t 3, .t 10], none⟩])
  (.seq (.ops [⟨some 4, .hnew [(.int .i64 0)], [], none⟩])
  (.seq (.seq (.ops [⟨some 11, .mv, [.t 0], none⟩,
    ⟨some 12, .mkI t_pfault_class, [.t 4], none⟩,
    ⟨some 13, .hcall f_errors_As, [.t 11, .t 12], none⟩])
  (.cond (.t 13)
    (.ops [⟨some 14, .hld 1 false, [.t 4], none⟩,
      ⟨some 15, .fa 0, [.t 3], none⟩,
      ⟨none, .hst 1, [.t 15, .t 14], none⟩])
    .skip))
  (.seq (.ops [⟨some 5, .hnew [.nilp], [], none⟩])
  (.seq (.seq (.ops [⟨some 16, .mv, [.t 0], none⟩,
    ⟨some 17, .mkI t_ppfault_section, [.t 5], none⟩,
    ⟨some 18, .hcall f_errors_As, [.t 16, .t 17], none⟩])
  (.cond (.t 18)
    (.ops [⟨some 19, .hld 1 false, [.t 5], none⟩,
      ⟨some 20, .nilck, [.tk 19], none⟩,
      ⟨some 21, .fa 0, [.t 20], none⟩,
      ⟨some 22, .hld 1 false, [.t 21], none⟩,
      ⟨some 23, .fa 1, [.t 3], none⟩,
      ⟨none, .hst 1, [.t 23, .t 22], none⟩])
    .skip))
  (.seq (.ops [⟨some 6, .hnew [.nilp], [], none⟩])
  (.seq (.seq (.ops [⟨some 24, .mv, [.t 0], none⟩,
    ⟨some 25, .mkI t_ppfault_place, [.t 6], none⟩,
    ⟨some 26, .hcall f_errors_As, [.t 24, .t 25], none⟩])
  (.cond (.t 26)
    (.ops [⟨some 27, .hld 1 false, [.t 6], none⟩,
      ⟨some 28, .nilck, [.tk 27], none⟩,
      ⟨some 29, .fa 0, [.t 28], none⟩,
      ⟨some 30, .hld 1 false, [.t 29], none⟩,
      ⟨some 31, .fa 2, [.t 3], none⟩,
      ⟨none, .hst 1, [.t 31, .t 30], none⟩])
    .skip))
  (.seq (.ops [⟨some 32, .hld 3 true, [.t 3], none⟩,
    ⟨none, .hst 3, [.t 2, .t 32], none⟩])
  .ret))))))))))⟩
/-- countwheel/countwheelref23.Bytes -/
def a_ref23_Bytes : AFunc := ⟨1, [.t 2],
  (.seq (.ops [⟨some 1, .box, [.t 0], none⟩,
    ⟨some 2, .mv, [.c (.str [])], none⟩])
  (.seq (.ops [⟨some 3, .fa 0, [.t 1], none⟩,
    ⟨some 4, .ldI 1 false, [.t 3], none⟩,
    ⟨some 5, .call f_ref01_Text, [.t 4, .c (.int .i64 8)], none⟩,
    ⟨some 6, .fa 1, [.t 1], none⟩,
    ⟨some 7, .ldI 1 false, [.t 6], none⟩,
    ⟨some 8, .conv .u64, [.t 7], none⟩,
    ⟨some 9, .call f_ref01_Text, [.t 8, .c (.int .i64 4)], none⟩,
    ⟨some 10, .bin .add, [.t 5, .t 9], none⟩,
    ⟨some 11, .fa 2, [.t 1], none⟩,
    ⟨some 12, .ldI 1 false, [.t 11], none⟩,
    ⟨some 13, .conv .u64, [.t 12], none⟩,
    ⟨some 14, .call f_ref01_Text, [.t 13, .c (.int .i64 4)], none⟩,
    ⟨some 15, .bin .add, [.t 10, .t 14], none⟩,
    ⟨some 2, .mv, [.tk 15], none⟩])
  .ret))⟩
def b0_status_Put : ACode :=
  (.seq (.ops [⟨some 16, .bin .lss, [.t 15, .c (.int .i64 2)], none⟩])
  (.seq (.cond (.t 16)
    .skip
    (.exit 0))
  (.seq (.block 1 (.seq (.ops [⟨some 17, .mv, [.t 15], none⟩,
      ⟨some 18, .ixG 2 1 false, [.t 14, .t 15], none⟩,
      ⟨some 6, .mv, [.tk 17], none⟩,
      ⟨some 7, .mv, [.tk 18], none⟩])
    (.seq (.ops [⟨some 19, .mv, [.t 7], none⟩,
      ⟨some 20, .bin .lss, [.t 19, .c (.int .i64 0)], none⟩,
      ⟨some 21, .mv, [.tk 20], none⟩,
      ⟨some 22, .mv, [.t 7], some (21, false)⟩,
      ⟨some 23, .conv .u64, [.t 22], some (21, false)⟩,
      ⟨some 24, .call f_octet_Fits, [.t 23, .c (.int .i64 4)], some (21, false)⟩,
      ⟨some 25, .unot, [.t 24], some (21, false)⟩,
      ⟨some 26, .pick, [.t 21, .c (.bool true), .t 25], none⟩])
    (.cond (.t 26)
      (.seq (.ops [⟨some 27, .mv, [.t 0], none⟩,
        ⟨some 28, .call f_slices_Clone___byte_byte_, [.t 27], none⟩,
        ⟨some 29, .mv, [.tk 6], none⟩,
        ⟨some 30, .call f_status_wrong, [.c (.int .i64 18), .t 29], none⟩,
        ⟨some 4, .mv, [.tk 28], none⟩,
        ⟨some 5, .mv, [.tk 30], none⟩])
      .ret)
      .skip))))
  (.ops [⟨some 31, .bin .add, [.t 15, .c (.int .i64 1)], none⟩,
    ⟨some 15, .mv, [.tk 31], none⟩]))))
/-- countwheel/status.Put -/
def a_status_Put : AFunc := ⟨2, [.t 4, .t 5],
  (.seq (.ops [⟨some 3, .box, [.t 1], none⟩,
    ⟨some 4, .mv, [.c (.sl true 1 [])], none⟩,
    ⟨some 5, .mv, [.c .nili], none⟩])
  (.seq (.seq (.ops [⟨some 10, .fa 1, [.t 3], none⟩,
    ⟨some 11, .ldI 1 false, [.t 10], none⟩,
    ⟨some 12, .fa 2, [.t 3], none⟩,
    ⟨some 13, .ldI 1 false, [.t 12], none⟩,
    ⟨some 14, .agg [(.int .i64 0), (.int .i64 0)] [(0, 1), (1, 1)], [.t 11, .t 13], none⟩,
    ⟨some 15, .mv, [.c (.int .i64 0)], none⟩])
  (.block 0 (.loop b0_status_Put)))
  (.seq (.ops [⟨some 33, .mv, [.t 0], none⟩,
    ⟨some 34, .fa 0, [.t 3], none⟩,
    ⟨some 35, .ldI 1 false, [.t 34], none⟩,
    ⟨some 36, .call f_octet_Put, [.t 33, .t 35, .c (.int .i64 8)], none⟩,
    ⟨some 32, .mv, [.tk 36], none⟩,
    ⟨some 37, .ext 0, [.tk 32], none⟩,
    ⟨some 38, .ext 1, [.t 32], none⟩,
    ⟨some 8, .mv, [.tk 37], none⟩,
    ⟨some 9, .mv, [.tk 38], none⟩])
  (.seq (.ops [⟨some 40, .mv, [.t 8], none⟩,
    ⟨some 41, .fa 1, [.t 3], none⟩,
    ⟨some 42, .ldI 1 false, [.t 41], none⟩,
    ⟨some 43, .conv .u64, [.t 42], none⟩,
    ⟨some 44, .call f_octet_Put, [.t 40, .t 43, .c (.int .i64 4)], none⟩,
    ⟨some 39, .mv, [.tk 44], none⟩,
    ⟨some 45, .ext 0, [.tk 39], none⟩,
    ⟨some 46, .ext 1, [.t 39], none⟩,
    ⟨some 8, .mv, [.tk 45], none⟩])
  (.seq (.ops [⟨some 48, .mv, [.t 8], none⟩,
    ⟨some 49, .fa 2, [.t 3], none⟩,
    ⟨some 50, .ldI 1 false, [.t 49], none⟩,
    ⟨some 51, .conv .u64, [.t 50], none⟩,
    ⟨some 52, .call f_octet_Put, [.t 48, .t 51, .c (.int .i64 4)], none⟩,
    ⟨some 47, .mv, [.tk 52], none⟩,
    ⟨some 53, .ext 0, [.tk 47], none⟩,
    ⟨some 54, .ext 1, [.t 47], none⟩,
    ⟨some 8, .mv, [.tk 53], none⟩])
  (.seq (.ops [⟨some 55, .mv, [.tk 8], none⟩,
    ⟨some 4, .mv, [.tk 55], none⟩,
    ⟨some 5, .mv, [.c .nili], none⟩])
  .ret))))))⟩
/-- countwheel/status.Pending -/
def a_status_Pending : AFunc := ⟨1, [.t 2],
  (.seq (.ops [⟨some 1, .box, [.t 0], none⟩,
    ⟨some 2, .mv, [.c (.bool false)], none⟩])
  (.seq (.ops [⟨some 3, .fa 2, [.t 1], none⟩,
    ⟨some 4, .ldI 1 false, [.t 3], none⟩,
    ⟨some 5, .fa 1, [.t 1], none⟩,
    ⟨some 6, .ldI 1 false, [.t 5], none⟩,
    ⟨some 7, .bin .neq, [.t 4, .t 6], none⟩,
    ⟨some 2, .mv, [.tk 7], none⟩])
  .ret))⟩
/-- countwheel/status.Text -/
def a_status_Text : AFunc := ⟨1, [.t 2],
  (.seq (.ops [⟨some 1, .box, [.t 0], none⟩,
    ⟨some 2, .mv, [.c (.str [])], none⟩])
  (.seq (.ops [⟨some 3, .fa 0, [.t 1], none⟩,
    ⟨some 4, .ldI 1 false, [.t 3], none⟩,
    ⟨some 5, .call f_strconv_FormatUint, [.t 4, .c (.int .i64 10)], none⟩,
    ⟨some 6, .fa 1, [.t 1], none⟩,
    ⟨some 7, .ldI 1 false, [.t 6], none⟩,
    ⟨some 8, .call f_strconv_Itoa, [.t 7], none⟩,
    ⟨some 9, .fa 2, [.t 1], none⟩,
    ⟨some 10, .ldI 1 false, [.t 9], none⟩,
    ⟨some 11, .call f_strconv_Itoa, [.t 10], none⟩,
    ⟨some 12, .lit 1, [.c (.str [108, 97, 115, 116]), .t 5, .c (.str [99, 117, 114, 114, 101, 110, 116]), .t 8, .c (.str [110, 101, 120, 116]), .t 11], none⟩,
    ⟨some 13, .call f_strings_Join, [.t 12, .c (.str [32])], none⟩,
    ⟨some 2, .mv, [.tk 13], none⟩])
  .ret))⟩
/-- countwheel/status.wrong -/
def a_status_wrong : AFunc := ⟨2, [.t 4],
  (.seq (.ops [⟨some 4, .mv, [.c .nili], none⟩])
  (.seq (.ops [⟨some 5, .mv, [.tk 1], none⟩,
    ⟨some 6, .mv, [.tk 0], none⟩,
    ⟨some 7, .call f_fault_New, [.t 6], none⟩,
    ⟨some 8, .call f_fault_At, [.t 5, .t 7], none⟩,
    ⟨some 4, .mv, [.tk 8], none⟩])
  .ret))⟩
def b0_octet_Get : ACode :=
  (.seq (.ops [⟨some 39, .bin .lss, [.t 38, .t 37], none⟩])
  (.seq (.cond (.t 39)
    .skip
    (.exit 0))
  (.seq (.block 1 (.seq (.ops [⟨some 40, .mv, [.t 38], none⟩,
      ⟨some 11, .mv, [.tk 40], none⟩])
    (.ops [⟨some 41, .mv, [.t 10], none⟩,
      ⟨some 42, .bin .shl, [.t 41, .c (.int .u64 8)], none⟩,
      ⟨some 43, .mv, [.t 0], none⟩,
      ⟨some 44, .mv, [.t 1], none⟩,
      ⟨some 45, .mv, [.tk 11], none⟩,
      ⟨some 46, .bin .add, [.t 44, .t 45], none⟩,
      ⟨some 47, .ixS, [.t 43, .t 46], none⟩,
      ⟨some 48, .conv .u64, [.t 47], none⟩,
      ⟨some 49, .bin .or, [.t 42, .t 48], none⟩,
      ⟨some 10, .mv, [.tk 49], none⟩])))
  (.ops [⟨some 50, .bin .add, [.t 38, .c (.int .i64 1)], none⟩,
    ⟨some 38, .mv, [.tk 50], none⟩]))))
/-- countwheel/octet.Get -/
def a_octet_Get : AFunc := ⟨3, [.t 6, .t 7],
  (.seq (.ops [⟨some 6, .mv, [.c (.int .u64 0)], none⟩,
    ⟨some 7, .mv, [.c (.bool false)], none⟩])
  (.seq (.seq (.ops [⟨some 13, .mv, [.t 2], none⟩,
    ⟨some 14, .call f_octet_size, [.t 13], none⟩,
    ⟨some 12, .mv, [.tk 14], none⟩,
    ⟨some 15, .ext 0, [.t 12], none⟩,
    ⟨some 16, .ext 1, [.t 12], none⟩,
    ⟨some 8, .mv, [.tk 15], none⟩,
    ⟨some 9, .mv, [.tk 16], none⟩])
  (.seq (.ops [⟨some 17, .mv, [.tk 9], none⟩,
    ⟨some 18, .unot, [.t 17], none⟩,
    ⟨some 19, .mv, [.tk 18], none⟩,
    ⟨some 20, .mv, [.t 1], some (19, false)⟩,
    ⟨some 21, .bin .lss, [.t 20, .c (.int .i64 0)], some (19, false)⟩,
    ⟨some 22, .pick, [.t 19, .c (.bool true), .t 21], none⟩,
    ⟨some 23, .mv, [.tk 22], none⟩,
    ⟨some 24, .mv, [.t 1], some (23, false)⟩,
    ⟨some 25, .mv, [.t 0], some (23, false)⟩,
    ⟨some 26, .lenS, [.t 25], some (23, false)⟩,
    ⟨some 27, .bin .gtr, [.t 24, .t 26], some (23, false)⟩,
    ⟨some 28, .pick, [.t 23, .c (.bool true), .t 27], none⟩,
    ⟨some 29, .mv, [.tk 28], none⟩,
    ⟨some 30, .mv, [.t 2], some (29, false)⟩,
    ⟨some 31, .mv, [.t 0], some (29, false)⟩,
    ⟨some 32, .lenS, [.t 31], some (29, false)⟩,
    ⟨some 33, .mv, [.t 1], some (29, false)⟩,
    ⟨some 34, .bin .sub, [.t 32, .t 33], some (29, false)⟩,
    ⟨some 35, .bin .gtr, [.t 30, .t 34], some (29, false)⟩,
    ⟨some 36, .pick, [.t 29, .c (.bool true), .t 35], none⟩])
  (.cond (.t 36)
    (.seq (.ops [⟨some 6, .mv, [.c (.int .u64 0)], none⟩,
      ⟨some 7, .mv, [.c (.bool false)], none⟩])
    .ret)
    .skip)))
  (.seq (.ops [⟨some 10, .mv, [.c (.int .u64 0)], none⟩])
  (.seq (.seq (.ops [⟨some 37, .mv, [.t 2], none⟩,
    ⟨some 38, .mv, [.c (.int .i64 0)], none⟩])
  (.block 0 (.loop b0_octet_Get)))
  (.seq (.ops [⟨some 51, .mv, [.tk 10], none⟩,
    ⟨some 6, .mv, [.tk 51], none⟩,
    ⟨some 7, .mv, [.c (.bool true)], none⟩])
  .ret)))))⟩
/-- errors.As (not: panic) -/
def a_errors_As : AFunc := ⟨2, [.t 4],
  (.seq (.ops [⟨some 4, .mv, [.c (.bool false)], none⟩])
  (.seq (.seq (.ops [⟨some 8, .mv, [.t 0], none⟩,
    ⟨some 9, .nilI false, [.t 8], none⟩])
  (.cond (.t 9)
    (.seq (.ops [⟨some 4, .mv, [.c (.bool false)], none⟩])
    .ret)
    .skip))
  (.seq (.seq (.ops [⟨some 10, .mv, [.t 1], none⟩,
    ⟨some 11, .nilI false, [.t 10], none⟩])
  (.cond (.t 11)
    (.ops [⟨some 12, .mkI t_string, [.c (.str [101, 114, 114, 111, 114, 115, 58, 32, 116, 97, 114, 103, 101, 116, 32, 99, 97, 110, 110, 111, 116, 32, 98, 101, 32, 110, 105, 108])], none⟩,
      ⟨none, .bad, [], none⟩])
    .skip))
  (.seq (.ops [⟨some 13, .mv, [.t 1], none⟩,
    ⟨some 14, .x 1000025, [.t 13], none⟩,
    ⟨some 5, .frs 3, [], none⟩,
    ⟨some 5, .ini 3, [.tk 5, .t 14], none⟩])
  (.seq (.ops [⟨some 15, .ldI 3 true, [.t 5], none⟩,
    ⟨some 16, .x 1000026, [.t 15], none⟩,
    ⟨some 6, .mv, [.tk 16], none⟩])
  (.seq (.seq (.ops [⟨some 17, .mv, [.t 6], none⟩,
    ⟨some 18, .x 2000000, [.t 17], none⟩,
    ⟨some 19, .bin .neq, [.t 18, .c (.int .u8 22)], none⟩,
    ⟨some 20, .mv, [.tk 19], none⟩,
    ⟨some 21, .ldI 3 true, [.t 5], some (20, false)⟩,
    ⟨some 22, .x 1000027, [.t 21], some (20, false)⟩,
    ⟨some 23, .pick, [.t 20, .c (.bool true), .t 22], none⟩])
  (.cond (.t 23)
    (.ops [⟨some 24, .mkI t_string, [.c (.str [101, 114, 114, 111, 114, 115, 58, 32, 116, 97, 114, 103, 101, 116, 32, 109, 117, 115, 116, 32, 98, 101, 32, 97, 32, 110, 111, 110, 45, 110, 105, 108, 32, 112, 111, 105, 110, 116, 101, 114])], none⟩,
      ⟨none, .bad, [], none⟩])
    .skip))
  (.seq (.ops [⟨some 25, .mv, [.t 6], none⟩,
    ⟨some 26, .x 2000001, [.t 25], none⟩,
    ⟨some 7, .mv, [.tk 26], none⟩])
  (.seq (.seq (.ops [⟨some 27, .mv, [.t 7], none⟩,
    ⟨some 28, .x 2000000, [.t 27], none⟩,
    ⟨some 29, .bin .neq, [.t 28, .c (.int .u8 20)], none⟩,
    ⟨some 30, .mv, [.tk 29], none⟩,
    ⟨some 31, .mv, [.t 7], some (30, true)⟩,
    ⟨some 32, .x 4000074, [], some (30, true)⟩,
    ⟨some 33, .x 2000002, [.t 31, .t 32], some (30, true)⟩,
    ⟨some 34, .unot, [.t 33], some (30, true)⟩,
    ⟨some 35, .pick, [.t 30, .t 34, .c (.bool false)], none⟩])
  (.cond (.t 35)
    (.ops [⟨some 36, .mkI t_string, [.c (.str [101, 114, 114, 111, 114, 115, 58, 32, 42, 116, 97, 114, 103, 101, 116, 32, 109, 117, 115, 116, 32, 98, 101, 32, 105, 110, 116, 101, 114, 102, 97, 99, 101, 32, 111, 114, 32, 105, 109, 112, 108, 101, 109, 101, 110, 116, 32, 101, 114, 114, 111, 114])], none⟩,
      ⟨none, .bad, [], none⟩])
    .skip))
  (.seq (.ops [⟨some 37, .mv, [.t 0], none⟩,
    ⟨some 38, .mv, [.t 1], none⟩,
    ⟨some 39, .ldI 3 true, [.t 5], none⟩,
    ⟨some 40, .mv, [.t 7], none⟩,
    ⟨some 41, .hcall f_errors_as, [.t 37, .t 38, .t 39, .t 40], none⟩,
    ⟨some 4, .mv, [.tk 41], none⟩])
  .ret)))))))))⟩
def b0_ref01_Text : ACode :=
  (.seq (.seq (.ops [⟨some 7, .mv, [.t 6], none⟩,
    ⟨some 8, .mv, [.tk 1], none⟩,
    ⟨some 9, .bin .lss, [.t 7, .t 8], none⟩])
  (.cond (.t 9)
    .skip
    (.exit 0)))
  (.seq (.block 1 (.seq (.ops [⟨some 12, .mv, [.t 0], none⟩,
      ⟨some 13, .bin .rem, [.t 12, .c (.int .u64 256)], none⟩,
      ⟨some 14, .conv .u8, [.t 13], none⟩,
      ⟨some 15, .lit 1, [.t 14], none⟩,
      ⟨some 16, .b2s, [.t 15], none⟩,
      ⟨some 17, .mv, [.t 5], none⟩,
      ⟨some 18, .bin .add, [.t 16, .t 17], none⟩,
      ⟨some 5, .mv, [.tk 18], none⟩])
    (.ops [⟨some 19, .mv, [.t 0], none⟩,
      ⟨some 20, .bin .quo, [.t 19, .c (.int .u64 256)], none⟩,
      ⟨some 0, .mv, [.tk 20], none⟩])))
  (.ops [⟨some 10, .mv, [.t 6], none⟩,
    ⟨some 11, .bin .add, [.t 10, .c (.int .i64 1)], none⟩,
    ⟨some 6, .mv, [.tk 11], none⟩])))
/-- countwheel/countwheelref01.Text -/
def a_ref01_Text : AFunc := ⟨2, [.t 4],
  (.seq (.ops [⟨some 4, .mv, [.c (.str [])], none⟩])
  (.seq (.ops [⟨some 5, .mv, [.c (.str [])], none⟩])
  (.seq (.seq (.ops [⟨some 6, .mv, [.c (.int .i64 0)], none⟩])
  (.block 0 (.loop b0_ref01_Text)))
  (.seq (.ops [⟨some 21, .mv, [.tk 5], none⟩,
    ⟨some 4, .mv, [.tk 21], none⟩])
  .ret))))⟩
/-- countwheel/octet.Fits -/
def a_octet_Fits : AFunc := ⟨2, [.t 4],
  (.seq (.ops [⟨some 4, .mv, [.c (.bool false)], none⟩])
  (.seq (.ops [⟨some 8, .mv, [.tk 1], none⟩,
    ⟨some 9, .call f_octet_size, [.t 8], none⟩,
    ⟨some 7, .mv, [.tk 9], none⟩,
    ⟨some 10, .ext 0, [.t 7], none⟩,
    ⟨some 11, .ext 1, [.t 7], none⟩,
    ⟨some 5, .mv, [.tk 10], none⟩,
    ⟨some 6, .mv, [.tk 11], none⟩])
  (.seq (.ops [⟨some 12, .mv, [.tk 6], none⟩,
    ⟨some 13, .mv, [.tk 12], none⟩,
    ⟨some 14, .mv, [.t 5], some (13, true)⟩,
    ⟨some 15, .bin .eql, [.t 14, .c (.int .u64 64)], some (13, true)⟩,
    ⟨some 16, .mv, [.tk 15], some (13, true)⟩,
    ⟨some 17, .mv, [.tk 0], some (16, false)⟩,
    ⟨some 18, .mv, [.t 5], some (16, false)⟩,
    ⟨some 19, .bin .shr, [.t 17, .t 18], some (16, false)⟩,
    ⟨some 20, .bin .eql, [.t 19, .c (.int .u64 0)], some (16, false)⟩,
    ⟨some 21, .pick, [.t 16, .c (.bool true), .t 20], some (13, true)⟩,
    ⟨some 22, .pick, [.t 13, .t 21, .c (.bool false)], none⟩,
    ⟨some 4, .mv, [.tk 22], none⟩])
  .ret)))⟩
def b0_octet_Put : ACode :=
  (.seq (.seq (.ops [⟨some 19, .mv, [.t 9], none⟩,
    ⟨some 20, .bin .geq, [.t 19, .c (.int .i64 0)], none⟩])
  (.cond (.t 20)
    .skip
    (.exit 0)))
  (.seq (.block 1 (.ops [⟨some 23, .mv, [.tk 8], none⟩,
      ⟨some 24, .mv, [.t 1], none⟩,
      ⟨some 25, .mv, [.t 9], none⟩,
      ⟨some 26, .bin .mul, [.c (.int .i64 8), .t 25], none⟩,
      ⟨some 27, .bin .shr, [.t 24, .t 26], none⟩,
      ⟨some 28, .conv .u8, [.t 27], none⟩,
      ⟨some 29, .lit 1, [.t 28], none⟩,
      ⟨some 30, .app 1 1, [.tk 23, .t 29], none⟩,
      ⟨some 8, .mv, [.tk 30], none⟩]))
  (.ops [⟨some 21, .mv, [.t 9], none⟩,
    ⟨some 22, .bin .sub, [.t 21, .c (.int .i64 1)], none⟩,
    ⟨some 9, .mv, [.tk 22], none⟩])))
/-- countwheel/octet.Put -/
def a_octet_Put : AFunc := ⟨3, [.t 6, .t 7],
  (.seq (.ops [⟨some 6, .mv, [.c (.sl true 1 [])], none⟩,
    ⟨some 7, .mv, [.c (.bool false)], none⟩])
  (.seq (.ops [⟨some 10, .mv, [.tk 0], none⟩,
    ⟨some 11, .call f_slices_Clone___byte_byte_, [.t 10], none⟩,
    ⟨some 8, .mv, [.tk 11], none⟩])
  (.seq (.seq (.ops [⟨some 12, .mv, [.t 1], none⟩,
    ⟨some 13, .mv, [.t 2], none⟩,
    ⟨some 14, .call f_octet_Fits, [.t 12, .t 13], none⟩,
    ⟨some 15, .unot, [.t 14], none⟩])
  (.cond (.t 15)
    (.seq (.ops [⟨some 16, .mv, [.tk 8], none⟩,
      ⟨some 6, .mv, [.tk 16], none⟩,
      ⟨some 7, .mv, [.c (.bool false)], none⟩])
    .ret)
    .skip))
  (.seq (.seq (.ops [⟨some 17, .mv, [.t 2], none⟩,
    ⟨some 18, .bin .sub, [.t 17, .c (.int .i64 1)], none⟩,
    ⟨some 9, .mv, [.tk 18], none⟩])
  (.block 0 (.loop b0_octet_Put)))
  (.seq (.ops [⟨some 31, .mv, [.tk 8], none⟩,
    ⟨some 6, .mv, [.tk 31], none⟩,
    ⟨some 7, .mv, [.c (.bool true)], none⟩])
  .ret)))))⟩
/-- strconv.FormatUint -/
def a_strconv_FormatUint : AFunc := ⟨2, [.t 4],
  (.seq (.ops [⟨some 4, .mv, [.c (.str [])], none⟩])
  (.seq (.ops [⟨some 5, .mv, [.tk 0], none⟩,
    ⟨some 6, .mv, [.tk 1], none⟩,
    ⟨some 7, .call f_internal_strconv_FormatUint, [.t 5, .t 6], none⟩,
    ⟨some 4, .mv, [.tk 7], none⟩])
  .ret))⟩
/-- strconv.Itoa -/
def a_strconv_Itoa : AFunc := ⟨1, [.t 2],
  (.seq (.ops [⟨some 2, .mv, [.c (.str [])], none⟩])
  (.seq (.ops [⟨some 3, .mv, [.tk 0], none⟩,
    ⟨some 4, .call f_internal_strconv_Itoa, [.t 3], none⟩,
    ⟨some 2, .mv, [.tk 4], none⟩])
  .ret))⟩
/-- countwheel/fault.At -/
def a_fault_At : AFunc := ⟨2, [.t 4],
  (.seq (.ops [⟨some 4, .mv, [.c .nili], none⟩])
  (.seq (.seq (.ops [⟨some 5, .mv, [.t 1], none⟩,
    ⟨some 6, .nilI false, [.t 5], none⟩])
  (.cond (.t 6)
    (.seq (.ops [⟨some 4, .mv, [.c .nili], none⟩])
    .ret)
    .skip))
  (.seq (.ops [⟨some 7, .mv, [.tk 0], none⟩,
    ⟨some 8, .mv, [.t 1], none⟩,
    ⟨some 9, .agg [(.int .i64 0), .nili] [(0, 1), (1, 1)], [.t 7, .t 8], none⟩,
    ⟨some 10, .box, [.t 9], none⟩,
    ⟨some 11, .mkI t_pfault_place, [.t 10], none⟩,
    ⟨some 4, .mv, [.tk 11], none⟩])
  .ret)))⟩
/-- countwheel/fault.New -/
def a_fault_New : AFunc := ⟨1, [.t 2],
  (.seq (.ops [⟨some 2, .mv, [.c .nili], none⟩])
  (.seq (.seq (.ops [⟨some 3, .mv, [.t 0], none⟩,
    ⟨some 4, .call f_fault_Name, [.t 3], none⟩,
    ⟨some 5, .bin .eql, [.t 4, .c (.str [])], none⟩])
  (.cond (.t 5)
    (.seq (.ops [⟨some 2, .mv, [.c .nili], none⟩])
    .ret)
    .skip))
  (.seq (.ops [⟨some 6, .mv, [.t 0], none⟩,
    ⟨some 7, .mkI t_fault_class, [.t 6], none⟩,
    ⟨some 2, .mv, [.tk 7], none⟩])
  .ret)))⟩
/-- countwheel/octet.size -/
def a_octet_size : AFunc := ⟨1, [.t 2, .t 3],
  (.seq (.ops [⟨some 2, .mv, [.c (.int .u64 0)], none⟩,
    ⟨some 3, .mv, [.c (.bool false)], none⟩])
  (.seq (.ops [⟨some 4, .mv, [.c (.int .u64 0)], none⟩])
  (.seq (.seq (.ops [⟨some 5, .mv, [.tk 0], none⟩])
  (.block 0 (.seq (.block 5 (.seq (.block 4 (.seq (.block 3 (.seq (.block 2 (.seq (.block 1 (.seq (.seq (.seq (.ops [⟨some 7, .bin .eql, [.t 5, .c (.int .i64 8)], none⟩,
                ⟨some 6, .mv, [.tk 7], none⟩])
              (.cond (.t 6)
                (.exit 1)
                .skip))
              (.seq (.seq (.ops [⟨some 9, .bin .eql, [.t 5, .c (.int .i64 4)], none⟩,
                ⟨some 8, .mv, [.tk 9], none⟩])
              (.cond (.t 8)
                (.exit 2)
                .skip))
              (.seq (.seq (.ops [⟨some 11, .bin .eql, [.t 5, .c (.int .i64 2)], none⟩,
                ⟨some 10, .mv, [.tk 11], none⟩])
              (.cond (.t 10)
                (.exit 3)
                .skip))
              (.seq (.ops [⟨some 13, .bin .eql, [.t 5, .c (.int .i64 1)], none⟩,
                ⟨some 12, .mv, [.tk 13], none⟩])
              (.cond (.t 12)
                (.exit 4)
                .skip)))))
              (.exit 5)))
            (.ops [⟨some 14, .mv, [.t 4], none⟩,
              ⟨some 15, .bin .add, [.t 14, .c (.int .u64 32)], none⟩,
              ⟨some 4, .mv, [.tk 15], none⟩])))
          (.ops [⟨some 16, .mv, [.t 4], none⟩,
            ⟨some 17, .bin .add, [.t 16, .c (.int .u64 16)], none⟩,
            ⟨some 4, .mv, [.tk 17], none⟩])))
        (.ops [⟨some 18, .mv, [.t 4], none⟩,
          ⟨some 19, .bin .add, [.t 18, .c (.int .u64 8)], none⟩,
          ⟨some 4, .mv, [.tk 19], none⟩])))
      (.seq (.ops [⟨some 20, .mv, [.t 4], none⟩,
        ⟨some 21, .bin .add, [.t 20, .c (.int .u64 8)], none⟩,
        ⟨some 4, .mv, [.tk 21], none⟩])
      (.exit 0))))
    (.seq (.seq (.ops [⟨some 2, .mv, [.c (.int .u64 0)], none⟩,
      ⟨some 3, .mv, [.c (.bool false)], none⟩])
    .ret)
    (.exit 0)))))
  (.seq (.ops [⟨some 22, .mv, [.tk 4], none⟩,
    ⟨some 2, .mv, [.tk 22], none⟩,
    ⟨some 3, .mv, [.c (.bool true)], none⟩])
  .ret))))⟩
def b0_errors_as : ACode :=
  (.seq (.ops [⟨some 51, .bin .lss, [.t 50, .t 49], none⟩])
  (.seq (.cond (.t 51)
    .skip
    (.exit 3))
  (.seq (.block 4 (.seq (.ops [⟨some 52, .ixA 1, [.t 48, .t 50], none⟩,
      ⟨some 53, .ldI 1 false, [.t 52], none⟩,
      ⟨some 14, .mv, [.tk 53], none⟩])
    (.seq (.seq (.ops [⟨some 54, .mv, [.t 14], none⟩,
      ⟨some 55, .nilI false, [.t 54], none⟩])
    (.cond (.t 55)
      (.exit 4)
      .skip))
    (.seq (.ops [⟨some 56, .mv, [.t 14], none⟩,
      ⟨some 57, .mv, [.t 1], none⟩,
      ⟨some 58, .ldI 3 true, [.t 6], none⟩,
      ⟨some 59, .mv, [.t 3], none⟩,
      ⟨some 60, .hcall f_errors_as, [.t 56, .t 57, .t 58, .t 59], none⟩])
    (.cond (.t 60)
      (.seq (.ops [⟨some 8, .mv, [.c (.bool true)], none⟩])
      .ret)
      .skip)))))
  (.ops [⟨some 61, .bin .add, [.t 50, .c (.int .i64 1)], none⟩,
    ⟨some 50, .mv, [.tk 61], none⟩]))))
def b1_errors_as : ACode :=
  (.block 1 (.seq (.seq (.ops [⟨some 16, .mv, [.t 0], none⟩,
      ⟨some 17, .x 1000035, [.t 16], none⟩,
      ⟨some 18, .mv, [.t 3], none⟩,
      ⟨some 19, .x 2000003, [.t 17, .t 18], none⟩])
    (.cond (.t 19)
      (.seq (.ops [⟨some 20, .ldI 3 true, [.t 6], none⟩,
        ⟨some 21, .x 1000036, [.t 20], none⟩,
        ⟨some 22, .mv, [.t 0], none⟩,
        ⟨some 23, .x 1000025, [.t 22], none⟩,
        ⟨some 24, .x 1000037, [.t 21, .t 23], none⟩])
      (.seq (.ops [⟨some 8, .mv, [.c (.bool true)], none⟩])
      .ret))
      .skip))
    (.seq (.seq (.ops [⟨some 26, .mv, [.t 0], none⟩,
      ⟨some 27, .x 3000189, [.t 26], none⟩,
      ⟨some 25, .mv, [.tk 27], none⟩,
      ⟨some 28, .ext 0, [.t 25], none⟩,
      ⟨some 29, .ext 1, [.t 25], none⟩,
      ⟨some 9, .mv, [.tk 28], none⟩,
      ⟨some 10, .mv, [.tk 29], none⟩])
    (.seq (.ops [⟨some 30, .mv, [.tk 10], none⟩,
      ⟨some 31, .mv, [.tk 30], none⟩,
      ⟨some 32, .mv, [.tk 9], some (31, true)⟩,
      ⟨some 33, .mv, [.t 1], some (31, true)⟩,
      ⟨some 34, .x 2000005, [.t 32, .t 33], some (31, true)⟩,
      ⟨some 35, .pick, [.t 31, .t 34, .c (.bool false)], none⟩])
    (.cond (.t 35)
      (.seq (.ops [⟨some 8, .mv, [.c (.bool true)], none⟩])
      .ret)
      .skip)))
    (.seq (.ops [⟨some 36, .mv, [.t 0], none⟩])
    (.block 2 (.seq (.ops [⟨some 37, .x 3000195, [.t 36], none⟩,
        ⟨some 38, .ext 1, [.t 37], none⟩,
        ⟨some 39, .ext 0, [.t 37], none⟩])
      (.cond (.t 38)
        (.seq (.ops [⟨some 11, .mv, [.tk 39], none⟩])
        (.seq (.ops [⟨some 40, .mv, [.tk 11], none⟩,
          ⟨some 41, .x 2000004, [.t 40], none⟩,
          ⟨some 0, .mv, [.tk 41], none⟩])
        (.seq (.ops [⟨some 42, .mv, [.t 0], none⟩,
          ⟨some 43, .nilI false, [.t 42], none⟩])
        (.cond (.t 43)
          (.seq (.ops [⟨some 8, .mv, [.c (.bool false)], none⟩])
          .ret)
          .skip))))
        (.seq (.ops [⟨some 44, .x 3000199, [.t 36], none⟩,
          ⟨some 45, .ext 1, [.t 44], none⟩,
          ⟨some 46, .ext 0, [.t 44], none⟩])
        (.cond (.t 45)
          (.seq (.ops [⟨some 12, .mv, [.tk 46], none⟩])
          (.seq (.seq (.ops [⟨some 47, .mv, [.tk 12], none⟩,
            ⟨some 48, .x 2000004, [.t 47], none⟩,
            ⟨some 49, .lenL, [.t 48], none⟩,
            ⟨some 50, .mv, [.c (.int .i64 0)], none⟩])
          (.block 3 (.loop b0_errors_as)))
          (.seq (.ops [⟨some 8, .mv, [.c (.bool false)], none⟩])
          .ret)))
          (.seq (.ops [⟨some 15, .mv, [.t 36], none⟩])
          (.seq (.ops [⟨some 8, .mv, [.c (.bool false)], none⟩])
          .ret)))))))))))
/-- errors.as -/
def a_errors_as : AFunc := ⟨4, [.t 8],
  (.seq (.ops [⟨some 6, .box, [.t 2], none⟩,
    ⟨some 8, .mv, [.c (.bool false)], none⟩])
  (.block 0 (.loop b1_errors_as)))⟩
/-- internal/strconv.FormatUint (not: slice of array) -/
def a_internal_strconv_FormatUint : AFunc := ⟨2, [.t 4],
  (.seq (.ops [⟨some 4, .mv, [.c (.str [])], none⟩])
  (.seq (.seq (.ops [⟨some 9, .mv, [.t 1], none⟩,
    ⟨some 10, .bin .eql, [.t 9, .c (.int .i64 10)], none⟩])
  (.cond (.t 10)
    (.seq (.seq (.ops [⟨some 11, .mv, [.t 0], none⟩,
      ⟨some 12, .bin .lss, [.t 11, .c (.int .u64 100)], none⟩])
    (.cond (.t 12)
      (.seq (.ops [⟨some 13, .mv, [.t 0], none⟩,
        ⟨some 14, .conv .i64, [.t 13], none⟩,
        ⟨some 15, .call f_internal_strconv_small, [.t 14], none⟩,
        ⟨some 4, .mv, [.tk 15], none⟩])
      .ret)
      .skip))
    (.seq (.ops [⟨some 5, .hnew [(.int .u8 0), (.int .u8 0), (.int .u8 0), (.int .u8 0), (.int .u8 0), (.int .u8 0), (.int .u8 0), (.int .u8 0), (.int .u8 0), (.int .u8 0), (.int .u8 0), (.int .u8 0), (.int .u8 0), (.int .u8 0), (.int .u8 0), (.int .u8 0), (.int .u8 0), (.int .u8 0), (.int .u8 0), (.int .u8 0), (.int .u8 0), (.int .u8 0), (.int .u8 0), (.int .u8 0)], [], none⟩])
    (.seq (.ops [⟨some 16, .mv, [.t 0], none⟩,
      ⟨some 17, .call f_internal_strconv_numDigits, [.t 16], none⟩,
      ⟨some 6, .mv, [.tk 17], none⟩])
    (.seq (.ops [⟨some 18, .mv, [.t 6], none⟩,
      ⟨some 19, .bad, [], none⟩,
      ⟨some 20, .mv, [.t 0], none⟩,
      ⟨some 21, .call f_internal_strconv_formatBase10, [.t 19, .t 20], none⟩])
    (.seq (.ops [⟨some 22, .mv, [.t 6], none⟩,
      ⟨some 23, .bad, [], none⟩,
      ⟨some 24, .b2s, [.t 23], none⟩,
      ⟨some 4, .mv, [.tk 24], none⟩])
    .ret)))))
    .skip))
  (.seq (.ops [⟨some 26, .mv, [.t 0], none⟩,
    ⟨some 27, .mv, [.t 1], none⟩,
    ⟨some 28, .call f_internal_strconv_formatBits, [.c (.sl true 1 []), .t 26, .t 27, .c (.bool false), .c (.bool false)], none⟩,
    ⟨some 25, .mv, [.tk 28], none⟩,
    ⟨some 29, .ext 0, [.tk 25], none⟩,
    ⟨some 30, .ext 1, [.t 25], none⟩,
    ⟨some 7, .mv, [.tk 29], none⟩,
    ⟨some 8, .mv, [.tk 30], none⟩])
  (.seq (.ops [⟨some 31, .mv, [.tk 8], none⟩,
    ⟨some 4, .mv, [.tk 31], none⟩])
  .ret))))⟩
/-- internal/strconv.Itoa -/
def a_internal_strconv_Itoa : AFunc := ⟨1, [.t 2],
  (.seq (.ops [⟨some 2, .mv, [.c (.str [])], none⟩])
  (.seq (.ops [⟨some 3, .mv, [.tk 0], none⟩,
    ⟨some 4, .call f_internal_strconv_FormatInt, [.t 3, .c (.int .i64 10)], none⟩,
    ⟨some 2, .mv, [.tk 4], none⟩])
  .ret))⟩
/-- countwheel/fault.Name -/
def a_fault_Name : AFunc := ⟨1, [.t 2],
  (.seq (.ops [⟨some 2, .mv, [.c (.str [])], none⟩])
  (.seq (.ops [⟨some 4, .call f_fault_names, [], none⟩,
    ⟨some 3, .mv, [.tk 4], none⟩])
  (.seq (.seq (.ops [⟨some 5, .mv, [.t 0], none⟩,
    ⟨some 6, .bin .leq, [.t 5, .c (.int .i64 0)], none⟩,
    ⟨some 7, .mv, [.tk 6], none⟩,
    ⟨some 8, .mv, [.t 0], some (7, false)⟩,
    ⟨some 9, .mv, [.t 3], some (7, false)⟩,
    ⟨some 10, .lenL, [.t 9], some (7, false)⟩,
    ⟨some 11, .bin .geq, [.t 8, .t 10], some (7, false)⟩,
    ⟨some 12, .pick, [.t 7, .c (.bool true), .t 11], none⟩])
  (.cond (.t 12)
    (.seq (.ops [⟨some 2, .mv, [.c (.str [])], none⟩])
    .ret)
    .skip))
  (.seq (.ops [⟨some 13, .mv, [.t 3], none⟩,
    ⟨some 14, .mv, [.t 0], none⟩,
    ⟨some 15, .ixA 1, [.t 13, .t 14], none⟩,
    ⟨some 16, .ldI 1 false, [.t 15], none⟩,
    ⟨some 2, .mv, [.tk 16], none⟩])
  .ret))))⟩
/-- internal/strconv.small -/
def a_internal_strconv_small : AFunc := ⟨1, [.t 2],
  (.seq (.ops [⟨some 2, .mv, [.c (.str [])], none⟩])
  (.seq (.seq (.ops [⟨some 3, .mv, [.t 0], none⟩,
    ⟨some 4, .bin .lss, [.t 3, .c (.int .i64 10)], none⟩])
  (.cond (.t 4)
    (.seq (.ops [⟨some 5, .mv, [.t 0], none⟩,
      ⟨some 6, .mv, [.t 0], none⟩,
      ⟨some 7, .bin .add, [.t 6, .c (.int .i64 1)], none⟩,
      ⟨some 8, .slS true true, [.c (.str [48, 49, 50, 51, 52, 53, 54, 55, 56, 57, 97, 98, 99, 100, 101, 102, 103, 104, 105, 106, 107, 108, 109, 110, 111, 112, 113, 114, 115, 116, 117, 118, 119, 120, 121, 122]), .t 5, .t 7], none⟩,
      ⟨some 2, .mv, [.tk 8], none⟩])
    .ret)
    .skip))
  (.seq (.ops [⟨some 9, .mv, [.t 0], none⟩,
    ⟨some 10, .bin .mul, [.t 9, .c (.int .i64 2)], none⟩,
    ⟨some 11, .mv, [.t 0], none⟩,
    ⟨some 12, .bin .mul, [.t 11, .c (.int .i64 2)], none⟩,
    ⟨some 13, .bin .add, [.t 12, .c (.int .i64 2)], none⟩,
    ⟨some 14, .slS true true, [.c (.str [48, 48, 48, 49, 48, 50, 48, 51, 48, 52, 48, 53, 48, 54, 48, 55, 48, 56, 48, 57, 49, 48, 49, 49, 49, 50, 49, 51, 49, 52, 49, 53, 49, 54, 49, 55, 49, 56, 49, 57, 50, 48, 50, 49, 50, 50, 50, 51, 50, 52, 50, 53, 50, 54, 50, 55, 50, 56, 50, 57, 51, 48, 51, 49, 51, 50, 51, 51, 51, 52, 51, 53, 51, 54, 51, 55, 51, 56, 51, 57, 52, 48, 52, 49, 52, 50, 52, 51, 52, 52, 52, 53, 52, 54, 52, 55, 52, 56, 52, 57, 53, 48, 53, 49, 53, 50, 53, 51, 53, 52, 53, 53, 53, 54, 53, 55, 53, 56, 53, 57, 54, 48, 54, 49, 54, 50, 54, 51, 54, 52, 54, 53, 54, 54, 54, 55, 54, 56, 54, 57, 55, 48, 55, 49, 55, 50, 55, 51, 55, 52, 55, 53, 55, 54, 55, 55, 55, 56, 55, 57, 56, 48, 56, 49, 56, 50, 56, 51, 56, 52, 56, 53, 56, 54, 56, 55, 56, 56, 56, 57, 57, 48, 57, 49, 57, 50, 57, 51, 57, 52, 57, 53, 57, 54, 57, 55, 57, 56, 57, 57]), .t 10, .t 13], none⟩,
    ⟨some 2, .mv, [.tk 14], none⟩])
  .ret)))⟩
def b0_internal_strconv_formatBase10 : ACode :=
  (.seq (.seq (.ops [⟨some 19, .mv, [.t 4], none⟩,
    ⟨some 20, .bin .geq, [.t 19, .c (.int .i64 8)], none⟩])
  (.cond (.t 20)
    .skip
    (.exit 0)))
  (.block 1 (.seq (.ops [⟨some 21, .mv, [.t 1], none⟩,
      ⟨some 22, .bin .rem, [.t 21, .c (.int .u64 100000000)], none⟩,
      ⟨some 23, .conv .u32, [.t 22], none⟩,
      ⟨some 5, .mv, [.tk 23], none⟩])
    (.seq (.ops [⟨some 24, .mv, [.t 1], none⟩,
      ⟨some 25, .bin .quo, [.t 24, .c (.int .u64 100000000)], none⟩,
      ⟨some 1, .mv, [.tk 25], none⟩])
    (.seq (.ops [⟨some 26, .mv, [.t 5], none⟩,
      ⟨some 27, .bin .quo, [.t 26, .c (.int .u32 10000)], none⟩,
      ⟨some 28, .mv, [.t 5], none⟩,
      ⟨some 29, .bin .rem, [.t 28, .c (.int .u32 10000)], none⟩,
      ⟨some 6, .mv, [.tk 27], none⟩,
      ⟨some 7, .mv, [.tk 29], none⟩])
    (.seq (.ops [⟨some 30, .mv, [.t 7], none⟩,
      ⟨some 31, .bin .quo, [.t 30, .c (.int .u32 100)], none⟩,
      ⟨some 32, .bin .mul, [.t 31, .c (.int .u32 2)], none⟩,
      ⟨some 33, .mv, [.t 7], none⟩,
      ⟨some 34, .bin .rem, [.t 33, .c (.int .u32 100)], none⟩,
      ⟨some 35, .bin .mul, [.t 34, .c (.int .u32 2)], none⟩,
      ⟨some 8, .mv, [.tk 32], none⟩,
      ⟨some 9, .mv, [.tk 35], none⟩])
    (.seq (.ops [⟨some 36, .mv, [.t 6], none⟩,
      ⟨some 37, .bin .quo, [.t 36, .c (.int .u32 100)], none⟩,
      ⟨some 38, .bin .mul, [.t 37, .c (.int .u32 2)], none⟩,
      ⟨some 39, .mv, [.t 6], none⟩,
      ⟨some 40, .bin .rem, [.t 39, .c (.int .u32 100)], none⟩,
      ⟨some 41, .bin .mul, [.t 40, .c (.int .u32 2)], none⟩,
      ⟨some 10, .mv, [.tk 38], none⟩,
      ⟨some 11, .mv, [.tk 41], none⟩])
    (.seq (.ops [⟨some 42, .mv, [.t 0], none⟩,
      ⟨some 43, .mv, [.t 4], none⟩,
      ⟨some 44, .bin .sub, [.t 43, .c (.int .i64 1)], none⟩,
      ⟨some 45, .mv, [.t 0], none⟩,
      ⟨some 46, .mv, [.t 4], none⟩,
      ⟨some 47, .bin .sub, [.t 46, .c (.int .i64 2)], none⟩,
      ⟨some 48, .mv, [.t 9], none⟩,
      ⟨some 49, .bin .add, [.t 48, .c (.int .u32 1)], none⟩,
      ⟨some 50, .ixS, [.c (.str [48, 48, 48, 49, 48, 50, 48, 51, 48, 52, 48, 53, 48, 54, 48, 55, 48, 56, 48, 57, 49, 48, 49, 49, 49, 50, 49, 51, 49, 52, 49, 53, 49, 54, 49, 55, 49, 56, 49, 57, 50, 48, 50, 49, 50, 50, 50, 51, 50, 52, 50, 53, 50, 54, 50, 55, 50, 56, 50, 57, 51, 48, 51, 49, 51, 50, 51, 51, 51, 52, 51, 53, 51, 54, 51, 55, 51, 56, 51, 57, 52, 48, 52, 49, 52, 50, 52, 51, 52, 52, 52, 53, 52, 54, 52, 55, 52, 56, 52, 57, 53, 48, 53, 49, 53, 50, 53, 51, 53, 52, 53, 53, 53, 54, 53, 55, 53, 56, 53, 57, 54, 48, 54, 49, 54, 50, 54, 51, 54, 52, 54, 53, 54, 54, 54, 55, 54, 56, 54, 57, 55, 48, 55, 49, 55, 50, 55, 51, 55, 52, 55, 53, 55, 54, 55, 55, 55, 56, 55, 57, 56, 48, 56, 49, 56, 50, 56, 51, 56, 52, 56, 53, 56, 54, 56, 55, 56, 56, 56, 57, 57, 48, 57, 49, 57, 50, 57, 51, 57, 52, 57, 53, 57, 54, 57, 55, 57, 56, 57, 57]), .t 49], none⟩,
      ⟨some 51, .mv, [.t 9], none⟩,
      ⟨some 52, .ixS, [.c (.str [48, 48, 48, 49, 48, 50, 48, 51, 48, 52, 48, 53, 48, 54, 48, 55, 48, 56, 48, 57, 49, 48, 49, 49, 49, 50, 49, 51, 49, 52, 49, 53, 49, 54, 49, 55, 49, 56, 49, 57, 50, 48, 50, 49, 50, 50, 50, 51, 50, 52, 50, 53, 50, 54, 50, 55, 50, 56, 50, 57, 51, 48, 51, 49, 51, 50, 51, 51, 51, 52, 51, 53, 51, 54, 51, 55, 51, 56, 51, 57, 52, 48, 52, 49, 52, 50, 52, 51, 52, 52, 52, 53, 52, 54, 52, 55, 52, 56, 52, 57, 53, 48, 53, 49, 53, 50, 53, 51, 53, 52, 53, 53, 53, 54, 53, 55, 53, 56, 53, 57, 54, 48, 54, 49, 54, 50, 54, 51, 54, 52, 54, 53, 54, 54, 54, 55, 54, 56, 54, 57, 55, 48, 55, 49, 55, 50, 55, 51, 55, 52, 55, 53, 55, 54, 55, 55, 55, 56, 55, 57, 56, 48, 56, 49, 56, 50, 56, 51, 56, 52, 56, 53, 56, 54, 56, 55, 56, 56, 56, 57, 57, 48, 57, 49, 57, 50, 57, 51, 57, 52, 57, 53, 57, 54, 57, 55, 57, 56, 57, 57]), .t 51], none⟩,
      ⟨some 53, .ixA 1, [.t 42, .t 44], none⟩,
      ⟨none, .hst 1, [.t 53, .t 50], none⟩,
      ⟨some 54, .ixA 1, [.t 45, .t 47], none⟩,
      ⟨none, .hst 1, [.t 54, .t 52], none⟩])
    (.seq (.ops [⟨some 55, .mv, [.t 0], none⟩,
      ⟨some 56, .mv, [.t 4], none⟩,
      ⟨some 57, .bin .sub, [.t 56, .c (.int .i64 3)], none⟩,
      ⟨some 58, .mv, [.t 0], none⟩,
      ⟨some 59, .mv, [.t 4], none⟩,
      ⟨some 60, .bin .sub, [.t 59, .c (.int .i64 4)], none⟩,
      ⟨some 61, .mv, [.t 8], none⟩,
      ⟨some 62, .bin .add, [.t 61, .c (.int .u32 1)], none⟩,
      ⟨some 63, .ixS, [.c (.str [48, 48, 48, 49, 48, 50, 48, 51, 48, 52, 48, 53, 48, 54, 48, 55, 48, 56, 48, 57, 49, 48, 49, 49, 49, 50, 49, 51, 49, 52, 49, 53, 49, 54, 49, 55, 49, 56, 49, 57, 50, 48, 50, 49, 50, 50, 50, 51, 50, 52, 50, 53, 50, 54, 50, 55, 50, 56, 50, 57, 51, 48, 51, 49, 51, 50, 51, 51, 51, 52, 51, 53, 51, 54, 51, 55, 51, 56, 51, 57, 52, 48, 52, 49, 52, 50, 52, 51, 52, 52, 52, 53, 52, 54, 52, 55, 52, 56, 52, 57, 53, 48, 53, 49, 53, 50, 53, 51, 53, 52, 53, 53, 53, 54, 53, 55, 53, 56, 53, 57, 54, 48, 54, 49, 54, 50, 54, 51, 54, 52, 54, 53, 54, 54, 54, 55, 54, 56, 54, 57, 55, 48, 55, 49, 55, 50, 55, 51, 55, 52, 55, 53, 55, 54, 55, 55, 55, 56, 55, 57, 56, 48, 56, 49, 56, 50, 56, 51, 56, 52, 56, 53, 56, 54, 56, 55, 56, 56, 56, 57, 57, 48, 57, 49, 57, 50, 57, 51, 57, 52, 57, 53, 57, 54, 57, 55, 57, 56, 57, 57]), .t 62], none⟩,
      ⟨some 64, .mv, [.t 8], none⟩,
      ⟨some 65, .ixS, [.c (.str [48, 48, 48, 49, 48, 50, 48, 51, 48, 52, 48, 53, 48, 54, 48, 55, 48, 56, 48, 57, 49, 48, 49, 49, 49, 50, 49, 51, 49, 52, 49, 53, 49, 54, 49, 55, 49, 56, 49, 57, 50, 48, 50, 49, 50, 50, 50, 51, 50, 52, 50, 53, 50, 54, 50, 55, 50, 56, 50, 57, 51, 48, 51, 49, 51, 50, 51, 51, 51, 52, 51, 53, 51, 54, 51, 55, 51, 56, 51, 57, 52, 48, 52, 49, 52, 50, 52, 51, 52, 52, 52, 53, 52, 54, 52, 55, 52, 56, 52, 57, 53, 48, 53, 49, 53, 50, 53, 51, 53, 52, 53, 53, 53, 54, 53, 55, 53, 56, 53, 57, 54, 48, 54, 49, 54, 50, 54, 51, 54, 52, 54, 53, 54, 54, 54, 55, 54, 56, 54, 57, 55, 48, 55, 49, 55, 50, 55, 51, 55, 52, 55, 53, 55, 54, 55, 55, 55, 56, 55, 57, 56, 48, 56, 49, 56, 50, 56, 51, 56, 52, 56, 53, 56, 54, 56, 55, 56, 56, 56, 57, 57, 48, 57, 49, 57, 50, 57, 51, 57, 52, 57, 53, 57, 54, 57, 55, 57, 56, 57, 57]), .t 64], none⟩,
      ⟨some 66, .ixA 1, [.t 55, .t 57], none⟩,
      ⟨none, .hst 1, [.t 66, .t 63], none⟩,
      ⟨some 67, .ixA 1, [.t 58, .t 60], none⟩,
      ⟨none, .hst 1, [.t 67, .t 65], none⟩])
    (.seq (.ops [⟨some 68, .mv, [.t 0], none⟩,
      ⟨some 69, .mv, [.t 4], none⟩,
      ⟨some 70, .bin .sub, [.t 69, .c (.int .i64 5)], none⟩,
      ⟨some 71, .mv, [.t 0], none⟩,
      ⟨some 72, .mv, [.t 4], none⟩,
      ⟨some 73, .bin .sub, [.t 72, .c (.int .i64 6)], none⟩,
      ⟨some 74, .mv, [.t 11], none⟩,
      ⟨some 75, .bin .add, [.t 74, .c (.int .u32 1)], none⟩,
      ⟨some 76, .ixS, [.c (.str [48, 48, 48, 49, 48, 50, 48, 51, 48, 52, 48, 53, 48, 54, 48, 55, 48, 56, 48, 57, 49, 48, 49, 49, 49, 50, 49, 51, 49, 52, 49, 53, 49, 54, 49, 55, 49, 56, 49, 57, 50, 48, 50, 49, 50, 50, 50, 51, 50, 52, 50, 53, 50, 54, 50, 55, 50, 56, 50, 57, 51, 48, 51, 49, 51, 50, 51, 51, 51, 52, 51, 53, 51, 54, 51, 55, 51, 56, 51, 57, 52, 48, 52, 49, 52, 50, 52, 51, 52, 52, 52, 53, 52, 54, 52, 55, 52, 56, 52, 57, 53, 48, 53, 49, 53, 50, 53, 51, 53, 52, 53, 53, 53, 54, 53, 55, 53, 56, 53, 57, 54, 48, 54, 49, 54, 50, 54, 51, 54, 52, 54, 53, 54, 54, 54, 55, 54, 56, 54, 57, 55, 48, 55, 49, 55, 50, 55, 51, 55, 52, 55, 53, 55, 54, 55, 55, 55, 56, 55, 57, 56, 48, 56, 49, 56, 50, 56, 51, 56, 52, 56, 53, 56, 54, 56, 55, 56, 56, 56, 57, 57, 48, 57, 49, 57, 50, 57, 51, 57, 52, 57, 53, 57, 54, 57, 55, 57, 56, 57, 57]), .t 75], none⟩,
      ⟨some 77, .mv, [.t 11], none⟩,
      ⟨some 78, .ixS, [.c (.str [48, 48, 48, 49, 48, 50, 48, 51, 48, 52, 48, 53, 48, 54, 48, 55, 48, 56, 48, 57, 49, 48, 49, 49, 49, 50, 49, 51, 49, 52, 49, 53, 49, 54, 49, 55, 49, 56, 49, 57, 50, 48, 50, 49, 50, 50, 50, 51, 50, 52, 50, 53, 50, 54, 50, 55, 50, 56, 50, 57, 51, 48, 51, 49, 51, 50, 51, 51, 51, 52, 51, 53, 51, 54, 51, 55, 51, 56, 51, 57, 52, 48, 52, 49, 52, 50, 52, 51, 52, 52, 52, 53, 52, 54, 52, 55, 52, 56, 52, 57, 53, 48, 53, 49, 53, 50, 53, 51, 53, 52, 53, 53, 53, 54, 53, 55, 53, 56, 53, 57, 54, 48, 54, 49, 54, 50, 54, 51, 54, 52, 54, 53, 54, 54, 54, 55, 54, 56, 54, 57, 55, 48, 55, 49, 55, 50, 55, 51, 55, 52, 55, 53, 55, 54, 55, 55, 55, 56, 55, 57, 56, 48, 56, 49, 56, 50, 56, 51, 56, 52, 56, 53, 56, 54, 56, 55, 56, 56, 56, 57, 57, 48, 57, 49, 57, 50, 57, 51, 57, 52, 57, 53, 57, 54, 57, 55, 57, 56, 57, 57]), .t 77], none⟩,
      ⟨some 79, .ixA 1, [.t 68, .t 70], none⟩,
      ⟨none, .hst 1, [.t 79, .t 76], none⟩,
      ⟨some 80, .ixA 1, [.t 71, .t 73], none⟩,
      ⟨none, .hst 1, [.t 80, .t 78], none⟩])
    (.seq (.ops [⟨some 81, .mv, [.t 0], none⟩,
      ⟨some 82, .mv, [.t 4], none⟩,
      ⟨some 83, .bin .sub, [.t 82, .c (.int .i64 7)], none⟩,
      ⟨some 84, .mv, [.t 0], none⟩,
      ⟨some 85, .mv, [.t 4], none⟩,
      ⟨some 86, .bin .sub, [.t 85, .c (.int .i64 8)], none⟩,
      ⟨some 87, .mv, [.t 10], none⟩,
      ⟨some 88, .bin .add, [.t 87, .c (.int .u32 1)], none⟩,
      ⟨some 89, .ixS, [.c (.str [48, 48, 48, 49, 48, 50, 48, 51, 48, 52, 48, 53, 48, 54, 48, 55, 48, 56, 48, 57, 49, 48, 49, 49, 49, 50, 49, 51, 49, 52, 49, 53, 49, 54, 49, 55, 49, 56, 49, 57, 50, 48, 50, 49, 50, 50, 50, 51, 50, 52, 50, 53, 50, 54, 50, 55, 50, 56, 50, 57, 51, 48, 51, 49, 51, 50, 51, 51, 51, 52, 51, 53, 51, 54, 51, 55, 51, 56, 51, 57, 52, 48, 52, 49, 52, 50, 52, 51, 52, 52, 52, 53, 52, 54, 52, 55, 52, 56, 52, 57, 53, 48, 53, 49, 53, 50, 53, 51, 53, 52, 53, 53, 53, 54, 53, 55, 53, 56, 53, 57, 54, 48, 54, 49, 54, 50, 54, 51, 54, 52, 54, 53, 54, 54, 54, 55, 54, 56, 54, 57, 55, 48, 55, 49, 55, 50, 55, 51, 55, 52, 55, 53, 55, 54, 55, 55, 55, 56, 55, 57, 56, 48, 56, 49, 56, 50, 56, 51, 56, 52, 56, 53, 56, 54, 56, 55, 56, 56, 56, 57, 57, 48, 57, 49, 57, 50, 57, 51, 57, 52, 57, 53, 57, 54, 57, 55, 57, 56, 57, 57]), .t 88], none⟩,
      ⟨some 90, .mv, [.t 10], none⟩,
      ⟨some 91, .ixS, [.c (.str [48, 48, 48, 49, 48, 50, 48, 51, 48, 52, 48, 53, 48, 54, 48, 55, 48, 56, 48, 57, 49, 48, 49, 49, 49, 50, 49, 51, 49, 52, 49, 53, 49, 54, 49, 55, 49, 56, 49, 57, 50, 48, 50, 49, 50, 50, 50, 51, 50, 52, 50, 53, 50, 54, 50, 55, 50, 56, 50, 57, 51, 48, 51, 49, 51, 50, 51, 51, 51, 52, 51, 53, 51, 54, 51, 55, 51, 56, 51, 57, 52, 48, 52, 49, 52, 50, 52, 51, 52, 52, 52, 53, 52, 54, 52, 55, 52, 56, 52, 57, 53, 48, 53, 49, 53, 50, 53, 51, 53, 52, 53, 53, 53, 54, 53, 55, 53, 56, 53, 57, 54, 48, 54, 49, 54, 50, 54, 51, 54, 52, 54, 53, 54, 54, 54, 55, 54, 56, 54, 57, 55, 48, 55, 49, 55, 50, 55, 51, 55, 52, 55, 53, 55, 54, 55, 55, 55, 56, 55, 57, 56, 48, 56, 49, 56, 50, 56, 51, 56, 52, 56, 53, 56, 54, 56, 55, 56, 56, 56, 57, 57, 48, 57, 49, 57, 50, 57, 51, 57, 52, 57, 53, 57, 54, 57, 55, 57, 56, 57, 57]), .t 90], none⟩,
      ⟨some 92, .ixA 1, [.t 81, .t 83], none⟩,
      ⟨none, .hst 1, [.t 92, .t 89], none⟩,
      ⟨some 93, .ixA 1, [.t 84, .t 86], none⟩,
      ⟨none, .hst 1, [.t 93, .t 91], none⟩])
    (.ops [⟨some 94, .mv, [.t 4], none⟩,
      ⟨some 95, .bin .sub, [.t 94, .c (.int .i64 8)], none⟩,
      ⟨some 4, .mv, [.tk 95], none⟩]))))))))))))
/-- internal/strconv.formatBase10 -/
def a_internal_strconv_formatBase10 : AFunc := ⟨2, [],
  (.seq (.ops [⟨some 17, .mv, [.t 0], none⟩,
    ⟨some 18, .lenL, [.t 17], none⟩,
    ⟨some 4, .mv, [.tk 18], none⟩])
  (.seq (.block 0 (.loop b0_internal_strconv_formatBase10))
  (.seq (.ops [⟨some 96, .mv, [.t 1], none⟩,
    ⟨some 97, .conv .u32, [.t 96], none⟩,
    ⟨some 12, .mv, [.tk 97], none⟩])
  (.seq (.seq (.ops [⟨some 98, .mv, [.t 4], none⟩,
    ⟨some 99, .bin .geq, [.t 98, .c (.int .i64 4)], none⟩])
  (.cond (.t 99)
    (.seq (.ops [⟨some 100, .mv, [.t 12], none⟩,
      ⟨some 101, .bin .rem, [.t 100, .c (.int .u32 10000)], none⟩,
      ⟨some 13, .mv, [.tk 101], none⟩])
    (.seq (.ops [⟨some 102, .mv, [.t 12], none⟩,
      ⟨some 103, .bin .quo, [.t 102, .c (.int .u32 10000)], none⟩,
      ⟨some 12, .mv, [.tk 103], none⟩])
    (.seq (.ops [⟨some 104, .mv, [.t 13], none⟩,
      ⟨some 105, .bin .quo, [.t 104, .c (.int .u32 100)], none⟩,
      ⟨some 106, .bin .mul, [.t 105, .c (.int .u32 2)], none⟩,
      ⟨some 107, .mv, [.t 13], none⟩,
      ⟨some 108, .bin .rem, [.t 107, .c (.int .u32 100)], none⟩,
      ⟨some 109, .bin .mul, [.t 108, .c (.int .u32 2)], none⟩,
      ⟨some 14, .mv, [.tk 106], none⟩,
      ⟨some 15, .mv, [.tk 109], none⟩])
    (.seq (.ops [⟨some 110, .mv, [.t 0], none⟩,
      ⟨some 111, .mv, [.t 4], none⟩,
      ⟨some 112, .bin .sub, [.t 111, .c (.int .i64 1)], none⟩,
      ⟨some 113, .mv, [.t 0], none⟩,
      ⟨some 114, .mv, [.t 4], none⟩,
      ⟨some 115, .bin .sub, [.t 114, .c (.int .i64 2)], none⟩,
      ⟨some 116, .mv, [.t 15], none⟩,
      ⟨some 117, .bin .add, [.t 116, .c (.int .u32 1)], none⟩,
      ⟨some 118, .ixS, [.c (.str [48, 48, 48, 49, 48, 50, 48, 51, 48, 52, 48, 53, 48, 54, 48, 55, 48, 56, 48, 57, 49, 48, 49, 49, 49, 50, 49, 51, 49, 52, 49, 53, 49, 54, 49, 55, 49, 56, 49, 57, 50, 48, 50, 49, 50, 50, 50, 51, 50, 52, 50, 53, 50, 54, 50, 55, 50, 56, 50, 57, 51, 48, 51, 49, 51, 50, 51, 51, 51, 52, 51, 53, 51, 54, 51, 55, 51, 56, 51, 57, 52, 48, 52, 49, 52, 50, 52, 51, 52, 52, 52, 53, 52, 54, 52, 55, 52, 56, 52, 57, 53, 48, 53, 49, 53, 50, 53, 51, 53, 52, 53, 53, 53, 54, 53, 55, 53, 56, 53, 57, 54, 48, 54, 49, 54, 50, 54, 51, 54, 52, 54, 53, 54, 54, 54, 55, 54, 56, 54, 57, 55, 48, 55, 49, 55, 50, 55, 51, 55, 52, 55, 53, 55, 54, 55, 55, 55, 56, 55, 57, 56, 48, 56, 49, 56, 50, 56, 51, 56, 52, 56, 53, 56, 54, 56, 55, 56, 56, 56, 57, 57, 48, 57, 49, 57, 50, 57, 51, 57, 52, 57, 53, 57, 54, 57, 55, 57, 56, 57, 57]), .t 117], none⟩,
      ⟨some 119, .mv, [.t 15], none⟩,
      ⟨some 120, .ixS, [.c (.str [48, 48, 48, 49, 48, 50, 48, 51, 48, 52, 48, 53, 48, 54, 48, 55, 48, 56, 48, 57, 49, 48, 49, 49, 49, 50, 49, 51, 49, 52, 49, 53, 49, 54, 49, 55, 49, 56, 49, 57, 50, 48, 50, 49, 50, 50, 50, 51, 50, 52, 50, 53, 50, 54, 50, 55, 50, 56, 50, 57, 51, 48, 51, 49, 51, 50, 51, 51, 51, 52, 51, 53, 51, 54, 51, 55, 51, 56, 51, 57, 52, 48, 52, 49, 52, 50, 52, 51, 52, 52, 52, 53, 52, 54, 52, 55, 52, 56, 52, 57, 53, 48, 53, 49, 53, 50, 53, 51, 53, 52, 53, 53, 53, 54, 53, 55, 53, 56, 53, 57, 54, 48, 54, 49, 54, 50, 54, 51, 54, 52, 54, 53, 54, 54, 54, 55, 54, 56, 54, 57, 55, 48, 55, 49, 55, 50, 55, 51, 55, 52, 55, 53, 55, 54, 55, 55, 55, 56, 55, 57, 56, 48, 56, 49, 56, 50, 56, 51, 56, 52, 56, 53, 56, 54, 56, 55, 56, 56, 56, 57, 57, 48, 57, 49, 57, 50, 57, 51, 57, 52, 57, 53, 57, 54, 57, 55, 57, 56, 57, 57]), .t 119], none⟩,
      ⟨some 121, .ixA 1, [.t 110, .t 112], none⟩,
      ⟨none, .hst 1, [.t 121, .t 118], none⟩,
      ⟨some 122, .ixA 1, [.t 113, .t 115], none⟩,
      ⟨none, .hst 1, [.t 122, .t 120], none⟩])
    (.seq (.ops [⟨some 123, .mv, [.t 0], none⟩,
      ⟨some 124, .mv, [.t 4], none⟩,
      ⟨some 125, .bin .sub, [.t 124, .c (.int .i64 3)], none⟩,
      ⟨some 126, .mv, [.t 0], none⟩,
      ⟨some 127, .mv, [.t 4], none⟩,
      ⟨some 128, .bin .sub, [.t 127, .c (.int .i64 4)], none⟩,
      ⟨some 129, .mv, [.t 14], none⟩,
      ⟨some 130, .bin .add, [.t 129, .c (.int .u32 1)], none⟩,
      ⟨some 131, .ixS, [.c (.str [48, 48, 48, 49, 48, 50, 48, 51, 48, 52, 48, 53, 48, 54, 48, 55, 48, 56, 48, 57, 49, 48, 49, 49, 49, 50, 49, 51, 49, 52, 49, 53, 49, 54, 49, 55, 49, 56, 49, 57, 50, 48, 50, 49, 50, 50, 50, 51, 50, 52, 50, 53, 50, 54, 50, 55, 50, 56, 50, 57, 51, 48, 51, 49, 51, 50, 51, 51, 51, 52, 51, 53, 51, 54, 51, 55, 51, 56, 51, 57, 52, 48, 52, 49, 52, 50, 52, 51, 52, 52, 52, 53, 52, 54, 52, 55, 52, 56, 52, 57, 53, 48, 53, 49, 53, 50, 53, 51, 53, 52, 53, 53, 53, 54, 53, 55, 53, 56, 53, 57, 54, 48, 54, 49, 54, 50, 54, 51, 54, 52, 54, 53, 54, 54, 54, 55, 54, 56, 54, 57, 55, 48, 55, 49, 55, 50, 55, 51, 55, 52, 55, 53, 55, 54, 55, 55, 55, 56, 55, 57, 56, 48, 56, 49, 56, 50, 56, 51, 56, 52, 56, 53, 56, 54, 56, 55, 56, 56, 56, 57, 57, 48, 57, 49, 57, 50, 57, 51, 57, 52, 57, 53, 57, 54, 57, 55, 57, 56, 57, 57]), .t 130], none⟩,
      ⟨some 132, .mv, [.t 14], none⟩,
      ⟨some 133, .ixS, [.c (.str [48, 48, 48, 49, 48, 50, 48, 51, 48, 52, 48, 53, 48, 54, 48, 55, 48, 56, 48, 57, 49, 48, 49, 49, 49, 50, 49, 51, 49, 52, 49, 53, 49, 54, 49, 55, 49, 56, 49, 57, 50, 48, 50, 49, 50, 50, 50, 51, 50, 52, 50, 53, 50, 54, 50, 55, 50, 56, 50, 57, 51, 48, 51, 49, 51, 50, 51, 51, 51, 52, 51, 53, 51, 54, 51, 55, 51, 56, 51, 57, 52, 48, 52, 49, 52, 50, 52, 51, 52, 52, 52, 53, 52, 54, 52, 55, 52, 56, 52, 57, 53, 48, 53, 49, 53, 50, 53, 51, 53, 52, 53, 53, 53, 54, 53, 55, 53, 56, 53, 57, 54, 48, 54, 49, 54, 50, 54, 51, 54, 52, 54, 53, 54, 54, 54, 55, 54, 56, 54, 57, 55, 48, 55, 49, 55, 50, 55, 51, 55, 52, 55, 53, 55, 54, 55, 55, 55, 56, 55, 57, 56, 48, 56, 49, 56, 50, 56, 51, 56, 52, 56, 53, 56, 54, 56, 55, 56, 56, 56, 57, 57, 48, 57, 49, 57, 50, 57, 51, 57, 52, 57, 53, 57, 54, 57, 55, 57, 56, 57, 57]), .t 132], none⟩,
      ⟨some 134, .ixA 1, [.t 123, .t 125], none⟩,
      ⟨none, .hst 1, [.t 134, .t 131], none⟩,
      ⟨some 135, .ixA 1, [.t 126, .t 128], none⟩,
      ⟨none, .hst 1, [.t 135, .t 133], none⟩])
    (.ops [⟨some 136, .mv, [.t 4], none⟩,
      ⟨some 137, .bin .sub, [.t 136, .c (.int .i64 4)], none⟩,
      ⟨some 4, .mv, [.tk 137], none⟩]))))))
    .skip))
  (.seq (.seq (.ops [⟨some 138, .mv, [.t 4], none⟩,
    ⟨some 139, .bin .geq, [.t 138, .c (.int .i64 2)], none⟩])
  (.cond (.t 139)
    (.seq (.ops [⟨some 140, .mv, [.t 12], none⟩,
      ⟨some 141, .bin .rem, [.t 140, .c (.int .u32 100)], none⟩,
      ⟨some 142, .bin .mul, [.t 141, .c (.int .u32 2)], none⟩,
      ⟨some 16, .mv, [.tk 142], none⟩])
    (.seq (.ops [⟨some 143, .mv, [.t 12], none⟩,
      ⟨some 144, .bin .quo, [.t 143, .c (.int .u32 100)], none⟩,
      ⟨some 12, .mv, [.tk 144], none⟩])
    (.seq (.ops [⟨some 145, .mv, [.t 0], none⟩,
      ⟨some 146, .mv, [.t 4], none⟩,
      ⟨some 147, .bin .sub, [.t 146, .c (.int .i64 1)], none⟩,
      ⟨some 148, .mv, [.t 0], none⟩,
      ⟨some 149, .mv, [.t 4], none⟩,
      ⟨some 150, .bin .sub, [.t 149, .c (.int .i64 2)], none⟩,
      ⟨some 151, .mv, [.t 16], none⟩,
      ⟨some 152, .bin .add, [.t 151, .c (.int .u32 1)], none⟩,
      ⟨some 153, .ixS, [.c (.str [48, 48, 48, 49, 48, 50, 48, 51, 48, 52, 48, 53, 48, 54, 48, 55, 48, 56, 48, 57, 49, 48, 49, 49, 49, 50, 49, 51, 49, 52, 49, 53, 49, 54, 49, 55, 49, 56, 49, 57, 50, 48, 50, 49, 50, 50, 50, 51, 50, 52, 50, 53, 50, 54, 50, 55, 50, 56, 50, 57, 51, 48, 51, 49, 51, 50, 51, 51, 51, 52, 51, 53, 51, 54, 51, 55, 51, 56, 51, 57, 52, 48, 52, 49, 52, 50, 52, 51, 52, 52, 52, 53, 52, 54, 52, 55, 52, 56, 52, 57, 53, 48, 53, 49, 53, 50, 53, 51, 53, 52, 53, 53, 53, 54, 53, 55, 53, 56, 53, 57, 54, 48, 54, 49, 54, 50, 54, 51, 54, 52, 54, 53, 54, 54, 54, 55, 54, 56, 54, 57, 55, 48, 55, 49, 55, 50, 55, 51, 55, 52, 55, 53, 55, 54, 55, 55, 55, 56, 55, 57, 56, 48, 56, 49, 56, 50, 56, 51, 56, 52, 56, 53, 56, 54, 56, 55, 56, 56, 56, 57, 57, 48, 57, 49, 57, 50, 57, 51, 57, 52, 57, 53, 57, 54, 57, 55, 57, 56, 57, 57]), .t 152], none⟩,
      ⟨some 154, .mv, [.t 16], none⟩,
      ⟨some 155, .ixS, [.c (.str [48, 48, 48, 49, 48, 50, 48, 51, 48, 52, 48, 53, 48, 54, 48, 55, 48, 56, 48, 57, 49, 48, 49, 49, 49, 50, 49, 51, 49, 52, 49, 53, 49, 54, 49, 55, 49, 56, 49, 57, 50, 48, 50, 49, 50, 50, 50, 51, 50, 52, 50, 53, 50, 54, 50, 55, 50, 56, 50, 57, 51, 48, 51, 49, 51, 50, 51, 51, 51, 52, 51, 53, 51, 54, 51, 55, 51, 56, 51, 57, 52, 48, 52, 49, 52, 50, 52, 51, 52, 52, 52, 53, 52, 54, 52, 55, 52, 56, 52, 57, 53, 48, 53, 49, 53, 50, 53, 51, 53, 52, 53, 53, 53, 54, 53, 55, 53, 56, 53, 57, 54, 48, 54, 49, 54, 50, 54, 51, 54, 52, 54, 53, 54, 54, 54, 55, 54, 56, 54, 57, 55, 48, 55, 49, 55, 50, 55, 51, 55, 52, 55, 53, 55, 54, 55, 55, 55, 56, 55, 57, 56, 48, 56, 49, 56, 50, 56, 51, 56, 52, 56, 53, 56, 54, 56, 55, 56, 56, 56, 57, 57, 48, 57, 49, 57, 50, 57, 51, 57, 52, 57, 53, 57, 54, 57, 55, 57, 56, 57, 57]), .t 154], none⟩,
      ⟨some 156, .ixA 1, [.t 145, .t 147], none⟩,
      ⟨none, .hst 1, [.t 156, .t 153], none⟩,
      ⟨some 157, .ixA 1, [.t 148, .t 150], none⟩,
      ⟨none, .hst 1, [.t 157, .t 155], none⟩])
    (.ops [⟨some 158, .mv, [.t 4], none⟩,
      ⟨some 159, .bin .sub, [.t 158, .c (.int .i64 2)], none⟩,
      ⟨some 4, .mv, [.tk 159], none⟩]))))
    .skip))
  (.seq (.ops [⟨some 160, .mv, [.t 4], none⟩,
    ⟨some 161, .bin .gtr, [.t 160, .c (.int .i64 0)], none⟩])
  (.cond (.t 161)
    (.ops [⟨some 162, .mv, [.t 0], none⟩,
      ⟨some 163, .mv, [.t 12], none⟩,
      ⟨some 164, .bin .add, [.c (.int .u32 48), .t 163], none⟩,
      ⟨some 165, .conv .u8, [.t 164], none⟩,
      ⟨some 166, .ixA 1, [.t 162, .c (.int .i64 0)], none⟩,
      ⟨none, .hst 1, [.t 166, .t 165], none⟩])
    .skip)))))))⟩
def b0_internal_strconv_formatBits : ACode :=
  (.seq (.seq (.ops [⟨some 44, .mv, [.t 1], none⟩,
    ⟨some 45, .mv, [.tk 15], none⟩,
    ⟨some 46, .bin .geq, [.t 44, .t 45], none⟩])
  (.cond (.t 46)
    .skip
    (.exit 0)))
  (.block 1 (.seq (.ops [⟨some 47, .mv, [.t 13], none⟩,
      ⟨some 48, .bin .sub, [.t 47, .c (.int .i64 1)], none⟩,
      ⟨some 13, .mv, [.tk 48], none⟩])
    (.seq (.ops [⟨some 49, .mv, [.t 13], none⟩,
      ⟨some 50, .mv, [.t 1], none⟩,
      ⟨some 51, .mv, [.tk 16], none⟩,
      ⟨some 52, .bin .and, [.t 50, .t 51], none⟩,
      ⟨some 53, .ixS, [.c (.str [48, 49, 50, 51, 52, 53, 54, 55, 56, 57, 97, 98, 99, 100, 101, 102, 103, 104, 105, 106, 107, 108, 109, 110, 111, 112, 113, 114, 115, 116, 117, 118, 119, 120, 121, 122]), .t 52], none⟩,
      ⟨some 54, .ixP 65 1, [.t 12, .t 49], none⟩,
      ⟨none, .hst 1, [.t 54, .t 53], none⟩])
    (.ops [⟨some 55, .mv, [.t 1], none⟩,
      ⟨some 56, .mv, [.tk 14], none⟩,
      ⟨some 57, .bin .shr, [.t 55, .t 56], none⟩,
      ⟨some 1, .mv, [.tk 57], none⟩])))))
def b1_internal_strconv_formatBits : ACode :=
  (.seq (.seq (.ops [⟨some 66, .mv, [.t 1], none⟩,
    ⟨some 67, .mv, [.t 17], none⟩,
    ⟨some 68, .bin .geq, [.t 66, .t 67], none⟩])
  (.cond (.t 68)
    .skip
    (.exit 2)))
  (.block 3 (.seq (.ops [⟨some 69, .mv, [.t 13], none⟩,
      ⟨some 70, .bin .sub, [.t 69, .c (.int .i64 1)], none⟩,
      ⟨some 13, .mv, [.tk 70], none⟩])
    (.seq (.ops [⟨some 71, .mv, [.t 1], none⟩,
      ⟨some 72, .mv, [.t 17], none⟩,
      ⟨some 73, .bin .quo, [.t 71, .t 72], none⟩,
      ⟨some 18, .mv, [.tk 73], none⟩])
    (.seq (.ops [⟨some 74, .mv, [.t 13], none⟩,
      ⟨some 75, .mv, [.t 1], none⟩,
      ⟨some 76, .mv, [.t 18], none⟩,
      ⟨some 77, .mv, [.t 17], none⟩,
      ⟨some 78, .bin .mul, [.t 76, .t 77], none⟩,
      ⟨some 79, .bin .sub, [.t 75, .t 78], none⟩,
      ⟨some 80, .ixS, [.c (.str [48, 49, 50, 51, 52, 53, 54, 55, 56, 57, 97, 98, 99, 100, 101, 102, 103, 104, 105, 106, 107, 108, 109, 110, 111, 112, 113, 114, 115, 116, 117, 118, 119, 120, 121, 122]), .t 79], none⟩,
      ⟨some 81, .ixP 65 1, [.t 12, .t 74], none⟩,
      ⟨none, .hst 1, [.t 81, .t 80], none⟩])
    (.ops [⟨some 82, .mv, [.t 18], none⟩,
      ⟨some 1, .mv, [.tk 82], none⟩]))))))
/-- internal/strconv.formatBits (not: panic, slice of array) -/
def a_internal_strconv_formatBits : AFunc := ⟨5, [.t 10, .t 11],
  (.seq (.ops [⟨some 10, .mv, [.c (.sl true 1 [])], none⟩,
    ⟨some 11, .mv, [.c (.str [])], none⟩])
  (.seq (.seq (.ops [⟨some 19, .mv, [.t 2], none⟩,
    ⟨some 20, .bin .lss, [.t 19, .c (.int .i64 2)], none⟩,
    ⟨some 21, .mv, [.tk 20], none⟩,
    ⟨some 22, .mv, [.t 2], some (21, false)⟩,
    ⟨some 23, .bin .eql, [.t 22, .c (.int .i64 10)], some (21, false)⟩,
    ⟨some 24, .pick, [.t 21, .c (.bool true), .t 23], none⟩,
    ⟨some 25, .mv, [.tk 24], none⟩,
    ⟨some 26, .mv, [.t 2], some (25, false)⟩,
    ⟨some 27, .bin .gtr, [.t 26, .c (.int .i64 36)], some (25, false)⟩,
    ⟨some 28, .pick, [.t 25, .c (.bool true), .t 27], none⟩])
  (.cond (.t 28)
    (.ops [⟨some 29, .mkI t_string, [.c (.str [115, 116, 114, 99, 111, 110, 118, 58, 32, 105, 108, 108, 101, 103, 97, 108, 32, 65, 112, 112, 101, 110, 100, 73, 110, 116, 47, 70, 111, 114, 109, 97, 116, 73, 110, 116, 32, 98, 97, 115, 101])], none⟩,
      ⟨none, .bad, [], none⟩])
    .skip))
  (.seq (.ops [⟨some 12, .hnew [(.int .u8 0), (.int .u8 0), (.int .u8 0), (.int .u8 0), (.int .u8 0), (.int .u8 0), (.int .u8 0), (.int .u8 0), (.int .u8 0), (.int .u8 0), (.int .u8 0), (.int .u8 0), (.int .u8 0), (.int .u8 0), (.int .u8 0), (.int .u8 0), (.int .u8 0), (.int .u8 0), (.int .u8 0), (.int .u8 0), (.int .u8 0), (.int .u8 0), (.int .u8 0), (.int .u8 0), (.int .u8 0), (.int .u8 0), (.int .u8 0), (.int .u8 0), (.int .u8 0), (.int .u8 0), (.int .u8 0), (.int .u8 0), (.int .u8 0), (.int .u8 0), (.int .u8 0), (.int .u8 0), (.int .u8 0), (.int .u8 0), (.int .u8 0), (.int .u8 0), (.int .u8 0), (.int .u8 0), (.int .u8 0), (.int .u8 0), (.int .u8 0), (.int .u8 0), (.int .u8 0), (.int .u8 0), (.int .u8 0), (.int .u8 0), (.int .u8 0), (.int .u8 0), (.int .u8 0), (.int .u8 0), (.int .u8 0), (.int .u8 0), (.int .u8 0), (.int .u8 0), (.int .u8 0), (.int .u8 0), (.int .u8 0), (.int .u8 0), (.int .u8 0), (.int .u8 0), (.int .u8 0)], [], none⟩])
  (.seq (.ops [⟨some 13, .mv, [.c (.int .i64 65)], none⟩])
  (.seq (.seq (.ops [⟨some 30, .mv, [.t 3], none⟩])
  (.cond (.t 30)
    (.ops [⟨some 31, .mv, [.t 1], none⟩,
      ⟨some 32, .uneg, [.t 31], none⟩,
      ⟨some 1, .mv, [.tk 32], none⟩])
    .skip))
  (.seq (.seq (.ops [⟨some 33, .mv, [.t 2], none⟩,
    ⟨some 34, .call f_internal_strconv_isPowerOfTwo, [.t 33], none⟩])
  (.cond (.t 34)
    (.seq (.ops [⟨some 35, .mv, [.t 2], none⟩,
      ⟨some 36, .conv .u64, [.t 35], none⟩,
      ⟨some 37, .call f_math_bits_TrailingZeros, [.t 36], none⟩,
      ⟨some 38, .conv .u64, [.t 37], none⟩,
      ⟨some 14, .mv, [.tk 38], none⟩])
    (.seq (.ops [⟨some 39, .mv, [.t 2], none⟩,
      ⟨some 40, .conv .u64, [.t 39], none⟩,
      ⟨some 15, .mv, [.tk 40], none⟩])
    (.seq (.ops [⟨some 41, .mv, [.t 2], none⟩,
      ⟨some 42, .conv .u64, [.t 41], none⟩,
      ⟨some 43, .bin .sub, [.t 42, .c (.int .u64 1)], none⟩,
      ⟨some 16, .mv, [.tk 43], none⟩])
    (.seq (.block 0 (.loop b0_internal_strconv_formatBits))
    (.seq (.ops [⟨some 58, .mv, [.t 13], none⟩,
      ⟨some 59, .bin .sub, [.t 58, .c (.int .i64 1)], none⟩,
      ⟨some 13, .mv, [.tk 59], none⟩])
    (.ops [⟨some 60, .mv, [.t 13], none⟩,
      ⟨some 61, .mv, [.t 1], none⟩,
      ⟨some 62, .ixS, [.c (.str [48, 49, 50, 51, 52, 53, 54, 55, 56, 57, 97, 98, 99, 100, 101, 102, 103, 104, 105, 106, 107, 108, 109, 110, 111, 112, 113, 114, 115, 116, 117, 118, 119, 120, 121, 122]), .t 61], none⟩,
      ⟨some 63, .ixP 65 1, [.t 12, .t 60], none⟩,
      ⟨none, .hst 1, [.t 63, .t 62], none⟩]))))))
    (.seq (.ops [⟨some 64, .mv, [.t 2], none⟩,
      ⟨some 65, .conv .u64, [.t 64], none⟩,
      ⟨some 17, .mv, [.tk 65], none⟩])
    (.seq (.block 2 (.loop b1_internal_strconv_formatBits))
    (.seq (.ops [⟨some 83, .mv, [.t 13], none⟩,
      ⟨some 84, .bin .sub, [.t 83, .c (.int .i64 1)], none⟩,
      ⟨some 13, .mv, [.tk 84], none⟩])
    (.ops [⟨some 85, .mv, [.t 13], none⟩,
      ⟨some 86, .mv, [.t 1], none⟩,
      ⟨some 87, .ixS, [.c (.str [48, 49, 50, 51, 52, 53, 54, 55, 56, 57, 97, 98, 99, 100, 101, 102, 103, 104, 105, 106, 107, 108, 109, 110, 111, 112, 113, 114, 115, 116, 117, 118, 119, 120, 121, 122]), .t 86], none⟩,
      ⟨some 88, .ixP 65 1, [.t 12, .t 85], none⟩,
      ⟨none, .hst 1, [.t 88, .t 87], none⟩]))))))
  (.seq (.seq (.ops [⟨some 89, .mv, [.t 3], none⟩])
  (.cond (.t 89)
    (.seq (.ops [⟨some 90, .mv, [.t 13], none⟩,
      ⟨some 91, .bin .sub, [.t 90, .c (.int .i64 1)], none⟩,
      ⟨some 13, .mv, [.tk 91], none⟩])
    (.ops [⟨some 92, .mv, [.t 13], none⟩,
      ⟨some 93, .ixP 65 1, [.t 12, .t 92], none⟩,
      ⟨none, .hst 1, [.t 93, .c (.int .u8 45)], none⟩]))
    .skip))
  (.seq (.seq (.ops [⟨some 94, .mv, [.tk 4], none⟩])
  (.cond (.t 94)
    (.seq (.ops [⟨some 95, .mv, [.tk 0], none⟩,
      ⟨some 96, .mv, [.t 13], none⟩,
      ⟨some 97, .bad, [], none⟩,
      ⟨some 98, .app 1 1, [.tk 95, .t 97], none⟩,
      ⟨some 10, .mv, [.tk 98], none⟩])
    .ret)
    .skip))
  (.seq (.ops [⟨some 99, .mv, [.t 13], none⟩,
    ⟨some 100, .bad, [], none⟩,
    ⟨some 101, .b2s, [.t 100], none⟩,
    ⟨some 11, .mv, [.tk 101], none⟩])
  .ret)))))))))⟩
/-- internal/strconv.FormatInt (not: slice of array) -/
def a_internal_strconv_FormatInt : AFunc := ⟨2, [.t 4],
  (.seq (.ops [⟨some 4, .mv, [.c (.str [])], none⟩])
  (.seq (.seq (.ops [⟨some 10, .mv, [.t 1], none⟩,
    ⟨some 11, .bin .eql, [.t 10, .c (.int .i64 10)], none⟩])
  (.cond (.t 11)
    (.seq (.seq (.ops [⟨some 12, .mv, [.t 0], none⟩,
      ⟨some 13, .bin .leq, [.c (.int .i64 0), .t 12], none⟩,
      ⟨some 14, .mv, [.tk 13], none⟩,
      ⟨some 15, .mv, [.t 0], some (14, true)⟩,
      ⟨some 16, .bin .lss, [.t 15, .c (.int .i64 100)], some (14, true)⟩,
      ⟨some 17, .pick, [.t 14, .t 16, .c (.bool false)], none⟩])
    (.cond (.t 17)
      (.seq (.ops [⟨some 18, .mv, [.t 0], none⟩,
        ⟨some 19, .call f_internal_strconv_small, [.t 18], none⟩,
        ⟨some 4, .mv, [.tk 19], none⟩])
      .ret)
      .skip))
    (.seq (.ops [⟨some 5, .hnew [(.int .u8 0), (.int .u8 0), (.int .u8 0), (.int .u8 0), (.int .u8 0), (.int .u8 0), (.int .u8 0), (.int .u8 0), (.int .u8 0), (.int .u8 0), (.int .u8 0), (.int .u8 0), (.int .u8 0), (.int .u8 0), (.int .u8 0), (.int .u8 0), (.int .u8 0), (.int .u8 0), (.int .u8 0), (.int .u8 0), (.int .u8 0), (.int .u8 0), (.int .u8 0), (.int .u8 0)], [], none⟩])
    (.seq (.ops [⟨some 20, .mv, [.t 0], none⟩,
      ⟨some 21, .conv .u64, [.t 20], none⟩,
      ⟨some 6, .mv, [.tk 21], none⟩])
    (.seq (.seq (.ops [⟨some 22, .mv, [.t 0], none⟩,
      ⟨some 23, .bin .lss, [.t 22, .c (.int .i64 0)], none⟩])
    (.cond (.t 23)
      (.ops [⟨some 24, .mv, [.t 6], none⟩,
        ⟨some 25, .uneg, [.t 24], none⟩,
        ⟨some 6, .mv, [.tk 25], none⟩])
      .skip))
    (.seq (.ops [⟨some 26, .mv, [.t 6], none⟩,
      ⟨some 27, .call f_internal_strconv_numDigits, [.t 26], none⟩,
      ⟨some 7, .mv, [.tk 27], none⟩])
    (.seq (.ops [⟨some 28, .mv, [.t 7], none⟩,
      ⟨some 29, .bin .add, [.c (.int .i64 1), .t 28], none⟩,
      ⟨some 30, .bad, [], none⟩,
      ⟨some 31, .mv, [.t 6], none⟩,
      ⟨some 32, .call f_internal_strconv_formatBase10, [.t 30, .t 31], none⟩])
    (.seq (.seq (.ops [⟨some 33, .mv, [.t 0], none⟩,
      ⟨some 34, .bin .lss, [.t 33, .c (.int .i64 0)], none⟩])
    (.cond (.t 34)
      (.seq (.ops [⟨some 35, .ixP 24 1, [.t 5, .c (.int .i64 0)], none⟩,
        ⟨none, .hst 1, [.t 35, .c (.int .u8 45)], none⟩])
      (.seq (.ops [⟨some 36, .mv, [.t 7], none⟩,
        ⟨some 37, .bin .add, [.c (.int .i64 1), .t 36], none⟩,
        ⟨some 38, .bad, [], none⟩,
        ⟨some 39, .b2s, [.t 38], none⟩,
        ⟨some 4, .mv, [.tk 39], none⟩])
      .ret))
      .skip))
    (.seq (.ops [⟨some 40, .mv, [.t 7], none⟩,
      ⟨some 41, .bin .add, [.c (.int .i64 1), .t 40], none⟩,
      ⟨some 42, .bad, [], none⟩,
      ⟨some 43, .b2s, [.t 42], none⟩,
      ⟨some 4, .mv, [.tk 43], none⟩])
    .ret))))))))
    .skip))
  (.seq (.ops [⟨some 45, .mv, [.t 0], none⟩,
    ⟨some 46, .conv .u64, [.t 45], none⟩,
    ⟨some 47, .mv, [.t 1], none⟩,
    ⟨some 48, .mv, [.t 0], none⟩,
    ⟨some 49, .bin .lss, [.t 48, .c (.int .i64 0)], none⟩,
    ⟨some 50, .call f_internal_strconv_formatBits, [.c (.sl true 1 []), .t 46, .t 47, .t 49, .c (.bool false)], none⟩,
    ⟨some 44, .mv, [.tk 50], none⟩,
    ⟨some 51, .ext 0, [.tk 44], none⟩,
    ⟨some 52, .ext 1, [.t 44], none⟩,
    ⟨some 8, .mv, [.tk 51], none⟩,
    ⟨some 9, .mv, [.tk 52], none⟩])
  (.seq (.ops [⟨some 53, .mv, [.tk 9], none⟩,
    ⟨some 4, .mv, [.tk 53], none⟩])
  .ret))))⟩
/-- countwheel/fault.names -/
def a_fault_names : AFunc := ⟨0, [.t 0],
  (.seq (.ops [⟨some 0, .mv, [.c (.sl true 1 [])], none⟩])
  (.seq (.ops [⟨some 1, .lit 1, [.c (.str []), .c (.str [97, 114, 103, 117, 109, 101, 110, 116]), .c (.str [115, 104, 111, 114, 116]), .c (.str [109, 97, 103, 105, 99]), .c (.str [108, 101, 110, 103, 116, 104]), .c (.str [115, 117, 109]), .c (.str [102, 111, 114, 109]), .c (.str [110, 97, 109, 101]), .c (.str [109, 97, 110, 121]), .c (.str [111, 114, 100, 101, 114]), .c (.str [114, 101, 102, 101, 114, 101, 110, 99, 101]), .c (.str [119, 105, 110, 100, 111, 119]), .c (.str [111, 118, 101, 114, 108, 97, 112]), .c (.str [112, 101, 114, 105, 111, 100]), .c (.str [98, 117, 100, 103, 101, 116]), .c (.str [112, 97, 105, 114]), .c (.str [104, 97, 108, 116]), .c (.str [115, 116, 97, 116, 101]), .c (.str [114, 97, 110, 103, 101])], none⟩,
    ⟨some 0, .mv, [.tk 1], none⟩])
  .ret))⟩
/-- internal/strconv.log10Pow2 -/
def a_internal_strconv_log10Pow2 : AFunc := ⟨1, [.t 2],
  (.seq (.ops [⟨some 2, .mv, [.c (.int .i64 0)], none⟩])
  (.seq (.ops [⟨some 3, .mv, [.tk 0], none⟩,
    ⟨some 4, .bin .mul, [.t 3, .c (.int .i64 78913)], none⟩,
    ⟨some 5, .bin .shr, [.t 4, .c (.int .u64 18)], none⟩,
    ⟨some 2, .mv, [.tk 5], none⟩])
  .ret))⟩
/-- math/bits.Len64 -/
def a_math_bits_Len64 : AFunc := ⟨1, [.t 2],
  (.seq (.ops [⟨some 2, .mv, [.c (.int .i64 0)], none⟩])
  (.seq (.seq (.ops [⟨some 3, .mv, [.t 0], none⟩,
    ⟨some 4, .bin .geq, [.t 3, .c (.int .u64 4294967296)], none⟩])
  (.cond (.t 4)
    (.seq (.ops [⟨some 5, .mv, [.t 0], none⟩,
      ⟨some 6, .bin .shr, [.t 5, .c (.int .u64 32)], none⟩,
      ⟨some 0, .mv, [.tk 6], none⟩])
    (.ops [⟨some 2, .mv, [.c (.int .i64 32)], none⟩]))
    .skip))
  (.seq (.seq (.ops [⟨some 7, .mv, [.t 0], none⟩,
    ⟨some 8, .bin .geq, [.t 7, .c (.int .u64 65536)], none⟩])
  (.cond (.t 8)
    (.seq (.ops [⟨some 9, .mv, [.t 0], none⟩,
      ⟨some 10, .bin .shr, [.t 9, .c (.int .u64 16)], none⟩,
      ⟨some 0, .mv, [.tk 10], none⟩])
    (.ops [⟨some 11, .mv, [.t 2], none⟩,
      ⟨some 12, .bin .add, [.t 11, .c (.int .i64 16)], none⟩,
      ⟨some 2, .mv, [.tk 12], none⟩]))
    .skip))
  (.seq (.seq (.ops [⟨some 13, .mv, [.t 0], none⟩,
    ⟨some 14, .bin .geq, [.t 13, .c (.int .u64 256)], none⟩])
  (.cond (.t 14)
    (.seq (.ops [⟨some 15, .mv, [.t 0], none⟩,
      ⟨some 16, .bin .shr, [.t 15, .c (.int .u64 8)], none⟩,
      ⟨some 0, .mv, [.tk 16], none⟩])
    (.ops [⟨some 17, .mv, [.t 2], none⟩,
      ⟨some 18, .bin .add, [.t 17, .c (.int .i64 8)], none⟩,
      ⟨some 2, .mv, [.tk 18], none⟩]))
    .skip))
  (.seq (.ops [⟨some 19, .mv, [.t 2], none⟩,
    ⟨some 20, .mv, [.t 0], none⟩,
    ⟨some 21, .conv .u8, [.t 20], none⟩,
    ⟨some 22, .ixS, [.c (.str [0, 1, 2, 2, 3, 3, 3, 3, 4, 4, 4, 4, 4, 4, 4, 4, 5, 5, 5, 5, 5, 5, 5, 5, 5, 5, 5, 5, 5, 5, 5, 5, 6, 6, 6, 6, 6, 6, 6, 6, 6, 6, 6, 6, 6, 6, 6, 6, 6, 6, 6, 6, 6, 6, 6, 6, 6, 6, 6, 6, 6, 6, 6, 6, 7, 7, 7, 7, 7, 7, 7, 7, 7, 7, 7, 7, 7, 7, 7, 7, 7, 7, 7, 7, 7, 7, 7, 7, 7, 7, 7, 7, 7, 7, 7, 7, 7, 7, 7, 7, 7, 7, 7, 7, 7, 7, 7, 7, 7, 7, 7, 7, 7, 7, 7, 7, 7, 7, 7, 7, 7, 7, 7, 7, 7, 7, 7, 7, 8, 8, 8, 8, 8, 8, 8, 8, 8, 8, 8, 8, 8, 8, 8, 8, 8, 8, 8, 8, 8, 8, 8, 8, 8, 8, 8, 8, 8, 8, 8, 8, 8, 8, 8, 8, 8, 8, 8, 8, 8, 8, 8, 8, 8, 8, 8, 8, 8, 8, 8, 8, 8, 8, 8, 8, 8, 8, 8, 8, 8, 8, 8, 8, 8, 8, 8, 8, 8, 8, 8, 8, 8, 8, 8, 8, 8, 8, 8, 8, 8, 8, 8, 8, 8, 8, 8, 8, 8, 8, 8, 8, 8, 8, 8, 8, 8, 8, 8, 8, 8, 8, 8, 8, 8, 8, 8, 8, 8, 8, 8, 8, 8, 8, 8, 8, 8, 8, 8, 8, 8, 8, 8, 8, 8, 8, 8, 8]), .t 21], none⟩,
    ⟨some 23, .conv .i64, [.t 22], none⟩,
    ⟨some 24, .bin .add, [.t 19, .t 23], none⟩,
    ⟨some 2, .mv, [.tk 24], none⟩])
  .ret)))))⟩
/-- internal/strconv.bool2[int] -/
def a_internal_strconv_bool2_int_ : AFunc := ⟨1, [.t 2],
  (.seq (.ops [⟨some 2, .mv, [.c (.int .i64 0)], none⟩])
  (.seq (.seq (.ops [⟨some 3, .mv, [.tk 0], none⟩])
  (.cond (.t 3)
    (.seq (.ops [⟨some 2, .mv, [.c (.int .i64 1)], none⟩])
    .ret)
    .skip))
  (.seq (.ops [⟨some 2, .mv, [.c (.int .i64 0)], none⟩])
  .ret)))⟩
/-- internal/strconv.isPowerOfTwo -/
def a_internal_strconv_isPowerOfTwo : AFunc := ⟨1, [.t 2],
  (.seq (.ops [⟨some 2, .mv, [.c (.bool false)], none⟩])
  (.seq (.ops [⟨some 3, .mv, [.t 0], none⟩,
    ⟨some 4, .mv, [.t 0], none⟩,
    ⟨some 5, .bin .sub, [.t 4, .c (.int .i64 1)], none⟩,
    ⟨some 6, .bin .and, [.t 3, .t 5], none⟩,
    ⟨some 7, .bin .eql, [.t 6, .c (.int .i64 0)], none⟩,
    ⟨some 2, .mv, [.tk 7], none⟩])
  .ret))⟩
/-- math/bits.TrailingZeros -/
def a_math_bits_TrailingZeros : AFunc := ⟨1, [.t 2],
  (.seq (.ops [⟨some 2, .mv, [.c (.int .i64 0)], none⟩])
  (.seq (.cond (.c (.bool false))
    (.seq (.ops [⟨some 3, .mv, [.t 0], none⟩,
      ⟨some 4, .conv .u32, [.t 3], none⟩,
      ⟨some 5, .call f_math_bits_TrailingZeros32, [.t 4], none⟩,
      ⟨some 2, .mv, [.tk 5], none⟩])
    .ret)
    .skip)
  (.seq (.ops [⟨some 6, .mv, [.t 0], none⟩,
    ⟨some 7, .call f_math_bits_TrailingZeros64, [.t 6], none⟩,
    ⟨some 2, .mv, [.tk 7], none⟩])
  .ret)))⟩
/-- (*countwheel/fault.section).Unwrap -/
def a__pfault_section__Unwrap : AFunc := ⟨1, [.t 2],
  (.seq (.ops [⟨some 2, .mv, [.c .nili], none⟩])
  (.seq (.ops [⟨some 3, .mv, [.tk 0], none⟩,
    ⟨some 4, .nilck, [.tk 3], none⟩,
    ⟨some 5, .fa 1, [.t 4], none⟩,
    ⟨some 6, .hld 1 false, [.t 5], none⟩,
    ⟨some 2, .mv, [.tk 6], none⟩])
  .ret))⟩
/-- (*countwheel/fault.place).Unwrap -/
def a__pfault_place__Unwrap : AFunc := ⟨1, [.t 2],
  (.seq (.ops [⟨some 2, .mv, [.c .nili], none⟩])
  (.seq (.ops [⟨some 3, .mv, [.tk 0], none⟩,
    ⟨some 4, .nilck, [.tk 3], none⟩,
    ⟨some 5, .fa 1, [.t 4], none⟩,
    ⟨some 6, .hld 1 false, [.t 5], none⟩,
    ⟨some 2, .mv, [.tk 6], none⟩])
  .ret))⟩
def EQ : List TypeId := [25, 32]
theorem chk_law23_StatusGets : chkFn Go.Proofs.Tryd.prog EQ Go.Proofs.Tryd.f3 a_law23_StatusGets = true := by kernel_rfl
theorem chk_law23_StatusPuts : chkFn Go.Proofs.Tryd.prog EQ Go.Proofs.Tryd.f4 a_law23_StatusPuts = true := by kernel_rfl
theorem chk_law23_awake : chkFn Go.Proofs.Tryd.prog EQ Go.Proofs.Tryd.f5 a_law23_awake = true := by kernel_rfl
theorem chk_status_Get : chkFn Go.Proofs.Tryd.prog EQ Go.Proofs.Tryd.f6 a_status_Get = true := by kernel_rfl
theorem chk_fault_Of : chkFn Go.Proofs.Tryd.prog EQ Go.Proofs.Tryd.f7 a_fault_Of = true := by kernel_rfl
theorem chk_ref23_Bytes : chkFn Go.Proofs.Tryd.prog EQ Go.Proofs.Tryd.f8 a_ref23_Bytes = true := by kernel_rfl
theorem chk_status_Put : chkFn Go.Proofs.Tryd.prog EQ Go.Proofs.Tryd.f9 a_status_Put = true := by kernel_rfl
theorem chk_status_Pending : chkFn Go.Proofs.Tryd.prog EQ Go.Proofs.Tryd.f10 a_status_Pending = true := by kernel_rfl
theorem chk_status_Text : chkFn Go.Proofs.Tryd.prog EQ Go.Proofs.Tryd.f11 a_status_Text = true := by kernel_rfl
theorem chk_status_wrong : chkFn Go.Proofs.Tryd.prog EQ Go.Proofs.Tryd.f12 a_status_wrong = true := by kernel_rfl
theorem chk_octet_Get : chkFn Go.Proofs.Tryd.prog EQ Go.Proofs.Tryd.f13 a_octet_Get = true := by kernel_rfl
theorem chk_errors_As : chkFn Go.Proofs.Tryd.prog EQ Go.Proofs.Tryd.f14 a_errors_As = true := by kernel_rfl
theorem chk_ref01_Text : chkFn Go.Proofs.Tryd.prog EQ Go.Proofs.Tryd.f15 a_ref01_Text = true := by kernel_rfl
theorem chk_octet_Fits : chkFn Go.Proofs.Tryd.prog EQ Go.Proofs.Tryd.f16 a_octet_Fits = true := by kernel_rfl
theorem chk_octet_Put : chkFn Go.Proofs.Tryd.prog EQ Go.Proofs.Tryd.f18 a_octet_Put = true := by kernel_rfl
theorem chk_strconv_FormatUint : chkFn Go.Proofs.Tryd.prog EQ Go.Proofs.Tryd.f20 a_strconv_FormatUint = true := by kernel_rfl
theorem chk_strconv_Itoa : chkFn Go.Proofs.Tryd.prog EQ Go.Proofs.Tryd.f21 a_strconv_Itoa = true := by kernel_rfl
theorem chk_fault_At : chkFn Go.Proofs.Tryd.prog EQ Go.Proofs.Tryd.f22 a_fault_At = true := by kernel_rfl
theorem chk_fault_New : chkFn Go.Proofs.Tryd.prog EQ Go.Proofs.Tryd.f23 a_fault_New = true := by kernel_rfl
theorem chk_octet_size : chkFn Go.Proofs.Tryd.prog EQ Go.Proofs.Tryd.f24 a_octet_size = true := by kernel_rfl
theorem chk_errors_as : chkFn Go.Proofs.Tryd.prog EQ Go.Proofs.Tryd.f28 a_errors_as = true := by kernel_rfl
theorem chk_internal_strconv_FormatUint : chkFn Go.Proofs.Tryd.prog EQ Go.Proofs.Tryd.f32 a_internal_strconv_FormatUint = true := by kernel_rfl
theorem chk_internal_strconv_Itoa : chkFn Go.Proofs.Tryd.prog EQ Go.Proofs.Tryd.f33 a_internal_strconv_Itoa = true := by kernel_rfl
theorem chk_fault_Name : chkFn Go.Proofs.Tryd.prog EQ Go.Proofs.Tryd.f34 a_fault_Name = true := by kernel_rfl
theorem chk_internal_strconv_small : chkFn Go.Proofs.Tryd.prog EQ Go.Proofs.Tryd.f40 a_internal_strconv_small = true := by kernel_rfl
theorem chk_internal_strconv_formatBase10 : chkFn Go.Proofs.Tryd.prog EQ Go.Proofs.Tryd.f42 a_internal_strconv_formatBase10 = true := by kernel_rfl
theorem chk_internal_strconv_formatBits : chkFn Go.Proofs.Tryd.prog EQ Go.Proofs.Tryd.f43 a_internal_strconv_formatBits = true := by kernel_rfl
theorem chk_internal_strconv_FormatInt : chkFn Go.Proofs.Tryd.prog EQ Go.Proofs.Tryd.f44 a_internal_strconv_FormatInt = true := by kernel_rfl
theorem chk_fault_names : chkFn Go.Proofs.Tryd.prog EQ Go.Proofs.Tryd.f45 a_fault_names = true := by kernel_rfl
theorem chk_internal_strconv_log10Pow2 : chkFn Go.Proofs.Tryd.prog EQ Go.Proofs.Tryd.f48 a_internal_strconv_log10Pow2 = true := by kernel_rfl
theorem chk_math_bits_Len64 : chkFn Go.Proofs.Tryd.prog EQ Go.Proofs.Tryd.f49 a_math_bits_Len64 = true := by kernel_rfl
theorem chk_internal_strconv_bool2_int_ : chkFn Go.Proofs.Tryd.prog EQ Go.Proofs.Tryd.f50 a_internal_strconv_bool2_int_ = true := by kernel_rfl
theorem chk_internal_strconv_isPowerOfTwo : chkFn Go.Proofs.Tryd.prog EQ Go.Proofs.Tryd.f51 a_internal_strconv_isPowerOfTwo = true := by kernel_rfl
theorem chk_math_bits_TrailingZeros : chkFn Go.Proofs.Tryd.prog EQ Go.Proofs.Tryd.f52 a_math_bits_TrailingZeros = true := by kernel_rfl
theorem chk__pfault_section__Unwrap : chkFn Go.Proofs.Tryd.prog EQ Go.Proofs.Tryd.f74 a__pfault_section__Unwrap = true := by kernel_rfl
theorem chk__pfault_place__Unwrap : chkFn Go.Proofs.Tryd.prog EQ Go.Proofs.Tryd.f76 a__pfault_place__Unwrap = true := by kernel_rfl
end Go.Vm.S
