/- The functions' code as the abstract machine's, and that it is that (written by a program of this session's, wip/vm/VmGen.lean). -/
import Derived.Test.YtacifbbmfkampaaDoorProg
import Derived.Test.YtacifbbmfkampaaDoorVmOc
import Derived.KernelRfl
namespace Go.Vm.S
open Go Go.Vm
set_option linter.unusedVariables false
abbrev f_law13_WindowRight : FuncId := 3
abbrev f_ref09_Right : FuncId := 5
abbrev f_law13_awake : FuncId := 6
abbrev f_window_Check : FuncId := 7
abbrev f_window_Owner : FuncId := 8
abbrev f_window_Touch : FuncId := 9
abbrev f_window_Busy : FuncId := 10
abbrev f_ref09_in : FuncId := 14
abbrev f_fault_Of : FuncId := 15
abbrev f_fault_New : FuncId := 16
abbrev f_window_wrong : FuncId := 17
abbrev f_fault_At : FuncId := 18
abbrev f_slices_IndexFunc___api_Window_api_Window_ : FuncId := 19
abbrev f_window_Owner_1 : FuncId := 20
abbrev f_window_has : FuncId := 21
abbrev f_window_count : FuncId := 22
abbrev f_window_Busy_1 : FuncId := 23
abbrev f_errors_As : FuncId := 30
abbrev f_fault_Name : FuncId := 31
abbrev f_slices_Contains___int_int_ : FuncId := 32
abbrev f_window_fits : FuncId := 33
abbrev f_window_Word : FuncId := 34
abbrev f_internal_reflectlite_ValueOf : FuncId := 38
abbrev f__internal_reflectlite_Value__Type : FuncId := 39
abbrev f__internal_reflectlite_Value__IsNil : FuncId := 40
abbrev f_errors_as : FuncId := 41
abbrev f_fault_names : FuncId := 42
abbrev f_slices_Index___int_int_ : FuncId := 43
abbrev f_slices_Backward___api_Window_api_Window_ : FuncId := 44
abbrev f_internal_reflectlite_TypeOf : FuncId := 55
abbrev f__internal_reflectlite_Value__Elem : FuncId := 56
abbrev f__internal_reflectlite_Value__Set : FuncId := 57
abbrev f_slices_Backward___api_Window_api_Window__1 : FuncId := 58
abbrev f__pfault_section__Unwrap : FuncId := 84
abbrev f__pfault_place__Unwrap : FuncId := 86
abbrev t_string : TypeId := 9
abbrev t_error : TypeId := 30
abbrev t_api_Fault : TypeId := 45
abbrev t_fault_class : TypeId := 59
abbrev t_pfault_class : TypeId := 61
abbrev t_pfault_section : TypeId := 62
abbrev t_ppfault_section : TypeId := 63
abbrev t_pfault_place : TypeId := 66
abbrev t_ppfault_place : TypeId := 67
def b0_law13_WindowRight : ACode :=
  (.seq (.seq (.ops [⟨some 44, .mv, [.t 8], none⟩,
    ⟨some 45, .fa 1, [.t 7], none⟩,
    ⟨some 46, .ldI 1 false, [.t 45], none⟩,
    ⟨some 47, .fa 2, [.t 7], none⟩,
    ⟨some 48, .ldI 1 false, [.t 47], none⟩,
    ⟨some 49, .bin .add, [.t 46, .t 48], none⟩,
    ⟨some 50, .bin .lss, [.t 44, .t 49], none⟩])
  (.cond (.t 50)
    .skip
    (.exit 2)))
  (.seq (.block 3 (.seq (.ops [⟨some 53, .ldI 4 true, [.t 2], none⟩,
      ⟨some 54, .mv, [.t 8], none⟩,
      ⟨some 55, .call f_window_Owner, [.t 53, .t 54], none⟩,
      ⟨some 56, .fa 0, [.t 7], none⟩,
      ⟨some 57, .ldI 1 false, [.t 56], none⟩,
      ⟨some 58, .bin .neq, [.t 55, .t 57], none⟩])
    (.cond (.t 58)
      (.seq (.ops [⟨some 4, .mv, [.c (.bool false)], none⟩])
      .ret)
      .skip)))
  (.ops [⟨some 51, .mv, [.t 8], none⟩,
    ⟨some 52, .bin .add, [.t 51, .c (.int .i64 1)], none⟩,
    ⟨some 8, .mv, [.tk 52], none⟩])))
def b1_law13_WindowRight : ACode :=
  (.seq (.ops [⟨some 38, .bin .lss, [.t 37, .t 36], none⟩])
  (.seq (.cond (.t 38)
    .skip
    (.exit 0))
  (.seq (.block 1 (.seq (.ops [⟨some 39, .mv, [.t 37], none⟩,
      ⟨some 40, .ixA 3, [.t 35, .t 37], none⟩,
      ⟨some 41, .ldI 3 true, [.t 40], none⟩,
      ⟨some 7, .frs 3, [], none⟩,
      ⟨some 6, .mv, [.tk 39], none⟩,
      ⟨some 7, .ini 3, [.tk 7, .t 41], none⟩])
    (.seq (.seq (.ops [⟨some 42, .fa 1, [.t 7], none⟩,
      ⟨some 43, .ldI 1 false, [.t 42], none⟩,
      ⟨some 8, .mv, [.tk 43], none⟩])
    (.block 2 (.loop b0_law13_WindowRight)))
    (.seq (.seq (.ops [⟨some 59, .mv, [.t 6], none⟩,
      ⟨some 60, .bin .gtr, [.t 59, .c (.int .i64 0)], none⟩,
      ⟨some 61, .mv, [.tk 60], none⟩,
      ⟨some 62, .fa 2, [.t 2], some (61, true)⟩,
      ⟨some 63, .ldI 1 false, [.t 62], some (61, true)⟩,
      ⟨some 64, .mv, [.t 6], some (61, true)⟩,
      ⟨some 65, .bin .sub, [.t 64, .c (.int .i64 1)], some (61, true)⟩,
      ⟨some 66, .ixA 3, [.t 63, .t 65], some (61, true)⟩,
      ⟨some 67, .ldI 3 true, [.t 66], some (61, true)⟩,
      ⟨some 68, .ldI 3 true, [.t 7], some (61, true)⟩,
      ⟨some 69, .call f_window_Touch, [.t 67, .t 68], some (61, true)⟩,
      ⟨some 70, .pick, [.t 61, .t 69, .c (.bool false)], none⟩])
    (.cond (.t 70)
      (.seq (.ops [⟨some 4, .mv, [.c (.bool false)], none⟩])
      .ret)
      .skip))
    (.ops [⟨some 71, .mv, [.t 5], none⟩,
      ⟨some 72, .fa 2, [.t 7], none⟩,
      ⟨some 73, .ldI 1 false, [.t 72], none⟩,
      ⟨some 74, .bin .add, [.t 71, .t 73], none⟩,
      ⟨some 5, .mv, [.tk 74], none⟩])))))
  (.ops [⟨some 75, .bin .add, [.t 37, .c (.int .i64 1)], none⟩,
    ⟨some 37, .mv, [.tk 75], none⟩]))))
/-- countwheel/countwheellaw13.WindowRight -/
def a_law13_WindowRight : AFunc := ⟨2, [.t 4],
  (.seq (.ops [⟨some 2, .box, [.t 0], none⟩,
    ⟨some 4, .mv, [.c (.bool false)], none⟩])
  (.seq (.seq (.ops [⟨some 9, .ldI 4 true, [.t 2], none⟩,
    ⟨some 10, .call f_ref09_Right, [.t 9], none⟩,
    ⟨some 11, .bin .neq, [.t 10, .c (.int .i64 0)], none⟩,
    ⟨some 12, .mv, [.tk 11], none⟩,
    ⟨some 13, .fa 1, [.t 2], some (12, false)⟩,
    ⟨some 14, .ldI 1 false, [.t 13], some (12, false)⟩,
    ⟨some 15, .bin .gtr, [.t 14, .c (.int .i64 300)], some (12, false)⟩,
    ⟨some 16, .pick, [.t 12, .c (.bool true), .t 15], none⟩,
    ⟨some 17, .mv, [.tk 16], none⟩,
    ⟨some 18, .fa 2, [.t 2], some (17, false)⟩,
    ⟨some 19, .ldI 1 false, [.t 18], some (17, false)⟩,
    ⟨some 20, .lenL, [.t 19], some (17, false)⟩,
    ⟨some 21, .bin .gtr, [.t 20, .c (.int .i64 40)], some (17, false)⟩,
    ⟨some 22, .pick, [.t 17, .c (.bool true), .t 21], none⟩,
    ⟨some 23, .mv, [.tk 22], none⟩,
    ⟨some 24, .mv, [.t 1], some (23, false)⟩,
    ⟨some 25, .lenL, [.t 24], some (23, false)⟩,
    ⟨some 26, .bin .gtr, [.t 25, .c (.int .i64 60)], some (23, false)⟩,
    ⟨some 27, .pick, [.t 23, .c (.bool true), .t 26], none⟩])
  (.cond (.t 27)
    (.seq (.ops [⟨some 28, .call f_law13_awake, [], none⟩,
      ⟨some 4, .mv, [.tk 28], none⟩])
    .ret)
    .skip))
  (.seq (.seq (.ops [⟨some 29, .ldI 4 true, [.t 2], none⟩,
    ⟨some 30, .mv, [.t 1], none⟩,
    ⟨some 31, .call f_window_Check, [.t 29, .t 30], none⟩,
    ⟨some 32, .nilI true, [.t 31], none⟩])
  (.cond (.t 32)
    (.seq (.ops [⟨some 33, .call f_law13_awake, [], none⟩,
      ⟨some 4, .mv, [.tk 33], none⟩])
    .ret)
    .skip))
  (.seq (.ops [⟨some 5, .mv, [.c (.int .i64 0)], none⟩])
  (.seq (.seq (.ops [⟨some 34, .fa 2, [.t 2], none⟩,
    ⟨some 35, .ldI 1 false, [.t 34], none⟩,
    ⟨some 36, .lenL, [.t 35], none⟩,
    ⟨some 37, .mv, [.c (.int .i64 0)], none⟩])
  (.block 0 (.loop b1_law13_WindowRight)))
  (.seq (.ops [⟨some 76, .ldI 4 true, [.t 2], none⟩,
    ⟨some 77, .call f_window_Busy, [.t 76], none⟩,
    ⟨some 78, .mv, [.t 5], none⟩,
    ⟨some 79, .bin .eql, [.t 77, .t 78], none⟩,
    ⟨some 80, .mv, [.tk 79], none⟩,
    ⟨some 81, .call f_law13_awake, [], some (80, true)⟩,
    ⟨some 82, .pick, [.t 80, .t 81, .c (.bool false)], none⟩,
    ⟨some 4, .mv, [.tk 82], none⟩])
  .ret))))))⟩
def b0_ref09_Right : ACode :=
  (.seq (.seq (.ops [⟨some 21, .mv, [.t 3], none⟩,
    ⟨some 22, .fa 2, [.t 1], none⟩,
    ⟨some 23, .ldI 1 false, [.t 22], none⟩,
    ⟨some 24, .lenL, [.t 23], none⟩,
    ⟨some 25, .bin .lss, [.t 21, .t 24], none⟩])
  (.cond (.t 25)
    .skip
    (.exit 0)))
  (.seq (.block 1 (.seq (.ops [⟨some 28, .fa 2, [.t 1], none⟩,
      ⟨some 29, .ldI 1 false, [.t 28], none⟩,
      ⟨some 30, .mv, [.t 3], none⟩,
      ⟨some 31, .ixA 3, [.t 29, .t 30], none⟩,
      ⟨some 32, .ldI 3 true, [.t 31], none⟩,
      ⟨some 4, .frs 3, [], none⟩,
      ⟨some 4, .ini 3, [.tk 4, .t 32], none⟩])
    (.seq (.ops [⟨some 33, .fa 0, [.t 4], none⟩,
      ⟨some 34, .ldI 1 false, [.t 33], none⟩,
      ⟨some 35, .call f_ref09_in, [.t 34, .c (.int .i64 0), .c (.int .i64 255)], none⟩,
      ⟨some 36, .unot, [.t 35], none⟩,
      ⟨some 37, .mv, [.tk 36], none⟩,
      ⟨some 38, .fa 1, [.t 4], some (37, false)⟩,
      ⟨some 39, .ldI 1 false, [.t 38], some (37, false)⟩,
      ⟨some 40, .call f_ref09_in, [.t 39, .c (.int .i64 0), .c (.int .i64 1048576)], some (37, false)⟩,
      ⟨some 41, .unot, [.t 40], some (37, false)⟩,
      ⟨some 42, .pick, [.t 37, .c (.bool true), .t 41], none⟩,
      ⟨some 43, .mv, [.tk 42], none⟩,
      ⟨some 44, .fa 2, [.t 4], some (43, false)⟩,
      ⟨some 45, .ldI 1 false, [.t 44], some (43, false)⟩,
      ⟨some 46, .call f_ref09_in, [.t 45, .c (.int .i64 0), .c (.int .i64 1048576)], some (43, false)⟩,
      ⟨some 47, .unot, [.t 46], some (43, false)⟩,
      ⟨some 48, .pick, [.t 43, .c (.bool true), .t 47], none⟩])
    (.cond (.t 48)
      (.seq (.ops [⟨some 2, .mv, [.c (.int .i64 18)], none⟩])
      .ret)
      .skip))))
  (.ops [⟨some 26, .mv, [.t 3], none⟩,
    ⟨some 27, .bin .add, [.t 26, .c (.int .i64 1)], none⟩,
    ⟨some 3, .mv, [.tk 27], none⟩])))
def b1_ref09_Right : ACode :=
  (.seq (.seq (.ops [⟨some 53, .mv, [.t 5], none⟩,
    ⟨some 54, .fa 3, [.t 1], none⟩,
    ⟨some 55, .ldI 1 false, [.t 54], none⟩,
    ⟨some 56, .lenL, [.t 55], none⟩,
    ⟨some 57, .bin .lss, [.t 53, .t 56], none⟩])
  (.cond (.t 57)
    .skip
    (.exit 2)))
  (.seq (.block 3 (.seq (.ops [⟨some 60, .fa 3, [.t 1], none⟩,
      ⟨some 61, .ldI 1 false, [.t 60], none⟩,
      ⟨some 62, .mv, [.t 5], none⟩,
      ⟨some 63, .ixA 3, [.t 61, .t 62], none⟩,
      ⟨some 64, .ldI 3 true, [.t 63], none⟩,
      ⟨some 6, .frs 3, [], none⟩,
      ⟨some 6, .ini 3, [.tk 6, .t 64], none⟩])
    (.seq (.ops [⟨some 65, .fa 0, [.t 6], none⟩,
      ⟨some 66, .ldI 1 false, [.t 65], none⟩,
      ⟨some 67, .call f_ref09_in, [.t 66, .c (.int .i64 0), .c (.int .i64 255)], none⟩,
      ⟨some 68, .unot, [.t 67], none⟩,
      ⟨some 69, .mv, [.tk 68], none⟩,
      ⟨some 70, .fa 1, [.t 6], some (69, false)⟩,
      ⟨some 71, .ldI 1 false, [.t 70], some (69, false)⟩,
      ⟨some 72, .call f_ref09_in, [.t 71, .c (.int .i64 0), .c (.int .i64 1048576)], some (69, false)⟩,
      ⟨some 73, .unot, [.t 72], some (69, false)⟩,
      ⟨some 74, .pick, [.t 69, .c (.bool true), .t 73], none⟩,
      ⟨some 75, .mv, [.tk 74], none⟩,
      ⟨some 76, .fa 2, [.t 6], some (75, false)⟩,
      ⟨some 77, .ldI 1 false, [.t 76], some (75, false)⟩,
      ⟨some 78, .call f_ref09_in, [.t 77, .c (.int .i64 0), .c (.int .i64 1048576)], some (75, false)⟩,
      ⟨some 79, .unot, [.t 78], some (75, false)⟩,
      ⟨some 80, .pick, [.t 75, .c (.bool true), .t 79], none⟩])
    (.cond (.t 80)
      (.seq (.ops [⟨some 2, .mv, [.c (.int .i64 18)], none⟩])
      .ret)
      .skip))))
  (.ops [⟨some 58, .mv, [.t 5], none⟩,
    ⟨some 59, .bin .add, [.t 58, .c (.int .i64 1)], none⟩,
    ⟨some 5, .mv, [.tk 59], none⟩])))
/-- countwheel/countwheelref09.Right -/
def a_ref09_Right : AFunc := ⟨1, [.t 2],
  (.seq (.ops [⟨some 1, .box, [.t 0], none⟩,
    ⟨some 2, .mv, [.c (.int .i64 0)], none⟩])
  (.seq (.seq (.ops [⟨some 7, .fa 0, [.t 1], none⟩,
    ⟨some 8, .ldI 1 false, [.t 7], none⟩,
    ⟨some 9, .call f_ref09_in, [.t 8, .c (.int .i64 0), .c (.int .i64 255)], none⟩,
    ⟨some 10, .unot, [.t 9], none⟩,
    ⟨some 11, .mv, [.tk 10], none⟩,
    ⟨some 12, .fa 1, [.t 1], some (11, false)⟩,
    ⟨some 13, .ldI 1 false, [.t 12], some (11, false)⟩,
    ⟨some 14, .call f_ref09_in, [.t 13, .c (.int .i64 1), .c (.int .i64 1048576)], some (11, false)⟩,
    ⟨some 15, .unot, [.t 14], some (11, false)⟩,
    ⟨some 16, .pick, [.t 11, .c (.bool true), .t 15], none⟩])
  (.cond (.t 16)
    (.seq (.ops [⟨some 2, .mv, [.c (.int .i64 18)], none⟩])
    .ret)
    .skip))
  (.seq (.seq (.ops [⟨some 17, .fa 2, [.t 1], none⟩,
    ⟨some 18, .ldI 1 false, [.t 17], none⟩,
    ⟨some 19, .lenL, [.t 18], none⟩,
    ⟨some 20, .bin .gtr, [.t 19, .c (.int .i64 256)], none⟩])
  (.cond (.t 20)
    (.seq (.ops [⟨some 2, .mv, [.c (.int .i64 8)], none⟩])
    .ret)
    .skip))
  (.seq (.seq (.ops [⟨some 3, .mv, [.c (.int .i64 0)], none⟩])
  (.block 0 (.loop b0_ref09_Right)))
  (.seq (.seq (.ops [⟨some 49, .fa 3, [.t 1], none⟩,
    ⟨some 50, .ldI 1 false, [.t 49], none⟩,
    ⟨some 51, .lenL, [.t 50], none⟩,
    ⟨some 52, .bin .gtr, [.t 51, .c (.int .i64 32)], none⟩])
  (.cond (.t 52)
    (.seq (.ops [⟨some 2, .mv, [.c (.int .i64 8)], none⟩])
    .ret)
    .skip))
  (.seq (.seq (.ops [⟨some 5, .mv, [.c (.int .i64 0)], none⟩])
  (.block 2 (.loop b1_ref09_Right)))
  (.seq (.ops [⟨some 2, .mv, [.c (.int .i64 0)], none⟩])
  .ret)))))))⟩
/-- countwheel/countwheellaw13.awake -/
def a_law13_awake : AFunc := ⟨0, [.t 0],
  (.seq (.ops [⟨some 0, .mv, [.c (.bool false)], none⟩])
  (.seq (.ops [⟨some 2, .agg [(.int .i64 0), (.int .i64 0), (.int .i64 0)] [(2, 1)], [.c (.int .i64 4)], none⟩,
    ⟨some 3, .agg [(.int .i64 0), (.int .i64 0), (.int .i64 0)] [(1, 1), (2, 1)], [.c (.int .i64 3), .c (.int .i64 2)], none⟩,
    ⟨some 4, .lit 3, [.t 2, .t 3], none⟩,
    ⟨some 5, .agg [(.int .i64 0), (.int .i64 0), (.sl true 3 []), (.sl true 3 [])] [(1, 1), (2, 1)], [.c (.int .i64 10), .t 4], none⟩,
    ⟨some 6, .lit 1, [.c (.int .i64 0)], none⟩,
    ⟨some 7, .call f_window_Check, [.t 5, .t 6], none⟩,
    ⟨some 1, .mv, [.tk 7], none⟩])
  (.seq (.ops [⟨some 8, .mv, [.tk 1], none⟩,
    ⟨some 9, .call f_fault_Of, [.t 8], none⟩,
    ⟨some 10, .agg [(.int .i64 0), (.int .i64 0), (.int .i64 0)] [(0, 1), (2, 1)], [.c (.int .i64 12), .c (.int .i64 1)], none⟩,
    ⟨some 11, .eqs t_api_Fault [0, 0, 0] false, [.t 9, .t 10], none⟩,
    ⟨some 0, .mv, [.tk 11], none⟩])
  .ret)))⟩
def b0_window_Check : ACode :=
  (.seq (.ops [⟨some 11, .bin .lss, [.t 10, .t 9], none⟩])
  (.seq (.cond (.t 11)
    .skip
    (.exit 0))
  (.seq (.block 1 (.seq (.ops [⟨some 12, .mv, [.t 10], none⟩,
      ⟨some 5, .mv, [.tk 12], none⟩])
    (.seq (.ops [⟨some 13, .ldI 4 true, [.t 2], none⟩,
      ⟨some 14, .mv, [.t 5], none⟩,
      ⟨some 15, .mv, [.tk 1], none⟩,
      ⟨some 16, .call f_window_wrong, [.t 13, .t 14, .t 15], none⟩,
      ⟨some 17, .call f_fault_New, [.t 16], none⟩,
      ⟨some 6, .mv, [.tk 17], none⟩])
    (.seq (.ops [⟨some 18, .mv, [.t 6], none⟩,
      ⟨some 19, .nilI true, [.t 18], none⟩])
    (.cond (.t 19)
      (.seq (.ops [⟨some 20, .mv, [.t 5], none⟩,
        ⟨some 21, .mv, [.t 6], none⟩,
        ⟨some 22, .call f_fault_At, [.t 20, .t 21], none⟩,
        ⟨some 4, .mv, [.tk 22], none⟩])
      .ret)
      .skip)))))
  (.ops [⟨some 23, .bin .add, [.t 10, .c (.int .i64 1)], none⟩,
    ⟨some 10, .mv, [.tk 23], none⟩]))))
/-- countwheel/window.Check -/
def a_window_Check : AFunc := ⟨2, [.t 4],
  (.seq (.ops [⟨some 2, .box, [.t 0], none⟩,
    ⟨some 4, .mv, [.c .nili], none⟩])
  (.seq (.seq (.ops [⟨some 7, .fa 2, [.t 2], none⟩,
    ⟨some 8, .ldI 1 false, [.t 7], none⟩,
    ⟨some 9, .lenL, [.t 8], none⟩,
    ⟨some 10, .mv, [.c (.int .i64 0)], none⟩])
  (.block 0 (.loop b0_window_Check)))
  (.seq (.ops [⟨some 4, .mv, [.c .nili], none⟩])
  .ret)))⟩
/-- countwheel/window.Owner -/
def a_window_Owner : AFunc := ⟨2, [.t 4],
  (.seq (.ops [⟨some 2, .box, [.t 0], none⟩,
    ⟨some 3, .box, [.t 1], none⟩,
    ⟨some 4, .mv, [.c (.int .i64 0)], none⟩])
  (.seq (.seq (.ops [⟨some 6, .ldI 1 false, [.t 3], none⟩,
    ⟨some 7, .bin .lss, [.t 6, .c (.int .i64 0)], none⟩,
    ⟨some 8, .mv, [.tk 7], none⟩,
    ⟨some 9, .ldI 1 false, [.t 3], some (8, false)⟩,
    ⟨some 10, .fa 1, [.t 2], some (8, false)⟩,
    ⟨some 11, .ldI 1 false, [.t 10], some (8, false)⟩,
    ⟨some 12, .bin .geq, [.t 9, .t 11], some (8, false)⟩,
    ⟨some 13, .pick, [.t 8, .c (.bool true), .t 12], none⟩])
  (.cond (.t 13)
    (.seq (.ops [⟨some 4, .mv, [.c (.int .i64 (-1))], none⟩])
    .ret)
    .skip))
  (.seq (.ops [⟨some 14, .fa 2, [.t 2], none⟩,
    ⟨some 15, .ldI 1 false, [.t 14], none⟩,
    ⟨some 16, .mkF f_window_Owner_1, [.t 3], none⟩,
    ⟨some 17, .call f_slices_IndexFunc___api_Window_api_Window_, [.t 15, .t 16], none⟩,
    ⟨some 5, .mv, [.tk 17], none⟩])
  (.seq (.seq (.ops [⟨some 18, .mv, [.t 5], none⟩,
    ⟨some 19, .bin .lss, [.t 18, .c (.int .i64 0)], none⟩])
  (.cond (.t 19)
    (.seq (.ops [⟨some 4, .mv, [.c (.int .i64 (-1))], none⟩])
    .ret)
    .skip))
  (.seq (.ops [⟨some 20, .fa 2, [.t 2], none⟩,
    ⟨some 21, .ldI 1 false, [.t 20], none⟩,
    ⟨some 22, .mv, [.t 5], none⟩,
    ⟨some 23, .ixA 3, [.t 21, .t 22], none⟩,
    ⟨some 24, .fa 0, [.t 23], none⟩,
    ⟨some 25, .ldI 1 false, [.t 24], none⟩,
    ⟨some 4, .mv, [.tk 25], none⟩])
  .ret)))))⟩
/-- countwheel/window.Touch -/
def a_window_Touch : AFunc := ⟨2, [.t 4],
  (.seq (.ops [⟨some 2, .box, [.t 0], none⟩,
    ⟨some 3, .box, [.t 1], none⟩,
    ⟨some 4, .mv, [.c (.bool false)], none⟩])
  (.seq (.ops [⟨some 5, .fa 1, [.t 2], none⟩,
    ⟨some 6, .ldI 1 false, [.t 5], none⟩,
    ⟨some 7, .fa 1, [.t 3], none⟩,
    ⟨some 8, .ldI 1 false, [.t 7], none⟩,
    ⟨some 9, .mx, [.t 6, .t 8], none⟩,
    ⟨some 10, .fa 1, [.t 2], none⟩,
    ⟨some 11, .ldI 1 false, [.t 10], none⟩,
    ⟨some 12, .fa 2, [.t 2], none⟩,
    ⟨some 13, .ldI 1 false, [.t 12], none⟩,
    ⟨some 14, .bin .add, [.t 11, .t 13], none⟩,
    ⟨some 15, .fa 1, [.t 3], none⟩,
    ⟨some 16, .ldI 1 false, [.t 15], none⟩,
    ⟨some 17, .fa 2, [.t 3], none⟩,
    ⟨some 18, .ldI 1 false, [.t 17], none⟩,
    ⟨some 19, .bin .add, [.t 16, .t 18], none⟩,
    ⟨some 20, .mn, [.t 14, .t 19], none⟩,
    ⟨some 21, .bin .lss, [.t 9, .t 20], none⟩,
    ⟨some 4, .mv, [.tk 21], none⟩])
  .ret))⟩
/-- countwheel/window.Busy -/
def a_window_Busy : AFunc := ⟨1, [.t 2],
  (.seq (.ops [⟨some 1, .box, [.t 0], none⟩,
    ⟨some 2, .mv, [.c (.int .i64 0)], none⟩])
  (.seq (.ops [⟨some 3, .ldI 4 true, [.t 1], none⟩,
    ⟨some 4, .call f_window_count, [.t 3, .f f_window_Busy_1], none⟩,
    ⟨some 2, .mv, [.tk 4], none⟩])
  .ret))⟩
/-- countwheel/countwheelref09.in -/
def a_ref09_in : AFunc := ⟨3, [.t 6],
  (.seq (.ops [⟨some 6, .mv, [.c (.bool false)], none⟩])
  (.seq (.ops [⟨some 7, .mv, [.t 0], none⟩,
    ⟨some 8, .mv, [.tk 1], none⟩,
    ⟨some 9, .bin .geq, [.t 7, .t 8], none⟩,
    ⟨some 10, .mv, [.tk 9], none⟩,
    ⟨some 11, .mv, [.t 0], some (10, true)⟩,
    ⟨some 12, .mv, [.tk 2], some (10, true)⟩,
    ⟨some 13, .bin .leq, [.t 11, .t 12], some (10, true)⟩,
    ⟨some 14, .pick, [.t 10, .t 13, .c (.bool false)], none⟩,
    ⟨some 6, .mv, [.tk 14], none⟩])
  .ret))⟩
/-- countwheel/fault.Of -/
def a_fault_Of : AFunc := ⟨1, [.cell 2 3 true],
  (.seq (.ops [⟨some 2, .hnew [(.int .i64 0), (.int .i64 0), (.int .i64 0)], [], none⟩])
  (.seq (.seq (.ops [⟨some 7, .mv, [.t 0], none⟩,
    ⟨some 8, .nilI false, [.t 7], none⟩])
  (.cond (.t 8)
    (.seq (.ops [⟨some 9, .agg [(.int .i64 0), (.int .i64 0), (.int .i64 0)] [], [], none⟩,
      ⟨none, .hst 3, [.t 2, .t 9], none⟩])
    .ret)
    .skip))
  (.seq (.ops [⟨some 10, .agg [(.int .i64 0), (.int .i64 0), (.int .i64 0)] [(0, 1)], [.c (.int .i64 1)], none⟩,
    ⟨some 3, .hnew [(.int .i64 0), (.int .i64 0), (.int .i64 0)], [], none⟩,
    ⟨none, .hst 3, [.t 3, .t 10], none⟩])
  (.seq (.ops [⟨some 4, .hnew [(.int .i64 0)], [], none⟩])
  (.seq (.seq (.ops [⟨some 11, .mv, [.t 0], none⟩,
    ⟨some 12, .mkI t_pfault_class, [.t 4], none⟩,
    ⟨some 13, .hcall f_errors_As, [.t 11, .t 12], none⟩])
  (.cond (.t 13)
    (.ops [⟨some 14, .hld 1 false, [.t 4], none⟩,
      ⟨some 15, .fa 0, [.t 3], none⟩,
      ⟨none, .hst 1, [.t 15, .t 14], none⟩])
    .skip))
  (.seq (.ops [⟨some 5, .hnew [.nilp], [], none⟩])
  (.seq (.seq (.ops [⟨some 16, .mv, [.t 0], none⟩,
    ⟨some 17, .mkI t_ppfault_section, [.t 5], none⟩,
    ⟨some 18, .hcall f_errors_As, [.t 16, .t 17], none⟩])
  (.cond (.t 18)
    (.ops [⟨some 19, .hld 1 false, [.t 5], none⟩,
      ⟨some 20, .nilck, [.tk 19], none⟩,
      ⟨some 21, .fa 0, [.t 20], none⟩,
      ⟨some 22, .hld 1 false, [.t 21], none⟩,
      ⟨some 23, .fa 1, [.t 3], none⟩,
      ⟨none, .hst 1, [.t 23, .t 22], none⟩])
    .skip))
  (.seq (.ops [⟨some 6, .hnew [.nilp], [], none⟩])
  (.seq (.seq (.ops [⟨some 24, .mv, [.t 0], none⟩,
    ⟨some 25, .mkI t_ppfault_place, [.t 6], none⟩,
    ⟨some 26, .hcall f_errors_As, [.t 24, .t 25], none⟩])
  (.cond (.t 26)
    (.ops [⟨some 27, .hld 1 false, [.t 6], none⟩,
      ⟨some 28, .nilck, [.tk 27], none⟩,
      ⟨some 29, .fa 0, [.t 28], none⟩,
      ⟨some 30, .hld 1 false, [.t 29], none⟩,
      ⟨some 31, .fa 2, [.t 3], none⟩,
      ⟨none, .hst 1, [.t 31, .t 30], none⟩])
    .skip))
  (.seq (.ops [⟨some 32, .hld 3 true, [.t 3], none⟩,
    ⟨none, .hst 3, [.t 2, .t 32], none⟩])
  .ret))))))))))⟩
/-- countwheel/fault.New -/
def a_fault_New : AFunc := ⟨1, [.t 2],
  (.seq (.ops [⟨some 2, .mv, [.c .nili], none⟩])
  (.seq (.seq (.ops [⟨some 3, .mv, [.t 0], none⟩,
    ⟨some 4, .call f_fault_Name, [.t 3], none⟩,
    ⟨some 5, .bin .eql, [.t 4, .c (.str [])], none⟩])
  (.cond (.t 5)
    (.seq (.ops [⟨some 2, .mv, [.c .nili], none⟩])
    .ret)
    .skip))
  (.seq (.ops [⟨some 6, .mv, [.t 0], none⟩,
    ⟨some 7, .mkI t_fault_class, [.t 6], none⟩,
    ⟨some 2, .mv, [.tk 7], none⟩])
  .ret)))⟩
/-- countwheel/window.wrong -/
def a_window_wrong : AFunc := ⟨3, [.t 6],
  (.seq (.ops [⟨some 3, .box, [.t 0], none⟩,
    ⟨some 6, .mv, [.c (.int .i64 0)], none⟩])
  (.seq (.ops [⟨some 9, .fa 2, [.t 3], none⟩,
    ⟨some 10, .ldI 1 false, [.t 9], none⟩,
    ⟨some 11, .mv, [.t 1], none⟩,
    ⟨some 12, .ixA 3, [.t 10, .t 11], none⟩,
    ⟨some 13, .ldI 3 true, [.t 12], none⟩,
    ⟨some 7, .frs 3, [], none⟩,
    ⟨some 7, .ini 3, [.tk 7, .t 13], none⟩])
  (.seq (.ops [⟨some 8, .hnew [(.int .i64 0), (.int .i64 0), (.int .i64 0)], [], none⟩])
  (.seq (.seq (.ops [⟨some 14, .mv, [.t 1], none⟩,
    ⟨some 15, .bin .gtr, [.t 14, .c (.int .i64 0)], none⟩])
  (.cond (.t 15)
    (.ops [⟨some 16, .fa 2, [.t 3], none⟩,
      ⟨some 17, .ldI 1 false, [.t 16], none⟩,
      ⟨some 18, .mv, [.t 1], none⟩,
      ⟨some 19, .bin .sub, [.t 18, .c (.int .i64 1)], none⟩,
      ⟨some 20, .ixA 3, [.t 17, .t 19], none⟩,
      ⟨some 21, .ldI 3 true, [.t 20], none⟩,
      ⟨none, .hst 3, [.t 8, .t 21], none⟩])
    .skip))
  (.seq (.block 0 (.seq (.ops [⟨some 23, .mv, [.tk 2], none⟩,
      ⟨some 24, .fa 0, [.t 7], none⟩,
      ⟨some 25, .ldI 1 false, [.t 24], none⟩,
      ⟨some 26, .call f_slices_Contains___int_int_, [.t 23, .t 25], none⟩,
      ⟨some 27, .unot, [.t 26], none⟩,
      ⟨some 22, .mv, [.tk 27], none⟩])
    (.cond (.t 22)
      (.seq (.ops [⟨some 6, .mv, [.c (.int .i64 10)], none⟩])
      .ret)
      (.seq (.ops [⟨some 29, .ldI 3 true, [.t 7], none⟩,
        ⟨some 30, .fa 1, [.t 3], none⟩,
        ⟨some 31, .ldI 1 false, [.t 30], none⟩,
        ⟨some 32, .call f_window_fits, [.t 29, .t 31], none⟩,
        ⟨some 33, .unot, [.t 32], none⟩,
        ⟨some 28, .mv, [.tk 33], none⟩])
      (.cond (.t 28)
        (.seq (.ops [⟨some 6, .mv, [.c (.int .i64 11)], none⟩])
        .ret)
        (.seq (.ops [⟨some 35, .fa 1, [.t 7], none⟩,
          ⟨some 36, .ldI 1 false, [.t 35], none⟩,
          ⟨some 37, .fa 1, [.t 8], none⟩,
          ⟨some 38, .hld 1 false, [.t 37], none⟩,
          ⟨some 39, .bin .lss, [.t 36, .t 38], none⟩,
          ⟨some 34, .mv, [.tk 39], none⟩])
        (.cond (.t 34)
          (.seq (.ops [⟨some 6, .mv, [.c (.int .i64 9)], none⟩])
          .ret)
          (.seq (.ops [⟨some 41, .fa 1, [.t 7], none⟩,
            ⟨some 42, .ldI 1 false, [.t 41], none⟩,
            ⟨some 43, .fa 1, [.t 8], none⟩,
            ⟨some 44, .hld 1 false, [.t 43], none⟩,
            ⟨some 45, .fa 2, [.t 8], none⟩,
            ⟨some 46, .hld 1 false, [.t 45], none⟩,
            ⟨some 47, .bin .add, [.t 44, .t 46], none⟩,
            ⟨some 48, .bin .lss, [.t 42, .t 47], none⟩,
            ⟨some 40, .mv, [.tk 48], none⟩])
          (.cond (.t 40)
            (.seq (.ops [⟨some 6, .mv, [.c (.int .i64 12)], none⟩])
            .ret)
            .skip)))))))))
  (.seq (.ops [⟨some 6, .mv, [.c (.int .i64 0)], none⟩])
  .ret))))))⟩
/-- countwheel/fault.At -/
def a_fault_At : AFunc := ⟨2, [.t 4],
  (.seq (.ops [⟨some 4, .mv, [.c .nili], none⟩])
  (.seq (.seq (.ops [⟨some 5, .mv, [.t 1], none⟩,
    ⟨some 6, .nilI false, [.t 5], none⟩])
  (.cond (.t 6)
    (.seq (.ops [⟨some 4, .mv, [.c .nili], none⟩])
    .ret)
    .skip))
  (.seq (.ops [⟨some 7, .mv, [.tk 0], none⟩,
    ⟨some 8, .mv, [.t 1], none⟩,
    ⟨some 9, .agg [(.int .i64 0), .nili] [(0, 1), (1, 1)], [.t 7, .t 8], none⟩,
    ⟨some 10, .box, [.t 9], none⟩,
    ⟨some 11, .mkI t_pfault_place, [.t 10], none⟩,
    ⟨some 4, .mv, [.tk 11], none⟩])
  .ret)))⟩
def b0_slices_IndexFunc___api_Window_api_Window_ : ACode :=
  (.seq (.ops [⟨some 9, .bin .lss, [.t 8, .t 7], none⟩])
  (.seq (.cond (.t 9)
    .skip
    (.exit 0))
  (.seq (.block 1 (.seq (.ops [⟨some 10, .mv, [.t 8], none⟩,
      ⟨some 5, .mv, [.tk 10], none⟩])
    (.seq (.ops [⟨some 11, .mv, [.tk 1], none⟩,
      ⟨some 12, .mv, [.t 0], none⟩,
      ⟨some 13, .mv, [.t 5], none⟩,
      ⟨some 14, .ixA 3, [.t 12, .t 13], none⟩,
      ⟨some 15, .ldI 3 true, [.t 14], none⟩,
      ⟨some 16, .callV, [.t 11, .t 15], none⟩])
    (.cond (.t 16)
      (.seq (.ops [⟨some 17, .mv, [.tk 5], none⟩,
        ⟨some 4, .mv, [.tk 17], none⟩])
      .ret)
      .skip))))
  (.ops [⟨some 18, .bin .add, [.t 8, .c (.int .i64 1)], none⟩,
    ⟨some 8, .mv, [.tk 18], none⟩]))))
/-- slices.IndexFunc[[]countwheel/api.Window,countwheel/api.Window] -/
def a_slices_IndexFunc___api_Window_api_Window_ : AFunc := ⟨2, [.t 4],
  (.seq (.ops [⟨some 4, .mv, [.c (.int .i64 0)], none⟩])
  (.seq (.seq (.ops [⟨some 6, .mv, [.t 0], none⟩,
    ⟨some 7, .lenL, [.t 6], none⟩,
    ⟨some 8, .mv, [.c (.int .i64 0)], none⟩])
  (.block 0 (.loop b0_slices_IndexFunc___api_Window_api_Window_)))
  (.seq (.ops [⟨some 4, .mv, [.c (.int .i64 (-1))], none⟩])
  .ret)))⟩
/-- countwheel/window.Owner$1 -/
def a_window_Owner_1 : AFunc := ⟨2, [.t 3],
  (.seq (.ops [⟨some 2, .box, [.t 0], none⟩,
    ⟨some 3, .mv, [.c (.bool false)], none⟩])
  (.seq (.ops [⟨some 4, .ldI 3 true, [.t 2], none⟩,
    ⟨some 5, .hld 1 false, [.t 1], none⟩,
    ⟨some 6, .call f_window_has, [.t 4, .t 5], none⟩,
    ⟨some 3, .mv, [.tk 6], none⟩])
  .ret))⟩
/-- countwheel/window.has -/
def a_window_has : AFunc := ⟨2, [.t 4],
  (.seq (.ops [⟨some 2, .box, [.t 0], none⟩,
    ⟨some 4, .mv, [.c (.bool false)], none⟩])
  (.seq (.ops [⟨some 5, .mv, [.t 1], none⟩,
    ⟨some 6, .fa 1, [.t 2], none⟩,
    ⟨some 7, .ldI 1 false, [.t 6], none⟩,
    ⟨some 8, .bin .geq, [.t 5, .t 7], none⟩,
    ⟨some 9, .mv, [.tk 8], none⟩,
    ⟨some 10, .mv, [.t 1], some (9, true)⟩,
    ⟨some 11, .fa 1, [.t 2], some (9, true)⟩,
    ⟨some 12, .ldI 1 false, [.t 11], some (9, true)⟩,
    ⟨some 13, .bin .sub, [.t 10, .t 12], some (9, true)⟩,
    ⟨some 14, .fa 2, [.t 2], some (9, true)⟩,
    ⟨some 15, .ldI 1 false, [.t 14], some (9, true)⟩,
    ⟨some 16, .bin .lss, [.t 13, .t 15], some (9, true)⟩,
    ⟨some 17, .pick, [.t 9, .t 16, .c (.bool false)], none⟩,
    ⟨some 4, .mv, [.tk 17], none⟩])
  .ret))⟩
def b0_window_count : ACode :=
  (.seq (.ops [⟨some 12, .bin .lss, [.t 11, .t 10], none⟩])
  (.seq (.cond (.t 12)
    .skip
    (.exit 0))
  (.seq (.block 1 (.seq (.ops [⟨some 13, .ixA 1, [.t 9, .t 11], none⟩,
      ⟨some 14, .ldI 1 false, [.t 13], none⟩,
      ⟨some 7, .mv, [.tk 14], none⟩])
    (.seq (.ops [⟨some 15, .mv, [.tk 1], none⟩,
      ⟨some 16, .mv, [.tk 7], none⟩,
      ⟨some 17, .callV, [.t 15, .t 16], none⟩])
    (.cond (.t 17)
      (.ops [⟨some 18, .mv, [.t 5], none⟩,
        ⟨some 19, .bin .add, [.t 18, .c (.int .i64 1)], none⟩,
        ⟨some 5, .mv, [.tk 19], none⟩])
      .skip))))
  (.ops [⟨some 20, .bin .add, [.t 11, .c (.int .i64 1)], none⟩,
    ⟨some 11, .mv, [.tk 20], none⟩]))))
/-- countwheel/window.count -/
def a_window_count : AFunc := ⟨2, [.t 4],
  (.seq (.ops [⟨some 2, .box, [.t 0], none⟩,
    ⟨some 4, .mv, [.c (.int .i64 0)], none⟩])
  (.seq (.ops [⟨some 5, .mv, [.c (.int .i64 0)], none⟩])
  (.seq (.seq (.ops [⟨some 8, .ldI 4 true, [.t 2], none⟩,
    ⟨some 9, .call f_window_Word, [.t 8], none⟩,
    ⟨some 10, .lenL, [.t 9], none⟩,
    ⟨some 11, .mv, [.c (.int .i64 0)], none⟩])
  (.block 0 (.loop b0_window_count)))
  (.seq (.ops [⟨some 21, .mv, [.tk 5], none⟩,
    ⟨some 4, .mv, [.tk 21], none⟩])
  .ret))))⟩
/-- countwheel/window.Busy$1 -/
def a_window_Busy_1 : AFunc := ⟨1, [.t 2],
  (.seq (.ops [⟨some 2, .mv, [.c (.bool false)], none⟩])
  (.seq (.ops [⟨some 3, .mv, [.tk 0], none⟩,
    ⟨some 4, .bin .neq, [.t 3, .c (.int .i64 (-1))], none⟩,
    ⟨some 2, .mv, [.tk 4], none⟩])
  .ret))⟩
/-- errors.As (not: panic) -/
def a_errors_As : AFunc := ⟨2, [.t 4],
  (.seq (.ops [⟨some 4, .mv, [.c (.bool false)], none⟩])
  (.seq (.seq (.ops [⟨some 8, .mv, [.t 0], none⟩,
    ⟨some 9, .nilI false, [.t 8], none⟩])
  (.cond (.t 9)
    (.seq (.ops [⟨some 4, .mv, [.c (.bool false)], none⟩])
    .ret)
    .skip))
  (.seq (.seq (.ops [⟨some 10, .mv, [.t 1], none⟩,
    ⟨some 11, .nilI false, [.t 10], none⟩])
  (.cond (.t 11)
    (.ops [⟨some 12, .mkI t_string, [.c (.str [101, 114, 114, 111, 114, 115, 58, 32, 116, 97, 114, 103, 101, 116, 32, 99, 97, 110, 110, 111, 116, 32, 98, 101, 32, 110, 105, 108])], none⟩,
      ⟨none, .bad, [], none⟩])
    .skip))
  (.seq (.ops [⟨some 13, .mv, [.t 1], none⟩,
    ⟨some 14, .x 1000038, [.t 13], none⟩,
    ⟨some 5, .frs 3, [], none⟩,
    ⟨some 5, .ini 3, [.tk 5, .t 14], none⟩])
  (.seq (.ops [⟨some 15, .ldI 3 true, [.t 5], none⟩,
    ⟨some 16, .x 1000039, [.t 15], none⟩,
    ⟨some 6, .mv, [.tk 16], none⟩])
  (.seq (.seq (.ops [⟨some 17, .mv, [.t 6], none⟩,
    ⟨some 18, .x 2000000, [.t 17], none⟩,
    ⟨some 19, .bin .neq, [.t 18, .c (.int .u8 22)], none⟩,
    ⟨some 20, .mv, [.tk 19], none⟩,
    ⟨some 21, .ldI 3 true, [.t 5], some (20, false)⟩,
    ⟨some 22, .x 1000040, [.t 21], some (20, false)⟩,
    ⟨some 23, .pick, [.t 20, .c (.bool true), .t 22], none⟩])
  (.cond (.t 23)
    (.ops [⟨some 24, .mkI t_string, [.c (.str [101, 114, 114, 111, 114, 115, 58, 32, 116, 97, 114, 103, 101, 116, 32, 109, 117, 115, 116, 32, 98, 101, 32, 97, 32, 110, 111, 110, 45, 110, 105, 108, 32, 112, 111, 105, 110, 116, 101, 114])], none⟩,
      ⟨none, .bad, [], none⟩])
    .skip))
  (.seq (.ops [⟨some 25, .mv, [.t 6], none⟩,
    ⟨some 26, .x 2000001, [.t 25], none⟩,
    ⟨some 7, .mv, [.tk 26], none⟩])
  (.seq (.seq (.ops [⟨some 27, .mv, [.t 7], none⟩,
    ⟨some 28, .x 2000000, [.t 27], none⟩,
    ⟨some 29, .bin .neq, [.t 28, .c (.int .u8 20)], none⟩,
    ⟨some 30, .mv, [.tk 29], none⟩,
    ⟨some 31, .mv, [.t 7], some (30, true)⟩,
    ⟨some 32, .x 4000081, [], some (30, true)⟩,
    ⟨some 33, .x 2000002, [.t 31, .t 32], some (30, true)⟩,
    ⟨some 34, .unot, [.t 33], some (30, true)⟩,
    ⟨some 35, .pick, [.t 30, .t 34, .c (.bool false)], none⟩])
  (.cond (.t 35)
    (.ops [⟨some 36, .mkI t_string, [.c (.str [101, 114, 114, 111, 114, 115, 58, 32, 42, 116, 97, 114, 103, 101, 116, 32, 109, 117, 115, 116, 32, 98, 101, 32, 105, 110, 116, 101, 114, 102, 97, 99, 101, 32, 111, 114, 32, 105, 109, 112, 108, 101, 109, 101, 110, 116, 32, 101, 114, 114, 111, 114])], none⟩,
      ⟨none, .bad, [], none⟩])
    .skip))
  (.seq (.ops [⟨some 37, .mv, [.t 0], none⟩,
    ⟨some 38, .mv, [.t 1], none⟩,
    ⟨some 39, .ldI 3 true, [.t 5], none⟩,
    ⟨some 40, .mv, [.t 7], none⟩,
    ⟨some 41, .hcall f_errors_as, [.t 37, .t 38, .t 39, .t 40], none⟩,
    ⟨some 4, .mv, [.tk 41], none⟩])
  .ret)))))))))⟩
/-- countwheel/fault.Name -/
def a_fault_Name : AFunc := ⟨1, [.t 2],
  (.seq (.ops [⟨some 2, .mv, [.c (.str [])], none⟩])
  (.seq (.ops [⟨some 4, .call f_fault_names, [], none⟩,
    ⟨some 3, .mv, [.tk 4], none⟩])
  (.seq (.seq (.ops [⟨some 5, .mv, [.t 0], none⟩,
    ⟨some 6, .bin .leq, [.t 5, .c (.int .i64 0)], none⟩,
    ⟨some 7, .mv, [.tk 6], none⟩,
    ⟨some 8, .mv, [.t 0], some (7, false)⟩,
    ⟨some 9, .mv, [.t 3], some (7, false)⟩,
    ⟨some 10, .lenL, [.t 9], some (7, false)⟩,
    ⟨some 11, .bin .geq, [.t 8, .t 10], some (7, false)⟩,
    ⟨some 12, .pick, [.t 7, .c (.bool true), .t 11], none⟩])
  (.cond (.t 12)
    (.seq (.ops [⟨some 2, .mv, [.c (.str [])], none⟩])
    .ret)
    .skip))
  (.seq (.ops [⟨some 13, .mv, [.t 3], none⟩,
    ⟨some 14, .mv, [.t 0], none⟩,
    ⟨some 15, .ixA 1, [.t 13, .t 14], none⟩,
    ⟨some 16, .ldI 1 false, [.t 15], none⟩,
    ⟨some 2, .mv, [.tk 16], none⟩])
  .ret))))⟩
/-- slices.Contains[[]int,int] -/
def a_slices_Contains___int_int_ : AFunc := ⟨2, [.t 4],
  (.seq (.ops [⟨some 4, .mv, [.c (.bool false)], none⟩])
  (.seq (.ops [⟨some 5, .mv, [.tk 0], none⟩,
    ⟨some 6, .mv, [.tk 1], none⟩,
    ⟨some 7, .call f_slices_Index___int_int_, [.t 5, .t 6], none⟩,
    ⟨some 8, .bin .geq, [.t 7, .c (.int .i64 0)], none⟩,
    ⟨some 4, .mv, [.tk 8], none⟩])
  .ret))⟩
/-- countwheel/window.fits -/
def a_window_fits : AFunc := ⟨2, [.t 4],
  (.seq (.ops [⟨some 2, .box, [.t 0], none⟩,
    ⟨some 4, .mv, [.c (.bool false)], none⟩])
  (.seq (.ops [⟨some 5, .fa 2, [.t 2], none⟩,
    ⟨some 6, .ldI 1 false, [.t 5], none⟩,
    ⟨some 7, .bin .gtr, [.t 6, .c (.int .i64 0)], none⟩,
    ⟨some 8, .mv, [.tk 7], none⟩,
    ⟨some 9, .fa 1, [.t 2], some (8, true)⟩,
    ⟨some 10, .ldI 1 false, [.t 9], some (8, true)⟩,
    ⟨some 11, .bin .geq, [.t 10, .c (.int .i64 0)], some (8, true)⟩,
    ⟨some 12, .pick, [.t 8, .t 11, .c (.bool false)], none⟩,
    ⟨some 13, .mv, [.tk 12], none⟩,
    ⟨some 14, .fa 1, [.t 2], some (13, true)⟩,
    ⟨some 15, .ldI 1 false, [.t 14], some (13, true)⟩,
    ⟨some 16, .mv, [.t 1], some (13, true)⟩,
    ⟨some 17, .bin .leq, [.t 15, .t 16], some (13, true)⟩,
    ⟨some 18, .pick, [.t 13, .t 17, .c (.bool false)], none⟩,
    ⟨some 19, .mv, [.tk 18], none⟩,
    ⟨some 20, .fa 2, [.t 2], some (19, true)⟩,
    ⟨some 21, .ldI 1 false, [.t 20], some (19, true)⟩,
    ⟨some 22, .mv, [.t 1], some (19, true)⟩,
    ⟨some 23, .fa 1, [.t 2], some (19, true)⟩,
    ⟨some 24, .ldI 1 false, [.t 23], some (19, true)⟩,
    ⟨some 25, .bin .sub, [.t 22, .t 24], some (19, true)⟩,
    ⟨some 26, .bin .leq, [.t 21, .t 25], some (19, true)⟩,
    ⟨some 27, .pick, [.t 19, .t 26, .c (.bool false)], none⟩,
    ⟨some 4, .mv, [.tk 27], none⟩])
  .ret))⟩
def b0_rwindow_Word : ACode :=
  (.seq (.ops [⟨some 17, .bin .lss, [.t 16, .t 15], none⟩])
  (.seq (.cond (.t 17)
    .skip
    (.exit 0))
  (.seq (.block 1 (.seq (.ops [⟨some 18, .mv, [.t 16], none⟩,
      ⟨some 4, .mv, [.tk 18], none⟩])
    (.ops [⟨some 19, .ldI 1 false, [.t 3], none⟩,
      ⟨some 20, .mv, [.tk 4], none⟩,
      ⟨some 21, .ixA 1, [.t 19, .t 20], none⟩,
      ⟨none, .hst 1, [.t 21, .c (.int .i64 (-1))], none⟩])))
  (.ops [⟨some 22, .bin .add, [.t 16, .c (.int .i64 1)], none⟩,
    ⟨some 16, .mv, [.tk 22], none⟩]))))
def b1_rwindow_Word : ACode :=
  (.seq (.seq (.ops [⟨some 40, .mv, [.t 9], none⟩,
    ⟨some 41, .mv, [.tk 8], none⟩,
    ⟨some 42, .bin .lss, [.t 40, .t 41], none⟩])
  (.cond (.t 42)
    .skip
    (.exit 4)))
  (.seq (.block 5 (.ops [⟨some 45, .ldI 1 false, [.t 3], none⟩,
      ⟨some 46, .mv, [.t 9], none⟩,
      ⟨some 47, .fa 0, [.t 6], none⟩,
      ⟨some 48, .ldI 1 false, [.t 47], none⟩,
      ⟨some 49, .ixA 1, [.t 45, .t 46], none⟩,
      ⟨none, .hst 1, [.t 49, .t 48], none⟩]))
  (.ops [⟨some 43, .mv, [.t 9], none⟩,
    ⟨some 44, .bin .add, [.t 43, .c (.int .i64 1)], none⟩,
    ⟨some 9, .mv, [.tk 44], none⟩])))
def r_window_Word : RFn := ⟨1, [.t 2],
  [(.ops [⟨some 1, .box, [.t 0], none⟩,
    ⟨some 2, .mv, [.c (.sl true 1 [])], none⟩]),
  (.ops [⟨some 10, .fa 1, [.t 1], none⟩,
    ⟨some 11, .ldI 1 false, [.t 10], none⟩,
    ⟨some 12, .mx, [.t 11, .c (.int .i64 0)], none⟩,
    ⟨some 13, .hmk 1 8 (.int .i64 0), [.t 12], none⟩,
    ⟨some 3, .frs 1, [], none⟩,
    ⟨some 3, .ini 1, [.tk 3, .t 13], none⟩]),
  (.ops [⟨some 14, .ldI 1 false, [.t 3], none⟩,
    ⟨some 15, .lenL, [.t 14], none⟩,
    ⟨some 16, .mv, [.c (.int .i64 0)], none⟩]),
  (.block 0 (.loop b0_rwindow_Word)),
  (.ops [⟨some 23, .fa 2, [.t 1], none⟩,
    ⟨some 24, .ldI 1 false, [.t 23], none⟩,
    ⟨some 25, .call f_slices_Backward___api_Window_api_Window_, [.t 24], none⟩])],
  2, 25, [26, 27],
  (.ops [⟨some 6, .frs 3, [], none⟩,
    ⟨some 6, .ini 3, [.tk 6, .t 27], none⟩]),
  (.block 3 (.seq (.ops [⟨some 28, .fa 1, [.t 6], none⟩,
      ⟨some 29, .ldI 1 false, [.t 28], none⟩,
      ⟨some 30, .mx, [.t 29, .c (.int .i64 0)], none⟩,
      ⟨some 31, .fa 1, [.t 6], none⟩,
      ⟨some 32, .ldI 1 false, [.t 31], none⟩,
      ⟨some 33, .fa 2, [.t 6], none⟩,
      ⟨some 34, .ldI 1 false, [.t 33], none⟩,
      ⟨some 35, .bin .add, [.t 32, .t 34], none⟩,
      ⟨some 36, .ldI 1 false, [.t 3], none⟩,
      ⟨some 37, .lenL, [.t 36], none⟩,
      ⟨some 38, .mn, [.t 35, .t 37], none⟩,
      ⟨some 7, .mv, [.tk 30], none⟩,
      ⟨some 8, .mv, [.tk 38], none⟩])
    (.seq (.ops [⟨some 39, .mv, [.tk 7], none⟩,
      ⟨some 9, .mv, [.tk 39], none⟩])
    (.block 4 (.loop b1_rwindow_Word))))),
  [(.ops [⟨some 50, .ldI 1 false, [.t 3], none⟩,
    ⟨some 2, .mv, [.tk 50], none⟩]),
  .ret]⟩
def b0_window_Word : ACode :=
  (.seq (.ops [⟨some 17, .bin .lss, [.t 16, .t 15], none⟩])
  (.seq (.cond (.t 17)
    .skip
    (.exit 0))
  (.seq (.block 1 (.seq (.ops [⟨some 18, .mv, [.t 16], none⟩,
      ⟨some 4, .mv, [.tk 18], none⟩])
    (.ops [⟨some 19, .ldI 1 false, [.t 3], none⟩,
      ⟨some 20, .mv, [.tk 4], none⟩,
      ⟨some 21, .ixA 1, [.t 19, .t 20], none⟩,
      ⟨none, .hst 1, [.t 21, .c (.int .i64 (-1))], none⟩])))
  (.ops [⟨some 22, .bin .add, [.t 16, .c (.int .i64 1)], none⟩,
    ⟨some 16, .mv, [.tk 22], none⟩]))))
/-- countwheel/window.Word (not: rangeFunc) -/
def a_window_Word : AFunc := ⟨1, [.t 2],
  (.seq (.ops [⟨some 1, .box, [.t 0], none⟩,
    ⟨some 2, .mv, [.c (.sl true 1 [])], none⟩])
  (.seq (.ops [⟨some 10, .fa 1, [.t 1], none⟩,
    ⟨some 11, .ldI 1 false, [.t 10], none⟩,
    ⟨some 12, .mx, [.t 11, .c (.int .i64 0)], none⟩,
    ⟨some 13, .hmk 1 8 (.int .i64 0), [.t 12], none⟩,
    ⟨some 3, .frs 1, [], none⟩,
    ⟨some 3, .ini 1, [.tk 3, .t 13], none⟩])
  (.seq (.seq (.ops [⟨some 14, .ldI 1 false, [.t 3], none⟩,
    ⟨some 15, .lenL, [.t 14], none⟩,
    ⟨some 16, .mv, [.c (.int .i64 0)], none⟩])
  (.block 0 (.loop b0_window_Word)))
  (.seq (.seq (.ops [⟨some 23, .fa 2, [.t 1], none⟩,
    ⟨some 24, .ldI 1 false, [.t 23], none⟩,
    ⟨some 25, .call f_slices_Backward___api_Window_api_Window_, [.t 24], none⟩])
  (.block 2 .bad))
  (.seq (.ops [⟨some 50, .ldI 1 false, [.t 3], none⟩,
    ⟨some 2, .mv, [.tk 50], none⟩])
  .ret)))))⟩
def b0_errors_as : ACode :=
  (.seq (.ops [⟨some 51, .bin .lss, [.t 50, .t 49], none⟩])
  (.seq (.cond (.t 51)
    .skip
    (.exit 3))
  (.seq (.block 4 (.seq (.ops [⟨some 52, .ixA 1, [.t 48, .t 50], none⟩,
      ⟨some 53, .ldI 1 false, [.t 52], none⟩,
      ⟨some 14, .mv, [.tk 53], none⟩])
    (.seq (.seq (.ops [⟨some 54, .mv, [.t 14], none⟩,
      ⟨some 55, .nilI false, [.t 54], none⟩])
    (.cond (.t 55)
      (.exit 4)
      .skip))
    (.seq (.ops [⟨some 56, .mv, [.t 14], none⟩,
      ⟨some 57, .mv, [.t 1], none⟩,
      ⟨some 58, .ldI 3 true, [.t 6], none⟩,
      ⟨some 59, .mv, [.t 3], none⟩,
      ⟨some 60, .hcall f_errors_as, [.t 56, .t 57, .t 58, .t 59], none⟩])
    (.cond (.t 60)
      (.seq (.ops [⟨some 8, .mv, [.c (.bool true)], none⟩])
      .ret)
      .skip)))))
  (.ops [⟨some 61, .bin .add, [.t 50, .c (.int .i64 1)], none⟩,
    ⟨some 50, .mv, [.tk 61], none⟩]))))
def b1_errors_as : ACode :=
  (.block 1 (.seq (.seq (.ops [⟨some 16, .mv, [.t 0], none⟩,
      ⟨some 17, .x 1000055, [.t 16], none⟩,
      ⟨some 18, .mv, [.t 3], none⟩,
      ⟨some 19, .x 2000003, [.t 17, .t 18], none⟩])
    (.cond (.t 19)
      (.seq (.ops [⟨some 20, .ldI 3 true, [.t 6], none⟩,
        ⟨some 21, .x 1000056, [.t 20], none⟩,
        ⟨some 22, .mv, [.t 0], none⟩,
        ⟨some 23, .x 1000038, [.t 22], none⟩,
        ⟨some 24, .x 1000057, [.t 21, .t 23], none⟩])
      (.seq (.ops [⟨some 8, .mv, [.c (.bool true)], none⟩])
      .ret))
      .skip))
    (.seq (.seq (.ops [⟨some 26, .mv, [.t 0], none⟩,
      ⟨some 27, .x 3000223, [.t 26], none⟩,
      ⟨some 25, .mv, [.tk 27], none⟩,
      ⟨some 28, .ext 0, [.t 25], none⟩,
      ⟨some 29, .ext 1, [.t 25], none⟩,
      ⟨some 9, .mv, [.tk 28], none⟩,
      ⟨some 10, .mv, [.tk 29], none⟩])
    (.seq (.ops [⟨some 30, .mv, [.tk 10], none⟩,
      ⟨some 31, .mv, [.tk 30], none⟩,
      ⟨some 32, .mv, [.tk 9], some (31, true)⟩,
      ⟨some 33, .mv, [.t 1], some (31, true)⟩,
      ⟨some 34, .x 2000005, [.t 32, .t 33], some (31, true)⟩,
      ⟨some 35, .pick, [.t 31, .t 34, .c (.bool false)], none⟩])
    (.cond (.t 35)
      (.seq (.ops [⟨some 8, .mv, [.c (.bool true)], none⟩])
      .ret)
      .skip)))
    (.seq (.ops [⟨some 36, .mv, [.t 0], none⟩])
    (.block 2 (.seq (.ops [⟨some 37, .x 3000229, [.t 36], none⟩,
        ⟨some 38, .ext 1, [.t 37], none⟩,
        ⟨some 39, .ext 0, [.t 37], none⟩])
      (.cond (.t 38)
        (.seq (.ops [⟨some 11, .mv, [.tk 39], none⟩])
        (.seq (.ops [⟨some 40, .mv, [.tk 11], none⟩,
          ⟨some 41, .x 2000004, [.t 40], none⟩,
          ⟨some 0, .mv, [.tk 41], none⟩])
        (.seq (.ops [⟨some 42, .mv, [.t 0], none⟩,
          ⟨some 43, .nilI false, [.t 42], none⟩])
        (.cond (.t 43)
          (.seq (.ops [⟨some 8, .mv, [.c (.bool false)], none⟩])
          .ret)
          .skip))))
        (.seq (.ops [⟨some 44, .x 3000233, [.t 36], none⟩,
          ⟨some 45, .ext 1, [.t 44], none⟩,
          ⟨some 46, .ext 0, [.t 44], none⟩])
        (.cond (.t 45)
          (.seq (.ops [⟨some 12, .mv, [.tk 46], none⟩])
          (.seq (.seq (.ops [⟨some 47, .mv, [.tk 12], none⟩,
            ⟨some 48, .x 2000004, [.t 47], none⟩,
            ⟨some 49, .lenL, [.t 48], none⟩,
            ⟨some 50, .mv, [.c (.int .i64 0)], none⟩])
          (.block 3 (.loop b0_errors_as)))
          (.seq (.ops [⟨some 8, .mv, [.c (.bool false)], none⟩])
          .ret)))
          (.seq (.ops [⟨some 15, .mv, [.t 36], none⟩])
          (.seq (.ops [⟨some 8, .mv, [.c (.bool false)], none⟩])
          .ret)))))))))))
/-- errors.as -/
def a_errors_as : AFunc := ⟨4, [.t 8],
  (.seq (.ops [⟨some 6, .box, [.t 2], none⟩,
    ⟨some 8, .mv, [.c (.bool false)], none⟩])
  (.block 0 (.loop b1_errors_as)))⟩
/-- countwheel/fault.names -/
def a_fault_names : AFunc := ⟨0, [.t 0],
  (.seq (.ops [⟨some 0, .mv, [.c (.sl true 1 [])], none⟩])
  (.seq (.ops [⟨some 1, .lit 1, [.c (.str []), .c (.str [97, 114, 103, 117, 109, 101, 110, 116]), .c (.str [115, 104, 111, 114, 116]), .c (.str [109, 97, 103, 105, 99]), .c (.str [108, 101, 110, 103, 116, 104]), .c (.str [115, 117, 109]), .c (.str [102, 111, 114, 109]), .c (.str [110, 97, 109, 101]), .c (.str [109, 97, 110, 121]), .c (.str [111, 114, 100, 101, 114]), .c (.str [114, 101, 102, 101, 114, 101, 110, 99, 101]), .c (.str [119, 105, 110, 100, 111, 119]), .c (.str [111, 118, 101, 114, 108, 97, 112]), .c (.str [112, 101, 114, 105, 111, 100]), .c (.str [98, 117, 100, 103, 101, 116]), .c (.str [112, 97, 105, 114]), .c (.str [104, 97, 108, 116]), .c (.str [115, 116, 97, 116, 101]), .c (.str [114, 97, 110, 103, 101])], none⟩,
    ⟨some 0, .mv, [.tk 1], none⟩])
  .ret))⟩
def b0_slices_Index___int_int_ : ACode :=
  (.seq (.ops [⟨some 9, .bin .lss, [.t 8, .t 7], none⟩])
  (.seq (.cond (.t 9)
    .skip
    (.exit 0))
  (.seq (.block 1 (.seq (.ops [⟨some 10, .mv, [.t 8], none⟩,
      ⟨some 5, .mv, [.tk 10], none⟩])
    (.seq (.ops [⟨some 11, .mv, [.tk 1], none⟩,
      ⟨some 12, .mv, [.t 0], none⟩,
      ⟨some 13, .mv, [.t 5], none⟩,
      ⟨some 14, .ixA 1, [.t 12, .t 13], none⟩,
      ⟨some 15, .ldI 1 false, [.t 14], none⟩,
      ⟨some 16, .bin .eql, [.t 11, .t 15], none⟩])
    (.cond (.t 16)
      (.seq (.ops [⟨some 17, .mv, [.tk 5], none⟩,
        ⟨some 4, .mv, [.tk 17], none⟩])
      .ret)
      .skip))))
  (.ops [⟨some 18, .bin .add, [.t 8, .c (.int .i64 1)], none⟩,
    ⟨some 8, .mv, [.tk 18], none⟩]))))
/-- slices.Index[[]int,int] -/
def a_slices_Index___int_int_ : AFunc := ⟨2, [.t 4],
  (.seq (.ops [⟨some 4, .mv, [.c (.int .i64 0)], none⟩])
  (.seq (.seq (.ops [⟨some 6, .mv, [.t 0], none⟩,
    ⟨some 7, .lenL, [.t 6], none⟩,
    ⟨some 8, .mv, [.c (.int .i64 0)], none⟩])
  (.block 0 (.loop b0_slices_Index___int_int_)))
  (.seq (.ops [⟨some 4, .mv, [.c (.int .i64 (-1))], none⟩])
  .ret)))⟩
/-- slices.Backward[[]countwheel/api.Window,countwheel/api.Window] -/
def a_slices_Backward___api_Window_api_Window_ : AFunc := ⟨1, [.t 2],
  (.seq (.ops [⟨some 1, .box, [.t 0], none⟩,
    ⟨some 2, .mv, [.c .nilf], none⟩])
  (.seq (.ops [⟨some 3, .mkF f_slices_Backward___api_Window_api_Window__1, [.t 1], none⟩,
    ⟨some 2, .mv, [.tk 3], none⟩])
  .ret))⟩
def b0_slices_Backward___api_Window_api_Window__1 : ACode :=
  (.seq (.seq (.ops [⟨some 7, .mv, [.t 3], none⟩,
    ⟨some 8, .bin .geq, [.t 7, .c (.int .i64 0)], none⟩])
  (.cond (.t 8)
    .skip
    (.exit 0)))
  (.seq (.block 1 (.seq (.ops [⟨some 11, .mv, [.tk 0], none⟩,
      ⟨some 12, .mv, [.t 3], none⟩,
      ⟨some 13, .hld 1 false, [.t 1], none⟩,
      ⟨some 14, .mv, [.t 3], none⟩,
      ⟨some 15, .ixA 3, [.t 13, .t 14], none⟩,
      ⟨some 16, .ldI 3 true, [.t 15], none⟩,
      ⟨some 17, .callV, [.t 11, .t 12, .t 16], none⟩,
      ⟨some 18, .unot, [.t 17], none⟩])
    (.cond (.t 18)
      .ret
      .skip)))
  (.ops [⟨some 9, .mv, [.t 3], none⟩,
    ⟨some 10, .bin .sub, [.t 9, .c (.int .i64 1)], none⟩,
    ⟨some 3, .mv, [.tk 10], none⟩])))
/-- slices.Backward[[]countwheel/api.Window,countwheel/api.Window]$1 -/
def a_slices_Backward___api_Window_api_Window__1 : AFunc := ⟨2, [],
  (.seq (.ops [⟨some 4, .hld 1 false, [.t 1], none⟩,
    ⟨some 5, .lenL, [.t 4], none⟩,
    ⟨some 6, .bin .sub, [.t 5, .c (.int .i64 1)], none⟩,
    ⟨some 3, .mv, [.tk 6], none⟩])
  (.block 0 (.loop b0_slices_Backward___api_Window_api_Window__1)))⟩
/-- (*countwheel/fault.section).Unwrap -/
def a__pfault_section__Unwrap : AFunc := ⟨1, [.t 2],
  (.seq (.ops [⟨some 2, .mv, [.c .nili], none⟩])
  (.seq (.ops [⟨some 3, .mv, [.tk 0], none⟩,
    ⟨some 4, .nilck, [.tk 3], none⟩,
    ⟨some 5, .fa 1, [.t 4], none⟩,
    ⟨some 6, .hld 1 false, [.t 5], none⟩,
    ⟨some 2, .mv, [.tk 6], none⟩])
  .ret))⟩
/-- (*countwheel/fault.place).Unwrap -/
def a__pfault_place__Unwrap : AFunc := ⟨1, [.t 2],
  (.seq (.ops [⟨some 2, .mv, [.c .nili], none⟩])
  (.seq (.ops [⟨some 3, .mv, [.tk 0], none⟩,
    ⟨some 4, .nilck, [.tk 3], none⟩,
    ⟨some 5, .fa 1, [.t 4], none⟩,
    ⟨some 6, .hld 1 false, [.t 5], none⟩,
    ⟨some 2, .mv, [.tk 6], none⟩])
  .ret))⟩
def EQ : List TypeId := [45, 33]
theorem chk_law13_WindowRight : chkFn Go.Proofs.Tryd.prog EQ Go.Proofs.Tryd.f3 a_law13_WindowRight = true := by kernel_rfl
theorem chk_ref09_Right : chkFn Go.Proofs.Tryd.prog EQ Go.Proofs.Tryd.f5 a_ref09_Right = true := by kernel_rfl
theorem chk_law13_awake : chkFn Go.Proofs.Tryd.prog EQ Go.Proofs.Tryd.f6 a_law13_awake = true := by kernel_rfl
theorem chk_window_Check : chkFn Go.Proofs.Tryd.prog EQ Go.Proofs.Tryd.f7 a_window_Check = true := by kernel_rfl
theorem chk_window_Owner : chkFn Go.Proofs.Tryd.prog EQ Go.Proofs.Tryd.f8 a_window_Owner = true := by kernel_rfl
theorem chk_window_Touch : chkFn Go.Proofs.Tryd.prog EQ Go.Proofs.Tryd.f9 a_window_Touch = true := by kernel_rfl
theorem chk_window_Busy : chkFn Go.Proofs.Tryd.prog EQ Go.Proofs.Tryd.f10 a_window_Busy = true := by kernel_rfl
theorem chk_ref09_in : chkFn Go.Proofs.Tryd.prog EQ Go.Proofs.Tryd.f14 a_ref09_in = true := by kernel_rfl
theorem chk_fault_Of : chkFn Go.Proofs.Tryd.prog EQ Go.Proofs.Tryd.f15 a_fault_Of = true := by kernel_rfl
theorem chk_fault_New : chkFn Go.Proofs.Tryd.prog EQ Go.Proofs.Tryd.f16 a_fault_New = true := by kernel_rfl
theorem chk_window_wrong : chkFn Go.Proofs.Tryd.prog EQ Go.Proofs.Tryd.f17 a_window_wrong = true := by kernel_rfl
theorem chk_fault_At : chkFn Go.Proofs.Tryd.prog EQ Go.Proofs.Tryd.f18 a_fault_At = true := by kernel_rfl
theorem chk_slices_IndexFunc___api_Window_api_Window_ : chkFn Go.Proofs.Tryd.prog EQ Go.Proofs.Tryd.f19 a_slices_IndexFunc___api_Window_api_Window_ = true := by kernel_rfl
theorem chk_window_Owner_1 : chkFn Go.Proofs.Tryd.prog EQ Go.Proofs.Tryd.f20 a_window_Owner_1 = true := by kernel_rfl
theorem chk_window_has : chkFn Go.Proofs.Tryd.prog EQ Go.Proofs.Tryd.f21 a_window_has = true := by kernel_rfl
theorem chk_window_count : chkFn Go.Proofs.Tryd.prog EQ Go.Proofs.Tryd.f22 a_window_count = true := by kernel_rfl
theorem chk_window_Busy_1 : chkFn Go.Proofs.Tryd.prog EQ Go.Proofs.Tryd.f23 a_window_Busy_1 = true := by kernel_rfl
theorem chk_errors_As : chkFn Go.Proofs.Tryd.prog EQ Go.Proofs.Tryd.f30 a_errors_As = true := by kernel_rfl
theorem chk_fault_Name : chkFn Go.Proofs.Tryd.prog EQ Go.Proofs.Tryd.f31 a_fault_Name = true := by kernel_rfl
theorem chk_slices_Contains___int_int_ : chkFn Go.Proofs.Tryd.prog EQ Go.Proofs.Tryd.f32 a_slices_Contains___int_int_ = true := by kernel_rfl
theorem chk_window_fits : chkFn Go.Proofs.Tryd.prog EQ Go.Proofs.Tryd.f33 a_window_fits = true := by kernel_rfl
theorem chk_window_Word : chkFn Go.Proofs.Tryd.prog EQ Go.Proofs.Tryd.f34 a_window_Word = true := by kernel_rfl
theorem chk_errors_as : chkFn Go.Proofs.Tryd.prog EQ Go.Proofs.Tryd.f41 a_errors_as = true := by kernel_rfl
theorem chk_fault_names : chkFn Go.Proofs.Tryd.prog EQ Go.Proofs.Tryd.f42 a_fault_names = true := by kernel_rfl
theorem chk_slices_Index___int_int_ : chkFn Go.Proofs.Tryd.prog EQ Go.Proofs.Tryd.f43 a_slices_Index___int_int_ = true := by kernel_rfl
theorem chk_slices_Backward___api_Window_api_Window_ : chkFn Go.Proofs.Tryd.prog EQ Go.Proofs.Tryd.f44 a_slices_Backward___api_Window_api_Window_ = true := by kernel_rfl
theorem chk_slices_Backward___api_Window_api_Window__1 : chkFn Go.Proofs.Tryd.prog EQ Go.Proofs.Tryd.f58 a_slices_Backward___api_Window_api_Window__1 = true := by kernel_rfl
theorem chk__pfault_section__Unwrap : chkFn Go.Proofs.Tryd.prog EQ Go.Proofs.Tryd.f84 a__pfault_section__Unwrap = true := by kernel_rfl
theorem chk__pfault_place__Unwrap : chkFn Go.Proofs.Tryd.prog EQ Go.Proofs.Tryd.f86 a__pfault_place__Unwrap = true := by kernel_rfl
theorem chkR_window_Word : chkR Go.Proofs.Tryd.prog EQ Go.Proofs.Tryd.f34 r_window_Word = true := by kernel_rfl
end Go.Vm.S
