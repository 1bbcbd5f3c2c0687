/- Written by wip/vm/irtab.py: the functions in the machine's form, each checked, and their table. -/
import Derived.Test.YtahbkkleholmaaaVmBits
import Derived.Test.YtahbkkleholmaaaProg
set_option linter.unusedSectionVars false
set_option linter.unusedSimpArgs false
set_option linter.unusedVariables false
namespace Go.Vm.Ytahbkkleholmaaa
open Go.Proofs
/-- muniment/munimentlaw21.ClientChecks -/
def ir3 : IFun := ⟨3, 96, [(.tmp 6)], (.seq (.reg false [⟨(some 3), none, (.box 5 (.t 0)), [], [], 256⟩,
  ⟨(some 6), none, (.mov (.c (.bool false))), [], [], 448⟩]) (.seq (.seq (.reg false [⟨(some 12), none, (.fad 4 (.t 3)), [], [], 832⟩,
  ⟨(some 13), none, (.ld false 1 (.t 12)), [], [], 896⟩,
  ⟨(some 14), none, (.len false (.t 13)), [], [], 960⟩,
  ⟨(some 15), none, (.bin .gtr (.t 14) (.c (.int .i64 40))), [], [], 1024⟩]) (.cond (.t 15) (.reg false [⟨(some 16), none, (.fad 4 (.t 3)), [], [], 1088⟩,
  ⟨(some 17), none, (.ld false 1 (.t 16)), [], [], 1152⟩,
  ⟨(some 18), none, (.slL 1 (.t 17) none (some (.c (.int .i64 40))) none), [], [], 1216⟩,
  ⟨(some 19), none, (.fad 4 (.t 3)), [], [], 1280⟩,
  ⟨none, none, (.st false 1 (.t 19) (.t 18)), [], [], 64⟩]) .skip)) (.seq (.reg false [⟨(some 20), none, (.mov (.t 1)), [], [], 1344⟩,
  ⟨(some 21), none, (.bin .geq (.t 20) (.c (.int .i64 0))), [], [], 1408⟩,
  ⟨(some 22), none, (.mov (.t 21)), [], [], 1472⟩,
  ⟨(some 23), (some (22, true)), (.mov (.t 1)), [], [], 1536⟩,
  ⟨(some 24), (some (22, true)), (.bin .lss (.t 23) (.c (.int .i64 8))), [], [], 1600⟩,
  ⟨(some 25), none, (.pick (.t 22) (.t 24) (.c (.bool false))), [], [], 1664⟩,
  ⟨(some 26), none, (.mov (.t 25)), [], [], 1728⟩,
  ⟨(some 27), (some (26, true)), (.mov (.t 2)), [], [], 1792⟩,
  ⟨(some 28), (some (26, true)), (.bin .geq (.t 27) (.c (.int .i64 1))), [], [], 1856⟩,
  ⟨(some 29), none, (.pick (.t 26) (.t 28) (.c (.bool false))), [], [], 1920⟩,
  ⟨(some 30), none, (.mov (.t 29)), [], [], 1984⟩,
  ⟨(some 31), (some (30, true)), (.mov (.t 2)), [], [], 2048⟩,
  ⟨(some 32), (some (30, true)), (.bin .leq (.t 31) (.c (.int .i64 16))), [], [], 2112⟩,
  ⟨(some 33), none, (.pick (.t 30) (.t 32) (.c (.bool false))), [], [], 2176⟩,
  ⟨(some 7), none, (.mov (.t 33)), [], [], 512⟩]) (.seq (.reg false [⟨(some 35), none, (.mov (.t 1)), [], [], 2304⟩,
  ⟨(some 36), none, (.mov (.t 2)), [], [], 2368⟩,
  ⟨(some 37), none, (.ld true 5 (.t 3)), [], [], 2432⟩,
  ⟨(some 38), none, (.mksl 5 1 [(.int .i64 0), (.sl .nil 0 []), (.str []), (.int .u64 0), (.sl .nil 0 [])] [(0, (5, (.t 37)))]), [], [], 2496⟩,
  ⟨(some 39), none, (.call 5 [(.t 35), (.t 36), (.t 38)]), [], [], 2560⟩,
  ⟨(some 34), none, (.mov (.t 39)), [], [], 2240⟩,
  ⟨(some 40), none, (.ext 0 (.t 34)), [], [], 2624⟩,
  ⟨(some 41), none, (.ext 1 (.t 34)), [], [], 2688⟩,
  ⟨(some 8), none, (.mov (.t 40)), [], [], 576⟩,
  ⟨(some 9), none, (.mov (.t 41)), [], [], 640⟩]) (.seq (.reg false [⟨(some 43), none, (.mov (.t 1)), [], [], 2816⟩,
  ⟨(some 44), none, (.mov (.t 2)), [], [], 2880⟩,
  ⟨(some 45), none, (.call 5 [(.t 43), (.t 44), (.c (.sl .nil 0 []))]), [], [], 2944⟩,
  ⟨(some 42), none, (.mov (.t 45)), [], [], 2752⟩,
  ⟨(some 46), none, (.ext 0 (.t 42)), [], [], 3008⟩,
  ⟨(some 47), none, (.ext 1 (.t 42)), [], [], 3072⟩,
  ⟨(some 10), none, (.mov (.t 46)), [], [], 704⟩,
  ⟨(some 11), none, (.mov (.t 47)), [], [], 768⟩]) (.seq (.reg true [⟨(some 48), none, (.call 6 []), [], [], 3136⟩,
  ⟨(some 49), none, (.mov (.t 48)), [0, 0], [0], 3200⟩,
  ⟨(some 50), (some (49, true)), (.ld true 5 (.t 3)), [1], [1, 0], 3264⟩,
  ⟨(some 51), (some (49, true)), (.call 7 [(.t 50)]), [2, 1, 1], [2, 1, 0], 3328⟩,
  ⟨(some 52), (some (49, true)), (.ld true 5 (.t 3)), [1], [1, 0], 3392⟩,
  ⟨(some 53), (some (49, true)), (.call 8 [(.t 52)]), [4, 3, 1], [4, 3, 1, 0, 2], 3456⟩,
  ⟨(some 54), (some (49, true)), (.eqn false .bool (.t 51) (.t 53)), [3, 5, 1], [3, 5, 1, 2, 0, 4], 3520⟩,
  ⟨(some 55), none, (.pick (.t 49) (.t 54) (.c (.bool false))), [1, 6], [1, 6, 0, 3, 5, 2, 4], 3584⟩,
  ⟨(some 56), none, (.mov (.t 55)), [7, 5], [7, 5, 1, 6, 0, 3, 2, 4], 3648⟩,
  ⟨(some 57), (some (56, true)), (.mov (.t 9)), [8], [8, 7, 5, 1, 6, 0, 3, 2, 4], 3712⟩,
  ⟨(some 58), (some (56, true)), (.bin .eql (.t 57) (.c (.int .i64 0))), [9, 8], [9, 8, 7, 5, 1, 6, 0, 3, 2, 4], 3776⟩,
  ⟨(some 59), (some (56, true)), (.mov (.t 7)), [8], [8, 7, 5, 1, 6, 0, 3, 2, 4], 3840⟩,
  ⟨(some 60), (some (56, true)), (.mov (.t 59)), [11, 8, 8], [11, 8, 7, 5, 1, 6, 0, 3, 2, 4], 3904⟩,
  ⟨(some 61), (some (60, true)), (.ld true 5 (.t 3)), [12], [12, 11, 8, 7, 5, 1, 6, 0, 3, 2, 4], 3968⟩,
  ⟨(some 62), (some (60, true)), (.call 8 [(.t 61)]), [13, 12, 12], [13, 12, 11, 8, 7, 5, 1, 6, 0, 3, 2, 4], 4032⟩,
  ⟨(some 63), (some (56, true)), (.pick (.t 60) (.t 62) (.c (.bool false))), [12, 14, 8], [12, 14, 8, 11, 7, 5, 1, 6, 0, 3, 2, 4, 13], 4096⟩,
  ⟨(some 64), (some (56, true)), (.eqn false .bool (.t 58) (.t 63)), [10, 15, 8], [10, 15, 8, 9, 7, 5, 1, 6, 0, 3, 2, 4, 12, 14, 11, 13], 4160⟩,
  ⟨(some 65), none, (.pick (.t 56) (.t 64) (.c (.bool false))), [8, 16], [8, 16, 7, 5, 1, 6, 0, 3, 2, 4, 10, 15, 9, 12, 14, 11, 13], 4224⟩,
  ⟨(some 66), none, (.mov (.t 65)), [17, 14], [17, 14, 8, 16, 7, 5, 1, 6, 0, 3, 2, 4, 10, 15, 9, 12, 11, 13], 4288⟩,
  ⟨(some 67), (some (66, true)), (.mov (.t 8)), [18], [18, 17, 14, 8, 16, 7, 5, 1, 6, 0, 3, 2, 4, 10, 15, 9, 12, 11, 13], 4352⟩,
  ⟨(some 68), (some (66, true)), (.eqn true .ptr (.t 67) (.c .nilp)), [19, 18], [19, 18, 17, 14, 8, 16, 7, 5, 1, 6, 0, 3, 2, 4, 10, 15, 9, 12, 11, 13], 4416⟩,
  ⟨(some 69), (some (66, true)), (.mov (.t 7)), [18], [18, 17, 14, 8, 16, 7, 5, 1, 6, 0, 3, 2, 4, 10, 15, 9, 12, 11, 13], 4480⟩,
  ⟨(some 70), (some (66, true)), (.mov (.t 69)), [21, 18, 18], [21, 18, 17, 14, 8, 16, 7, 5, 1, 6, 0, 3, 2, 4, 10, 15, 9, 12, 11, 13], 4544⟩,
  ⟨(some 71), (some (70, true)), (.ld true 5 (.t 3)), [22], [22, 21, 18, 17, 14, 8, 16, 7, 5, 1, 6, 0, 3, 2, 4, 10, 15, 9, 12, 11, 13], 4608⟩,
  ⟨(some 72), (some (70, true)), (.call 8 [(.t 71)]), [23, 22, 22], [23, 22, 21, 18, 17, 14, 8, 16, 7, 5, 1, 6, 0, 3, 2, 4, 10, 15, 9, 12, 11, 13], 4672⟩,
  ⟨(some 73), (some (66, true)), (.pick (.t 70) (.t 72) (.c (.bool false))), [22, 24, 18], [22, 24, 18, 21, 17, 14, 8, 16, 7, 5, 1, 6, 0, 3, 2, 4, 10, 15, 9, 12, 11, 13, 23], 4736⟩,
  ⟨(some 74), (some (66, true)), (.eqn false .bool (.t 68) (.t 73)), [20, 25, 18], [20, 25, 18, 19, 17, 14, 8, 16, 7, 5, 1, 6, 0, 3, 2, 4, 10, 15, 9, 12, 11, 13, 22, 24, 21, 23], 4800⟩,
  ⟨(some 75), none, (.pick (.t 66) (.t 74) (.c (.bool false))), [18, 26], [18, 26, 17, 14, 8, 16, 7, 5, 1, 6, 0, 3, 2, 4, 10, 15, 9, 12, 11, 13, 20, 25, 19, 22, 24, 21, 23], 4864⟩,
  ⟨(some 76), none, (.mov (.t 75)), [27, 24], [27, 24, 18, 26, 17, 14, 8, 16, 7, 5, 1, 6, 0, 3, 2, 4, 10, 15, 9, 12, 11, 13, 20, 25, 19, 22, 21, 23], 4928⟩,
  ⟨(some 77), (some (76, true)), (.mov (.t 9)), [28], [28, 27, 24, 18, 26, 17, 14, 8, 16, 7, 5, 1, 6, 0, 3, 2, 4, 10, 15, 9, 12, 11, 13, 20, 25, 19, 22, 21, 23], 4992⟩,
  ⟨(some 78), (some (76, true)), (.bin .eql (.t 77) (.c (.int .i64 0))), [29, 28], [29, 28, 27, 24, 18, 26, 17, 14, 8, 16, 7, 5, 1, 6, 0, 3, 2, 4, 10, 15, 9, 12, 11, 13, 20, 25, 19, 22, 21, 23], 5056⟩,
  ⟨(some 79), (some (76, true)), (.mov (.t 78)), [30, 28, 28], [30, 28, 29, 27, 24, 18, 26, 17, 14, 8, 16, 7, 5, 1, 6, 0, 3, 2, 4, 10, 15, 9, 12, 11, 13, 20, 25, 19, 22, 21, 23], 5120⟩,
  ⟨(some 80), (some (79, false)), (.mov (.t 9)), [31], [31, 30, 28, 29, 27, 24, 18, 26, 17, 14, 8, 16, 7, 5, 1, 6, 0, 3, 2, 4, 10, 15, 9, 12, 11, 13, 20, 25, 19, 22, 21, 23], 5184⟩,
  ⟨(some 81), (some (79, false)), (.bin .eql (.t 80) (.c (.int .i64 1))), [32, 31], [32, 31, 30, 28, 29, 27, 24, 18, 26, 17, 14, 8, 16, 7, 5, 1, 6, 0, 3, 2, 4, 10, 15, 9, 12, 11, 13, 20, 25, 19, 22, 21, 23], 5248⟩,
  ⟨(some 82), (some (76, true)), (.pick (.t 79) (.c (.bool true)) (.t 81)), [31, 33, 28], [31, 33, 28, 30, 29, 27, 24, 18, 26, 17, 14, 8, 16, 7, 5, 1, 6, 0, 3, 2, 4, 10, 15, 9, 12, 11, 13, 20, 25, 19, 22, 21, 23, 32], 5312⟩,
  ⟨(some 83), none, (.pick (.t 76) (.t 82) (.c (.bool false))), [28, 34], [28, 34, 27, 24, 18, 26, 17, 14, 8, 16, 7, 5, 1, 6, 0, 3, 2, 4, 10, 15, 9, 12, 11, 13, 20, 25, 19, 22, 21, 23, 31, 33, 30, 29, 32], 5376⟩,
  ⟨(some 84), none, (.mov (.t 83)), [35, 31], [35, 31, 28, 34, 27, 24, 18, 26, 17, 14, 8, 16, 7, 5, 1, 6, 0, 3, 2, 4, 10, 15, 9, 12, 11, 13, 20, 25, 19, 22, 21, 23, 33, 30, 29, 32], 5440⟩,
  ⟨(some 85), (some (84, true)), (.mov (.t 11)), [36], [36, 35, 31, 28, 34, 27, 24, 18, 26, 17, 14, 8, 16, 7, 5, 1, 6, 0, 3, 2, 4, 10, 15, 9, 12, 11, 13, 20, 25, 19, 22, 21, 23, 33, 30, 29, 32], 5504⟩,
  ⟨(some 86), (some (84, true)), (.bin .eql (.t 85) (.c (.int .i64 0))), [37, 36], [37, 36, 35, 31, 28, 34, 27, 24, 18, 26, 17, 14, 8, 16, 7, 5, 1, 6, 0, 3, 2, 4, 10, 15, 9, 12, 11, 13, 20, 25, 19, 22, 21, 23, 33, 30, 29, 32], 5568⟩,
  ⟨(some 87), (some (84, true)), (.mov (.t 7)), [36], [36, 35, 31, 28, 34, 27, 24, 18, 26, 17, 14, 8, 16, 7, 5, 1, 6, 0, 3, 2, 4, 10, 15, 9, 12, 11, 13, 20, 25, 19, 22, 21, 23, 33, 30, 29, 32], 5632⟩,
  ⟨(some 88), (some (84, true)), (.eqn false .bool (.t 86) (.t 87)), [38, 39, 36], [38, 39, 36, 37, 35, 31, 28, 34, 27, 24, 18, 26, 17, 14, 8, 16, 7, 5, 1, 6, 0, 3, 2, 4, 10, 15, 9, 12, 11, 13, 20, 25, 19, 22, 21, 23, 33, 30, 29, 32], 5696⟩,
  ⟨(some 89), none, (.pick (.t 84) (.t 88) (.c (.bool false))), [36, 40], [36, 40, 35, 31, 28, 34, 27, 24, 18, 26, 17, 14, 8, 16, 7, 5, 1, 6, 0, 3, 2, 4, 10, 15, 9, 12, 11, 13, 20, 25, 19, 22, 21, 23, 33, 30, 29, 32, 38, 39, 37], 5760⟩,
  ⟨(some 90), none, (.mov (.t 89)), [41, 36], [41, 36, 40, 35, 31, 28, 34, 27, 24, 18, 26, 17, 14, 8, 16, 7, 5, 1, 6, 0, 3, 2, 4, 10, 15, 9, 12, 11, 13, 20, 25, 19, 22, 21, 23, 33, 30, 29, 32, 38, 39, 37], 5824⟩,
  ⟨(some 91), (some (90, true)), (.mov (.t 10)), [42], [42, 41, 36, 40, 35, 31, 28, 34, 27, 24, 18, 26, 17, 14, 8, 16, 7, 5, 1, 6, 0, 3, 2, 4, 10, 15, 9, 12, 11, 13, 20, 25, 19, 22, 21, 23, 33, 30, 29, 32, 38, 39, 37], 5888⟩,
  ⟨(some 92), (some (90, true)), (.eqn true .ptr (.t 91) (.c .nilp)), [43, 42], [43, 42, 41, 36, 40, 35, 31, 28, 34, 27, 24, 18, 26, 17, 14, 8, 16, 7, 5, 1, 6, 0, 3, 2, 4, 10, 15, 9, 12, 11, 13, 20, 25, 19, 22, 21, 23, 33, 30, 29, 32, 38, 39, 37], 5952⟩,
  ⟨(some 93), (some (90, true)), (.mov (.t 7)), [42], [42, 41, 36, 40, 35, 31, 28, 34, 27, 24, 18, 26, 17, 14, 8, 16, 7, 5, 1, 6, 0, 3, 2, 4, 10, 15, 9, 12, 11, 13, 20, 25, 19, 22, 21, 23, 33, 30, 29, 32, 38, 39, 37], 6016⟩,
  ⟨(some 94), (some (90, true)), (.eqn false .bool (.t 92) (.t 93)), [44, 45, 42], [44, 45, 42, 43, 41, 36, 40, 35, 31, 28, 34, 27, 24, 18, 26, 17, 14, 8, 16, 7, 5, 1, 6, 0, 3, 2, 4, 10, 15, 9, 12, 11, 13, 20, 25, 19, 22, 21, 23, 33, 30, 29, 32, 38, 39, 37], 6080⟩,
  ⟨(some 95), none, (.pick (.t 90) (.t 94) (.c (.bool false))), [42, 46], [42, 46, 41, 36, 40, 35, 31, 28, 34, 27, 24, 18, 26, 17, 14, 8, 16, 7, 5, 1, 6, 0, 3, 2, 4, 10, 15, 9, 12, 11, 13, 20, 25, 19, 22, 21, 23, 33, 30, 29, 32, 38, 39, 37, 44, 45, 43], 6144⟩,
  ⟨(some 6), none, (.mov (.t 95)), [47, 42, 0, 1, 2, 3, 4, 5, 6, 7, 8, 9, 10, 11, 12, 13, 14, 15, 16, 17, 18, 19, 20, 21, 22, 23, 24, 25, 26, 27, 28, 29, 30, 31, 32, 33, 34, 35, 36, 37, 38, 39, 40, 41, 42, 43, 44, 45, 46, 47], [47, 42, 0, 1, 2, 3, 4, 5, 6, 7, 8, 9, 10, 11, 12, 13, 14, 15, 16, 17, 18, 19, 20, 21, 22, 23, 24, 25, 26, 27, 28, 29, 30, 31, 32, 33, 34, 35, 36, 37, 38, 39, 40, 41, 43, 44, 45, 46], 448⟩]) .ret))))))⟩
theorem ok3 : FnOk Try.prog 3 ir3 := ⟨Try.f3, 0, Try.func3, by kernel_rfl, by kernel_rfl⟩
/-- muniment/munimentlaw21.ClientNil -/
def ir4 : IFun := ⟨1, 34, [(.tmp 2)], (.seq (.reg false [⟨(some 1), none, (.box 3 (.t 0)), [], [], 128⟩,
  ⟨(some 2), none, (.mov (.c (.bool false))), [], [], 192⟩]) (.seq (.reg false [⟨(some 3), none, (.mov (.c .nilp)), [], [], 256⟩]) (.seq (.reg false [⟨(some 4), none, (.mov (.t 3)), [], [], 320⟩,
  ⟨(some 5), none, (.ld true 3 (.t 1)), [], [], 384⟩,
  ⟨(some 6), none, (.call 9 [(.t 4), (.t 5)]), [], [], 448⟩]) (.seq (.reg false [⟨(some 7), none, (.call 6 []), [], [], 512⟩,
  ⟨(some 8), none, (.mov (.t 7)), [], [], 576⟩,
  ⟨(some 9), (some (8, true)), (.mov (.t 3)), [], [], 640⟩,
  ⟨(some 10), (some (8, true)), (.call 10 [(.t 9)]), [], [], 704⟩,
  ⟨(some 11), (some (8, true)), (.len false (.t 10)), [], [], 768⟩,
  ⟨(some 12), (some (8, true)), (.bin .eql (.t 11) (.c (.int .i64 0))), [], [], 832⟩,
  ⟨(some 13), none, (.pick (.t 8) (.t 12) (.c (.bool false))), [], [], 896⟩,
  ⟨(some 14), none, (.mov (.t 13)), [], [], 960⟩,
  ⟨(some 15), (some (14, true)), (.mov (.t 3)), [], [], 1024⟩,
  ⟨(some 16), (some (14, true)), (.call 11 [(.t 15)]), [], [], 1088⟩,
  ⟨(some 17), none, (.pick (.t 14) (.t 16) (.c (.bool false))), [], [], 1152⟩,
  ⟨(some 18), none, (.mov (.t 17)), [], [], 1216⟩,
  ⟨(some 19), (some (18, true)), (.mov (.t 3)), [], [], 1280⟩,
  ⟨(some 20), (some (18, true)), (.call 12 [(.t 19)]), [], [], 1344⟩,
  ⟨(some 21), (some (18, true)), (.bin .eql (.t 20) (.c (.int .i64 0))), [], [], 1408⟩,
  ⟨(some 22), none, (.pick (.t 18) (.t 21) (.c (.bool false))), [], [], 1472⟩,
  ⟨(some 23), none, (.mov (.t 22)), [], [], 1536⟩,
  ⟨(some 24), (some (23, true)), (.mov (.t 3)), [], [], 1600⟩,
  ⟨(some 25), (some (23, true)), (.call 13 [(.t 24)]), [], [], 1664⟩,
  ⟨(some 26), (some (23, true)), (.len false (.t 25)), [], [], 1728⟩,
  ⟨(some 27), (some (23, true)), (.bin .eql (.t 26) (.c (.int .i64 0))), [], [], 1792⟩,
  ⟨(some 28), none, (.pick (.t 23) (.t 27) (.c (.bool false))), [], [], 1856⟩,
  ⟨(some 29), none, (.mov (.t 28)), [], [], 1920⟩,
  ⟨(some 30), (some (29, true)), (.mov (.t 3)), [], [], 1984⟩,
  ⟨(some 31), (some (29, true)), (.call 14 [(.t 30)]), [], [], 2048⟩,
  ⟨(some 32), (some (29, true)), (.bin .eql (.t 31) (.c (.int .u64 0))), [], [], 2112⟩,
  ⟨(some 33), none, (.pick (.t 29) (.t 32) (.c (.bool false))), [], [], 2176⟩,
  ⟨(some 2), none, (.mov (.t 33)), [], [], 192⟩]) .ret))))⟩
theorem ok4 : FnOk Try.prog 4 ir4 := ⟨Try.f4, 0, Try.func4, by kernel_rfl, by kernel_rfl⟩
/-- muniment/client.New -/
def ir5 : IFun := ⟨3, 32, [(.tmp 6), (.tmp 7)], (.seq (.reg false [⟨(some 6), none, (.mov (.c .nilp)), [], [], 448⟩,
  ⟨(some 7), none, (.mov (.c (.int .i64 0))), [], [], 512⟩]) (.seq (.seq (.reg false [⟨(some 8), none, (.mov (.t 0)), [], [], 576⟩,
  ⟨(some 9), none, (.bin .lss (.t 8) (.c (.int .i64 0))), [], [], 640⟩,
  ⟨(some 10), none, (.mov (.t 9)), [], [], 704⟩,
  ⟨(some 11), (some (10, false)), (.mov (.t 0)), [], [], 768⟩,
  ⟨(some 12), (some (10, false)), (.bin .geq (.t 11) (.c (.int .i64 8))), [], [], 832⟩,
  ⟨(some 13), none, (.pick (.t 10) (.c (.bool true)) (.t 12)), [], [], 896⟩,
  ⟨(some 14), none, (.mov (.t 13)), [], [], 960⟩,
  ⟨(some 15), (some (14, false)), (.mov (.t 1)), [], [], 1024⟩,
  ⟨(some 16), (some (14, false)), (.bin .lss (.t 15) (.c (.int .i64 1))), [], [], 1088⟩,
  ⟨(some 17), none, (.pick (.t 14) (.c (.bool true)) (.t 16)), [], [], 1152⟩,
  ⟨(some 18), none, (.mov (.t 17)), [], [], 1216⟩,
  ⟨(some 19), (some (18, false)), (.mov (.t 1)), [], [], 1280⟩,
  ⟨(some 20), (some (18, false)), (.bin .gtr (.t 19) (.c (.int .i64 16))), [], [], 1344⟩,
  ⟨(some 21), none, (.pick (.t 18) (.c (.bool true)) (.t 20)), [], [], 1408⟩,
  ⟨(some 22), none, (.mov (.t 21)), [], [], 1472⟩,
  ⟨(some 23), (some (22, false)), (.mov (.t 2)), [], [], 1536⟩,
  ⟨(some 24), (some (22, false)), (.call 15 [(.t 23), (.c (.fn 16 []))]), [], [], 1600⟩,
  ⟨(some 25), none, (.pick (.t 22) (.c (.bool true)) (.t 24)), [], [], 1664⟩]) (.cond (.t 25) (.seq (.reg false [⟨(some 6), none, (.mov (.c .nilp)), [], [], 448⟩,
  ⟨(some 7), none, (.mov (.c (.int .i64 1))), [], [], 512⟩]) .ret) .skip)) (.seq (.reg false [⟨(some 26), none, (.mov (.t 0)), [], [], 1728⟩,
  ⟨(some 27), none, (.mov (.t 1)), [], [], 1792⟩,
  ⟨(some 28), none, (.mov (.t 2)), [], [], 1856⟩,
  ⟨(some 29), none, (.call 17 [(.t 28)]), [], [], 1920⟩,
  ⟨(some 30), none, (.mk [(.int .i64 0), (.int .i64 0), (.int .i64 0), (.sl .nil 0 []), (.int .i64 0), (.int .u64 0), (.int .i64 0), (.int .i64 0), (.sl .nil 0 [])] [(0, (1, (.t 26))), (1, (1, (.t 27))), (3, (1, (.t 29))), (5, (1, (.c (.int .u64 1))))]), [], [], 1984⟩,
  ⟨(some 31), none, (.box 9 (.t 30)), [], [], 2048⟩,
  ⟨(some 6), none, (.mov (.t 31)), [], [], 448⟩,
  ⟨(some 7), none, (.mov (.c (.int .i64 0))), [], [], 512⟩]) .ret)))⟩
theorem ok5 : FnOk Try.prog 5 ir5 := ⟨Try.f5, 0, Try.func5, by kernel_rfl, by kernel_rfl⟩
/-- muniment/munimentlaw21.awake -/
def ir6 : IFun := ⟨0, 77, [(.tmp 0)], (.seq (.reg false [⟨(some 0), none, (.mov (.c (.bool false))), [], [], 64⟩]) (.seq (.reg false [⟨(some 6), none, (.mk [(.int .i64 0), (.str []), (.str [])] [(0, (1, (.c (.int .i64 1)))), (1, (1, (.c (.str [97]))))]), [], [], 448⟩,
  ⟨(some 7), none, (.mksl 3 1 [(.int .i64 0), (.str []), (.str [])] [(0, (3, (.t 6)))]), [], [], 512⟩,
  ⟨(some 8), none, (.mk [(.int .i64 0), (.sl .nil 0 []), (.str []), (.int .u64 0), (.sl .nil 0 [])] [(0, (1, (.c (.int .i64 1)))), (1, (1, (.t 7)))]), [], [], 576⟩,
  ⟨(some 9), none, (.mksl 5 1 [(.int .i64 0), (.sl .nil 0 []), (.str []), (.int .u64 0), (.sl .nil 0 [])] [(0, (5, (.t 8)))]), [], [], 640⟩,
  ⟨(some 10), none, (.call 5 [(.c (.int .i64 0)), (.c (.int .i64 1)), (.t 9)]), [], [], 704⟩,
  ⟨(some 5), none, (.mov (.t 10)), [], [], 384⟩,
  ⟨(some 11), none, (.ext 0 (.t 5)), [], [], 768⟩,
  ⟨(some 12), none, (.ext 1 (.t 5)), [], [], 832⟩,
  ⟨(some 1), none, (.mov (.t 11)), [], [], 128⟩,
  ⟨(some 2), none, (.mov (.t 12)), [], [], 192⟩]) (.seq (.seq (.reg false [⟨(some 13), none, (.mov (.t 2)), [], [], 896⟩,
  ⟨(some 14), none, (.bin .neq (.t 13) (.c (.int .i64 0))), [], [], 960⟩]) (.cond (.t 14) (.seq (.reg false [⟨(some 0), none, (.mov (.c (.bool false))), [], [], 64⟩]) .ret) .skip)) (.seq (.reg false [⟨(some 15), none, (.mov (.t 1)), [], [], 1024⟩,
  ⟨(some 16), none, (.call 10 [(.t 15)]), [], [], 1088⟩,
  ⟨(some 3), none, (.mov (.t 16)), [], [], 256⟩]) (.seq (.seq (.reg false [⟨(some 17), none, (.mov (.t 3)), [], [], 1152⟩,
  ⟨(some 18), none, (.len false (.t 17)), [], [], 1216⟩,
  ⟨(some 19), none, (.bin .neq (.t 18) (.c (.int .i64 1))), [], [], 1280⟩,
  ⟨(some 20), none, (.mov (.t 19)), [], [], 1344⟩,
  ⟨(some 21), (some (20, false)), (.mov (.t 3)), [], [], 1408⟩,
  ⟨(some 22), (some (20, false)), (.iaL 3 (.t 21) (.c (.int .i64 0))), [], [], 1472⟩,
  ⟨(some 23), (some (20, false)), (.ld true 3 (.t 22)), [], [], 1536⟩,
  ⟨(some 24), (some (20, false)), (.call 18 [(.t 23)]), [], [], 1600⟩,
  ⟨(some 25), (some (20, false)), (.fld true 18 8 (.t 24)), [], [], 1664⟩,
  ⟨(some 26), (some (20, false)), (.fld false 0 1 (.t 25)), [], [], 1728⟩,
  ⟨(some 27), (some (20, false)), (.bin .neq (.t 26) (.c (.int .i64 1))), [], [], 1792⟩,
  ⟨(some 28), none, (.pick (.t 20) (.c (.bool true)) (.t 27)), [], [], 1856⟩,
  ⟨(some 29), none, (.mov (.t 28)), [], [], 1920⟩,
  ⟨(some 30), (some (29, false)), (.mov (.t 3)), [], [], 1984⟩,
  ⟨(some 31), (some (29, false)), (.iaL 3 (.t 30) (.c (.int .i64 0))), [], [], 2048⟩,
  ⟨(some 32), (some (29, false)), (.ld true 3 (.t 31)), [], [], 2112⟩,
  ⟨(some 33), (some (29, false)), (.call 18 [(.t 32)]), [], [], 2176⟩,
  ⟨(some 34), (some (29, false)), (.fld true 18 8 (.t 33)), [], [], 2240⟩,
  ⟨(some 35), (some (29, false)), (.fld true 2 3 (.t 34)), [], [], 2304⟩,
  ⟨(some 36), (some (29, false)), (.fld false 1 1 (.t 35)), [], [], 2368⟩,
  ⟨(some 37), (some (29, false)), (.bin .neq (.t 36) (.c (.int .u64 1))), [], [], 2432⟩,
  ⟨(some 38), none, (.pick (.t 29) (.c (.bool true)) (.t 37)), [], [], 2496⟩,
  ⟨(some 39), none, (.mov (.t 38)), [], [], 2560⟩,
  ⟨(some 40), (some (39, false)), (.mov (.t 3)), [], [], 2624⟩,
  ⟨(some 41), (some (39, false)), (.iaL 3 (.t 40) (.c (.int .i64 0))), [], [], 2688⟩,
  ⟨(some 42), (some (39, false)), (.ld true 3 (.t 41)), [], [], 2752⟩,
  ⟨(some 43), (some (39, false)), (.call 18 [(.t 42)]), [], [], 2816⟩,
  ⟨(some 44), (some (39, false)), (.fld true 18 8 (.t 43)), [], [], 2880⟩,
  ⟨(some 45), (some (39, false)), (.fld true 2 3 (.t 44)), [], [], 2944⟩,
  ⟨(some 46), (some (39, false)), (.fld false 0 1 (.t 45)), [], [], 3008⟩,
  ⟨(some 47), (some (39, false)), (.bin .neq (.t 46) (.c (.int .u64 1))), [], [], 3072⟩,
  ⟨(some 48), none, (.pick (.t 39) (.c (.bool true)) (.t 47)), [], [], 3136⟩]) (.cond (.t 48) (.seq (.reg false [⟨(some 0), none, (.mov (.c (.bool false))), [], [], 64⟩]) .ret) .skip)) (.seq (.reg false [⟨(some 49), none, (.mov (.t 1)), [], [], 3200⟩,
  ⟨(some 50), none, (.mk [(.int .i64 0), (.int .i64 0), (.int .i64 0), (.int .u64 0), (.bool false), (.str []), (.sl .nil 0 []), (.bool false), (.str []), (.str []), (.int .u64 0), (.str []), (.str []), (.str []), (.sl .nil 0 []), (.sl .nil 0 [])] [(0, (1, (.c (.int .i64 1)))), (3, (1, (.c (.int .u64 4))))]), [], [], 3264⟩,
  ⟨(some 51), none, (.call 19 [(.t 49), (.c (.int .i64 0)), (.c (.int .i64 100)), (.t 50)]), [], [], 3328⟩]) (.seq (.reg false [⟨(some 52), none, (.mov (.t 1)), [], [], 3392⟩,
  ⟨(some 53), none, (.call 13 [(.t 52)]), [], [], 3456⟩,
  ⟨(some 4), none, (.mov (.t 53)), [], [], 320⟩]) (.seq (.reg false [⟨(some 54), none, (.mov (.t 1)), [], [], 3520⟩,
  ⟨(some 55), none, (.call 11 [(.t 54)]), [], [], 3584⟩,
  ⟨(some 56), none, (.mov (.t 55)), [], [], 3648⟩,
  ⟨(some 57), (some (56, true)), (.mov (.t 4)), [], [], 3712⟩,
  ⟨(some 58), (some (56, true)), (.len false (.t 57)), [], [], 3776⟩,
  ⟨(some 59), (some (56, true)), (.bin .eql (.t 58) (.c (.int .i64 1))), [], [], 3840⟩,
  ⟨(some 60), none, (.pick (.t 56) (.t 59) (.c (.bool false))), [], [], 3904⟩,
  ⟨(some 61), none, (.mov (.t 60)), [], [], 3968⟩,
  ⟨(some 62), (some (61, true)), (.mov (.t 4)), [], [], 4032⟩,
  ⟨(some 63), (some (61, true)), (.iaL 21 (.t 62) (.c (.int .i64 0))), [], [], 4096⟩,
  ⟨(some 64), (some (61, true)), (.fad 2 (.t 63)), [], [], 4160⟩,
  ⟨(some 65), (some (61, true)), (.fad 3 (.t 64)), [], [], 4224⟩,
  ⟨(some 66), (some (61, true)), (.ld false 1 (.t 65)), [], [], 4288⟩,
  ⟨(some 67), (some (61, true)), (.bin .eql (.t 66) (.c (.int .u64 4))), [], [], 4352⟩,
  ⟨(some 68), none, (.pick (.t 61) (.t 67) (.c (.bool false))), [], [], 4416⟩,
  ⟨(some 69), none, (.mov (.t 68)), [], [], 4480⟩,
  ⟨(some 70), (some (69, true)), (.mov (.t 4)), [], [], 4544⟩,
  ⟨(some 71), (some (69, true)), (.iaL 21 (.t 70) (.c (.int .i64 0))), [], [], 4608⟩,
  ⟨(some 72), (some (69, true)), (.fad 18 (.t 71)), [], [], 4672⟩,
  ⟨(some 73), (some (69, true)), (.fad 1 (.t 72)), [], [], 4736⟩,
  ⟨(some 74), (some (69, true)), (.ld false 1 (.t 73)), [], [], 4800⟩,
  ⟨(some 75), (some (69, true)), (.bin .eql (.t 74) (.c (.int .u64 1))), [], [], 4864⟩,
  ⟨(some 76), none, (.pick (.t 69) (.t 75) (.c (.bool false))), [], [], 4928⟩,
  ⟨(some 0), none, (.mov (.t 76)), [], [], 64⟩]) .ret))))))))⟩
theorem ok6 : FnOk Try.prog 6 ir6 := ⟨Try.f6, 0, Try.func6, by kernel_rfl, by kernel_rfl⟩
/-- muniment/client.Check -/
def ir7 : IFun := ⟨1, 32, [(.tmp 2)], (.seq (.reg false [⟨(some 1), none, (.box 5 (.t 0)), [], [], 128⟩,
  ⟨(some 2), none, (.mov (.c (.bool false))), [], [], 192⟩]) (.seq (.seq (.reg false [⟨(some 3), none, (.fad 0 (.t 1)), [], [], 256⟩,
  ⟨(some 4), none, (.ld false 1 (.t 3)), [], [], 320⟩]) (.block 0 (.seq (.reg false [⟨(some 6), none, (.bin .eql (.t 4) (.c (.int .i64 1))), [], [], 448⟩,
  ⟨(some 5), none, (.mov (.t 6)), [], [], 384⟩]) (.cond (.t 5) (.seq (.reg false [⟨(some 7), none, (.fad 1 (.t 1)), [], [], 512⟩,
  ⟨(some 8), none, (.ld false 1 (.t 7)), [], [], 576⟩,
  ⟨(some 9), none, (.mk [(.int .u64 0), (.int .u64 0), (.sl .nil 0 [])] [(1, (1, (.c (.int .u64 1)))), (2, (1, (.t 8)))]), [], [], 640⟩,
  ⟨(some 10), none, (.call 20 [(.t 9)]), [], [], 704⟩,
  ⟨(some 11), none, (.bin .eql (.t 10) (.c (.int .i64 0))), [], [], 768⟩,
  ⟨(some 2), none, (.mov (.t 11)), [], [], 192⟩]) .ret) (.seq (.reg false [⟨(some 13), none, (.bin .eql (.t 4) (.c (.int .i64 2))), [], [], 896⟩,
  ⟨(some 12), none, (.mov (.t 13)), [], [], 832⟩]) (.cond (.t 12) (.seq (.reg false [⟨(some 14), none, (.fad 2 (.t 1)), [], [], 960⟩,
  ⟨(some 15), none, (.ld false 1 (.t 14)), [], [], 1024⟩,
  ⟨(some 16), none, (.len true (.t 15)), [], [], 1088⟩,
  ⟨(some 17), none, (.bin .geq (.t 16) (.c (.int .i64 1))), [], [], 1152⟩,
  ⟨(some 18), none, (.mov (.t 17)), [], [], 1216⟩,
  ⟨(some 19), (some (18, true)), (.fad 2 (.t 1)), [], [], 1280⟩,
  ⟨(some 20), (some (18, true)), (.ld false 1 (.t 19)), [], [], 1344⟩,
  ⟨(some 21), (some (18, true)), (.len true (.t 20)), [], [], 1408⟩,
  ⟨(some 22), (some (18, true)), (.bin .leq (.t 21) (.c (.int .i64 32))), [], [], 1472⟩,
  ⟨(some 23), none, (.pick (.t 18) (.t 22) (.c (.bool false))), [], [], 1536⟩,
  ⟨(some 2), none, (.mov (.t 23)), [], [], 192⟩]) .ret) (.seq (.reg false [⟨(some 25), none, (.bin .eql (.t 4) (.c (.int .i64 4))), [], [], 1664⟩,
  ⟨(some 24), none, (.mov (.t 25)), [], [], 1600⟩]) (.cond (.t 24) (.seq (.reg false [⟨(some 26), none, (.fad 4 (.t 1)), [], [], 1728⟩,
  ⟨(some 27), none, (.ld false 1 (.t 26)), [], [], 1792⟩,
  ⟨(some 28), none, (.call 21 [(.t 27)]), [], [], 1856⟩,
  ⟨(some 2), none, (.mov (.t 28)), [], [], 192⟩]) .ret) .skip)))))))) (.seq (.reg false [⟨(some 29), none, (.fad 0 (.t 1)), [], [], 1920⟩,
  ⟨(some 30), none, (.ld false 1 (.t 29)), [], [], 1984⟩,
  ⟨(some 31), none, (.bin .eql (.t 30) (.c (.int .i64 3))), [], [], 2048⟩,
  ⟨(some 2), none, (.mov (.t 31)), [], [], 192⟩]) .ret)))⟩
theorem ok7 : FnOk Try.prog 7 ir7 := ⟨Try.f7, 0, Try.func7, by kernel_rfl, by kernel_rfl⟩
/-- muniment/munimentlaw21.may -/
def ir8 : IFun := ⟨1, 33, [(.tmp 2)], (.seq (.reg false [⟨(some 1), none, (.box 5 (.t 0)), [], [], 128⟩,
  ⟨(some 2), none, (.mov (.c (.bool false))), [], [], 192⟩]) (.seq (.seq (.reg false [⟨(some 3), none, (.fad 0 (.t 1)), [], [], 256⟩,
  ⟨(some 4), none, (.ld false 1 (.t 3)), [], [], 320⟩]) (.block 0 (.seq (.reg false [⟨(some 6), none, (.bin .eql (.t 4) (.c (.int .i64 1))), [], [], 448⟩,
  ⟨(some 5), none, (.mov (.t 6)), [], [], 384⟩]) (.cond (.t 5) (.seq (.reg false [⟨(some 7), none, (.fad 1 (.t 1)), [], [], 512⟩,
  ⟨(some 8), none, (.ld false 1 (.t 7)), [], [], 576⟩,
  ⟨(some 9), none, (.mk [(.int .u64 0), (.int .u64 0), (.sl .nil 0 [])] [(1, (1, (.c (.int .u64 1)))), (2, (1, (.t 8)))]), [], [], 640⟩,
  ⟨(some 10), none, (.call 23 [(.t 9)]), [], [], 704⟩,
  ⟨(some 11), none, (.call 22 [(.t 10)]), [], [], 768⟩,
  ⟨(some 12), none, (.bin .eql (.t 11) (.c (.int .i64 0))), [], [], 832⟩,
  ⟨(some 2), none, (.mov (.t 12)), [], [], 192⟩]) .ret) (.seq (.reg false [⟨(some 14), none, (.bin .eql (.t 4) (.c (.int .i64 2))), [], [], 960⟩,
  ⟨(some 13), none, (.mov (.t 14)), [], [], 896⟩]) (.cond (.t 13) (.seq (.reg false [⟨(some 15), none, (.fad 2 (.t 1)), [], [], 1024⟩,
  ⟨(some 16), none, (.ld false 1 (.t 15)), [], [], 1088⟩,
  ⟨(some 17), none, (.len true (.t 16)), [], [], 1152⟩,
  ⟨(some 18), none, (.bin .geq (.t 17) (.c (.int .i64 1))), [], [], 1216⟩,
  ⟨(some 19), none, (.mov (.t 18)), [], [], 1280⟩,
  ⟨(some 20), (some (19, true)), (.fad 2 (.t 1)), [], [], 1344⟩,
  ⟨(some 21), (some (19, true)), (.ld false 1 (.t 20)), [], [], 1408⟩,
  ⟨(some 22), (some (19, true)), (.len true (.t 21)), [], [], 1472⟩,
  ⟨(some 23), (some (19, true)), (.bin .leq (.t 22) (.c (.int .i64 32))), [], [], 1536⟩,
  ⟨(some 24), none, (.pick (.t 19) (.t 23) (.c (.bool false))), [], [], 1600⟩,
  ⟨(some 2), none, (.mov (.t 24)), [], [], 192⟩]) .ret) (.seq (.reg false [⟨(some 26), none, (.bin .eql (.t 4) (.c (.int .i64 4))), [], [], 1728⟩,
  ⟨(some 25), none, (.mov (.t 26)), [], [], 1664⟩]) (.cond (.t 25) (.seq (.reg false [⟨(some 27), none, (.fad 4 (.t 1)), [], [], 1792⟩,
  ⟨(some 28), none, (.ld false 1 (.t 27)), [], [], 1856⟩,
  ⟨(some 29), none, (.call 24 [(.t 28)]), [], [], 1920⟩,
  ⟨(some 2), none, (.mov (.t 29)), [], [], 192⟩]) .ret) .skip)))))))) (.seq (.reg false [⟨(some 30), none, (.fad 0 (.t 1)), [], [], 1984⟩,
  ⟨(some 31), none, (.ld false 1 (.t 30)), [], [], 2048⟩,
  ⟨(some 32), none, (.bin .eql (.t 31) (.c (.int .i64 3))), [], [], 2112⟩,
  ⟨(some 2), none, (.mov (.t 32)), [], [], 192⟩]) .ret)))⟩
theorem ok8 : FnOk Try.prog 8 ir8 := ⟨Try.f8, 0, Try.func8, by kernel_rfl, by kernel_rfl⟩
/-- (*muniment/client.Client).Handle -/
def ir9 : IFun := ⟨2, 70, [], (.seq (.reg false [⟨(some 3), none, (.box 3 (.t 1)), [], [], 256⟩]) (.seq (.seq (.reg true [⟨(some 6), none, (.mov (.t 0)), [], [], 448⟩,
  ⟨(some 7), none, (.call 11 [(.t 6)]), [0], [0], 512⟩,
  ⟨(some 8), none, (.mov (.t 7)), [1, 1], [1, 0], 576⟩,
  ⟨(some 9), (some (8, false)), (.fad 1 (.t 3)), [2], [2, 1, 0], 640⟩,
  ⟨(some 10), (some (8, false)), (.ld false 1 (.t 9)), [3, 2], [3, 2, 1, 0], 704⟩,
  ⟨(some 11), (some (8, false)), (.mov (.t 0)), [2], [2, 1, 0], 768⟩,
  ⟨(some 12), (some (8, false)), (.chk (.t 11)), [5, 2], [5, 2, 1, 0], 832⟩,
  ⟨(some 13), (some (8, false)), (.fad 0 (.t 12)), [6, 2], [6, 2, 5, 1, 0], 896⟩,
  ⟨(some 14), (some (8, false)), (.ld false 1 (.t 13)), [7, 2], [7, 2, 6, 5, 1, 0], 960⟩,
  ⟨(some 15), (some (8, false)), (.bin .add (.c (.int .i64 100)) (.t 14)), [8, 2], [8, 2, 7, 6, 5, 1, 0], 1024⟩,
  ⟨(some 16), (some (8, false)), (.bin .neq (.t 10) (.t 15)), [4, 9, 2], [4, 9, 2, 3, 1, 0, 8, 7, 6, 5], 1088⟩,
  ⟨(some 17), none, (.pick (.t 8) (.c (.bool true)) (.t 16)), [2, 10], [2, 10, 1, 0, 4, 9, 3, 8, 7, 6, 5], 1152⟩]) (.cond (.t 17) .ret .skip)) (.seq (.reg false [⟨(some 19), none, (.fad 2 (.t 3)), [], [], 1280⟩,
  ⟨(some 20), none, (.ld false 1 (.t 19)), [], [], 1344⟩,
  ⟨(some 21), none, (.call 25 [(.t 20)]), [], [], 1408⟩,
  ⟨(some 18), none, (.mov (.t 21)), [], [], 1216⟩,
  ⟨(some 22), none, (.ext 0 (.t 18)), [], [], 1472⟩,
  ⟨(some 23), none, (.ext 1 (.t 18)), [], [], 1536⟩,
  ⟨(some 4), none, (.new [(.int .i64 0), (.int .i64 0), (.int .i64 0), (.int .i64 0), (.int .i64 0), (.int .i64 0), (.int .i64 0), (.int .i64 0), (.bool false), (.sl .nil 0 []), (.int .i64 0), (.str []), (.bool false), (.sl .nil 0 []), (.int .u64 0), (.str []), (.int .i64 0), (.str []), (.int .i64 0), (.int .i64 0), (.int .u64 0), (.int .u64 0), (.sl .nil 0 []), (.str []), (.int .u64 0), (.sl .nil 0 []), (.int .i64 0), (.int .i64 0), (.int .i64 0), (.int .u64 0), (.bool false), (.str []), (.sl .nil 0 []), (.bool false), (.str []), (.str []), (.int .u64 0), (.str []), (.str []), (.str []), (.sl .nil 0 []), (.sl .nil 0 []), (.int .i64 0)]), [], [], 320⟩,
  ⟨none, none, (.st true 43 (.t 4) (.t 22)), [], [], 64⟩,
  ⟨(some 5), none, (.mov (.t 23)), [], [], 384⟩]) (.seq (.seq (.reg false [⟨(some 24), none, (.mov (.t 5)), [], [], 1600⟩,
  ⟨(some 25), none, (.bin .neq (.t 24) (.c (.int .i64 0))), [], [], 1664⟩]) (.cond (.t 25) .ret .skip)) (.seq (.reg false [⟨(some 26), none, (.fad 0 (.t 4)), [], [], 1728⟩,
  ⟨(some 27), none, (.ld false 1 (.t 26)), [], [], 1792⟩]) (.block 0 (.seq (.reg false [⟨(some 29), none, (.bin .eql (.t 27) (.c (.int .i64 5))), [], [], 1920⟩,
  ⟨(some 28), none, (.mov (.t 29)), [], [], 1856⟩]) (.cond (.t 28) (.seq (.reg true [⟨(some 30), none, (.fad 42 (.t 4)), [], [], 1984⟩,
  ⟨(some 31), none, (.ld false 1 (.t 30)), [0], [0], 2048⟩,
  ⟨(some 32), none, (.bin .geq (.t 31) (.c (.int .i64 0))), [1], [1, 0], 2112⟩,
  ⟨(some 33), none, (.mov (.t 32)), [2], [2, 1, 0], 2176⟩,
  ⟨(some 34), (some (33, true)), (.fad 42 (.t 4)), [3], [3, 2, 1, 0], 2240⟩,
  ⟨(some 35), (some (33, true)), (.ld false 1 (.t 34)), [4, 3], [4, 3, 2, 1, 0], 2304⟩,
  ⟨(some 36), (some (33, true)), (.mov (.t 0)), [3], [3, 2, 1, 0], 2368⟩,
  ⟨(some 37), (some (33, true)), (.chk (.t 36)), [6, 3], [6, 3, 2, 1, 0], 2432⟩,
  ⟨(some 38), (some (33, true)), (.fad 1 (.t 37)), [7, 3], [7, 3, 6, 2, 1, 0], 2496⟩,
  ⟨(some 39), (some (33, true)), (.ld false 1 (.t 38)), [8, 3], [8, 3, 7, 6, 2, 1, 0], 2560⟩,
  ⟨(some 40), (some (33, true)), (.bin .lss (.t 35) (.t 39)), [5, 9, 3], [5, 9, 3, 4, 2, 1, 0, 8, 7, 6], 2624⟩,
  ⟨(some 41), none, (.pick (.t 33) (.t 40) (.c (.bool false))), [3, 10], [3, 10, 2, 1, 0, 5, 9, 4, 8, 7, 6], 2688⟩,
  ⟨(some 42), none, (.mov (.t 41)), [11, 3], [11, 3, 10, 2, 1, 0, 5, 9, 4, 8, 7, 6], 2752⟩,
  ⟨(some 43), (some (42, true)), (.fad 42 (.t 4)), [12], [12, 11, 3, 10, 2, 1, 0, 5, 9, 4, 8, 7, 6], 2816⟩,
  ⟨(some 44), (some (42, true)), (.ld false 1 (.t 43)), [13, 12], [13, 12, 11, 3, 10, 2, 1, 0, 5, 9, 4, 8, 7, 6], 2880⟩,
  ⟨(some 45), (some (42, true)), (.mov (.t 0)), [12], [12, 11, 3, 10, 2, 1, 0, 5, 9, 4, 8, 7, 6], 2944⟩,
  ⟨(some 46), (some (42, true)), (.chk (.t 45)), [15, 12], [15, 12, 11, 3, 10, 2, 1, 0, 5, 9, 4, 8, 7, 6], 3008⟩,
  ⟨(some 47), (some (42, true)), (.fad 2 (.t 46)), [16, 12], [16, 12, 15, 11, 3, 10, 2, 1, 0, 5, 9, 4, 8, 7, 6], 3072⟩,
  ⟨(some 48), (some (42, true)), (.ld false 1 (.t 47)), [17, 12], [17, 12, 16, 15, 11, 3, 10, 2, 1, 0, 5, 9, 4, 8, 7, 6], 3136⟩,
  ⟨(some 49), (some (42, true)), (.bin .neq (.t 44) (.t 48)), [14, 18, 12], [14, 18, 12, 13, 11, 3, 10, 2, 1, 0, 5, 9, 4, 8, 7, 6, 17, 16, 15], 3200⟩,
  ⟨(some 50), none, (.pick (.t 42) (.t 49) (.c (.bool false))), [12, 19], [12, 19, 11, 3, 10, 2, 1, 0, 5, 9, 4, 8, 7, 6, 14, 18, 13, 17, 16, 15], 3264⟩]) (.cond (.t 50) (.reg false [⟨(some 51), none, (.mov (.t 0)), [], [], 3328⟩,
  ⟨(some 52), none, (.mov (.t 0)), [], [], 3392⟩,
  ⟨(some 53), none, (.mov (.t 0)), [], [], 3456⟩,
  ⟨(some 54), none, (.fad 42 (.t 4)), [], [], 3520⟩,
  ⟨(some 55), none, (.ld false 1 (.t 54)), [], [], 3584⟩,
  ⟨(some 56), none, (.chk (.t 51)), [], [], 3648⟩,
  ⟨(some 57), none, (.fad 2 (.t 56)), [], [], 3712⟩,
  ⟨none, none, (.st false 1 (.t 57) (.t 55)), [], [], 64⟩,
  ⟨(some 58), none, (.chk (.t 52)), [], [], 3776⟩,
  ⟨(some 59), none, (.fad 6 (.t 58)), [], [], 3840⟩,
  ⟨none, none, (.st false 1 (.t 59) (.c (.int .i64 0))), [], [], 64⟩,
  ⟨(some 60), none, (.chk (.t 53)), [], [], 3904⟩,
  ⟨(some 61), none, (.fad 7 (.t 60)), [], [], 3968⟩,
  ⟨none, none, (.st false 1 (.t 61) (.c (.int .i64 0))), [], [], 64⟩]) .skip)) (.seq (.reg false [⟨(some 63), none, (.bin .eql (.t 27) (.c (.int .i64 4))), [], [], 4096⟩,
  ⟨(some 62), none, (.mov (.t 63)), [], [], 4032⟩]) (.cond (.t 62) (.reg false [⟨(some 64), none, (.mov (.t 0)), [], [], 4160⟩,
  ⟨(some 65), none, (.fad 0 (.t 3)), [], [], 4224⟩,
  ⟨(some 66), none, (.ld false 1 (.t 65)), [], [], 4288⟩,
  ⟨(some 67), none, (.fad 26 (.t 4)), [], [], 4352⟩,
  ⟨(some 68), none, (.ld true 16 (.t 67)), [], [], 4416⟩,
  ⟨(some 69), none, (.call 26 [(.t 64), (.t 66), (.t 68)]), [], [], 4480⟩]) .skip))))))))))⟩
theorem ok9 : FnOk Try.prog 9 ir9 := ⟨Try.f9, 0, Try.func9, by kernel_rfl, by kernel_rfl⟩
/-- (*muniment/client.Client).Tick -/
def ir10 : IFun := ⟨1, 63, [(.tmp 2)], (.seq (.reg false [⟨(some 2), none, (.mov (.c (.sl .nil 0 []))), [], [], 192⟩]) (.seq (.seq (.reg false [⟨(some 3), none, (.mov (.t 0)), [], [], 256⟩,
  ⟨(some 4), none, (.call 11 [(.t 3)]), [], [], 320⟩]) (.cond (.t 4) (.seq (.reg false [⟨(some 2), none, (.mov (.c (.sl .nil 0 []))), [], [], 192⟩]) .ret) .skip)) (.seq (.seq (.reg false [⟨(some 5), none, (.mov (.t 0)), [], [], 384⟩,
  ⟨(some 6), none, (.chk (.t 5)), [], [], 448⟩,
  ⟨(some 7), none, (.fad 6 (.t 6)), [], [], 512⟩,
  ⟨(some 8), none, (.ld false 1 (.t 7)), [], [], 576⟩,
  ⟨(some 9), none, (.bin .sub (.t 8) (.c (.int .i64 1))), [], [], 640⟩,
  ⟨(some 10), none, (.chk (.t 5)), [], [], 704⟩,
  ⟨(some 11), none, (.fad 6 (.t 10)), [], [], 768⟩,
  ⟨none, none, (.st false 1 (.t 11) (.t 9)), [], [], 64⟩]) (.seq (.reg false [⟨(some 12), none, (.mov (.t 0)), [], [], 832⟩,
  ⟨(some 13), none, (.chk (.t 12)), [], [], 896⟩,
  ⟨(some 14), none, (.fad 6 (.t 13)), [], [], 960⟩,
  ⟨(some 15), none, (.ld false 1 (.t 14)), [], [], 1024⟩,
  ⟨(some 16), none, (.bin .gtr (.t 15) (.c (.int .i64 0))), [], [], 1088⟩]) (.cond (.t 16) (.seq (.reg false [⟨(some 2), none, (.mov (.c (.sl .nil 0 []))), [], [], 192⟩]) .ret) .skip))) (.seq (.reg false [⟨(some 17), none, (.mov (.t 0)), [], [], 1152⟩,
  ⟨(some 18), none, (.chk (.t 17)), [], [], 1216⟩,
  ⟨(some 19), none, (.fad 6 (.t 18)), [], [], 1280⟩,
  ⟨none, none, (.st false 1 (.t 19) (.c (.int .i64 4))), [], [], 64⟩]) (.seq (.seq (.reg false [⟨(some 20), none, (.mov (.t 0)), [], [], 1344⟩,
  ⟨(some 21), none, (.chk (.t 20)), [], [], 1408⟩,
  ⟨(some 22), none, (.fad 7 (.t 21)), [], [], 1472⟩,
  ⟨(some 23), none, (.ld false 1 (.t 22)), [], [], 1536⟩,
  ⟨(some 24), none, (.bin .add (.t 23) (.c (.int .i64 1))), [], [], 1600⟩,
  ⟨(some 25), none, (.chk (.t 20)), [], [], 1664⟩,
  ⟨(some 26), none, (.fad 7 (.t 25)), [], [], 1728⟩,
  ⟨none, none, (.st false 1 (.t 26) (.t 24)), [], [], 64⟩]) (.seq (.reg false [⟨(some 27), none, (.mov (.t 0)), [], [], 1792⟩,
  ⟨(some 28), none, (.chk (.t 27)), [], [], 1856⟩,
  ⟨(some 29), none, (.fad 7 (.t 28)), [], [], 1920⟩,
  ⟨(some 30), none, (.ld false 1 (.t 29)), [], [], 1984⟩,
  ⟨(some 31), none, (.bin .gtr (.t 30) (.c (.int .i64 3))), [], [], 2048⟩]) (.cond (.t 31) (.reg true [⟨(some 32), none, (.mov (.t 0)), [], [], 2112⟩,
  ⟨(some 33), none, (.mov (.t 0)), [], [], 2176⟩,
  ⟨(some 34), none, (.mov (.t 0)), [], [], 2240⟩,
  ⟨(some 35), none, (.chk (.t 34)), [2], [2], 2304⟩,
  ⟨(some 36), none, (.fad 2 (.t 35)), [3], [3, 2], 2368⟩,
  ⟨(some 37), none, (.ld false 1 (.t 36)), [4], [4, 3, 2], 2432⟩,
  ⟨(some 38), none, (.bin .add (.t 37) (.c (.int .i64 1))), [5], [5, 4, 3, 2], 2496⟩,
  ⟨(some 39), none, (.mov (.t 0)), [], [], 2560⟩,
  ⟨(some 40), none, (.chk (.t 39)), [7], [7], 2624⟩,
  ⟨(some 41), none, (.fad 1 (.t 40)), [8], [8, 7], 2688⟩,
  ⟨(some 42), none, (.ld false 1 (.t 41)), [9], [9, 8, 7], 2752⟩,
  ⟨(some 43), none, (.bin .rem (.t 38) (.t 42)), [6, 10], [6, 10, 5, 4, 3, 2, 9, 8, 7], 2816⟩,
  ⟨(some 44), none, (.chk (.t 32)), [0, 0, 2, 3, 4, 5, 6, 7, 8, 9, 10, 11], [0, 2, 3, 4, 5, 6, 7, 8, 9, 10, 11], 2880⟩,
  ⟨(some 45), none, (.fad 2 (.t 44)), [12, 0, 2, 3, 4, 5, 6, 7, 8, 9, 10, 11], [12, 0, 2, 3, 4, 5, 6, 7, 8, 9, 10, 11], 2944⟩,
  ⟨none, none, (.st false 1 (.t 45) (.t 43)), [13, 11, 0, 2, 3, 4, 5, 6, 7, 8, 9, 10, 11], [13, 11, 0, 2, 3, 4, 5, 6, 7, 8, 9, 10, 12], 64⟩,
  ⟨(some 46), none, (.chk (.t 33)), [1, 0, 1, 2, 3, 4, 5, 6, 7, 8, 9, 10, 11, 12, 13, 14], [1, 0, 2, 3, 4, 5, 6, 7, 8, 9, 10, 11, 12, 13, 14], 3008⟩,
  ⟨(some 47), none, (.fad 7 (.t 46)), [15, 0, 1, 2, 3, 4, 5, 6, 7, 8, 9, 10, 11, 12, 13, 14], [15, 0, 1, 2, 3, 4, 5, 6, 7, 8, 9, 10, 11, 12, 13, 14], 3072⟩,
  ⟨none, none, (.st false 1 (.t 47) (.c (.int .i64 0))), [16, 14, 0, 1, 2, 3, 4, 5, 6, 7, 8, 9, 10, 11, 12, 13, 14], [16, 14, 0, 1, 2, 3, 4, 5, 6, 7, 8, 9, 10, 11, 12, 13, 15], 64⟩]) .skip))) (.seq (.reg true [⟨(some 48), none, (.mov (.t 0)), [], [], 3136⟩,
  ⟨(some 49), none, (.chk (.t 48)), [0], [0], 3200⟩,
  ⟨(some 50), none, (.fad 0 (.t 49)), [1], [1, 0], 3264⟩,
  ⟨(some 51), none, (.ld false 1 (.t 50)), [2], [2, 1, 0], 3328⟩,
  ⟨(some 52), none, (.bin .add (.c (.int .i64 100)) (.t 51)), [3], [3, 2, 1, 0], 3392⟩,
  ⟨(some 53), none, (.mov (.t 0)), [], [], 3456⟩,
  ⟨(some 54), none, (.chk (.t 53)), [5], [5], 3520⟩,
  ⟨(some 55), none, (.fad 2 (.t 54)), [6], [6, 5], 3584⟩,
  ⟨(some 56), none, (.ld false 1 (.t 55)), [7], [7, 6, 5], 3648⟩,
  ⟨(some 57), none, (.mov (.t 0)), [], [], 3712⟩,
  ⟨(some 58), none, (.call 28 [(.t 57)]), [9], [9], 3776⟩,
  ⟨(some 59), none, (.mk [(.int .i64 0), (.int .i64 0), (.int .i64 0), (.int .i64 0), (.int .i64 0), (.int .i64 0), (.int .i64 0), (.int .i64 0), (.bool false), (.sl .nil 0 []), (.int .i64 0), (.str []), (.bool false), (.sl .nil 0 []), (.int .u64 0), (.str []), (.int .i64 0), (.str []), (.int .i64 0), (.int .i64 0), (.int .u64 0), (.int .u64 0), (.sl .nil 0 []), (.str []), (.int .u64 0), (.sl .nil 0 []), (.int .i64 0), (.int .i64 0), (.int .i64 0), (.int .u64 0), (.bool false), (.str []), (.sl .nil 0 []), (.bool false), (.str []), (.str []), (.int .u64 0), (.str []), (.str []), (.str []), (.sl .nil 0 []), (.sl .nil 0 []), (.int .i64 0)] [(0, (1, (.c (.int .i64 3)))), (18, (8, (.t 58)))]), [10], [10, 9], 3840⟩,
  ⟨(some 60), none, (.call 27 [(.t 59)]), [11, 10], [11, 10, 9], 3904⟩,
  ⟨(some 61), none, (.mk [(.int .i64 0), (.int .i64 0), (.str [])] [(0, (1, (.t 52))), (1, (1, (.t 56))), (2, (1, (.t 60)))]), [4, 8, 12], [4, 8, 12, 3, 2, 1, 0, 7, 6, 5, 11, 10, 9], 3968⟩,
  ⟨(some 62), none, (.mksl 3 1 [(.int .i64 0), (.int .i64 0), (.str [])] [(0, (3, (.t 61)))]), [13], [13, 4, 8, 12, 3, 2, 1, 0, 7, 6, 5, 11, 10, 9], 4032⟩,
  ⟨(some 2), none, (.mov (.t 62)), [14, 12, 0, 1, 2, 3, 4, 5, 6, 7, 8, 9, 10, 11, 12, 13, 14], [14, 12, 0, 1, 2, 3, 4, 5, 6, 7, 8, 9, 10, 11, 13], 192⟩]) .ret))))))⟩
theorem ok10 : FnOk Try.prog 10 ir10 := ⟨Try.f10, 0, Try.func10, by kernel_rfl, by kernel_rfl⟩
/-- (*muniment/client.Client).Ended -/
def ir11 : IFun := ⟨1, 17, [(.tmp 2)], (.seq (.reg false [⟨(some 2), none, (.mov (.c (.bool false))), [], [], 192⟩]) (.seq (.reg true [⟨(some 3), none, (.mov (.t 0)), [], [], 256⟩,
  ⟨(some 4), none, (.eqn false .ptr (.t 3) (.c .nilp)), [0], [0], 320⟩,
  ⟨(some 5), none, (.mov (.t 4)), [1], [1, 0], 384⟩,
  ⟨(some 6), (some (5, false)), (.mov (.t 0)), [2], [2, 1, 0], 448⟩,
  ⟨(some 7), (some (5, false)), (.chk (.t 6)), [3, 2], [3, 2, 1, 0], 512⟩,
  ⟨(some 8), (some (5, false)), (.fad 4 (.t 7)), [4, 2], [4, 2, 3, 1, 0], 576⟩,
  ⟨(some 9), (some (5, false)), (.ld false 1 (.t 8)), [5, 2], [5, 2, 4, 3, 1, 0], 640⟩,
  ⟨(some 10), (some (5, false)), (.mov (.t 0)), [2], [2, 1, 0], 704⟩,
  ⟨(some 11), (some (5, false)), (.chk (.t 10)), [7, 2], [7, 2, 1, 0], 768⟩,
  ⟨(some 12), (some (5, false)), (.fad 3 (.t 11)), [8, 2], [8, 2, 7, 1, 0], 832⟩,
  ⟨(some 13), (some (5, false)), (.ld false 1 (.t 12)), [9, 2], [9, 2, 8, 7, 1, 0], 896⟩,
  ⟨(some 14), (some (5, false)), (.len false (.t 13)), [10, 2], [10, 2, 9, 8, 7, 1, 0], 960⟩,
  ⟨(some 15), (some (5, false)), (.bin .geq (.t 9) (.t 14)), [6, 11, 2], [6, 11, 2, 5, 4, 3, 1, 0, 10, 9, 8, 7], 1024⟩,
  ⟨(some 16), none, (.pick (.t 5) (.c (.bool true)) (.t 15)), [2, 12], [2, 12, 1, 0, 6, 11, 5, 4, 3, 10, 9, 8, 7], 1088⟩,
  ⟨(some 2), none, (.mov (.t 16)), [13, 2, 0, 1, 2, 3, 4, 5, 6, 7, 8, 9, 10, 11, 12, 13], [13, 2, 0, 1, 3, 4, 5, 6, 7, 8, 9, 10, 11, 12], 192⟩]) .ret))⟩
theorem ok11 : FnOk Try.prog 11 ir11 := ⟨Try.f11, 0, Try.func11, by kernel_rfl, by kernel_rfl⟩
/-- (*muniment/client.Client).At -/
def ir12 : IFun := ⟨1, 9, [(.tmp 2)], (.seq (.reg false [⟨(some 2), none, (.mov (.c (.int .i64 0))), [], [], 192⟩]) (.seq (.seq (.reg false [⟨(some 3), none, (.mov (.t 0)), [], [], 256⟩,
  ⟨(some 4), none, (.eqn false .ptr (.t 3) (.c .nilp)), [], [], 320⟩]) (.cond (.t 4) (.seq (.reg false [⟨(some 2), none, (.mov (.c (.int .i64 0))), [], [], 192⟩]) .ret) .skip)) (.seq (.reg false [⟨(some 5), none, (.mov (.t 0)), [], [], 384⟩,
  ⟨(some 6), none, (.chk (.t 5)), [], [], 448⟩,
  ⟨(some 7), none, (.fad 4 (.t 6)), [], [], 512⟩,
  ⟨(some 8), none, (.ld false 1 (.t 7)), [], [], 576⟩,
  ⟨(some 2), none, (.mov (.t 8)), [], [], 192⟩]) .ret)))⟩
theorem ok12 : FnOk Try.prog 12 ir12 := ⟨Try.f12, 0, Try.func12, by kernel_rfl, by kernel_rfl⟩
/-- (*muniment/client.Client).Heard -/
def ir13 : IFun := ⟨1, 10, [(.tmp 2)], (.seq (.reg false [⟨(some 2), none, (.mov (.c (.sl .nil 0 []))), [], [], 192⟩]) (.seq (.seq (.reg false [⟨(some 3), none, (.mov (.t 0)), [], [], 256⟩,
  ⟨(some 4), none, (.eqn false .ptr (.t 3) (.c .nilp)), [], [], 320⟩]) (.cond (.t 4) (.seq (.reg false [⟨(some 2), none, (.mov (.c (.sl .nil 0 []))), [], [], 192⟩]) .ret) .skip)) (.seq (.reg false [⟨(some 5), none, (.mov (.t 0)), [], [], 384⟩,
  ⟨(some 6), none, (.chk (.t 5)), [], [], 448⟩,
  ⟨(some 7), none, (.fad 8 (.t 6)), [], [], 512⟩,
  ⟨(some 8), none, (.ld false 1 (.t 7)), [], [], 576⟩,
  ⟨(some 9), none, (.call 29 [(.t 8)]), [], [], 640⟩,
  ⟨(some 2), none, (.mov (.t 9)), [], [], 192⟩]) .ret)))⟩
theorem ok13 : FnOk Try.prog 13 ir13 := ⟨Try.f13, 0, Try.func13, by kernel_rfl, by kernel_rfl⟩
/-- (*muniment/client.Client).Number -/
def ir14 : IFun := ⟨1, 11, [(.tmp 2)], (.seq (.reg false [⟨(some 2), none, (.mov (.c (.int .u64 0))), [], [], 192⟩]) (.seq (.seq (.reg false [⟨(some 3), none, (.mov (.t 0)), [], [], 256⟩,
  ⟨(some 4), none, (.eqn false .ptr (.t 3) (.c .nilp)), [], [], 320⟩]) (.cond (.t 4) (.seq (.reg false [⟨(some 2), none, (.mov (.c (.int .u64 0))), [], [], 192⟩]) .ret) .skip)) (.seq (.reg false [⟨(some 5), none, (.mov (.t 0)), [], [], 384⟩,
  ⟨(some 6), none, (.chk (.t 5)), [], [], 448⟩,
  ⟨(some 7), none, (.fad 0 (.t 6)), [], [], 512⟩,
  ⟨(some 8), none, (.ld false 1 (.t 7)), [], [], 576⟩,
  ⟨(some 9), none, (.toInt .u64 (.t 8)), [], [], 640⟩,
  ⟨(some 10), none, (.bin .add (.t 9) (.c (.int .u64 1))), [], [], 704⟩,
  ⟨(some 2), none, (.mov (.t 10)), [], [], 192⟩]) .ret)))⟩
theorem ok14 : FnOk Try.prog 14 ir14 := ⟨Try.f14, 0, Try.func14, by kernel_rfl, by kernel_rfl⟩
/-- slices.ContainsFunc[[]muniment/api.Call,muniment/api.Call] -/
def ir15 : IFun := ⟨2, 9, [(.tmp 4)], (.seq (.reg false [⟨(some 4), none, (.mov (.c (.bool false))), [], [], 320⟩]) (.seq (.reg false [⟨(some 5), none, (.mov (.t 0)), [], [], 384⟩,
  ⟨(some 6), none, (.mov (.t 1)), [], [], 448⟩,
  ⟨(some 7), none, (.call 30 [(.t 5), (.t 6)]), [], [], 512⟩,
  ⟨(some 8), none, (.bin .geq (.t 7) (.c (.int .i64 0))), [], [], 576⟩,
  ⟨(some 4), none, (.mov (.t 8)), [], [], 320⟩]) .ret))⟩
theorem ok15 : FnOk Try.prog 15 ir15 := ⟨Try.f15, 0, Try.func15, by kernel_rfl, by kernel_rfl⟩
/-- muniment/client.New$1 -/
def ir16 : IFun := ⟨1, 6, [(.tmp 2)], (.seq (.reg false [⟨(some 1), none, (.box 5 (.t 0)), [], [], 128⟩,
  ⟨(some 2), none, (.mov (.c (.bool false))), [], [], 192⟩]) (.seq (.reg false [⟨(some 3), none, (.ld true 5 (.t 1)), [], [], 256⟩,
  ⟨(some 4), none, (.call 7 [(.t 3)]), [], [], 320⟩,
  ⟨(some 5), none, (.un .not (.t 4)), [], [], 384⟩,
  ⟨(some 2), none, (.mov (.t 5)), [], [], 192⟩]) .ret))⟩
theorem ok16 : FnOk Try.prog 16 ir16 := ⟨Try.f16, 0, Try.func16, by kernel_rfl, by kernel_rfl⟩
/-- slices.Clone[[]muniment/api.Call,muniment/api.Call] -/
def ir17 : IFun := ⟨1, 8, [(.tmp 2)], (.seq (.reg false [⟨(some 2), none, (.mov (.c (.sl .nil 0 []))), [], [], 192⟩]) (.seq (.seq (.reg false [⟨(some 3), none, (.mov (.t 0)), [], [], 256⟩,
  ⟨(some 4), none, (.eqn false .sl (.t 3) (.c (.sl .nil 0 []))), [], [], 320⟩]) (.cond (.t 4) (.seq (.reg false [⟨(some 2), none, (.mov (.c (.sl .nil 0 []))), [], [], 192⟩]) .ret) .skip)) (.seq (.reg false [⟨(some 5), none, (.mksl 5 0 [] []), [], [], 384⟩,
  ⟨(some 6), none, (.mov (.t 0)), [], [], 448⟩,
  ⟨(some 7), none, (.app 5 80 (.t 5) (.t 6)), [], [], 512⟩,
  ⟨(some 2), none, (.mov (.t 7)), [], [], 192⟩]) .ret)))⟩
theorem ok17 : FnOk Try.prog 17 ir17 := ⟨Try.f17, 0, Try.func17, by kernel_rfl, by kernel_rfl⟩
/-- muniment/munimentlaw21.say -/
def ir18 : IFun := ⟨1, 12, [(.cell 2 true 43)], (.seq (.reg false [⟨(some 1), none, (.box 3 (.t 0)), [], [], 128⟩,
  ⟨(some 2), none, (.new [(.int .i64 0), (.int .i64 0), (.int .i64 0), (.int .i64 0), (.int .i64 0), (.int .i64 0), (.int .i64 0), (.int .i64 0), (.bool false), (.sl .nil 0 []), (.int .i64 0), (.str []), (.bool false), (.sl .nil 0 []), (.int .u64 0), (.str []), (.int .i64 0), (.str []), (.int .i64 0), (.int .i64 0), (.int .u64 0), (.int .u64 0), (.sl .nil 0 []), (.str []), (.int .u64 0), (.sl .nil 0 []), (.int .i64 0), (.int .i64 0), (.int .i64 0), (.int .u64 0), (.bool false), (.str []), (.sl .nil 0 []), (.bool false), (.str []), (.str []), (.int .u64 0), (.str []), (.str []), (.str []), (.sl .nil 0 []), (.sl .nil 0 []), (.int .i64 0)]), [], [], 192⟩]) (.seq (.reg false [⟨(some 6), none, (.fad 2 (.t 1)), [], [], 448⟩,
  ⟨(some 7), none, (.ld false 1 (.t 6)), [], [], 512⟩,
  ⟨(some 8), none, (.call 25 [(.t 7)]), [], [], 576⟩,
  ⟨(some 5), none, (.mov (.t 8)), [], [], 384⟩,
  ⟨(some 9), none, (.ext 0 (.t 5)), [], [], 640⟩,
  ⟨(some 10), none, (.ext 1 (.t 5)), [], [], 704⟩,
  ⟨(some 3), none, (.new [(.int .i64 0), (.int .i64 0), (.int .i64 0), (.int .i64 0), (.int .i64 0), (.int .i64 0), (.int .i64 0), (.int .i64 0), (.bool false), (.sl .nil 0 []), (.int .i64 0), (.str []), (.bool false), (.sl .nil 0 []), (.int .u64 0), (.str []), (.int .i64 0), (.str []), (.int .i64 0), (.int .i64 0), (.int .u64 0), (.int .u64 0), (.sl .nil 0 []), (.str []), (.int .u64 0), (.sl .nil 0 []), (.int .i64 0), (.int .i64 0), (.int .i64 0), (.int .u64 0), (.bool false), (.str []), (.sl .nil 0 []), (.bool false), (.str []), (.str []), (.int .u64 0), (.str []), (.str []), (.str []), (.sl .nil 0 []), (.sl .nil 0 []), (.int .i64 0)]), [], [], 256⟩,
  ⟨none, none, (.st true 43 (.t 3) (.t 9)), [], [], 64⟩,
  ⟨(some 4), none, (.mov (.t 10)), [], [], 320⟩]) (.seq (.reg false [⟨(some 11), none, (.ld true 43 (.t 3)), [], [], 768⟩,
  ⟨none, none, (.st true 43 (.t 2) (.t 11)), [], [], 64⟩]) .ret)))⟩
theorem ok18 : FnOk Try.prog 18 ir18 := ⟨Try.f18, 0, Try.func18, by kernel_rfl, by kernel_rfl⟩
/-- muniment/munimentlaw21.told -/
def ir19 : IFun := ⟨4, 16, [], (.seq (.reg false [⟨(some 7), none, (.box 16 (.t 3)), [], [], 512⟩]) (.reg false [⟨(some 8), none, (.mov (.t 0)), [], [], 576⟩,
  ⟨(some 9), none, (.mov (.t 1)), [], [], 640⟩,
  ⟨(some 10), none, (.mov (.t 2)), [], [], 704⟩,
  ⟨(some 11), none, (.ld true 16 (.t 7)), [], [], 768⟩,
  ⟨(some 12), none, (.mk [(.int .i64 0), (.int .i64 0), (.int .i64 0), (.int .i64 0), (.int .i64 0), (.int .i64 0), (.int .i64 0), (.int .i64 0), (.bool false), (.sl .nil 0 []), (.int .i64 0), (.str []), (.bool false), (.sl .nil 0 []), (.int .u64 0), (.str []), (.int .i64 0), (.str []), (.int .i64 0), (.int .i64 0), (.int .u64 0), (.int .u64 0), (.sl .nil 0 []), (.str []), (.int .u64 0), (.sl .nil 0 []), (.int .i64 0), (.int .i64 0), (.int .i64 0), (.int .u64 0), (.bool false), (.str []), (.sl .nil 0 []), (.bool false), (.str []), (.str []), (.int .u64 0), (.str []), (.str []), (.str []), (.sl .nil 0 []), (.sl .nil 0 []), (.int .i64 0)] [(0, (1, (.c (.int .i64 4)))), (26, (16, (.t 11)))]), [], [], 832⟩,
  ⟨(some 13), none, (.call 27 [(.t 12)]), [], [], 896⟩,
  ⟨(some 14), none, (.mk [(.int .i64 0), (.int .i64 0), (.str [])] [(0, (1, (.t 9))), (1, (1, (.t 10))), (2, (1, (.t 13)))]), [], [], 960⟩,
  ⟨(some 15), none, (.call 9 [(.t 8), (.t 14)]), [], [], 1024⟩]))⟩
theorem ok19 : FnOk Try.prog 19 ir19 := ⟨Try.f19, 0, Try.func19, by kernel_rfl, by kernel_rfl⟩
/-- muniment/tx.Check -/
def ir20 : IFun := ⟨1, 23, [(.tmp 2)], (.seq (.reg false [⟨(some 1), none, (.box 3 (.t 0)), [], [], 128⟩,
  ⟨(some 2), none, (.mov (.c (.int .i64 0))), [], [], 192⟩]) (.seq (.seq (.reg false [⟨(some 3), none, (.fad 1 (.t 1)), [], [], 256⟩,
  ⟨(some 4), none, (.ld false 1 (.t 3)), [], [], 320⟩,
  ⟨(some 5), none, (.bin .lss (.t 4) (.c (.int .u64 1))), [], [], 384⟩,
  ⟨(some 6), none, (.mov (.t 5)), [], [], 448⟩,
  ⟨(some 7), (some (6, false)), (.fad 2 (.t 1)), [], [], 512⟩,
  ⟨(some 8), (some (6, false)), (.ld false 1 (.t 7)), [], [], 576⟩,
  ⟨(some 9), (some (6, false)), (.len false (.t 8)), [], [], 640⟩,
  ⟨(some 10), (some (6, false)), (.bin .lss (.t 9) (.c (.int .i64 1))), [], [], 704⟩,
  ⟨(some 11), none, (.pick (.t 6) (.c (.bool true)) (.t 10)), [], [], 768⟩,
  ⟨(some 12), none, (.mov (.t 11)), [], [], 832⟩,
  ⟨(some 13), (some (12, false)), (.fad 2 (.t 1)), [], [], 896⟩,
  ⟨(some 14), (some (12, false)), (.ld false 1 (.t 13)), [], [], 960⟩,
  ⟨(some 15), (some (12, false)), (.len false (.t 14)), [], [], 1024⟩,
  ⟨(some 16), (some (12, false)), (.bin .gtr (.t 15) (.c (.int .i64 8))), [], [], 1088⟩,
  ⟨(some 17), none, (.pick (.t 12) (.c (.bool true)) (.t 16)), [], [], 1152⟩,
  ⟨(some 18), none, (.mov (.t 17)), [], [], 1216⟩,
  ⟨(some 19), (some (18, false)), (.fad 2 (.t 1)), [], [], 1280⟩,
  ⟨(some 20), (some (18, false)), (.ld false 1 (.t 19)), [], [], 1344⟩,
  ⟨(some 21), (some (18, false)), (.call 31 [(.t 20), (.c (.fn 32 []))]), [], [], 1408⟩,
  ⟨(some 22), none, (.pick (.t 18) (.c (.bool true)) (.t 21)), [], [], 1472⟩]) (.cond (.t 22) (.seq (.reg false [⟨(some 2), none, (.mov (.c (.int .i64 40))), [], [], 192⟩]) .ret) .skip)) (.seq (.reg false [⟨(some 2), none, (.mov (.c (.int .i64 0))), [], [], 192⟩]) .ret)))⟩
theorem ok20 : FnOk Try.prog 20 ir20 := ⟨Try.f20, 0, Try.func20, by kernel_rfl, by kernel_rfl⟩
/-- muniment/head.Members -/
def lp21_0 : IC := (.seq (.reg false [⟨(some 8), none, (.bin .lss (.t 7) (.t 6)), [], [], 576⟩]) (.seq (.cond (.t 8) .skip (.exit 0)) (.seq (.block 1 (.seq (.reg false [⟨(some 9), none, (.mov (.t 7)), [], [], 640⟩,
  ⟨(some 10), none, (.iaL 1 (.t 5) (.t 7)), [], [], 704⟩,
  ⟨(some 11), none, (.ld false 1 (.t 10)), [], [], 768⟩,
  ⟨(some 3), none, (.mov (.t 9)), [], [], 256⟩,
  ⟨(some 4), none, (.mov (.t 11)), [], [], 320⟩]) (.seq (.reg false [⟨(some 12), none, (.mov (.t 4)), [], [], 832⟩,
  ⟨(some 13), none, (.bin .lss (.t 12) (.c (.int .i64 0))), [], [], 896⟩,
  ⟨(some 14), none, (.mov (.t 13)), [], [], 960⟩,
  ⟨(some 15), (some (14, false)), (.mov (.t 4)), [], [], 1024⟩,
  ⟨(some 16), (some (14, false)), (.bin .geq (.t 15) (.c (.int .i64 16))), [], [], 1088⟩,
  ⟨(some 17), none, (.pick (.t 14) (.c (.bool true)) (.t 16)), [], [], 1152⟩,
  ⟨(some 18), none, (.mov (.t 17)), [], [], 1216⟩,
  ⟨(some 19), (some (18, false)), (.mov (.t 3)), [], [], 1280⟩,
  ⟨(some 20), (some (18, false)), (.bin .gtr (.t 19) (.c (.int .i64 0))), [], [], 1344⟩,
  ⟨(some 21), (some (18, false)), (.mov (.t 20)), [], [], 1408⟩,
  ⟨(some 22), (some (21, true)), (.mov (.t 0)), [], [], 1472⟩,
  ⟨(some 23), (some (21, true)), (.mov (.t 3)), [], [], 1536⟩,
  ⟨(some 24), (some (21, true)), (.bin .sub (.t 23) (.c (.int .i64 1))), [], [], 1600⟩,
  ⟨(some 25), (some (21, true)), (.iaL 1 (.t 22) (.t 24)), [], [], 1664⟩,
  ⟨(some 26), (some (21, true)), (.ld false 1 (.t 25)), [], [], 1728⟩,
  ⟨(some 27), (some (21, true)), (.mov (.t 4)), [], [], 1792⟩,
  ⟨(some 28), (some (21, true)), (.bin .geq (.t 26) (.t 27)), [], [], 1856⟩,
  ⟨(some 29), (some (18, false)), (.pick (.t 21) (.t 28) (.c (.bool false))), [], [], 1920⟩,
  ⟨(some 30), none, (.pick (.t 18) (.c (.bool true)) (.t 29)), [], [], 1984⟩]) (.cond (.t 30) (.seq (.reg false [⟨(some 2), none, (.mov (.c (.bool false))), [], [], 192⟩]) .ret) .skip)))) (.reg false [⟨(some 31), none, (.bin .add (.t 7) (.c (.int .i64 1))), [], [], 2048⟩,
  ⟨(some 7), none, (.mov (.t 31)), [], [], 512⟩]))))
def ir21 : IFun := ⟨1, 35, [(.tmp 2)], (.seq (.reg false [⟨(some 2), none, (.mov (.c (.bool false))), [], [], 192⟩]) (.seq (.seq (.reg false [⟨(some 5), none, (.mov (.t 0)), [], [], 384⟩,
  ⟨(some 6), none, (.len false (.t 5)), [], [], 448⟩,
  ⟨(some 7), none, (.mov (.c (.int .i64 0))), [], [], 512⟩]) (.block 0 (.loop lp21_0))) (.seq (.reg false [⟨(some 32), none, (.mov (.t 0)), [], [], 2112⟩,
  ⟨(some 33), none, (.len false (.t 32)), [], [], 2176⟩,
  ⟨(some 34), none, (.bin .geq (.t 33) (.c (.int .i64 1))), [], [], 2240⟩,
  ⟨(some 2), none, (.mov (.t 34)), [], [], 192⟩]) .ret)))⟩
theorem ok21 : FnOk Try.prog 21 ir21 := ⟨Try.f21, 0, Try.func21, by kernel_rfl, by kernel_rfl⟩
/-- muniment/munimentref04.Check -/
def lp22_0 : IC := (.seq (.seq (.reg false [⟨(some 20), none, (.mov (.t 3)), [], [], 1344⟩,
  ⟨(some 21), none, (.fad 2 (.t 1)), [], [], 1408⟩,
  ⟨(some 22), none, (.ld false 1 (.t 21)), [], [], 1472⟩,
  ⟨(some 23), none, (.len false (.t 22)), [], [], 1536⟩,
  ⟨(some 24), none, (.bin .lss (.t 20) (.t 23)), [], [], 1600⟩]) (.cond (.t 24) .skip (.exit 0))) (.seq (.block 1 (.seq (.reg false [⟨(some 27), none, (.fad 2 (.t 1)), [], [], 1792⟩,
  ⟨(some 28), none, (.ld false 1 (.t 27)), [], [], 1856⟩,
  ⟨(some 29), none, (.mov (.t 3)), [], [], 1920⟩,
  ⟨(some 30), none, (.iaL 3 (.t 28) (.t 29)), [], [], 1984⟩,
  ⟨(some 31), none, (.ld true 3 (.t 30)), [], [], 2048⟩,
  ⟨(some 4), none, (.new [(.int .i64 0), (.str []), (.str [])]), [], [], 320⟩,
  ⟨none, none, (.st true 3 (.t 4) (.t 31)), [], [], 64⟩]) (.seq (.reg false [⟨(some 32), none, (.fad 1 (.t 4)), [], [], 2112⟩,
  ⟨(some 33), none, (.ld false 1 (.t 32)), [], [], 2176⟩,
  ⟨(some 34), none, (.bin .eql (.t 33) (.c (.str []))), [], [], 2240⟩,
  ⟨(some 35), none, (.mov (.t 34)), [], [], 2304⟩,
  ⟨(some 36), (some (35, false)), (.fad 1 (.t 4)), [], [], 2368⟩,
  ⟨(some 37), (some (35, false)), (.ld false 1 (.t 36)), [], [], 2432⟩,
  ⟨(some 38), (some (35, false)), (.len true (.t 37)), [], [], 2496⟩,
  ⟨(some 39), (some (35, false)), (.bin .gtr (.t 38) (.c (.int .i64 32))), [], [], 2560⟩,
  ⟨(some 40), none, (.pick (.t 35) (.c (.bool true)) (.t 39)), [], [], 2624⟩,
  ⟨(some 41), none, (.mov (.t 40)), [], [], 2688⟩,
  ⟨(some 42), (some (41, false)), (.fad 2 (.t 4)), [], [], 2752⟩,
  ⟨(some 43), (some (41, false)), (.ld false 1 (.t 42)), [], [], 2816⟩,
  ⟨(some 44), (some (41, false)), (.len true (.t 43)), [], [], 2880⟩,
  ⟨(some 45), (some (41, false)), (.bin .gtr (.t 44) (.c (.int .i64 64))), [], [], 2944⟩,
  ⟨(some 46), none, (.pick (.t 41) (.c (.bool true)) (.t 45)), [], [], 3008⟩,
  ⟨(some 47), none, (.mov (.t 46)), [], [], 3072⟩,
  ⟨(some 48), (some (47, false)), (.fad 0 (.t 4)), [], [], 3136⟩,
  ⟨(some 49), (some (47, false)), (.ld false 1 (.t 48)), [], [], 3200⟩,
  ⟨(some 50), (some (47, false)), (.bin .lss (.t 49) (.c (.int .i64 1))), [], [], 3264⟩,
  ⟨(some 51), none, (.pick (.t 47) (.c (.bool true)) (.t 50)), [], [], 3328⟩,
  ⟨(some 52), none, (.mov (.t 51)), [], [], 3392⟩,
  ⟨(some 53), (some (52, false)), (.fad 0 (.t 4)), [], [], 3456⟩,
  ⟨(some 54), (some (52, false)), (.ld false 1 (.t 53)), [], [], 3520⟩,
  ⟨(some 55), (some (52, false)), (.bin .gtr (.t 54) (.c (.int .i64 4))), [], [], 3584⟩,
  ⟨(some 56), none, (.pick (.t 52) (.c (.bool true)) (.t 55)), [], [], 3648⟩,
  ⟨(some 57), none, (.mov (.t 56)), [], [], 3712⟩,
  ⟨(some 58), (some (57, false)), (.fad 0 (.t 4)), [], [], 3776⟩,
  ⟨(some 59), (some (57, false)), (.ld false 1 (.t 58)), [], [], 3840⟩,
  ⟨(some 60), (some (57, false)), (.bin .eql (.t 59) (.c (.int .i64 2))), [], [], 3904⟩,
  ⟨(some 61), (some (57, false)), (.mov (.t 60)), [], [], 3968⟩,
  ⟨(some 62), (some (61, false)), (.fad 0 (.t 4)), [], [], 4032⟩,
  ⟨(some 63), (some (61, false)), (.ld false 1 (.t 62)), [], [], 4096⟩,
  ⟨(some 64), (some (61, false)), (.bin .eql (.t 63) (.c (.int .i64 4))), [], [], 4160⟩,
  ⟨(some 65), (some (57, false)), (.pick (.t 61) (.c (.bool true)) (.t 64)), [], [], 4224⟩,
  ⟨(some 66), (some (57, false)), (.mov (.t 65)), [], [], 4288⟩,
  ⟨(some 67), (some (66, true)), (.fad 2 (.t 4)), [], [], 4352⟩,
  ⟨(some 68), (some (66, true)), (.ld false 1 (.t 67)), [], [], 4416⟩,
  ⟨(some 69), (some (66, true)), (.bin .neq (.t 68) (.c (.str []))), [], [], 4480⟩,
  ⟨(some 70), (some (57, false)), (.pick (.t 66) (.t 69) (.c (.bool false))), [], [], 4544⟩,
  ⟨(some 71), none, (.pick (.t 57) (.c (.bool true)) (.t 70)), [], [], 4608⟩]) (.cond (.t 71) (.seq (.reg false [⟨(some 2), none, (.mov (.c (.int .i64 40))), [], [], 192⟩]) .ret) .skip)))) (.reg false [⟨(some 25), none, (.mov (.t 3)), [], [], 1664⟩,
  ⟨(some 26), none, (.bin .add (.t 25) (.c (.int .i64 1))), [], [], 1728⟩,
  ⟨(some 3), none, (.mov (.t 26)), [], [], 256⟩])))
def ir22 : IFun := ⟨1, 72, [(.tmp 2)], (.seq (.reg false [⟨(some 1), none, (.box 3 (.t 0)), [], [], 128⟩,
  ⟨(some 2), none, (.mov (.c (.int .i64 0))), [], [], 192⟩]) (.seq (.seq (.reg false [⟨(some 5), none, (.fad 1 (.t 1)), [], [], 384⟩,
  ⟨(some 6), none, (.ld false 1 (.t 5)), [], [], 448⟩,
  ⟨(some 7), none, (.bin .eql (.t 6) (.c (.int .u64 0))), [], [], 512⟩,
  ⟨(some 8), none, (.mov (.t 7)), [], [], 576⟩,
  ⟨(some 9), (some (8, false)), (.fad 2 (.t 1)), [], [], 640⟩,
  ⟨(some 10), (some (8, false)), (.ld false 1 (.t 9)), [], [], 704⟩,
  ⟨(some 11), (some (8, false)), (.len false (.t 10)), [], [], 768⟩,
  ⟨(some 12), (some (8, false)), (.bin .eql (.t 11) (.c (.int .i64 0))), [], [], 832⟩,
  ⟨(some 13), none, (.pick (.t 8) (.c (.bool true)) (.t 12)), [], [], 896⟩,
  ⟨(some 14), none, (.mov (.t 13)), [], [], 960⟩,
  ⟨(some 15), (some (14, false)), (.fad 2 (.t 1)), [], [], 1024⟩,
  ⟨(some 16), (some (14, false)), (.ld false 1 (.t 15)), [], [], 1088⟩,
  ⟨(some 17), (some (14, false)), (.len false (.t 16)), [], [], 1152⟩,
  ⟨(some 18), (some (14, false)), (.bin .gtr (.t 17) (.c (.int .i64 8))), [], [], 1216⟩,
  ⟨(some 19), none, (.pick (.t 14) (.c (.bool true)) (.t 18)), [], [], 1280⟩]) (.cond (.t 19) (.seq (.reg false [⟨(some 2), none, (.mov (.c (.int .i64 40))), [], [], 192⟩]) .ret) .skip)) (.seq (.seq (.reg false [⟨(some 3), none, (.mov (.c (.int .i64 0))), [], [], 256⟩]) (.block 0 (.loop lp22_0))) (.seq (.reg false [⟨(some 2), none, (.mov (.c (.int .i64 0))), [], [], 192⟩]) .ret))))⟩
theorem ok22 : FnOk Try.prog 22 ir22 := ⟨Try.f22, 0, Try.func22, by kernel_rfl, by kernel_rfl⟩
/-- muniment/munimentlaw04.Ref -/
def lp23_0 : IC := (.seq (.seq (.reg false [⟨(some 10), none, (.mov (.t 4)), [], [], 704⟩,
  ⟨(some 11), none, (.fad 2 (.t 1)), [], [], 768⟩,
  ⟨(some 12), none, (.ld false 1 (.t 11)), [], [], 832⟩,
  ⟨(some 13), none, (.len false (.t 12)), [], [], 896⟩,
  ⟨(some 14), none, (.bin .lss (.t 10) (.t 13)), [], [], 960⟩,
  ⟨(some 15), none, (.mov (.t 14)), [], [], 1024⟩,
  ⟨(some 16), (some (15, true)), (.mov (.t 4)), [], [], 1088⟩,
  ⟨(some 17), (some (15, true)), (.bin .lss (.t 16) (.c (.int .i64 9))), [], [], 1152⟩,
  ⟨(some 18), none, (.pick (.t 15) (.t 17) (.c (.bool false))), [], [], 1216⟩]) (.cond (.t 18) .skip (.exit 0))) (.seq (.block 1 (.reg true [⟨(some 21), none, (.fad 2 (.t 3)), [], [], 1408⟩,
  ⟨(some 22), none, (.ld false 1 (.t 21)), [0], [0], 1472⟩,
  ⟨(some 23), none, (.fad 2 (.t 1)), [], [], 1536⟩,
  ⟨(some 24), none, (.ld false 1 (.t 23)), [2], [2], 1600⟩,
  ⟨(some 25), none, (.mov (.t 4)), [], [], 1664⟩,
  ⟨(some 26), none, (.iaL 3 (.t 24) (.t 25)), [3, 4], [3, 4, 2], 1728⟩,
  ⟨(some 27), none, (.fad 0 (.t 26)), [5], [5, 3, 4, 2], 1792⟩,
  ⟨(some 28), none, (.ld false 1 (.t 27)), [6], [6, 5, 3, 4, 2], 1856⟩,
  ⟨(some 29), none, (.fad 2 (.t 1)), [], [], 1920⟩,
  ⟨(some 30), none, (.ld false 1 (.t 29)), [8], [8], 1984⟩,
  ⟨(some 31), none, (.mov (.t 4)), [], [], 2048⟩,
  ⟨(some 32), none, (.iaL 3 (.t 30) (.t 31)), [9, 10], [9, 10, 8], 2112⟩,
  ⟨(some 33), none, (.fad 1 (.t 32)), [11], [11, 9, 10, 8], 2176⟩,
  ⟨(some 34), none, (.ld false 1 (.t 33)), [12], [12, 11, 9, 10, 8], 2240⟩,
  ⟨(some 35), none, (.fad 2 (.t 1)), [], [], 2304⟩,
  ⟨(some 36), none, (.ld false 1 (.t 35)), [14], [14], 2368⟩,
  ⟨(some 37), none, (.mov (.t 4)), [], [], 2432⟩,
  ⟨(some 38), none, (.iaL 3 (.t 36) (.t 37)), [15, 16], [15, 16, 14], 2496⟩,
  ⟨(some 39), none, (.fad 2 (.t 38)), [17], [17, 15, 16, 14], 2560⟩,
  ⟨(some 40), none, (.ld false 1 (.t 39)), [18], [18, 17, 15, 16, 14], 2624⟩,
  ⟨(some 41), none, (.mk [(.int .i64 0), (.str []), (.str [])] [(0, (1, (.t 28))), (1, (1, (.t 34))), (2, (1, (.t 40)))]), [7, 13, 19], [7, 13, 19, 6, 5, 3, 4, 2, 12, 11, 9, 10, 8, 18, 17, 15, 16, 14], 2688⟩,
  ⟨(some 42), none, (.mksl 3 1 [(.int .i64 0), (.str []), (.str [])] [(0, (3, (.t 41)))]), [20], [20, 7, 13, 19, 6, 5, 3, 4, 2, 12, 11, 9, 10, 8, 18, 17, 15, 16, 14], 2752⟩,
  ⟨(some 43), none, (.app 3 40 (.t 22) (.t 42)), [1, 21], [1, 21, 0, 20, 7, 13, 19, 6, 5, 3, 4, 2, 12, 11, 9, 10, 8, 18, 17, 15, 16, 14], 2816⟩,
  ⟨(some 44), none, (.fad 2 (.t 3)), [0, 1, 2, 3, 4, 5, 6, 7, 8, 9, 10, 11, 12, 13, 14, 15, 16, 17, 18, 19, 20, 21, 22], [0, 1, 2, 3, 4, 5, 6, 7, 8, 9, 10, 11, 12, 13, 14, 15, 16, 17, 18, 19, 20, 21, 22], 2880⟩,
  ⟨none, none, (.st false 1 (.t 44) (.t 43)), [23, 22, 22, 0, 1, 2, 3, 4, 5, 6, 7, 8, 9, 10, 11, 12, 13, 14, 15, 16, 17, 18, 19, 20, 21, 22], [23, 22, 0, 1, 2, 3, 4, 5, 6, 7, 8, 9, 10, 11, 12, 13, 14, 15, 16, 17, 18, 19, 20, 21], 64⟩])) (.reg false [⟨(some 19), none, (.mov (.t 4)), [], [], 1280⟩,
  ⟨(some 20), none, (.bin .add (.t 19) (.c (.int .i64 1))), [], [], 1344⟩,
  ⟨(some 4), none, (.mov (.t 20)), [], [], 320⟩])))
def ir23 : IFun := ⟨1, 46, [(.cell 2 true 3)], (.seq (.reg false [⟨(some 1), none, (.box 3 (.t 0)), [], [], 128⟩,
  ⟨(some 2), none, (.new [(.int .u64 0), (.int .u64 0), (.sl .nil 0 [])]), [], [], 192⟩]) (.seq (.reg false [⟨(some 5), none, (.fad 0 (.t 1)), [], [], 384⟩,
  ⟨(some 6), none, (.ld false 1 (.t 5)), [], [], 448⟩,
  ⟨(some 7), none, (.fad 1 (.t 1)), [], [], 512⟩,
  ⟨(some 8), none, (.ld false 1 (.t 7)), [], [], 576⟩,
  ⟨(some 9), none, (.mk [(.int .u64 0), (.int .u64 0), (.sl .nil 0 [])] [(0, (1, (.t 6))), (1, (1, (.t 8)))]), [], [], 640⟩,
  ⟨(some 3), none, (.new [(.int .u64 0), (.int .u64 0), (.sl .nil 0 [])]), [], [], 256⟩,
  ⟨none, none, (.st true 3 (.t 3) (.t 9)), [], [], 64⟩]) (.seq (.seq (.reg false [⟨(some 4), none, (.mov (.c (.int .i64 0))), [], [], 320⟩]) (.block 0 (.loop lp23_0))) (.seq (.reg false [⟨(some 45), none, (.ld true 3 (.t 3)), [], [], 2944⟩,
  ⟨none, none, (.st true 3 (.t 2) (.t 45)), [], [], 64⟩]) .ret))))⟩
theorem ok23 : FnOk Try.prog 23 ir23 := ⟨Try.f23, 0, Try.func23, by kernel_rfl, by kernel_rfl⟩
/-- muniment/munimentref08.Members -/
def lp24_0 : IC := (.seq (.seq (.reg false [⟨(some 4), none, (.mov (.t 3)), [], [], 320⟩,
  ⟨(some 5), none, (.mov (.t 0)), [], [], 384⟩,
  ⟨(some 6), none, (.len false (.t 5)), [], [], 448⟩,
  ⟨(some 7), none, (.bin .lss (.t 4) (.t 6)), [], [], 512⟩]) (.cond (.t 7) .skip (.exit 0))) (.seq (.block 1 (.seq (.reg true [⟨(some 10), none, (.mov (.t 0)), [], [], 704⟩,
  ⟨(some 11), none, (.mov (.t 3)), [], [], 768⟩,
  ⟨(some 12), none, (.iaL 1 (.t 10) (.t 11)), [0, 1], [0, 1], 832⟩,
  ⟨(some 13), none, (.ld false 1 (.t 12)), [2], [2, 0, 1], 896⟩,
  ⟨(some 14), none, (.bin .lss (.t 13) (.c (.int .i64 0))), [3], [3, 2, 0, 1], 960⟩,
  ⟨(some 15), none, (.mov (.t 14)), [4], [4, 3, 2, 0, 1], 1024⟩,
  ⟨(some 16), (some (15, false)), (.mov (.t 0)), [5], [5, 4, 3, 2, 0, 1], 1088⟩,
  ⟨(some 17), (some (15, false)), (.mov (.t 3)), [5], [5, 4, 3, 2, 0, 1], 1152⟩,
  ⟨(some 18), (some (15, false)), (.iaL 1 (.t 16) (.t 17)), [6, 7, 5], [6, 7, 5, 4, 3, 2, 0, 1], 1216⟩,
  ⟨(some 19), (some (15, false)), (.ld false 1 (.t 18)), [8, 5], [8, 5, 6, 7, 4, 3, 2, 0, 1], 1280⟩,
  ⟨(some 20), (some (15, false)), (.bin .gtr (.t 19) (.c (.int .i64 15))), [9, 5], [9, 5, 8, 6, 7, 4, 3, 2, 0, 1], 1344⟩,
  ⟨(some 21), none, (.pick (.t 15) (.c (.bool true)) (.t 20)), [5, 10], [5, 10, 4, 3, 2, 0, 1, 9, 8, 6, 7], 1408⟩,
  ⟨(some 22), none, (.mov (.t 21)), [11, 5], [11, 5, 10, 4, 3, 2, 0, 1, 9, 8, 6, 7], 1472⟩,
  ⟨(some 23), (some (22, false)), (.mov (.t 3)), [12], [12, 11, 5, 10, 4, 3, 2, 0, 1, 9, 8, 6, 7], 1536⟩,
  ⟨(some 24), (some (22, false)), (.bin .gtr (.t 23) (.c (.int .i64 0))), [13, 12], [13, 12, 11, 5, 10, 4, 3, 2, 0, 1, 9, 8, 6, 7], 1600⟩,
  ⟨(some 25), (some (22, false)), (.mov (.t 24)), [14, 12, 12], [14, 12, 13, 11, 5, 10, 4, 3, 2, 0, 1, 9, 8, 6, 7], 1664⟩,
  ⟨(some 26), (some (25, true)), (.mov (.t 0)), [15], [15, 14, 12, 13, 11, 5, 10, 4, 3, 2, 0, 1, 9, 8, 6, 7], 1728⟩,
  ⟨(some 27), (some (25, true)), (.mov (.t 3)), [15], [15, 14, 12, 13, 11, 5, 10, 4, 3, 2, 0, 1, 9, 8, 6, 7], 1792⟩,
  ⟨(some 28), (some (25, true)), (.bin .sub (.t 27) (.c (.int .i64 1))), [17, 15], [17, 15, 14, 12, 13, 11, 5, 10, 4, 3, 2, 0, 1, 9, 8, 6, 7], 1856⟩,
  ⟨(some 29), (some (25, true)), (.iaL 1 (.t 26) (.t 28)), [16, 18, 15], [16, 18, 15, 14, 12, 13, 11, 5, 10, 4, 3, 2, 0, 1, 9, 8, 6, 7, 17], 1920⟩,
  ⟨(some 30), (some (25, true)), (.ld false 1 (.t 29)), [19, 15], [19, 15, 16, 18, 14, 12, 13, 11, 5, 10, 4, 3, 2, 0, 1, 9, 8, 6, 7, 17], 1984⟩,
  ⟨(some 31), (some (25, true)), (.mov (.t 0)), [15], [15, 14, 12, 13, 11, 5, 10, 4, 3, 2, 0, 1, 9, 8, 6, 7], 2048⟩,
  ⟨(some 32), (some (25, true)), (.mov (.t 3)), [15], [15, 14, 12, 13, 11, 5, 10, 4, 3, 2, 0, 1, 9, 8, 6, 7], 2112⟩,
  ⟨(some 33), (some (25, true)), (.iaL 1 (.t 31) (.t 32)), [21, 22, 15], [21, 22, 15, 14, 12, 13, 11, 5, 10, 4, 3, 2, 0, 1, 9, 8, 6, 7], 2176⟩,
  ⟨(some 34), (some (25, true)), (.ld false 1 (.t 33)), [23, 15], [23, 15, 21, 22, 14, 12, 13, 11, 5, 10, 4, 3, 2, 0, 1, 9, 8, 6, 7], 2240⟩,
  ⟨(some 35), (some (25, true)), (.bin .geq (.t 30) (.t 34)), [20, 24, 15], [20, 24, 15, 19, 16, 18, 14, 12, 13, 11, 5, 10, 4, 3, 2, 0, 1, 9, 8, 6, 7, 17, 23, 21, 22], 2304⟩,
  ⟨(some 36), (some (22, false)), (.pick (.t 25) (.t 35) (.c (.bool false))), [15, 25, 12], [15, 25, 12, 14, 13, 11, 5, 10, 4, 3, 2, 0, 1, 9, 8, 6, 7, 20, 24, 19, 16, 18, 17, 23, 21, 22], 2368⟩,
  ⟨(some 37), none, (.pick (.t 22) (.c (.bool true)) (.t 36)), [12, 26], [12, 26, 11, 5, 10, 4, 3, 2, 0, 1, 9, 8, 6, 7, 15, 25, 14, 13, 20, 24, 19, 16, 18, 17, 23, 21, 22], 2432⟩]) (.cond (.t 37) (.seq (.reg false [⟨(some 2), none, (.mov (.c (.bool false))), [], [], 192⟩]) .ret) .skip))) (.reg false [⟨(some 8), none, (.mov (.t 3)), [], [], 576⟩,
  ⟨(some 9), none, (.bin .add (.t 8) (.c (.int .i64 1))), [], [], 640⟩,
  ⟨(some 3), none, (.mov (.t 9)), [], [], 256⟩])))
def ir24 : IFun := ⟨1, 41, [(.tmp 2)], (.seq (.reg false [⟨(some 2), none, (.mov (.c (.bool false))), [], [], 192⟩]) (.seq (.seq (.reg false [⟨(some 3), none, (.mov (.c (.int .i64 0))), [], [], 256⟩]) (.block 0 (.loop lp24_0))) (.seq (.reg false [⟨(some 38), none, (.mov (.t 0)), [], [], 2496⟩,
  ⟨(some 39), none, (.len false (.t 38)), [], [], 2560⟩,
  ⟨(some 40), none, (.bin .gtr (.t 39) (.c (.int .i64 0))), [], [], 2624⟩,
  ⟨(some 2), none, (.mov (.t 40)), [], [], 192⟩]) .ret)))⟩
theorem ok24 : FnOk Try.prog 24 ir24 := ⟨Try.f24, 0, Try.func24, by kernel_rfl, by kernel_rfl⟩
/-- muniment/replica.Decode -/
def ir25 : IFun := ⟨1, 60, [(.cell 2 true 43), (.tmp 3)], (.seq (.reg false [⟨(some 2), none, (.new [(.int .i64 0), (.int .i64 0), (.int .i64 0), (.int .i64 0), (.int .i64 0), (.int .i64 0), (.int .i64 0), (.int .i64 0), (.bool false), (.sl .nil 0 []), (.int .i64 0), (.str []), (.bool false), (.sl .nil 0 []), (.int .u64 0), (.str []), (.int .i64 0), (.str []), (.int .i64 0), (.int .i64 0), (.int .u64 0), (.int .u64 0), (.sl .nil 0 []), (.str []), (.int .u64 0), (.sl .nil 0 []), (.int .i64 0), (.int .i64 0), (.int .i64 0), (.int .u64 0), (.bool false), (.str []), (.sl .nil 0 []), (.bool false), (.str []), (.str []), (.int .u64 0), (.str []), (.str []), (.str []), (.sl .nil 0 []), (.sl .nil 0 []), (.int .i64 0)]), [], [], 192⟩,
  ⟨(some 3), none, (.mov (.c (.int .i64 0))), [], [], 256⟩]) (.seq (.reg false [⟨(some 7), none, (.mov (.t 0)), [], [], 512⟩,
  ⟨(some 8), none, (.call 34 [(.t 7)]), [], [], 576⟩,
  ⟨(some 4), none, (.mov (.t 8)), [], [], 320⟩]) (.seq (.reg false [⟨(some 9), none, (.mov (.t 4)), [], [], 640⟩,
  ⟨(some 10), none, (.call 35 [(.t 9), (.c (.int .i64 1))]), [], [], 704⟩,
  ⟨(some 11), none, (.toInt .i64 (.t 10)), [], [], 768⟩,
  ⟨(some 12), none, (.mk [(.int .i64 0), (.int .i64 0), (.int .i64 0), (.int .i64 0), (.int .i64 0), (.int .i64 0), (.int .i64 0), (.int .i64 0), (.bool false), (.sl .nil 0 []), (.int .i64 0), (.str []), (.bool false), (.sl .nil 0 []), (.int .u64 0), (.str []), (.int .i64 0), (.str []), (.int .i64 0), (.int .i64 0), (.int .u64 0), (.int .u64 0), (.sl .nil 0 []), (.str []), (.int .u64 0), (.sl .nil 0 []), (.int .i64 0), (.int .i64 0), (.int .i64 0), (.int .u64 0), (.bool false), (.str []), (.sl .nil 0 []), (.bool false), (.str []), (.str []), (.int .u64 0), (.str []), (.str []), (.str []), (.sl .nil 0 []), (.sl .nil 0 []), (.int .i64 0)] [(0, (1, (.t 11)))]), [], [], 832⟩,
  ⟨(some 5), none, (.new [(.int .i64 0), (.int .i64 0), (.int .i64 0), (.int .i64 0), (.int .i64 0), (.int .i64 0), (.int .i64 0), (.int .i64 0), (.bool false), (.sl .nil 0 []), (.int .i64 0), (.str []), (.bool false), (.sl .nil 0 []), (.int .u64 0), (.str []), (.int .i64 0), (.str []), (.int .i64 0), (.int .i64 0), (.int .u64 0), (.int .u64 0), (.sl .nil 0 []), (.str []), (.int .u64 0), (.sl .nil 0 []), (.int .i64 0), (.int .i64 0), (.int .i64 0), (.int .u64 0), (.bool false), (.str []), (.sl .nil 0 []), (.bool false), (.str []), (.str []), (.int .u64 0), (.str []), (.str []), (.str []), (.sl .nil 0 []), (.sl .nil 0 []), (.int .i64 0)]), [], [], 384⟩,
  ⟨none, none, (.st true 43 (.t 5) (.t 12)), [], [], 64⟩]) (.seq (.seq (.reg false [⟨(some 13), none, (.fad 0 (.t 5)), [], [], 896⟩,
  ⟨(some 14), none, (.ld false 1 (.t 13)), [], [], 960⟩]) (.block 0 (.seq (.reg false [⟨(some 18), none, (.bin .eql (.t 14) (.c (.int .i64 1))), [], [], 1216⟩,
  ⟨(some 17), none, (.mov (.t 18)), [], [], 1152⟩]) (.cond (.t 17) (.reg false [⟨(some 19), none, (.mov (.t 4)), [], [], 1280⟩,
  ⟨(some 20), none, (.call 36 [(.t 19)]), [], [], 1344⟩,
  ⟨(some 21), none, (.fad 1 (.t 5)), [], [], 1408⟩,
  ⟨none, none, (.st true 13 (.t 21) (.t 20)), [], [], 64⟩]) (.seq (.reg false [⟨(some 23), none, (.bin .eql (.t 14) (.c (.int .i64 2))), [], [], 1536⟩,
  ⟨(some 22), none, (.mov (.t 23)), [], [], 1472⟩]) (.cond (.t 22) (.seq (.reg false [⟨(some 24), none, (.mov (.t 4)), [], [], 1600⟩,
  ⟨(some 25), none, (.call 35 [(.t 24), (.c (.int .i64 8))]), [], [], 1664⟩,
  ⟨(some 26), none, (.mov (.t 4)), [], [], 1728⟩,
  ⟨(some 27), none, (.call 37 [(.t 26)]), [], [], 1792⟩,
  ⟨(some 28), none, (.fad 14 (.t 5)), [], [], 1856⟩,
  ⟨none, none, (.st false 1 (.t 28) (.t 25)), [], [], 64⟩,
  ⟨(some 29), none, (.fad 15 (.t 5)), [], [], 1920⟩,
  ⟨none, none, (.st false 1 (.t 29) (.t 27)), [], [], 64⟩]) (.reg false [⟨(some 30), none, (.mov (.t 4)), [], [], 1984⟩,
  ⟨(some 31), none, (.call 35 [(.t 30), (.c (.int .i64 1))]), [], [], 2048⟩,
  ⟨(some 32), none, (.toInt .i64 (.t 31)), [], [], 2112⟩,
  ⟨(some 33), none, (.mov (.t 4)), [], [], 2176⟩,
  ⟨(some 34), none, (.call 37 [(.t 33)]), [], [], 2240⟩,
  ⟨(some 35), none, (.mk [(.int .i64 0), (.str [])] [(0, (1, (.t 32))), (1, (1, (.t 34)))]), [], [], 2304⟩,
  ⟨(some 36), none, (.fad 16 (.t 5)), [], [], 2368⟩,
  ⟨none, none, (.st true 2 (.t 36) (.t 35)), [], [], 64⟩])) (.seq (.reg false [⟨(some 38), none, (.bin .eql (.t 14) (.c (.int .i64 3))), [], [], 2496⟩,
  ⟨(some 37), none, (.mov (.t 38)), [], [], 2432⟩]) (.cond (.t 37) (.reg false [⟨(some 39), none, (.mov (.t 4)), [], [], 2560⟩,
  ⟨(some 40), none, (.call 38 [(.t 39)]), [], [], 2624⟩,
  ⟨(some 41), none, (.fad 18 (.t 5)), [], [], 2688⟩,
  ⟨none, none, (.st true 8 (.t 41) (.t 40)), [], [], 64⟩]) (.seq (.reg false [⟨(some 43), none, (.bin .eql (.t 14) (.c (.int .i64 4))), [], [], 2816⟩,
  ⟨(some 42), none, (.mov (.t 43)), [], [], 2752⟩]) (.cond (.t 42) (.reg false [⟨(some 44), none, (.mov (.t 4)), [], [], 2880⟩,
  ⟨(some 45), none, (.call 39 [(.t 44)]), [], [], 2944⟩,
  ⟨(some 46), none, (.fad 26 (.t 5)), [], [], 3008⟩,
  ⟨none, none, (.st true 16 (.t 46) (.t 45)), [], [], 64⟩]) (.seq (.reg false [⟨(some 48), none, (.bin .eql (.t 14) (.c (.int .i64 5))), [], [], 3136⟩,
  ⟨(some 47), none, (.mov (.t 48)), [], [], 3072⟩]) (.cond (.t 47) (.reg false [⟨(some 49), none, (.mov (.t 4)), [], [], 3200⟩,
  ⟨(some 50), none, (.call 40 [(.t 49), (.c (.int .i64 16))]), [], [], 3264⟩,
  ⟨(some 51), none, (.bin .sub (.t 50) (.c (.int .i64 1))), [], [], 3328⟩,
  ⟨(some 52), none, (.fad 42 (.t 5)), [], [], 3392⟩,
  ⟨none, none, (.st false 1 (.t 52) (.t 51)), [], [], 64⟩]) (.reg false [⟨(some 15), none, (.mov (.t 4)), [], [], 1024⟩,
  ⟨(some 16), none, (.call 41 [(.t 15), (.c (.int .i64 6))]), [], [], 1088⟩]))))))))))))) (.seq (.seq (.reg false [⟨(some 53), none, (.mov (.t 4)), [], [], 3456⟩,
  ⟨(some 54), none, (.call 42 [(.t 53)]), [], [], 3520⟩,
  ⟨(some 6), none, (.mov (.t 54)), [], [], 448⟩]) (.seq (.reg false [⟨(some 55), none, (.mov (.t 6)), [], [], 3584⟩,
  ⟨(some 56), none, (.bin .neq (.t 55) (.c (.int .i64 0))), [], [], 3648⟩]) (.cond (.t 56) (.seq (.reg false [⟨(some 57), none, (.mk [(.int .i64 0), (.int .i64 0), (.int .i64 0), (.int .i64 0), (.int .i64 0), (.int .i64 0), (.int .i64 0), (.int .i64 0), (.bool false), (.sl .nil 0 []), (.int .i64 0), (.str []), (.bool false), (.sl .nil 0 []), (.int .u64 0), (.str []), (.int .i64 0), (.str []), (.int .i64 0), (.int .i64 0), (.int .u64 0), (.int .u64 0), (.sl .nil 0 []), (.str []), (.int .u64 0), (.sl .nil 0 []), (.int .i64 0), (.int .i64 0), (.int .i64 0), (.int .u64 0), (.bool false), (.str []), (.sl .nil 0 []), (.bool false), (.str []), (.str []), (.int .u64 0), (.str []), (.str []), (.str []), (.sl .nil 0 []), (.sl .nil 0 []), (.int .i64 0)] []), [], [], 3712⟩,
  ⟨(some 58), none, (.mov (.t 6)), [], [], 3776⟩,
  ⟨none, none, (.st true 43 (.t 2) (.t 57)), [], [], 64⟩,
  ⟨(some 3), none, (.mov (.t 58)), [], [], 256⟩]) .ret) .skip))) (.seq (.reg false [⟨(some 59), none, (.ld true 43 (.t 5)), [], [], 3840⟩,
  ⟨none, none, (.st true 43 (.t 2) (.t 59)), [], [], 64⟩,
  ⟨(some 3), none, (.mov (.c (.int .i64 0))), [], [], 256⟩]) .ret))))))⟩
theorem ok25 : FnOk Try.prog 25 ir25 := ⟨Try.f25, 0, Try.func25, by kernel_rfl, by kernel_rfl⟩
/-- (*muniment/client.Client).told -/
def ir26 : IFun := ⟨3, 72, [], (.seq (.reg false [⟨(some 5), none, (.box 16 (.t 2)), [], [], 384⟩]) (.seq (.reg false [⟨(some 7), none, (.mov (.t 0)), [], [], 512⟩,
  ⟨(some 8), none, (.call 28 [(.t 7)]), [], [], 576⟩,
  ⟨(some 6), none, (.new [(.int .i64 0), (.int .i64 0), (.int .u64 0), (.int .u64 0), (.sl .nil 0 []), (.str []), (.int .u64 0), (.sl .nil 0 [])]), [], [], 448⟩,
  ⟨none, none, (.st true 8 (.t 6) (.t 8)), [], [], 64⟩]) (.seq (.seq (.reg false [⟨(some 9), none, (.fad 0 (.t 5)), [], [], 640⟩,
  ⟨(some 10), none, (.ld false 1 (.t 9)), [], [], 704⟩,
  ⟨(some 11), none, (.fad 0 (.t 6)), [], [], 768⟩,
  ⟨(some 12), none, (.ld false 1 (.t 11)), [], [], 832⟩,
  ⟨(some 13), none, (.bin .neq (.t 10) (.t 12)), [], [], 896⟩,
  ⟨(some 14), none, (.mov (.t 13)), [], [], 960⟩,
  ⟨(some 15), (some (14, false)), (.fad 1 (.t 5)), [], [], 1024⟩,
  ⟨(some 16), (some (14, false)), (.ld false 1 (.t 15)), [], [], 1088⟩,
  ⟨(some 17), (some (14, false)), (.fad 1 (.t 6)), [], [], 1152⟩,
  ⟨(some 18), (some (14, false)), (.ld false 1 (.t 17)), [], [], 1216⟩,
  ⟨(some 19), (some (14, false)), (.bin .neq (.t 16) (.t 18)), [], [], 1280⟩,
  ⟨(some 20), none, (.pick (.t 14) (.c (.bool true)) (.t 19)), [], [], 1344⟩]) (.cond (.t 20) .ret .skip)) (.seq (.reg false [⟨(some 21), none, (.mov (.t 0)), [], [], 1408⟩,
  ⟨(some 22), none, (.chk (.t 21)), [], [], 1472⟩,
  ⟨(some 23), none, (.fad 7 (.t 22)), [], [], 1536⟩,
  ⟨none, none, (.st false 1 (.t 23) (.c (.int .i64 0))), [], [], 64⟩]) (.seq (.seq (.reg false [⟨(some 24), none, (.fad 0 (.t 6)), [], [], 1600⟩,
  ⟨(some 25), none, (.ld false 1 (.t 24)), [], [], 1664⟩,
  ⟨(some 26), none, (.bin .eql (.t 25) (.c (.int .i64 1))), [], [], 1728⟩,
  ⟨(some 27), none, (.mov (.t 26)), [], [], 1792⟩,
  ⟨(some 28), (some (27, true)), (.fad 2 (.t 5)), [], [], 1856⟩,
  ⟨(some 29), (some (27, true)), (.ld false 1 (.t 28)), [], [], 1920⟩,
  ⟨(some 30), (some (27, true)), (.bin .eql (.t 29) (.c (.int .i64 0))), [], [], 1984⟩,
  ⟨(some 31), (some (27, true)), (.mov (.t 30)), [], [], 2048⟩,
  ⟨(some 32), (some (31, false)), (.fad 2 (.t 5)), [], [], 2112⟩,
  ⟨(some 33), (some (31, false)), (.ld false 1 (.t 32)), [], [], 2176⟩,
  ⟨(some 34), (some (31, false)), (.bin .eql (.t 33) (.c (.int .i64 50))), [], [], 2240⟩,
  ⟨(some 35), (some (27, true)), (.pick (.t 31) (.c (.bool true)) (.t 34)), [], [], 2304⟩,
  ⟨(some 36), none, (.pick (.t 27) (.t 35) (.c (.bool false))), [], [], 2368⟩]) (.cond (.t 36) (.reg false [⟨(some 37), none, (.mov (.t 0)), [], [], 2432⟩,
  ⟨(some 38), none, (.chk (.t 37)), [], [], 2496⟩,
  ⟨(some 39), none, (.fad 5 (.t 38)), [], [], 2560⟩,
  ⟨(some 40), none, (.ld false 1 (.t 39)), [], [], 2624⟩,
  ⟨(some 41), none, (.bin .add (.t 40) (.c (.int .u64 1))), [], [], 2688⟩,
  ⟨(some 42), none, (.chk (.t 37)), [], [], 2752⟩,
  ⟨(some 43), none, (.fad 5 (.t 42)), [], [], 2816⟩,
  ⟨none, none, (.st false 1 (.t 43) (.t 41)), [], [], 64⟩]) .skip)) (.seq (.reg true [⟨(some 44), none, (.mov (.t 0)), [], [], 2880⟩,
  ⟨(some 45), none, (.mov (.t 0)), [], [], 2944⟩,
  ⟨(some 46), none, (.chk (.t 45)), [1], [1], 3008⟩,
  ⟨(some 47), none, (.fad 8 (.t 46)), [2], [2, 1], 3072⟩,
  ⟨(some 48), none, (.ld false 1 (.t 47)), [3], [3, 2, 1], 3136⟩,
  ⟨(some 49), none, (.mov (.t 0)), [], [], 3200⟩,
  ⟨(some 50), none, (.chk (.t 49)), [5], [5], 3264⟩,
  ⟨(some 51), none, (.fad 4 (.t 50)), [6], [6, 5], 3328⟩,
  ⟨(some 52), none, (.ld false 1 (.t 51)), [7], [7, 6, 5], 3392⟩,
  ⟨(some 53), none, (.mov (.t 1)), [], [], 3456⟩,
  ⟨(some 54), none, (.ld true 16 (.t 5)), [], [], 3520⟩,
  ⟨(some 55), none, (.fad 2 (.t 6)), [], [], 3584⟩,
  ⟨(some 56), none, (.ld true 3 (.t 55)), [11], [11], 3648⟩,
  ⟨(some 57), none, (.mk [(.int .i64 0), (.int .i64 0), (.int .i64 0), (.int .i64 0), (.int .i64 0), (.int .u64 0), (.bool false), (.str []), (.sl .nil 0 []), (.bool false), (.str []), (.str []), (.int .u64 0), (.str []), (.str []), (.str []), (.sl .nil 0 []), (.sl .nil 0 []), (.int .u64 0), (.int .u64 0), (.sl .nil 0 [])] [(0, (1, (.t 52))), (1, (1, (.t 53))), (2, (16, (.t 54))), (18, (3, (.t 56)))]), [8, 9, 10, 12], [8, 9, 10, 12, 7, 6, 5, 11], 3712⟩,
  ⟨(some 58), none, (.mksl 21 1 [(.int .i64 0), (.int .i64 0), (.int .i64 0), (.int .i64 0), (.int .i64 0), (.int .u64 0), (.bool false), (.str []), (.sl .nil 0 []), (.bool false), (.str []), (.str []), (.int .u64 0), (.str []), (.str []), (.str []), (.sl .nil 0 []), (.sl .nil 0 []), (.int .u64 0), (.int .u64 0), (.sl .nil 0 [])] [(0, (21, (.t 57)))]), [13], [13, 8, 9, 10, 12, 7, 6, 5, 11], 3776⟩,
  ⟨(some 59), none, (.app 21 280 (.t 48) (.t 58)), [4, 14], [4, 14, 3, 2, 1, 13, 8, 9, 10, 12, 7, 6, 5, 11], 3840⟩,
  ⟨(some 60), none, (.chk (.t 44)), [0, 0, 1, 2, 3, 4, 5, 6, 7, 8, 9, 10, 11, 12, 13, 14, 15], [0, 1, 2, 3, 4, 5, 6, 7, 8, 9, 10, 11, 12, 13, 14, 15], 3904⟩,
  ⟨(some 61), none, (.fad 8 (.t 60)), [16, 0, 1, 2, 3, 4, 5, 6, 7, 8, 9, 10, 11, 12, 13, 14, 15], [16, 0, 1, 2, 3, 4, 5, 6, 7, 8, 9, 10, 11, 12, 13, 14, 15], 3968⟩,
  ⟨none, none, (.st false 1 (.t 61) (.t 59)), [17, 15, 15, 0, 1, 2, 3, 4, 5, 6, 7, 8, 9, 10, 11, 12, 13, 14, 15], [17, 15, 0, 1, 2, 3, 4, 5, 6, 7, 8, 9, 10, 11, 12, 13, 14, 16], 64⟩]) (.seq (.reg false [⟨(some 62), none, (.mov (.t 0)), [], [], 4032⟩,
  ⟨(some 63), none, (.chk (.t 62)), [], [], 4096⟩,
  ⟨(some 64), none, (.fad 4 (.t 63)), [], [], 4160⟩,
  ⟨(some 65), none, (.ld false 1 (.t 64)), [], [], 4224⟩,
  ⟨(some 66), none, (.bin .add (.t 65) (.c (.int .i64 1))), [], [], 4288⟩,
  ⟨(some 67), none, (.chk (.t 62)), [], [], 4352⟩,
  ⟨(some 68), none, (.fad 4 (.t 67)), [], [], 4416⟩,
  ⟨none, none, (.st false 1 (.t 68) (.t 66)), [], [], 64⟩]) (.reg false [⟨(some 69), none, (.mov (.t 0)), [], [], 4480⟩,
  ⟨(some 70), none, (.chk (.t 69)), [], [], 4544⟩,
  ⟨(some 71), none, (.fad 6 (.t 70)), [], [], 4608⟩,
  ⟨none, none, (.st false 1 (.t 71) (.c (.int .i64 0))), [], [], 64⟩]))))))))⟩
theorem ok26 : FnOk Try.prog 26 ir26 := ⟨Try.f26, 0, Try.func26, by kernel_rfl, by kernel_rfl⟩
/-- muniment/replica.Encode -/
def ir27 : IFun := ⟨1, 60, [(.tmp 2)], (.seq (.reg false [⟨(some 1), none, (.box 43 (.t 0)), [], [], 128⟩,
  ⟨(some 2), none, (.mov (.c (.str []))), [], [], 192⟩]) (.seq (.reg false [⟨(some 4), none, (.call 43 []), [], [], 320⟩,
  ⟨(some 3), none, (.mov (.t 4)), [], [], 256⟩]) (.seq (.reg false [⟨(some 5), none, (.mov (.t 3)), [], [], 384⟩,
  ⟨(some 6), none, (.fad 0 (.t 1)), [], [], 448⟩,
  ⟨(some 7), none, (.ld false 1 (.t 6)), [], [], 512⟩,
  ⟨(some 8), none, (.toInt .u64 (.t 7)), [], [], 576⟩,
  ⟨(some 9), none, (.call 44 [(.t 5), (.t 8), (.c (.int .i64 1))]), [], [], 640⟩]) (.seq (.seq (.reg false [⟨(some 10), none, (.fad 0 (.t 1)), [], [], 704⟩,
  ⟨(some 11), none, (.ld false 1 (.t 10)), [], [], 768⟩]) (.block 0 (.seq (.reg false [⟨(some 13), none, (.bin .eql (.t 11) (.c (.int .i64 1))), [], [], 896⟩,
  ⟨(some 12), none, (.mov (.t 13)), [], [], 832⟩]) (.cond (.t 12) (.reg false [⟨(some 14), none, (.mov (.t 3)), [], [], 960⟩,
  ⟨(some 15), none, (.fad 1 (.t 1)), [], [], 1024⟩,
  ⟨(some 16), none, (.ld true 13 (.t 15)), [], [], 1088⟩,
  ⟨(some 17), none, (.call 45 [(.t 14), (.t 16)]), [], [], 1152⟩]) (.seq (.reg false [⟨(some 19), none, (.bin .eql (.t 11) (.c (.int .i64 2))), [], [], 1280⟩,
  ⟨(some 18), none, (.mov (.t 19)), [], [], 1216⟩]) (.cond (.t 18) (.seq (.reg false [⟨(some 20), none, (.mov (.t 3)), [], [], 1344⟩,
  ⟨(some 21), none, (.fad 14 (.t 1)), [], [], 1408⟩,
  ⟨(some 22), none, (.ld false 1 (.t 21)), [], [], 1472⟩,
  ⟨(some 23), none, (.call 44 [(.t 20), (.t 22), (.c (.int .i64 8))]), [], [], 1536⟩]) (.seq (.reg false [⟨(some 24), none, (.mov (.t 3)), [], [], 1600⟩,
  ⟨(some 25), none, (.fad 15 (.t 1)), [], [], 1664⟩,
  ⟨(some 26), none, (.ld false 1 (.t 25)), [], [], 1728⟩,
  ⟨(some 27), none, (.call 46 [(.t 24), (.t 26)]), [], [], 1792⟩]) (.seq (.reg false [⟨(some 28), none, (.mov (.t 3)), [], [], 1856⟩,
  ⟨(some 29), none, (.fad 16 (.t 1)), [], [], 1920⟩,
  ⟨(some 30), none, (.fad 0 (.t 29)), [], [], 1984⟩,
  ⟨(some 31), none, (.ld false 1 (.t 30)), [], [], 2048⟩,
  ⟨(some 32), none, (.toInt .u64 (.t 31)), [], [], 2112⟩,
  ⟨(some 33), none, (.call 44 [(.t 28), (.t 32), (.c (.int .i64 1))]), [], [], 2176⟩]) (.reg false [⟨(some 34), none, (.mov (.t 3)), [], [], 2240⟩,
  ⟨(some 35), none, (.fad 16 (.t 1)), [], [], 2304⟩,
  ⟨(some 36), none, (.fad 1 (.t 35)), [], [], 2368⟩,
  ⟨(some 37), none, (.ld false 1 (.t 36)), [], [], 2432⟩,
  ⟨(some 38), none, (.call 46 [(.t 34), (.t 37)]), [], [], 2496⟩])))) (.seq (.reg false [⟨(some 40), none, (.bin .eql (.t 11) (.c (.int .i64 3))), [], [], 2624⟩,
  ⟨(some 39), none, (.mov (.t 40)), [], [], 2560⟩]) (.cond (.t 39) (.reg false [⟨(some 41), none, (.mov (.t 3)), [], [], 2688⟩,
  ⟨(some 42), none, (.fad 18 (.t 1)), [], [], 2752⟩,
  ⟨(some 43), none, (.ld true 8 (.t 42)), [], [], 2816⟩,
  ⟨(some 44), none, (.call 47 [(.t 41), (.t 43)]), [], [], 2880⟩]) (.seq (.reg false [⟨(some 46), none, (.bin .eql (.t 11) (.c (.int .i64 4))), [], [], 3008⟩,
  ⟨(some 45), none, (.mov (.t 46)), [], [], 2944⟩]) (.cond (.t 45) (.reg false [⟨(some 47), none, (.mov (.t 3)), [], [], 3072⟩,
  ⟨(some 48), none, (.fad 26 (.t 1)), [], [], 3136⟩,
  ⟨(some 49), none, (.ld true 16 (.t 48)), [], [], 3200⟩,
  ⟨(some 50), none, (.call 48 [(.t 47), (.t 49)]), [], [], 3264⟩]) (.seq (.reg false [⟨(some 52), none, (.bin .eql (.t 11) (.c (.int .i64 5))), [], [], 3392⟩,
  ⟨(some 51), none, (.mov (.t 52)), [], [], 3328⟩]) (.cond (.t 51) (.reg false [⟨(some 53), none, (.mov (.t 3)), [], [], 3456⟩,
  ⟨(some 54), none, (.fad 42 (.t 1)), [], [], 3520⟩,
  ⟨(some 55), none, (.ld false 1 (.t 54)), [], [], 3584⟩,
  ⟨(some 56), none, (.bin .add (.t 55) (.c (.int .i64 1))), [], [], 3648⟩,
  ⟨(some 57), none, (.call 49 [(.t 53), (.t 56)]), [], [], 3712⟩]) .skip)))))))))))) (.seq (.reg false [⟨(some 58), none, (.mov (.t 3)), [], [], 3776⟩,
  ⟨(some 59), none, (.call 50 [(.t 58)]), [], [], 3840⟩,
  ⟨(some 2), none, (.mov (.t 59)), [], [], 192⟩]) .ret)))))⟩
theorem ok27 : FnOk Try.prog 27 ir27 := ⟨Try.f27, 0, Try.func27, by kernel_rfl, by kernel_rfl⟩
/-- (*muniment/client.Client).ask -/
def ir28 : IFun := ⟨1, 52, [(.cell 2 true 8)], (.seq (.reg false [⟨(some 2), none, (.new [(.int .i64 0), (.int .i64 0), (.int .u64 0), (.int .u64 0), (.sl .nil 0 []), (.str []), (.int .u64 0), (.sl .nil 0 [])]), [], [], 192⟩]) (.seq (.reg true [⟨(some 5), none, (.mov (.t 0)), [], [], 384⟩,
  ⟨(some 6), none, (.chk (.t 5)), [0], [0], 448⟩,
  ⟨(some 7), none, (.fad 3 (.t 6)), [1], [1, 0], 512⟩,
  ⟨(some 8), none, (.ld false 1 (.t 7)), [2], [2, 1, 0], 576⟩,
  ⟨(some 9), none, (.mov (.t 0)), [], [], 640⟩,
  ⟨(some 10), none, (.chk (.t 9)), [4], [4], 704⟩,
  ⟨(some 11), none, (.fad 4 (.t 10)), [5], [5, 4], 768⟩,
  ⟨(some 12), none, (.ld false 1 (.t 11)), [6], [6, 5, 4], 832⟩,
  ⟨(some 13), none, (.iaL 5 (.t 8) (.t 12)), [3, 7], [3, 7, 2, 1, 0, 6, 5, 4], 896⟩,
  ⟨(some 14), none, (.ld true 5 (.t 13)), [8], [8, 3, 7, 2, 1, 0, 6, 5, 4], 960⟩,
  ⟨(some 3), none, (.new [(.int .i64 0), (.sl .nil 0 []), (.str []), (.int .u64 0), (.sl .nil 0 [])]), [], [], 256⟩,
  ⟨none, none, (.st true 5 (.t 3) (.t 14)), [10, 9, 0, 1, 2, 3, 4, 5, 6, 7, 8, 9, 10], [10, 9, 0, 1, 2, 3, 4, 5, 6, 7, 8], 64⟩]) (.seq (.reg true [⟨(some 15), none, (.fad 0 (.t 3)), [], [], 1024⟩,
  ⟨(some 16), none, (.ld false 1 (.t 15)), [0], [0], 1088⟩,
  ⟨(some 17), none, (.mov (.t 0)), [], [], 1152⟩,
  ⟨(some 18), none, (.chk (.t 17)), [2], [2], 1216⟩,
  ⟨(some 19), none, (.fad 4 (.t 18)), [3], [3, 2], 1280⟩,
  ⟨(some 20), none, (.ld false 1 (.t 19)), [4], [4, 3, 2], 1344⟩,
  ⟨(some 21), none, (.mk [(.int .i64 0), (.int .i64 0), (.int .u64 0), (.int .u64 0), (.sl .nil 0 []), (.str []), (.int .u64 0), (.sl .nil 0 [])] [(0, (1, (.t 16))), (1, (1, (.t 20)))]), [1, 5], [1, 5, 0, 4, 3, 2], 1408⟩,
  ⟨(some 4), none, (.new [(.int .i64 0), (.int .i64 0), (.int .u64 0), (.int .u64 0), (.sl .nil 0 []), (.str []), (.int .u64 0), (.sl .nil 0 [])]), [], [], 320⟩,
  ⟨none, none, (.st true 8 (.t 4) (.t 21)), [7, 6, 0, 1, 2, 3, 4, 5, 6, 7], [7, 6, 0, 1, 2, 3, 4, 5], 64⟩]) (.seq (.seq (.reg false [⟨(some 22), none, (.fad 0 (.t 3)), [], [], 1472⟩,
  ⟨(some 23), none, (.ld false 1 (.t 22)), [], [], 1536⟩]) (.block 0 (.seq (.reg false [⟨(some 29), none, (.bin .eql (.t 23) (.c (.int .i64 1))), [], [], 1920⟩,
  ⟨(some 28), none, (.mov (.t 29)), [], [], 1856⟩]) (.cond (.t 28) (.reg true [⟨(some 30), none, (.mov (.t 0)), [], [], 1984⟩,
  ⟨(some 31), none, (.call 14 [(.t 30)]), [0], [0], 2048⟩,
  ⟨(some 32), none, (.mov (.t 0)), [], [], 2112⟩,
  ⟨(some 33), none, (.chk (.t 32)), [2], [2], 2176⟩,
  ⟨(some 34), none, (.fad 5 (.t 33)), [3], [3, 2], 2240⟩,
  ⟨(some 35), none, (.ld false 1 (.t 34)), [4], [4, 3, 2], 2304⟩,
  ⟨(some 36), none, (.fad 1 (.t 3)), [], [], 2368⟩,
  ⟨(some 37), none, (.ld false 1 (.t 36)), [6], [6], 2432⟩,
  ⟨(some 38), none, (.call 51 [(.t 37)]), [7, 1], [7, 1, 6, 0], 2496⟩,
  ⟨(some 39), none, (.mk [(.int .u64 0), (.int .u64 0), (.sl .nil 0 [])] [(0, (1, (.t 31))), (1, (1, (.t 35))), (2, (1, (.t 38)))]), [1, 5, 8], [1, 5, 8, 0, 4, 3, 2, 7, 6], 2560⟩,
  ⟨(some 40), none, (.fad 2 (.t 4)), [0, 1, 2, 3, 4, 5, 6, 7, 8, 9], [0, 1, 2, 3, 4, 5, 6, 7, 8, 9], 2624⟩,
  ⟨none, none, (.st true 3 (.t 40) (.t 39)), [10, 9, 8, 0, 1, 2, 3, 4, 5, 6, 7, 8, 9], [10, 9, 8, 0, 1, 2, 3, 4, 5, 6, 7], 64⟩]) (.seq (.reg false [⟨(some 42), none, (.bin .eql (.t 23) (.c (.int .i64 2))), [], [], 2752⟩,
  ⟨(some 41), none, (.mov (.t 42)), [], [], 2688⟩]) (.cond (.t 41) (.reg false [⟨(some 43), none, (.fad 2 (.t 3)), [], [], 2816⟩,
  ⟨(some 44), none, (.ld false 1 (.t 43)), [], [], 2880⟩,
  ⟨(some 45), none, (.fad 5 (.t 4)), [], [], 2944⟩,
  ⟨none, none, (.st false 1 (.t 45) (.t 44)), [], [], 64⟩]) (.seq (.reg false [⟨(some 47), none, (.bin .eql (.t 23) (.c (.int .i64 3))), [], [], 3072⟩,
  ⟨(some 46), none, (.mov (.t 47)), [], [], 3008⟩]) (.cond (.t 46) (.reg false [⟨(some 48), none, (.fad 3 (.t 3)), [], [], 3136⟩,
  ⟨(some 49), none, (.ld false 1 (.t 48)), [], [], 3200⟩,
  ⟨(some 50), none, (.fad 6 (.t 4)), [], [], 3264⟩,
  ⟨none, none, (.st false 1 (.t 50) (.t 49)), [], [], 64⟩]) (.reg false [⟨(some 24), none, (.fad 4 (.t 3)), [], [], 1600⟩,
  ⟨(some 25), none, (.ld false 1 (.t 24)), [], [], 1664⟩,
  ⟨(some 26), none, (.call 52 [(.t 25)]), [], [], 1728⟩,
  ⟨(some 27), none, (.fad 7 (.t 4)), [], [], 1792⟩,
  ⟨none, none, (.st false 1 (.t 27) (.t 26)), [], [], 64⟩]))))))))) (.seq (.reg false [⟨(some 51), none, (.ld true 8 (.t 4)), [], [], 3328⟩,
  ⟨none, none, (.st true 8 (.t 2) (.t 51)), [], [], 64⟩]) .ret)))))⟩
theorem ok28 : FnOk Try.prog 28 ir28 := ⟨Try.f28, 0, Try.func28, by kernel_rfl, by kernel_rfl⟩
/-- slices.Clone[[]muniment/api.Heard,muniment/api.Heard] -/
def ir29 : IFun := ⟨1, 8, [(.tmp 2)], (.seq (.reg false [⟨(some 2), none, (.mov (.c (.sl .nil 0 []))), [], [], 192⟩]) (.seq (.seq (.reg false [⟨(some 3), none, (.mov (.t 0)), [], [], 256⟩,
  ⟨(some 4), none, (.eqn false .sl (.t 3) (.c (.sl .nil 0 []))), [], [], 320⟩]) (.cond (.t 4) (.seq (.reg false [⟨(some 2), none, (.mov (.c (.sl .nil 0 []))), [], [], 192⟩]) .ret) .skip)) (.seq (.reg false [⟨(some 5), none, (.mksl 21 0 [] []), [], [], 384⟩,
  ⟨(some 6), none, (.mov (.t 0)), [], [], 448⟩,
  ⟨(some 7), none, (.app 21 280 (.t 5) (.t 6)), [], [], 512⟩,
  ⟨(some 2), none, (.mov (.t 7)), [], [], 192⟩]) .ret)))⟩
theorem ok29 : FnOk Try.prog 29 ir29 := ⟨Try.f29, 0, Try.func29, by kernel_rfl, by kernel_rfl⟩
/-- slices.IndexFunc[[]muniment/api.Call,muniment/api.Call] -/
def lp30_0 : IC := (.seq (.reg false [⟨(some 9), none, (.bin .lss (.t 8) (.t 7)), [], [], 640⟩]) (.seq (.cond (.t 9) .skip (.exit 0)) (.seq (.block 1 (.seq (.reg false [⟨(some 10), none, (.mov (.t 8)), [], [], 704⟩,
  ⟨(some 5), none, (.mov (.t 10)), [], [], 384⟩]) (.seq (.reg false [⟨(some 11), none, (.mov (.t 1)), [], [], 768⟩,
  ⟨(some 12), none, (.mov (.t 0)), [], [], 832⟩,
  ⟨(some 13), none, (.mov (.t 5)), [], [], 896⟩,
  ⟨(some 14), none, (.iaL 5 (.t 12) (.t 13)), [], [], 960⟩,
  ⟨(some 15), none, (.ld true 5 (.t 14)), [], [], 1024⟩,
  ⟨(some 16), none, (.callv (.t 11) [(.t 15)]), [], [], 1088⟩]) (.cond (.t 16) (.seq (.reg false [⟨(some 17), none, (.mov (.t 5)), [], [], 1152⟩,
  ⟨(some 4), none, (.mov (.t 17)), [], [], 320⟩]) .ret) .skip)))) (.reg false [⟨(some 18), none, (.bin .add (.t 8) (.c (.int .i64 1))), [], [], 1216⟩,
  ⟨(some 8), none, (.mov (.t 18)), [], [], 576⟩]))))
def ir30 : IFun := ⟨2, 19, [(.tmp 4)], (.seq (.reg false [⟨(some 4), none, (.mov (.c (.int .i64 0))), [], [], 320⟩]) (.seq (.seq (.reg false [⟨(some 6), none, (.mov (.t 0)), [], [], 448⟩,
  ⟨(some 7), none, (.len false (.t 6)), [], [], 512⟩,
  ⟨(some 8), none, (.mov (.c (.int .i64 0))), [], [], 576⟩]) (.block 0 (.loop lp30_0))) (.seq (.reg false [⟨(some 4), none, (.mov (.c (.int .i64 (-1)))), [], [], 320⟩]) .ret)))⟩
theorem ok30 : FnOk Try.prog 30 ir30 := ⟨Try.f30, 0, Try.func30, by kernel_rfl, by kernel_rfl⟩
/-- slices.ContainsFunc[[]muniment/api.Op,muniment/api.Op] -/
def ir31 : IFun := ⟨2, 9, [(.tmp 4)], (.seq (.reg false [⟨(some 4), none, (.mov (.c (.bool false))), [], [], 320⟩]) (.seq (.reg false [⟨(some 5), none, (.mov (.t 0)), [], [], 384⟩,
  ⟨(some 6), none, (.mov (.t 1)), [], [], 448⟩,
  ⟨(some 7), none, (.call 53 [(.t 5), (.t 6)]), [], [], 512⟩,
  ⟨(some 8), none, (.bin .geq (.t 7) (.c (.int .i64 0))), [], [], 576⟩,
  ⟨(some 4), none, (.mov (.t 8)), [], [], 320⟩]) .ret))⟩
theorem ok31 : FnOk Try.prog 31 ir31 := ⟨Try.f31, 0, Try.func31, by kernel_rfl, by kernel_rfl⟩
/-- muniment/tx.Check$1 -/
def ir32 : IFun := ⟨1, 6, [(.tmp 2)], (.seq (.reg false [⟨(some 1), none, (.box 3 (.t 0)), [], [], 128⟩,
  ⟨(some 2), none, (.mov (.c (.bool false))), [], [], 192⟩]) (.seq (.reg false [⟨(some 3), none, (.ld true 3 (.t 1)), [], [], 256⟩,
  ⟨(some 4), none, (.call 33 [(.t 3)]), [], [], 320⟩,
  ⟨(some 5), none, (.un .not (.t 4)), [], [], 384⟩,
  ⟨(some 2), none, (.mov (.t 5)), [], [], 192⟩]) .ret))⟩
theorem ok32 : FnOk Try.prog 32 ir32 := ⟨Try.f32, 0, Try.func32, by kernel_rfl, by kernel_rfl⟩
/-- muniment/tx.may -/
def ir33 : IFun := ⟨1, 37, [(.tmp 2)], (.seq (.reg false [⟨(some 1), none, (.box 3 (.t 0)), [], [], 128⟩,
  ⟨(some 2), none, (.mov (.c (.bool false))), [], [], 192⟩]) (.seq (.seq (.reg false [⟨(some 3), none, (.fad 1 (.t 1)), [], [], 256⟩,
  ⟨(some 4), none, (.ld false 1 (.t 3)), [], [], 320⟩,
  ⟨(some 5), none, (.len true (.t 4)), [], [], 384⟩,
  ⟨(some 6), none, (.bin .lss (.t 5) (.c (.int .i64 1))), [], [], 448⟩,
  ⟨(some 7), none, (.mov (.t 6)), [], [], 512⟩,
  ⟨(some 8), (some (7, false)), (.fad 1 (.t 1)), [], [], 576⟩,
  ⟨(some 9), (some (7, false)), (.ld false 1 (.t 8)), [], [], 640⟩,
  ⟨(some 10), (some (7, false)), (.len true (.t 9)), [], [], 704⟩,
  ⟨(some 11), (some (7, false)), (.bin .gtr (.t 10) (.c (.int .i64 32))), [], [], 768⟩,
  ⟨(some 12), none, (.pick (.t 7) (.c (.bool true)) (.t 11)), [], [], 832⟩,
  ⟨(some 13), none, (.mov (.t 12)), [], [], 896⟩,
  ⟨(some 14), (some (13, false)), (.fad 2 (.t 1)), [], [], 960⟩,
  ⟨(some 15), (some (13, false)), (.ld false 1 (.t 14)), [], [], 1024⟩,
  ⟨(some 16), (some (13, false)), (.len true (.t 15)), [], [], 1088⟩,
  ⟨(some 17), (some (13, false)), (.bin .gtr (.t 16) (.c (.int .i64 64))), [], [], 1152⟩,
  ⟨(some 18), none, (.pick (.t 13) (.c (.bool true)) (.t 17)), [], [], 1216⟩]) (.cond (.t 18) (.seq (.reg false [⟨(some 2), none, (.mov (.c (.bool false))), [], [], 192⟩]) .ret) .skip)) (.seq (.seq (.reg false [⟨(some 19), none, (.fad 0 (.t 1)), [], [], 1280⟩,
  ⟨(some 20), none, (.ld false 1 (.t 19)), [], [], 1344⟩]) (.block 0 (.seq (.seq (.reg false [⟨(some 22), none, (.bin .eql (.t 20) (.c (.int .i64 1))), [], [], 1472⟩,
  ⟨(some 21), none, (.mov (.t 22)), [], [], 1408⟩]) (.cond (.t 21) .skip (.reg false [⟨(some 23), none, (.bin .eql (.t 20) (.c (.int .i64 3))), [], [], 1536⟩,
  ⟨(some 21), none, (.mov (.t 23)), [], [], 1408⟩]))) (.cond (.t 21) (.seq (.reg false [⟨(some 2), none, (.mov (.c (.bool true))), [], [], 192⟩]) .ret) .skip)))) (.seq (.reg false [⟨(some 24), none, (.fad 0 (.t 1)), [], [], 1600⟩,
  ⟨(some 25), none, (.ld false 1 (.t 24)), [], [], 1664⟩,
  ⟨(some 26), none, (.bin .eql (.t 25) (.c (.int .i64 2))), [], [], 1728⟩,
  ⟨(some 27), none, (.mov (.t 26)), [], [], 1792⟩,
  ⟨(some 28), (some (27, false)), (.fad 0 (.t 1)), [], [], 1856⟩,
  ⟨(some 29), (some (27, false)), (.ld false 1 (.t 28)), [], [], 1920⟩,
  ⟨(some 30), (some (27, false)), (.bin .eql (.t 29) (.c (.int .i64 4))), [], [], 1984⟩,
  ⟨(some 31), none, (.pick (.t 27) (.c (.bool true)) (.t 30)), [], [], 2048⟩,
  ⟨(some 32), none, (.mov (.t 31)), [], [], 2112⟩,
  ⟨(some 33), (some (32, true)), (.fad 2 (.t 1)), [], [], 2176⟩,
  ⟨(some 34), (some (32, true)), (.ld false 1 (.t 33)), [], [], 2240⟩,
  ⟨(some 35), (some (32, true)), (.bin .eql (.t 34) (.c (.str []))), [], [], 2304⟩,
  ⟨(some 36), none, (.pick (.t 32) (.t 35) (.c (.bool false))), [], [], 2368⟩,
  ⟨(some 2), none, (.mov (.t 36)), [], [], 192⟩]) .ret))))⟩
theorem ok33 : FnOk Try.prog 33 ir33 := ⟨Try.f33, 0, Try.func33, by kernel_rfl, by kernel_rfl⟩
/-- muniment/wire.NewReader -/
def ir34 : IFun := ⟨1, 6, [(.tmp 2)], (.seq (.reg false [⟨(some 2), none, (.mov (.c .nilp)), [], [], 192⟩]) (.seq (.reg false [⟨(some 3), none, (.mov (.t 0)), [], [], 256⟩,
  ⟨(some 4), none, (.mk [(.str []), (.int .i64 0), (.int .i64 0)] [(0, (1, (.t 3)))]), [], [], 320⟩,
  ⟨(some 5), none, (.box 3 (.t 4)), [], [], 384⟩,
  ⟨(some 2), none, (.mov (.t 5)), [], [], 192⟩]) .ret))⟩
theorem ok34 : FnOk Try.prog 34 ir34 := ⟨Try.f34, 0, Try.func34, by kernel_rfl, by kernel_rfl⟩
/-- (*muniment/wire.Reader).Number -/
def lp35_0 : IC := (.seq (.reg false [⟨(some 24), none, (.bin .lss (.t 23) (.t 22)), [], [], 1600⟩]) (.seq (.cond (.t 24) .skip (.exit 0)) (.seq (.block 1 (.seq (.reg false [⟨(some 25), none, (.iaL 1 (.t 21) (.t 23)), [], [], 1664⟩,
  ⟨(some 26), none, (.ld false 1 (.t 25)), [], [], 1728⟩,
  ⟨(some 7), none, (.mov (.t 26)), [], [], 512⟩]) (.reg false [⟨(some 27), none, (.mov (.t 5)), [], [], 1792⟩,
  ⟨(some 28), none, (.bin .shl (.t 27) (.c (.int .u64 8))), [], [], 1856⟩,
  ⟨(some 29), none, (.mov (.t 7)), [], [], 1920⟩,
  ⟨(some 30), none, (.toInt .u64 (.t 29)), [], [], 1984⟩,
  ⟨(some 31), none, (.bin .or (.t 28) (.t 30)), [], [], 2048⟩,
  ⟨(some 5), none, (.mov (.t 31)), [], [], 384⟩]))) (.reg false [⟨(some 32), none, (.bin .add (.t 23) (.c (.int .i64 1))), [], [], 2112⟩,
  ⟨(some 23), none, (.mov (.t 32)), [], [], 1536⟩]))))
def ir35 : IFun := ⟨2, 34, [(.tmp 4)], (.seq (.reg false [⟨(some 4), none, (.mov (.c (.int .u64 0))), [], [], 320⟩]) (.seq (.seq (.reg false [⟨(some 8), none, (.mov (.t 0)), [], [], 576⟩,
  ⟨(some 9), none, (.call 54 [(.t 8)]), [], [], 640⟩,
  ⟨(some 10), none, (.bin .eql (.t 9) (.c (.int .i64 0))), [], [], 704⟩,
  ⟨(some 11), none, (.mov (.t 10)), [], [], 768⟩,
  ⟨(some 12), (some (11, true)), (.mov (.t 1)), [], [], 832⟩,
  ⟨(some 13), (some (11, true)), (.bin .gtr (.t 12) (.c (.int .i64 8))), [], [], 896⟩,
  ⟨(some 14), none, (.pick (.t 11) (.t 13) (.c (.bool false))), [], [], 960⟩]) (.cond (.t 14) (.reg false [⟨(some 15), none, (.mov (.t 0)), [], [], 1024⟩,
  ⟨(some 16), none, (.chk (.t 15)), [], [], 1088⟩,
  ⟨(some 17), none, (.fad 2 (.t 16)), [], [], 1152⟩,
  ⟨none, none, (.st false 1 (.t 17) (.c (.int .i64 1))), [], [], 64⟩]) .skip)) (.seq (.reg false [⟨(some 5), none, (.mov (.c (.int .u64 0))), [], [], 384⟩]) (.seq (.seq (.reg false [⟨(some 18), none, (.mov (.t 0)), [], [], 1216⟩,
  ⟨(some 19), none, (.mov (.t 1)), [], [], 1280⟩,
  ⟨(some 20), none, (.call 55 [(.t 18), (.t 19)]), [], [], 1344⟩,
  ⟨(some 21), none, (.toBytes (.t 20)), [], [], 1408⟩,
  ⟨(some 22), none, (.len false (.t 21)), [], [], 1472⟩,
  ⟨(some 23), none, (.mov (.c (.int .i64 0))), [], [], 1536⟩]) (.block 0 (.loop lp35_0))) (.seq (.reg false [⟨(some 33), none, (.mov (.t 5)), [], [], 2176⟩,
  ⟨(some 4), none, (.mov (.t 33)), [], [], 320⟩]) .ret)))))⟩
theorem ok35 : FnOk Try.prog 35 ir35 := ⟨Try.f35, 0, Try.func35, by kernel_rfl, by kernel_rfl⟩
/-- muniment/raft.Take -/
def lp36_0 : IC := (.seq (.reg false [⟨(some 18), none, (.bin .lss (.t 17) (.t 16)), [], [], 1216⟩]) (.seq (.cond (.t 18) .skip (.exit 0)) (.seq (.block 1 (.seq (.reg false [⟨(some 19), none, (.iaL 1 (.t 15) (.t 17)), [], [], 1280⟩,
  ⟨(some 20), none, (.ld false 1 (.t 19)), [], [], 1344⟩,
  ⟨(some 5), none, (.mov (.t 20)), [], [], 384⟩]) (.reg false [⟨(some 21), none, (.mov (.t 5)), [], [], 1408⟩,
  ⟨(some 22), none, (.mov (.t 0)), [], [], 1472⟩,
  ⟨(some 23), none, (.call 40 [(.t 22), (.c (.int .i64 2147483647))]), [], [], 1536⟩,
  ⟨(some 24), none, (.chk (.t 21)), [], [], 1600⟩,
  ⟨none, none, (.st false 1 (.t 24) (.t 23)), [], [], 64⟩]))) (.reg false [⟨(some 25), none, (.bin .add (.t 17) (.c (.int .i64 1))), [], [], 1664⟩,
  ⟨(some 17), none, (.mov (.t 25)), [], [], 1152⟩]))))
def lp36_1 : IC := (.seq (.seq (.reg false [⟨(some 34), none, (.mov (.t 6)), [], [], 2240⟩,
  ⟨(some 35), none, (.bin .gtr (.t 34) (.c (.int .i64 0))), [], [], 2304⟩,
  ⟨(some 36), none, (.mov (.t 35)), [], [], 2368⟩,
  ⟨(some 37), (some (36, true)), (.mov (.t 0)), [], [], 2432⟩,
  ⟨(some 38), (some (36, true)), (.call 54 [(.t 37)]), [], [], 2496⟩,
  ⟨(some 39), (some (36, true)), (.bin .eql (.t 38) (.c (.int .i64 0))), [], [], 2560⟩,
  ⟨(some 40), none, (.pick (.t 36) (.t 39) (.c (.bool false))), [], [], 2624⟩]) (.cond (.t 40) .skip (.exit 2))) (.seq (.block 3 (.reg true [⟨(some 43), none, (.fad 8 (.t 3)), [], [], 2816⟩,
  ⟨(some 44), none, (.ld false 1 (.t 43)), [0], [0], 2880⟩,
  ⟨(some 45), none, (.mov (.t 0)), [], [], 2944⟩,
  ⟨(some 46), none, (.call 57 [(.t 45)]), [2], [2], 3008⟩,
  ⟨(some 47), none, (.mksl 4 1 [(.int .i64 0), (.str []), (.bool false), (.sl .nil 0 [])] [(0, (4, (.t 46)))]), [3], [3, 2], 3072⟩,
  ⟨(some 48), none, (.app 4 56 (.t 44) (.t 47)), [1, 4, 3], [1, 4, 3, 0, 2], 3136⟩,
  ⟨(some 49), none, (.fad 8 (.t 3)), [0, 1, 2, 3, 4, 5], [0, 1, 2, 3, 4, 5], 3200⟩,
  ⟨none, none, (.st false 1 (.t 49) (.t 48)), [6, 5, 5, 0, 1, 2, 3, 4, 5], [6, 5, 0, 1, 2, 3, 4], 64⟩])) (.reg false [⟨(some 41), none, (.mov (.t 6)), [], [], 2688⟩,
  ⟨(some 42), none, (.bin .sub (.t 41) (.c (.int .i64 1))), [], [], 2752⟩,
  ⟨(some 6), none, (.mov (.t 42)), [], [], 448⟩])))
def ir36 : IFun := ⟨1, 63, [(.cell 2 true 13)], (.seq (.reg false [⟨(some 2), none, (.new [(.int .i64 0), (.int .i64 0), (.int .i64 0), (.int .i64 0), (.int .i64 0), (.int .i64 0), (.int .i64 0), (.bool false), (.sl .nil 0 []), (.int .i64 0), (.str []), (.bool false), (.sl .nil 0 [])]), [], [], 192⟩]) (.seq (.reg false [⟨(some 3), none, (.new [(.int .i64 0), (.int .i64 0), (.int .i64 0), (.int .i64 0), (.int .i64 0), (.int .i64 0), (.int .i64 0), (.bool false), (.sl .nil 0 []), (.int .i64 0), (.str []), (.bool false), (.sl .nil 0 [])]), [], [], 256⟩]) (.seq (.seq (.reg false [⟨(some 7), none, (.fad 0 (.t 3)), [], [], 512⟩,
  ⟨(some 8), none, (.fad 1 (.t 3)), [], [], 576⟩,
  ⟨(some 9), none, (.fad 2 (.t 3)), [], [], 640⟩,
  ⟨(some 10), none, (.fad 3 (.t 3)), [], [], 704⟩,
  ⟨(some 11), none, (.fad 4 (.t 3)), [], [], 768⟩,
  ⟨(some 12), none, (.fad 5 (.t 3)), [], [], 832⟩,
  ⟨(some 13), none, (.fad 6 (.t 3)), [], [], 896⟩,
  ⟨(some 14), none, (.fad 9 (.t 3)), [], [], 960⟩,
  ⟨(some 15), none, (.mksl 1 8 [.nilp, .nilp, .nilp, .nilp, .nilp, .nilp, .nilp, .nilp] [(0, (1, (.t 7))), (1, (1, (.t 8))), (2, (1, (.t 9))), (3, (1, (.t 10))), (4, (1, (.t 11))), (5, (1, (.t 12))), (6, (1, (.t 13))), (7, (1, (.t 14)))]), [], [], 1024⟩,
  ⟨(some 16), none, (.len false (.t 15)), [], [], 1088⟩,
  ⟨(some 17), none, (.mov (.c (.int .i64 0))), [], [], 1152⟩]) (.block 0 (.loop lp36_0))) (.seq (.reg false [⟨(some 26), none, (.mov (.t 0)), [], [], 1728⟩,
  ⟨(some 27), none, (.call 56 [(.t 26)]), [], [], 1792⟩,
  ⟨(some 28), none, (.mov (.t 0)), [], [], 1856⟩,
  ⟨(some 29), none, (.call 56 [(.t 28)]), [], [], 1920⟩,
  ⟨(some 30), none, (.fad 7 (.t 3)), [], [], 1984⟩,
  ⟨none, none, (.st false 1 (.t 30) (.t 27)), [], [], 64⟩,
  ⟨(some 31), none, (.fad 11 (.t 3)), [], [], 2048⟩,
  ⟨none, none, (.st false 1 (.t 31) (.t 29)), [], [], 64⟩]) (.seq (.seq (.reg false [⟨(some 32), none, (.mov (.t 0)), [], [], 2112⟩,
  ⟨(some 33), none, (.call 40 [(.t 32), (.c (.int .i64 16))]), [], [], 2176⟩,
  ⟨(some 6), none, (.mov (.t 33)), [], [], 448⟩]) (.block 2 (.loop lp36_1))) (.seq (.reg false [⟨(some 50), none, (.mov (.t 0)), [], [], 3264⟩,
  ⟨(some 51), none, (.call 58 [(.t 50), (.c (.int .i64 200))]), [], [], 3328⟩,
  ⟨(some 52), none, (.fad 10 (.t 3)), [], [], 3392⟩,
  ⟨none, none, (.st false 1 (.t 52) (.t 51)), [], [], 64⟩]) (.seq (.seq (.reg false [⟨(some 53), none, (.mov (.t 0)), [], [], 3456⟩,
  ⟨(some 54), none, (.call 56 [(.t 53)]), [], [], 3520⟩]) (.cond (.t 54) (.reg false [⟨(some 55), none, (.mov (.t 0)), [], [], 3584⟩,
  ⟨(some 56), none, (.call 59 [(.t 55)]), [], [], 3648⟩,
  ⟨(some 57), none, (.fad 12 (.t 3)), [], [], 3712⟩,
  ⟨none, none, (.st false 1 (.t 57) (.t 56)), [], [], 64⟩]) .skip)) (.seq (.seq (.reg false [⟨(some 58), none, (.mov (.t 0)), [], [], 3776⟩,
  ⟨(some 59), none, (.call 54 [(.t 58)]), [], [], 3840⟩,
  ⟨(some 60), none, (.bin .neq (.t 59) (.c (.int .i64 0))), [], [], 3904⟩]) (.cond (.t 60) (.seq (.reg false [⟨(some 61), none, (.mk [(.int .i64 0), (.int .i64 0), (.int .i64 0), (.int .i64 0), (.int .i64 0), (.int .i64 0), (.int .i64 0), (.bool false), (.sl .nil 0 []), (.int .i64 0), (.str []), (.bool false), (.sl .nil 0 [])] []), [], [], 3968⟩,
  ⟨none, none, (.st true 13 (.t 2) (.t 61)), [], [], 64⟩]) .ret) .skip)) (.seq (.reg false [⟨(some 62), none, (.ld true 13 (.t 3)), [], [], 4032⟩,
  ⟨none, none, (.st true 13 (.t 2) (.t 62)), [], [], 64⟩]) .ret)))))))))⟩
theorem ok36 : FnOk Try.prog 36 ir36 := ⟨Try.f36, 0, Try.func36, by kernel_rfl, by kernel_rfl⟩
/-- (*muniment/wire.Reader).Hash -/
def ir37 : IFun := ⟨1, 5, [(.tmp 2)], (.seq (.reg false [⟨(some 2), none, (.mov (.c (.str []))), [], [], 192⟩]) (.seq (.reg false [⟨(some 3), none, (.mov (.t 0)), [], [], 256⟩,
  ⟨(some 4), none, (.call 55 [(.t 3), (.c (.int .i64 32))]), [], [], 320⟩,
  ⟨(some 2), none, (.mov (.t 4)), [], [], 192⟩]) .ret))⟩
theorem ok37 : FnOk Try.prog 37 ir37 := ⟨Try.f37, 0, Try.func37, by kernel_rfl, by kernel_rfl⟩
/-- muniment/replica.takeAsk -/
def ir38 : IFun := ⟨1, 35, [(.cell 2 true 8)], (.seq (.reg false [⟨(some 2), none, (.new [(.int .i64 0), (.int .i64 0), (.int .u64 0), (.int .u64 0), (.sl .nil 0 []), (.str []), (.int .u64 0), (.sl .nil 0 [])]), [], [], 192⟩]) (.seq (.reg false [⟨(some 4), none, (.mov (.t 0)), [], [], 320⟩,
  ⟨(some 5), none, (.call 35 [(.t 4), (.c (.int .i64 1))]), [], [], 384⟩,
  ⟨(some 6), none, (.toInt .i64 (.t 5)), [], [], 448⟩,
  ⟨(some 7), none, (.mov (.t 0)), [], [], 512⟩,
  ⟨(some 8), none, (.call 40 [(.t 7), (.c (.int .i64 2147483647))]), [], [], 576⟩,
  ⟨(some 9), none, (.mk [(.int .i64 0), (.int .i64 0), (.int .u64 0), (.int .u64 0), (.sl .nil 0 []), (.str []), (.int .u64 0), (.sl .nil 0 [])] [(0, (1, (.t 6))), (1, (1, (.t 8)))]), [], [], 640⟩,
  ⟨(some 3), none, (.new [(.int .i64 0), (.int .i64 0), (.int .u64 0), (.int .u64 0), (.sl .nil 0 []), (.str []), (.int .u64 0), (.sl .nil 0 [])]), [], [], 256⟩,
  ⟨none, none, (.st true 8 (.t 3) (.t 9)), [], [], 64⟩]) (.seq (.seq (.reg false [⟨(some 10), none, (.fad 0 (.t 3)), [], [], 704⟩,
  ⟨(some 11), none, (.ld false 1 (.t 10)), [], [], 768⟩]) (.block 0 (.seq (.reg false [⟨(some 15), none, (.bin .eql (.t 11) (.c (.int .i64 1))), [], [], 1024⟩,
  ⟨(some 14), none, (.mov (.t 15)), [], [], 960⟩]) (.cond (.t 14) (.reg false [⟨(some 16), none, (.mov (.t 0)), [], [], 1088⟩,
  ⟨(some 17), none, (.call 60 [(.t 16)]), [], [], 1152⟩,
  ⟨(some 18), none, (.fad 2 (.t 3)), [], [], 1216⟩,
  ⟨none, none, (.st true 3 (.t 18) (.t 17)), [], [], 64⟩]) (.seq (.reg false [⟨(some 20), none, (.bin .eql (.t 11) (.c (.int .i64 2))), [], [], 1344⟩,
  ⟨(some 19), none, (.mov (.t 20)), [], [], 1280⟩]) (.cond (.t 19) (.reg false [⟨(some 21), none, (.mov (.t 0)), [], [], 1408⟩,
  ⟨(some 22), none, (.call 58 [(.t 21), (.c (.int .i64 32))]), [], [], 1472⟩,
  ⟨(some 23), none, (.fad 5 (.t 3)), [], [], 1536⟩,
  ⟨none, none, (.st false 1 (.t 23) (.t 22)), [], [], 64⟩]) (.seq (.reg false [⟨(some 25), none, (.bin .eql (.t 11) (.c (.int .i64 3))), [], [], 1664⟩,
  ⟨(some 24), none, (.mov (.t 25)), [], [], 1600⟩]) (.cond (.t 24) (.reg false [⟨(some 26), none, (.mov (.t 0)), [], [], 1728⟩,
  ⟨(some 27), none, (.call 35 [(.t 26), (.c (.int .i64 8))]), [], [], 1792⟩,
  ⟨(some 28), none, (.fad 6 (.t 3)), [], [], 1856⟩,
  ⟨none, none, (.st false 1 (.t 28) (.t 27)), [], [], 64⟩]) (.seq (.reg false [⟨(some 30), none, (.bin .eql (.t 11) (.c (.int .i64 4))), [], [], 1984⟩,
  ⟨(some 29), none, (.mov (.t 30)), [], [], 1920⟩]) (.cond (.t 29) (.reg false [⟨(some 31), none, (.mov (.t 0)), [], [], 2048⟩,
  ⟨(some 32), none, (.call 61 [(.t 31)]), [], [], 2112⟩,
  ⟨(some 33), none, (.fad 7 (.t 3)), [], [], 2176⟩,
  ⟨none, none, (.st false 1 (.t 33) (.t 32)), [], [], 64⟩]) (.reg false [⟨(some 12), none, (.mov (.t 0)), [], [], 832⟩,
  ⟨(some 13), none, (.call 41 [(.t 12), (.c (.int .i64 6))]), [], [], 896⟩]))))))))))) (.seq (.reg false [⟨(some 34), none, (.ld true 8 (.t 3)), [], [], 2240⟩,
  ⟨none, none, (.st true 8 (.t 2) (.t 34)), [], [], 64⟩]) .ret))))⟩
theorem ok38 : FnOk Try.prog 38 ir38 := ⟨Try.f38, 0, Try.func38, by kernel_rfl, by kernel_rfl⟩
/-- muniment/replica.takeTold -/
def ir39 : IFun := ⟨1, 29, [(.cell 2 true 16)], (.seq (.reg false [⟨(some 2), none, (.new [(.int .i64 0), (.int .i64 0), (.int .i64 0), (.int .u64 0), (.bool false), (.str []), (.sl .nil 0 []), (.bool false), (.str []), (.str []), (.int .u64 0), (.str []), (.str []), (.str []), (.sl .nil 0 []), (.sl .nil 0 [])]), [], [], 192⟩]) (.seq (.reg false [⟨(some 4), none, (.mov (.t 0)), [], [], 320⟩,
  ⟨(some 5), none, (.call 35 [(.t 4), (.c (.int .i64 1))]), [], [], 384⟩,
  ⟨(some 6), none, (.toInt .i64 (.t 5)), [], [], 448⟩,
  ⟨(some 7), none, (.mov (.t 0)), [], [], 512⟩,
  ⟨(some 8), none, (.call 40 [(.t 7), (.c (.int .i64 2147483647))]), [], [], 576⟩,
  ⟨(some 9), none, (.mov (.t 0)), [], [], 640⟩,
  ⟨(some 10), none, (.call 40 [(.t 9), (.c (.int .i64 2147483647))]), [], [], 704⟩,
  ⟨(some 11), none, (.mov (.t 0)), [], [], 768⟩,
  ⟨(some 12), none, (.call 35 [(.t 11), (.c (.int .i64 8))]), [], [], 832⟩,
  ⟨(some 13), none, (.mov (.t 0)), [], [], 896⟩,
  ⟨(some 14), none, (.call 56 [(.t 13)]), [], [], 960⟩,
  ⟨(some 15), none, (.mov (.t 0)), [], [], 1024⟩,
  ⟨(some 16), none, (.call 58 [(.t 15), (.c (.int .i64 64))]), [], [], 1088⟩,
  ⟨(some 17), none, (.mov (.t 0)), [], [], 1152⟩,
  ⟨(some 18), none, (.call 62 [(.t 17)]), [], [], 1216⟩,
  ⟨(some 19), none, (.mk [(.int .i64 0), (.int .i64 0), (.int .i64 0), (.int .u64 0), (.bool false), (.str []), (.sl .nil 0 []), (.bool false), (.str []), (.str []), (.int .u64 0), (.str []), (.str []), (.str []), (.sl .nil 0 []), (.sl .nil 0 [])] [(0, (1, (.t 6))), (1, (1, (.t 8))), (2, (1, (.t 10))), (3, (1, (.t 12))), (4, (1, (.t 14))), (5, (1, (.t 16))), (6, (4, (.t 18)))]), [], [], 1280⟩,
  ⟨(some 3), none, (.new [(.int .i64 0), (.int .i64 0), (.int .i64 0), (.int .u64 0), (.bool false), (.str []), (.sl .nil 0 []), (.bool false), (.str []), (.str []), (.int .u64 0), (.str []), (.str []), (.str []), (.sl .nil 0 []), (.sl .nil 0 [])]), [], [], 256⟩,
  ⟨none, none, (.st true 16 (.t 3) (.t 19)), [], [], 64⟩]) (.seq (.seq (.reg false [⟨(some 20), none, (.mov (.t 0)), [], [], 1344⟩,
  ⟨(some 21), none, (.call 56 [(.t 20)]), [], [], 1408⟩]) (.cond (.t 21) (.reg false [⟨(some 22), none, (.mov (.t 0)), [], [], 1472⟩,
  ⟨(some 23), none, (.call 63 [(.t 22)]), [], [], 1536⟩,
  ⟨(some 24), none, (.fad 10 (.t 3)), [], [], 1600⟩,
  ⟨none, none, (.st true 5 (.t 24) (.t 23)), [], [], 64⟩]) .skip)) (.seq (.reg false [⟨(some 25), none, (.mov (.t 0)), [], [], 1664⟩,
  ⟨(some 26), none, (.call 64 [(.t 25)]), [], [], 1728⟩,
  ⟨(some 27), none, (.fad 15 (.t 3)), [], [], 1792⟩,
  ⟨none, none, (.st true 1 (.t 27) (.t 26)), [], [], 64⟩]) (.seq (.reg false [⟨(some 28), none, (.ld true 16 (.t 3)), [], [], 1856⟩,
  ⟨none, none, (.st true 16 (.t 2) (.t 28)), [], [], 64⟩]) .ret)))))⟩
theorem ok39 : FnOk Try.prog 39 ir39 := ⟨Try.f39, 0, Try.func39, by kernel_rfl, by kernel_rfl⟩
/-- (*muniment/wire.Reader).Count -/
def ir40 : IFun := ⟨2, 31, [(.tmp 4)], (.seq (.reg false [⟨(some 4), none, (.mov (.c (.int .i64 0))), [], [], 320⟩]) (.seq (.reg false [⟨(some 7), none, (.mov (.t 0)), [], [], 512⟩,
  ⟨(some 8), none, (.call 65 [(.t 7)]), [], [], 576⟩,
  ⟨(some 5), none, (.mov (.t 8)), [], [], 384⟩]) (.seq (.reg false [⟨(some 9), none, (.mov (.t 0)), [], [], 640⟩,
  ⟨(some 10), none, (.call 35 [(.t 9), (.c (.int .i64 4))]), [], [], 704⟩,
  ⟨(some 6), none, (.mov (.t 10)), [], [], 448⟩]) (.seq (.seq (.reg false [⟨(some 11), none, (.mov (.t 0)), [], [], 768⟩,
  ⟨(some 12), none, (.call 54 [(.t 11)]), [], [], 832⟩,
  ⟨(some 13), none, (.bin .neq (.t 12) (.c (.int .i64 0))), [], [], 896⟩]) (.cond (.t 13) (.seq (.reg false [⟨(some 4), none, (.mov (.c (.int .i64 0))), [], [], 320⟩]) .ret) .skip)) (.seq (.seq (.reg false [⟨(some 14), none, (.mov (.t 1)), [], [], 960⟩,
  ⟨(some 15), none, (.bin .lss (.t 14) (.c (.int .i64 0))), [], [], 1024⟩,
  ⟨(some 16), none, (.mov (.t 15)), [], [], 1088⟩,
  ⟨(some 17), (some (16, false)), (.mov (.t 6)), [], [], 1152⟩,
  ⟨(some 18), (some (16, false)), (.mov (.t 1)), [], [], 1216⟩,
  ⟨(some 19), (some (16, false)), (.toInt .u64 (.t 18)), [], [], 1280⟩,
  ⟨(some 20), (some (16, false)), (.bin .gtr (.t 17) (.t 19)), [], [], 1344⟩,
  ⟨(some 21), none, (.pick (.t 16) (.c (.bool true)) (.t 20)), [], [], 1408⟩]) (.cond (.t 21) (.seq (.reg false [⟨(some 22), none, (.mov (.t 0)), [], [], 1472⟩,
  ⟨(some 23), none, (.mov (.t 0)), [], [], 1536⟩,
  ⟨(some 24), none, (.mov (.t 5)), [], [], 1600⟩,
  ⟨(some 25), none, (.chk (.t 22)), [], [], 1664⟩,
  ⟨(some 26), none, (.fad 1 (.t 25)), [], [], 1728⟩,
  ⟨none, none, (.st false 1 (.t 26) (.t 24)), [], [], 64⟩,
  ⟨(some 27), none, (.chk (.t 23)), [], [], 1792⟩,
  ⟨(some 28), none, (.fad 2 (.t 27)), [], [], 1856⟩,
  ⟨none, none, (.st false 1 (.t 28) (.c (.int .i64 3))), [], [], 64⟩]) (.seq (.reg false [⟨(some 4), none, (.mov (.c (.int .i64 0))), [], [], 320⟩]) .ret)) .skip)) (.seq (.reg false [⟨(some 29), none, (.mov (.t 6)), [], [], 1920⟩,
  ⟨(some 30), none, (.toInt .i64 (.t 29)), [], [], 1984⟩,
  ⟨(some 4), none, (.mov (.t 30)), [], [], 320⟩]) .ret))))))⟩
theorem ok40 : FnOk Try.prog 40 ir40 := ⟨Try.f40, 0, Try.func40, by kernel_rfl, by kernel_rfl⟩
/-- (*muniment/wire.Reader).Fail -/
def ir41 : IFun := ⟨2, 17, [], (.seq (.reg false [⟨(some 4), none, (.mov (.t 0)), [], [], 320⟩,
  ⟨(some 5), none, (.eqn true .ptr (.t 4) (.c .nilp)), [], [], 384⟩,
  ⟨(some 6), none, (.mov (.t 5)), [], [], 448⟩,
  ⟨(some 7), (some (6, true)), (.mov (.t 0)), [], [], 512⟩,
  ⟨(some 8), (some (6, true)), (.chk (.t 7)), [], [], 576⟩,
  ⟨(some 9), (some (6, true)), (.fad 2 (.t 8)), [], [], 640⟩,
  ⟨(some 10), (some (6, true)), (.ld false 1 (.t 9)), [], [], 704⟩,
  ⟨(some 11), (some (6, true)), (.bin .eql (.t 10) (.c (.int .i64 0))), [], [], 768⟩,
  ⟨(some 12), none, (.pick (.t 6) (.t 11) (.c (.bool false))), [], [], 832⟩]) (.cond (.t 12) (.reg false [⟨(some 13), none, (.mov (.t 0)), [], [], 896⟩,
  ⟨(some 14), none, (.mov (.t 1)), [], [], 960⟩,
  ⟨(some 15), none, (.chk (.t 13)), [], [], 1024⟩,
  ⟨(some 16), none, (.fad 2 (.t 15)), [], [], 1088⟩,
  ⟨none, none, (.st false 1 (.t 16) (.t 14)), [], [], 64⟩]) .skip))⟩
theorem ok41 : FnOk Try.prog 41 ir41 := ⟨Try.f41, 0, Try.func41, by kernel_rfl, by kernel_rfl⟩
/-- (*muniment/wire.Reader).End -/
def ir42 : IFun := ⟨1, 10, [(.tmp 2)], (.seq (.reg false [⟨(some 2), none, (.mov (.c (.int .i64 0))), [], [], 192⟩]) (.seq (.seq (.reg false [⟨(some 3), none, (.mov (.t 0)), [], [], 256⟩,
  ⟨(some 4), none, (.call 66 [(.t 3)]), [], [], 320⟩,
  ⟨(some 5), none, (.bin .gtr (.t 4) (.c (.int .i64 0))), [], [], 384⟩]) (.cond (.t 5) (.reg false [⟨(some 6), none, (.mov (.t 0)), [], [], 448⟩,
  ⟨(some 7), none, (.call 41 [(.t 6), (.c (.int .i64 5))]), [], [], 512⟩]) .skip)) (.seq (.reg false [⟨(some 8), none, (.mov (.t 0)), [], [], 576⟩,
  ⟨(some 9), none, (.call 54 [(.t 8)]), [], [], 640⟩,
  ⟨(some 2), none, (.mov (.t 9)), [], [], 192⟩]) .ret)))⟩
theorem ok42 : FnOk Try.prog 42 ir42 := ⟨Try.f42, 0, Try.func42, by kernel_rfl, by kernel_rfl⟩
/-- muniment/wire.NewWriter -/
def ir43 : IFun := ⟨0, 3, [(.tmp 0)], (.seq (.reg false [⟨(some 0), none, (.mov (.c .nilp)), [], [], 64⟩]) (.seq (.reg false [⟨(some 1), none, (.mk [(.sl .nil 0 [])] []), [], [], 128⟩,
  ⟨(some 2), none, (.box 1 (.t 1)), [], [], 192⟩,
  ⟨(some 0), none, (.mov (.t 2)), [], [], 64⟩]) .ret))⟩
theorem ok43 : FnOk Try.prog 43 ir43 := ⟨Try.f43, 0, Try.func43, by kernel_rfl, by kernel_rfl⟩
/-- (*muniment/wire.Writer).Number -/
def ir44 : IFun := ⟨3, 11, [], (.reg false [⟨(some 6), none, (.mov (.t 0)), [], [], 448⟩,
  ⟨(some 7), none, (.mov (.t 1)), [], [], 512⟩,
  ⟨(some 8), none, (.mov (.t 2)), [], [], 576⟩,
  ⟨(some 9), none, (.call 68 [(.t 7), (.t 8)]), [], [], 640⟩,
  ⟨(some 10), none, (.call 67 [(.t 6), (.t 9)]), [], [], 704⟩])⟩
theorem ok44 : FnOk Try.prog 44 ir44 := ⟨Try.f44, 0, Try.func44, by kernel_rfl, by kernel_rfl⟩
/-- muniment/raft.Put -/
def lp45_0 : IC := (.seq (.reg false [⟨(some 27), none, (.bin .lss (.t 26) (.t 25)), [], [], 1792⟩]) (.seq (.cond (.t 27) .skip (.exit 0)) (.seq (.block 1 (.seq (.reg false [⟨(some 28), none, (.iaL 1 (.t 24) (.t 26)), [], [], 1856⟩,
  ⟨(some 29), none, (.ld false 1 (.t 28)), [], [], 1920⟩,
  ⟨(some 5), none, (.mov (.t 29)), [], [], 384⟩]) (.reg false [⟨(some 30), none, (.mov (.t 0)), [], [], 1984⟩,
  ⟨(some 31), none, (.mov (.t 5)), [], [], 2048⟩,
  ⟨(some 32), none, (.call 49 [(.t 30), (.t 31)]), [], [], 2112⟩]))) (.reg false [⟨(some 33), none, (.bin .add (.t 26) (.c (.int .i64 1))), [], [], 2176⟩,
  ⟨(some 26), none, (.mov (.t 33)), [], [], 1728⟩]))))
def lp45_1 : IC := (.seq (.reg false [⟨(some 51), none, (.bin .lss (.t 50) (.t 49)), [], [], 3328⟩]) (.seq (.cond (.t 51) .skip (.exit 2)) (.seq (.block 3 (.seq (.reg false [⟨(some 52), none, (.iaL 4 (.t 48) (.t 50)), [], [], 3392⟩,
  ⟨(some 53), none, (.ld true 4 (.t 52)), [], [], 3456⟩,
  ⟨(some 7), none, (.new [(.int .i64 0), (.str []), (.bool false), (.sl .nil 0 [])]), [], [], 512⟩,
  ⟨none, none, (.st true 4 (.t 7) (.t 53)), [], [], 64⟩]) (.reg false [⟨(some 54), none, (.mov (.t 0)), [], [], 3520⟩,
  ⟨(some 55), none, (.ld true 4 (.t 7)), [], [], 3584⟩,
  ⟨(some 56), none, (.call 70 [(.t 54), (.t 55)]), [], [], 3648⟩]))) (.reg false [⟨(some 57), none, (.bin .add (.t 50) (.c (.int .i64 1))), [], [], 3712⟩,
  ⟨(some 50), none, (.mov (.t 57)), [], [], 3264⟩]))))
def ir45 : IFun := ⟨2, 76, [], (.seq (.reg false [⟨(some 3), none, (.box 13 (.t 1)), [], [], 256⟩]) (.seq (.seq (.reg false [⟨(some 8), none, (.fad 0 (.t 3)), [], [], 576⟩,
  ⟨(some 9), none, (.ld false 1 (.t 8)), [], [], 640⟩,
  ⟨(some 10), none, (.fad 1 (.t 3)), [], [], 704⟩,
  ⟨(some 11), none, (.ld false 1 (.t 10)), [], [], 768⟩,
  ⟨(some 12), none, (.fad 2 (.t 3)), [], [], 832⟩,
  ⟨(some 13), none, (.ld false 1 (.t 12)), [], [], 896⟩,
  ⟨(some 14), none, (.fad 3 (.t 3)), [], [], 960⟩,
  ⟨(some 15), none, (.ld false 1 (.t 14)), [], [], 1024⟩,
  ⟨(some 16), none, (.fad 4 (.t 3)), [], [], 1088⟩,
  ⟨(some 17), none, (.ld false 1 (.t 16)), [], [], 1152⟩,
  ⟨(some 18), none, (.fad 5 (.t 3)), [], [], 1216⟩,
  ⟨(some 19), none, (.ld false 1 (.t 18)), [], [], 1280⟩,
  ⟨(some 20), none, (.fad 6 (.t 3)), [], [], 1344⟩,
  ⟨(some 21), none, (.ld false 1 (.t 20)), [], [], 1408⟩,
  ⟨(some 22), none, (.fad 9 (.t 3)), [], [], 1472⟩,
  ⟨(some 23), none, (.ld false 1 (.t 22)), [], [], 1536⟩,
  ⟨(some 24), none, (.mksl 1 8 [(.int .i64 0), (.int .i64 0), (.int .i64 0), (.int .i64 0), (.int .i64 0), (.int .i64 0), (.int .i64 0), (.int .i64 0)] [(0, (1, (.t 9))), (1, (1, (.t 11))), (2, (1, (.t 13))), (3, (1, (.t 15))), (4, (1, (.t 17))), (5, (1, (.t 19))), (6, (1, (.t 21))), (7, (1, (.t 23)))]), [], [], 1600⟩,
  ⟨(some 25), none, (.len false (.t 24)), [], [], 1664⟩,
  ⟨(some 26), none, (.mov (.c (.int .i64 0))), [], [], 1728⟩]) (.block 0 (.loop lp45_0))) (.seq (.reg false [⟨(some 34), none, (.mov (.t 0)), [], [], 2240⟩,
  ⟨(some 35), none, (.fad 7 (.t 3)), [], [], 2304⟩,
  ⟨(some 36), none, (.ld false 1 (.t 35)), [], [], 2368⟩,
  ⟨(some 37), none, (.call 69 [(.t 34), (.t 36)]), [], [], 2432⟩]) (.seq (.reg false [⟨(some 38), none, (.mov (.t 0)), [], [], 2496⟩,
  ⟨(some 39), none, (.fad 11 (.t 3)), [], [], 2560⟩,
  ⟨(some 40), none, (.ld false 1 (.t 39)), [], [], 2624⟩,
  ⟨(some 41), none, (.call 69 [(.t 38), (.t 40)]), [], [], 2688⟩]) (.seq (.reg false [⟨(some 42), none, (.mov (.t 0)), [], [], 2752⟩,
  ⟨(some 43), none, (.fad 8 (.t 3)), [], [], 2816⟩,
  ⟨(some 44), none, (.ld false 1 (.t 43)), [], [], 2880⟩,
  ⟨(some 45), none, (.len false (.t 44)), [], [], 2944⟩,
  ⟨(some 46), none, (.call 49 [(.t 42), (.t 45)]), [], [], 3008⟩]) (.seq (.seq (.reg false [⟨(some 47), none, (.fad 8 (.t 3)), [], [], 3072⟩,
  ⟨(some 48), none, (.ld false 1 (.t 47)), [], [], 3136⟩,
  ⟨(some 49), none, (.len false (.t 48)), [], [], 3200⟩,
  ⟨(some 50), none, (.mov (.c (.int .i64 0))), [], [], 3264⟩]) (.block 2 (.loop lp45_1))) (.seq (.reg false [⟨(some 58), none, (.mov (.t 0)), [], [], 3776⟩,
  ⟨(some 59), none, (.fad 10 (.t 3)), [], [], 3840⟩,
  ⟨(some 60), none, (.ld false 1 (.t 59)), [], [], 3904⟩,
  ⟨(some 61), none, (.call 71 [(.t 58), (.t 60)]), [], [], 3968⟩]) (.seq (.reg false [⟨(some 62), none, (.mov (.t 0)), [], [], 4032⟩,
  ⟨(some 63), none, (.fad 12 (.t 3)), [], [], 4096⟩,
  ⟨(some 64), none, (.ld false 1 (.t 63)), [], [], 4160⟩,
  ⟨(some 65), none, (.len false (.t 64)), [], [], 4224⟩,
  ⟨(some 66), none, (.bin .gtr (.t 65) (.c (.int .i64 0))), [], [], 4288⟩,
  ⟨(some 67), none, (.call 69 [(.t 62), (.t 66)]), [], [], 4352⟩]) (.seq (.reg false [⟨(some 68), none, (.fad 12 (.t 3)), [], [], 4416⟩,
  ⟨(some 69), none, (.ld false 1 (.t 68)), [], [], 4480⟩,
  ⟨(some 70), none, (.len false (.t 69)), [], [], 4544⟩,
  ⟨(some 71), none, (.bin .gtr (.t 70) (.c (.int .i64 0))), [], [], 4608⟩]) (.cond (.t 71) (.reg false [⟨(some 72), none, (.mov (.t 0)), [], [], 4672⟩,
  ⟨(some 73), none, (.fad 12 (.t 3)), [], [], 4736⟩,
  ⟨(some 74), none, (.ld false 1 (.t 73)), [], [], 4800⟩,
  ⟨(some 75), none, (.call 72 [(.t 72), (.t 74)]), [], [], 4864⟩]) .skip))))))))))⟩
theorem ok45 : FnOk Try.prog 45 ir45 := ⟨Try.f45, 0, Try.func45, by kernel_rfl, by kernel_rfl⟩
/-- (*muniment/wire.Writer).Hash -/
def ir46 : IFun := ⟨2, 13, [], (.seq (.reg false [⟨(some 5), none, (.mkSlice 1 1 [(.int .u8 0)] (.c (.int .i64 32)) (.c (.int .i64 32))), [], [], 384⟩,
  ⟨(some 4), none, (.mov (.t 5)), [], [], 320⟩]) (.seq (.reg false [⟨(some 6), none, (.mov (.t 4)), [], [], 448⟩,
  ⟨(some 7), none, (.mov (.t 1)), [], [], 512⟩,
  ⟨(some 8), none, (.copy 1 (.t 6) (.t 7)), [], [], 576⟩]) (.reg false [⟨(some 9), none, (.mov (.t 0)), [], [], 640⟩,
  ⟨(some 10), none, (.mov (.t 4)), [], [], 704⟩,
  ⟨(some 11), none, (.toStr (.t 10)), [], [], 768⟩,
  ⟨(some 12), none, (.call 67 [(.t 9), (.t 11)]), [], [], 832⟩])))⟩
theorem ok46 : FnOk Try.prog 46 ir46 := ⟨Try.f46, 0, Try.func46, by kernel_rfl, by kernel_rfl⟩
/-- muniment/replica.putAsk -/
def ir47 : IFun := ⟨2, 39, [], (.seq (.reg false [⟨(some 3), none, (.box 8 (.t 1)), [], [], 256⟩]) (.seq (.reg false [⟨(some 4), none, (.mov (.t 0)), [], [], 320⟩,
  ⟨(some 5), none, (.fad 0 (.t 3)), [], [], 384⟩,
  ⟨(some 6), none, (.ld false 1 (.t 5)), [], [], 448⟩,
  ⟨(some 7), none, (.toInt .u64 (.t 6)), [], [], 512⟩,
  ⟨(some 8), none, (.call 44 [(.t 4), (.t 7), (.c (.int .i64 1))]), [], [], 576⟩]) (.seq (.reg false [⟨(some 9), none, (.mov (.t 0)), [], [], 640⟩,
  ⟨(some 10), none, (.fad 1 (.t 3)), [], [], 704⟩,
  ⟨(some 11), none, (.ld false 1 (.t 10)), [], [], 768⟩,
  ⟨(some 12), none, (.call 49 [(.t 9), (.t 11)]), [], [], 832⟩]) (.seq (.reg false [⟨(some 13), none, (.fad 0 (.t 3)), [], [], 896⟩,
  ⟨(some 14), none, (.ld false 1 (.t 13)), [], [], 960⟩]) (.block 0 (.seq (.reg false [⟨(some 16), none, (.bin .eql (.t 14) (.c (.int .i64 1))), [], [], 1088⟩,
  ⟨(some 15), none, (.mov (.t 16)), [], [], 1024⟩]) (.cond (.t 15) (.reg false [⟨(some 17), none, (.mov (.t 0)), [], [], 1152⟩,
  ⟨(some 18), none, (.fad 2 (.t 3)), [], [], 1216⟩,
  ⟨(some 19), none, (.ld true 3 (.t 18)), [], [], 1280⟩,
  ⟨(some 20), none, (.call 73 [(.t 17), (.t 19)]), [], [], 1344⟩]) (.seq (.reg false [⟨(some 22), none, (.bin .eql (.t 14) (.c (.int .i64 2))), [], [], 1472⟩,
  ⟨(some 21), none, (.mov (.t 22)), [], [], 1408⟩]) (.cond (.t 21) (.reg false [⟨(some 23), none, (.mov (.t 0)), [], [], 1536⟩,
  ⟨(some 24), none, (.fad 5 (.t 3)), [], [], 1600⟩,
  ⟨(some 25), none, (.ld false 1 (.t 24)), [], [], 1664⟩,
  ⟨(some 26), none, (.call 71 [(.t 23), (.t 25)]), [], [], 1728⟩]) (.seq (.reg false [⟨(some 28), none, (.bin .eql (.t 14) (.c (.int .i64 3))), [], [], 1856⟩,
  ⟨(some 27), none, (.mov (.t 28)), [], [], 1792⟩]) (.cond (.t 27) (.reg false [⟨(some 29), none, (.mov (.t 0)), [], [], 1920⟩,
  ⟨(some 30), none, (.fad 6 (.t 3)), [], [], 1984⟩,
  ⟨(some 31), none, (.ld false 1 (.t 30)), [], [], 2048⟩,
  ⟨(some 32), none, (.call 44 [(.t 29), (.t 31), (.c (.int .i64 8))]), [], [], 2112⟩]) (.seq (.reg false [⟨(some 34), none, (.bin .eql (.t 14) (.c (.int .i64 4))), [], [], 2240⟩,
  ⟨(some 33), none, (.mov (.t 34)), [], [], 2176⟩]) (.cond (.t 33) (.reg false [⟨(some 35), none, (.mov (.t 0)), [], [], 2304⟩,
  ⟨(some 36), none, (.fad 7 (.t 3)), [], [], 2368⟩,
  ⟨(some 37), none, (.ld false 1 (.t 36)), [], [], 2432⟩,
  ⟨(some 38), none, (.call 74 [(.t 35), (.t 37)]), [], [], 2496⟩]) .skip)))))))))))))⟩
theorem ok47 : FnOk Try.prog 47 ir47 := ⟨Try.f47, 0, Try.func47, by kernel_rfl, by kernel_rfl⟩
/-- muniment/replica.putTold -/
def ir48 : IFun := ⟨2, 50, [], (.seq (.reg false [⟨(some 3), none, (.box 16 (.t 1)), [], [], 256⟩]) (.seq (.reg false [⟨(some 5), none, (.mov (.t 0)), [], [], 384⟩,
  ⟨(some 6), none, (.fad 0 (.t 3)), [], [], 448⟩,
  ⟨(some 7), none, (.ld false 1 (.t 6)), [], [], 512⟩,
  ⟨(some 8), none, (.toInt .u64 (.t 7)), [], [], 576⟩,
  ⟨(some 9), none, (.call 44 [(.t 5), (.t 8), (.c (.int .i64 1))]), [], [], 640⟩]) (.seq (.reg false [⟨(some 10), none, (.mov (.t 0)), [], [], 704⟩,
  ⟨(some 11), none, (.fad 1 (.t 3)), [], [], 768⟩,
  ⟨(some 12), none, (.ld false 1 (.t 11)), [], [], 832⟩,
  ⟨(some 13), none, (.call 49 [(.t 10), (.t 12)]), [], [], 896⟩]) (.seq (.reg false [⟨(some 14), none, (.mov (.t 0)), [], [], 960⟩,
  ⟨(some 15), none, (.fad 2 (.t 3)), [], [], 1024⟩,
  ⟨(some 16), none, (.ld false 1 (.t 15)), [], [], 1088⟩,
  ⟨(some 17), none, (.call 49 [(.t 14), (.t 16)]), [], [], 1152⟩]) (.seq (.reg false [⟨(some 18), none, (.mov (.t 0)), [], [], 1216⟩,
  ⟨(some 19), none, (.fad 3 (.t 3)), [], [], 1280⟩,
  ⟨(some 20), none, (.ld false 1 (.t 19)), [], [], 1344⟩,
  ⟨(some 21), none, (.call 44 [(.t 18), (.t 20), (.c (.int .i64 8))]), [], [], 1408⟩]) (.seq (.reg false [⟨(some 22), none, (.mov (.t 0)), [], [], 1472⟩,
  ⟨(some 23), none, (.fad 4 (.t 3)), [], [], 1536⟩,
  ⟨(some 24), none, (.ld false 1 (.t 23)), [], [], 1600⟩,
  ⟨(some 25), none, (.call 69 [(.t 22), (.t 24)]), [], [], 1664⟩]) (.seq (.reg false [⟨(some 26), none, (.mov (.t 0)), [], [], 1728⟩,
  ⟨(some 27), none, (.fad 5 (.t 3)), [], [], 1792⟩,
  ⟨(some 28), none, (.ld false 1 (.t 27)), [], [], 1856⟩,
  ⟨(some 29), none, (.call 71 [(.t 26), (.t 28)]), [], [], 1920⟩]) (.seq (.reg false [⟨(some 30), none, (.mov (.t 0)), [], [], 1984⟩,
  ⟨(some 31), none, (.fad 6 (.t 3)), [], [], 2048⟩,
  ⟨(some 32), none, (.ld true 4 (.t 31)), [], [], 2112⟩,
  ⟨(some 33), none, (.call 75 [(.t 30), (.t 32)]), [], [], 2176⟩]) (.seq (.reg false [⟨(some 34), none, (.fad 10 (.t 3)), [], [], 2240⟩,
  ⟨(some 35), none, (.ld true 5 (.t 34)), [], [], 2304⟩,
  ⟨(some 36), none, (.call 76 [(.t 35)]), [], [], 2368⟩,
  ⟨(some 37), none, (.bin .eql (.t 36) (.c (.int .i64 0))), [], [], 2432⟩,
  ⟨(some 4), none, (.mov (.t 37)), [], [], 320⟩]) (.seq (.reg false [⟨(some 38), none, (.mov (.t 0)), [], [], 2496⟩,
  ⟨(some 39), none, (.mov (.t 4)), [], [], 2560⟩,
  ⟨(some 40), none, (.call 69 [(.t 38), (.t 39)]), [], [], 2624⟩]) (.seq (.seq (.reg false [⟨(some 41), none, (.mov (.t 4)), [], [], 2688⟩]) (.cond (.t 41) (.reg false [⟨(some 42), none, (.mov (.t 0)), [], [], 2752⟩,
  ⟨(some 43), none, (.fad 10 (.t 3)), [], [], 2816⟩,
  ⟨(some 44), none, (.ld true 5 (.t 43)), [], [], 2880⟩,
  ⟨(some 45), none, (.call 77 [(.t 42), (.t 44)]), [], [], 2944⟩]) .skip)) (.reg false [⟨(some 46), none, (.mov (.t 0)), [], [], 3008⟩,
  ⟨(some 47), none, (.fad 15 (.t 3)), [], [], 3072⟩,
  ⟨(some 48), none, (.ld true 1 (.t 47)), [], [], 3136⟩,
  ⟨(some 49), none, (.call 78 [(.t 46), (.t 48)]), [], [], 3200⟩]))))))))))))⟩
theorem ok48 : FnOk Try.prog 48 ir48 := ⟨Try.f48, 0, Try.func48, by kernel_rfl, by kernel_rfl⟩
/-- (*muniment/wire.Writer).Count -/
def ir49 : IFun := ⟨2, 9, [], (.reg false [⟨(some 4), none, (.mov (.t 0)), [], [], 320⟩,
  ⟨(some 5), none, (.mov (.t 1)), [], [], 384⟩,
  ⟨(some 6), none, (.mm true (.t 5) (.c (.int .i64 0))), [], [], 448⟩,
  ⟨(some 7), none, (.toInt .u64 (.t 6)), [], [], 512⟩,
  ⟨(some 8), none, (.call 44 [(.t 4), (.t 7), (.c (.int .i64 4))]), [], [], 576⟩])⟩
theorem ok49 : FnOk Try.prog 49 ir49 := ⟨Try.f49, 0, Try.func49, by kernel_rfl, by kernel_rfl⟩
/-- (*muniment/wire.Writer).All -/
def ir50 : IFun := ⟨1, 10, [(.tmp 2)], (.seq (.reg false [⟨(some 2), none, (.mov (.c (.str []))), [], [], 192⟩]) (.seq (.seq (.reg false [⟨(some 3), none, (.mov (.t 0)), [], [], 256⟩,
  ⟨(some 4), none, (.eqn false .ptr (.t 3) (.c .nilp)), [], [], 320⟩]) (.cond (.t 4) (.seq (.reg false [⟨(some 2), none, (.mov (.c (.str []))), [], [], 192⟩]) .ret) .skip)) (.seq (.reg false [⟨(some 5), none, (.mov (.t 0)), [], [], 384⟩,
  ⟨(some 6), none, (.chk (.t 5)), [], [], 448⟩,
  ⟨(some 7), none, (.fad 0 (.t 6)), [], [], 512⟩,
  ⟨(some 8), none, (.ld false 1 (.t 7)), [], [], 576⟩,
  ⟨(some 9), none, (.toStr (.t 8)), [], [], 640⟩,
  ⟨(some 2), none, (.mov (.t 9)), [], [], 192⟩]) .ret)))⟩
theorem ok50 : FnOk Try.prog 50 ir50 := ⟨Try.f50, 0, Try.func50, by kernel_rfl, by kernel_rfl⟩
/-- slices.Clone[[]muniment/api.Op,muniment/api.Op] -/
def ir51 : IFun := ⟨1, 8, [(.tmp 2)], (.seq (.reg false [⟨(some 2), none, (.mov (.c (.sl .nil 0 []))), [], [], 192⟩]) (.seq (.seq (.reg false [⟨(some 3), none, (.mov (.t 0)), [], [], 256⟩,
  ⟨(some 4), none, (.eqn false .sl (.t 3) (.c (.sl .nil 0 []))), [], [], 320⟩]) (.cond (.t 4) (.seq (.reg false [⟨(some 2), none, (.mov (.c (.sl .nil 0 []))), [], [], 192⟩]) .ret) .skip)) (.seq (.reg false [⟨(some 5), none, (.mksl 3 0 [] []), [], [], 384⟩,
  ⟨(some 6), none, (.mov (.t 0)), [], [], 448⟩,
  ⟨(some 7), none, (.app 3 40 (.t 5) (.t 6)), [], [], 512⟩,
  ⟨(some 2), none, (.mov (.t 7)), [], [], 192⟩]) .ret)))⟩
theorem ok51 : FnOk Try.prog 51 ir51 := ⟨Try.f51, 0, Try.func51, by kernel_rfl, by kernel_rfl⟩
/-- slices.Clone[[]int,int] -/
def ir52 : IFun := ⟨1, 8, [(.tmp 2)], (.seq (.reg false [⟨(some 2), none, (.mov (.c (.sl .nil 0 []))), [], [], 192⟩]) (.seq (.seq (.reg false [⟨(some 3), none, (.mov (.t 0)), [], [], 256⟩,
  ⟨(some 4), none, (.eqn false .sl (.t 3) (.c (.sl .nil 0 []))), [], [], 320⟩]) (.cond (.t 4) (.seq (.reg false [⟨(some 2), none, (.mov (.c (.sl .nil 0 []))), [], [], 192⟩]) .ret) .skip)) (.seq (.reg false [⟨(some 5), none, (.mksl 1 0 [] []), [], [], 384⟩,
  ⟨(some 6), none, (.mov (.t 0)), [], [], 448⟩,
  ⟨(some 7), none, (.app 1 8 (.t 5) (.t 6)), [], [], 512⟩,
  ⟨(some 2), none, (.mov (.t 7)), [], [], 192⟩]) .ret)))⟩
theorem ok52 : FnOk Try.prog 52 ir52 := ⟨Try.f52, 0, Try.func52, by kernel_rfl, by kernel_rfl⟩
/-- slices.IndexFunc[[]muniment/api.Op,muniment/api.Op] -/
def lp53_0 : IC := (.seq (.reg false [⟨(some 9), none, (.bin .lss (.t 8) (.t 7)), [], [], 640⟩]) (.seq (.cond (.t 9) .skip (.exit 0)) (.seq (.block 1 (.seq (.reg false [⟨(some 10), none, (.mov (.t 8)), [], [], 704⟩,
  ⟨(some 5), none, (.mov (.t 10)), [], [], 384⟩]) (.seq (.reg false [⟨(some 11), none, (.mov (.t 1)), [], [], 768⟩,
  ⟨(some 12), none, (.mov (.t 0)), [], [], 832⟩,
  ⟨(some 13), none, (.mov (.t 5)), [], [], 896⟩,
  ⟨(some 14), none, (.iaL 3 (.t 12) (.t 13)), [], [], 960⟩,
  ⟨(some 15), none, (.ld true 3 (.t 14)), [], [], 1024⟩,
  ⟨(some 16), none, (.callv (.t 11) [(.t 15)]), [], [], 1088⟩]) (.cond (.t 16) (.seq (.reg false [⟨(some 17), none, (.mov (.t 5)), [], [], 1152⟩,
  ⟨(some 4), none, (.mov (.t 17)), [], [], 320⟩]) .ret) .skip)))) (.reg false [⟨(some 18), none, (.bin .add (.t 8) (.c (.int .i64 1))), [], [], 1216⟩,
  ⟨(some 8), none, (.mov (.t 18)), [], [], 576⟩]))))
def ir53 : IFun := ⟨2, 19, [(.tmp 4)], (.seq (.reg false [⟨(some 4), none, (.mov (.c (.int .i64 0))), [], [], 320⟩]) (.seq (.seq (.reg false [⟨(some 6), none, (.mov (.t 0)), [], [], 448⟩,
  ⟨(some 7), none, (.len false (.t 6)), [], [], 512⟩,
  ⟨(some 8), none, (.mov (.c (.int .i64 0))), [], [], 576⟩]) (.block 0 (.loop lp53_0))) (.seq (.reg false [⟨(some 4), none, (.mov (.c (.int .i64 (-1)))), [], [], 320⟩]) .ret)))⟩
theorem ok53 : FnOk Try.prog 53 ir53 := ⟨Try.f53, 0, Try.func53, by kernel_rfl, by kernel_rfl⟩
/-- (*muniment/wire.Reader).Err -/
def ir54 : IFun := ⟨1, 9, [(.tmp 2)], (.seq (.reg false [⟨(some 2), none, (.mov (.c (.int .i64 0))), [], [], 192⟩]) (.seq (.seq (.reg false [⟨(some 3), none, (.mov (.t 0)), [], [], 256⟩,
  ⟨(some 4), none, (.eqn false .ptr (.t 3) (.c .nilp)), [], [], 320⟩]) (.cond (.t 4) (.seq (.reg false [⟨(some 2), none, (.mov (.c (.int .i64 1))), [], [], 192⟩]) .ret) .skip)) (.seq (.reg false [⟨(some 5), none, (.mov (.t 0)), [], [], 384⟩,
  ⟨(some 6), none, (.chk (.t 5)), [], [], 448⟩,
  ⟨(some 7), none, (.fad 2 (.t 6)), [], [], 512⟩,
  ⟨(some 8), none, (.ld false 1 (.t 7)), [], [], 576⟩,
  ⟨(some 2), none, (.mov (.t 8)), [], [], 192⟩]) .ret)))⟩
theorem ok54 : FnOk Try.prog 54 ir54 := ⟨Try.f54, 0, Try.func54, by kernel_rfl, by kernel_rfl⟩
/-- (*muniment/wire.Reader).Bytes -/
def ir55 : IFun := ⟨2, 54, [(.tmp 4)], (.seq (.reg false [⟨(some 4), none, (.mov (.c (.str []))), [], [], 320⟩]) (.seq (.block 0 (.seq (.reg false [⟨(some 6), none, (.mov (.t 0)), [], [], 448⟩,
  ⟨(some 7), none, (.call 54 [(.t 6)]), [], [], 512⟩,
  ⟨(some 8), none, (.bin .neq (.t 7) (.c (.int .i64 0))), [], [], 576⟩,
  ⟨(some 5), none, (.mov (.t 8)), [], [], 384⟩]) (.cond (.t 5) (.seq (.reg false [⟨(some 4), none, (.mov (.c (.str []))), [], [], 320⟩]) .ret) (.seq (.reg false [⟨(some 10), none, (.mov (.t 1)), [], [], 704⟩,
  ⟨(some 11), none, (.bin .lss (.t 10) (.c (.int .i64 0))), [], [], 768⟩,
  ⟨(some 9), none, (.mov (.t 11)), [], [], 640⟩]) (.cond (.t 9) (.seq (.reg false [⟨(some 12), none, (.mov (.t 0)), [], [], 832⟩,
  ⟨(some 13), none, (.chk (.t 12)), [], [], 896⟩,
  ⟨(some 14), none, (.fad 2 (.t 13)), [], [], 960⟩,
  ⟨none, none, (.st false 1 (.t 14) (.c (.int .i64 1))), [], [], 64⟩]) (.seq (.reg false [⟨(some 4), none, (.mov (.c (.str []))), [], [], 320⟩]) .ret)) (.seq (.reg true [⟨(some 16), none, (.mov (.t 1)), [], [], 1088⟩,
  ⟨(some 17), none, (.mov (.t 0)), [], [], 1152⟩,
  ⟨(some 18), none, (.chk (.t 17)), [1], [1], 1216⟩,
  ⟨(some 19), none, (.fad 0 (.t 18)), [2], [2, 1], 1280⟩,
  ⟨(some 20), none, (.ld false 1 (.t 19)), [3], [3, 2, 1], 1344⟩,
  ⟨(some 21), none, (.len true (.t 20)), [4], [4, 3, 2, 1], 1408⟩,
  ⟨(some 22), none, (.mov (.t 0)), [], [], 1472⟩,
  ⟨(some 23), none, (.chk (.t 22)), [6], [6], 1536⟩,
  ⟨(some 24), none, (.fad 1 (.t 23)), [7], [7, 6], 1600⟩,
  ⟨(some 25), none, (.ld false 1 (.t 24)), [8], [8, 7, 6], 1664⟩,
  ⟨(some 26), none, (.bin .sub (.t 21) (.t 25)), [5, 9], [5, 9, 4, 3, 2, 1, 8, 7, 6], 1728⟩,
  ⟨(some 27), none, (.bin .gtr (.t 16) (.t 26)), [0, 10], [0, 10, 5, 9, 4, 3, 2, 1, 8, 7, 6], 1792⟩,
  ⟨(some 15), none, (.mov (.t 27)), [11], [11, 0, 10, 5, 9, 4, 3, 2, 1, 8, 7, 6], 1024⟩]) (.cond (.t 15) (.seq (.reg false [⟨(some 28), none, (.mov (.t 0)), [], [], 1856⟩,
  ⟨(some 29), none, (.chk (.t 28)), [], [], 1920⟩,
  ⟨(some 30), none, (.fad 2 (.t 29)), [], [], 1984⟩,
  ⟨none, none, (.st false 1 (.t 30) (.c (.int .i64 4))), [], [], 64⟩]) (.seq (.reg false [⟨(some 4), none, (.mov (.c (.str []))), [], [], 320⟩]) .ret)) .skip))))))) (.seq (.reg false [⟨(some 31), none, (.mov (.t 0)), [], [], 2048⟩,
  ⟨(some 32), none, (.chk (.t 31)), [], [], 2112⟩,
  ⟨(some 33), none, (.fad 1 (.t 32)), [], [], 2176⟩,
  ⟨(some 34), none, (.ld false 1 (.t 33)), [], [], 2240⟩,
  ⟨(some 35), none, (.mov (.t 1)), [], [], 2304⟩,
  ⟨(some 36), none, (.bin .add (.t 34) (.t 35)), [], [], 2368⟩,
  ⟨(some 37), none, (.chk (.t 31)), [], [], 2432⟩,
  ⟨(some 38), none, (.fad 1 (.t 37)), [], [], 2496⟩,
  ⟨none, none, (.st false 1 (.t 38) (.t 36)), [], [], 64⟩]) (.seq (.reg true [⟨(some 39), none, (.mov (.t 0)), [], [], 2560⟩,
  ⟨(some 40), none, (.chk (.t 39)), [0], [0], 2624⟩,
  ⟨(some 41), none, (.fad 0 (.t 40)), [1], [1, 0], 2688⟩,
  ⟨(some 42), none, (.ld false 1 (.t 41)), [2], [2, 1, 0], 2752⟩,
  ⟨(some 43), none, (.mov (.t 0)), [], [], 2816⟩,
  ⟨(some 44), none, (.chk (.t 43)), [4], [4], 2880⟩,
  ⟨(some 45), none, (.fad 1 (.t 44)), [5], [5, 4], 2944⟩,
  ⟨(some 46), none, (.ld false 1 (.t 45)), [6], [6, 5, 4], 3008⟩,
  ⟨(some 47), none, (.mov (.t 1)), [], [], 3072⟩,
  ⟨(some 48), none, (.bin .sub (.t 46) (.t 47)), [7, 8], [7, 8, 6, 5, 4], 3136⟩,
  ⟨(some 49), none, (.mov (.t 0)), [], [], 3200⟩,
  ⟨(some 50), none, (.chk (.t 49)), [10], [10], 3264⟩,
  ⟨(some 51), none, (.fad 1 (.t 50)), [11], [11, 10], 3328⟩,
  ⟨(some 52), none, (.ld false 1 (.t 51)), [12], [12, 11, 10], 3392⟩,
  ⟨(some 53), none, (.slS (.t 42) (some (.t 48)) (some (.t 52))), [3, 9, 13], [3, 9, 13, 2, 1, 0, 7, 8, 6, 5, 4, 12, 11, 10], 3456⟩,
  ⟨(some 4), none, (.mov (.t 53)), [14, 0, 1, 2, 3, 4, 5, 6, 7, 8, 9, 10, 11, 12, 13, 14], [14, 0, 1, 2, 3, 4, 5, 6, 7, 8, 9, 10, 11, 12, 13], 320⟩]) .ret))))⟩
theorem ok55 : FnOk Try.prog 55 ir55 := ⟨Try.f55, 0, Try.func55, by kernel_rfl, by kernel_rfl⟩
/-- (*muniment/wire.Reader).Bool -/
def ir56 : IFun := ⟨1, 30, [(.tmp 2)], (.seq (.reg false [⟨(some 2), none, (.mov (.c (.bool false))), [], [], 192⟩]) (.seq (.reg false [⟨(some 5), none, (.mov (.t 0)), [], [], 384⟩,
  ⟨(some 6), none, (.call 65 [(.t 5)]), [], [], 448⟩,
  ⟨(some 3), none, (.mov (.t 6)), [], [], 256⟩]) (.seq (.reg false [⟨(some 7), none, (.mov (.t 0)), [], [], 512⟩,
  ⟨(some 8), none, (.call 35 [(.t 7), (.c (.int .i64 1))]), [], [], 576⟩,
  ⟨(some 4), none, (.mov (.t 8)), [], [], 320⟩]) (.seq (.seq (.reg false [⟨(some 9), none, (.mov (.t 0)), [], [], 640⟩,
  ⟨(some 10), none, (.call 54 [(.t 9)]), [], [], 704⟩,
  ⟨(some 11), none, (.bin .eql (.t 10) (.c (.int .i64 0))), [], [], 768⟩,
  ⟨(some 12), none, (.mov (.t 11)), [], [], 832⟩,
  ⟨(some 13), (some (12, true)), (.mov (.t 4)), [], [], 896⟩,
  ⟨(some 14), (some (12, true)), (.bin .gtr (.t 13) (.c (.int .u64 1))), [], [], 960⟩,
  ⟨(some 15), none, (.pick (.t 12) (.t 14) (.c (.bool false))), [], [], 1024⟩]) (.cond (.t 15) (.reg false [⟨(some 16), none, (.mov (.t 0)), [], [], 1088⟩,
  ⟨(some 17), none, (.mov (.t 0)), [], [], 1152⟩,
  ⟨(some 18), none, (.mov (.t 3)), [], [], 1216⟩,
  ⟨(some 19), none, (.chk (.t 16)), [], [], 1280⟩,
  ⟨(some 20), none, (.fad 1 (.t 19)), [], [], 1344⟩,
  ⟨none, none, (.st false 1 (.t 20) (.t 18)), [], [], 64⟩,
  ⟨(some 21), none, (.chk (.t 17)), [], [], 1408⟩,
  ⟨(some 22), none, (.fad 2 (.t 21)), [], [], 1472⟩,
  ⟨none, none, (.st false 1 (.t 22) (.c (.int .i64 6))), [], [], 64⟩]) .skip)) (.seq (.reg false [⟨(some 23), none, (.mov (.t 0)), [], [], 1536⟩,
  ⟨(some 24), none, (.call 54 [(.t 23)]), [], [], 1600⟩,
  ⟨(some 25), none, (.bin .eql (.t 24) (.c (.int .i64 0))), [], [], 1664⟩,
  ⟨(some 26), none, (.mov (.t 25)), [], [], 1728⟩,
  ⟨(some 27), (some (26, true)), (.mov (.t 4)), [], [], 1792⟩,
  ⟨(some 28), (some (26, true)), (.bin .eql (.t 27) (.c (.int .u64 1))), [], [], 1856⟩,
  ⟨(some 29), none, (.pick (.t 26) (.t 28) (.c (.bool false))), [], [], 1920⟩,
  ⟨(some 2), none, (.mov (.t 29)), [], [], 192⟩]) .ret)))))⟩
theorem ok56 : FnOk Try.prog 56 ir56 := ⟨Try.f56, 0, Try.func56, by kernel_rfl, by kernel_rfl⟩
/-- muniment/raft.TakeEntry -/
def ir57 : IFun := ⟨1, 22, [(.cell 2 true 4)], (.seq (.reg false [⟨(some 2), none, (.new [(.int .i64 0), (.str []), (.bool false), (.sl .nil 0 [])]), [], [], 192⟩]) (.seq (.reg false [⟨(some 4), none, (.mov (.t 0)), [], [], 320⟩,
  ⟨(some 5), none, (.call 40 [(.t 4), (.c (.int .i64 2147483647))]), [], [], 384⟩,
  ⟨(some 6), none, (.mov (.t 0)), [], [], 448⟩,
  ⟨(some 7), none, (.call 56 [(.t 6)]), [], [], 512⟩,
  ⟨(some 8), none, (.mk [(.int .i64 0), (.str []), (.bool false), (.sl .nil 0 [])] [(0, (1, (.t 5))), (2, (1, (.t 7)))]), [], [], 576⟩,
  ⟨(some 3), none, (.new [(.int .i64 0), (.str []), (.bool false), (.sl .nil 0 [])]), [], [], 256⟩,
  ⟨none, none, (.st true 4 (.t 3) (.t 8)), [], [], 64⟩]) (.seq (.seq (.reg false [⟨(some 9), none, (.fad 2 (.t 3)), [], [], 640⟩,
  ⟨(some 10), none, (.ld false 1 (.t 9)), [], [], 704⟩]) (.cond (.t 10) (.reg false [⟨(some 11), none, (.mov (.t 0)), [], [], 768⟩,
  ⟨(some 12), none, (.call 59 [(.t 11)]), [], [], 832⟩,
  ⟨(some 13), none, (.fad 3 (.t 3)), [], [], 896⟩,
  ⟨none, none, (.st false 1 (.t 13) (.t 12)), [], [], 64⟩]) (.reg false [⟨(some 14), none, (.mov (.t 0)), [], [], 960⟩,
  ⟨(some 15), none, (.call 58 [(.t 14), (.c (.int .i64 1048576))]), [], [], 1024⟩,
  ⟨(some 16), none, (.fad 1 (.t 3)), [], [], 1088⟩,
  ⟨none, none, (.st false 1 (.t 16) (.t 15)), [], [], 64⟩]))) (.seq (.seq (.reg false [⟨(some 17), none, (.mov (.t 0)), [], [], 1152⟩,
  ⟨(some 18), none, (.call 54 [(.t 17)]), [], [], 1216⟩,
  ⟨(some 19), none, (.bin .neq (.t 18) (.c (.int .i64 0))), [], [], 1280⟩]) (.cond (.t 19) (.seq (.reg false [⟨(some 20), none, (.mk [(.int .i64 0), (.str []), (.bool false), (.sl .nil 0 [])] []), [], [], 1344⟩,
  ⟨none, none, (.st true 4 (.t 2) (.t 20)), [], [], 64⟩]) .ret) .skip)) (.seq (.reg false [⟨(some 21), none, (.ld true 4 (.t 3)), [], [], 1408⟩,
  ⟨none, none, (.st true 4 (.t 2) (.t 21)), [], [], 64⟩]) .ret)))))⟩
theorem ok57 : FnOk Try.prog 57 ir57 := ⟨Try.f57, 0, Try.func57, by kernel_rfl, by kernel_rfl⟩
/-- (*muniment/wire.Reader).Text -/
def ir58 : IFun := ⟨2, 26, [(.tmp 4)], (.seq (.reg false [⟨(some 4), none, (.mov (.c (.str []))), [], [], 320⟩]) (.seq (.reg false [⟨(some 7), none, (.mov (.t 0)), [], [], 512⟩,
  ⟨(some 8), none, (.call 65 [(.t 7)]), [], [], 576⟩,
  ⟨(some 5), none, (.mov (.t 8)), [], [], 384⟩]) (.seq (.reg false [⟨(some 9), none, (.mov (.t 0)), [], [], 640⟩,
  ⟨(some 10), none, (.mov (.t 0)), [], [], 704⟩,
  ⟨(some 11), none, (.mov (.t 1)), [], [], 768⟩,
  ⟨(some 12), none, (.call 40 [(.t 10), (.t 11)]), [], [], 832⟩,
  ⟨(some 13), none, (.call 55 [(.t 9), (.t 12)]), [], [], 896⟩,
  ⟨(some 6), none, (.mov (.t 13)), [], [], 448⟩]) (.seq (.seq (.reg false [⟨(some 14), none, (.mov (.t 0)), [], [], 960⟩,
  ⟨(some 15), none, (.call 54 [(.t 14)]), [], [], 1024⟩,
  ⟨(some 16), none, (.bin .neq (.t 15) (.c (.int .i64 0))), [], [], 1088⟩,
  ⟨(some 17), none, (.mov (.t 16)), [], [], 1152⟩,
  ⟨(some 18), (some (17, true)), (.mov (.t 0)), [], [], 1216⟩,
  ⟨(some 19), (some (17, true)), (.eqn true .ptr (.t 18) (.c .nilp)), [], [], 1280⟩,
  ⟨(some 20), none, (.pick (.t 17) (.t 19) (.c (.bool false))), [], [], 1344⟩]) (.cond (.t 20) (.reg false [⟨(some 21), none, (.mov (.t 0)), [], [], 1408⟩,
  ⟨(some 22), none, (.mov (.t 5)), [], [], 1472⟩,
  ⟨(some 23), none, (.chk (.t 21)), [], [], 1536⟩,
  ⟨(some 24), none, (.fad 1 (.t 23)), [], [], 1600⟩,
  ⟨none, none, (.st false 1 (.t 24) (.t 22)), [], [], 64⟩]) .skip)) (.seq (.reg false [⟨(some 25), none, (.mov (.t 6)), [], [], 1664⟩,
  ⟨(some 4), none, (.mov (.t 25)), [], [], 320⟩]) .ret)))))⟩
theorem ok58 : FnOk Try.prog 58 ir58 := ⟨Try.f58, 0, Try.func58, by kernel_rfl, by kernel_rfl⟩
/-- muniment/head.TakeMembers -/
def lp59_0 : IC := (.seq (.seq (.reg false [⟨(some 7), none, (.mov (.t 4)), [], [], 512⟩,
  ⟨(some 8), none, (.bin .gtr (.t 7) (.c (.int .u64 0))), [], [], 576⟩,
  ⟨(some 9), none, (.mov (.t 8)), [], [], 640⟩,
  ⟨(some 10), (some (9, true)), (.mov (.t 0)), [], [], 704⟩,
  ⟨(some 11), (some (9, true)), (.call 54 [(.t 10)]), [], [], 768⟩,
  ⟨(some 12), (some (9, true)), (.bin .eql (.t 11) (.c (.int .i64 0))), [], [], 832⟩,
  ⟨(some 13), none, (.pick (.t 9) (.t 12) (.c (.bool false))), [], [], 896⟩]) (.cond (.t 13) .skip (.exit 0))) (.seq (.block 1 (.reg false [⟨(some 16), none, (.mov (.t 3)), [], [], 1088⟩,
  ⟨(some 17), none, (.mov (.t 0)), [], [], 1152⟩,
  ⟨(some 18), none, (.call 35 [(.t 17), (.c (.int .i64 1))]), [], [], 1216⟩,
  ⟨(some 19), none, (.toInt .i64 (.t 18)), [], [], 1280⟩,
  ⟨(some 20), none, (.mksl 1 1 [(.int .i64 0)] [(0, (1, (.t 19)))]), [], [], 1344⟩,
  ⟨(some 21), none, (.app 1 8 (.t 16) (.t 20)), [], [], 1408⟩,
  ⟨(some 3), none, (.mov (.t 21)), [], [], 256⟩])) (.reg false [⟨(some 14), none, (.mov (.t 4)), [], [], 960⟩,
  ⟨(some 15), none, (.bin .sub (.t 14) (.c (.int .u64 1))), [], [], 1024⟩,
  ⟨(some 4), none, (.mov (.t 15)), [], [], 320⟩])))
def ir59 : IFun := ⟨1, 36, [(.tmp 2)], (.seq (.reg false [⟨(some 2), none, (.mov (.c (.sl .nil 0 []))), [], [], 192⟩]) (.seq (.reg false [⟨(some 3), none, (.mov (.c (.sl .nil 0 []))), [], [], 256⟩]) (.seq (.seq (.reg false [⟨(some 5), none, (.mov (.t 0)), [], [], 384⟩,
  ⟨(some 6), none, (.call 35 [(.t 5), (.c (.int .i64 1))]), [], [], 448⟩,
  ⟨(some 4), none, (.mov (.t 6)), [], [], 320⟩]) (.block 0 (.loop lp59_0))) (.seq (.seq (.reg false [⟨(some 22), none, (.mov (.t 0)), [], [], 1472⟩,
  ⟨(some 23), none, (.call 54 [(.t 22)]), [], [], 1536⟩,
  ⟨(some 24), none, (.bin .eql (.t 23) (.c (.int .i64 0))), [], [], 1600⟩,
  ⟨(some 25), none, (.mov (.t 24)), [], [], 1664⟩,
  ⟨(some 26), (some (25, true)), (.mov (.t 3)), [], [], 1728⟩,
  ⟨(some 27), (some (25, true)), (.call 21 [(.t 26)]), [], [], 1792⟩,
  ⟨(some 28), (some (25, true)), (.un .not (.t 27)), [], [], 1856⟩,
  ⟨(some 29), none, (.pick (.t 25) (.t 28) (.c (.bool false))), [], [], 1920⟩]) (.cond (.t 29) (.reg false [⟨(some 30), none, (.mov (.t 0)), [], [], 1984⟩,
  ⟨(some 31), none, (.call 41 [(.t 30), (.c (.int .i64 6))]), [], [], 2048⟩]) .skip)) (.seq (.seq (.reg false [⟨(some 32), none, (.mov (.t 0)), [], [], 2112⟩,
  ⟨(some 33), none, (.call 54 [(.t 32)]), [], [], 2176⟩,
  ⟨(some 34), none, (.bin .neq (.t 33) (.c (.int .i64 0))), [], [], 2240⟩]) (.cond (.t 34) (.seq (.reg false [⟨(some 2), none, (.mov (.c (.sl .nil 0 []))), [], [], 192⟩]) .ret) .skip)) (.seq (.reg false [⟨(some 35), none, (.mov (.t 3)), [], [], 2304⟩,
  ⟨(some 2), none, (.mov (.t 35)), [], [], 192⟩]) .ret))))))⟩
theorem ok59 : FnOk Try.prog 59 ir59 := ⟨Try.f59, 0, Try.func59, by kernel_rfl, by kernel_rfl⟩
/-- muniment/tx.Take -/
def lp60_0 : IC := (.seq (.seq (.reg false [⟨(some 12), none, (.mov (.t 4)), [], [], 832⟩,
  ⟨(some 13), none, (.bin .gtr (.t 12) (.c (.int .i64 0))), [], [], 896⟩,
  ⟨(some 14), none, (.mov (.t 13)), [], [], 960⟩,
  ⟨(some 15), (some (14, true)), (.mov (.t 0)), [], [], 1024⟩,
  ⟨(some 16), (some (14, true)), (.call 54 [(.t 15)]), [], [], 1088⟩,
  ⟨(some 17), (some (14, true)), (.bin .eql (.t 16) (.c (.int .i64 0))), [], [], 1152⟩,
  ⟨(some 18), none, (.pick (.t 14) (.t 17) (.c (.bool false))), [], [], 1216⟩]) (.cond (.t 18) .skip (.exit 0))) (.seq (.block 1 (.reg true [⟨(some 21), none, (.fad 2 (.t 3)), [], [], 1408⟩,
  ⟨(some 22), none, (.ld false 1 (.t 21)), [0], [0], 1472⟩,
  ⟨(some 23), none, (.mov (.t 0)), [], [], 1536⟩,
  ⟨(some 24), none, (.call 35 [(.t 23), (.c (.int .i64 1))]), [2], [2], 1600⟩,
  ⟨(some 25), none, (.toInt .i64 (.t 24)), [3], [3, 2], 1664⟩,
  ⟨(some 26), none, (.mov (.t 0)), [], [], 1728⟩,
  ⟨(some 27), none, (.call 58 [(.t 26), (.c (.int .i64 32))]), [5, 3], [5, 3, 2], 1792⟩,
  ⟨(some 28), none, (.mov (.t 0)), [], [], 1856⟩,
  ⟨(some 29), none, (.call 58 [(.t 28), (.c (.int .i64 64))]), [7, 6], [7, 6, 5, 3, 2], 1920⟩,
  ⟨(some 30), none, (.mk [(.int .i64 0), (.str []), (.str [])] [(0, (1, (.t 25))), (1, (1, (.t 27))), (2, (1, (.t 29)))]), [4, 6, 8], [4, 6, 8, 3, 2, 5, 7], 1984⟩,
  ⟨(some 31), none, (.mksl 3 1 [(.int .i64 0), (.str []), (.str [])] [(0, (3, (.t 30)))]), [9], [9, 4, 6, 8, 3, 2, 5, 7], 2048⟩,
  ⟨(some 32), none, (.app 3 40 (.t 22) (.t 31)), [1, 10, 8], [1, 10, 8, 0, 9, 4, 6, 3, 2, 5, 7], 2112⟩,
  ⟨(some 33), none, (.fad 2 (.t 3)), [0, 1, 2, 3, 4, 5, 6, 7, 8, 9, 10, 11], [0, 1, 2, 3, 4, 5, 6, 7, 8, 9, 10, 11], 2176⟩,
  ⟨none, none, (.st false 1 (.t 33) (.t 32)), [12, 11, 11, 0, 1, 2, 3, 4, 5, 6, 7, 8, 9, 10, 11], [12, 11, 0, 1, 2, 3, 4, 5, 6, 7, 8, 9, 10], 64⟩])) (.reg false [⟨(some 19), none, (.mov (.t 4)), [], [], 1280⟩,
  ⟨(some 20), none, (.bin .sub (.t 19) (.c (.int .i64 1))), [], [], 1344⟩,
  ⟨(some 4), none, (.mov (.t 20)), [], [], 320⟩])))
def ir60 : IFun := ⟨1, 46, [(.cell 2 true 3)], (.seq (.reg false [⟨(some 2), none, (.new [(.int .u64 0), (.int .u64 0), (.sl .nil 0 [])]), [], [], 192⟩]) (.seq (.reg false [⟨(some 5), none, (.mov (.t 0)), [], [], 384⟩,
  ⟨(some 6), none, (.call 35 [(.t 5), (.c (.int .i64 8))]), [], [], 448⟩,
  ⟨(some 7), none, (.mov (.t 0)), [], [], 512⟩,
  ⟨(some 8), none, (.call 35 [(.t 7), (.c (.int .i64 8))]), [], [], 576⟩,
  ⟨(some 9), none, (.mk [(.int .u64 0), (.int .u64 0), (.sl .nil 0 [])] [(0, (1, (.t 6))), (1, (1, (.t 8)))]), [], [], 640⟩,
  ⟨(some 3), none, (.new [(.int .u64 0), (.int .u64 0), (.sl .nil 0 [])]), [], [], 256⟩,
  ⟨none, none, (.st true 3 (.t 3) (.t 9)), [], [], 64⟩]) (.seq (.seq (.reg false [⟨(some 10), none, (.mov (.t 0)), [], [], 704⟩,
  ⟨(some 11), none, (.call 40 [(.t 10), (.c (.int .i64 8))]), [], [], 768⟩,
  ⟨(some 4), none, (.mov (.t 11)), [], [], 320⟩]) (.block 0 (.loop lp60_0))) (.seq (.seq (.reg false [⟨(some 34), none, (.mov (.t 0)), [], [], 2240⟩,
  ⟨(some 35), none, (.call 54 [(.t 34)]), [], [], 2304⟩,
  ⟨(some 36), none, (.bin .eql (.t 35) (.c (.int .i64 0))), [], [], 2368⟩]) (.cond (.t 36) (.reg false [⟨(some 37), none, (.mov (.t 0)), [], [], 2432⟩,
  ⟨(some 38), none, (.ld true 3 (.t 3)), [], [], 2496⟩,
  ⟨(some 39), none, (.call 20 [(.t 38)]), [], [], 2560⟩,
  ⟨(some 40), none, (.call 41 [(.t 37), (.t 39)]), [], [], 2624⟩]) .skip)) (.seq (.seq (.reg false [⟨(some 41), none, (.mov (.t 0)), [], [], 2688⟩,
  ⟨(some 42), none, (.call 54 [(.t 41)]), [], [], 2752⟩,
  ⟨(some 43), none, (.bin .neq (.t 42) (.c (.int .i64 0))), [], [], 2816⟩]) (.cond (.t 43) (.seq (.reg false [⟨(some 44), none, (.mk [(.int .u64 0), (.int .u64 0), (.sl .nil 0 [])] []), [], [], 2880⟩,
  ⟨none, none, (.st true 3 (.t 2) (.t 44)), [], [], 64⟩]) .ret) .skip)) (.seq (.reg false [⟨(some 45), none, (.ld true 3 (.t 3)), [], [], 2944⟩,
  ⟨none, none, (.st true 3 (.t 2) (.t 45)), [], [], 64⟩]) .ret))))))⟩
theorem ok60 : FnOk Try.prog 60 ir60 := ⟨Try.f60, 0, Try.func60, by kernel_rfl, by kernel_rfl⟩
/-- muniment/replica.takeMembers -/
def ir61 : IFun := ⟨1, 8, [(.tmp 2)], (.seq (.reg false [⟨(some 2), none, (.mov (.c (.sl .nil 0 []))), [], [], 192⟩]) (.seq (.seq (.reg false [⟨(some 3), none, (.mov (.t 0)), [], [], 256⟩,
  ⟨(some 4), none, (.call 56 [(.t 3)]), [], [], 320⟩,
  ⟨(some 5), none, (.un .not (.t 4)), [], [], 384⟩]) (.cond (.t 5) (.seq (.reg false [⟨(some 2), none, (.mov (.c (.sl .nil 0 []))), [], [], 192⟩]) .ret) .skip)) (.seq (.reg false [⟨(some 6), none, (.mov (.t 0)), [], [], 448⟩,
  ⟨(some 7), none, (.call 59 [(.t 6)]), [], [], 512⟩,
  ⟨(some 2), none, (.mov (.t 7)), [], [], 192⟩]) .ret)))⟩
theorem ok61 : FnOk Try.prog 61 ir61 := ⟨Try.f61, 0, Try.func61, by kernel_rfl, by kernel_rfl⟩
/-- muniment/replica.TakeProof -/
def lp62_0 : IC := (.seq (.seq (.reg false [⟨(some 7), none, (.mov (.t 4)), [], [], 512⟩,
  ⟨(some 8), none, (.bin .gtr (.t 7) (.c (.int .i64 0))), [], [], 576⟩,
  ⟨(some 9), none, (.mov (.t 8)), [], [], 640⟩,
  ⟨(some 10), (some (9, true)), (.mov (.t 0)), [], [], 704⟩,
  ⟨(some 11), (some (9, true)), (.call 54 [(.t 10)]), [], [], 768⟩,
  ⟨(some 12), (some (9, true)), (.bin .eql (.t 11) (.c (.int .i64 0))), [], [], 832⟩,
  ⟨(some 13), none, (.pick (.t 9) (.t 12) (.c (.bool false))), [], [], 896⟩]) (.cond (.t 13) .skip (.exit 0))) (.seq (.block 1 (.reg true [⟨(some 16), none, (.fad 0 (.t 3)), [], [], 1088⟩,
  ⟨(some 17), none, (.ld false 1 (.t 16)), [0], [0], 1152⟩,
  ⟨(some 18), none, (.mov (.t 0)), [], [], 1216⟩,
  ⟨(some 19), none, (.call 37 [(.t 18)]), [2], [2], 1280⟩,
  ⟨(some 20), none, (.mksl 1 1 [(.str [])] [(0, (1, (.t 19)))]), [3], [3, 2], 1344⟩,
  ⟨(some 21), none, (.app 1 16 (.t 17) (.t 20)), [1, 4, 3], [1, 4, 3, 0, 2], 1408⟩,
  ⟨(some 22), none, (.fad 0 (.t 3)), [0, 1, 2, 3, 4, 5], [0, 1, 2, 3, 4, 5], 1472⟩,
  ⟨none, none, (.st false 1 (.t 22) (.t 21)), [6, 5, 5, 0, 1, 2, 3, 4, 5], [6, 5, 0, 1, 2, 3, 4], 64⟩])) (.reg false [⟨(some 14), none, (.mov (.t 4)), [], [], 960⟩,
  ⟨(some 15), none, (.bin .sub (.t 14) (.c (.int .i64 1))), [], [], 1024⟩,
  ⟨(some 4), none, (.mov (.t 15)), [], [], 320⟩])))
def ir62 : IFun := ⟨1, 39, [(.cell 2 true 4)], (.seq (.reg false [⟨(some 2), none, (.new [(.sl .nil 0 []), (.bool false), (.str []), (.str [])]), [], [], 192⟩]) (.seq (.reg false [⟨(some 3), none, (.new [(.sl .nil 0 []), (.bool false), (.str []), (.str [])]), [], [], 256⟩]) (.seq (.seq (.reg false [⟨(some 5), none, (.mov (.t 0)), [], [], 384⟩,
  ⟨(some 6), none, (.call 40 [(.t 5), (.c (.int .i64 256))]), [], [], 448⟩,
  ⟨(some 4), none, (.mov (.t 6)), [], [], 320⟩]) (.block 0 (.loop lp62_0))) (.seq (.seq (.reg false [⟨(some 23), none, (.mov (.t 0)), [], [], 1536⟩,
  ⟨(some 24), none, (.call 56 [(.t 23)]), [], [], 1600⟩,
  ⟨(some 25), none, (.fad 1 (.t 3)), [], [], 1664⟩,
  ⟨none, none, (.st false 1 (.t 25) (.t 24)), [], [], 64⟩]) (.seq (.reg false [⟨(some 26), none, (.fad 1 (.t 3)), [], [], 1728⟩,
  ⟨(some 27), none, (.ld false 1 (.t 26)), [], [], 1792⟩]) (.cond (.t 27) (.reg false [⟨(some 28), none, (.mov (.t 0)), [], [], 1856⟩,
  ⟨(some 29), none, (.call 37 [(.t 28)]), [], [], 1920⟩,
  ⟨(some 30), none, (.mov (.t 0)), [], [], 1984⟩,
  ⟨(some 31), none, (.call 37 [(.t 30)]), [], [], 2048⟩,
  ⟨(some 32), none, (.mk [(.str []), (.str [])] [(0, (1, (.t 29))), (1, (1, (.t 31)))]), [], [], 2112⟩,
  ⟨(some 33), none, (.fad 2 (.t 3)), [], [], 2176⟩,
  ⟨none, none, (.st true 2 (.t 33) (.t 32)), [], [], 64⟩]) .skip))) (.seq (.seq (.reg false [⟨(some 34), none, (.mov (.t 0)), [], [], 2240⟩,
  ⟨(some 35), none, (.call 54 [(.t 34)]), [], [], 2304⟩,
  ⟨(some 36), none, (.bin .neq (.t 35) (.c (.int .i64 0))), [], [], 2368⟩]) (.cond (.t 36) (.seq (.reg false [⟨(some 37), none, (.mk [(.sl .nil 0 []), (.bool false), (.str []), (.str [])] []), [], [], 2432⟩,
  ⟨none, none, (.st true 4 (.t 2) (.t 37)), [], [], 64⟩]) .ret) .skip)) (.seq (.reg false [⟨(some 38), none, (.ld true 4 (.t 3)), [], [], 2496⟩,
  ⟨none, none, (.st true 4 (.t 2) (.t 38)), [], [], 64⟩]) .ret))))))⟩
theorem ok62 : FnOk Try.prog 62 ir62 := ⟨Try.f62, 0, Try.func62, by kernel_rfl, by kernel_rfl⟩
/-- muniment/head.Take -/
def ir63 : IFun := ⟨1, 27, [(.cell 2 true 5)], (.seq (.reg false [⟨(some 2), none, (.new [(.int .u64 0), (.str []), (.str []), (.str []), (.sl .nil 0 [])]), [], [], 192⟩]) (.seq (.reg false [⟨(some 4), none, (.mov (.t 0)), [], [], 320⟩,
  ⟨(some 5), none, (.call 35 [(.t 4), (.c (.int .i64 8))]), [], [], 384⟩,
  ⟨(some 6), none, (.mov (.t 0)), [], [], 448⟩,
  ⟨(some 7), none, (.call 37 [(.t 6)]), [], [], 512⟩,
  ⟨(some 8), none, (.mov (.t 0)), [], [], 576⟩,
  ⟨(some 9), none, (.call 37 [(.t 8)]), [], [], 640⟩,
  ⟨(some 10), none, (.mov (.t 0)), [], [], 704⟩,
  ⟨(some 11), none, (.call 37 [(.t 10)]), [], [], 768⟩,
  ⟨(some 12), none, (.mov (.t 0)), [], [], 832⟩,
  ⟨(some 13), none, (.call 59 [(.t 12)]), [], [], 896⟩,
  ⟨(some 14), none, (.mk [(.int .u64 0), (.str []), (.str []), (.str []), (.sl .nil 0 [])] [(0, (1, (.t 5))), (1, (1, (.t 7))), (2, (1, (.t 9))), (3, (1, (.t 11))), (4, (1, (.t 13)))]), [], [], 960⟩,
  ⟨(some 3), none, (.new [(.int .u64 0), (.str []), (.str []), (.str []), (.sl .nil 0 [])]), [], [], 256⟩,
  ⟨none, none, (.st true 5 (.t 3) (.t 14)), [], [], 64⟩]) (.seq (.seq (.reg false [⟨(some 15), none, (.mov (.t 0)), [], [], 1024⟩,
  ⟨(some 16), none, (.call 54 [(.t 15)]), [], [], 1088⟩,
  ⟨(some 17), none, (.bin .eql (.t 16) (.c (.int .i64 0))), [], [], 1152⟩]) (.cond (.t 17) (.reg false [⟨(some 18), none, (.mov (.t 0)), [], [], 1216⟩,
  ⟨(some 19), none, (.ld true 5 (.t 3)), [], [], 1280⟩,
  ⟨(some 20), none, (.call 76 [(.t 19)]), [], [], 1344⟩,
  ⟨(some 21), none, (.call 41 [(.t 18), (.t 20)]), [], [], 1408⟩]) .skip)) (.seq (.seq (.reg false [⟨(some 22), none, (.mov (.t 0)), [], [], 1472⟩,
  ⟨(some 23), none, (.call 54 [(.t 22)]), [], [], 1536⟩,
  ⟨(some 24), none, (.bin .neq (.t 23) (.c (.int .i64 0))), [], [], 1600⟩]) (.cond (.t 24) (.seq (.reg false [⟨(some 25), none, (.mk [(.int .u64 0), (.str []), (.str []), (.str []), (.sl .nil 0 [])] []), [], [], 1664⟩,
  ⟨none, none, (.st true 5 (.t 2) (.t 25)), [], [], 64⟩]) .ret) .skip)) (.seq (.reg false [⟨(some 26), none, (.ld true 5 (.t 3)), [], [], 1728⟩,
  ⟨none, none, (.st true 5 (.t 2) (.t 26)), [], [], 64⟩]) .ret)))))⟩
theorem ok63 : FnOk Try.prog 63 ir63 := ⟨Try.f63, 0, Try.func63, by kernel_rfl, by kernel_rfl⟩
/-- muniment/cert.Take -/
def lp64_0 : IC := (.seq (.seq (.reg false [⟨(some 8), none, (.mov (.t 4)), [], [], 576⟩,
  ⟨(some 9), none, (.bin .gtr (.t 8) (.c (.int .u64 0))), [], [], 640⟩,
  ⟨(some 10), none, (.mov (.t 9)), [], [], 704⟩,
  ⟨(some 11), (some (10, true)), (.mov (.t 0)), [], [], 768⟩,
  ⟨(some 12), (some (10, true)), (.call 54 [(.t 11)]), [], [], 832⟩,
  ⟨(some 13), (some (10, true)), (.bin .eql (.t 12) (.c (.int .i64 0))), [], [], 896⟩,
  ⟨(some 14), none, (.pick (.t 10) (.t 13) (.c (.bool false))), [], [], 960⟩]) (.cond (.t 14) .skip (.exit 0))) (.seq (.block 1 (.seq (.reg false [⟨(some 17), none, (.mov (.t 0)), [], [], 1152⟩,
  ⟨(some 18), none, (.call 35 [(.t 17), (.c (.int .i64 1))]), [], [], 1216⟩,
  ⟨(some 19), none, (.toInt .i64 (.t 18)), [], [], 1280⟩,
  ⟨(some 20), none, (.mov (.t 0)), [], [], 1344⟩,
  ⟨(some 21), none, (.call 37 [(.t 20)]), [], [], 1408⟩,
  ⟨(some 22), none, (.mk [(.int .i64 0), (.str [])] [(0, (1, (.t 19))), (1, (1, (.t 21)))]), [], [], 1472⟩,
  ⟨(some 5), none, (.new [(.int .i64 0), (.str [])]), [], [], 384⟩,
  ⟨none, none, (.st true 2 (.t 5) (.t 22)), [], [], 64⟩]) (.seq (.seq (.reg true [⟨(some 23), none, (.mov (.t 0)), [], [], 1536⟩,
  ⟨(some 24), none, (.call 54 [(.t 23)]), [0], [0], 1600⟩,
  ⟨(some 25), none, (.bin .eql (.t 24) (.c (.int .i64 0))), [1], [1, 0], 1664⟩,
  ⟨(some 26), none, (.mov (.t 25)), [2, 1], [2, 1, 0], 1728⟩,
  ⟨(some 27), (some (26, true)), (.fad 0 (.t 5)), [3], [3, 2, 1, 0], 1792⟩,
  ⟨(some 28), (some (26, true)), (.ld false 1 (.t 27)), [4, 3], [4, 3, 2, 1, 0], 1856⟩,
  ⟨(some 29), (some (26, true)), (.bin .geq (.t 28) (.c (.int .i64 16))), [5, 3], [5, 3, 4, 2, 1, 0], 1920⟩,
  ⟨(some 30), (some (26, true)), (.mov (.t 29)), [6, 3, 3], [6, 3, 5, 4, 2, 1, 0], 1984⟩,
  ⟨(some 31), (some (30, false)), (.fad 0 (.t 3)), [7], [7, 6, 3, 5, 4, 2, 1, 0], 2048⟩,
  ⟨(some 32), (some (30, false)), (.ld false 1 (.t 31)), [8, 7], [8, 7, 6, 3, 5, 4, 2, 1, 0], 2112⟩,
  ⟨(some 33), (some (30, false)), (.len false (.t 32)), [9, 7], [9, 7, 8, 6, 3, 5, 4, 2, 1, 0], 2176⟩,
  ⟨(some 34), (some (30, false)), (.bin .gtr (.t 33) (.c (.int .i64 0))), [10, 7], [10, 7, 9, 8, 6, 3, 5, 4, 2, 1, 0], 2240⟩,
  ⟨(some 35), (some (30, false)), (.mov (.t 34)), [11, 7, 7], [11, 7, 10, 9, 8, 6, 3, 5, 4, 2, 1, 0], 2304⟩,
  ⟨(some 36), (some (35, true)), (.fad 0 (.t 3)), [12], [12, 11, 7, 10, 9, 8, 6, 3, 5, 4, 2, 1, 0], 2368⟩,
  ⟨(some 37), (some (35, true)), (.ld false 1 (.t 36)), [13, 12], [13, 12, 11, 7, 10, 9, 8, 6, 3, 5, 4, 2, 1, 0], 2432⟩,
  ⟨(some 38), (some (35, true)), (.fad 0 (.t 3)), [12], [12, 11, 7, 10, 9, 8, 6, 3, 5, 4, 2, 1, 0], 2496⟩,
  ⟨(some 39), (some (35, true)), (.ld false 1 (.t 38)), [15, 12], [15, 12, 11, 7, 10, 9, 8, 6, 3, 5, 4, 2, 1, 0], 2560⟩,
  ⟨(some 40), (some (35, true)), (.len false (.t 39)), [16, 12], [16, 12, 15, 11, 7, 10, 9, 8, 6, 3, 5, 4, 2, 1, 0], 2624⟩,
  ⟨(some 41), (some (35, true)), (.bin .sub (.t 40) (.c (.int .i64 1))), [17, 12], [17, 12, 16, 15, 11, 7, 10, 9, 8, 6, 3, 5, 4, 2, 1, 0], 2688⟩,
  ⟨(some 42), (some (35, true)), (.iaL 2 (.t 37) (.t 41)), [14, 18, 12], [14, 18, 12, 13, 11, 7, 10, 9, 8, 6, 3, 5, 4, 2, 1, 0, 17, 16, 15], 2752⟩,
  ⟨(some 43), (some (35, true)), (.fad 0 (.t 42)), [19, 12], [19, 12, 14, 18, 13, 11, 7, 10, 9, 8, 6, 3, 5, 4, 2, 1, 0, 17, 16, 15], 2816⟩,
  ⟨(some 44), (some (35, true)), (.ld false 1 (.t 43)), [20, 12], [20, 12, 19, 14, 18, 13, 11, 7, 10, 9, 8, 6, 3, 5, 4, 2, 1, 0, 17, 16, 15], 2880⟩,
  ⟨(some 45), (some (35, true)), (.fad 0 (.t 5)), [12], [12, 11, 7, 10, 9, 8, 6, 3, 5, 4, 2, 1, 0], 2944⟩,
  ⟨(some 46), (some (35, true)), (.ld false 1 (.t 45)), [22, 12], [22, 12, 11, 7, 10, 9, 8, 6, 3, 5, 4, 2, 1, 0], 3008⟩,
  ⟨(some 47), (some (35, true)), (.bin .geq (.t 44) (.t 46)), [21, 23, 12], [21, 23, 12, 20, 19, 14, 18, 13, 11, 7, 10, 9, 8, 6, 3, 5, 4, 2, 1, 0, 17, 16, 15, 22], 3072⟩,
  ⟨(some 48), (some (30, false)), (.pick (.t 35) (.t 47) (.c (.bool false))), [12, 24, 7], [12, 24, 7, 11, 10, 9, 8, 6, 3, 5, 4, 2, 1, 0, 21, 23, 20, 19, 14, 18, 13, 17, 16, 15, 22], 3136⟩,
  ⟨(some 49), (some (26, true)), (.pick (.t 30) (.c (.bool true)) (.t 48)), [7, 25, 3], [7, 25, 3, 6, 5, 4, 2, 1, 0, 12, 24, 11, 10, 9, 8, 21, 23, 20, 19, 14, 18, 13, 17, 16, 15, 22], 3200⟩,
  ⟨(some 50), none, (.pick (.t 26) (.t 49) (.c (.bool false))), [3, 26], [3, 26, 2, 1, 0, 7, 25, 6, 5, 4, 12, 24, 11, 10, 9, 8, 21, 23, 20, 19, 14, 18, 13, 17, 16, 15, 22], 3264⟩]) (.cond (.t 50) (.reg false [⟨(some 51), none, (.mov (.t 0)), [], [], 3328⟩,
  ⟨(some 52), none, (.call 41 [(.t 51), (.c (.int .i64 6))]), [], [], 3392⟩]) .skip)) (.reg false [⟨(some 53), none, (.fad 0 (.t 3)), [], [], 3456⟩,
  ⟨(some 54), none, (.ld false 1 (.t 53)), [], [], 3520⟩,
  ⟨(some 55), none, (.ld true 2 (.t 5)), [], [], 3584⟩,
  ⟨(some 56), none, (.mksl 2 1 [(.int .i64 0), (.str [])] [(0, (2, (.t 55)))]), [], [], 3648⟩,
  ⟨(some 57), none, (.app 2 24 (.t 54) (.t 56)), [], [], 3712⟩,
  ⟨(some 58), none, (.fad 0 (.t 3)), [], [], 3776⟩,
  ⟨none, none, (.st false 1 (.t 58) (.t 57)), [], [], 64⟩])))) (.reg false [⟨(some 15), none, (.mov (.t 4)), [], [], 1024⟩,
  ⟨(some 16), none, (.bin .sub (.t 15) (.c (.int .u64 1))), [], [], 1088⟩,
  ⟨(some 4), none, (.mov (.t 16)), [], [], 320⟩])))
def ir64 : IFun := ⟨1, 64, [(.cell 2 true 1)], (.seq (.reg false [⟨(some 2), none, (.new [(.sl .nil 0 [])]), [], [], 192⟩]) (.seq (.reg false [⟨(some 3), none, (.new [(.sl .nil 0 [])]), [], [], 256⟩]) (.seq (.seq (.reg false [⟨(some 6), none, (.mov (.t 0)), [], [], 448⟩,
  ⟨(some 7), none, (.call 35 [(.t 6), (.c (.int .i64 1))]), [], [], 512⟩,
  ⟨(some 4), none, (.mov (.t 7)), [], [], 320⟩]) (.block 0 (.loop lp64_0))) (.seq (.seq (.reg false [⟨(some 59), none, (.mov (.t 0)), [], [], 3840⟩,
  ⟨(some 60), none, (.call 54 [(.t 59)]), [], [], 3904⟩,
  ⟨(some 61), none, (.bin .neq (.t 60) (.c (.int .i64 0))), [], [], 3968⟩]) (.cond (.t 61) (.seq (.reg false [⟨(some 62), none, (.mk [(.sl .nil 0 [])] []), [], [], 4032⟩,
  ⟨none, none, (.st true 1 (.t 2) (.t 62)), [], [], 64⟩]) .ret) .skip)) (.seq (.reg false [⟨(some 63), none, (.ld true 1 (.t 3)), [], [], 4096⟩,
  ⟨none, none, (.st true 1 (.t 2) (.t 63)), [], [], 64⟩]) .ret)))))⟩
theorem ok64 : FnOk Try.prog 64 ir64 := ⟨Try.f64, 0, Try.func64, by kernel_rfl, by kernel_rfl⟩
/-- (*muniment/wire.Reader).At -/
def ir65 : IFun := ⟨1, 9, [(.tmp 2)], (.seq (.reg false [⟨(some 2), none, (.mov (.c (.int .i64 0))), [], [], 192⟩]) (.seq (.seq (.reg false [⟨(some 3), none, (.mov (.t 0)), [], [], 256⟩,
  ⟨(some 4), none, (.eqn false .ptr (.t 3) (.c .nilp)), [], [], 320⟩]) (.cond (.t 4) (.seq (.reg false [⟨(some 2), none, (.mov (.c (.int .i64 0))), [], [], 192⟩]) .ret) .skip)) (.seq (.reg false [⟨(some 5), none, (.mov (.t 0)), [], [], 384⟩,
  ⟨(some 6), none, (.chk (.t 5)), [], [], 448⟩,
  ⟨(some 7), none, (.fad 1 (.t 6)), [], [], 512⟩,
  ⟨(some 8), none, (.ld false 1 (.t 7)), [], [], 576⟩,
  ⟨(some 2), none, (.mov (.t 8)), [], [], 192⟩]) .ret)))⟩
theorem ok65 : FnOk Try.prog 65 ir65 := ⟨Try.f65, 0, Try.func65, by kernel_rfl, by kernel_rfl⟩
/-- (*muniment/wire.Reader).Left -/
def ir66 : IFun := ⟨1, 15, [(.tmp 2)], (.seq (.reg false [⟨(some 2), none, (.mov (.c (.int .i64 0))), [], [], 192⟩]) (.seq (.seq (.reg false [⟨(some 3), none, (.mov (.t 0)), [], [], 256⟩,
  ⟨(some 4), none, (.eqn false .ptr (.t 3) (.c .nilp)), [], [], 320⟩]) (.cond (.t 4) (.seq (.reg false [⟨(some 2), none, (.mov (.c (.int .i64 0))), [], [], 192⟩]) .ret) .skip)) (.seq (.reg true [⟨(some 5), none, (.mov (.t 0)), [], [], 384⟩,
  ⟨(some 6), none, (.chk (.t 5)), [0], [0], 448⟩,
  ⟨(some 7), none, (.fad 0 (.t 6)), [1], [1, 0], 512⟩,
  ⟨(some 8), none, (.ld false 1 (.t 7)), [2], [2, 1, 0], 576⟩,
  ⟨(some 9), none, (.len true (.t 8)), [3], [3, 2, 1, 0], 640⟩,
  ⟨(some 10), none, (.mov (.t 0)), [], [], 704⟩,
  ⟨(some 11), none, (.chk (.t 10)), [5], [5], 768⟩,
  ⟨(some 12), none, (.fad 1 (.t 11)), [6], [6, 5], 832⟩,
  ⟨(some 13), none, (.ld false 1 (.t 12)), [7], [7, 6, 5], 896⟩,
  ⟨(some 14), none, (.bin .sub (.t 9) (.t 13)), [4, 8], [4, 8, 3, 2, 1, 0, 7, 6, 5], 960⟩,
  ⟨(some 2), none, (.mov (.t 14)), [9, 0, 1, 2, 3, 4, 5, 6, 7, 8, 9], [9, 0, 1, 2, 3, 4, 5, 6, 7, 8], 192⟩]) .ret)))⟩
theorem ok66 : FnOk Try.prog 66 ir66 := ⟨Try.f66, 0, Try.func66, by kernel_rfl, by kernel_rfl⟩
/-- (*muniment/wire.Writer).Bytes -/
def ir67 : IFun := ⟨2, 15, [], (.seq (.reg false [⟨(some 4), none, (.mov (.t 0)), [], [], 320⟩,
  ⟨(some 5), none, (.eqn true .ptr (.t 4) (.c .nilp)), [], [], 384⟩]) (.cond (.t 5) (.reg false [⟨(some 6), none, (.mov (.t 0)), [], [], 448⟩,
  ⟨(some 7), none, (.mov (.t 0)), [], [], 512⟩,
  ⟨(some 8), none, (.chk (.t 7)), [], [], 576⟩,
  ⟨(some 9), none, (.fad 0 (.t 8)), [], [], 640⟩,
  ⟨(some 10), none, (.ld false 1 (.t 9)), [], [], 704⟩,
  ⟨(some 11), none, (.mov (.t 1)), [], [], 768⟩,
  ⟨(some 12), none, (.app 1 1 (.t 10) (.t 11)), [], [], 832⟩,
  ⟨(some 13), none, (.chk (.t 6)), [], [], 896⟩,
  ⟨(some 14), none, (.fad 0 (.t 13)), [], [], 960⟩,
  ⟨none, none, (.st false 1 (.t 14) (.t 12)), [], [], 64⟩]) .skip))⟩
theorem ok67 : FnOk Try.prog 67 ir67 := ⟨Try.f67, 0, Try.func67, by kernel_rfl, by kernel_rfl⟩
/-- muniment/wire.Number -/
def lp68_0 : IC := (.seq (.reg false [⟨(some 11), none, (.bin .lss (.t 10) (.t 9)), [], [], 768⟩]) (.seq (.cond (.t 11) .skip (.exit 0)) (.seq (.block 1 (.seq (.reg false [⟨(some 12), none, (.mov (.t 10)), [], [], 832⟩,
  ⟨(some 6), none, (.mov (.t 12)), [], [], 448⟩]) (.reg false [⟨(some 13), none, (.mov (.t 5)), [], [], 896⟩,
  ⟨(some 14), none, (.mov (.t 0)), [], [], 960⟩,
  ⟨(some 15), none, (.mov (.t 1)), [], [], 1024⟩,
  ⟨(some 16), none, (.mm false (.t 15) (.c (.int .i64 8))), [], [], 1088⟩,
  ⟨(some 17), none, (.bin .sub (.t 16) (.c (.int .i64 1))), [], [], 1152⟩,
  ⟨(some 18), none, (.mov (.t 6)), [], [], 1216⟩,
  ⟨(some 19), none, (.bin .sub (.t 17) (.t 18)), [], [], 1280⟩,
  ⟨(some 20), none, (.bin .mul (.c (.int .i64 8)) (.t 19)), [], [], 1344⟩,
  ⟨(some 21), none, (.bin .shr (.t 14) (.t 20)), [], [], 1408⟩,
  ⟨(some 22), none, (.toInt .u8 (.t 21)), [], [], 1472⟩,
  ⟨(some 23), none, (.mksl 1 1 [(.int .u8 0)] [(0, (1, (.t 22)))]), [], [], 1536⟩,
  ⟨(some 24), none, (.app 1 1 (.t 13) (.t 23)), [], [], 1600⟩,
  ⟨(some 5), none, (.mov (.t 24)), [], [], 384⟩]))) (.reg false [⟨(some 25), none, (.bin .add (.t 10) (.c (.int .i64 1))), [], [], 1664⟩,
  ⟨(some 10), none, (.mov (.t 25)), [], [], 704⟩]))))
def ir68 : IFun := ⟨2, 28, [(.tmp 4)], (.seq (.reg false [⟨(some 4), none, (.mov (.c (.str []))), [], [], 320⟩]) (.seq (.reg false [⟨(some 5), none, (.mov (.c (.sl .nil 0 []))), [], [], 384⟩]) (.seq (.seq (.reg false [⟨(some 7), none, (.mov (.t 1)), [], [], 512⟩,
  ⟨(some 8), none, (.mm true (.t 7) (.c (.int .i64 0))), [], [], 576⟩,
  ⟨(some 9), none, (.mm false (.t 8) (.c (.int .i64 8))), [], [], 640⟩,
  ⟨(some 10), none, (.mov (.c (.int .i64 0))), [], [], 704⟩]) (.block 0 (.loop lp68_0))) (.seq (.reg false [⟨(some 26), none, (.mov (.t 5)), [], [], 1728⟩,
  ⟨(some 27), none, (.toStr (.t 26)), [], [], 1792⟩,
  ⟨(some 4), none, (.mov (.t 27)), [], [], 320⟩]) .ret))))⟩
theorem ok68 : FnOk Try.prog 68 ir68 := ⟨Try.f68, 0, Try.func68, by kernel_rfl, by kernel_rfl⟩
/-- (*muniment/wire.Writer).Bool -/
def ir69 : IFun := ⟨2, 9, [], (.seq (.reg false [⟨(some 4), none, (.mov (.c (.int .u64 0))), [], [], 320⟩]) (.seq (.seq (.reg false [⟨(some 5), none, (.mov (.t 1)), [], [], 384⟩]) (.cond (.t 5) (.reg false [⟨(some 4), none, (.mov (.c (.int .u64 1))), [], [], 320⟩]) .skip)) (.reg false [⟨(some 6), none, (.mov (.t 0)), [], [], 448⟩,
  ⟨(some 7), none, (.mov (.t 4)), [], [], 512⟩,
  ⟨(some 8), none, (.call 44 [(.t 6), (.t 7), (.c (.int .i64 1))]), [], [], 576⟩])))⟩
theorem ok69 : FnOk Try.prog 69 ir69 := ⟨Try.f69, 0, Try.func69, by kernel_rfl, by kernel_rfl⟩
/-- muniment/raft.PutEntry -/
def ir70 : IFun := ⟨2, 22, [], (.seq (.reg false [⟨(some 3), none, (.box 4 (.t 1)), [], [], 256⟩]) (.seq (.reg false [⟨(some 4), none, (.mov (.t 0)), [], [], 320⟩,
  ⟨(some 5), none, (.fad 0 (.t 3)), [], [], 384⟩,
  ⟨(some 6), none, (.ld false 1 (.t 5)), [], [], 448⟩,
  ⟨(some 7), none, (.call 49 [(.t 4), (.t 6)]), [], [], 512⟩]) (.seq (.reg false [⟨(some 8), none, (.mov (.t 0)), [], [], 576⟩,
  ⟨(some 9), none, (.fad 2 (.t 3)), [], [], 640⟩,
  ⟨(some 10), none, (.ld false 1 (.t 9)), [], [], 704⟩,
  ⟨(some 11), none, (.call 69 [(.t 8), (.t 10)]), [], [], 768⟩]) (.seq (.seq (.reg false [⟨(some 12), none, (.fad 2 (.t 3)), [], [], 832⟩,
  ⟨(some 13), none, (.ld false 1 (.t 12)), [], [], 896⟩]) (.cond (.t 13) (.seq (.reg false [⟨(some 14), none, (.mov (.t 0)), [], [], 960⟩,
  ⟨(some 15), none, (.fad 3 (.t 3)), [], [], 1024⟩,
  ⟨(some 16), none, (.ld false 1 (.t 15)), [], [], 1088⟩,
  ⟨(some 17), none, (.call 72 [(.t 14), (.t 16)]), [], [], 1152⟩]) .ret) .skip)) (.reg false [⟨(some 18), none, (.mov (.t 0)), [], [], 1216⟩,
  ⟨(some 19), none, (.fad 1 (.t 3)), [], [], 1280⟩,
  ⟨(some 20), none, (.ld false 1 (.t 19)), [], [], 1344⟩,
  ⟨(some 21), none, (.call 71 [(.t 18), (.t 20)]), [], [], 1408⟩])))))⟩
theorem ok70 : FnOk Try.prog 70 ir70 := ⟨Try.f70, 0, Try.func70, by kernel_rfl, by kernel_rfl⟩
/-- (*muniment/wire.Writer).Text -/
def ir71 : IFun := ⟨2, 11, [], (.seq (.reg false [⟨(some 4), none, (.mov (.t 0)), [], [], 320⟩,
  ⟨(some 5), none, (.mov (.t 1)), [], [], 384⟩,
  ⟨(some 6), none, (.len true (.t 5)), [], [], 448⟩,
  ⟨(some 7), none, (.call 49 [(.t 4), (.t 6)]), [], [], 512⟩]) (.reg false [⟨(some 8), none, (.mov (.t 0)), [], [], 576⟩,
  ⟨(some 9), none, (.mov (.t 1)), [], [], 640⟩,
  ⟨(some 10), none, (.call 67 [(.t 8), (.t 9)]), [], [], 704⟩]))⟩
theorem ok71 : FnOk Try.prog 71 ir71 := ⟨Try.f71, 0, Try.func71, by kernel_rfl, by kernel_rfl⟩
/-- muniment/head.PutMembers -/
def lp72_0 : IC := (.seq (.reg false [⟨(some 14), none, (.bin .lss (.t 13) (.t 12)), [], [], 960⟩]) (.seq (.cond (.t 14) .skip (.exit 0)) (.seq (.block 1 (.seq (.reg false [⟨(some 15), none, (.iaL 1 (.t 11) (.t 13)), [], [], 1024⟩,
  ⟨(some 16), none, (.ld false 1 (.t 15)), [], [], 1088⟩,
  ⟨(some 5), none, (.mov (.t 16)), [], [], 384⟩]) (.reg false [⟨(some 17), none, (.mov (.t 0)), [], [], 1152⟩,
  ⟨(some 18), none, (.mov (.t 5)), [], [], 1216⟩,
  ⟨(some 19), none, (.toInt .u64 (.t 18)), [], [], 1280⟩,
  ⟨(some 20), none, (.call 44 [(.t 17), (.t 19), (.c (.int .i64 1))]), [], [], 1344⟩]))) (.reg false [⟨(some 21), none, (.bin .add (.t 13) (.c (.int .i64 1))), [], [], 1408⟩,
  ⟨(some 13), none, (.mov (.t 21)), [], [], 896⟩]))))
def ir72 : IFun := ⟨2, 22, [], (.seq (.reg false [⟨(some 6), none, (.mov (.t 0)), [], [], 448⟩,
  ⟨(some 7), none, (.mov (.t 1)), [], [], 512⟩,
  ⟨(some 8), none, (.len false (.t 7)), [], [], 576⟩,
  ⟨(some 9), none, (.toInt .u64 (.t 8)), [], [], 640⟩,
  ⟨(some 10), none, (.call 44 [(.t 6), (.t 9), (.c (.int .i64 1))]), [], [], 704⟩]) (.seq (.reg false [⟨(some 11), none, (.mov (.t 1)), [], [], 768⟩,
  ⟨(some 12), none, (.len false (.t 11)), [], [], 832⟩,
  ⟨(some 13), none, (.mov (.c (.int .i64 0))), [], [], 896⟩]) (.block 0 (.loop lp72_0))))⟩
theorem ok72 : FnOk Try.prog 72 ir72 := ⟨Try.f72, 0, Try.func72, by kernel_rfl, by kernel_rfl⟩
/-- muniment/tx.Put -/
def lp73_0 : IC := (.seq (.reg false [⟨(some 23), none, (.bin .lss (.t 22) (.t 21)), [], [], 1536⟩]) (.seq (.cond (.t 23) .skip (.exit 0)) (.seq (.block 1 (.seq (.reg false [⟨(some 24), none, (.iaL 3 (.t 20) (.t 22)), [], [], 1600⟩,
  ⟨(some 25), none, (.ld true 3 (.t 24)), [], [], 1664⟩,
  ⟨(some 5), none, (.new [(.int .i64 0), (.str []), (.str [])]), [], [], 384⟩,
  ⟨none, none, (.st true 3 (.t 5) (.t 25)), [], [], 64⟩]) (.seq (.reg false [⟨(some 26), none, (.mov (.t 0)), [], [], 1728⟩,
  ⟨(some 27), none, (.fad 0 (.t 5)), [], [], 1792⟩,
  ⟨(some 28), none, (.ld false 1 (.t 27)), [], [], 1856⟩,
  ⟨(some 29), none, (.toInt .u64 (.t 28)), [], [], 1920⟩,
  ⟨(some 30), none, (.call 44 [(.t 26), (.t 29), (.c (.int .i64 1))]), [], [], 1984⟩]) (.seq (.reg false [⟨(some 31), none, (.mov (.t 0)), [], [], 2048⟩,
  ⟨(some 32), none, (.fad 1 (.t 5)), [], [], 2112⟩,
  ⟨(some 33), none, (.ld false 1 (.t 32)), [], [], 2176⟩,
  ⟨(some 34), none, (.call 71 [(.t 31), (.t 33)]), [], [], 2240⟩]) (.reg false [⟨(some 35), none, (.mov (.t 0)), [], [], 2304⟩,
  ⟨(some 36), none, (.fad 2 (.t 5)), [], [], 2368⟩,
  ⟨(some 37), none, (.ld false 1 (.t 36)), [], [], 2432⟩,
  ⟨(some 38), none, (.call 71 [(.t 35), (.t 37)]), [], [], 2496⟩]))))) (.reg false [⟨(some 39), none, (.bin .add (.t 22) (.c (.int .i64 1))), [], [], 2560⟩,
  ⟨(some 22), none, (.mov (.t 39)), [], [], 1472⟩]))))
def ir73 : IFun := ⟨2, 40, [], (.seq (.reg false [⟨(some 3), none, (.box 3 (.t 1)), [], [], 256⟩]) (.seq (.reg false [⟨(some 6), none, (.mov (.t 0)), [], [], 448⟩,
  ⟨(some 7), none, (.fad 0 (.t 3)), [], [], 512⟩,
  ⟨(some 8), none, (.ld false 1 (.t 7)), [], [], 576⟩,
  ⟨(some 9), none, (.call 44 [(.t 6), (.t 8), (.c (.int .i64 8))]), [], [], 640⟩]) (.seq (.reg false [⟨(some 10), none, (.mov (.t 0)), [], [], 704⟩,
  ⟨(some 11), none, (.fad 1 (.t 3)), [], [], 768⟩,
  ⟨(some 12), none, (.ld false 1 (.t 11)), [], [], 832⟩,
  ⟨(some 13), none, (.call 44 [(.t 10), (.t 12), (.c (.int .i64 8))]), [], [], 896⟩]) (.seq (.reg false [⟨(some 14), none, (.mov (.t 0)), [], [], 960⟩,
  ⟨(some 15), none, (.fad 2 (.t 3)), [], [], 1024⟩,
  ⟨(some 16), none, (.ld false 1 (.t 15)), [], [], 1088⟩,
  ⟨(some 17), none, (.len false (.t 16)), [], [], 1152⟩,
  ⟨(some 18), none, (.call 49 [(.t 14), (.t 17)]), [], [], 1216⟩]) (.seq (.reg false [⟨(some 19), none, (.fad 2 (.t 3)), [], [], 1280⟩,
  ⟨(some 20), none, (.ld false 1 (.t 19)), [], [], 1344⟩,
  ⟨(some 21), none, (.len false (.t 20)), [], [], 1408⟩,
  ⟨(some 22), none, (.mov (.c (.int .i64 0))), [], [], 1472⟩]) (.block 0 (.loop lp73_0)))))))⟩
theorem ok73 : FnOk Try.prog 73 ir73 := ⟨Try.f73, 0, Try.func73, by kernel_rfl, by kernel_rfl⟩
/-- muniment/replica.putMembers -/
def ir74 : IFun := ⟨2, 15, [], (.seq (.reg false [⟨(some 4), none, (.mov (.t 0)), [], [], 320⟩,
  ⟨(some 5), none, (.mov (.t 1)), [], [], 384⟩,
  ⟨(some 6), none, (.len false (.t 5)), [], [], 448⟩,
  ⟨(some 7), none, (.bin .gtr (.t 6) (.c (.int .i64 0))), [], [], 512⟩,
  ⟨(some 8), none, (.call 69 [(.t 4), (.t 7)]), [], [], 576⟩]) (.seq (.reg false [⟨(some 9), none, (.mov (.t 1)), [], [], 640⟩,
  ⟨(some 10), none, (.len false (.t 9)), [], [], 704⟩,
  ⟨(some 11), none, (.bin .gtr (.t 10) (.c (.int .i64 0))), [], [], 768⟩]) (.cond (.t 11) (.reg false [⟨(some 12), none, (.mov (.t 0)), [], [], 832⟩,
  ⟨(some 13), none, (.mov (.t 1)), [], [], 896⟩,
  ⟨(some 14), none, (.call 72 [(.t 12), (.t 13)]), [], [], 960⟩]) .skip)))⟩
theorem ok74 : FnOk Try.prog 74 ir74 := ⟨Try.f74, 0, Try.func74, by kernel_rfl, by kernel_rfl⟩
/-- muniment/replica.PutProof -/
def lp75_0 : IC := (.seq (.reg false [⟨(some 15), none, (.bin .lss (.t 14) (.t 13)), [], [], 1024⟩]) (.seq (.cond (.t 15) .skip (.exit 0)) (.seq (.block 1 (.seq (.reg false [⟨(some 16), none, (.iaL 1 (.t 12) (.t 14)), [], [], 1088⟩,
  ⟨(some 17), none, (.ld false 1 (.t 16)), [], [], 1152⟩,
  ⟨(some 5), none, (.mov (.t 17)), [], [], 384⟩]) (.reg false [⟨(some 18), none, (.mov (.t 0)), [], [], 1216⟩,
  ⟨(some 19), none, (.mov (.t 5)), [], [], 1280⟩,
  ⟨(some 20), none, (.call 46 [(.t 18), (.t 19)]), [], [], 1344⟩]))) (.reg false [⟨(some 21), none, (.bin .add (.t 14) (.c (.int .i64 1))), [], [], 1408⟩,
  ⟨(some 14), none, (.mov (.t 21)), [], [], 960⟩]))))
def ir75 : IFun := ⟨2, 38, [], (.seq (.reg false [⟨(some 3), none, (.box 4 (.t 1)), [], [], 256⟩]) (.seq (.reg false [⟨(some 6), none, (.mov (.t 0)), [], [], 448⟩,
  ⟨(some 7), none, (.fad 0 (.t 3)), [], [], 512⟩,
  ⟨(some 8), none, (.ld false 1 (.t 7)), [], [], 576⟩,
  ⟨(some 9), none, (.len false (.t 8)), [], [], 640⟩,
  ⟨(some 10), none, (.call 49 [(.t 6), (.t 9)]), [], [], 704⟩]) (.seq (.seq (.reg false [⟨(some 11), none, (.fad 0 (.t 3)), [], [], 768⟩,
  ⟨(some 12), none, (.ld false 1 (.t 11)), [], [], 832⟩,
  ⟨(some 13), none, (.len false (.t 12)), [], [], 896⟩,
  ⟨(some 14), none, (.mov (.c (.int .i64 0))), [], [], 960⟩]) (.block 0 (.loop lp75_0))) (.seq (.reg false [⟨(some 22), none, (.mov (.t 0)), [], [], 1472⟩,
  ⟨(some 23), none, (.fad 1 (.t 3)), [], [], 1536⟩,
  ⟨(some 24), none, (.ld false 1 (.t 23)), [], [], 1600⟩,
  ⟨(some 25), none, (.call 69 [(.t 22), (.t 24)]), [], [], 1664⟩]) (.seq (.reg false [⟨(some 26), none, (.fad 1 (.t 3)), [], [], 1728⟩,
  ⟨(some 27), none, (.ld false 1 (.t 26)), [], [], 1792⟩]) (.cond (.t 27) (.seq (.reg false [⟨(some 28), none, (.mov (.t 0)), [], [], 1856⟩,
  ⟨(some 29), none, (.fad 2 (.t 3)), [], [], 1920⟩,
  ⟨(some 30), none, (.fad 0 (.t 29)), [], [], 1984⟩,
  ⟨(some 31), none, (.ld false 1 (.t 30)), [], [], 2048⟩,
  ⟨(some 32), none, (.call 46 [(.t 28), (.t 31)]), [], [], 2112⟩]) (.reg false [⟨(some 33), none, (.mov (.t 0)), [], [], 2176⟩,
  ⟨(some 34), none, (.fad 2 (.t 3)), [], [], 2240⟩,
  ⟨(some 35), none, (.fad 1 (.t 34)), [], [], 2304⟩,
  ⟨(some 36), none, (.ld false 1 (.t 35)), [], [], 2368⟩,
  ⟨(some 37), none, (.call 46 [(.t 33), (.t 36)]), [], [], 2432⟩])) .skip))))))⟩
theorem ok75 : FnOk Try.prog 75 ir75 := ⟨Try.f75, 0, Try.func75, by kernel_rfl, by kernel_rfl⟩
/-- muniment/head.Check -/
def ir76 : IFun := ⟨1, 30, [(.tmp 2)], (.seq (.reg false [⟨(some 1), none, (.box 5 (.t 0)), [], [], 128⟩,
  ⟨(some 2), none, (.mov (.c (.int .i64 0))), [], [], 192⟩]) (.seq (.seq (.reg false [⟨(some 3), none, (.fad 0 (.t 1)), [], [], 256⟩,
  ⟨(some 4), none, (.ld false 1 (.t 3)), [], [], 320⟩,
  ⟨(some 5), none, (.bin .lss (.t 4) (.c (.int .u64 1))), [], [], 384⟩,
  ⟨(some 6), none, (.mov (.t 5)), [], [], 448⟩,
  ⟨(some 7), (some (6, false)), (.fad 1 (.t 1)), [], [], 512⟩,
  ⟨(some 8), (some (6, false)), (.ld false 1 (.t 7)), [], [], 576⟩,
  ⟨(some 9), (some (6, false)), (.len true (.t 8)), [], [], 640⟩,
  ⟨(some 10), (some (6, false)), (.bin .neq (.t 9) (.c (.int .i64 32))), [], [], 704⟩,
  ⟨(some 11), none, (.pick (.t 6) (.c (.bool true)) (.t 10)), [], [], 768⟩,
  ⟨(some 12), none, (.mov (.t 11)), [], [], 832⟩,
  ⟨(some 13), (some (12, false)), (.fad 2 (.t 1)), [], [], 896⟩,
  ⟨(some 14), (some (12, false)), (.ld false 1 (.t 13)), [], [], 960⟩,
  ⟨(some 15), (some (12, false)), (.len true (.t 14)), [], [], 1024⟩,
  ⟨(some 16), (some (12, false)), (.bin .neq (.t 15) (.c (.int .i64 32))), [], [], 1088⟩,
  ⟨(some 17), none, (.pick (.t 12) (.c (.bool true)) (.t 16)), [], [], 1152⟩,
  ⟨(some 18), none, (.mov (.t 17)), [], [], 1216⟩,
  ⟨(some 19), (some (18, false)), (.fad 3 (.t 1)), [], [], 1280⟩,
  ⟨(some 20), (some (18, false)), (.ld false 1 (.t 19)), [], [], 1344⟩,
  ⟨(some 21), (some (18, false)), (.len true (.t 20)), [], [], 1408⟩,
  ⟨(some 22), (some (18, false)), (.bin .neq (.t 21) (.c (.int .i64 32))), [], [], 1472⟩,
  ⟨(some 23), none, (.pick (.t 18) (.c (.bool true)) (.t 22)), [], [], 1536⟩,
  ⟨(some 24), none, (.mov (.t 23)), [], [], 1600⟩,
  ⟨(some 25), (some (24, false)), (.fad 4 (.t 1)), [], [], 1664⟩,
  ⟨(some 26), (some (24, false)), (.ld false 1 (.t 25)), [], [], 1728⟩,
  ⟨(some 27), (some (24, false)), (.call 21 [(.t 26)]), [], [], 1792⟩,
  ⟨(some 28), (some (24, false)), (.un .not (.t 27)), [], [], 1856⟩,
  ⟨(some 29), none, (.pick (.t 24) (.c (.bool true)) (.t 28)), [], [], 1920⟩]) (.cond (.t 29) (.seq (.reg false [⟨(some 2), none, (.mov (.c (.int .i64 80))), [], [], 192⟩]) .ret) .skip)) (.seq (.reg false [⟨(some 2), none, (.mov (.c (.int .i64 0))), [], [], 192⟩]) .ret)))⟩
theorem ok76 : FnOk Try.prog 76 ir76 := ⟨Try.f76, 0, Try.func76, by kernel_rfl, by kernel_rfl⟩
/-- muniment/head.Put -/
def ir77 : IFun := ⟨2, 24, [], (.seq (.reg false [⟨(some 3), none, (.box 5 (.t 1)), [], [], 256⟩]) (.seq (.reg false [⟨(some 4), none, (.mov (.t 0)), [], [], 320⟩,
  ⟨(some 5), none, (.fad 0 (.t 3)), [], [], 384⟩,
  ⟨(some 6), none, (.ld false 1 (.t 5)), [], [], 448⟩,
  ⟨(some 7), none, (.call 44 [(.t 4), (.t 6), (.c (.int .i64 8))]), [], [], 512⟩]) (.seq (.reg false [⟨(some 8), none, (.mov (.t 0)), [], [], 576⟩,
  ⟨(some 9), none, (.fad 1 (.t 3)), [], [], 640⟩,
  ⟨(some 10), none, (.ld false 1 (.t 9)), [], [], 704⟩,
  ⟨(some 11), none, (.call 46 [(.t 8), (.t 10)]), [], [], 768⟩]) (.seq (.reg false [⟨(some 12), none, (.mov (.t 0)), [], [], 832⟩,
  ⟨(some 13), none, (.fad 2 (.t 3)), [], [], 896⟩,
  ⟨(some 14), none, (.ld false 1 (.t 13)), [], [], 960⟩,
  ⟨(some 15), none, (.call 46 [(.t 12), (.t 14)]), [], [], 1024⟩]) (.seq (.reg false [⟨(some 16), none, (.mov (.t 0)), [], [], 1088⟩,
  ⟨(some 17), none, (.fad 3 (.t 3)), [], [], 1152⟩,
  ⟨(some 18), none, (.ld false 1 (.t 17)), [], [], 1216⟩,
  ⟨(some 19), none, (.call 46 [(.t 16), (.t 18)]), [], [], 1280⟩]) (.reg false [⟨(some 20), none, (.mov (.t 0)), [], [], 1344⟩,
  ⟨(some 21), none, (.fad 4 (.t 3)), [], [], 1408⟩,
  ⟨(some 22), none, (.ld false 1 (.t 21)), [], [], 1472⟩,
  ⟨(some 23), none, (.call 72 [(.t 20), (.t 22)]), [], [], 1536⟩]))))))⟩
theorem ok77 : FnOk Try.prog 77 ir77 := ⟨Try.f77, 0, Try.func77, by kernel_rfl, by kernel_rfl⟩
/-- muniment/cert.Put -/
def lp78_0 : IC := (.seq (.reg false [⟨(some 16), none, (.bin .lss (.t 15) (.t 14)), [], [], 1088⟩]) (.seq (.cond (.t 16) .skip (.exit 0)) (.seq (.block 1 (.seq (.reg false [⟨(some 17), none, (.iaL 2 (.t 13) (.t 15)), [], [], 1152⟩,
  ⟨(some 18), none, (.ld true 2 (.t 17)), [], [], 1216⟩,
  ⟨(some 5), none, (.new [(.int .i64 0), (.str [])]), [], [], 384⟩,
  ⟨none, none, (.st true 2 (.t 5) (.t 18)), [], [], 64⟩]) (.seq (.reg false [⟨(some 19), none, (.mov (.t 0)), [], [], 1280⟩,
  ⟨(some 20), none, (.fad 0 (.t 5)), [], [], 1344⟩,
  ⟨(some 21), none, (.ld false 1 (.t 20)), [], [], 1408⟩,
  ⟨(some 22), none, (.toInt .u64 (.t 21)), [], [], 1472⟩,
  ⟨(some 23), none, (.call 44 [(.t 19), (.t 22), (.c (.int .i64 1))]), [], [], 1536⟩]) (.reg false [⟨(some 24), none, (.mov (.t 0)), [], [], 1600⟩,
  ⟨(some 25), none, (.fad 1 (.t 5)), [], [], 1664⟩,
  ⟨(some 26), none, (.ld false 1 (.t 25)), [], [], 1728⟩,
  ⟨(some 27), none, (.call 46 [(.t 24), (.t 26)]), [], [], 1792⟩])))) (.reg false [⟨(some 28), none, (.bin .add (.t 15) (.c (.int .i64 1))), [], [], 1856⟩,
  ⟨(some 15), none, (.mov (.t 28)), [], [], 1024⟩]))))
def ir78 : IFun := ⟨2, 29, [], (.seq (.reg false [⟨(some 3), none, (.box 1 (.t 1)), [], [], 256⟩]) (.seq (.reg false [⟨(some 6), none, (.mov (.t 0)), [], [], 448⟩,
  ⟨(some 7), none, (.fad 0 (.t 3)), [], [], 512⟩,
  ⟨(some 8), none, (.ld false 1 (.t 7)), [], [], 576⟩,
  ⟨(some 9), none, (.len false (.t 8)), [], [], 640⟩,
  ⟨(some 10), none, (.toInt .u64 (.t 9)), [], [], 704⟩,
  ⟨(some 11), none, (.call 44 [(.t 6), (.t 10), (.c (.int .i64 1))]), [], [], 768⟩]) (.seq (.reg false [⟨(some 12), none, (.fad 0 (.t 3)), [], [], 832⟩,
  ⟨(some 13), none, (.ld false 1 (.t 12)), [], [], 896⟩,
  ⟨(some 14), none, (.len false (.t 13)), [], [], 960⟩,
  ⟨(some 15), none, (.mov (.c (.int .i64 0))), [], [], 1024⟩]) (.block 0 (.loop lp78_0)))))⟩
theorem ok78 : FnOk Try.prog 78 ir78 := ⟨Try.f78, 0, Try.func78, by kernel_rfl, by kernel_rfl⟩
def fnsL : List (Nat × Option (List Mode) × IFun) := [(3, some [.bor, .bor, .bor], ir3),
  (4, some [.bor], ir4),
  (5, some [.bor, .bor, .bor], ir5),
  (6, some [], ir6),
  (7, some [.bor], ir7),
  (8, some [.bor], ir8),
  (9, some [.io, .bor], ir9),
  (10, some [.io], ir10),
  (11, some [.bor], ir11),
  (12, some [.bor], ir12),
  (13, some [.bor], ir13),
  (14, some [.bor], ir14),
  (15, some [.bor, .bor], ir15),
  (16, some [.bor], ir16),
  (17, some [.bor], ir17),
  (18, some [.bor], ir18),
  (19, some [.io, .bor, .bor, .bor], ir19),
  (20, some [.bor], ir20),
  (21, some [.bor], ir21),
  (22, some [.bor], ir22),
  (23, some [.bor], ir23),
  (24, some [.bor], ir24),
  (25, some [.bor], ir25),
  (26, some [.io, .bor, .bor], ir26),
  (27, some [.bor], ir27),
  (28, some [.bor], ir28),
  (29, some [.bor], ir29),
  (30, some [.bor, .bor], ir30),
  (31, some [.bor, .bor], ir31),
  (32, some [.bor], ir32),
  (33, some [.bor], ir33),
  (34, some [.bor], ir34),
  (35, some [.io, .bor], ir35),
  (36, some [.io], ir36),
  (37, some [.io], ir37),
  (38, some [.io], ir38),
  (39, some [.io], ir39),
  (40, some [.io, .bor], ir40),
  (41, some [.io, .bor], ir41),
  (42, some [.io], ir42),
  (43, some [], ir43),
  (44, some [.io, .bor, .bor], ir44),
  (45, some [.io, .bor], ir45),
  (46, some [.io, .bor], ir46),
  (47, some [.io, .bor], ir47),
  (48, some [.io, .bor], ir48),
  (49, some [.io, .bor], ir49),
  (50, some [.bor], ir50),
  (51, some [.bor], ir51),
  (52, some [.bor], ir52),
  (53, some [.bor, .bor], ir53),
  (54, some [.bor], ir54),
  (55, some [.io, .bor], ir55),
  (56, some [.io], ir56),
  (57, some [.io], ir57),
  (58, some [.io, .bor], ir58),
  (59, some [.io], ir59),
  (60, some [.io], ir60),
  (61, some [.io], ir61),
  (62, some [.io], ir62),
  (63, some [.io], ir63),
  (64, some [.io], ir64),
  (65, some [.bor], ir65),
  (66, some [.bor], ir66),
  (67, some [.io, .bor], ir67),
  (68, some [.bor, .bor], ir68),
  (69, some [.io, .bor], ir69),
  (70, some [.io, .bor], ir70),
  (71, some [.io, .bor], ir71),
  (72, some [.io, .bor], ir72),
  (73, some [.io, .bor], ir73),
  (74, some [.io, .bor], ir74),
  (75, some [.io, .bor], ir75),
  (76, some [.bor], ir76),
  (77, some [.io, .bor], ir77),
  (78, some [.io, .bor], ir78)]
def fns : Fns := fun f => (fnsL.find? fun q => q.1 == f).map (·.2)
theorem fnsL_ok : ∀ q ∈ fnsL, FnOk Try.prog q.1 q.2.2 := by
  unfold fnsL
  repeat rw [List.forall_mem_cons]
  exact ⟨ok3, ok4, ok5, ok6, ok7, ok8, ok9, ok10, ok11, ok12, ok13, ok14, ok15, ok16, ok17, ok18, ok19, ok20, ok21, ok22, ok23, ok24, ok25, ok26, ok27, ok28, ok29, ok30, ok31, ok32, ok33, ok34, ok35, ok36, ok37, ok38, ok39, ok40, ok41, ok42, ok43, ok44, ok45, ok46, ok47, ok48, ok49, ok50, ok51, ok52, ok53, ok54, ok55, ok56, ok57, ok58, ok59, ok60, ok61, ok62, ok63, ok64, ok65, ok66, ok67, ok68, ok69, ok70, ok71, ok72, ok73, ok74, ok75, ok76, ok77, ok78, by simp⟩
theorem fns_ok (f : Nat) (p : Option (List Mode) × IFun) (h : fns f = some p) : FnOk Try.prog f p.2 := by
  obtain ⟨q, h1, rfl⟩ := Option.map_eq_some_iff.1 h
  have h2 := List.find?_some h1
  rw [← beq_iff_eq.1 h2]
  exact fnsL_ok q (List.mem_of_find?_eq_some h1)
theorem mixed : Try.prog.follows .mixedOrders = true := by kernel_rfl
theorem laid : laidOutB Try.prog = true := by kernel_rfl
theorem T_ok : TblOk Try.prog (tabW fns) := tabW_ok mixed fns_ok
variable {σ : Store} {base : Nat}
theorem at3 : fns 3 = some (some [.bor, .bor, .bor], ir3) := rfl
@[go_sem] theorem call3 (vs : List V) : callV (tabW fns) σ base 3 vs = callP σ base [.bor, .bor, .bor] vs (Gf fns 3) (passV σ [.bor, .bor, .bor] vs) := callV_T at3 vs
@[go_sem] theorem callr3 (vs : List V) : callR (tabW fns) σ base 3 vs = outS σ (callP σ base [.bor, .bor, .bor] vs (Gf fns 3) (passV σ [.bor, .bor, .bor] vs)) := callR_T at3 vs
theorem at4 : fns 4 = some (some [.bor], ir4) := rfl
@[go_sem] theorem call4 (vs : List V) : callV (tabW fns) σ base 4 vs = callP σ base [.bor] vs (Gf fns 4) (passV σ [.bor] vs) := callV_T at4 vs
@[go_sem] theorem callr4 (vs : List V) : callR (tabW fns) σ base 4 vs = outS σ (callP σ base [.bor] vs (Gf fns 4) (passV σ [.bor] vs)) := callR_T at4 vs
theorem at5 : fns 5 = some (some [.bor, .bor, .bor], ir5) := rfl
@[go_sem] theorem call5 (vs : List V) : callV (tabW fns) σ base 5 vs = callP σ base [.bor, .bor, .bor] vs (Gf fns 5) (passV σ [.bor, .bor, .bor] vs) := callV_T at5 vs
@[go_sem] theorem callr5 (vs : List V) : callR (tabW fns) σ base 5 vs = outS σ (callP σ base [.bor, .bor, .bor] vs (Gf fns 5) (passV σ [.bor, .bor, .bor] vs)) := callR_T at5 vs
theorem at6 : fns 6 = some (some [], ir6) := rfl
@[go_sem] theorem call6 (vs : List V) : callV (tabW fns) σ base 6 vs = callP σ base [] vs (Gf fns 6) (passV σ [] vs) := callV_T at6 vs
@[go_sem] theorem callr6 (vs : List V) : callR (tabW fns) σ base 6 vs = outS σ (callP σ base [] vs (Gf fns 6) (passV σ [] vs)) := callR_T at6 vs
theorem at7 : fns 7 = some (some [.bor], ir7) := rfl
@[go_sem] theorem call7 (vs : List V) : callV (tabW fns) σ base 7 vs = callP σ base [.bor] vs (Gf fns 7) (passV σ [.bor] vs) := callV_T at7 vs
@[go_sem] theorem callr7 (vs : List V) : callR (tabW fns) σ base 7 vs = outS σ (callP σ base [.bor] vs (Gf fns 7) (passV σ [.bor] vs)) := callR_T at7 vs
theorem at8 : fns 8 = some (some [.bor], ir8) := rfl
@[go_sem] theorem call8 (vs : List V) : callV (tabW fns) σ base 8 vs = callP σ base [.bor] vs (Gf fns 8) (passV σ [.bor] vs) := callV_T at8 vs
@[go_sem] theorem callr8 (vs : List V) : callR (tabW fns) σ base 8 vs = outS σ (callP σ base [.bor] vs (Gf fns 8) (passV σ [.bor] vs)) := callR_T at8 vs
theorem at9 : fns 9 = some (some [.io, .bor], ir9) := rfl
theorem call9 (vs : List V) : callV (tabW fns) σ base 9 vs = callP σ base [.io, .bor] vs (Gf fns 9) (passV σ [.io, .bor] vs) := callV_T at9 vs
theorem callr9 (vs : List V) : callR (tabW fns) σ base 9 vs = outS σ (callP σ base [.io, .bor] vs (Gf fns 9) (passV σ [.io, .bor] vs)) := callR_T at9 vs
theorem at10 : fns 10 = some (some [.io], ir10) := rfl
theorem call10 (vs : List V) : callV (tabW fns) σ base 10 vs = callP σ base [.io] vs (Gf fns 10) (passV σ [.io] vs) := callV_T at10 vs
theorem callr10 (vs : List V) : callR (tabW fns) σ base 10 vs = outS σ (callP σ base [.io] vs (Gf fns 10) (passV σ [.io] vs)) := callR_T at10 vs
theorem at11 : fns 11 = some (some [.bor], ir11) := rfl
@[go_sem] theorem call11 (vs : List V) : callV (tabW fns) σ base 11 vs = callP σ base [.bor] vs (Gf fns 11) (passV σ [.bor] vs) := callV_T at11 vs
@[go_sem] theorem callr11 (vs : List V) : callR (tabW fns) σ base 11 vs = outS σ (callP σ base [.bor] vs (Gf fns 11) (passV σ [.bor] vs)) := callR_T at11 vs
theorem at12 : fns 12 = some (some [.bor], ir12) := rfl
@[go_sem] theorem call12 (vs : List V) : callV (tabW fns) σ base 12 vs = callP σ base [.bor] vs (Gf fns 12) (passV σ [.bor] vs) := callV_T at12 vs
@[go_sem] theorem callr12 (vs : List V) : callR (tabW fns) σ base 12 vs = outS σ (callP σ base [.bor] vs (Gf fns 12) (passV σ [.bor] vs)) := callR_T at12 vs
theorem at13 : fns 13 = some (some [.bor], ir13) := rfl
@[go_sem] theorem call13 (vs : List V) : callV (tabW fns) σ base 13 vs = callP σ base [.bor] vs (Gf fns 13) (passV σ [.bor] vs) := callV_T at13 vs
@[go_sem] theorem callr13 (vs : List V) : callR (tabW fns) σ base 13 vs = outS σ (callP σ base [.bor] vs (Gf fns 13) (passV σ [.bor] vs)) := callR_T at13 vs
theorem at14 : fns 14 = some (some [.bor], ir14) := rfl
@[go_sem] theorem call14 (vs : List V) : callV (tabW fns) σ base 14 vs = callP σ base [.bor] vs (Gf fns 14) (passV σ [.bor] vs) := callV_T at14 vs
@[go_sem] theorem callr14 (vs : List V) : callR (tabW fns) σ base 14 vs = outS σ (callP σ base [.bor] vs (Gf fns 14) (passV σ [.bor] vs)) := callR_T at14 vs
theorem at15 : fns 15 = some (some [.bor, .bor], ir15) := rfl
@[go_sem] theorem call15 (vs : List V) : callV (tabW fns) σ base 15 vs = callP σ base [.bor, .bor] vs (Gf fns 15) (passV σ [.bor, .bor] vs) := callV_T at15 vs
@[go_sem] theorem callr15 (vs : List V) : callR (tabW fns) σ base 15 vs = outS σ (callP σ base [.bor, .bor] vs (Gf fns 15) (passV σ [.bor, .bor] vs)) := callR_T at15 vs
theorem at16 : fns 16 = some (some [.bor], ir16) := rfl
@[go_sem] theorem call16 (vs : List V) : callV (tabW fns) σ base 16 vs = callP σ base [.bor] vs (Gf fns 16) (passV σ [.bor] vs) := callV_T at16 vs
@[go_sem] theorem callr16 (vs : List V) : callR (tabW fns) σ base 16 vs = outS σ (callP σ base [.bor] vs (Gf fns 16) (passV σ [.bor] vs)) := callR_T at16 vs
theorem at17 : fns 17 = some (some [.bor], ir17) := rfl
@[go_sem] theorem call17 (vs : List V) : callV (tabW fns) σ base 17 vs = callP σ base [.bor] vs (Gf fns 17) (passV σ [.bor] vs) := callV_T at17 vs
@[go_sem] theorem callr17 (vs : List V) : callR (tabW fns) σ base 17 vs = outS σ (callP σ base [.bor] vs (Gf fns 17) (passV σ [.bor] vs)) := callR_T at17 vs
theorem at18 : fns 18 = some (some [.bor], ir18) := rfl
@[go_sem] theorem call18 (vs : List V) : callV (tabW fns) σ base 18 vs = callP σ base [.bor] vs (Gf fns 18) (passV σ [.bor] vs) := callV_T at18 vs
@[go_sem] theorem callr18 (vs : List V) : callR (tabW fns) σ base 18 vs = outS σ (callP σ base [.bor] vs (Gf fns 18) (passV σ [.bor] vs)) := callR_T at18 vs
theorem at19 : fns 19 = some (some [.io, .bor, .bor, .bor], ir19) := rfl
theorem call19 (vs : List V) : callV (tabW fns) σ base 19 vs = callP σ base [.io, .bor, .bor, .bor] vs (Gf fns 19) (passV σ [.io, .bor, .bor, .bor] vs) := callV_T at19 vs
theorem callr19 (vs : List V) : callR (tabW fns) σ base 19 vs = outS σ (callP σ base [.io, .bor, .bor, .bor] vs (Gf fns 19) (passV σ [.io, .bor, .bor, .bor] vs)) := callR_T at19 vs
theorem at20 : fns 20 = some (some [.bor], ir20) := rfl
@[go_sem] theorem call20 (vs : List V) : callV (tabW fns) σ base 20 vs = callP σ base [.bor] vs (Gf fns 20) (passV σ [.bor] vs) := callV_T at20 vs
@[go_sem] theorem callr20 (vs : List V) : callR (tabW fns) σ base 20 vs = outS σ (callP σ base [.bor] vs (Gf fns 20) (passV σ [.bor] vs)) := callR_T at20 vs
theorem at21 : fns 21 = some (some [.bor], ir21) := rfl
@[go_sem] theorem call21 (vs : List V) : callV (tabW fns) σ base 21 vs = callP σ base [.bor] vs (Gf fns 21) (passV σ [.bor] vs) := callV_T at21 vs
@[go_sem] theorem callr21 (vs : List V) : callR (tabW fns) σ base 21 vs = outS σ (callP σ base [.bor] vs (Gf fns 21) (passV σ [.bor] vs)) := callR_T at21 vs
theorem at22 : fns 22 = some (some [.bor], ir22) := rfl
@[go_sem] theorem call22 (vs : List V) : callV (tabW fns) σ base 22 vs = callP σ base [.bor] vs (Gf fns 22) (passV σ [.bor] vs) := callV_T at22 vs
@[go_sem] theorem callr22 (vs : List V) : callR (tabW fns) σ base 22 vs = outS σ (callP σ base [.bor] vs (Gf fns 22) (passV σ [.bor] vs)) := callR_T at22 vs
theorem at23 : fns 23 = some (some [.bor], ir23) := rfl
@[go_sem] theorem call23 (vs : List V) : callV (tabW fns) σ base 23 vs = callP σ base [.bor] vs (Gf fns 23) (passV σ [.bor] vs) := callV_T at23 vs
@[go_sem] theorem callr23 (vs : List V) : callR (tabW fns) σ base 23 vs = outS σ (callP σ base [.bor] vs (Gf fns 23) (passV σ [.bor] vs)) := callR_T at23 vs
theorem at24 : fns 24 = some (some [.bor], ir24) := rfl
@[go_sem] theorem call24 (vs : List V) : callV (tabW fns) σ base 24 vs = callP σ base [.bor] vs (Gf fns 24) (passV σ [.bor] vs) := callV_T at24 vs
@[go_sem] theorem callr24 (vs : List V) : callR (tabW fns) σ base 24 vs = outS σ (callP σ base [.bor] vs (Gf fns 24) (passV σ [.bor] vs)) := callR_T at24 vs
theorem at25 : fns 25 = some (some [.bor], ir25) := rfl
@[go_sem] theorem call25 (vs : List V) : callV (tabW fns) σ base 25 vs = callP σ base [.bor] vs (Gf fns 25) (passV σ [.bor] vs) := callV_T at25 vs
@[go_sem] theorem callr25 (vs : List V) : callR (tabW fns) σ base 25 vs = outS σ (callP σ base [.bor] vs (Gf fns 25) (passV σ [.bor] vs)) := callR_T at25 vs
theorem at26 : fns 26 = some (some [.io, .bor, .bor], ir26) := rfl
theorem call26 (vs : List V) : callV (tabW fns) σ base 26 vs = callP σ base [.io, .bor, .bor] vs (Gf fns 26) (passV σ [.io, .bor, .bor] vs) := callV_T at26 vs
theorem callr26 (vs : List V) : callR (tabW fns) σ base 26 vs = outS σ (callP σ base [.io, .bor, .bor] vs (Gf fns 26) (passV σ [.io, .bor, .bor] vs)) := callR_T at26 vs
theorem at27 : fns 27 = some (some [.bor], ir27) := rfl
@[go_sem] theorem call27 (vs : List V) : callV (tabW fns) σ base 27 vs = callP σ base [.bor] vs (Gf fns 27) (passV σ [.bor] vs) := callV_T at27 vs
@[go_sem] theorem callr27 (vs : List V) : callR (tabW fns) σ base 27 vs = outS σ (callP σ base [.bor] vs (Gf fns 27) (passV σ [.bor] vs)) := callR_T at27 vs
theorem at28 : fns 28 = some (some [.bor], ir28) := rfl
@[go_sem] theorem call28 (vs : List V) : callV (tabW fns) σ base 28 vs = callP σ base [.bor] vs (Gf fns 28) (passV σ [.bor] vs) := callV_T at28 vs
@[go_sem] theorem callr28 (vs : List V) : callR (tabW fns) σ base 28 vs = outS σ (callP σ base [.bor] vs (Gf fns 28) (passV σ [.bor] vs)) := callR_T at28 vs
theorem at29 : fns 29 = some (some [.bor], ir29) := rfl
@[go_sem] theorem call29 (vs : List V) : callV (tabW fns) σ base 29 vs = callP σ base [.bor] vs (Gf fns 29) (passV σ [.bor] vs) := callV_T at29 vs
@[go_sem] theorem callr29 (vs : List V) : callR (tabW fns) σ base 29 vs = outS σ (callP σ base [.bor] vs (Gf fns 29) (passV σ [.bor] vs)) := callR_T at29 vs
theorem at30 : fns 30 = some (some [.bor, .bor], ir30) := rfl
@[go_sem] theorem call30 (vs : List V) : callV (tabW fns) σ base 30 vs = callP σ base [.bor, .bor] vs (Gf fns 30) (passV σ [.bor, .bor] vs) := callV_T at30 vs
@[go_sem] theorem callr30 (vs : List V) : callR (tabW fns) σ base 30 vs = outS σ (callP σ base [.bor, .bor] vs (Gf fns 30) (passV σ [.bor, .bor] vs)) := callR_T at30 vs
theorem at31 : fns 31 = some (some [.bor, .bor], ir31) := rfl
@[go_sem] theorem call31 (vs : List V) : callV (tabW fns) σ base 31 vs = callP σ base [.bor, .bor] vs (Gf fns 31) (passV σ [.bor, .bor] vs) := callV_T at31 vs
@[go_sem] theorem callr31 (vs : List V) : callR (tabW fns) σ base 31 vs = outS σ (callP σ base [.bor, .bor] vs (Gf fns 31) (passV σ [.bor, .bor] vs)) := callR_T at31 vs
theorem at32 : fns 32 = some (some [.bor], ir32) := rfl
@[go_sem] theorem call32 (vs : List V) : callV (tabW fns) σ base 32 vs = callP σ base [.bor] vs (Gf fns 32) (passV σ [.bor] vs) := callV_T at32 vs
@[go_sem] theorem callr32 (vs : List V) : callR (tabW fns) σ base 32 vs = outS σ (callP σ base [.bor] vs (Gf fns 32) (passV σ [.bor] vs)) := callR_T at32 vs
theorem at33 : fns 33 = some (some [.bor], ir33) := rfl
@[go_sem] theorem call33 (vs : List V) : callV (tabW fns) σ base 33 vs = callP σ base [.bor] vs (Gf fns 33) (passV σ [.bor] vs) := callV_T at33 vs
@[go_sem] theorem callr33 (vs : List V) : callR (tabW fns) σ base 33 vs = outS σ (callP σ base [.bor] vs (Gf fns 33) (passV σ [.bor] vs)) := callR_T at33 vs
theorem at34 : fns 34 = some (some [.bor], ir34) := rfl
@[go_sem] theorem call34 (vs : List V) : callV (tabW fns) σ base 34 vs = callP σ base [.bor] vs (Gf fns 34) (passV σ [.bor] vs) := callV_T at34 vs
@[go_sem] theorem callr34 (vs : List V) : callR (tabW fns) σ base 34 vs = outS σ (callP σ base [.bor] vs (Gf fns 34) (passV σ [.bor] vs)) := callR_T at34 vs
theorem at35 : fns 35 = some (some [.io, .bor], ir35) := rfl
theorem call35 (vs : List V) : callV (tabW fns) σ base 35 vs = callP σ base [.io, .bor] vs (Gf fns 35) (passV σ [.io, .bor] vs) := callV_T at35 vs
theorem callr35 (vs : List V) : callR (tabW fns) σ base 35 vs = outS σ (callP σ base [.io, .bor] vs (Gf fns 35) (passV σ [.io, .bor] vs)) := callR_T at35 vs
theorem at36 : fns 36 = some (some [.io], ir36) := rfl
theorem call36 (vs : List V) : callV (tabW fns) σ base 36 vs = callP σ base [.io] vs (Gf fns 36) (passV σ [.io] vs) := callV_T at36 vs
theorem callr36 (vs : List V) : callR (tabW fns) σ base 36 vs = outS σ (callP σ base [.io] vs (Gf fns 36) (passV σ [.io] vs)) := callR_T at36 vs
theorem at37 : fns 37 = some (some [.io], ir37) := rfl
theorem call37 (vs : List V) : callV (tabW fns) σ base 37 vs = callP σ base [.io] vs (Gf fns 37) (passV σ [.io] vs) := callV_T at37 vs
theorem callr37 (vs : List V) : callR (tabW fns) σ base 37 vs = outS σ (callP σ base [.io] vs (Gf fns 37) (passV σ [.io] vs)) := callR_T at37 vs
theorem at38 : fns 38 = some (some [.io], ir38) := rfl
theorem call38 (vs : List V) : callV (tabW fns) σ base 38 vs = callP σ base [.io] vs (Gf fns 38) (passV σ [.io] vs) := callV_T at38 vs
theorem callr38 (vs : List V) : callR (tabW fns) σ base 38 vs = outS σ (callP σ base [.io] vs (Gf fns 38) (passV σ [.io] vs)) := callR_T at38 vs
theorem at39 : fns 39 = some (some [.io], ir39) := rfl
theorem call39 (vs : List V) : callV (tabW fns) σ base 39 vs = callP σ base [.io] vs (Gf fns 39) (passV σ [.io] vs) := callV_T at39 vs
theorem callr39 (vs : List V) : callR (tabW fns) σ base 39 vs = outS σ (callP σ base [.io] vs (Gf fns 39) (passV σ [.io] vs)) := callR_T at39 vs
theorem at40 : fns 40 = some (some [.io, .bor], ir40) := rfl
theorem call40 (vs : List V) : callV (tabW fns) σ base 40 vs = callP σ base [.io, .bor] vs (Gf fns 40) (passV σ [.io, .bor] vs) := callV_T at40 vs
theorem callr40 (vs : List V) : callR (tabW fns) σ base 40 vs = outS σ (callP σ base [.io, .bor] vs (Gf fns 40) (passV σ [.io, .bor] vs)) := callR_T at40 vs
theorem at41 : fns 41 = some (some [.io, .bor], ir41) := rfl
theorem call41 (vs : List V) : callV (tabW fns) σ base 41 vs = callP σ base [.io, .bor] vs (Gf fns 41) (passV σ [.io, .bor] vs) := callV_T at41 vs
theorem callr41 (vs : List V) : callR (tabW fns) σ base 41 vs = outS σ (callP σ base [.io, .bor] vs (Gf fns 41) (passV σ [.io, .bor] vs)) := callR_T at41 vs
theorem at42 : fns 42 = some (some [.io], ir42) := rfl
theorem call42 (vs : List V) : callV (tabW fns) σ base 42 vs = callP σ base [.io] vs (Gf fns 42) (passV σ [.io] vs) := callV_T at42 vs
theorem callr42 (vs : List V) : callR (tabW fns) σ base 42 vs = outS σ (callP σ base [.io] vs (Gf fns 42) (passV σ [.io] vs)) := callR_T at42 vs
theorem at43 : fns 43 = some (some [], ir43) := rfl
@[go_sem] theorem call43 (vs : List V) : callV (tabW fns) σ base 43 vs = callP σ base [] vs (Gf fns 43) (passV σ [] vs) := callV_T at43 vs
@[go_sem] theorem callr43 (vs : List V) : callR (tabW fns) σ base 43 vs = outS σ (callP σ base [] vs (Gf fns 43) (passV σ [] vs)) := callR_T at43 vs
theorem at44 : fns 44 = some (some [.io, .bor, .bor], ir44) := rfl
theorem call44 (vs : List V) : callV (tabW fns) σ base 44 vs = callP σ base [.io, .bor, .bor] vs (Gf fns 44) (passV σ [.io, .bor, .bor] vs) := callV_T at44 vs
theorem callr44 (vs : List V) : callR (tabW fns) σ base 44 vs = outS σ (callP σ base [.io, .bor, .bor] vs (Gf fns 44) (passV σ [.io, .bor, .bor] vs)) := callR_T at44 vs
theorem at45 : fns 45 = some (some [.io, .bor], ir45) := rfl
theorem call45 (vs : List V) : callV (tabW fns) σ base 45 vs = callP σ base [.io, .bor] vs (Gf fns 45) (passV σ [.io, .bor] vs) := callV_T at45 vs
theorem callr45 (vs : List V) : callR (tabW fns) σ base 45 vs = outS σ (callP σ base [.io, .bor] vs (Gf fns 45) (passV σ [.io, .bor] vs)) := callR_T at45 vs
theorem at46 : fns 46 = some (some [.io, .bor], ir46) := rfl
theorem call46 (vs : List V) : callV (tabW fns) σ base 46 vs = callP σ base [.io, .bor] vs (Gf fns 46) (passV σ [.io, .bor] vs) := callV_T at46 vs
theorem callr46 (vs : List V) : callR (tabW fns) σ base 46 vs = outS σ (callP σ base [.io, .bor] vs (Gf fns 46) (passV σ [.io, .bor] vs)) := callR_T at46 vs
theorem at47 : fns 47 = some (some [.io, .bor], ir47) := rfl
theorem call47 (vs : List V) : callV (tabW fns) σ base 47 vs = callP σ base [.io, .bor] vs (Gf fns 47) (passV σ [.io, .bor] vs) := callV_T at47 vs
theorem callr47 (vs : List V) : callR (tabW fns) σ base 47 vs = outS σ (callP σ base [.io, .bor] vs (Gf fns 47) (passV σ [.io, .bor] vs)) := callR_T at47 vs
theorem at48 : fns 48 = some (some [.io, .bor], ir48) := rfl
theorem call48 (vs : List V) : callV (tabW fns) σ base 48 vs = callP σ base [.io, .bor] vs (Gf fns 48) (passV σ [.io, .bor] vs) := callV_T at48 vs
theorem callr48 (vs : List V) : callR (tabW fns) σ base 48 vs = outS σ (callP σ base [.io, .bor] vs (Gf fns 48) (passV σ [.io, .bor] vs)) := callR_T at48 vs
theorem at49 : fns 49 = some (some [.io, .bor], ir49) := rfl
theorem call49 (vs : List V) : callV (tabW fns) σ base 49 vs = callP σ base [.io, .bor] vs (Gf fns 49) (passV σ [.io, .bor] vs) := callV_T at49 vs
theorem callr49 (vs : List V) : callR (tabW fns) σ base 49 vs = outS σ (callP σ base [.io, .bor] vs (Gf fns 49) (passV σ [.io, .bor] vs)) := callR_T at49 vs
theorem at50 : fns 50 = some (some [.bor], ir50) := rfl
@[go_sem] theorem call50 (vs : List V) : callV (tabW fns) σ base 50 vs = callP σ base [.bor] vs (Gf fns 50) (passV σ [.bor] vs) := callV_T at50 vs
@[go_sem] theorem callr50 (vs : List V) : callR (tabW fns) σ base 50 vs = outS σ (callP σ base [.bor] vs (Gf fns 50) (passV σ [.bor] vs)) := callR_T at50 vs
theorem at51 : fns 51 = some (some [.bor], ir51) := rfl
@[go_sem] theorem call51 (vs : List V) : callV (tabW fns) σ base 51 vs = callP σ base [.bor] vs (Gf fns 51) (passV σ [.bor] vs) := callV_T at51 vs
@[go_sem] theorem callr51 (vs : List V) : callR (tabW fns) σ base 51 vs = outS σ (callP σ base [.bor] vs (Gf fns 51) (passV σ [.bor] vs)) := callR_T at51 vs
theorem at52 : fns 52 = some (some [.bor], ir52) := rfl
@[go_sem] theorem call52 (vs : List V) : callV (tabW fns) σ base 52 vs = callP σ base [.bor] vs (Gf fns 52) (passV σ [.bor] vs) := callV_T at52 vs
@[go_sem] theorem callr52 (vs : List V) : callR (tabW fns) σ base 52 vs = outS σ (callP σ base [.bor] vs (Gf fns 52) (passV σ [.bor] vs)) := callR_T at52 vs
theorem at53 : fns 53 = some (some [.bor, .bor], ir53) := rfl
@[go_sem] theorem call53 (vs : List V) : callV (tabW fns) σ base 53 vs = callP σ base [.bor, .bor] vs (Gf fns 53) (passV σ [.bor, .bor] vs) := callV_T at53 vs
@[go_sem] theorem callr53 (vs : List V) : callR (tabW fns) σ base 53 vs = outS σ (callP σ base [.bor, .bor] vs (Gf fns 53) (passV σ [.bor, .bor] vs)) := callR_T at53 vs
theorem at54 : fns 54 = some (some [.bor], ir54) := rfl
@[go_sem] theorem call54 (vs : List V) : callV (tabW fns) σ base 54 vs = callP σ base [.bor] vs (Gf fns 54) (passV σ [.bor] vs) := callV_T at54 vs
@[go_sem] theorem callr54 (vs : List V) : callR (tabW fns) σ base 54 vs = outS σ (callP σ base [.bor] vs (Gf fns 54) (passV σ [.bor] vs)) := callR_T at54 vs
theorem at55 : fns 55 = some (some [.io, .bor], ir55) := rfl
theorem call55 (vs : List V) : callV (tabW fns) σ base 55 vs = callP σ base [.io, .bor] vs (Gf fns 55) (passV σ [.io, .bor] vs) := callV_T at55 vs
theorem callr55 (vs : List V) : callR (tabW fns) σ base 55 vs = outS σ (callP σ base [.io, .bor] vs (Gf fns 55) (passV σ [.io, .bor] vs)) := callR_T at55 vs
theorem at56 : fns 56 = some (some [.io], ir56) := rfl
theorem call56 (vs : List V) : callV (tabW fns) σ base 56 vs = callP σ base [.io] vs (Gf fns 56) (passV σ [.io] vs) := callV_T at56 vs
theorem callr56 (vs : List V) : callR (tabW fns) σ base 56 vs = outS σ (callP σ base [.io] vs (Gf fns 56) (passV σ [.io] vs)) := callR_T at56 vs
theorem at57 : fns 57 = some (some [.io], ir57) := rfl
theorem call57 (vs : List V) : callV (tabW fns) σ base 57 vs = callP σ base [.io] vs (Gf fns 57) (passV σ [.io] vs) := callV_T at57 vs
theorem callr57 (vs : List V) : callR (tabW fns) σ base 57 vs = outS σ (callP σ base [.io] vs (Gf fns 57) (passV σ [.io] vs)) := callR_T at57 vs
theorem at58 : fns 58 = some (some [.io, .bor], ir58) := rfl
theorem call58 (vs : List V) : callV (tabW fns) σ base 58 vs = callP σ base [.io, .bor] vs (Gf fns 58) (passV σ [.io, .bor] vs) := callV_T at58 vs
theorem callr58 (vs : List V) : callR (tabW fns) σ base 58 vs = outS σ (callP σ base [.io, .bor] vs (Gf fns 58) (passV σ [.io, .bor] vs)) := callR_T at58 vs
theorem at59 : fns 59 = some (some [.io], ir59) := rfl
theorem call59 (vs : List V) : callV (tabW fns) σ base 59 vs = callP σ base [.io] vs (Gf fns 59) (passV σ [.io] vs) := callV_T at59 vs
theorem callr59 (vs : List V) : callR (tabW fns) σ base 59 vs = outS σ (callP σ base [.io] vs (Gf fns 59) (passV σ [.io] vs)) := callR_T at59 vs
theorem at60 : fns 60 = some (some [.io], ir60) := rfl
theorem call60 (vs : List V) : callV (tabW fns) σ base 60 vs = callP σ base [.io] vs (Gf fns 60) (passV σ [.io] vs) := callV_T at60 vs
theorem callr60 (vs : List V) : callR (tabW fns) σ base 60 vs = outS σ (callP σ base [.io] vs (Gf fns 60) (passV σ [.io] vs)) := callR_T at60 vs
theorem at61 : fns 61 = some (some [.io], ir61) := rfl
theorem call61 (vs : List V) : callV (tabW fns) σ base 61 vs = callP σ base [.io] vs (Gf fns 61) (passV σ [.io] vs) := callV_T at61 vs
theorem callr61 (vs : List V) : callR (tabW fns) σ base 61 vs = outS σ (callP σ base [.io] vs (Gf fns 61) (passV σ [.io] vs)) := callR_T at61 vs
theorem at62 : fns 62 = some (some [.io], ir62) := rfl
theorem call62 (vs : List V) : callV (tabW fns) σ base 62 vs = callP σ base [.io] vs (Gf fns 62) (passV σ [.io] vs) := callV_T at62 vs
theorem callr62 (vs : List V) : callR (tabW fns) σ base 62 vs = outS σ (callP σ base [.io] vs (Gf fns 62) (passV σ [.io] vs)) := callR_T at62 vs
theorem at63 : fns 63 = some (some [.io], ir63) := rfl
theorem call63 (vs : List V) : callV (tabW fns) σ base 63 vs = callP σ base [.io] vs (Gf fns 63) (passV σ [.io] vs) := callV_T at63 vs
theorem callr63 (vs : List V) : callR (tabW fns) σ base 63 vs = outS σ (callP σ base [.io] vs (Gf fns 63) (passV σ [.io] vs)) := callR_T at63 vs
theorem at64 : fns 64 = some (some [.io], ir64) := rfl
theorem call64 (vs : List V) : callV (tabW fns) σ base 64 vs = callP σ base [.io] vs (Gf fns 64) (passV σ [.io] vs) := callV_T at64 vs
theorem callr64 (vs : List V) : callR (tabW fns) σ base 64 vs = outS σ (callP σ base [.io] vs (Gf fns 64) (passV σ [.io] vs)) := callR_T at64 vs
theorem at65 : fns 65 = some (some [.bor], ir65) := rfl
@[go_sem] theorem call65 (vs : List V) : callV (tabW fns) σ base 65 vs = callP σ base [.bor] vs (Gf fns 65) (passV σ [.bor] vs) := callV_T at65 vs
@[go_sem] theorem callr65 (vs : List V) : callR (tabW fns) σ base 65 vs = outS σ (callP σ base [.bor] vs (Gf fns 65) (passV σ [.bor] vs)) := callR_T at65 vs
theorem at66 : fns 66 = some (some [.bor], ir66) := rfl
@[go_sem] theorem call66 (vs : List V) : callV (tabW fns) σ base 66 vs = callP σ base [.bor] vs (Gf fns 66) (passV σ [.bor] vs) := callV_T at66 vs
@[go_sem] theorem callr66 (vs : List V) : callR (tabW fns) σ base 66 vs = outS σ (callP σ base [.bor] vs (Gf fns 66) (passV σ [.bor] vs)) := callR_T at66 vs
theorem at67 : fns 67 = some (some [.io, .bor], ir67) := rfl
theorem call67 (vs : List V) : callV (tabW fns) σ base 67 vs = callP σ base [.io, .bor] vs (Gf fns 67) (passV σ [.io, .bor] vs) := callV_T at67 vs
theorem callr67 (vs : List V) : callR (tabW fns) σ base 67 vs = outS σ (callP σ base [.io, .bor] vs (Gf fns 67) (passV σ [.io, .bor] vs)) := callR_T at67 vs
theorem at68 : fns 68 = some (some [.bor, .bor], ir68) := rfl
@[go_sem] theorem call68 (vs : List V) : callV (tabW fns) σ base 68 vs = callP σ base [.bor, .bor] vs (Gf fns 68) (passV σ [.bor, .bor] vs) := callV_T at68 vs
@[go_sem] theorem callr68 (vs : List V) : callR (tabW fns) σ base 68 vs = outS σ (callP σ base [.bor, .bor] vs (Gf fns 68) (passV σ [.bor, .bor] vs)) := callR_T at68 vs
theorem at69 : fns 69 = some (some [.io, .bor], ir69) := rfl
theorem call69 (vs : List V) : callV (tabW fns) σ base 69 vs = callP σ base [.io, .bor] vs (Gf fns 69) (passV σ [.io, .bor] vs) := callV_T at69 vs
theorem callr69 (vs : List V) : callR (tabW fns) σ base 69 vs = outS σ (callP σ base [.io, .bor] vs (Gf fns 69) (passV σ [.io, .bor] vs)) := callR_T at69 vs
theorem at70 : fns 70 = some (some [.io, .bor], ir70) := rfl
theorem call70 (vs : List V) : callV (tabW fns) σ base 70 vs = callP σ base [.io, .bor] vs (Gf fns 70) (passV σ [.io, .bor] vs) := callV_T at70 vs
theorem callr70 (vs : List V) : callR (tabW fns) σ base 70 vs = outS σ (callP σ base [.io, .bor] vs (Gf fns 70) (passV σ [.io, .bor] vs)) := callR_T at70 vs
theorem at71 : fns 71 = some (some [.io, .bor], ir71) := rfl
theorem call71 (vs : List V) : callV (tabW fns) σ base 71 vs = callP σ base [.io, .bor] vs (Gf fns 71) (passV σ [.io, .bor] vs) := callV_T at71 vs
theorem callr71 (vs : List V) : callR (tabW fns) σ base 71 vs = outS σ (callP σ base [.io, .bor] vs (Gf fns 71) (passV σ [.io, .bor] vs)) := callR_T at71 vs
theorem at72 : fns 72 = some (some [.io, .bor], ir72) := rfl
theorem call72 (vs : List V) : callV (tabW fns) σ base 72 vs = callP σ base [.io, .bor] vs (Gf fns 72) (passV σ [.io, .bor] vs) := callV_T at72 vs
theorem callr72 (vs : List V) : callR (tabW fns) σ base 72 vs = outS σ (callP σ base [.io, .bor] vs (Gf fns 72) (passV σ [.io, .bor] vs)) := callR_T at72 vs
theorem at73 : fns 73 = some (some [.io, .bor], ir73) := rfl
theorem call73 (vs : List V) : callV (tabW fns) σ base 73 vs = callP σ base [.io, .bor] vs (Gf fns 73) (passV σ [.io, .bor] vs) := callV_T at73 vs
theorem callr73 (vs : List V) : callR (tabW fns) σ base 73 vs = outS σ (callP σ base [.io, .bor] vs (Gf fns 73) (passV σ [.io, .bor] vs)) := callR_T at73 vs
theorem at74 : fns 74 = some (some [.io, .bor], ir74) := rfl
theorem call74 (vs : List V) : callV (tabW fns) σ base 74 vs = callP σ base [.io, .bor] vs (Gf fns 74) (passV σ [.io, .bor] vs) := callV_T at74 vs
theorem callr74 (vs : List V) : callR (tabW fns) σ base 74 vs = outS σ (callP σ base [.io, .bor] vs (Gf fns 74) (passV σ [.io, .bor] vs)) := callR_T at74 vs
theorem at75 : fns 75 = some (some [.io, .bor], ir75) := rfl
theorem call75 (vs : List V) : callV (tabW fns) σ base 75 vs = callP σ base [.io, .bor] vs (Gf fns 75) (passV σ [.io, .bor] vs) := callV_T at75 vs
theorem callr75 (vs : List V) : callR (tabW fns) σ base 75 vs = outS σ (callP σ base [.io, .bor] vs (Gf fns 75) (passV σ [.io, .bor] vs)) := callR_T at75 vs
theorem at76 : fns 76 = some (some [.bor], ir76) := rfl
@[go_sem] theorem call76 (vs : List V) : callV (tabW fns) σ base 76 vs = callP σ base [.bor] vs (Gf fns 76) (passV σ [.bor] vs) := callV_T at76 vs
@[go_sem] theorem callr76 (vs : List V) : callR (tabW fns) σ base 76 vs = outS σ (callP σ base [.bor] vs (Gf fns 76) (passV σ [.bor] vs)) := callR_T at76 vs
theorem at77 : fns 77 = some (some [.io, .bor], ir77) := rfl
theorem call77 (vs : List V) : callV (tabW fns) σ base 77 vs = callP σ base [.io, .bor] vs (Gf fns 77) (passV σ [.io, .bor] vs) := callV_T at77 vs
theorem callr77 (vs : List V) : callR (tabW fns) σ base 77 vs = outS σ (callP σ base [.io, .bor] vs (Gf fns 77) (passV σ [.io, .bor] vs)) := callR_T at77 vs
theorem at78 : fns 78 = some (some [.io, .bor], ir78) := rfl
theorem call78 (vs : List V) : callV (tabW fns) σ base 78 vs = callP σ base [.io, .bor] vs (Gf fns 78) (passV σ [.io, .bor] vs) := callV_T at78 vs
theorem callr78 (vs : List V) : callR (tabW fns) σ base 78 vs = outS σ (callP σ base [.io, .bor] vs (Gf fns 78) (passV σ [.io, .bor] vs)) := callR_T at78 vs
end Go.Vm.Ytahbkkleholmaaa
